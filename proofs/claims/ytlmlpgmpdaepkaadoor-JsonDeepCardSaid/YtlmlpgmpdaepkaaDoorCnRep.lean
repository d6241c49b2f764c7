/- Slices that read as lists of elements; look-ups behind a heap; slices that grow. -/
import Derived.Test.YtlmlpgmpdaepkaaDoorCnSet
import Derived.Test.YtlmlpgmpdaepkaaDoorCnPlain
set_option linter.unusedSimpArgs false
set_option linter.unusedVariables false
set_option linter.unusedSectionVars false
namespace Go.Cn

theorem at_new {H l : Heap} {k : Nat} : (H ++ l)[H.length + k]? = l[k]? := by
  rw [List.getElem?_append_right (by omega)]; congr 1; omega
theorem at_new0 {H l : Heap} : (H ++ l)[H.length]? = l[0]? := by
  rw [List.getElem?_append_right (by omega)]; congr 1; omega
theorem set_new {H l : Heap} {k : Nat} {x : Blk} : (H ++ l).set (H.length + k) x = H ++ l.set k x := by
  rw [List.set_append_right _ _ (by omega)]; congr 2; omega
theorem set_new0 {H l : Heap} {x : Blk} : (H ++ l).set H.length x = H ++ l.set 0 x := by
  rw [List.set_append_right _ _ (by omega)]; congr 2; omega

/-- the look-up of cells, by the block -/
def ldB : Option Blk → Nat → Nat → Option (List CV)
  | some blk, off, n => if (blk.st = .live ∨ blk.st = .ro) ∧ off + n ≤ blk.cells.length then some ((blk.cells.drop off).take n) else none
  | none, _, _ => none
theorem ld_eq {H : Heap} {b off n : Nat} : H.ld b off n = ldB H[b]? off n := by
  unfold Heap.ld ldB; cases H[b]? <;> rfl
def stcB (H : Heap) (b : Nat) : Option Blk → Nat → List CV → Option Heap
  | some blk, off, cs => if blk.st = .live ∧ off + cs.length ≤ blk.cells.length then some (H.set b { blk with cells := splice blk.cells off cs }) else none
  | none, _, _ => none
theorem stc_eq {H : Heap} {b off : Nat} {cs : List CV} : H.stc b off cs = stcB H b H[b]? off cs := by
  unfold Heap.stc stcB; cases H[b]? <;> rfl

theorem ld_sub {H : Heap} {b o n j m : Nat} {cs : List CV} (h : H.ld b o n = some cs) (hj : j + m ≤ n) : H.ld b (o + j) m = some ((cs.drop j).take m) := by
  unfold Heap.ld at h ⊢
  cases hb : H[b]? with
  | none => rw [hb] at h; simp at h
  | some blk =>
    rw [hb] at h
    simp only at h ⊢
    split at h
    · rename_i hc
      simp only [Option.some.injEq] at h
      subst h
      rw [if_pos ⟨hc.1, by omega⟩, List.drop_take, List.drop_drop, List.take_take, Nat.min_eq_left (by omega)]
    · simp at h

theorem ld_same {H H' : Heap} {b o n : Nat} {cs : List CV} (h : H.ld b o n = some cs) (hb : H'[b]? = H[b]?) : H'.ld b o n = some cs := by
  unfold Heap.ld at h ⊢; rw [hb]; exact h

theorem ld_lt {H : Heap} {b o n : Nat} {cs : List CV} (h : H.ld b o n = some cs) : b < H.length := by
  unfold Heap.ld at h
  cases hb : H[b]? with
  | none => rw [hb] at h; simp at h
  | some blk => exact lt_of_get hb

theorem ld_app {H G : Heap} {b o n : Nat} {cs : List CV} (h : H.ld b o n = some cs) : (H ++ G).ld b o n = some cs := ld_same h (List.getElem?_append_left (ld_lt h))

theorem ld_len {H : Heap} {b o n : Nat} {cs : List CV} (h : H.ld b o n = some cs) : cs.length = n := by
  unfold Heap.ld at h
  cases hb : H[b]? with
  | none => rw [hb] at h; simp at h
  | some blk =>
    rw [hb] at h
    simp only at h
    split at h
    · rename_i hc
      simp only [Option.some.injEq] at h
      subst h
      simp; omega
    · simp at h

/-- a slice of these elements, each of k cells; its block is none of S -/
def Sl (S : Nat → Prop) (H : Heap) (k : Nat) (cv : CV) (xs : List (List CV)) : Prop :=
  (cv = .nils ∧ xs = []) ∨ ∃ b off cap ex blk, cv = .slc b off xs.length cap k ex ∧ H[b]? = some blk ∧ ¬ S b ∧ (blk.st = .live ∨ blk.st = .ro) ∧
    (blk.cells.drop off).take (xs.length * k) = xs.flatten ∧ off + xs.length * k ≤ blk.cells.length ∧ ∀ x ∈ xs, x.length = k

section
variable {S T : Nat → Prop} {H H' : Heap} {k : Nat} {cv : CV} {xs : List (List CV)}

theorem Sl.nil : Sl S H k .nils [] := .inl ⟨rfl, rfl⟩

theorem Sl.mono (h : Sl S H k cv xs) (hf : ∀ c, c < H.length → ¬ S c → H'[c]? = H[c]?) : Sl S H' k cv xs := by
  rcases h with h | ⟨b, off, cap, ex, blk, h1, h2, hs, h3⟩
  · exact .inl h
  · exact .inr ⟨b, off, cap, ex, blk, h1, by rw [hf b (lt_of_get h2) hs]; exact h2, hs, h3⟩

theorem Sl.weak (h : Sl S H k cv xs) (hf : ∀ c, c < H.length → T c → S c) : Sl T H k cv xs := by
  rcases h with h | ⟨b, off, cap, ex, blk, h1, h2, hs, h3⟩
  · exact .inl h
  · exact .inr ⟨b, off, cap, ex, blk, h1, h2, fun ht => hs (hf b (lt_of_get h2) ht), h3⟩

theorem Sl.move (h : Sl S H k cv xs) (hf : ∀ c, c < H.length → ¬ S c → H'[c]? = H[c]?) (ht : ∀ c, c < H.length → T c → S c) : Sl T H' k cv xs := by
  rcases h with h | ⟨b, off, cap, ex, blk, h1, h2, hs, h3⟩
  · exact .inl h
  · exact .inr ⟨b, off, cap, ex, blk, h1, by rw [hf b (lt_of_get h2) hs]; exact h2, fun hT => hs (ht b (lt_of_get h2) hT), h3⟩

theorem Sl.app {G : Heap} (h : Sl S H k cv xs) : Sl S (H ++ G) k cv xs := h.mono fun _ hc _ => List.getElem?_append_left hc

theorem Sl.len {h : Heap} (hS : Sl S H k cv xs) : lenOf h cv = some (.int .i64 xs.length, h) := by
  rcases hS with ⟨rfl, rfl⟩ | ⟨b, off, cap, ex, blk, rfl, _⟩
  · rfl
  · rfl

theorem flat_len (h : ∀ x ∈ xs, x.length = k) : xs.flatten.length = xs.length * k := by
  induction xs with
  | nil => simp
  | cons x xs ih => simp [List.flatten_cons, h x (by simp), ih (fun y hy => h y (by simp [hy])), Nat.add_mul, Nat.add_comm]

theorem flat_at {i : Nat} {x : List CV} (h : ∀ x ∈ xs, x.length = k) (hi : xs[i]? = some x) : (xs.flatten.drop (i * k)).take k = x := by
  induction xs generalizing i with
  | nil => simp at hi
  | cons y xs ih =>
    have hy : y.length = k := h y (by simp)
    cases i with
    | zero =>
      simp at hi; subst hi
      simp [List.flatten_cons, hy]
    | succ i =>
      simp at hi
      have := ih (fun z hz => h z (by simp [hz])) hi
      have e1 : (i + 1) * k = y.length + i * k := by rw [hy, Nat.add_mul]; omega
      rw [List.flatten_cons, e1, List.drop_append, List.drop_eq_nil_of_le (by omega)]
      simpa using this

/-- an element of a slice: where it stands, and its cells -/
theorem Sl.at {i : Nat} {x : List CV} (hS : Sl S H k cv xs) (hi : xs[i]? = some x) :
    ∃ b o, (∀ h : Heap, ∀ ik, iaddrOf h k cv (.int ik i) = some (.ptr b o, h)) ∧ H.ld b o k = some x ∧ b < H.length ∧ ¬ S b := by
  rcases hS with ⟨rfl, rfl⟩ | ⟨b, off, cap, ex, blk, rfl, h2, hs, h3, h4, h5, h6⟩
  · simp at hi
  · have hlt : i < xs.length := (List.getElem?_eq_some_iff.1 hi).1
    refine ⟨b, off + i * k, fun h ik => ?_, ?_, lt_of_get h2, hs⟩
    · simp [iaddrOf, hlt]
    · have hm : i * k + k ≤ xs.length * k := by
        have := Nat.mul_le_mul_right k hlt
        rw [Nat.succ_mul] at this; exact this
      rw [ld_of h2 h3 (by omega)]
      have := flat_at h6 hi
      rw [← h4, List.drop_take, List.drop_drop, List.take_take] at this
      rw [Nat.min_eq_left (by omega)] at this
      rw [this]

/-- the whole slice, read at once -/
theorem Sl.src (hS : Sl S H k cv xs) (hf : H' = H ∨ ∀ c, c < H.length → ¬ S c → H'[c]? = H[c]?) : srcCells H' k false cv = some (xs.flatten, xs.length) := by
  have hS : Sl S H' k cv xs := by
    rcases hf with rfl | hf
    · exact hS
    · exact hS.mono hf
  rcases hS with ⟨rfl, rfl⟩ | ⟨b, off, cap, ex, blk, rfl, h2, hs, h3, h4, h5, h6⟩
  · rfl
  · simp [srcCells, ld_of h2 h3 h5, h4]

/-- behind the first one -/
theorem Sl.elems (hS : Sl S H k cv xs) : ∀ x ∈ xs, x.length = k := by
  rcases hS with ⟨rfl, rfl⟩ | ⟨b, off, cap, ex, blk, rfl, h2, hs, h3, h4, h5, h6⟩
  · simp
  · exact h6

/-- a slice that its function made, and makes longer: its block, if there is one -/
def Ow (H : Heap) (t : TypeId) (k : Nat) (cv : CV) (xs : List (List CV)) (g : Option Nat) : Prop :=
  (cv = .nils ∧ xs = [] ∧ g = none) ∨ ∃ b, g = some b ∧ cv = .slc b 0 xs.length xs.length k false ∧ H[b]? = some { cells := xs.flatten, st := .live, el := some t } ∧ ∀ x ∈ xs, x.length = k

variable {t : TypeId} {g : Option Nat}

theorem Ow.nil : Ow H t k .nils [] none := .inl ⟨rfl, rfl, rfl⟩

theorem Ow.mono (h : Ow H t k cv xs g) (hf : ∀ c, g = some c → H'[c]? = H[c]?) : Ow H' t k cv xs g := by
  rcases h with h | ⟨b, h1, h2, h3, h4⟩
  · exact .inl h
  · exact .inr ⟨b, h1, h2, by rw [hf b h1]; exact h3, h4⟩

theorem Ow.app {G : Heap} (h : Ow H t k cv xs g) : Ow (H ++ G) t k cv xs g := by
  rcases h with h | ⟨b, h1, h2, h3, h4⟩
  · exact .inl h
  · exact .inr ⟨b, h1, h2, get_push h3, h4⟩

theorem Ow.lt (h : Ow H t k cv xs g) {c : Nat} (hc : g = some c) : c < H.length := by
  rcases h with ⟨_, _, h⟩ | ⟨b, h1, _, h3, _⟩
  · rw [h] at hc; simp at hc
  · rw [h1] at hc; simp at hc; subst hc; exact lt_of_get h3

theorem Ow.sl (h : Ow H t k cv xs g) (hS : ∀ c, g = some c → ¬ S c) : Sl S H k cv xs := by
  rcases h with ⟨h1, h2, _⟩ | ⟨b, h1, h2, h3, h4⟩
  · exact .inl ⟨h1, h2⟩
  · exact .inr ⟨b, 0, _, _, _, h2, h3, hS b h1, .inl rfl, by simp only [List.drop_zero]; exact List.take_of_length_le (Nat.le_of_eq (flat_len h4)), by simp only [Nat.zero_add]; exact Nat.le_of_eq (flat_len h4).symm, h4⟩

theorem Ow.len {h : Heap} (hO : Ow H t k cv xs g) : lenOf h cv = some (.int .i64 xs.length, h) := (hO.sl (S := fun _ => False) (fun _ _ => id)).len

/-- elements more, out of a slice that is known -/
theorem Ow.more {bytes : Nat} {src : CV} {ys : List (List CV)} (hO : Ow H t k cv xs g) (hsrc : srcCells H k false src = some (ys.flatten, ys.length)) (hy : ∀ y ∈ ys, y.length = k) (h0 : ys ≠ []) (hcap : (xs.length + ys.length) * bytes ≤ capB ∧ xs.length + ys.length ≤ capB) :
    ∃ H', append H t k bytes false cv src = some (.slc H.length 0 (xs.length + ys.length) (xs.length + ys.length) k false, H') ∧ Ow H' t k (.slc H.length 0 (xs.length + ys.length) (xs.length + ys.length) k false) (xs ++ ys) (some H.length) ∧ H'.length = H.length + 1 ∧ Fr (fun c => g = some c) H H' := by
  have hyl : ys.length ≠ 0 := by simpa using h0
  rcases hO with ⟨rfl, rfl, rfl⟩ | ⟨b, rfl, rfl, hb, hx⟩
  · simp only [List.length_nil, Nat.zero_add]
    refine ⟨H ++ [{ cells := ys.flatten, st := .live, el := some t }], ?_, .inr ⟨_, rfl, by simp, by simp, by simpa using hy⟩, by simp, Fr.push _⟩
    simp only [List.length_nil, Nat.zero_add] at hcap
    simp [append, hsrc, hcap, h0]
  · have hlt := lt_of_get hb
    have hle : ¬ xs.length + ys.length ≤ xs.length := by omega
    have hld : H.ld b 0 (xs.length * k) = some xs.flatten := by
      rw [ld_of hb (.inl rfl) (by simp only [Nat.zero_add]; exact Nat.le_of_eq (flat_len hx).symm)]
      simp only [List.drop_zero]
      rw [List.take_of_length_le (Nat.le_of_eq (flat_len hx))]
    refine ⟨H.set b { cells := xs.flatten, st := .dead, el := some t } ++ [{ cells := xs.flatten ++ ys.flatten, st := .live, el := some t }], ?_, .inr ⟨_, rfl, by simp, ?_, ?_⟩, by simp, ?_⟩
    · simp [append, hsrc, hle, hcap, hld, kill_of hb, elOf, hb, h0]
    · rw [List.getElem?_append_right (by simp)]; simp
    · intro x hm
      rcases List.mem_append.1 hm with h | h
      · exact hx x h
      · exact hy x h
    · exact ⟨by simp, fun c hc hn => by rw [List.getElem?_append_left (by simpa using hc), List.getElem?_set_ne (fun e => hn (by rw [e]))]⟩

/-- one element more, out of a literal -/
theorem Ow.one {bytes s : Nat} {y : List CV} {ex : Bool} {cap : Nat} (hO : Ow H t k cv xs g) (hs : H.ld s 0 k = some y) (hcap : (xs.length + 1) * bytes ≤ capB ∧ xs.length + 1 ≤ capB) :
    ∃ H', append H t k bytes false cv (.slc s 0 1 cap k ex) = some (.slc H.length 0 (xs.length + 1) (xs.length + 1) k false, H') ∧ Ow H' t k (.slc H.length 0 (xs.length + 1) (xs.length + 1) k false) (xs ++ [y]) (some H.length) ∧ H'.length = H.length + 1 ∧ Fr (fun c => g = some c) H H' :=
  hO.more (ys := [y]) (by simp [srcCells, hs]) (by intro z hz; simp at hz; subst hz; exact ld_len hs) (by simp) hcap

end
end Go.Cn
