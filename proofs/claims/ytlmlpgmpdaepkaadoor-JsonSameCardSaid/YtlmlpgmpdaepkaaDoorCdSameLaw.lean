/- What Same says of trees, in plain Lean. -/
import Derived.Test.YtlmlpgmpdaepkaaDoorCdTree
set_option linter.unusedSimpArgs false
set_option linter.unusedVariables false
set_option linter.unusedSectionVars false
namespace Go.Cn.D

/-- well made, and of at most so many in each other -/
def GJ : Nat → J → Prop
  | 0, _ => False
  | n + 1, j => j.list.length ≤ 1000000 ∧ j.keys.length ≤ 1000000 ∧ (j.kind = 7 → j.keys.length = j.list.length) ∧ (j.kind ≠ 7 → j.keys = []) ∧ j.keys.Nodup ∧ ∀ x ∈ j.list, GJ n x

theorem GJ.wf : ∀ {n : Nat} {j : J}, GJ n j → WfJ n j
  | 0, _, h => h.elim
  | n + 1, j, ⟨h1, h2, h3, h4, h5, h6⟩ => ⟨h1, h2, h3, h4, h5, fun x hx => (h6 x hx).wf⟩

theorem subset_back {α : Type} [DecidableEq α] : ∀ {l m : List α}, l.Nodup → (∀ x ∈ l, x ∈ m) → m.length ≤ l.length → ∀ x ∈ m, x ∈ l
  | [], m, _, _, hl, x, hx => by
    have : m = [] := List.eq_nil_of_length_eq_zero (by simpa using hl)
    rw [this] at hx; exact absurd hx (by simp)
  | y :: l, m, hn, hs, hl, x, hx => by
    have hy := hs y (by simp)
    obtain ⟨hy1, hn'⟩ := List.nodup_cons.1 hn
    have hlen : (m.erase y).length = m.length - 1 := List.length_erase_of_mem hy
    have ih := subset_back (l := l) (m := m.erase y) hn' (fun z hz => (List.mem_erase_of_ne (fun e => hy1 (by rw [← e]; exact hz))).2 (hs z (by simp [hz]))) (by simp at hl; omega)
    by_cases hxy : x = y
    · simp [hxy]
    · exact List.mem_cons_of_mem _ (ih x ((List.mem_erase_of_ne hxy).2 hx))

theorem find_some {ks : List ByteArray} {k : ByteArray} {q : Nat} (h : ks.findIdx? (fun x => decide (x = k)) = some q) : ks[q]? = some k ∧ q < ks.length := by
  rw [List.findIdx?_eq_some_iff_getElem] at h
  obtain ⟨hq, h1, _⟩ := h
  simp at h1
  exact ⟨by rw [List.getElem?_eq_getElem hq, h1], hq⟩

theorem find_of {ks : List ByteArray} {k : ByteArray} {q : Nat} (hn : ks.Nodup) (h : ks[q]? = some k) : ks.findIdx? (fun x => decide (x = k)) = some q := by
  obtain ⟨hq, he⟩ := List.getElem?_eq_some_iff.1 h
  rw [List.findIdx?_eq_some_iff_getElem]
  refine ⟨hq, by simp [he], fun j hj => ?_⟩
  have hne : ks[j]'(by omega) ≠ ks[q] := fun e => by
    have := (List.getElem_inj hn).1 e
    omega
  simp [← he, hne]

/-- what sameN asks, said plainly -/
theorem sameN_iff {n : Nat} {a b : J} : sameN (n + 1) a b = true ↔ a.kind = b.kind ∧ a.num = b.num ∧ a.text = b.text ∧ a.list.length = b.list.length ∧ a.keys.length = b.keys.length ∧ ∀ i, i < a.list.length → sameAt (sameN n) a b i = true := by
  simp only [sameN, Bool.and_eq_true, decide_eq_true_eq, List.all_eq_true, List.mem_range]

theorem sameAt_iff {f : J → J → Bool} {a b : J} {i : Nat} : sameAt f a b i = true ↔ ∃ x q y, a.list[i]? = some x ∧ pickJ a b i = some q ∧ b.list[q]? = some y ∧ f x y = true := by
  unfold sameAt
  constructor
  · intro h
    split at h
    · rename_i x y hx hy
      simp only [Option.bind_eq_some_iff] at hy
      obtain ⟨q, hq, hy⟩ := hy
      exact ⟨x, q, y, hx, hq, hy, h⟩
    · simp at h
  · rintro ⟨x, q, y, hx, hq, hy, h⟩
    simp only [hx, hq, Option.bind_some, hy]
    exact h

theorem pick_nil {a b : J} {i : Nat} (h : a.keys = []) : pickJ a b i = some i := by simp [pickJ, h]
theorem pick_key {a b : J} {i : Nat} {k : ByteArray} (h : a.keys[i]? = some k) : pickJ a b i = b.keys.findIdx? (fun x => decide (x = k)) := by simp [pickJ, h]

theorem same_refl : ∀ {n : Nat} {a : J}, GJ n a → sameN n a a = true
  | 0, _, h => h.elim
  | n + 1, a, ⟨h1, h2, h3, h4, h5, h6⟩ => by
    rw [sameN_iff]
    refine ⟨rfl, rfl, rfl, rfl, rfl, fun i hi => ?_⟩
    rw [sameAt_iff]
    have hx := List.getElem?_eq_getElem hi
    refine ⟨_, i, _, hx, ?_, hx, same_refl (h6 _ (List.getElem_mem hi))⟩
    by_cases h7 : a.kind = 7
    · have hk : i < a.keys.length := by rw [h3 h7]; exact hi
      rw [pick_key (List.getElem?_eq_getElem hk)]
      exact find_of h5 (List.getElem?_eq_getElem hk)
    · exact pick_nil (h4 h7)

theorem same_symm1 : ∀ {n : Nat} {a b : J}, GJ n a → GJ n b → sameN n a b = true → sameN n b a = true
  | 0, _, _, h, _, _ => h.elim
  | n + 1, a, b, ⟨a1, a2, a3, a4, a5, a6⟩, ⟨b1, b2, b3, b4, b5, b6⟩, h => by
    rw [sameN_iff] at h ⊢
    obtain ⟨h1, h2, h3, h4, h5, h6⟩ := h
    refine ⟨h1.symm, h2.symm, h3.symm, h4.symm, h5.symm, fun j hj => ?_⟩
    rw [sameAt_iff]
    by_cases h7 : a.kind = 7
    · have hak := a3 h7
      have hbk := b3 (h1 ▸ h7)
      have hsub : ∀ x ∈ a.keys, x ∈ b.keys := by
        intro x hx
        obtain ⟨i, hi, rfl⟩ := List.mem_iff_getElem.1 hx
        obtain ⟨x', q, y, _, hq, _, _⟩ := sameAt_iff.1 (h6 i (by omega))
        rw [pick_key (List.getElem?_eq_getElem hi)] at hq
        exact List.mem_of_getElem? (find_some hq).1
      have hback := subset_back a5 hsub (by omega)
      have hjb : j < b.keys.length := by omega
      obtain ⟨i, hi, he⟩ := List.mem_iff_getElem.1 (hback _ (List.getElem_mem hjb))
      obtain ⟨x, q, y, hx, hq, hy, hxy⟩ := sameAt_iff.1 (h6 i (by omega))
      rw [pick_key (List.getElem?_eq_getElem hi), he, find_of b5 (List.getElem?_eq_getElem hjb)] at hq
      simp at hq
      subst hq
      refine ⟨y, i, x, hy, ?_, hx, same_symm1 (a6 x (List.mem_of_getElem? hx)) (b6 y (List.mem_of_getElem? hy)) hxy⟩
      rw [pick_key (List.getElem?_eq_getElem hjb)]
      exact find_of a5 (by rw [List.getElem?_eq_getElem hi, he])
    · have hak := a4 h7
      have hbk : b.keys = [] := b4 (fun e => h7 (h1.trans e))
      obtain ⟨x, q, y, hx, hq, hy, hxy⟩ := sameAt_iff.1 (h6 j (by omega))
      rw [pick_nil hak] at hq
      simp at hq
      subst hq
      exact ⟨y, j, x, hy, pick_nil hbk, hx, same_symm1 (a6 x (List.mem_of_getElem? hx)) (b6 y (List.mem_of_getElem? hy)) hxy⟩

theorem same_symm {n : Nat} {a b : J} (ha : GJ n a) (hb : GJ n b) : sameN n a b = sameN n b a := by
  cases h : sameN n a b with
  | true => exact (same_symm1 ha hb h).symm
  | false =>
    cases h2 : sameN n b a with
    | false => rfl
    | true => rw [same_symm1 hb ha h2] at h; exact absurd h (by simp)

/-- a map with its entries the other way round -/
def revJ (a : J) : J := .mk a.kind a.num a.text a.list.reverse a.keys.reverse a.pos

theorem revJ_keys {a : J} : (revJ a).keys = a.keys.reverse := rfl
theorem revJ_list {a : J} : (revJ a).list = a.list.reverse := rfl
theorem revJ_kind {a : J} : (revJ a).kind = a.kind := rfl
theorem nodup_rev {α : Type} {l : List α} (h : l.Nodup) : l.reverse.Nodup := List.pairwise_reverse.2 (h.imp fun h => h.symm)

theorem GJ.rev {n : Nat} {a : J} (h : GJ n a) : GJ n (revJ a) := by
  cases n with
  | zero => exact h.elim
  | succ n =>
    obtain ⟨h1, h2, h3, h4, h5, h6⟩ := h
    refine ⟨by rw [revJ_list, List.length_reverse]; exact h1, by rw [revJ_keys, List.length_reverse]; exact h2, fun h => ?_, fun h => ?_, by rw [revJ_keys]; exact nodup_rev h5, fun x hx => ?_⟩
    · rw [revJ_keys, revJ_list, List.length_reverse, List.length_reverse]; exact h3 h
    · rw [revJ_keys, h4 h]; rfl
    · rw [revJ_list, List.mem_reverse] at hx; exact h6 x hx

theorem same_rev {n : Nat} {a : J} (h : GJ n a) (h7 : a.kind = 7) : sameN n a (revJ a) = true := by
  cases n with
  | zero => exact h.elim
  | succ n =>
    have hr := h.rev
    obtain ⟨h1, h2, h3, h4, h5, h6⟩ := h
    rw [sameN_iff]
    refine ⟨rfl, rfl, rfl, by rw [revJ_list, List.length_reverse], by rw [revJ_keys, List.length_reverse], fun i hi => ?_⟩
    rw [sameAt_iff]
    have hk : i < a.keys.length := by rw [h3 h7]; exact hi
    have hx := List.getElem?_eq_getElem hi
    refine ⟨_, a.keys.length - 1 - i, a.list[i], hx, ?_, ?_, same_refl (h6 _ (List.getElem_mem hi))⟩
    · rw [pick_key (List.getElem?_eq_getElem hk), revJ_keys]
      refine find_of (nodup_rev h5) ?_
      rw [List.getElem?_reverse (by omega)]
      rw [show a.keys.length - 1 - (a.keys.length - 1 - i) = i by omega, List.getElem?_eq_getElem hk]
    · rw [revJ_list]
      rw [List.getElem?_reverse (by have := h3 h7; omega), show a.list.length - 1 - (a.keys.length - 1 - i) = i by have := h3 h7; omega, hx]

/-! ### trees are well made -/

theorem kids_len {f : List Int → J × List Int} {key : Nat → ByteArray} : ∀ (m i : Nat) (l : List Int), (kidsF f key m i l).1.length = m ∧ (kidsF f key m i l).2.1.length = m
  | 0, _, _ => ⟨rfl, rfl⟩
  | m + 1, i, l => by
    obtain ⟨h1, h2⟩ := kids_len (f := f) (key := key) m (i + 1) (f l).2
    simp [kidsF, h1, h2]

theorem kids_all {f : List Int → J × List Int} {key : Nat → ByteArray} {p : J → Prop} (hf : ∀ l, p (f l).1) : ∀ (m i : Nat) (l : List Int), ∀ x ∈ (kidsF f key m i l).1, p x
  | 0, _, _, x, hx => by simp [kidsF] at hx
  | m + 1, i, l, x, hx => by
    simp only [kidsF, List.mem_cons] at hx
    rcases hx with rfl | hx
    · exact hf l
    · exact kids_all hf m (i + 1) (f l).2 x hx

theorem kids_keys {f : List Int → J × List Int} {key : Nat → ByteArray} : ∀ (m i : Nat) (l : List Int), (kidsF f key m i l).2.1 = (List.range' i m).map key
  | 0, _, _ => rfl
  | m + 1, i, l => by
    have h := kids_keys (f := f) (key := key) m (i + 1) (f l).2
    simp only [kidsF, h, List.range'_succ, List.map_cons]

theorem keyAt_inj (z : Int) : ((List.range' 0 3).map (keyAt z)).Nodup := by
  have e : (List.range' 0 3).map (keyAt z) = [keyAt z 0, keyAt z 1, keyAt z 2] := rfl
  rw [e]
  generalize hq : (texts[(keyZ z).toNat]?).getD (bs []) = t
  have k0 : keyAt z 0 = bs [] ++ t := by unfold keyAt; rw [hq]; rfl
  have h0 : (keyAt z 0).data.toList = t.data.toList := by rw [k0]; simp [ByteArray.data_append, bs]
  have k1 : keyAt z 1 = bs [97] ++ t := by unfold keyAt; rw [hq]; rfl
  have h1 : (keyAt z 1).data.toList = 97 :: t.data.toList := by rw [k1]; simp [ByteArray.data_append, bs]
  have k2 : keyAt z 2 = bs [98] ++ t := by unfold keyAt; rw [hq]; rfl
  have h2 : (keyAt z 2).data.toList = 98 :: t.data.toList := by rw [k2]; simp [ByteArray.data_append, bs]
  have n01 : keyAt z 0 ≠ keyAt z 1 := fun h => by have := congrArg (fun x => x.data.toList.length) h; simp only [h0, h1] at this; simp at this
  have n02 : keyAt z 0 ≠ keyAt z 2 := fun h => by have := congrArg (fun x => x.data.toList.length) h; simp only [h0, h2] at this; simp at this
  have n12 : keyAt z 1 ≠ keyAt z 2 := fun h => by have := congrArg (fun x => x.data.toList) h; simp only [h1, h2] at this; simp at this
  simp [n01, n02, n12]

theorem keys_nodup (z : Int) {m : Nat} (hm : m ≤ 3) : ((List.range' 0 m).map (keyAt z)).Nodup := by
  have h := keyAt_inj z
  have e : (List.range' 0 3).map (keyAt z) = (List.range' 0 m).map (keyAt z) ++ (List.range' m (3 - m)).map (keyAt z) := by
    rw [← List.map_append]
    congr 1
    have := (List.range'_append (s := 0) (m := m) (n := 3 - m) (step := 1)).symm
    simp at this
    rw [show m + (3 - m) = 3 by omega] at this
    exact this
  rw [e] at h
  exact (List.nodup_append.1 h).1

theorem gj_leaf {n : Nat} {k m p : Int} {t : ByteArray} (hk : k ≠ 7) : GJ (n + 1) (.mk k m t [] [] p) :=
  ⟨by simp [J.list], by simp [J.keys], fun h => absurd h hk, fun _ => rfl, by simp [J.keys], by simp [J.list]⟩

theorem gj_tree : ∀ (n : Nat) (l : List Int), GJ (n + 1) (treeF n l).1 := by
  intro n
  induction n with
  | zero =>
    intro l
    cases l with
    | nil => exact gj_leaf (by decide)
    | cons z l =>
      refine ⟨by simp [treeF, J.list], by simp [treeF, J.keys], fun _ => rfl, fun _ => rfl, by simp [treeF, J.keys], by simp [treeF, J.list]⟩
  | succ n ih =>
    intro l
    cases l with
    | nil => exact gj_leaf (by decide)
    | cons z l =>
      have hkz := kidsZ_le z
      by_cases hk : kindZ z = 6 ∨ kindZ z = 7
      · rw [treeF, if_pos hk]
        obtain ⟨l1, l2⟩ := kids_len (f := treeF n) (key := keyAt z) (kidsZ z).toNat 0 l
        refine ⟨by simp only [J.list]; omega, ?_, fun h => ?_, fun h => ?_, ?_, fun x hx => kids_all (p := GJ (n + 1)) ih _ _ _ x hx⟩
        · simp only [J.keys]; split
          · omega
          · simp
        · simp only [J.kind] at h
          simp only [J.keys, J.list, h, if_true]; omega
        · simp only [J.kind] at h
          simp only [J.keys, h, if_false]
        · simp only [J.keys]
          split
          · rw [kids_keys]; exact keys_nodup z (by omega)
          · simp
      · rw [treeF, if_neg hk]
        exact gj_leaf fun h => hk (.inr h)

theorem texts_other : ∀ t ∈ texts, t ≠ bs [115, 111, 109, 101, 32, 111, 116, 104, 101, 114, 32, 116, 101, 120, 116] := by decide +kernel

def otherJ : J := .mk 5 0 (bs [115, 111, 109, 101, 32, 111, 116, 104, 101, 114, 32, 116, 101, 120, 116]) [] [] 0

theorem tree_text : ∀ (n : Nat) (l : List Int), (treeF n l).1.text ∈ texts := by
  have hb : bs [] ∈ texts := by simp [texts]
  have leaf : ∀ z : Int, (if kindZ z = 5 then (texts[(textZ z).toNat]?).getD (bs []) else bs []) ∈ texts := by
    intro z
    split
    · obtain ⟨q, hq, h9⟩ := textZ_lt z
      obtain ⟨t, ht, _, hg⟩ := texts_at h9
      rw [show (textZ z).toNat = q by omega, hg]
      exact List.mem_of_getElem? ht
    · exact hb
  intro n l
  cases l with
  | nil => cases n <;> exact hb
  | cons z l =>
    cases n with
    | zero => exact leaf z
    | succ n =>
      rw [treeF]
      split
      · exact hb
      · exact leaf z

theorem same_other (n : Nat) (l : List Int) : sameN 7 (treeF n l).1 otherJ = false := by
  cases h : sameN 7 (treeF n l).1 otherJ with
  | false => rfl
  | true =>
    obtain ⟨_, _, h3, _⟩ := sameN_iff.1 h
    exact absurd h3 (texts_other _ (tree_text n l))

theorem gj_other : GJ 7 otherJ := gj_leaf (by decide)

end Go.Cn.D
