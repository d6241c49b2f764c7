/- The document's reader at a number. -/
import Derived.Test.YtlmlpgmpdaepkaaDoorCdPrint
set_option linter.unusedSimpArgs false
set_option linter.unusedVariables false
set_option linter.unusedSectionVars false
namespace Go.Cn.D
open Go.Proofs
set_option maxRecDepth 100000

theorem hdN {f : FuncId} (hf : f ≠ 35 ∧ f ≠ 46 ∧ f ≠ 37 ∧ f ≠ 19) (a : List CV) (h : Heap) : hookD f a h = none := by
  obtain ⟨h1, h2, h3, h4⟩ := hf
  unfold hookD
  split <;> simp [h1, h2, h3, h4]

/-- the reader at x stands at i of T -/
structure Rd (H : Heap) (x : Nat) (T : ByteArray) (i : Int) : Prop where
  at_ : ∃ r, r ≠ x ∧ H[x]? = some { cells := [.slc r 0 T.size T.size 1 false, .int .i64 i, .int .i64 0, .int .i64 0], st := .live } ∧ H[r]? = some { cells := cellsOfStr T, st := .live }

theorem sub_cells {T : ByteArray} {i n : Nat} : ((cellsOfStr T).drop i).take n = cellsOfStr (T.extract i (i + n)) := by
  simp only [cellsOfStr, ByteArray.data_extract, Array.toList_extract]
  rw [List.extract_eq_take_drop]
  simp [List.map_drop, List.map_take]

theorem starts_run {H : Heap} {x : Nat} {T p : ByteArray} {i : Nat} (hR : Rd H x T i) (hi : i ≤ T.size) (hT : T.size + p.size < 2 ^ 62) :
    den Tryd.prog hookD 38 [.ptr x 0, .str p] H = some (.bool (decide (i + p.size ≤ T.size ∧ T.extract i (i + p.size) = p)), H) := by
  obtain ⟨r, hrx, hx, hr⟩ := hR.at_
  rw [den_of (hdN (by decide) _ _) k38 (by simp [c38])]
  have hw : IntKind.i64.wrap ((i : Int) + (p.size : Int)) = ((i + p.size : Nat) : Int) := by
    rw [IntKind.wrap_i64]; omega
  by_cases hle : i + p.size ≤ T.size
  · have hle' : (i : Int) + p.size ≤ T.size := by omega
    have h0 : (0 : Int) ≤ i + p.size := by omega
    have h1 : ((i : Int) + p.size).toNat = i + p.size := by omega
    have h2 : (i : Int) ≤ i + p.size := by omega
    have hld : H.ld r i p.size = some (cellsOfStr (T.extract i (i + p.size))) := by
      rw [ld_of hr (.inl rfl) (by rw [cells_size]; exact hle)]
      simp only [sub_cells]
    simp [c38, c38.body, ld_of hx, exec, boundO, bound, hw, srcCells, hle, hle', h0, h1, h2, hld, bstrOf, bytes_cells]
  · have hle' : ¬ ((i : Int) + p.size ≤ T.size) := by omega
    simp [c38, c38.body, ld_of hx, exec, boundO, bound, hw, srcCells, hle, hle']


theorem ld_byte {H : Heap} {r : Nat} {T : ByteArray} {i : Nat} {c : UInt8} {blk : Blk} (hr : H[r]? = some blk) (hb : blk.cells = cellsOfStr T) (hs : blk.st = .live ∨ blk.st = .ro) (hc : T.data.toList[i]? = some c) : H.ld r i 1 = some [.int .u8 c.toNat] := by
  have hlt : i < T.data.toList.length := (List.getElem?_eq_some_iff.1 hc).1
  have hl : i < (cellsOfStr T).length := by simpa [cellsOfStr] using hlt
  rw [ld_of hr hs (by rw [hb]; omega), hb]
  have : (cellsOfStr T)[i]? = some (.int .u8 c.toNat) := by simp [cellsOfStr, hc]
  rw [List.drop_eq_getElem_cons hl]
  rw [List.getElem?_eq_getElem hl] at this
  simp at this
  simp [this]

def blank (c : UInt8) : Bool := c == 32 || c == 9 || c == 10 || c == 13

/-- at the end -/
theorem skip_end {H : Heap} {x : Nat} {T : ByteArray} {e : Env} (h0 : e 0 = .ptr x 0) (hR : Rd H x T T.size) : ∃ e', dCode Tryd.prog hookD c21.l2 e H = some (.exit 0, e', H) := by
  obtain ⟨r, hrx, hx, hr⟩ := hR.at_
  simp [c21.l2, h0, ld_of hx]

/-- a blank -/
theorem skip_blank {H : Heap} {x : Nat} {T : ByteArray} {e : Env} {i : Nat} {c : UInt8} (h0 : e 0 = .ptr x 0) (hR : Rd H x T i) (hc : T.data.toList[i]? = some c) (hb : blank c = true) (hT : T.size < 2 ^ 62) :
    ∃ e' H', dCode Tryd.prog hookD c21.l2 e H = some (.normal, e', H') ∧ e' 0 = .ptr x 0 ∧ Rd H' x T ((i + 1 : Nat) : Int) ∧ H'.length = H.length ∧ ∀ b, b ≠ x → H'[b]? = H[b]? := by
  obtain ⟨r, hrx, hx, hr⟩ := hR.at_
  have hlt : i < T.size := (List.getElem?_eq_some_iff.1 hc).1
  have hltI : (i : Int) < T.size := by omega
  have hld := ld_byte hr rfl (.inl rfl) hc
  have hw : IntKind.i64.wrap ((i : Int) + 1) = ((i + 1 : Nat) : Int) := by rw [IntKind.wrap_i64]; omega
  have hld' : H.ld r ((i : Int).toNat) 1 = some [.int .u8 c.toNat] := by simpa using hld
  have hfin : Rd (H.set x { cells := [.slc r 0 T.size T.size 1 false, .int .i64 ((i + 1 : Nat) : Int), .int .i64 0, .int .i64 0], st := .live }) x T ((i + 1 : Nat) : Int) :=
    ⟨r, hrx, by rw [List.getElem?_set_self (lt_of_get hx)], by rw [List.getElem?_set_ne (Ne.symm hrx)]; exact hr⟩
  have hc4 : c = 32 ∨ c = 9 ∨ c = 10 ∨ c = 13 := by simpa [blank, or_assoc] using hb
  have key : ∃ e', dCode Tryd.prog hookD c21.l2 e H = some (.normal, e', H.set x { cells := [.slc r 0 T.size T.size 1 false, .int .i64 ((i + 1 : Nat) : Int), .int .i64 0, .int .i64 0], st := .live }) ∧ e' 0 = .ptr x 0 := by
    rcases hc4 with rfl | rfl | rfl | rfl <;> simp [c21.l2, h0, ld_of hx, hltI, hlt, hld, hw, stc_of hx, splice]
  obtain ⟨e', k1, k2⟩ := key
  exact ⟨e', _, k1, k2, hfin, by simp, fun b hb => List.getElem?_set_ne (Ne.symm hb)⟩

/-- neither a blank nor a comment -/
theorem skip_stop {H : Heap} {x : Nat} {T : ByteArray} {e : Env} {i : Nat} {c : UInt8} (h0 : e 0 = .ptr x 0) (hR : Rd H x T i) (hc : T.data.toList[i]? = some c) (hb : blank c = false) (h35 : c ≠ 35) (h47 : c ≠ 47) (hT : T.size < 2 ^ 61) :
    ∃ e', dCode Tryd.prog hookD c21.l2 e H = some (.ret, e', H) := by
  obtain ⟨r, hrx, hx, hr⟩ := hR.at_
  have hlt : i < T.size := (List.getElem?_eq_some_iff.1 hc).1
  have hltI : (i : Int) < T.size := by omega
  have hld := ld_byte hr rfl (.inl rfl) hc
  have hst : ∀ p : ByteArray, p.data.toList[0]? = some 47 → p.size = 2 → den Tryd.prog hookD 38 [.ptr x 0, .str p] H = some (.bool false, H) := by
    intro p hp hs
    rw [starts_run hR (by omega) (by omega)]
    have : ¬ (i + p.size ≤ T.size ∧ T.extract i (i + p.size) = p) := by
      rintro ⟨h1, h2⟩
      have h3 : (T.extract i (i + p.size)).data.toList[0]? = some c := by
        simp only [ByteArray.data_extract, Array.toList_extract, List.extract_eq_take_drop]
        rw [List.getElem?_take, if_pos (by omega), List.getElem?_drop]
        simpa using hc
      rw [h2, hp] at h3
      simp at h3
      exact h47 h3.symm
    simp [this]
  simp only [blank, Bool.or_eq_false_iff, beq_eq_false_iff_ne] at hb
  obtain ⟨⟨⟨b1, b2⟩, b3⟩, b4⟩ := hb
  have ne : ∀ (n : Nat), n < 256 → c ≠ UInt8.ofNat n → (c.toNat : Int) ≠ n := by
    intro n hn hne h
    apply hne
    apply UInt8.toNat_inj.1
    simp
    omega
  have n1 := ne 32 (by decide) b1
  have n2 := ne 9 (by decide) b2
  have n3 := ne 10 (by decide) b3
  have n4 := ne 13 (by decide) b4
  have n5 := ne 35 (by decide) h35
  have s1 := hst (bs [47, 47]) rfl rfl
  have s2 := hst (bs [47, 42]) rfl rfl
  simp at n1 n2 n3 n4 n5
  simp [c21.l2, h0, ld_of hx, hltI, hlt, hld, n1, n2, n3, n4, n5, s1, s2]


/-- where a reader may stand behind skip -/
def stopsAt (T : ByteArray) (j : Nat) : Prop := j = T.size ∨ ∃ c, T.data.toList[j]? = some c ∧ blank c = false ∧ c ≠ 35 ∧ c ≠ 47

theorem skip_loop {x : Nat} {T : ByteArray} {j : Nat} (hj : j ≤ T.size) (hs : stopsAt T j) (hT : T.size < 2 ^ 61) : ∀ (n i : Nat) (e : Env) (H : Heap), i + n = j → (∀ k c, i ≤ k → k < j → T.data.toList[k]? = some c → blank c = true) → e 0 = .ptr x 0 → Rd H x T i →
    ∃ xx e' H', dCode Tryd.prog hookD (.loop c21.l2) e H = some (xx, e', H') ∧ (xx = .exit 0 ∨ xx = .ret) ∧ Rd H' x T j ∧ H'.length = H.length ∧ ∀ b, b ≠ x → H'[b]? = H[b]? := by
  intro n
  induction n with
  | zero =>
    intro i e H hi hb h0 hR
    have hij : i = j := by omega
    subst hij
    rcases hs with rfl | ⟨c, hc, h1, h2, h3⟩
    · obtain ⟨e', k⟩ := skip_end h0 hR
      exact ⟨.exit 0, e', H, by rw [loop_step, k, next_exit], .inl rfl, hR, rfl, fun _ _ => rfl⟩
    · obtain ⟨e', k⟩ := skip_stop h0 hR hc h1 h2 h3 hT
      exact ⟨.ret, e', H, by rw [loop_step, k, next_ret], .inr rfl, hR, rfl, fun _ _ => rfl⟩
  | succ n ih =>
    intro i e H hi hb h0 hR
    have hlt : i < T.data.toList.length := by
      have : T.data.toList.length = T.size := rfl
      omega
    obtain ⟨c, hc⟩ : ∃ c, T.data.toList[i]? = some c := ⟨_, List.getElem?_eq_getElem hlt⟩
    obtain ⟨e', H', k1, k2, k3, k4, k5⟩ := skip_blank h0 hR hc (hb i c (Nat.le_refl _) (by omega) hc) (by omega)
    obtain ⟨xx, e2, H2, l1, l2, l3, l4, l5⟩ := ih (i + 1) e' H' (by omega) (fun k c h1 h2 => hb k c (by omega) h2) k2 k3
    exact ⟨xx, e2, H2, by rw [loop_step, k1, next_normal, l1], l2, l3, by omega, fun b hb' => by rw [l5 b hb', k5 b hb']⟩

theorem skip_run {H : Heap} {x : Nat} {T : ByteArray} {i j : Nat} (hR : Rd H x T i) (hij : i ≤ j) (hj : j ≤ T.size) (hs : stopsAt T j) (hT : T.size < 2 ^ 61) (hb : ∀ k c, i ≤ k → k < j → T.data.toList[k]? = some c → blank c = true) :
    ∃ H', den Tryd.prog hookD 21 [.ptr x 0] H = some (.tup [], H') ∧ Rd H' x T j ∧ H'.length = H.length ∧ ∀ b, b ≠ x → H'[b]? = H[b]? := by
  obtain ⟨xx, e', H', k1, k2, k3, k4, k5⟩ := skip_loop hj hs hT (j - i) i (initEnv [.ptr x 0]) H (by omega) hb (by simp) hR
  refine ⟨H', ?_, k3, k4, k5⟩
  rw [den_of (hdN (by decide) _ _) k21 (by simp [c21])]
  rcases k2 with rfl | rfl <;> simp [c21, c21.body, k1]

end Go.Cn.D
