/- The document's reader of numbers: the whole. -/
import Derived.Test.YtlmlpgmpdaepkaaDoorCdNum
set_option linter.unusedSimpArgs false
set_option linter.unusedVariables false
set_option linter.unusedSectionVars false
namespace Go.Cn.D
open Go.Proofs
set_option maxRecDepth 100000

theorem number_pos {H : Heap} {x : Nat} {T s : ByteArray} {i j : Nat} (hR : Rd H x T i) (hij : i < j) (hc : T.data.toList[j]? = some 10) (hT : T.size < 2 ^ 61) (hs : T.extract i j = s) (hd : ∀ (k : Nat) c, s.data.toList[k]? = some c → isDig c = true)
    (hz : 1 < s.size → ∃ c0, s.data.toList[0]? = some c0 ∧ c0 ≠ 48) (hv : decVal s.data.toList ≤ 9223372036854775807) :
    ∃ H', den Tryd.prog hookD 43 [.ptr x 0] H = some (.int .i64 (decVal s.data.toList), H') ∧ Rd H' x T j ∧ H'.length = H.length ∧ ∀ b, b ≠ x → H'[b]? = H[b]? := by
  obtain ⟨r, hrx, hx, hr⟩ := hR.at_
  have hjlt : j < T.size := (List.getElem?_eq_some_iff.1 hc).1
  have hsl : s.size = j - i := by rw [← hs]; simp; omega
  have hin : ∀ k c, i ≤ k → k < j → T.data.toList[k]? = some c → inNum c = true := by
    intro k c h1 h2 h3
    have : s.data.toList[k - i]? = some c := by
      rw [← hs]
      simp only [ByteArray.data_extract, Array.toList_extract, List.extract_eq_take_drop]
      rw [List.getElem?_take, if_pos (by omega), List.getElem?_drop, show i + (k - i) = k by omega]
      exact h3
    simp [inNum, hd _ _ this]
  let e0 : Env := ((((((initEnv [.ptr x 0]).put (some 2) (.int .i64 0)).put (some 10) (.ptr x 0)).put (some 11) (.ptr x 0)).put (some 12) (.ptr x 1)).put (some 13) (.int .i64 i)).put (some 3) (.int .i64 i)
  obtain ⟨e', k1, k2, k3, k4⟩ := tail_loop hR hc hT (j - i) i ((e0.put (some 14) (.int .i64 i)).put (some 4) (.int .i64 i)) (by omega) hin (by simp [e0]) (by simp)
  simp only [e0] at k1 k4
  have k4 : e' 3 = .int .i64 i := by rw [k4]; simp
  have hld : H.ld r i (j - i) = some (cellsOfStr s) := by
    rw [ld_of hr (.inl rfl) (by rw [cells_size]; omega)]
    simp only [sub_cells, show i + (j - i) = j by omega, hs]
  have f1 : (i : Int) ≤ j := by omega
  have f2 : (j : Int) ≤ T.size := by omega
  have f3 : i ≤ j := by omega
  have f4 : j ≤ T.size := by omega
  obtain ⟨c0, hc0⟩ : ∃ c0, s.data.toList[0]? = some c0 := ⟨_, List.getElem?_eq_getElem (show 0 < s.data.toList.length by have : s.data.toList.length = s.size := rfl; omega)⟩
  have hd0 := hd 0 c0 hc0
  simp only [isDig, decide_eq_true_eq] at hd0
  have hix := idx_at (h := H) hc0
  simp at hix
  have hne45 : ¬ ((c0.toNat : Int) = 45) := by omega
  have hse : ¬ s = bs [] := by intro h; rw [h] at hsl; have : (bs []).size = 0 := rfl; omega
  have hnum := num_run (H := H) (most := 9223372036854775807) (by omega) hd hz (by omega) (by omega) (by omega) (by omega)
  simp at hnum
  have hw : IntKind.i64.wrap ((decVal s.data.toList : Nat) : Int) = ((decVal s.data.toList : Nat) : Int) := by rw [IntKind.wrap_i64]; omega
  refine ⟨H.set x { cells := [.slc r 0 T.size T.size 1 false, .int .i64 (j : Int), .int .i64 0, .int .i64 0], st := .live }, ?_, ⟨r, hrx, by rw [List.getElem?_set_self (lt_of_get hx)], by rw [List.getElem?_set_ne (Ne.symm hrx)]; exact hr⟩, by simp, fun b hb => List.getElem?_set_ne (Ne.symm hb)⟩
  rw [den_of (hdN (by decide) _ _) k43 (by simp [c43])]
  simp [c43, c43.body, ld_of hx, k1, k2, k3, k4, exec, boundO, bound, f1, f2, f3, f4, srcCells, hld, bstrOf, bytes_cells, hse, hix, hne45, hnum, hw, stc_of hx, splice]


theorem number_neg {H : Heap} {x : Nat} {T s u : ByteArray} {i j : Nat} (hR : Rd H x T i) (hij : i + 1 < j) (hc : T.data.toList[j]? = some 10) (hT : T.size < 2 ^ 61) (hs : T.extract i j = s) (h45 : s.data.toList[0]? = some 45) (hu : s.extract 1 s.size = u)
    (hd : ∀ (k : Nat) c, u.data.toList[k]? = some c → isDig c = true) (hz : 1 < u.size → ∃ c0, u.data.toList[0]? = some c0 ∧ c0 ≠ 48) (hv : decVal u.data.toList ≤ 9223372036854775808) (hv0 : decVal u.data.toList ≠ 0) :
    ∃ H', den Tryd.prog hookD 43 [.ptr x 0] H = some (.int .i64 (-(decVal u.data.toList : Int)), H') ∧ Rd H' x T j ∧ H'.length = H.length ∧ ∀ b, b ≠ x → H'[b]? = H[b]? := by
  obtain ⟨r, hrx, hx, hr⟩ := hR.at_
  have hjlt : j < T.size := (List.getElem?_eq_some_iff.1 hc).1
  have hsl : s.size = j - i := by rw [← hs]; simp; omega
  have hul : u.size = s.size - 1 := by rw [← hu]; simp
  have hin : ∀ k c, i ≤ k → k < j → T.data.toList[k]? = some c → inNum c = true := by
    intro k c h1 h2 h3
    have h4 : s.data.toList[k - i]? = some c := by
      rw [← hs]
      simp only [ByteArray.data_extract, Array.toList_extract, List.extract_eq_take_drop]
      rw [List.getElem?_take, if_pos (by omega), List.getElem?_drop, show i + (k - i) = k by omega]
      exact h3
    by_cases hk : k = i
    · subst hk
      rw [Nat.sub_self, h45] at h4
      simp at h4; subst h4; rfl
    · have : u.data.toList[k - i - 1]? = some c := by
        rw [← hu]
        simp only [ByteArray.data_extract, Array.toList_extract, List.extract_eq_take_drop]
        rw [List.getElem?_take, if_pos (by omega), List.getElem?_drop, show 1 + (k - i - 1) = k - i by omega]
        exact h4
      simp [inNum, hd _ _ this]
  let e0 : Env := ((((((initEnv [.ptr x 0]).put (some 2) (.int .i64 0)).put (some 10) (.ptr x 0)).put (some 11) (.ptr x 0)).put (some 12) (.ptr x 1)).put (some 13) (.int .i64 i)).put (some 3) (.int .i64 i)
  obtain ⟨e', k1, k2, k3, k4⟩ := tail_loop hR hc hT (j - i) i ((e0.put (some 14) (.int .i64 i)).put (some 4) (.int .i64 i)) (by omega) hin (by simp [e0]) (by simp)
  simp only [e0] at k1 k4
  have k4 : e' 3 = .int .i64 i := by rw [k4]; simp
  have hld : H.ld r i (j - i) = some (cellsOfStr s) := by
    rw [ld_of hr (.inl rfl) (by rw [cells_size]; omega)]
    simp only [sub_cells, show i + (j - i) = j by omega, hs]
  have f1 : (i : Int) ≤ j := by omega
  have f2 : (j : Int) ≤ T.size := by omega
  have hix := idx_at (h := H) h45
  simp at hix
  have hse : ¬ s = bs [] := by intro h; rw [h] at hsl; have : (bs []).size = 0 := rfl; omega
  have hnum := num_run (H := H) (most := 9223372036854775808) (by omega) hd hz (by omega) (by omega) (by omega) (by omega)
  simp at hnum
  have g1 : (1 : Int) ≤ s.size := by omega
  have g2 : ¬ ((decVal u.data.toList : Nat) : Int) = 0 := by omega
  have w1 : IntKind.u64.wrap (-((decVal u.data.toList : Nat) : Int)) = 18446744073709551616 - ((decVal u.data.toList : Nat) : Int) := by
    simp [IntKind.wrap, IntKind.bits, IntKind.signed]; omega
  have w2 : IntKind.i64.wrap (18446744073709551616 - ((decVal u.data.toList : Nat) : Int)) = -((decVal u.data.toList : Nat) : Int) := by rw [IntKind.wrap_i64]; omega
  refine ⟨H.set x { cells := [.slc r 0 T.size T.size 1 false, .int .i64 (j : Int), .int .i64 0, .int .i64 0], st := .live }, ?_, ⟨r, hrx, by rw [List.getElem?_set_self (lt_of_get hx)], by rw [List.getElem?_set_ne (Ne.symm hrx)]; exact hr⟩, by simp, fun b hb => List.getElem?_set_ne (Ne.symm hb)⟩
  rw [den_of (hdN (by decide) _ _) k43 (by simp [c43])]
  simp [c43, c43.body, ld_of hx, k1, k2, k3, k4, exec, boundO, bound, f1, f2, srcCells, hld, bstrOf, bytes_cells, hse, hix, hnum, g1, hu, g2, hv0, w1, w2, stc_of hx, splice]

end Go.Cn.D
