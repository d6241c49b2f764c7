/- The whole text of a number read. -/
import Derived.Test.YtlmlpgmpdaepkaaDoorCdNum3
set_option linter.unusedSimpArgs false
set_option linter.unusedVariables false
set_option linter.unusedSectionVars false
namespace Go.Cn.D
open Go.Proofs
set_option maxRecDepth 100000

def e2z : Blk := { cells := [.int .i64 0, .int .i64 0], st := .live, ty := some 30 }

theorem parse_num {H : Heap} {r : Nat} {T : ByteArray} {j : Nat} {c : UInt8} {v : Int} (hr : H[r]? = some { cells := cellsOfStr T, st := .live }) (hc : T.data.toList[0]? = some c) (hn : inNum c = true) (hj : j + 1 = T.size) (h10 : T.data.toList[j]? = some 10) (hT : T.size ≤ 1000000)
    (hnum : ∀ x H1, Rd H1 x T (0 : Nat) → ∃ H', den Tryd.prog hookD 43 [.ptr x 0] H1 = some (.int .i64 v, H') ∧ Rd H' x T j ∧ H'.length = H1.length ∧ ∀ b, b ≠ x → H'[b]? = H1[b]?) :
    ∃ H', den Tryd.prog hookD 9 [.slc r 0 T.size T.size 1 false] H = some (.tup [.agg [.int .i64 4, .int .i64 v, .str (bs []), .nils, .nils, .int .i64 0], .agg [.int .i64 0, .int .i64 0]], H') ∧ Fr (fun _ => False) H H' := by
  have hrl := lt_of_get hr
  let H0 : Heap := H ++ [jz, e2z]
  obtain ⟨H1, d20, F1⟩ := long_run (H := H0) (r := r) hT
  let H2 : Heap := H1 ++ [e2z]
  let H3 : Heap := H2 ++ [{ cells := [.slc r 0 T.size T.size 1 false, .int .i64 0, .int .i64 0, .int .i64 0], st := .live }]
  have l0 : H0.length = H.length + 2 := by simp [H0]
  have l1 := F1.1
  have l2 : H2.length = H1.length + 1 := by simp [H2]
  have l3 : H3.length = H2.length + 1 := by simp [H3]
  have r0 : H0[r]? = some { cells := cellsOfStr T, st := .live } := get_push hr
  have r1 : H1[r]? = some { cells := cellsOfStr T, st := .live } := by rw [F1.2 r (by omega) id]; exact r0
  have r3 : H3[r]? = some { cells := cellsOfStr T, st := .live } := get_push (get_push r1)
  have R3 : Rd H3 H2.length T (0 : Nat) := ⟨r, by omega, get_new, r3⟩
  have hb0 : blank c = false ∧ c ≠ 35 ∧ c ≠ 47 := by
    simp only [inNum, isDig, Bool.or_eq_true, decide_eq_true_eq, beq_iff_eq] at hn
    rcases hn with hn | rfl
    · refine ⟨?_, ?_, ?_⟩
      · simp only [blank, Bool.or_eq_false_iff, beq_eq_false_iff_ne]
        refine ⟨⟨⟨?_, ?_⟩, ?_⟩, ?_⟩ <;> (rintro rfl; simp at hn)
      · rintro rfl; simp at hn
      · rintro rfl; simp at hn
    · decide
  obtain ⟨H4, d21, R4, l4, k4⟩ := skip_run (j := 0) R3 (Nat.le_refl _) (by omega) (.inr ⟨c, hc, hb0⟩) (by omega) (fun k c' h1 h2 => by omega)
  obtain ⟨H5, d22, R5, F5⟩ := value_at (x := H2.length) R4 (by omega) hc hn (by omega) (fun H1 => hnum _ H1) 0
  let vB : Blk := { cells := [.int .i64 4, .int .i64 v, .str (bs []), .nils, .nils, .int .i64 0], st := .live, ty := some 28 }
  let H6 : Heap := H5 ++ [vB]
  have l5 := F5.1
  have l6 : H6.length = H5.length + 1 := by simp [H6]
  have R6 : Rd H6 H2.length T j := by
    obtain ⟨r', a1, a2, a3⟩ := R5.at_
    exact ⟨r', a1, get_push a2, get_push a3⟩
  obtain ⟨H7, d21', R7, l7, k7⟩ := skip_run (j := T.size) R6 (by omega) (Nat.le_refl _) (.inl rfl) (by omega) (fun k c' h1 h2 h3 => by
    have : k = j := by omega
    subst this
    rw [h10] at h3; simp at h3; subst h3; rfl)
  have old : ∀ b, b < H0.length → H7[b]? = H0[b]? := fun b hb => by
    rw [k7 b (by omega)]
    simp only [H6]
    rw [List.getElem?_append_left (by omega), F5.2 b (by omega) (by omega), k4 b (by omega)]
    simp only [H3, H2]
    rw [List.getElem?_append_left (by simp; omega), List.getElem?_append_left (by omega), F1.2 b hb id]
  have q2 : H7[H.length]? = some jz := by rw [old _ (by omega)]; simp [H0]
  have q3 : H7[H.length + 1]? = some e2z := by rw [old _ (by omega)]; simp [H0]
  have q7 : H7[H5.length]? = some vB := by rw [k7 _ (by omega)]; exact get_new
  obtain ⟨r3', x1, x2, x3⟩ := R3.at_
  obtain ⟨r4, y1, y2, y3⟩ := R4.at_
  obtain ⟨r5, z1, z2, z3⟩ := R5.at_
  obtain ⟨r7, t1, t2, t3⟩ := R7.at_
  refine ⟨(H7.set H.length { cells := [.int .i64 4, .int .i64 v, .str (bs []), .nils, .nils, .int .i64 0], st := .live, ty := some 28 }).set (H.length + 1) { cells := [.int .i64 0, .int .i64 0], st := .live, ty := some 30 }, ?_, ⟨by simp; omega, fun b hb _ => ?_⟩⟩
  · rw [den_of (hdN (by decide) _ _) k9 (by simp [c9])]
    have g0 : H ++ [({ cells := [.int .i64 0, .int .i64 0, .str (bs []), .nils, .nils, .int .i64 0], st := .live, ty := some 28 } : Blk), ({ cells := [.int .i64 0, .int .i64 0], st := .live, ty := some 30 } : Blk)] = H0 := rfl
    have gE : H2[H1.length]? = some { cells := [.int .i64 0, .int .i64 0], st := .live, ty := some 30 } := get_new
    have g2 : H1 ++ [({ cells := [.int .i64 0, .int .i64 0], st := .live, ty := some 30 } : Blk)] = H2 := rfl
    have g3 : H2 ++ [({ cells := [.slc r 0 T.size T.size 1 false, .int .i64 0, .int .i64 0, .int .i64 0], st := .live } : Blk)] = H3 := rfl
    have gN : (H5 ++ [jz])[H5.length]? = some jz := get_new
    have g6 : (H5 ++ [jz]).set H5.length vB = H6 := by simp [H6]
    simp only [jz, vB] at gN g6 q2 q7
    simp only [e2z] at q3
    have z6 : H6[H2.length]? = some { cells := [.slc r5 0 T.size T.size 1 false, .int .i64 j, .int .i64 0, .int .i64 0], st := .live } := get_push z2
    have m7 : H.length < H7.length := by omega
    have q3' : (H7.set H.length { cells := [.int .i64 4, .int .i64 v, .str (bs []), .nils, .nils, .int .i64 0], st := .live, ty := some 28 })[H.length + 1]? = some { cells := [.int .i64 0, .int .i64 0], st := .live, ty := some 30 } := by
      rw [List.getElem?_set_ne (by omega)]; exact q3
    have m8 : H.length + 1 < (H7.set H.length { cells := [.int .i64 4, .int .i64 v, .str (bs []), .nils, .nils, .int .i64 0], st := .live, ty := some 28 }).length := by simp; omega
    have q4 : ((H7.set H.length { cells := [.int .i64 4, .int .i64 v, .str (bs []), .nils, .nils, .int .i64 0], st := .live, ty := some 28 }).set (H.length + 1) { cells := [.int .i64 0, .int .i64 0], st := .live, ty := some 30 })[H.length]? = some { cells := [.int .i64 4, .int .i64 v, .str (bs []), .nils, .nils, .int .i64 0], st := .live, ty := some 28 } := by
      rw [List.getElem?_set_ne (by omega), set_get m7]
    simp [c9, c9.body, fillC, splice, g0, d20, stc_of gE, set_same gE, g2, g3, d21, ld_of y2, d22, stc_of gN, g6, ld_of z6, d21', ld_of t2, ld_of q7, stc_of q2, stc_of q3', ld_of q4, ld_set m8]
  · rw [List.getElem?_set_ne (by omega), List.getElem?_set_ne (by omega), old b (by omega)]
    exact List.getElem?_append_left hb

end Go.Cn.D
