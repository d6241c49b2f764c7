/- A value that is a number, and the whole text. -/
import Derived.Test.YtlmlpgmpdaepkaaDoorCdNum2
set_option linter.unusedSimpArgs false
set_option linter.unusedVariables false
set_option linter.unusedSectionVars false
namespace Go.Cn.D
open Go.Proofs
set_option maxRecDepth 100000

theorem long_run {H : Heap} {r n : Nat} (hn : n ≤ 1000000) : ∃ H', den Tryd.prog hookD 20 [.slc r 0 n n 1 false] H = some (.tup [.agg [.int .i64 0, .int .i64 0], .bool false], H') ∧ Fr (fun _ => False) H H' := by
  have h1 : ¬ ((1000000 : Int) < n) := by omega
  refine ⟨H ++ [{ cells := [.int .i64 0, .int .i64 0], st := .live, ty := some 30 }], ?_, Fr.push _⟩
  rw [den_of (hdN (by decide) _ _) k20 (by simp [c20])]
  have hn : (H ++ [({ cells := [.int .i64 0, .int .i64 0], st := .live, ty := some 30 } : Blk)])[H.length]? = some { cells := [.int .i64 0, .int .i64 0], st := .live, ty := some 30 } := get_new
  simp [c20, c20.body, h1, fillC, stc_of hn, splice, ld_of hn, set_same hn]


theorem set_get {H : Heap} {b : Nat} (hb : b < H.length) (B : Blk) : (H.set b B)[b]? = some B := List.getElem?_set_self hb
theorem stc_set {H : Heap} {b off : Nat} {cs : List CV} {B : Blk} (hb : b < H.length) (hs : B.st = .live) (hn : off + cs.length ≤ B.cells.length) : Heap.stc (H.set b B) b off cs = some (H.set b { B with cells := splice B.cells off cs }) := by
  rw [stc_of (set_get hb B) hs hn, List.set_set]
theorem ld_set {H : Heap} {b off n : Nat} {B : Blk} (hb : b < H.length) (hs : B.st = .live ∨ B.st = .ro) (hn : off + n ≤ B.cells.length) : Heap.ld (H.set b B) b off n = some ((B.cells.drop off).take n) := ld_of (set_get hb B) hs hn

def jz : Blk := { cells := [.int .i64 0, .int .i64 0, .str (bs []), .nils, .nils, .int .i64 0], st := .live, ty := some 28 }
def jA (i : Int) : Blk := { cells := [.int .i64 0, .int .i64 0, .str (bs []), .nils, .nils, .int .i64 i], st := .live, ty := some 28 }

/-- a value at a digit or a minus, of a reader of numbers that gives v -/
theorem value_at {H : Heap} {x : Nat} {T : ByteArray} {i j : Nat} {c : UInt8} {v : Int} (hR : Rd H x T i) (hx0 : x < H.length) (hc : T.data.toList[i]? = some c) (hn : inNum c = true) (hT : T.size < 2 ^ 61)
    (hnum : ∀ H1, Rd H1 x T i → ∃ H', den Tryd.prog hookD 43 [.ptr x 0] H1 = some (.int .i64 v, H') ∧ Rd H' x T j ∧ H'.length = H1.length ∧ ∀ b, b ≠ x → H'[b]? = H1[b]?) (deep : Int) :
    ∃ H', den Tryd.prog hookD 22 [.ptr x 0, .int .i64 deep] H = some (.agg [.int .i64 4, .int .i64 v, .str (bs []), .nils, .nils, .int .i64 i], H') ∧ Rd H' x T j ∧ Fr (fun b => b = x) H H' := by
  obtain ⟨r, hrx, hx, hr⟩ := hR.at_
  have hlt : i < T.size := (List.getElem?_eq_some_iff.1 hc).1
  have hltI : ¬ ((T.size : Int) ≤ i) := by omega
  have hltI' : (i : Int) < T.size := by omega
  let H1 : Heap := H ++ [jz, jA i]
  have e1 : H1[H.length]? = some jz := by simp [H1]
  have e2 : H1[H.length + 1]? = some (jA i) := by simp [H1]
  have R1 : Rd H1 x T i := ⟨r, hrx, get_push hx, get_push hr⟩
  obtain ⟨H2, d43, R2, l2, k2⟩ := hnum H1 R1
  have l1 : H1.length = H.length + 2 := by simp [H1]
  have q1 : H2[H.length]? = some jz := by rw [k2 _ (by omega)]; exact e1
  have q2 : H2[H.length + 1]? = some (jA i) := by rw [k2 _ (by omega)]; exact e2
  have hx1 : H1[x]? = some { cells := [.slc r 0 T.size T.size 1 false, .int .i64 i, .int .i64 0, .int .i64 0], st := .live } := get_push hx
  have hr1 : H1[r]? = some { cells := cellsOfStr T, st := .live } := get_push hr
  have hld := ld_byte hr1 rfl (.inl rfl) hc
  have g0 : (H ++ [jz, jz])[H.length + 1]? = some jz := by simp
  have g1 : (H ++ [jz, jz]).set (H.length + 1) (jA i) = H1 := by simp [H1]
  have m1 : H.length + 1 < H2.length := by omega
  have cmp : ∀ n : Nat, (n = 123 ∨ n = 91 ∨ n = 34) → ¬ ((c.toNat : Int) = n) := by
    intro n hn' h
    simp only [inNum, isDig, Bool.or_eq_true, decide_eq_true_eq, beq_iff_eq] at hn
    rcases hn with hn | rfl
    · omega
    · simp at h; omega
  have c1 := cmp 123 (by simp)
  have c2 := cmp 91 (by simp)
  have c3 := cmp 34 (by simp)
  simp at c1 c2 c3
  let H3 : Heap := H2.set (H.length + 1) { cells := [.int .i64 4, .int .i64 v, .str (bs []), .nils, .nils, .int .i64 i], st := .live, ty := some 28 }
  have q3 : H3[H.length]? = some jz := by
    simp only [H3]
    rw [List.getElem?_set_ne (by omega)]; exact q1
  refine ⟨H3.set H.length { cells := [.int .i64 4, .int .i64 v, .str (bs []), .nils, .nils, .int .i64 i], st := .live, ty := some 28 }, ?_, ?_, ?_⟩
  · rw [den_of (hdN (by decide) _ _) k22 (by simp [c22])]
    simp only [jz, jA] at g0 g1 q2 e1 e2
    simp only [H3, jz] at q3
    have m0 : H.length < (H2.set (H.length + 1) { cells := [.int .i64 4, .int .i64 v, .str (bs []), .nils, .nils, .int .i64 i], st := .live, ty := some 28 }).length := by simp; omega
    have dig : den Tryd.prog hookD 42 [.int .u8 c.toNat] H1 = some (.bool (isDig c), H1) := digit_run
    by_cases h45 : (c.toNat : Int) = 45
    · simp [c22, c22.body, fillC, splice, ld_of (get_push hx), ld_of hx, stc_of g0, g1, hltI, ld_of hx1, hltI', hlt, hld, c1, c2, c3, h45, d43, stc_of q2, stc_set m1, ld_set m1, stc_of q3, ld_set m0, H3]
    · have hdig : isDig c = true := by
        simp only [inNum, Bool.or_eq_true, beq_iff_eq] at hn
        rcases hn with hn | rfl
        · exact hn
        · exact absurd rfl h45
      simp [c22, c22.body, fillC, splice, ld_of (get_push hx), ld_of hx, stc_of g0, g1, hltI, ld_of hx1, hltI', hlt, hld, c1, c2, c3, h45, dig, hdig, d43, stc_of q2, stc_set m1, ld_set m1, stc_of q3, ld_set m0, H3]
  · obtain ⟨r', a1, a2, a3⟩ := R2.at_
    have hrl : r' ≠ H.length := by
      rintro rfl
      rw [q1] at a3; simp [jz] at a3
    have hrl2 : r' ≠ H.length + 1 := by
      rintro rfl
      rw [q2] at a3; simp [jA] at a3
    refine ⟨r', a1, ?_, ?_⟩
    · simp only [H3]
      rw [List.getElem?_set_ne (by omega), List.getElem?_set_ne (by omega)]; exact a2
    · simp only [H3]
      rw [List.getElem?_set_ne (Ne.symm hrl), List.getElem?_set_ne (Ne.symm hrl2)]; exact a3
  · refine ⟨by simp [H3]; omega, fun b hb hne => ?_⟩
    simp only [H3]
    rw [List.getElem?_set_ne (by omega), List.getElem?_set_ne (by omega), k2 b hne]
    exact List.getElem?_append_left hb

end Go.Cn.D
