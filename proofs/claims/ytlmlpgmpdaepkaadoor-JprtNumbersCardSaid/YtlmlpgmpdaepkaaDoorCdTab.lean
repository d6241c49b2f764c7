/- The seat's table of plain functions, and closed runs. -/
import Derived.Test.YtlmlpgmpdaepkaaDoorCdCode
import Derived.Test.YtlmlpgmpdaepkaaDoorCdHook
import Derived.Test.YtlmlpgmpdaepkaaDoorCnClosed
set_option linter.unusedSimpArgs false
set_option linter.unusedVariables false
set_option linter.unusedSectionVars false
namespace Go.Cn.D
open Go.Proofs
set_option maxRecDepth 100000
def tab : FuncId → Option CF
  | 3 => some c3
  | 8 => some c8
  | 9 => some c9
  | 10 => some c10
  | 17 => some c17
  | 18 => some c18
  | 20 => some c20
  | 21 => some c21
  | 22 => some c22
  | 23 => some c23
  | 24 => some c24
  | 25 => some c25
  | 33 => some c33
  | 34 => some c34
  | 35 => some c35
  | 36 => some c36
  | 38 => some c38
  | 39 => some c39
  | 40 => some c40
  | 41 => some c41
  | 42 => some c42
  | 43 => some c43
  | 44 => some c44
  | 45 => some c45
  | 46 => some c46
  | 47 => some c47
  | 62 => some c62
  | 63 => some c63
  | 64 => some c64
  | 65 => some c65
  | 66 => some c66
  | 67 => some c67
  | 68 => some c68
  | 82 => some c82
  | 94 => some c94
  | _ => none

theorem tab_ok (f : FuncId) (cf : CF) (h : tab f = some cf) : compF Tryd.prog f = some cf := by
  unfold tab at h
  split at h
  · rw [k3]; exact h
  · rw [k8]; exact h
  · rw [k9]; exact h
  · rw [k10]; exact h
  · rw [k17]; exact h
  · rw [k18]; exact h
  · rw [k20]; exact h
  · rw [k21]; exact h
  · rw [k22]; exact h
  · rw [k23]; exact h
  · rw [k24]; exact h
  · rw [k25]; exact h
  · rw [k33]; exact h
  · rw [k34]; exact h
  · rw [k35]; exact h
  · rw [k36]; exact h
  · rw [k38]; exact h
  · rw [k39]; exact h
  · rw [k40]; exact h
  · rw [k41]; exact h
  · rw [k42]; exact h
  · rw [k43]; exact h
  · rw [k44]; exact h
  · rw [k45]; exact h
  · rw [k46]; exact h
  · rw [k47]; exact h
  · rw [k62]; exact h
  · rw [k63]; exact h
  · rw [k64]; exact h
  · rw [k65]; exact h
  · rw [k66]; exact h
  · rw [k67]; exact h
  · rw [k68]; exact h
  · rw [k82]; exact h
  · rw [k94]; exact h
  · simp at h

theorem mixed : Tryd.prog.follows .mixedOrders = true := by kernel_rfl
theorem awake12 : kTrue tab hookD 1000 10 = true := by decide +kernel
end Go.Cn.D
