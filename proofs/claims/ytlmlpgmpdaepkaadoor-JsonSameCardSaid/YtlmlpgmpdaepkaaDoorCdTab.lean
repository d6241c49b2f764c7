/- The seat's table of plain functions, and closed runs. -/
import Derived.Test.YtlmlpgmpdaepkaaDoorCdCode
import Derived.Test.YtlmlpgmpdaepkaaDoorCdHook
import Derived.Test.YtlmlpgmpdaepkaaDoorCnClosed
set_option linter.unusedSimpArgs false
set_option linter.unusedVariables false
set_option linter.unusedSectionVars false
namespace Go.Cn.D
open Go.Proofs
set_option maxRecDepth 100000
def tab : FuncId → Option CF
  | 7 => some c7
  | 11 => some c11
  | 12 => some c12
  | 13 => some c13
  | 14 => some c14
  | 16 => some c16
  | 26 => some c26
  | 27 => some c27
  | 28 => some c28
  | 29 => some c29
  | 30 => some c30
  | 31 => some c31
  | 33 => some c33
  | 48 => some c48
  | 49 => some c49
  | 50 => some c50
  | 51 => some c51
  | 52 => some c52
  | 53 => some c53
  | 54 => some c54
  | 55 => some c55
  | 56 => some c56
  | 60 => some c60
  | 70 => some c70
  | 71 => some c71
  | 72 => some c72
  | 73 => some c73
  | 74 => some c74
  | 75 => some c75
  | 76 => some c76
  | 78 => some c78
  | 79 => some c79
  | 80 => some c80
  | 81 => some c81
  | 83 => some c83
  | 84 => some c84
  | 85 => some c85
  | 86 => some c86
  | 87 => some c87
  | 88 => some c88
  | 89 => some c89
  | 90 => some c90
  | 91 => some c91
  | 92 => some c92
  | 93 => some c93
  | 95 => some c95
  | 96 => some c96
  | 97 => some c97
  | 98 => some c98
  | 99 => some c99
  | 100 => some c100
  | 101 => some c101
  | 102 => some c102
  | 103 => some c103
  | 104 => some c104
  | 105 => some c105
  | 106 => some c106
  | 107 => some c107
  | 108 => some c108
  | 109 => some c109
  | 110 => some c110
  | 111 => some c111
  | 112 => some c112
  | 113 => some c113
  | _ => none

theorem tab_ok (f : FuncId) (cf : CF) (h : tab f = some cf) : compF Tryd.prog f = some cf := by
  unfold tab at h
  split at h
  · rw [k7]; exact h
  · rw [k11]; exact h
  · rw [k12]; exact h
  · rw [k13]; exact h
  · rw [k14]; exact h
  · rw [k16]; exact h
  · rw [k26]; exact h
  · rw [k27]; exact h
  · rw [k28]; exact h
  · rw [k29]; exact h
  · rw [k30]; exact h
  · rw [k31]; exact h
  · rw [k33]; exact h
  · rw [k48]; exact h
  · rw [k49]; exact h
  · rw [k50]; exact h
  · rw [k51]; exact h
  · rw [k52]; exact h
  · rw [k53]; exact h
  · rw [k54]; exact h
  · rw [k55]; exact h
  · rw [k56]; exact h
  · rw [k60]; exact h
  · rw [k70]; exact h
  · rw [k71]; exact h
  · rw [k72]; exact h
  · rw [k73]; exact h
  · rw [k74]; exact h
  · rw [k75]; exact h
  · rw [k76]; exact h
  · rw [k78]; exact h
  · rw [k79]; exact h
  · rw [k80]; exact h
  · rw [k81]; exact h
  · rw [k83]; exact h
  · rw [k84]; exact h
  · rw [k85]; exact h
  · rw [k86]; exact h
  · rw [k87]; exact h
  · rw [k88]; exact h
  · rw [k89]; exact h
  · rw [k90]; exact h
  · rw [k91]; exact h
  · rw [k92]; exact h
  · rw [k93]; exact h
  · rw [k95]; exact h
  · rw [k96]; exact h
  · rw [k97]; exact h
  · rw [k98]; exact h
  · rw [k99]; exact h
  · rw [k100]; exact h
  · rw [k101]; exact h
  · rw [k102]; exact h
  · rw [k103]; exact h
  · rw [k104]; exact h
  · rw [k105]; exact h
  · rw [k106]; exact h
  · rw [k107]; exact h
  · rw [k108]; exact h
  · rw [k109]; exact h
  · rw [k110]; exact h
  · rw [k111]; exact h
  · rw [k112]; exact h
  · rw [k113]; exact h
  · simp at h

theorem mixed : Tryd.prog.follows .mixedOrders = true := by kernel_rfl
end Go.Cn.D
