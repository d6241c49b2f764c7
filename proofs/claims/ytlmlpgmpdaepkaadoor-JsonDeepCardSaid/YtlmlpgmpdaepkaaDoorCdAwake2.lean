/- Closed runs of the seat: awake of glebelaw11. -/
import Derived.Test.YtlmlpgmpdaepkaaDoorCdTab
set_option linter.unusedSimpArgs false
set_option linter.unusedVariables false
set_option linter.unusedSectionVars false
namespace Go.Cn.D
open Go.Proofs
set_option maxRecDepth 100000
theorem awake11 : kTrue tab hookD 4000 14 = true := by decide +kernel
end Go.Cn.D
