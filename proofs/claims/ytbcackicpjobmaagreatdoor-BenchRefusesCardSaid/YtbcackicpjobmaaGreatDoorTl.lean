/- A part of the proof of BenchRefuses: no statement of the seat's stands here. -/
import Derived.Test.YtbcackicpjobmaaGreatDoorTk
set_option linter.unusedSectionVars false
set_option linter.unusedSimpArgs false
set_option linter.unusedVariables false
set_option linter.all false
set_option maxRecDepth 1000000
namespace Go.Ev
open Go Go.Proofs
theorem awake_T : callF XU 3000 4 [] [] = some (.bool true, []) := by kernel_rfl
theorem awake_ev : evCall XU 3000 4 [] [] = some (.bool true, []) := callF_ok awake_T
end Go.Ev
