/- A part of the proof of BenchRefuses: no statement of the seat's stands here. -/
import Derived.Test.YtbcackicpjobmaaGreatDoorZi
import Derived.Test.YtbcackicpjobmaaGreatDoorZh
set_option linter.unusedSectionVars false
set_option linter.unusedSimpArgs false
set_option linter.unusedVariables false
set_option linter.all false
/- Answers of function 92. -/
set_option maxRecDepth 1000000
namespace Go.Ev
open Go Go.Proofs
def t92_0 : Tab := [
  ([(.agg [(zz 0), (zz 0), (zz 1), ff, ff, (zz 0), se, (zz 0), (zz 0), (zz 1), ff, ff, (zz 0), se, (zz 0), (zz 0), (zz 1), ff, ff, (zz 0), se, (zz 0), (zz 0), ff, ff, ff, (zz 0), se, ff, (zz 0), nl])], (.str [48, 44, 48, 44, 49, 44, 48, 44, 48, 44, 48, 44, 44, 48, 44, 48, 44, 49, 44, 48, 44, 48, 44, 48, 44, 44, 48, 44, 48, 44, 49, 44, 48, 44, 48, 44, 48, 44, 44, 48, 44, 48, 44, 48, 44, 48, 44, 48, 44, 48, 44, 44, 48, 44, 48, 44, 48, 44])),
  ([(.agg [(zz 0), (zz 0), (zz 1), ff, ff, (zz 0), se, (zz 0), (zz 0), (zz 1), ff, ff, (zz 0), se, (zz 1), (zz 0), (zz 1), ff, ff, (zz 0), se, (zz 0), (zz 0), ff, ff, ff, (zz 0), se, ff, (zz 0), nl])], (.str [48, 44, 48, 44, 49, 44, 48, 44, 48, 44, 48, 44, 44, 48, 44, 48, 44, 49, 44, 48, 44, 48, 44, 48, 44, 44, 49, 44, 48, 44, 49, 44, 48, 44, 48, 44, 48, 44, 44, 48, 44, 48, 44, 48, 44, 48, 44, 48, 44, 48, 44, 44, 48, 44, 48, 44, 48, 44])),
  ([(.agg [(zz 0), (zz 0), (zz 1), ff, ff, (zz 0), se, (zz 1), (zz 0), (zz 1), ff, ff, (zz 0), se, (zz 0), (zz 0), (zz 1), ff, ff, (zz 0), se, (zz 0), (zz 0), ff, ff, ff, (zz 0), se, ff, (zz 0), nl])], (.str [48, 44, 48, 44, 49, 44, 48, 44, 48, 44, 48, 44, 44, 49, 44, 48, 44, 49, 44, 48, 44, 48, 44, 48, 44, 44, 48, 44, 48, 44, 49, 44, 48, 44, 48, 44, 48, 44, 44, 48, 44, 48, 44, 48, 44, 48, 44, 48, 44, 48, 44, 44, 48, 44, 48, 44, 48, 44])),
  ([(.agg [(zz 0), (zz 0), (zz 1), ff, ff, (zz 0), se, (zz 1), (zz 0), (zz 1), ff, ff, (zz 0), se, (zz 1), (zz 0), (zz 1), ff, ff, (zz 0), se, (zz 0), (zz 0), ff, ff, ff, (zz 0), se, ff, (zz 0), nl])], (.str [48, 44, 48, 44, 49, 44, 48, 44, 48, 44, 48, 44, 44, 49, 44, 48, 44, 49, 44, 48, 44, 48, 44, 48, 44, 44, 49, 44, 48, 44, 49, 44, 48, 44, 48, 44, 48, 44, 44, 48, 44, 48, 44, 48, 44, 48, 44, 48, 44, 48, 44, 44, 48, 44, 48, 44, 48, 44]))]
theorem k92_0 : checkTab XW5 3000 92 t92_0 = true := by kernel_rfl
end Go.Ev
/- Answers of function 92. -/
set_option maxRecDepth 1000000
namespace Go.Ev
open Go Go.Proofs
def t92_1 : Tab := [
  ([(.agg [(zz 1), (zz 0), (zz 1), ff, ff, (zz 0), se, (zz 0), (zz 0), (zz 1), ff, ff, (zz 0), se, (zz 0), (zz 0), (zz 1), ff, ff, (zz 0), se, (zz 0), (zz 0), ff, ff, ff, (zz 0), se, ff, (zz 0), nl])], (.str [49, 44, 48, 44, 49, 44, 48, 44, 48, 44, 48, 44, 44, 48, 44, 48, 44, 49, 44, 48, 44, 48, 44, 48, 44, 44, 48, 44, 48, 44, 49, 44, 48, 44, 48, 44, 48, 44, 44, 48, 44, 48, 44, 48, 44, 48, 44, 48, 44, 48, 44, 44, 48, 44, 48, 44, 48, 44])),
  ([(.agg [(zz 1), (zz 0), (zz 1), ff, ff, (zz 0), se, (zz 0), (zz 0), (zz 1), ff, ff, (zz 0), se, (zz 1), (zz 0), (zz 1), ff, ff, (zz 0), se, (zz 0), (zz 0), ff, ff, ff, (zz 0), se, ff, (zz 0), nl])], (.str [49, 44, 48, 44, 49, 44, 48, 44, 48, 44, 48, 44, 44, 48, 44, 48, 44, 49, 44, 48, 44, 48, 44, 48, 44, 44, 49, 44, 48, 44, 49, 44, 48, 44, 48, 44, 48, 44, 44, 48, 44, 48, 44, 48, 44, 48, 44, 48, 44, 48, 44, 44, 48, 44, 48, 44, 48, 44])),
  ([(.agg [(zz 1), (zz 0), (zz 1), ff, ff, (zz 0), se, (zz 1), (zz 0), (zz 1), ff, ff, (zz 0), se, (zz 0), (zz 0), (zz 1), ff, ff, (zz 0), se, (zz 0), (zz 0), ff, ff, ff, (zz 0), se, ff, (zz 0), nl])], (.str [49, 44, 48, 44, 49, 44, 48, 44, 48, 44, 48, 44, 44, 49, 44, 48, 44, 49, 44, 48, 44, 48, 44, 48, 44, 44, 48, 44, 48, 44, 49, 44, 48, 44, 48, 44, 48, 44, 44, 48, 44, 48, 44, 48, 44, 48, 44, 48, 44, 48, 44, 44, 48, 44, 48, 44, 48, 44])),
  ([(.agg [(zz 1), (zz 0), (zz 1), ff, ff, (zz 0), se, (zz 1), (zz 0), (zz 1), ff, ff, (zz 0), se, (zz 1), (zz 0), (zz 1), ff, ff, (zz 0), se, (zz 0), (zz 0), ff, ff, ff, (zz 0), se, ff, (zz 0), nl])], (.str [49, 44, 48, 44, 49, 44, 48, 44, 48, 44, 48, 44, 44, 49, 44, 48, 44, 49, 44, 48, 44, 48, 44, 48, 44, 44, 49, 44, 48, 44, 49, 44, 48, 44, 48, 44, 48, 44, 44, 48, 44, 48, 44, 48, 44, 48, 44, 48, 44, 48, 44, 44, 48, 44, 48, 44, 48, 44]))]
theorem k92_1 : checkTab XW5 3000 92 t92_1 = true := by kernel_rfl
end Go.Ev
