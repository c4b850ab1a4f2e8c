/- A part of the proof of BenchRefuses: no statement of the seat's stands here. -/
import Derived.Test.YtbcackicpjobmaaGreatDoorZi
import Derived.Test.YtbcackicpjobmaaGreatDoorZh
set_option linter.unusedSectionVars false
set_option linter.unusedSimpArgs false
set_option linter.unusedVariables false
set_option linter.all false
/- Answers of function 92. -/
set_option maxRecDepth 1000000
namespace Go.Ev
open Go Go.Proofs
def t92_2 : Tab := [
  ([(.agg [(zz 2), (zz 0), (zz 1), ff, ff, (zz 0), se, (zz 0), (zz 0), (zz 1), ff, ff, (zz 0), se, (zz 0), (zz 0), (zz 1), ff, ff, (zz 0), se, (zz 0), (zz 0), ff, ff, ff, (zz 0), se, ff, (zz 0), nl])], (.str [50, 44, 48, 44, 49, 44, 48, 44, 48, 44, 48, 44, 44, 48, 44, 48, 44, 49, 44, 48, 44, 48, 44, 48, 44, 44, 48, 44, 48, 44, 49, 44, 48, 44, 48, 44, 48, 44, 44, 48, 44, 48, 44, 48, 44, 48, 44, 48, 44, 48, 44, 44, 48, 44, 48, 44, 48, 44])),
  ([(.agg [(zz 2), (zz 0), (zz 1), ff, ff, (zz 0), se, (zz 0), (zz 0), (zz 1), ff, ff, (zz 0), se, (zz 1), (zz 0), (zz 1), ff, ff, (zz 0), se, (zz 0), (zz 0), ff, ff, ff, (zz 0), se, ff, (zz 0), nl])], (.str [50, 44, 48, 44, 49, 44, 48, 44, 48, 44, 48, 44, 44, 48, 44, 48, 44, 49, 44, 48, 44, 48, 44, 48, 44, 44, 49, 44, 48, 44, 49, 44, 48, 44, 48, 44, 48, 44, 44, 48, 44, 48, 44, 48, 44, 48, 44, 48, 44, 48, 44, 44, 48, 44, 48, 44, 48, 44])),
  ([(.agg [(zz 2), (zz 0), (zz 1), ff, ff, (zz 0), se, (zz 1), (zz 0), (zz 1), ff, ff, (zz 0), se, (zz 0), (zz 0), (zz 1), ff, ff, (zz 0), se, (zz 0), (zz 0), ff, ff, ff, (zz 0), se, ff, (zz 0), nl])], (.str [50, 44, 48, 44, 49, 44, 48, 44, 48, 44, 48, 44, 44, 49, 44, 48, 44, 49, 44, 48, 44, 48, 44, 48, 44, 44, 48, 44, 48, 44, 49, 44, 48, 44, 48, 44, 48, 44, 44, 48, 44, 48, 44, 48, 44, 48, 44, 48, 44, 48, 44, 44, 48, 44, 48, 44, 48, 44])),
  ([(.agg [(zz 2), (zz 0), (zz 1), ff, ff, (zz 0), se, (zz 1), (zz 0), (zz 1), ff, ff, (zz 0), se, (zz 1), (zz 0), (zz 1), ff, ff, (zz 0), se, (zz 0), (zz 0), ff, ff, ff, (zz 0), se, ff, (zz 0), nl])], (.str [50, 44, 48, 44, 49, 44, 48, 44, 48, 44, 48, 44, 44, 49, 44, 48, 44, 49, 44, 48, 44, 48, 44, 48, 44, 44, 49, 44, 48, 44, 49, 44, 48, 44, 48, 44, 48, 44, 44, 48, 44, 48, 44, 48, 44, 48, 44, 48, 44, 48, 44, 44, 48, 44, 48, 44, 48, 44]))]
theorem k92_2 : checkTab XW5 3000 92 t92_2 = true := by kernel_rfl
end Go.Ev
/- Answers of function 92. -/
set_option maxRecDepth 1000000
namespace Go.Ev
open Go Go.Proofs
def t92_3 : Tab := [
  ([(.agg [(zz 6), (zz 0), (zz 1), ff, ff, (zz 0), se, (zz 0), (zz 0), (zz 1), ff, ff, (zz 0), se, (zz 0), (zz 0), (zz 1), ff, ff, (zz 0), se, (zz 0), (zz 0), ff, ff, ff, (zz 0), se, ff, (zz 0), (.sl 4 1 [(zz 1), (zz 49185), (zz 0), se])])], (.str [54, 44, 48, 44, 49, 44, 48, 44, 48, 44, 48, 44, 44, 48, 44, 48, 44, 49, 44, 48, 44, 48, 44, 48, 44, 44, 48, 44, 48, 44, 49, 44, 48, 44, 48, 44, 48, 44, 44, 48, 44, 48, 44, 48, 44, 48, 44, 48, 44, 48, 44, 44, 48, 44, 48, 44, 49, 44, 49, 44, 52, 57, 49, 56, 53, 44, 48, 44, 44])),
  ([(.agg [(zz 6), (zz 0), (zz 1), ff, ff, (zz 0), se, (zz 0), (zz 0), (zz 1), ff, ff, (zz 0), se, (zz 1), (zz 0), (zz 1), ff, ff, (zz 0), se, (zz 0), (zz 0), ff, ff, ff, (zz 0), se, ff, (zz 0), (.sl 4 1 [(zz 1), (zz 49185), (zz 0), se])])], (.str [54, 44, 48, 44, 49, 44, 48, 44, 48, 44, 48, 44, 44, 48, 44, 48, 44, 49, 44, 48, 44, 48, 44, 48, 44, 44, 49, 44, 48, 44, 49, 44, 48, 44, 48, 44, 48, 44, 44, 48, 44, 48, 44, 48, 44, 48, 44, 48, 44, 48, 44, 44, 48, 44, 48, 44, 49, 44, 49, 44, 52, 57, 49, 56, 53, 44, 48, 44, 44])),
  ([(.agg [(zz 6), (zz 0), (zz 1), ff, ff, (zz 0), se, (zz 1), (zz 0), (zz 1), ff, ff, (zz 0), se, (zz 0), (zz 0), (zz 1), ff, ff, (zz 0), se, (zz 0), (zz 0), ff, ff, ff, (zz 0), se, ff, (zz 0), (.sl 4 1 [(zz 1), (zz 49185), (zz 0), se])])], (.str [54, 44, 48, 44, 49, 44, 48, 44, 48, 44, 48, 44, 44, 49, 44, 48, 44, 49, 44, 48, 44, 48, 44, 48, 44, 44, 48, 44, 48, 44, 49, 44, 48, 44, 48, 44, 48, 44, 44, 48, 44, 48, 44, 48, 44, 48, 44, 48, 44, 48, 44, 44, 48, 44, 48, 44, 49, 44, 49, 44, 52, 57, 49, 56, 53, 44, 48, 44, 44])),
  ([(.agg [(zz 6), (zz 0), (zz 1), ff, ff, (zz 0), se, (zz 1), (zz 0), (zz 1), ff, ff, (zz 0), se, (zz 1), (zz 0), (zz 1), ff, ff, (zz 0), se, (zz 0), (zz 0), ff, ff, ff, (zz 0), se, ff, (zz 0), (.sl 4 1 [(zz 1), (zz 49185), (zz 0), se])])], (.str [54, 44, 48, 44, 49, 44, 48, 44, 48, 44, 48, 44, 44, 49, 44, 48, 44, 49, 44, 48, 44, 48, 44, 48, 44, 44, 49, 44, 48, 44, 49, 44, 48, 44, 48, 44, 48, 44, 44, 48, 44, 48, 44, 48, 44, 48, 44, 48, 44, 48, 44, 44, 48, 44, 48, 44, 49, 44, 49, 44, 52, 57, 49, 56, 53, 44, 48, 44, 44]))]
theorem k92_3 : checkTab XW5 3000 92 t92_3 = true := by kernel_rfl
end Go.Ev
