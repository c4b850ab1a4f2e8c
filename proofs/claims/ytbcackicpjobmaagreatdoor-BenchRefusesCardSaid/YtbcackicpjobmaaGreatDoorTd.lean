/- A part of the proof of BenchRefuses: no statement of the seat's stands here. -/
import Derived.Test.YtbcackicpjobmaaGreatDoorZi
import Derived.Test.YtbcackicpjobmaaGreatDoorZh
set_option linter.unusedSectionVars false
set_option linter.unusedSimpArgs false
set_option linter.unusedVariables false
set_option linter.all false
/- Answers of function 136. -/
set_option maxRecDepth 1000000
namespace Go.Ev
open Go Go.Proofs
def t136_1 : Tab := [
  ([(.agg [(zz 1), (zz 1), (zz 1), (zz 1500), se, se, (zz 1), (zk .u32 0), ff]), (.agg [(zz 0), (zz 0), (zz 1), ff, ff, (zz 0), se, (zz 1), (zz 0), (zz 1), ff, ff, (zz 0), se, (zz 1), (zz 0), (zz 1), ff, ff, (zz 0), se, (zz 0), (zz 0), ff, ff, ff, (zz 0), se, ff, (zz 0), nl])], (.sl 6 7 [(zz 3), (zz 0), (zz 0), (zz 0), nl, ff, (zz 5), (zz 49185), (zz 0), (zz 0), nl, ff, (zz 5), (zz 32801), (zz 0), (zz 0), nl, ff, (zz 5), (zz 32855), (zz 0), (zz 0), nl, ff, (zz 6), (zz 49185), (zz 0), (zz 0), nl, ff, (zz 6), (zz 32801), (zz 0), (zz 0), nl, ff, (zz 6), (zz 32855), (zz 0), (zz 0), nl, ff])),
  ([(.agg [(zz 1), (zz 1), (zz 1), (zz 1500), se, se, (zz 1), (zk .u32 0), ff]), (.agg [(zz 1), (zz 0), (zz 1), ff, ff, (zz 0), se, (zz 0), (zz 0), (zz 1), ff, ff, (zz 0), se, (zz 0), (zz 0), (zz 1), ff, ff, (zz 0), se, (zz 0), (zz 0), ff, ff, ff, (zz 0), se, ff, (zz 0), nl])], (.sl 6 7 [(zz 3), (zz 0), (zz 0), (zz 0), nl, ff, (zz 5), (zz 49185), (zz 0), (zz 0), nl, ff, (zz 5), (zz 32801), (zz 0), (zz 0), nl, ff, (zz 5), (zz 32855), (zz 0), (zz 0), nl, ff, (zz 6), (zz 49185), (zz 0), (zz 0), nl, ff, (zz 6), (zz 32801), (zz 0), (zz 0), nl, ff, (zz 6), (zz 32855), (zz 0), (zz 0), nl, ff])),
  ([(.agg [(zz 1), (zz 1), (zz 1), (zz 1500), se, se, (zz 1), (zk .u32 0), ff]), (.agg [(zz 1), (zz 0), (zz 1), ff, ff, (zz 0), se, (zz 0), (zz 0), (zz 1), ff, ff, (zz 0), se, (zz 1), (zz 0), (zz 1), ff, ff, (zz 0), se, (zz 0), (zz 0), ff, ff, ff, (zz 0), se, ff, (zz 0), nl])], (.sl 6 7 [(zz 3), (zz 0), (zz 0), (zz 0), nl, ff, (zz 5), (zz 49185), (zz 0), (zz 0), nl, ff, (zz 5), (zz 32801), (zz 0), (zz 0), nl, ff, (zz 5), (zz 32855), (zz 0), (zz 0), nl, ff, (zz 6), (zz 49185), (zz 0), (zz 0), nl, ff, (zz 6), (zz 32801), (zz 0), (zz 0), nl, ff, (zz 6), (zz 32855), (zz 0), (zz 0), nl, ff]))]
theorem k136_1 : checkTab XW11 3000 136 t136_1 = true := by kernel_rfl
end Go.Ev
