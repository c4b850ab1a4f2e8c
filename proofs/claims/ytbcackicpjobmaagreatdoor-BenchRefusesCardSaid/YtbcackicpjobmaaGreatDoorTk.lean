/- A part of the proof of BenchRefuses: no statement of the seat's stands here. -/
import Derived.Test.YtbcackicpjobmaaGreatDoorZh
import Derived.Test.YtbcackicpjobmaaGreatDoorTa
import Derived.Test.YtbcackicpjobmaaGreatDoorTb
import Derived.Test.YtbcackicpjobmaaGreatDoorTc
import Derived.Test.YtbcackicpjobmaaGreatDoorTd
import Derived.Test.YtbcackicpjobmaaGreatDoorTe
import Derived.Test.YtbcackicpjobmaaGreatDoorTf
import Derived.Test.YtbcackicpjobmaaGreatDoorTg
import Derived.Test.YtbcackicpjobmaaGreatDoorTh
import Derived.Test.YtbcackicpjobmaaGreatDoorTi
import Derived.Test.YtbcackicpjobmaaGreatDoorTj
set_option linter.unusedSectionVars false
set_option linter.unusedSimpArgs false
set_option linter.unusedVariables false
set_option linter.all false
/- The context with all three tables. -/
namespace Go.Ev
open Go Go.Proofs
def t92 : Tab := t92_0 ++ (t92_1 ++ (t92_2 ++ (t92_3)))
theorem t92_ok : TabOK XW5 3000 92 t92 := (checkTab_ok k92_0).append ((checkTab_ok k92_1).append ((checkTab_ok k92_2).append (checkTab_ok k92_3)))
def t136 : Tab := t136_0 ++ (t136_1 ++ (t136_2 ++ (t136_3 ++ (t136_4 ++ (t136_5)))))
theorem t136_ok : TabOK XW11 3000 136 t136 := (checkTab_ok k136_0).append ((checkTab_ok k136_1).append ((checkTab_ok k136_2).append ((checkTab_ok k136_3).append ((checkTab_ok k136_4).append (checkTab_ok k136_5)))))
def t23 : Tab := t23_0 ++ (t23_1 ++ (t23_2 ++ (t23_3 ++ (t23_4))))
theorem t23_ok : TabOK XW10 3000 23 t23 := (checkTab_ok k23_0).append ((checkTab_ok k23_1).append ((checkTab_ok k23_2).append ((checkTab_ok k23_3).append (checkTab_ok k23_4))))
noncomputable def XT1 : Ctx := XZ.hook 92 (memoF (tabF t92))
theorem XT1_good : Good XT1 := XZ_good.tab2 XW5_good rfl t92_ok
noncomputable def XT2 : Ctx := XT1.hook 136 (memoF (tabF t136))
theorem XT2_good : Good XT2 := XT1_good.tab2 XW11_good rfl t136_ok
noncomputable def XT : Ctx := XT2.hook 23 (memoF (tabF t23))
theorem XT_good : Good XT := XT2_good.tab2 XW10_good rfl t23_ok
end Go.Ev
/- Answer of function 98. -/
set_option maxRecDepth 1000000
namespace Go.Ev
open Go Go.Proofs
def t98 : Tab := [
  ([(.agg [(zz 1), (zz 1), (zz 1), (zz 1500), se, se, (zz 1), (zk .u32 0), ff]), (.sl 31 1 [(zz 0), (zz 0), (zz 1), ff, ff, (zz 0), se, (zz 0), (zz 0), (zz 1), ff, ff, (zz 0), se, (zz 0), (zz 0), (zz 1), ff, ff, (zz 0), se, (zz 0), (zz 0), ff, ff, ff, (zz 0), se, ff, (zz 0), nl])], (.sl 31 16 [(zz 0), (zz 0), (zz 1), ff, ff, (zz 0), se, (zz 0), (zz 0), (zz 1), ff, ff, (zz 0), se, (zz 0), (zz 0), (zz 1), ff, ff, (zz 0), se, (zz 0), (zz 0), ff, ff, ff, (zz 0), se, ff, (zz 0), nl, (zz 0), (zz 0), (zz 1), ff, ff, (zz 0), se, (zz 0), (zz 0), (zz 1), ff, ff, (zz 0), se, (zz 1), (zz 0), (zz 1), ff, ff, (zz 0), se, (zz 0), (zz 0), ff, ff, ff, (zz 0), se, ff, (zz 0), nl, (zz 0), (zz 0), (zz 1), ff, ff, (zz 0), se, (zz 1), (zz 0), (zz 1), ff, ff, (zz 0), se, (zz 0), (zz 0), (zz 1), ff, ff, (zz 0), se, (zz 0), (zz 0), ff, ff, ff, (zz 0), se, ff, (zz 0), nl, (zz 0), (zz 0), (zz 1), ff, ff, (zz 0), se, (zz 1), (zz 0), (zz 1), ff, ff, (zz 0), se, (zz 1), (zz 0), (zz 1), ff, ff, (zz 0), se, (zz 0), (zz 0), ff, ff, ff, (zz 0), se, ff, (zz 0), nl, (zz 1), (zz 0), (zz 1), ff, ff, (zz 0), se, (zz 0), (zz 0), (zz 1), ff, ff, (zz 0), se, (zz 0), (zz 0), (zz 1), ff, ff, (zz 0), se, (zz 0), (zz 0), ff, ff, ff, (zz 0), se, ff, (zz 0), nl, (zz 1), (zz 0), (zz 1), ff, ff, (zz 0), se, (zz 0), (zz 0), (zz 1), ff, ff, (zz 0), se, (zz 1), (zz 0), (zz 1), ff, ff, (zz 0), se, (zz 0), (zz 0), ff, ff, ff, (zz 0), se, ff, (zz 0), nl, (zz 1), (zz 0), (zz 1), ff, ff, (zz 0), se, (zz 1), (zz 0), (zz 1), ff, ff, (zz 0), se, (zz 0), (zz 0), (zz 1), ff, ff, (zz 0), se, (zz 0), (zz 0), ff, ff, ff, (zz 0), se, ff, (zz 0), nl, (zz 1), (zz 0), (zz 1), ff, ff, (zz 0), se, (zz 1), (zz 0), (zz 1), ff, ff, (zz 0), se, (zz 1), (zz 0), (zz 1), ff, ff, (zz 0), se, (zz 0), (zz 0), ff, ff, ff, (zz 0), se, ff, (zz 0), nl, (zz 2), (zz 0), (zz 1), ff, ff, (zz 0), se, (zz 0), (zz 0), (zz 1), ff, ff, (zz 0), se, (zz 0), (zz 0), (zz 1), ff, ff, (zz 0), se, (zz 0), (zz 0), ff, ff, ff, (zz 0), se, ff, (zz 0), nl, (zz 2), (zz 0), (zz 1), ff, ff, (zz 0), se, (zz 0), (zz 0), (zz 1), ff, ff, (zz 0), se, (zz 1), (zz 0), (zz 1), ff, ff, (zz 0), se, (zz 0), (zz 0), ff, ff, ff, (zz 0), se, ff, (zz 0), nl, (zz 2), (zz 0), (zz 1), ff, ff, (zz 0), se, (zz 1), (zz 0), (zz 1), ff, ff, (zz 0), se, (zz 0), (zz 0), (zz 1), ff, ff, (zz 0), se, (zz 0), (zz 0), ff, ff, ff, (zz 0), se, ff, (zz 0), nl, (zz 2), (zz 0), (zz 1), ff, ff, (zz 0), se, (zz 1), (zz 0), (zz 1), ff, ff, (zz 0), se, (zz 1), (zz 0), (zz 1), ff, ff, (zz 0), se, (zz 0), (zz 0), ff, ff, ff, (zz 0), se, ff, (zz 0), nl, (zz 6), (zz 0), (zz 1), ff, ff, (zz 0), se, (zz 0), (zz 0), (zz 1), ff, ff, (zz 0), se, (zz 0), (zz 0), (zz 1), ff, ff, (zz 0), se, (zz 0), (zz 0), ff, ff, ff, (zz 0), se, ff, (zz 0), (.sl 4 1 [(zz 1), (zz 49185), (zz 0), se]), (zz 6), (zz 0), (zz 1), ff, ff, (zz 0), se, (zz 0), (zz 0), (zz 1), ff, ff, (zz 0), se, (zz 1), (zz 0), (zz 1), ff, ff, (zz 0), se, (zz 0), (zz 0), ff, ff, ff, (zz 0), se, ff, (zz 0), (.sl 4 1 [(zz 1), (zz 49185), (zz 0), se]), (zz 6), (zz 0), (zz 1), ff, ff, (zz 0), se, (zz 1), (zz 0), (zz 1), ff, ff, (zz 0), se, (zz 0), (zz 0), (zz 1), ff, ff, (zz 0), se, (zz 0), (zz 0), ff, ff, ff, (zz 0), se, ff, (zz 0), (.sl 4 1 [(zz 1), (zz 49185), (zz 0), se]), (zz 6), (zz 0), (zz 1), ff, ff, (zz 0), se, (zz 1), (zz 0), (zz 1), ff, ff, (zz 0), se, (zz 1), (zz 0), (zz 1), ff, ff, (zz 0), se, (zz 0), (zz 0), ff, ff, ff, (zz 0), se, ff, (zz 0), (.sl 4 1 [(zz 1), (zz 49185), (zz 0), se])]))]
theorem k98 : checkTab XT 3000 98 t98 = true := by kernel_rfl
noncomputable def XU : Ctx := XT.hook 98 (memoF (tabF t98))
theorem XU_good : Good XU := XT_good.tab (checkTab_ok k98)
end Go.Ev
