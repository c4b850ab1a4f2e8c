/- A part of the proof of BenchRefuses: no statement of the seat's stands here. -/
import Derived.Test.YtbcackicpjobmaaGreatDoorZd
import Derived.Test.YtbcackicpjobmaaGreatDoorZg
set_option linter.unusedSectionVars false
set_option linter.unusedSimpArgs false
set_option linter.unusedVariables false
set_option linter.all false
/- Calls of the context that are remembered, layer by layer. -/
namespace Go.Ev
open Go Go.Proofs
noncomputable def XW1 : Ctx := XZ.memoW [9, 21, 22, 29, 30, 46, 77, 80, 84, 101, 102, 104, 106, 114, 115, 124, 130, 137, 148, 171, 176, 217, 245, 266] 3000
theorem XW1_good : Good XW1 := XZ_good.memoW (by decide)
noncomputable def XW2 : Ctx := XW1.memoW [13, 20, 26, 44, 64, 65, 68, 72, 82, 105, 109, 113, 154, 158, 178, 194, 219, 241, 242, 243, 244] 3000
theorem XW2_good : Good XW2 := XW1_good.memoW (by decide)
noncomputable def XW3 : Ctx := XW2.memoW [10, 71, 79, 126, 160, 218] 3000
theorem XW3_good : Good XW3 := XW2_good.memoW (by decide)
noncomputable def XW4 : Ctx := XW3.memoW [37, 38, 125, 208] 3000
theorem XW4_good : Good XW4 := XW3_good.memoW (by decide)
noncomputable def XW5 : Ctx := XW4.memoW [39, 81, 85, 193] 3000
theorem XW5_good : Good XW5 := XW4_good.memoW (by decide)
noncomputable def XW6 : Ctx := XW5.memoW [17, 45, 50, 92, 170, 306] 3000
theorem XW6_good : Good XW6 := XW5_good.memoW (by decide)
noncomputable def XW7 : Ctx := XW6.memoW [25, 31, 132, 138, 147] 3000
theorem XW7_good : Good XW7 := XW6_good.memoW (by decide)
noncomputable def XW8 : Ctx := XW7.memoW [91, 112, 304] 3000
theorem XW8_good : Good XW8 := XW7_good.memoW (by decide)
noncomputable def XW9 : Ctx := XW8.memoW [78] 3000
theorem XW9_good : Good XW9 := XW8_good.memoW (by decide)
noncomputable def XW10 : Ctx := XW9.memoW [14, 43] 3000
theorem XW10_good : Good XW10 := XW9_good.memoW (by decide)
noncomputable def XW11 : Ctx := XW10.memoW [23, 24, 159] 3000
theorem XW11_good : Good XW11 := XW10_good.memoW (by decide)
noncomputable def XW12 : Ctx := XW11.memoW [11, 136] 3000
theorem XW12_good : Good XW12 := XW11_good.memoW (by decide)
noncomputable def XW13 : Ctx := XW12.memoW [93] 3000
theorem XW13_good : Good XW13 := XW12_good.memoW (by decide)
noncomputable def XW14 : Ctx := XW13.memoW [98] 3000
theorem XW14_good : Good XW14 := XW13_good.memoW (by decide)
noncomputable def XW15 : Ctx := XW14.memoW [97] 3000
theorem XW15_good : Good XW15 := XW14_good.memoW (by decide)
noncomputable def XW16 : Ctx := XW15.memoW [60] 3000
theorem XW16_good : Good XW16 := XW15_good.memoW (by decide)
noncomputable def XW17 : Ctx := XW16.memoW [55] 3000
theorem XW17_good : Good XW17 := XW16_good.memoW (by decide)
noncomputable def XW18 : Ctx := XW17.memoW [33] 3000
theorem XW18_good : Good XW18 := XW17_good.memoW (by decide)
noncomputable def XW19 : Ctx := XW18.memoW [15] 3000
theorem XW19_good : Good XW19 := XW18_good.memoW (by decide)
noncomputable def XW20 : Ctx := XW19.memoW [6] 3000
theorem XW20_good : Good XW20 := XW19_good.memoW (by decide)
noncomputable def XW21 : Ctx := XW20.memoW [7] 3000
theorem XW21_good : Good XW21 := XW20_good.memoW (by decide)
end Go.Ev
