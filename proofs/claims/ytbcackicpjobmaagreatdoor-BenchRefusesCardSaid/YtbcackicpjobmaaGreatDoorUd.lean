/- A part of the proof of BenchRefuses: no statement of the seat's stands here. -/
import Derived.Test.YtbcackicpjobmaaGreatDoorUc
import Derived.Test.YtbcackicpjobmaaGreatDoorTl
set_option linter.unusedSectionVars false
set_option linter.unusedSimpArgs false
set_option linter.unusedVariables false
set_option linter.all false
/- The law, whatever is handed in. -/
set_option linter.unusedVariables false
namespace Go.Ev
open Go Go.Proofs
theorem XU_prz : Prz XU := inferInstanceAs (Prz (((( XZ.hook 92 _).hook 136 _).hook 23 _).hook 98 _))
instance : Prz XU := XU_prz
noncomputable def Y1 : Ctx := XU.hook 28 F28
noncomputable def Y2 : Ctx := Y1.hook 12 (hkB Cf.counts)
noncomputable def Y3 : Ctx := Y2.hook 5 (hkB Cf.good)
noncomputable def Y4 : Ctx := Y3.hook 29 (hkB Cf.counts)
noncomputable def Y5 : Ctx := Y4.hook 13 (hkB Cf.good)
noncomputable def Y6 : Ctx := Y5.hook 6 (hkR run0)
noncomputable def Y7 : Ctx := Y6.hook 7 (hkR tell0)
noncomputable def Y8 : Ctx := Y7.hook 8 (memoF (tabF t8))
noncomputable def Y9 : Ctx := Y8.hook 4 (memoF (tabF t4))
instance : Prz Y1 := inferInstanceAs (Prz (XU.hook _ _))
instance : Prz Y2 := inferInstanceAs (Prz (Y1.hook _ _))
instance : Prz Y3 := inferInstanceAs (Prz (Y2.hook _ _))
instance : Prz Y4 := inferInstanceAs (Prz (Y3.hook _ _))
instance : Prz Y5 := inferInstanceAs (Prz (Y4.hook _ _))
instance : Prz Y6 := inferInstanceAs (Prz (Y5.hook _ _))
instance : Prz Y7 := inferInstanceAs (Prz (Y6.hook _ _))
instance : Prz Y8 := inferInstanceAs (Prz (Y7.hook _ _))
instance : Prz Y9 := inferInstanceAs (Prz (Y8.hook _ _))
theorem Y1_good : Good Y1 := XU_good.h28 rfl
theorem Y2_good : Good Y2 := Y1_good.hkB (fun c => e12 rfl rfl 0 c)
theorem Y3_good : Good Y3 := Y2_good.hkB (fun c => e5 rfl rfl 0 c)
theorem Y4_good : Good Y4 := Y3_good.hkB (fun c => e29 rfl 0 c)
theorem Y5_good : Good Y5 := Y4_good.hkB (fun c => e13 rfl rfl 0 c)
theorem Y6_good : Good Y6 := Y5_good.hkR (fun x L f c hx hr => e6 rfl rfl 0 x L f c (lenB_ok hx) hr)
theorem Y7_good : Good Y7 := Y6_good.hkR (fun x L f c hx hr => e7 rfl rfl 0 x L f c hx hr)
theorem Y8_good : Good Y8 := Y7_good.tab2 XZ_good rfl (checkTab_ok k8)
theorem Y9_good : Good Y9 := Y8_good.tab2 (t := t4) (n := 3000) XU_good rfl ⟨awake_T, trivial⟩
theorem law_ev (x : V) (L f : Int) (c : Cf) (hx : lenB x = some L) : evCall Y9 20 3 [x, .int .i64 f, c.v] [] = some (.bool true, []) := e3 (X := Y9) rfl rfl rfl rfl rfl rfl 0 x L f c hx
end Go.Ev
