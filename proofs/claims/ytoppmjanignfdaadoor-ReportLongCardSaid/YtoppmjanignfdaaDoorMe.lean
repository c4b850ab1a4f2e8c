/- ReportBack of the layer report: whatever two reports and a text are handed in the law answers true, and what was handed in stays. Conditions: the arguments are together of bulk at most 1048576 (the second form); the two listed tables read as the program's text lays them (tied by the given card). -/
import Derived.Test.YtoppmjanignfdaaDoorCards
import Derived.Test.YtoppmjanignfdaaDoorTie
import Derived.ChangeMaps5
import Derived.WalkKit
import Derived.ProofKit
import Derived.OpenShut
import Derived.Deep.DeepHandedRow
import Derived.Test.YtoppmjanignfdaaDoorMb
import Derived.Test.YtoppmjanignfdaaDoorMc
import Derived.Test.YtoppmjanignfdaaDoorMd
set_option linter.unusedSectionVars false
set_option linter.unusedSimpArgs false
set_option linter.unusedVariables false
set_option linter.all false
/- ReportBack: whatever reports and text are handed in, the law answers true (arguments of bulk at most 1048576). -/
set_option linter.unusedVariables false
set_option linter.unusedSectionVars false
namespace Go.Proofs.YtoppmjanignfdaaDoor
open Go Go.ChangeShapes Go.WideShapes Go.ChangeAt Go.RowKit Go.Ev
set_option maxRecDepth 100000
theorem backOwn : ownKnob Tryd.prog.godebug = none := by kernel_rfl
theorem backLaid : laidOutB Tryd.prog = true := by kernel_rfl
theorem backTypes : ∀ t ∈ Tryd.f3.params.toList, Tryd.prog.readableRec t = true ∧ t < Tryd.prog.types.size := by
  rw [Tryd.params3]
  intro t ht
  simp only [List.mem_cons, List.not_mem_nil, or_false] at ht
  rcases ht with rfl | rfl | rfl
  · exact ⟨by kernel_rfl, of_decide_eq_true (by kernel_rfl)⟩
  · exact ⟨by kernel_rfl, of_decide_eq_true (by kernel_rfl)⟩
  · exact ⟨by kernel_rfl, of_decide_eq_true (by kernel_rfl)⟩
theorem backResult : Tryd.f3.resultTypes = #[4] := by kernel_rfl
/-- What the evaluator's answer gives, for every argument. -/
theorem backContract (H : Type) (enc : TypeId × Value → H) (W : World) (base : Nat) (args : Array Value) (ds gs : List (DataW H)) (before : List MemPlace)
    (hval : ∀ (j : Nat) t v, Tryd.f3.params[j]? = some t → args[j]? = some v → Value.okWide Tryd.prog W .any base t v)
    (hW : DataW.Whole enc Tryd.prog Tryd.f3.params.toList Rows.reportBackSpec.vars false W args.toList ds gs before) (hB : Rows.uptoBulkAll (ds ++ gs) ≤ 1048576) :
    Calls Tryd.prog 3 args W fun e W' => ∃ v, e = .returned v ∧ Rows.reportBackSpec.post enc Tryd.prog Tryd.f3 false true false false W args v W' := by
  have hW' := hW
  obtain ⟨p, q, hA0, hV, rfl, hfz, hnd⟩ := hW
  have hA : DataW.TrodAll enc Tryd.prog W 0 (fun _ => true) true Tryd.f3.params.toList args.toList ds p := hA0
  rw [Tryd.params3] at hA hval
  obtain ⟨v0, vs0, d0, ds0, p0, q0, hargs, rfl, rfl, h0, r0⟩ := trodAll_cons hA
  obtain ⟨v1, vs1, d1, ds1, p1, q1, rfl, rfl, rfl, h1, r1⟩ := trodAll_cons r0
  obtain ⟨v2, vs2, d2, ds2, p2, q2, rfl, rfl, rfl, h2, r2⟩ := trodAll_cons r1
  obtain ⟨rfl, rfl, rfl⟩ := trodAll_nil r2
  obtain rfl : args = #[v0, v1, v2] := by cases args; simp_all
  obtain ⟨rfl, rfl⟩ := trodVars_none hV
  simp only [List.append_nil, Rows.uptoBulkAll] at hB
  obtain ⟨u0, x0, g0, k0⟩ := read_report (hval 0 31 v0 rfl rfl) h0 (by omega)
  obtain ⟨u1, x1, g1, k1⟩ := read_report (hval 1 31 v1 rfl rfl) h1 (by omega)
  obtain ⟨s, rfl, _, _, _⟩ := Go.ChangeMaps.open_string Tryd.underlying9 (hval 2 9 v2 rfl rfl) h2
  have g2 : VRel (cellsOfW W) noRho (.str s.data.toList) (.string s) := by unfold VRel; exact ⟨s, rfl, rfl⟩
  have ha : LRel (cellsOfW W) noRho [u0, u1, .str s.data.toList] (#[v0, v1, .string s] : Array Value).toList := lrel3 g0 g1 g2
  have hrun := X16_good.run (c3 0 u0 u1 s.data.toList x0 x1 k0 k1) W ha
  refine Calls.mono (show Calls Tryd.prog 3 #[v0, v1, .string s] W _ from hrun) fun e W' he => ?_
  obtain ⟨c, M', ρ', rfl, hc, hb, _⟩ := he
  unfold VRel at hc
  subst hc
  exact ⟨_, rfl, post_of_below backLaid backTypes rfl backResult Tryd.underlying4 ⟨rfl, rfl, rfl⟩ hW' hb⟩
/-- The second form's step. -/
theorem backLifted (os : Os) (started : os.Started) (H : Type) (enc : TypeId × Value → H) (F : Stop.Interp) :
    ReturnsInHanded {} Tryd.checked os 3 .any ((Rows.OpenSpec.upto Rows.reportBackSpec).preRow enc Tryd.prog Tryd.f3 Rows.reportBackUptoRow.domain false Rows.reportBackUptoRow.laid) (((Rows.OpenSpec.upto Rows.reportBackSpec).at F).post enc Tryd.prog Tryd.f3 false true false false) := by
  obtain ⟨places, hx⟩ := backReads os enc
  refine returnsInHanded_of_row (C := Tryd.checked) (s := Rows.OpenSpec.upto Rows.reportBackSpec) backOwn started (by kernel_rfl) Tryd.func3
    (witness_row_at (enc := enc) (C := Tryd.checked) false (tabWorld os) #[zeroRep, zeroRep, .string ByteArray.empty] rfl (by kernel_rfl) (by kernel_rfl) (by kernel_rfl)
      (OpenSpec.preRow_of_cond 8 hx (by kernel_rfl) (fun k hk => by cases hk; kernel_rfl) (by kernel_rfl) (tabs_met os _))) ?_
  intro W base args ds gs before hval hW _ hcond _ hL _ _
  exact backContract H enc W base args ds gs before hval hW (of_decide_eq_true (hcond _ rfl))
theorem backSaid : Rows.ReportBackUptoSaid :=
  OpenClaim.holds_of_cond 3 Tryd.f3 rfl rfl rfl rfl rfl rfl rfl ⟨rfl, rfl, rfl, rfl, rfl⟩ rfl rfl rfl rfl rfl (by kernel_rfl) Tryd.func3 (by kernel_rfl)
    (of_decide_eq_true (by kernel_rfl)) (by unfold Func.isWrapper; first | (rw [if_pos (by decide +kernel)]; kernel_rfl) | (rw [if_neg (by decide +kernel)]; exact ⟨rfl, rfl⟩))
    (fun os started H enc _ F => by rw [OpenClaim.pre_eq_preRow]; exact backLifted os started H enc F)
theorem backPlain (f : FuncId) (fn : Func) (hf : Tryd.pinned.checked.prog.funcNamed "umpire/umpirelaw32.ReportBack" = some f) (hfn : Tryd.pinned.checked.prog.funcs[f]? = some fn) :
    false = Tryd.pinned.checked.prog.looks [] ∧ ∀ (j : Nat) t, fn.params[j]? = some t → Tryd.pinned.checked.prog.wantsStandIn t = false := by
  obtain rfl : f = 3 := Option.some.inj ((show Tryd.prog.funcNamed "umpire/umpirelaw32.ReportBack" = some 3 by kernel_rfl).symm.trans hf) |>.symm
  obtain rfl : fn = Tryd.f3 := (Option.some.inj (Tryd.func3.symm.trans hfn)).symm
  refine ⟨by kernel_rfl, fun j t ht => ?_⟩
  rw [Tryd.params3] at ht
  have hm : t = 31 ∨ t = 31 ∨ t = 9 := by simpa using Array.mem_of_getElem? ht
  rcases hm with rfl | rfl | rfl
  · exact (show Tryd.prog.wantsStandIn 31 = false by kernel_rfl)
  · exact (show Tryd.prog.wantsStandIn 31 = false by kernel_rfl)
  · exact (show Tryd.prog.wantsStandIn 9 = false by kernel_rfl)
/-- ReportBack's card, second form. -/
theorem backCard : Rows.ReportBackUptoCardSaid :=
  Claim7.holds_tied_plain_at .later [] _ _ _ _ backSaid (fun _ h => by cases h) (by kernel_rfl) (fun _ h => by cases h) reportBackUpto_row_tie rfl ⟨rfl, rfl⟩ (by kernel_rfl) rfl backPlain (by kernel_rfl)
end Go.Proofs.YtoppmjanignfdaaDoor
