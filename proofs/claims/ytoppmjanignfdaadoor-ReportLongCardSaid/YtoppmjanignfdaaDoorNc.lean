/- ReportLong of the layer report: whatever byte is handed in the law answers true: a report of eight long items is put, and read, just if its text has at most so many bytes. Conditions: none but that the two listed tables read as the program's text lays them (tied by the given card). -/
import Derived.Test.YtoppmjanignfdaaDoorNb
import Derived.Test.YtoppmjanignfdaaDoorMe
set_option linter.unusedSectionVars false
set_option linter.unusedSimpArgs false
set_option linter.unusedVariables false
set_option linter.all false
/- ReportLong: whatever byte is handed in, the law answers true. -/
set_option linter.unusedVariables false
set_option linter.unusedSectionVars false
namespace Go.Proofs.YtoppmjanignfdaaDoor
open Go Go.ChangeShapes Go.WideShapes Go.ChangeAt Go.RowKit Go.Ev
set_option maxRecDepth 100000
theorem longTypes : ∀ t ∈ Tryd.f4.params.toList, Tryd.prog.readableRec t = true ∧ t < Tryd.prog.types.size := by
  rw [Tryd.params4]
  intro t ht
  simp only [List.mem_cons, List.not_mem_nil, or_false] at ht
  subst ht
  exact ⟨by kernel_rfl, of_decide_eq_true (by kernel_rfl)⟩
theorem longResult : Tryd.f4.resultTypes = #[4] := by kernel_rfl
theorem tabs_met4 (os : Os) (args : Array Value) : laidMet Tryd.prog Rows.reportLongRow.laid ((tabWorld os).forCall (fun _ _ => 0) ⟨#[], args, []⟩).memory := tabs_met os args
theorem longReads (os : Os) {H : Type} (enc : TypeId × Value → H) : ∃ places, DataW.whole enc Tryd.prog ((tabWorld os).forCall (fun _ _ => 0) ⟨#[], #[.int .u8 0], []⟩).memory Tryd.f4.params.toList Rows.reportLongSpec.vars false #[Value.int .u8 0].toList 8 = some ([.lit (.int .u8 0)], [], places) :=
  ⟨[], by kernel_rfl⟩
/-- What the evaluator's answer gives, for every argument. -/
theorem longContract (H : Type) (enc : TypeId × Value → H) (W : World) (base : Nat) (args : Array Value) (ds gs : List (DataW H)) (before : List MemPlace)
    (hval : ∀ (j : Nat) t v, Tryd.f4.params[j]? = some t → args[j]? = some v → Value.okWide Tryd.prog W .any base t v)
    (hW : DataW.Whole enc Tryd.prog Tryd.f4.params.toList Rows.reportLongSpec.vars false W args.toList ds gs before) :
    Calls Tryd.prog 4 args W fun e W' => ∃ v, e = .returned v ∧ Rows.reportLongSpec.post enc Tryd.prog Tryd.f4 false true false false W args v W' := by
  have hW' := hW
  obtain ⟨p, q, hA0, hV, rfl, hfz, hnd⟩ := hW
  have hA : DataW.TrodAll enc Tryd.prog W 0 (fun _ => true) true Tryd.f4.params.toList args.toList ds p := hA0
  rw [Tryd.params4] at hA hval
  obtain ⟨v0, vs0, d0, ds0, p0, q0, hargs, rfl, rfl, h0, r0⟩ := trodAll_cons hA
  obtain ⟨rfl, rfl, rfl⟩ := trodAll_nil r0
  obtain rfl : args = #[v0] := by cases args; simp_all
  obtain ⟨rfl, rfl⟩ := trodVars_none hV
  obtain ⟨n, rfl, rfl, _, hn⟩ := open_int Tryd.underlying5 (hval 0 5 v0 rfl rfl) h0
  have hb := Go.bounds_u8 hn
  have g0 : VRel (cellsOfW W) noRho (.int .u8 n) (.int .u8 n) := by unfold VRel; rfl
  have ha : LRel (cellsOfW W) noRho [.int .u8 n] (#[Value.int .u8 n] : Array Value).toList := by
    unfold LRel LRel
    exact ⟨_, _, rfl, g0, rfl⟩
  have hrun := X16_good.run (c4 0 n hb.1 (by omega)) W ha
  refine Calls.mono (show Calls Tryd.prog 4 #[.int .u8 n] W _ from hrun) fun e W' he => ?_
  obtain ⟨c, M', ρ', rfl, hc, hb, _⟩ := he
  unfold VRel at hc
  subst hc
  exact ⟨_, rfl, post_of_below backLaid longTypes rfl longResult Tryd.underlying4 ⟨rfl, rfl, rfl⟩ hW' hb⟩
theorem longLifted (os : Os) (started : os.Started) (H : Type) (enc : TypeId × Value → H) (F : Stop.Interp) :
    ReturnsInHanded {} Tryd.checked os 4 .any ((OpenSpec.ofChange Rows.reportLongSpec).preRow enc Tryd.prog Tryd.f4 Rows.reportLongRow.domain false Rows.reportLongRow.laid) (((OpenSpec.ofChange Rows.reportLongSpec).at F).post enc Tryd.prog Tryd.f4 false true false false) := by
  obtain ⟨places, hx⟩ := longReads os enc
  refine returnsInHanded_of_row (C := Tryd.checked) (s := OpenSpec.ofChange Rows.reportLongSpec) backOwn started (by kernel_rfl) Tryd.func4
    (witness_row_at (enc := enc) (C := Tryd.checked) false (tabWorld os) #[.int .u8 0] rfl (by kernel_rfl) (by kernel_rfl) (by kernel_rfl)
      (OpenSpec.preRow_of_cond 8 hx (by kernel_rfl) (fun k hk => by cases hk) (by kernel_rfl) (tabs_met4 os _))) ?_
  intro W base args ds gs before hval hW _ hcond _ hL _ _
  exact longContract H enc W base args ds gs before hval hW
theorem longSaid : Rows.ReportLongSaid :=
  OpenClaim.holds_of_cond 4 Tryd.f4 rfl rfl rfl rfl rfl rfl rfl ⟨rfl, rfl, rfl, rfl, rfl⟩ rfl rfl rfl rfl rfl (by kernel_rfl) Tryd.func4 (by kernel_rfl)
    (of_decide_eq_true (by kernel_rfl)) (by unfold Func.isWrapper; first | (rw [if_pos (by decide +kernel)]; kernel_rfl) | (rw [if_neg (by decide +kernel)]; exact ⟨rfl, rfl⟩))
    (fun os started H enc _ F => by rw [OpenClaim.pre_eq_preRow]; exact longLifted os started H enc F)
theorem longPlain (f : FuncId) (fn : Func) (hf : Tryd.pinned.checked.prog.funcNamed "umpire/umpirelaw32.ReportLong" = some f) (hfn : Tryd.pinned.checked.prog.funcs[f]? = some fn) :
    false = Tryd.pinned.checked.prog.looks [] ∧ ∀ (j : Nat) t, fn.params[j]? = some t → Tryd.pinned.checked.prog.wantsStandIn t = false := by
  obtain rfl : f = 4 := Option.some.inj ((show Tryd.prog.funcNamed "umpire/umpirelaw32.ReportLong" = some 4 by kernel_rfl).symm.trans hf) |>.symm
  obtain rfl : fn = Tryd.f4 := (Option.some.inj (Tryd.func4.symm.trans hfn)).symm
  refine ⟨by kernel_rfl, fun j t ht => ?_⟩
  rw [Tryd.params4] at ht
  have hm : t = 5 := by simpa using Array.mem_of_getElem? ht
  subst hm
  exact (show Tryd.prog.wantsStandIn 5 = false by kernel_rfl)
/-- ReportLong's card. -/
theorem longCard : Rows.ReportLongCardSaid :=
  Claim7.holds_tied_plain_at .later [] _ _ _ _ longSaid (fun _ h => by cases h) (by kernel_rfl) (fun _ h => by cases h) reportLong_row_tie rfl ⟨rfl, rfl⟩ (by kernel_rfl) rfl longPlain (by kernel_rfl)
end Go.Proofs.YtoppmjanignfdaaDoor
