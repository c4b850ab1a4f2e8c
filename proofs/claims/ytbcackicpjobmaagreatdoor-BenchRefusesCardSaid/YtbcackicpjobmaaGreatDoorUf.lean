/- BenchRefuses of the layer bench: whatever bytes, format and config are handed in the law answers true, and what was handed in stays. Conditions: none but that the listed table umpire/dump.forms reads as the program's text lays it (tied by the given card). -/
import Derived.Test.YtbcackicpjobmaaGreatDoorCards
import Derived.Test.YtbcackicpjobmaaGreatDoorTie
import Derived.ChangeMaps5
import Derived.WalkKit
import Derived.ProofKit
import Derived.OpenShut
import Derived.Deep.DeepHandedRow
import Derived.Lib.LaidTab
import Derived.Test.YtbcackicpjobmaaGreatDoorUd
import Derived.Test.YtbcackicpjobmaaGreatDoorUe
set_option linter.unusedSectionVars false
set_option linter.unusedSimpArgs false
set_option linter.unusedVariables false
set_option linter.all false
/- BenchRefuses: whatever bytes, format and config are handed in, the law answers true. -/
set_option linter.unusedVariables false
set_option linter.unusedSectionVars false
namespace Go.Proofs.YtbcackicpjobmaaGreatDoor
open Go Go.ChangeShapes Go.WideShapes Go.ChangeAt Go.RowKit Go.Ev
set_option maxRecDepth 100000
mutual
def flatCells : DataW Unit → List Value
  | .lit (.int k n) => [.int k n]
  | .lit (.bool b) => [.bool b]
  | .agg parts => flatCellsL parts
  | _ => []
def flatCellsL : List (DataW Unit) → List Value
  | [] => []
  | d :: r => flatCells d ++ flatCellsL r
end
def layCells (cs : List Value) : Obj → Obj
  | .cells _ t frozen => .cells cs.toArray t frozen
  | o => o
/-- The world of the witness: the settled one, with the table laid. -/
noncomputable def tabWorld (os : Os) : World :=
  { World.holding Tryz.prog os ⟨#[], #[], []⟩ with heap := Array.modify (World.holding Tryz.prog os ⟨#[], #[], []⟩).heap 0 (layCells (flatCells Rows.laid_umpire_dump_forms)) }
def zeroConf : Value := .agg #[.int .i64 0, .int .i64 0, .int .i64 0, .int .i64 0, .string ByteArray.empty, .string ByteArray.empty, .int .i64 0, .int .u32 0, .bool false]
def zeroConfD {H : Type} : DataW H := .agg [.lit (.int .i64 0), .lit (.int .i64 0), .lit (.int .i64 0), .lit (.int .i64 0), .lit (.string []), .lit (.string []), .lit (.int .i64 0), .lit (.int .u32 0), .lit (.bool false)]
theorem tabs_met (os : Os) (args : Array Value) : laidMet Tryz.prog Rows.benchRefusesRow.laid ((tabWorld os).forCall (fun _ _ => 0) ⟨#[], args, []⟩).memory :=
  laidMet_of_run' 8 (by kernel_rfl) (by kernel_rfl)
theorem refReads (os : Os) {H : Type} (enc : TypeId × Value → H) : ∃ places, DataW.whole enc Tryz.prog ((tabWorld os).forCall (fun _ _ => 0) ⟨#[], #[.slice .none 0 0, .int .i64 0, zeroConf], []⟩).memory Tryz.f3.params.toList Rows.benchRefusesSpec.vars false #[Value.slice .none 0 0, .int .i64 0, zeroConf].toList 8 = some ([.nil, .lit (.int .i64 0), zeroConfD], [], places) :=
  ⟨[], by kernel_rfl⟩
theorem refOwn : ownKnob Tryz.prog.godebug = none := by kernel_rfl
theorem refLaid : laidOutB Tryz.prog = true := by kernel_rfl
theorem refTypes : ∀ t ∈ Tryz.f3.params.toList, Tryz.prog.readableRec t = true ∧ t < Tryz.prog.types.size := by
  rw [Tryz.params3]
  intro t ht
  simp only [List.mem_cons, List.not_mem_nil, or_false] at ht
  rcases ht with rfl | rfl | rfl
  · exact ⟨by kernel_rfl, of_decide_eq_true (by kernel_rfl)⟩
  · exact ⟨by kernel_rfl, of_decide_eq_true (by kernel_rfl)⟩
  · exact ⟨by kernel_rfl, of_decide_eq_true (by kernel_rfl)⟩
theorem refResult : Tryz.f3.resultTypes = #[4] := by kernel_rfl
/-- What the evaluator's answer gives, for every argument. -/
theorem refContract (H : Type) (enc : TypeId × Value → H) (W : World) (base : Nat) (args : Array Value) (ds gs : List (DataW H)) (before : List MemPlace)
    (hval : ∀ (j : Nat) t v, Tryz.f3.params[j]? = some t → args[j]? = some v → Value.okWide Tryz.prog W .any base t v)
    (hW : DataW.Whole enc Tryz.prog Tryz.f3.params.toList Rows.benchRefusesSpec.vars false W args.toList ds gs before) :
    Calls Tryz.prog 3 args W fun e W' => ∃ v, e = .returned v ∧ Rows.benchRefusesSpec.post enc Tryz.prog Tryz.f3 false true false false W args v W' := by
  have hW' := hW
  obtain ⟨p, q, hA0, hV, rfl, hfz, hnd⟩ := hW
  have hA : DataW.TrodAll enc Tryz.prog W 0 (fun _ => true) true Tryz.f3.params.toList args.toList ds p := hA0
  rw [Tryz.params3] at hA hval
  obtain ⟨v0, vs0, d0, ds0, p0, q0, hargs, rfl, rfl, h0, r0⟩ := trodAll_cons hA
  obtain ⟨v1, vs1, d1, ds1, p1, q1, rfl, rfl, rfl, h1, r1⟩ := trodAll_cons r0
  obtain ⟨v2, vs2, d2, ds2, p2, q2, rfl, rfl, rfl, h2, r2⟩ := trodAll_cons r1
  obtain ⟨rfl, rfl, rfl⟩ := trodAll_nil r2
  obtain rfl : args = #[v0, v1, v2] := by cases args; simp_all
  obtain ⟨rfl, rfl⟩ := trodVars_none hV
  obtain ⟨fuel, h0'⟩ := h0
  obtain ⟨w0, u0, L, q0, g0, k0⟩ := read_bytes h0'
  have q0' : v0 = w0 := by
    have hv0 := hval 0 22 v0 rfl rfl
    unfold Value.okWide at hv0
    rw [Tryz.underlying22] at hv0
    cases v0 <;> first | (cases q0; rfl) | skip
    all_goals (first | cases hv0 | (obtain ⟨cs, hcs, _⟩ := hv0; cases hcs) | exact hv0.elim)
  subst q0'
  obtain ⟨n, rfl, rfl, _, _⟩ := open_int Tryz.underlying3 (hval 1 3 v1 rfl rfl) h1
  have g1 : VRel (cellsOfW W) noRho (.int .i64 n) (.int .i64 n) := by unfold VRel; rfl
  obtain ⟨c, g2⟩ := read_conf (hval 2 25 v2 rfl rfl) h2
  have ha : LRel (cellsOfW W) noRho [u0, .int .i64 n, c.v] (#[v0, .int .i64 n, v2] : Array Value).toList := lrel3 g0 g1 g2
  have hrun := Y9_good.run (law_ev u0 L n c k0) W ha
  refine Calls.mono (show Calls Tryz.prog 3 #[v0, .int .i64 n, v2] W _ from hrun) fun e W' he => ?_
  obtain ⟨r, M', ρ', rfl, hc, hb, _⟩ := he
  unfold VRel at hc
  subst hc
  exact ⟨_, rfl, post_of_below refLaid refTypes rfl refResult Tryz.underlying4 ⟨rfl, rfl, rfl⟩ hW' hb⟩
/-- The second form's step. -/
theorem refLifted (os : Os) (started : os.Started) (H : Type) (enc : TypeId × Value → H) (F : Stop.Interp) :
    ReturnsInHanded {} Tryz.checked os 3 .any ((OpenSpec.ofChange Rows.benchRefusesSpec).preRow enc Tryz.prog Tryz.f3 Rows.benchRefusesRow.domain false Rows.benchRefusesRow.laid) (((OpenSpec.ofChange Rows.benchRefusesSpec).at F).post enc Tryz.prog Tryz.f3 false true false false) := by
  obtain ⟨places, hx⟩ := refReads os enc
  refine returnsInHanded_of_row (C := Tryz.checked) (s := OpenSpec.ofChange Rows.benchRefusesSpec) refOwn started (by kernel_rfl) Tryz.func3
    (witness_row_at (enc := enc) (C := Tryz.checked) false (tabWorld os) #[.slice .none 0 0, .int .i64 0, zeroConf] rfl (by kernel_rfl) (by kernel_rfl) (by kernel_rfl)
      (OpenSpec.preRow_of_cond 8 hx (by kernel_rfl) (fun k hk => by cases hk) (by kernel_rfl) (tabs_met os _))) ?_
  intro W base args ds gs before hval hW _ hcond _ hL _ _
  exact refContract H enc W base args ds gs before hval hW
theorem refSaid : Rows.BenchRefusesSaid :=
  OpenClaim.holds_of_cond 3 Tryz.f3 rfl rfl rfl rfl rfl rfl rfl ⟨rfl, rfl, rfl, rfl, rfl⟩ rfl rfl rfl rfl rfl (by kernel_rfl) Tryz.func3 (by kernel_rfl)
    (of_decide_eq_true (by kernel_rfl)) (by unfold Func.isWrapper; first | (rw [if_pos (by decide +kernel)]; kernel_rfl) | (rw [if_neg (by decide +kernel)]; exact ⟨rfl, rfl⟩))
    (fun os started H enc _ F => by rw [OpenClaim.pre_eq_preRow]; exact refLifted os started H enc F)
theorem refPlain (f : FuncId) (fn : Func) (hf : Tryz.pinned.checked.prog.funcNamed "umpire/umpirelaw33.BenchRefuses" = some f) (hfn : Tryz.pinned.checked.prog.funcs[f]? = some fn) :
    true = Tryz.pinned.checked.prog.looks [] ∧ ∀ (j : Nat) t, fn.params[j]? = some t → Tryz.pinned.checked.prog.wantsStandIn t = false := by
  obtain rfl : f = 3 := Option.some.inj ((show Tryz.prog.funcNamed "umpire/umpirelaw33.BenchRefuses" = some 3 by kernel_rfl).symm.trans hf) |>.symm
  obtain rfl : fn = Tryz.f3 := (Option.some.inj (Tryz.func3.symm.trans hfn)).symm
  refine ⟨by kernel_rfl, fun j t ht => ?_⟩
  rw [Tryz.params3] at ht
  have hm : t = 22 ∨ t = 3 ∨ t = 25 := by simpa using Array.mem_of_getElem? ht
  rcases hm with rfl | rfl | rfl
  · exact (show Tryz.prog.wantsStandIn 22 = false by kernel_rfl)
  · exact (show Tryz.prog.wantsStandIn 3 = false by kernel_rfl)
  · exact (show Tryz.prog.wantsStandIn 25 = false by kernel_rfl)
/-- BenchRefuses' card. -/
theorem refCard : Rows.BenchRefusesCardSaid :=
  Claim7.holds_tied_plain_at .later [] _ _ _ _ refSaid (fun _ h => by cases h) (by kernel_rfl) (fun _ h => by cases h) benchRefuses_row_tie rfl ⟨rfl, rfl⟩ (by kernel_rfl) rfl refPlain (by kernel_rfl)
end Go.Proofs.YtbcackicpjobmaaGreatDoor
