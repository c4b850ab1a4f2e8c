/- A part of the proof of BenchRefuses: no statement of the seat's stands here. -/
import Derived.KernelRfl
import Derived.Test.YtbcackicpjobmaaGreatDoorZb
import Derived.Test.YtbcackicpjobmaaGreatDoorZc
set_option linter.unusedSectionVars false
set_option linter.unusedSimpArgs false
set_option linter.unusedVariables false
set_option linter.all false
/- The first context over the program of BenchRefuses. -/
set_option linter.unusedVariables false
namespace Go.Proofs
open Go.Shelf Go.RowKit
theorem Tryz.extra : Builder.Extra Tryz.prog Tryz.laysJoin_ren where
  sizeBuilder := by kernel_rfl
  liesBuilder := by kernel_rfl
  t5 := by kernel_rfl
  a5 := Tryz.isAgg5
  z5 := Tryz.sizeOf5
  v5 := Tryz.zeroValue5
  infoByte := by kernel_rfl
  cellsByte := by kernel_rfl
  sizeByte := by kernel_rfl
  neB5 := by decide
end Go.Proofs
namespace Go.Ev
open Go Go.Proofs
noncomputable def XZ : Ctx where
  P := Tryz.prog
  glob := fun _ => .dead
  spec := fun f => if f = 41 then some spJoin else if f = 107 then some (spCheck 251 2) else if f = 75 then some (spString 251 2 5) else if f = 177 then some (spSorted 199) else none
  ext := fun _ => none
  mutArgs := fun f => f == 20 || f == 158 || f == 176
  keepRes := fun f => f == 20
  keepSlots := fun _ => []
  typed := fun t => if t = 251 then some (251, 2) else none
theorem XZ_ext {B : Mem} : CtxOK XZ B := by
  refine ⟨fun g M ρ _ => by unfold XZ; simp only; unfold VRel; trivial, fun f F args v hF hv w M ρ cargs hB hM ha => ?_⟩
  cases hF
theorem enterZ (f : FuncId) (h : ((Tryz.prog.funcs[f]?).map fun fn => (fn.name == "runtime.NumGoroutine") || fn.body.isNone) = some false) : Enters Tryz.prog f := by
  obtain ⟨fn, h1, h2⟩ := Option.map_eq_some_iff.1 h
  simp only [Bool.or_eq_false_iff] at h2
  exact ⟨fn, h1, h2.1, h2.2⟩
theorem XZ_spec {B : Mem} : SpecOK XZ B := by
  intro f F hF args H r H' h
  have hF' : (if f = 41 then some spJoin else if f = 107 then some (spCheck 251 2) else if f = 75 then some (spString 251 2 5) else if f = 177 then some (spSorted 199) else none) = some F := hF
  split at hF'
  · rename_i e
    subst e
    cases hF'
    exact ⟨enterZ 41 (by kernel_rfl), spJoin_ok Tryz.laysJoin Tryz.extra h⟩
  split at hF'
  · rename_i e
    subst e
    cases hF'
    exact ⟨enterZ 107 (by kernel_rfl), spCheck_ok { Tryz.laysJoin with } Tryz.extra.toX72 (by decide) (by kernel_rfl) h⟩
  split at hF'
  · rename_i e
    subst e
    cases hF'
    exact ⟨enterZ 75 (by kernel_rfl), spString_ok { Tryz.laysJoin with } Tryz.extra (by decide) h⟩
  split at hF'
  · rename_i e
    subst e
    cases hF'
    exact ⟨enterZ 177 (by kernel_rfl), spSorted_ok (r := Tryz.keysA_ren) (r' := Tryz.sortedA_ren) (r'' := Tryz.sortA_ren) { Tryz.keysA with } Tryz.sortedA Tryz.sortA rfl rfl Tryz.underlying9
      (fun args w => callFunc_enter (enterZ 198 (by kernel_rfl)) args w) (fun args w => callFunc_enter (enterZ 199 (by kernel_rfl)) args w) h⟩
  · cases hF'
theorem mixed : Tryz.prog.follows .mixedOrders = true := by kernel_rfl
theorem namesB : (Tryz.prog.funcs.toList.all fun fn => !(fn.name == "runtime.NumGoroutine")) = true := by kernel_rfl
theorem names : NamesOK Tryz.prog := fun f fn h => by
  have := List.all_eq_true.1 namesB fn (Array.mem_toList_iff.2 (Array.mem_of_getElem? h))
  simpa using this
theorem XZ_good : Good XZ := ⟨mixed, names, fun _ => XZ_ext, fun _ => XZ_spec⟩
end Go.Ev
