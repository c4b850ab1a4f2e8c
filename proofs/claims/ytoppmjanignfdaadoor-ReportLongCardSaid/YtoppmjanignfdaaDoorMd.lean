/- A part of the proof of ReportBack (the second form: what is handed in is of bulk at most 1048576): no statement of the seat's stands here. -/
import Derived.Test.YtoppmjanignfdaaDoorCards
import Derived.Test.YtoppmjanignfdaaDoorTie
import Derived.WalkKit
import Derived.ProofKit
import Derived.OpenShut
import Derived.Deep.DeepHandedRow
import Derived.Lib.LaidTab
set_option linter.unusedSectionVars false
set_option linter.unusedSimpArgs false
set_option linter.unusedVariables false
set_option linter.all false
/- The world of the witness: the settled one, with the two tables laid. -/
set_option linter.unusedVariables false
namespace Go.Proofs.YtoppmjanignfdaaDoor
open Go Go.ChangeShapes Go.WideShapes Go.ChangeAt Go.RowKit
set_option maxRecDepth 100000
mutual
def flatCells : DataW Unit → List Value
  | .lit (.int k n) => [.int k n]
  | .agg parts => flatCellsL parts
  | _ => []
def flatCellsL : List (DataW Unit) → List Value
  | [] => []
  | d :: r => flatCells d ++ flatCellsL r
end
def layCells (cs : List Value) : Obj → Obj
  | .cells _ t frozen => .cells cs.toArray t frozen
  | o => o
noncomputable def tabWorld (os : Os) : World :=
  { World.holding Tryd.prog os ⟨#[], #[], []⟩ with heap := Array.modify (Array.modify (World.holding Tryd.prog os ⟨#[], #[], []⟩).heap 2 (layCells (flatCells Rows.laid_unicode_utf8_acceptRanges))) 1 (layCells (flatCells Rows.laid_unicode_utf8_first)) }
def zeroRep : Value := .agg #[.int .i64 0, .int .i64 0, .int .i64 0, .int .i64 0, .slice none 0 0, .int .i64 0, .slice none 0 0, .slice none 0 0]
def zeroRepD {H : Type} : DataW H := .agg [.agg [.lit (.int .i64 0), .lit (.int .i64 0), .agg [.lit (.int .i64 0), .lit (.int .i64 0)], .nil], .lit (.int .i64 0), .nil, .nil]
theorem tabs_met (os : Os) (args : Array Value) : laidMet Tryd.prog Rows.reportBackUptoRow.laid ((tabWorld os).forCall (fun _ _ => 0) ⟨#[], args, []⟩).memory :=
  laidMet_of_run' 8 (by kernel_rfl) (by kernel_rfl)
theorem backReads (os : Os) {H : Type} (enc : TypeId × Value → H) : ∃ places, DataW.whole enc Tryd.prog ((tabWorld os).forCall (fun _ _ => 0) ⟨#[], #[zeroRep, zeroRep, .string ByteArray.empty], []⟩).memory Tryd.f3.params.toList Rows.reportBackSpec.vars false #[zeroRep, zeroRep, Value.string ByteArray.empty].toList 8 = some ([zeroRepD, zeroRepD, .lit (.string [])], [], places) :=
  ⟨[], by kernel_rfl⟩
end Go.Proofs.YtoppmjanignfdaaDoor
