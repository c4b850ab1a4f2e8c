/-
  DERIVED. GIVEN WITH THE SEED: THE CARDS: each row of YtbcackicpjobmaaGreatDoorRows.lean that lists a variable, with what it lists TIED to the program's text (the seventh form; the later family's looks); each row that meets fmt, with fmt's text TOLD by the authors' own Lean function (tested against real Go, not proved from fmt's source: count such statements apart). THE CARD IS WHAT COUNTS. Prove the row's statement (the work); the ties are given (YtbcackicpjobmaaGreatDoorTie.lean); close each card by the builder's one call (the guide's Derived/Test/ToyasCard.lean, 'card_holds'). Laid BY PROGRAM, IN A SANDBOX (cutbox-door.mjs). By AI agents, Wed Nov 11 2026. No macro, syntax, notation, axiom, sorry.
-/
import Derived.Test.YtbcackicpjobmaaGreatDoorRows
import GoSem.ClaimSeven
namespace Go.Proofs.YtbcackicpjobmaaGreatDoor
namespace Rows

/-- THE TIED CARD OF 'umpirelaw33.BenchRefuses'. -/
def benchRefusesCard : Claim7 := { stood := { row := benchRefusesRow, standIns := [], harness := (true, "d8587ac110dba95f1d05af727dd084b5a67f2635fa55c4a9261e41893d470e28"), looks := true }, kinds := [], alts := [], laidByText := true, laidKinds := [.data], laidTests := true, laidLooks := .later }
def BenchRefusesCardSaid : Prop := Claim7.holds Tryz.pinned (.plain (OpenSpec.ofChange benchRefusesSpec)) benchRefusesCard

/-- THE SECOND FORM's CARD OF 'umpirelaw33.BenchRefuses'. -/
def benchRefusesUptoCard : Claim7 := { stood := { row := benchRefusesUptoRow, standIns := [], harness := (true, "d8587ac110dba95f1d05af727dd084b5a67f2635fa55c4a9261e41893d470e28"), looks := true }, kinds := [], alts := [], laidByText := true, laidKinds := [.data], laidTests := true, laidLooks := .later }
def BenchRefusesUptoCardSaid : Prop := Claim7.holds Tryz.pinned (.plain (OpenSpec.upto benchRefusesSpec)) benchRefusesUptoCard
end Rows
end Go.Proofs.YtbcackicpjobmaaGreatDoor
