/-
  DERIVED. GIVEN WITH THE SEED: THE CARDS: each row of YtoppmjanignfdaaDoorRows.lean that lists a variable, with what it lists TIED to the program's text (the seventh form; the later family's looks); each row that meets fmt, with fmt's text TOLD by the authors' own Lean function (tested against real Go, not proved from fmt's source: count such statements apart). THE CARD IS WHAT COUNTS. Prove the row's statement (the work); the ties are given (YtoppmjanignfdaaDoorTie.lean); close each card by the builder's one call (the guide's Derived/Test/ToyasCard.lean, 'card_holds'). Laid BY PROGRAM, IN A SANDBOX (cutbox-door.mjs). By AI agents, Wed Nov 11 2026. No macro, syntax, notation, axiom, sorry.
-/
import Derived.Test.YtoppmjanignfdaaDoorRows
import GoSem.ClaimSeven
namespace Go.Proofs.YtoppmjanignfdaaDoor
namespace Rows

/-- THE TIED CARD OF 'umpirelaw32.ReportBack'. -/
def reportBackCard : Claim7 := { stood := { row := reportBackRow, standIns := [], harness := (true, "ab917b593a3937acee235a347d9f8f285df3411537c10749b4708f680eae8ddc"), looks := false }, kinds := [], alts := [], laidByText := true, laidKinds := [.data, .pinned], laidTests := true, laidLooks := .later }
def ReportBackCardSaid : Prop := Claim7.holds Tryd.pinned (.plain (OpenSpec.ofChange reportBackSpec)) reportBackCard

/-- THE TIED CARD OF 'umpirelaw32.ReportLong'. -/
def reportLongCard : Claim7 := { stood := { row := reportLongRow, standIns := [], harness := (true, "ab917b593a3937acee235a347d9f8f285df3411537c10749b4708f680eae8ddc"), looks := false }, kinds := [], alts := [], laidByText := true, laidKinds := [.data, .pinned], laidTests := true, laidLooks := .later }
def ReportLongCardSaid : Prop := Claim7.holds Tryd.pinned (.plain (OpenSpec.ofChange reportLongSpec)) reportLongCard

/-- THE TIED CARD OF 'umpirelaw32.ReportKeeps'. -/
def reportKeepsCard : Claim7 := { stood := { row := reportKeepsRow, standIns := [], harness := (true, "ab917b593a3937acee235a347d9f8f285df3411537c10749b4708f680eae8ddc"), looks := false }, kinds := [], alts := [], laidByText := true, laidKinds := [.data, .pinned], laidTests := true, laidLooks := .later }
def ReportKeepsCardSaid : Prop := Claim7.holds Tryd.pinned (.plain (OpenSpec.ofChange reportKeepsSpec)) reportKeepsCard

/-- THE SECOND FORM's CARD OF 'umpirelaw32.ReportBack'. -/
def reportBackUptoCard : Claim7 := { stood := { row := reportBackUptoRow, standIns := [], harness := (true, "ab917b593a3937acee235a347d9f8f285df3411537c10749b4708f680eae8ddc"), looks := false }, kinds := [], alts := [], laidByText := true, laidKinds := [.data, .pinned], laidTests := true, laidLooks := .later }
def ReportBackUptoCardSaid : Prop := Claim7.holds Tryd.pinned (.plain (OpenSpec.upto reportBackSpec)) reportBackUptoCard

/-- THE SECOND FORM's CARD OF 'umpirelaw32.ReportLong'. -/
def reportLongUptoCard : Claim7 := { stood := { row := reportLongUptoRow, standIns := [], harness := (true, "ab917b593a3937acee235a347d9f8f285df3411537c10749b4708f680eae8ddc"), looks := false }, kinds := [], alts := [], laidByText := true, laidKinds := [.data, .pinned], laidTests := true, laidLooks := .later }
def ReportLongUptoCardSaid : Prop := Claim7.holds Tryd.pinned (.plain (OpenSpec.upto reportLongSpec)) reportLongUptoCard

/-- THE SECOND FORM's CARD OF 'umpirelaw32.ReportKeeps'. -/
def reportKeepsUptoCard : Claim7 := { stood := { row := reportKeepsUptoRow, standIns := [], harness := (true, "ab917b593a3937acee235a347d9f8f285df3411537c10749b4708f680eae8ddc"), looks := false }, kinds := [], alts := [], laidByText := true, laidKinds := [.data, .pinned], laidTests := true, laidLooks := .later }
def ReportKeepsUptoCardSaid : Prop := Claim7.holds Tryd.pinned (.plain (OpenSpec.upto reportKeepsSpec)) reportKeepsUptoCard
end Rows
end Go.Proofs.YtoppmjanignfdaaDoor
