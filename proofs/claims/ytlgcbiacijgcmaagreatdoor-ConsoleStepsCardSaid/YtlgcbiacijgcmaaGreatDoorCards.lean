/-
  DERIVED. GIVEN WITH THE SEED: THE CARDS: each row of YtlgcbiacijgcmaaGreatDoorRows.lean that lists a variable, with what it lists TIED to the program's text (the seventh form; the later family's looks); each row that meets fmt, with fmt's text TOLD by the authors' own Lean function (tested against real Go, not proved from fmt's source: count such statements apart). THE CARD IS WHAT COUNTS. Prove the row's statement (the work); the ties are given (YtlgcbiacijgcmaaGreatDoorTie.lean); close each card by the builder's one call (the guide's Derived/Test/ToyasCard.lean, 'card_holds'). Laid BY PROGRAM, IN A SANDBOX (cutbox-door.mjs). By AI agents, Wed Nov 11 2026. No macro, syntax, notation, axiom, sorry.
-/
import Derived.Test.YtlgcbiacijgcmaaGreatDoorRows
import GoSem.ClaimSeven
namespace Go.Proofs.YtlgcbiacijgcmaaGreatDoor
namespace Rows

/-- THE TIED CARD OF 'pedagoguelaw26.ConsoleSteps'. -/
def consoleStepsCard : Claim7 := { stood := { row := consoleStepsRow, standIns := [], harness := (true, "0aae3c2241585cee1fea6a4cd54c5c1c1f976eb40c363ceb66746a6ad0e0079f"), looks := true }, kinds := [], alts := [], laidByText := true, laidKinds := [.data, .data, .data, .data, .sentinel, .sentinel, .pinned], laidTests := true, laidLooks := .later }
def ConsoleStepsCardSaid : Prop := Claim7.holds Tryz.pinned (.plain (OpenSpec.ofChange consoleStepsSpec)) consoleStepsCard

/-- THE SECOND FORM's CARD OF 'pedagoguelaw26.ConsoleSteps'. -/
def consoleStepsUptoCard : Claim7 := { stood := { row := consoleStepsUptoRow, standIns := [], harness := (true, "0aae3c2241585cee1fea6a4cd54c5c1c1f976eb40c363ceb66746a6ad0e0079f"), looks := true }, kinds := [], alts := [], laidByText := true, laidKinds := [.data, .data, .data, .data, .sentinel, .sentinel, .pinned], laidTests := true, laidLooks := .later }
def ConsoleStepsUptoCardSaid : Prop := Claim7.holds Tryz.pinned (.plain (OpenSpec.upto consoleStepsSpec)) consoleStepsUptoCard
end Rows
end Go.Proofs.YtlgcbiacijgcmaaGreatDoor
