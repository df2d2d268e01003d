/-
  DERIVED. GIVEN WITH THE SEED: THE CARDS: each row of YtejbkafligpmbaaDoorRows.lean that lists a variable, with what it lists TIED to the program's text (the seventh form; the later family's looks); each row that meets fmt, with fmt's text TOLD by the authors' own Lean function (tested against real Go, not proved from fmt's source: count such statements apart). THE CARD IS WHAT COUNTS. Prove the row's statement (the work); the ties are given (YtejbkafligpmbaaDoorTie.lean); close each card by the builder's one call (the guide's Derived/Test/ToyasCard.lean, 'card_holds'). Laid BY PROGRAM, IN A SANDBOX (cutbox-door.mjs). By AI agents, Wed Nov 11 2026. No macro, syntax, notation, axiom, sorry.
-/
import Derived.Test.YtejbkafligpmbaaDoorRows
import GoSem.ClaimSeven
namespace Go.Proofs.YtejbkafligpmbaaDoor
namespace Rows

/-- THE TIED CARD OF 'pedagoguelaw8.TensorTexts'. -/
def tensorTextsCard : Claim7 := { stood := { row := tensorTextsRow, standIns := [], harness := (true, "1614c8e6954fafe9ab6e2ea07352ce8f894995b5d25fe54cba415f1518f52f1c"), looks := false }, kinds := [], alts := [], laidByText := true, laidKinds := [.data, .data, .data], laidTests := true, laidLooks := .later }
def TensorTextsCardSaid : Prop := Claim7.holds Tryd.pinned (.plain (OpenSpec.ofChange tensorTextsSpec)) tensorTextsCard

/-- THE TIED CARD OF 'pedagoguelaw8.TensorForms'. -/
def tensorFormsCard : Claim7 := { stood := { row := tensorFormsRow, standIns := [], harness := (true, "1614c8e6954fafe9ab6e2ea07352ce8f894995b5d25fe54cba415f1518f52f1c"), looks := false }, kinds := [], alts := [], laidByText := true, laidKinds := [.data, .data, .data], laidTests := true, laidLooks := .later }
def TensorFormsCardSaid : Prop := Claim7.holds Tryd.pinned (.plain (OpenSpec.ofChange tensorFormsSpec)) tensorFormsCard

/-- THE SECOND FORM's CARD OF 'pedagoguelaw8.TensorTexts'. -/
def tensorTextsUptoCard : Claim7 := { stood := { row := tensorTextsUptoRow, standIns := [], harness := (true, "1614c8e6954fafe9ab6e2ea07352ce8f894995b5d25fe54cba415f1518f52f1c"), looks := false }, kinds := [], alts := [], laidByText := true, laidKinds := [.data, .data, .data], laidTests := true, laidLooks := .later }
def TensorTextsUptoCardSaid : Prop := Claim7.holds Tryd.pinned (.plain (OpenSpec.upto tensorTextsSpec)) tensorTextsUptoCard

/-- THE SECOND FORM's CARD OF 'pedagoguelaw8.TensorForms'. -/
def tensorFormsUptoCard : Claim7 := { stood := { row := tensorFormsUptoRow, standIns := [], harness := (true, "1614c8e6954fafe9ab6e2ea07352ce8f894995b5d25fe54cba415f1518f52f1c"), looks := false }, kinds := [], alts := [], laidByText := true, laidKinds := [.data, .data, .data], laidTests := true, laidLooks := .later }
def TensorFormsUptoCardSaid : Prop := Claim7.holds Tryd.pinned (.plain (OpenSpec.upto tensorFormsSpec)) tensorFormsUptoCard
end Rows
end Go.Proofs.YtejbkafligpmbaaDoor
