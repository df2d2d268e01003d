/-
  DERIVED. GIVEN WITH THE SEED: THE CARDS: each row of YthphkjgkgdjmdaaDoorRows.lean that lists a variable, with what it lists TIED to the program's text (the seventh form; the later family's looks); each row that meets fmt, with fmt's text TOLD by the authors' own Lean function (tested against real Go, not proved from fmt's source: count such statements apart). THE CARD IS WHAT COUNTS. Prove the row's statement (the work); the ties are given (YthphkjgkgdjmdaaDoorTie.lean); close each card by the builder's one call (the guide's Derived/Test/ToyasCard.lean, 'card_holds'). Laid BY PROGRAM, IN A SANDBOX (cutbox-door.mjs). By AI agents, Wed Nov 11 2026. No macro, syntax, notation, axiom, sorry.
-/
import Derived.Test.YthphkjgkgdjmdaaDoorRows
import GoSem.ClaimSeven
namespace Go.Proofs.YthphkjgkgdjmdaaDoor
namespace Rows

/-- THE TIED CARD OF 'pedagoguelaw15.ModelParses'. -/
def modelParsesCard : Claim7 := { stood := { row := modelParsesRow, standIns := [], harness := (true, "c52ea755b43644c5a8a11620e7507d56813df7d0b82f83b338fec51bf4f535fb"), looks := true }, kinds := [], alts := [], laidByText := true, laidKinds := [.data, .data, .data, .data, .sentinel, .sentinel, .pinned], laidTests := true, laidLooks := .later }
def ModelParsesCardSaid : Prop := Claim7.holds Tryd.pinned (.plain (OpenSpec.ofChange modelParsesSpec)) modelParsesCard

/-- THE TIED CARD OF 'pedagoguelaw15.ModelTells'. -/
def modelTellsCard : Claim7 := { stood := { row := modelTellsRow, standIns := [], harness := (true, "c52ea755b43644c5a8a11620e7507d56813df7d0b82f83b338fec51bf4f535fb"), looks := true }, kinds := [], alts := [], laidByText := true, laidKinds := [.data, .data, .data, .data, .sentinel, .sentinel, .pinned], laidTests := true, laidLooks := .later }
def ModelTellsCardSaid : Prop := Claim7.holds Tryd.pinned (.plain (OpenSpec.ofChange modelTellsSpec)) modelTellsCard

/-- THE TIED CARD OF 'pedagoguelaw15.ModelBegins'. -/
def modelBeginsCard : Claim7 := { stood := { row := modelBeginsRow, standIns := [], harness := (true, "c52ea755b43644c5a8a11620e7507d56813df7d0b82f83b338fec51bf4f535fb"), looks := true }, kinds := [], alts := [], laidByText := true, laidKinds := [.data, .data, .data, .data, .sentinel, .sentinel, .pinned], laidTests := true, laidLooks := .later }
def ModelBeginsCardSaid : Prop := Claim7.holds Tryd.pinned (.plain (OpenSpec.ofChange modelBeginsSpec)) modelBeginsCard

/-- THE TIED CARD OF 'pedagoguelaw15.ModelForms'. -/
def modelFormsCard : Claim7 := { stood := { row := modelFormsRow, standIns := [], harness := (true, "c52ea755b43644c5a8a11620e7507d56813df7d0b82f83b338fec51bf4f535fb"), looks := true }, kinds := [], alts := [], laidByText := true, laidKinds := [.data, .data, .data, .data, .sentinel, .sentinel, .pinned], laidTests := true, laidLooks := .later }
def ModelFormsCardSaid : Prop := Claim7.holds Tryd.pinned (.plain (OpenSpec.ofChange modelFormsSpec)) modelFormsCard

/-- THE TIED CARD OF 'pedagoguelaw15.ModelBack'. -/
def modelBackCard : Claim7 := { stood := { row := modelBackRow, standIns := [], harness := (true, "c52ea755b43644c5a8a11620e7507d56813df7d0b82f83b338fec51bf4f535fb"), looks := true }, kinds := [], alts := [], laidByText := true, laidKinds := [.data, .data, .data, .data, .sentinel, .sentinel, .pinned], laidTests := true, laidLooks := .later }
def ModelBackCardSaid : Prop := Claim7.holds Tryd.pinned (.plain (OpenSpec.ofChange modelBackSpec)) modelBackCard

/-- THE SECOND FORM's CARD OF 'pedagoguelaw15.ModelParses'. -/
def modelParsesUptoCard : Claim7 := { stood := { row := modelParsesUptoRow, standIns := [], harness := (true, "c52ea755b43644c5a8a11620e7507d56813df7d0b82f83b338fec51bf4f535fb"), looks := true }, kinds := [], alts := [], laidByText := true, laidKinds := [.data, .data, .data, .data, .sentinel, .sentinel, .pinned], laidTests := true, laidLooks := .later }
def ModelParsesUptoCardSaid : Prop := Claim7.holds Tryd.pinned (.plain (OpenSpec.upto modelParsesSpec)) modelParsesUptoCard

/-- THE SECOND FORM's CARD OF 'pedagoguelaw15.ModelTells'. -/
def modelTellsUptoCard : Claim7 := { stood := { row := modelTellsUptoRow, standIns := [], harness := (true, "c52ea755b43644c5a8a11620e7507d56813df7d0b82f83b338fec51bf4f535fb"), looks := true }, kinds := [], alts := [], laidByText := true, laidKinds := [.data, .data, .data, .data, .sentinel, .sentinel, .pinned], laidTests := true, laidLooks := .later }
def ModelTellsUptoCardSaid : Prop := Claim7.holds Tryd.pinned (.plain (OpenSpec.upto modelTellsSpec)) modelTellsUptoCard

/-- THE SECOND FORM's CARD OF 'pedagoguelaw15.ModelBegins'. -/
def modelBeginsUptoCard : Claim7 := { stood := { row := modelBeginsUptoRow, standIns := [], harness := (true, "c52ea755b43644c5a8a11620e7507d56813df7d0b82f83b338fec51bf4f535fb"), looks := true }, kinds := [], alts := [], laidByText := true, laidKinds := [.data, .data, .data, .data, .sentinel, .sentinel, .pinned], laidTests := true, laidLooks := .later }
def ModelBeginsUptoCardSaid : Prop := Claim7.holds Tryd.pinned (.plain (OpenSpec.upto modelBeginsSpec)) modelBeginsUptoCard

/-- THE SECOND FORM's CARD OF 'pedagoguelaw15.ModelForms'. -/
def modelFormsUptoCard : Claim7 := { stood := { row := modelFormsUptoRow, standIns := [], harness := (true, "c52ea755b43644c5a8a11620e7507d56813df7d0b82f83b338fec51bf4f535fb"), looks := true }, kinds := [], alts := [], laidByText := true, laidKinds := [.data, .data, .data, .data, .sentinel, .sentinel, .pinned], laidTests := true, laidLooks := .later }
def ModelFormsUptoCardSaid : Prop := Claim7.holds Tryd.pinned (.plain (OpenSpec.upto modelFormsSpec)) modelFormsUptoCard

/-- THE SECOND FORM's CARD OF 'pedagoguelaw15.ModelBack'. -/
def modelBackUptoCard : Claim7 := { stood := { row := modelBackUptoRow, standIns := [], harness := (true, "c52ea755b43644c5a8a11620e7507d56813df7d0b82f83b338fec51bf4f535fb"), looks := true }, kinds := [], alts := [], laidByText := true, laidKinds := [.data, .data, .data, .data, .sentinel, .sentinel, .pinned], laidTests := true, laidLooks := .later }
def ModelBackUptoCardSaid : Prop := Claim7.holds Tryd.pinned (.plain (OpenSpec.upto modelBackSpec)) modelBackUptoCard
end Rows
end Go.Proofs.YthphkjgkgdjmdaaDoor
