/-
  No cell of these rows narrows 'for every input' (looked for: loops, veiled, ifaces, maps, wideKeys, modest, calm, conditions, laid).
  DERIVED. THE GIVEN ROWS OF THIS SEAT. 6 by the template 'for every input the law returns true; each argument reads behind the call as it read before'; 0 by the template 'total and deterministic' (their statements: YtmleeffinagncaaTotals.lean).
  GIVEN WITH THE SEED: the statements are not yours to turn. If you find one false, say at which input.
  Laid BY PROGRAM, IN A SANDBOX (cutbox-rows.mjs): the forced cells as the released guide's own fill.sh prints them over the translation 8a3fb951d73e2864… (all of the seat's roots in one cut). By AI agents, Wed Nov 11 2026. No macro, syntax, notation, axiom, sorry.
-/
import Derived.Test.YtmleeffinagncaaChecked
import GoSem.Claim
import GoSem.ClaimJoined
import GoSem.ClaimMapViews
import Derived.JoinedTies
import Derived.KernelRfl
namespace Go.Proofs.Ytmleeffinagncaa
/- THE CELL 'sum', in the pinned program and in every row, IS THE sha256 OF THE DUMP (.gsa) THAT YtmleeffinagncaaProg.lean LOADS. Nothing in Lean hashes anything: it is a label: what it is worth is what the hold of that sum in a sandbox is worth. -/
noncomputable def Try.pinned : Pinned := { name := "ytmleeffinagncaa", sum := "8a3fb951d73e2864facffe3a1b3533576e15fe21f591ac41379f201c5c33d1b6", checked := Try.checked }
namespace Rows
def none {H : Type} : Left H := { results := [], args := [] }

/-- 'pedagoguelaw11.ConvMoves': WHATEVER THE INPUT: true; the input reads as it did. -/
def convMovesSpec : ChangeSpec := { name := "convMoves", fn := fun _ => fun
  | [d1, d2, d3, d4, d5] => { results := [.lit (.bool true)], args := [d1, d2, d3, d4, d5] }
  | _ => none }
def convMovesRow : OpenClaim := { program := "ytmleeffinagncaa", sum := "8a3fb951d73e2864facffe3a1b3533576e15fe21f591ac41379f201c5c33d1b6", func := "pedagogue/pedagoguelaw11.ConvMoves", spec := "convMoves", apart := false }
def ConvMovesSaid : Prop := convMovesRow.holds Try.pinned (OpenSpec.ofChange convMovesSpec)

/-- ITS FALSE NEIGHBOUR: 'it returns false'. Refute it at one input. -/
def convMovesWrong : ChangeSpec := { name := "convMoves", fn := fun _ => fun
  | [d1, d2, d3, d4, d5] => { results := [.lit (.bool false)], args := [d1, d2, d3, d4, d5] }
  | _ => none }
def ConvMovesWrongFalsely : Prop := convMovesRow.holds Try.pinned (OpenSpec.ofChange convMovesWrong)

/-- 'pedagoguelaw11.ConvPad': WHATEVER THE INPUT: true; the input reads as it did. -/
def convPadSpec : ChangeSpec := { name := "convPad", fn := fun _ => fun
  | [d1, d2, d3, d4, d5, d6] => { results := [.lit (.bool true)], args := [d1, d2, d3, d4, d5, d6] }
  | _ => none }
def convPadRow : OpenClaim := { program := "ytmleeffinagncaa", sum := "8a3fb951d73e2864facffe3a1b3533576e15fe21f591ac41379f201c5c33d1b6", func := "pedagogue/pedagoguelaw11.ConvPad", spec := "convPad", apart := false }
def ConvPadSaid : Prop := convPadRow.holds Try.pinned (OpenSpec.ofChange convPadSpec)

/-- ITS FALSE NEIGHBOUR: 'it returns false'. Refute it at one input. -/
def convPadWrong : ChangeSpec := { name := "convPad", fn := fun _ => fun
  | [d1, d2, d3, d4, d5, d6] => { results := [.lit (.bool false)], args := [d1, d2, d3, d4, d5, d6] }
  | _ => none }
def ConvPadWrongFalsely : Prop := convPadRow.holds Try.pinned (OpenSpec.ofChange convPadWrong)

/-- 'pedagoguelaw11.ConvSums': WHATEVER THE INPUT: true; the input reads as it did. -/
def convSumsSpec : ChangeSpec := { name := "convSums", fn := fun _ => fun
  | [d1, d2, d3, d4, d5, d6, d7] => { results := [.lit (.bool true)], args := [d1, d2, d3, d4, d5, d6, d7] }
  | _ => none }
def convSumsRow : OpenClaim := { program := "ytmleeffinagncaa", sum := "8a3fb951d73e2864facffe3a1b3533576e15fe21f591ac41379f201c5c33d1b6", func := "pedagogue/pedagoguelaw11.ConvSums", spec := "convSums", apart := false }
def ConvSumsSaid : Prop := convSumsRow.holds Try.pinned (OpenSpec.ofChange convSumsSpec)

/-- ITS FALSE NEIGHBOUR: 'it returns false'. Refute it at one input. -/
def convSumsWrong : ChangeSpec := { name := "convSums", fn := fun _ => fun
  | [d1, d2, d3, d4, d5, d6, d7] => { results := [.lit (.bool false)], args := [d1, d2, d3, d4, d5, d6, d7] }
  | _ => none }
def ConvSumsWrongFalsely : Prop := convSumsRow.holds Try.pinned (OpenSpec.ofChange convSumsWrong)

/-- 'pedagoguelaw11.ConvOne': WHATEVER THE INPUT: true; the input reads as it did. -/
def convOneSpec : ChangeSpec := { name := "convOne", fn := fun _ => fun
  | [d1, d2, d3, d4, d5, d6] => { results := [.lit (.bool true)], args := [d1, d2, d3, d4, d5, d6] }
  | _ => none }
def convOneRow : OpenClaim := { program := "ytmleeffinagncaa", sum := "8a3fb951d73e2864facffe3a1b3533576e15fe21f591ac41379f201c5c33d1b6", func := "pedagogue/pedagoguelaw11.ConvOne", spec := "convOne", unfollowed := true, recurses := true, apart := false }
def ConvOneSaid : Prop := convOneRow.holds Try.pinned (OpenSpec.ofChange convOneSpec)

/-- ITS FALSE NEIGHBOUR: 'it returns false'. Refute it at one input. -/
def convOneWrong : ChangeSpec := { name := "convOne", fn := fun _ => fun
  | [d1, d2, d3, d4, d5, d6] => { results := [.lit (.bool false)], args := [d1, d2, d3, d4, d5, d6] }
  | _ => none }
def ConvOneWrongFalsely : Prop := convOneRow.holds Try.pinned (OpenSpec.ofChange convOneWrong)

/-- 'pedagoguelaw11.ConvSlope': WHATEVER THE INPUT: true; the input reads as it did. -/
def convSlopeSpec : ChangeSpec := { name := "convSlope", fn := fun _ => fun
  | [d1, d2, d3, d4, d5, d6, d7, d8, d9, d10, d11] => { results := [.lit (.bool true)], args := [d1, d2, d3, d4, d5, d6, d7, d8, d9, d10, d11] }
  | _ => none }
def convSlopeRow : OpenClaim := { program := "ytmleeffinagncaa", sum := "8a3fb951d73e2864facffe3a1b3533576e15fe21f591ac41379f201c5c33d1b6", func := "pedagogue/pedagoguelaw11.ConvSlope", spec := "convSlope", apart := false }
def ConvSlopeSaid : Prop := convSlopeRow.holds Try.pinned (OpenSpec.ofChange convSlopeSpec)

/-- ITS FALSE NEIGHBOUR: 'it returns false'. Refute it at one input. -/
def convSlopeWrong : ChangeSpec := { name := "convSlope", fn := fun _ => fun
  | [d1, d2, d3, d4, d5, d6, d7, d8, d9, d10, d11] => { results := [.lit (.bool false)], args := [d1, d2, d3, d4, d5, d6, d7, d8, d9, d10, d11] }
  | _ => none }
def ConvSlopeWrongFalsely : Prop := convSlopeRow.holds Try.pinned (OpenSpec.ofChange convSlopeWrong)

/-- 'pedagoguelaw11.ConvForms': WHATEVER THE INPUT: true; the input reads as it did. -/
def convFormsSpec : ChangeSpec := { name := "convForms", fn := fun _ => fun
  | [d1, d2, d3, d4, d5, d6, d7, d8, d9] => { results := [.lit (.bool true)], args := [d1, d2, d3, d4, d5, d6, d7, d8, d9] }
  | _ => none }
def convFormsRow : OpenClaim := { program := "ytmleeffinagncaa", sum := "8a3fb951d73e2864facffe3a1b3533576e15fe21f591ac41379f201c5c33d1b6", func := "pedagogue/pedagoguelaw11.ConvForms", spec := "convForms", apart := false }
def ConvFormsSaid : Prop := convFormsRow.holds Try.pinned (OpenSpec.ofChange convFormsSpec)

/-- ITS FALSE NEIGHBOUR: 'it returns false'. Refute it at one input. -/
def convFormsWrong : ChangeSpec := { name := "convForms", fn := fun _ => fun
  | [d1, d2, d3, d4, d5, d6, d7, d8, d9] => { results := [.lit (.bool false)], args := [d1, d2, d3, d4, d5, d6, d7, d8, d9] }
  | _ => none }
def ConvFormsWrongFalsely : Prop := convFormsRow.holds Try.pinned (OpenSpec.ofChange convFormsWrong)

/- THE SECOND FORM. 'bulk': how many values and letters a reading holds, each counted each time it is reached (what is shared counts as often as it is met; a slice's spare places count too). A statement '..UptoSaid' is the law's where the arguments, and the package variables that the reading takes, are together of bulk at most 1048576: NARROWER than '..Said'. Prove '..Said' where nothing that the law and all that it calls make is longer than what came in: it says more and counts as full. Else prove '..UptoSaid'. A law counts once. -/
mutual
def uptoBulk {H : Type} : DataW H → Nat
  | .lit (.string bytes) => bytes.length + 1
  | .lit _ => 1
  | .nil => 1
  | .ptr d => uptoBulk d + 1
  | .slice elems spare => uptoBulkAll elems + uptoBulkAll spare + 1
  | .agg parts => uptoBulkAll parts + 1
  | .iface _ d => uptoBulk d + 1
  | .map entries => uptoBulkEntries entries + 1
  | .held _ => 1
def uptoBulkAll {H : Type} : List (DataW H) → Nat
  | [] => 0
  | d :: r => uptoBulk d + uptoBulkAll r
def uptoBulkEntries {H : Type} : List (Lit × DataW H) → Nat
  | [] => 0
  | x :: r => uptoBulkEntry x + uptoBulkEntries r
def uptoBulkEntry {H : Type} : Lit × DataW H → Nat
  | (.string bytes, d) => bytes.length + uptoBulk d + 1
  | (_, d) => uptoBulk d + 1
 end
def uptoSmall : (H : Type) → List (DataW H) → Bool := fun _ ds => decide (uptoBulkAll ds ≤ 1048576)
def OpenSpec.upto (s : _root_.Go.ChangeSpec) : _root_.Go.OpenSpec := { _root_.Go.OpenSpec.ofChange s with cond := some uptoSmall }

/-- 'pedagoguelaw11.ConvMoves', WHERE WHAT IT READS IS OF BULK AT MOST 1048576: true; the input reads as it did. -/
def convMovesUptoRow : OpenClaim := { program := "ytmleeffinagncaa", sum := "8a3fb951d73e2864facffe3a1b3533576e15fe21f591ac41379f201c5c33d1b6", func := "pedagogue/pedagoguelaw11.ConvMoves", spec := "convMoves", apart := false, narrowed := true }
def ConvMovesUptoSaid : Prop := convMovesUptoRow.holds Try.pinned (OpenSpec.upto convMovesSpec)

/-- 'pedagoguelaw11.ConvPad', WHERE WHAT IT READS IS OF BULK AT MOST 1048576: true; the input reads as it did. -/
def convPadUptoRow : OpenClaim := { program := "ytmleeffinagncaa", sum := "8a3fb951d73e2864facffe3a1b3533576e15fe21f591ac41379f201c5c33d1b6", func := "pedagogue/pedagoguelaw11.ConvPad", spec := "convPad", apart := false, narrowed := true }
def ConvPadUptoSaid : Prop := convPadUptoRow.holds Try.pinned (OpenSpec.upto convPadSpec)

/-- 'pedagoguelaw11.ConvSums', WHERE WHAT IT READS IS OF BULK AT MOST 1048576: true; the input reads as it did. -/
def convSumsUptoRow : OpenClaim := { program := "ytmleeffinagncaa", sum := "8a3fb951d73e2864facffe3a1b3533576e15fe21f591ac41379f201c5c33d1b6", func := "pedagogue/pedagoguelaw11.ConvSums", spec := "convSums", apart := false, narrowed := true }
def ConvSumsUptoSaid : Prop := convSumsUptoRow.holds Try.pinned (OpenSpec.upto convSumsSpec)

/-- 'pedagoguelaw11.ConvOne', WHERE WHAT IT READS IS OF BULK AT MOST 1048576: true; the input reads as it did. -/
def convOneUptoRow : OpenClaim := { program := "ytmleeffinagncaa", sum := "8a3fb951d73e2864facffe3a1b3533576e15fe21f591ac41379f201c5c33d1b6", func := "pedagogue/pedagoguelaw11.ConvOne", spec := "convOne", unfollowed := true, recurses := true, apart := false, narrowed := true }
def ConvOneUptoSaid : Prop := convOneUptoRow.holds Try.pinned (OpenSpec.upto convOneSpec)

/-- 'pedagoguelaw11.ConvSlope', WHERE WHAT IT READS IS OF BULK AT MOST 1048576: true; the input reads as it did. -/
def convSlopeUptoRow : OpenClaim := { program := "ytmleeffinagncaa", sum := "8a3fb951d73e2864facffe3a1b3533576e15fe21f591ac41379f201c5c33d1b6", func := "pedagogue/pedagoguelaw11.ConvSlope", spec := "convSlope", apart := false, narrowed := true }
def ConvSlopeUptoSaid : Prop := convSlopeUptoRow.holds Try.pinned (OpenSpec.upto convSlopeSpec)

/-- 'pedagoguelaw11.ConvForms', WHERE WHAT IT READS IS OF BULK AT MOST 1048576: true; the input reads as it did. -/
def convFormsUptoRow : OpenClaim := { program := "ytmleeffinagncaa", sum := "8a3fb951d73e2864facffe3a1b3533576e15fe21f591ac41379f201c5c33d1b6", func := "pedagogue/pedagoguelaw11.ConvForms", spec := "convForms", apart := false, narrowed := true }
def ConvFormsUptoSaid : Prop := convFormsUptoRow.holds Try.pinned (OpenSpec.upto convFormsSpec)

end Rows
end Go.Proofs.Ytmleeffinagncaa
