/-
  No cell of these rows narrows 'for every input' (looked for: loops, veiled, ifaces, maps, wideKeys, modest, calm, conditions, laid).
  DERIVED. THE GIVEN ROWS OF THIS SEAT. 7 by the template 'for every input the law returns true; each argument reads behind the call as it read before'; 0 by the template 'total and deterministic' (their statements: YtanjlcjpcenejaaTotals.lean).
  GIVEN WITH THE SEED: the statements are not yours to turn. If you find one false, say at which input.
  Laid BY PROGRAM, IN A SANDBOX (cutbox-rows.mjs): the forced cells as the released guide's own fill.sh prints them over the translation a7ee7daefdaea790… (all of the seat's roots in one cut). By AI agents, Wed Nov 11 2026. No macro, syntax, notation, axiom, sorry.
-/
import Derived.Test.YtanjlcjpcenejaaChecked
import GoSem.Claim
import GoSem.ClaimJoined
import GoSem.ClaimMapViews
import Derived.JoinedTies
import Derived.KernelRfl
namespace Go.Proofs.Ytanjlcjpcenejaa
/- THE CELL 'sum', in the pinned program and in every row, IS THE sha256 OF THE DUMP (.gsa) THAT YtanjlcjpcenejaaProg.lean LOADS. Nothing in Lean hashes anything: it is a label: what it is worth is what the hold of that sum in a sandbox is worth. -/
noncomputable def Try.pinned : Pinned := { name := "ytanjlcjpcenejaa", sum := "a7ee7daefdaea7907f1e649c21e98e8909ffb77d5fea266532945b4164303288", checked := Try.checked }
namespace Rows
def none {H : Type} : Left H := { results := [], args := [] }

/-- 'pedagoguelaw10.DenseTwo': WHATEVER THE INPUT: true; the input reads as it did. -/
def denseTwoSpec : ChangeSpec := { name := "denseTwo", fn := fun _ => fun
  | [d1, d2, d3, d4, d5, d6] => { results := [.lit (.bool true)], args := [d1, d2, d3, d4, d5, d6] }
  | _ => none }
def denseTwoRow : OpenClaim := { program := "ytanjlcjpcenejaa", sum := "a7ee7daefdaea7907f1e649c21e98e8909ffb77d5fea266532945b4164303288", func := "pedagogue/pedagoguelaw10.DenseTwo", spec := "denseTwo", unfollowed := true, recurses := true, apart := false }
def DenseTwoSaid : Prop := denseTwoRow.holds Try.pinned (OpenSpec.ofChange denseTwoSpec)

/-- ITS FALSE NEIGHBOUR: 'it returns false'. Refute it at one input. -/
def denseTwoWrong : ChangeSpec := { name := "denseTwo", fn := fun _ => fun
  | [d1, d2, d3, d4, d5, d6] => { results := [.lit (.bool false)], args := [d1, d2, d3, d4, d5, d6] }
  | _ => none }
def DenseTwoWrongFalsely : Prop := denseTwoRow.holds Try.pinned (OpenSpec.ofChange denseTwoWrong)

/-- 'pedagoguelaw10.DenseBounds': WHATEVER THE INPUT: true; the input reads as it did. -/
def denseBoundsSpec : ChangeSpec := { name := "denseBounds", fn := fun _ => fun
  | [d1, d2, d3, d4, d5] => { results := [.lit (.bool true)], args := [d1, d2, d3, d4, d5] }
  | _ => none }
def denseBoundsRow : OpenClaim := { program := "ytanjlcjpcenejaa", sum := "a7ee7daefdaea7907f1e649c21e98e8909ffb77d5fea266532945b4164303288", func := "pedagogue/pedagoguelaw10.DenseBounds", spec := "denseBounds", unfollowed := true, recurses := true, apart := false }
def DenseBoundsSaid : Prop := denseBoundsRow.holds Try.pinned (OpenSpec.ofChange denseBoundsSpec)

/-- ITS FALSE NEIGHBOUR: 'it returns false'. Refute it at one input. -/
def denseBoundsWrong : ChangeSpec := { name := "denseBounds", fn := fun _ => fun
  | [d1, d2, d3, d4, d5] => { results := [.lit (.bool false)], args := [d1, d2, d3, d4, d5] }
  | _ => none }
def DenseBoundsWrongFalsely : Prop := denseBoundsRow.holds Try.pinned (OpenSpec.ofChange denseBoundsWrong)

/-- 'pedagoguelaw10.DenseExps': WHATEVER THE INPUT: true; the input reads as it did. -/
def denseExpsSpec : ChangeSpec := { name := "denseExps", fn := fun _ => fun
  | [d1, d2, d3, d4, d5] => { results := [.lit (.bool true)], args := [d1, d2, d3, d4, d5] }
  | _ => none }
def denseExpsRow : OpenClaim := { program := "ytanjlcjpcenejaa", sum := "a7ee7daefdaea7907f1e649c21e98e8909ffb77d5fea266532945b4164303288", func := "pedagogue/pedagoguelaw10.DenseExps", spec := "denseExps", unfollowed := true, recurses := true, apart := false }
def DenseExpsSaid : Prop := denseExpsRow.holds Try.pinned (OpenSpec.ofChange denseExpsSpec)

/-- ITS FALSE NEIGHBOUR: 'it returns false'. Refute it at one input. -/
def denseExpsWrong : ChangeSpec := { name := "denseExps", fn := fun _ => fun
  | [d1, d2, d3, d4, d5] => { results := [.lit (.bool false)], args := [d1, d2, d3, d4, d5] }
  | _ => none }
def DenseExpsWrongFalsely : Prop := denseExpsRow.holds Try.pinned (OpenSpec.ofChange denseExpsWrong)

/-- 'pedagoguelaw10.DenseNothing': WHATEVER THE INPUT: true; the input reads as it did. -/
def denseNothingSpec : ChangeSpec := { name := "denseNothing", fn := fun _ => fun
  | [d1, d2, d3, d4, d5, d6] => { results := [.lit (.bool true)], args := [d1, d2, d3, d4, d5, d6] }
  | _ => none }
def denseNothingRow : OpenClaim := { program := "ytanjlcjpcenejaa", sum := "a7ee7daefdaea7907f1e649c21e98e8909ffb77d5fea266532945b4164303288", func := "pedagogue/pedagoguelaw10.DenseNothing", spec := "denseNothing", unfollowed := true, recurses := true, apart := false }
def DenseNothingSaid : Prop := denseNothingRow.holds Try.pinned (OpenSpec.ofChange denseNothingSpec)

/-- ITS FALSE NEIGHBOUR: 'it returns false'. Refute it at one input. -/
def denseNothingWrong : ChangeSpec := { name := "denseNothing", fn := fun _ => fun
  | [d1, d2, d3, d4, d5, d6] => { results := [.lit (.bool false)], args := [d1, d2, d3, d4, d5, d6] }
  | _ => none }
def DenseNothingWrongFalsely : Prop := denseNothingRow.holds Try.pinned (OpenSpec.ofChange denseNothingWrong)

/-- 'pedagoguelaw10.DenseSlope': WHATEVER THE INPUT: true; the input reads as it did. -/
def denseSlopeSpec : ChangeSpec := { name := "denseSlope", fn := fun _ => fun
  | [d1, d2, d3, d4, d5, d6, d7, d8] => { results := [.lit (.bool true)], args := [d1, d2, d3, d4, d5, d6, d7, d8] }
  | _ => none }
def denseSlopeRow : OpenClaim := { program := "ytanjlcjpcenejaa", sum := "a7ee7daefdaea7907f1e649c21e98e8909ffb77d5fea266532945b4164303288", func := "pedagogue/pedagoguelaw10.DenseSlope", spec := "denseSlope", unfollowed := true, recurses := true, apart := false }
def DenseSlopeSaid : Prop := denseSlopeRow.holds Try.pinned (OpenSpec.ofChange denseSlopeSpec)

/-- ITS FALSE NEIGHBOUR: 'it returns false'. Refute it at one input. -/
def denseSlopeWrong : ChangeSpec := { name := "denseSlope", fn := fun _ => fun
  | [d1, d2, d3, d4, d5, d6, d7, d8] => { results := [.lit (.bool false)], args := [d1, d2, d3, d4, d5, d6, d7, d8] }
  | _ => none }
def DenseSlopeWrongFalsely : Prop := denseSlopeRow.holds Try.pinned (OpenSpec.ofChange denseSlopeWrong)

/-- 'pedagoguelaw10.DenseSums': WHATEVER THE INPUT: true; the input reads as it did. -/
def denseSumsSpec : ChangeSpec := { name := "denseSums", fn := fun _ => fun
  | [d1, d2, d3, d4, d5] => { results := [.lit (.bool true)], args := [d1, d2, d3, d4, d5] }
  | _ => none }
def denseSumsRow : OpenClaim := { program := "ytanjlcjpcenejaa", sum := "a7ee7daefdaea7907f1e649c21e98e8909ffb77d5fea266532945b4164303288", func := "pedagogue/pedagoguelaw10.DenseSums", spec := "denseSums", unfollowed := true, recurses := true, apart := false }
def DenseSumsSaid : Prop := denseSumsRow.holds Try.pinned (OpenSpec.ofChange denseSumsSpec)

/-- ITS FALSE NEIGHBOUR: 'it returns false'. Refute it at one input. -/
def denseSumsWrong : ChangeSpec := { name := "denseSums", fn := fun _ => fun
  | [d1, d2, d3, d4, d5] => { results := [.lit (.bool false)], args := [d1, d2, d3, d4, d5] }
  | _ => none }
def DenseSumsWrongFalsely : Prop := denseSumsRow.holds Try.pinned (OpenSpec.ofChange denseSumsWrong)

/-- 'pedagoguelaw10.DenseForms': WHATEVER THE INPUT: true; the input reads as it did. -/
def denseFormsSpec : ChangeSpec := { name := "denseForms", fn := fun _ => fun
  | [d1, d2, d3, d4, d5] => { results := [.lit (.bool true)], args := [d1, d2, d3, d4, d5] }
  | _ => none }
def denseFormsRow : OpenClaim := { program := "ytanjlcjpcenejaa", sum := "a7ee7daefdaea7907f1e649c21e98e8909ffb77d5fea266532945b4164303288", func := "pedagogue/pedagoguelaw10.DenseForms", spec := "denseForms", unfollowed := true, recurses := true, apart := false }
def DenseFormsSaid : Prop := denseFormsRow.holds Try.pinned (OpenSpec.ofChange denseFormsSpec)

/-- ITS FALSE NEIGHBOUR: 'it returns false'. Refute it at one input. -/
def denseFormsWrong : ChangeSpec := { name := "denseForms", fn := fun _ => fun
  | [d1, d2, d3, d4, d5] => { results := [.lit (.bool false)], args := [d1, d2, d3, d4, d5] }
  | _ => none }
def DenseFormsWrongFalsely : Prop := denseFormsRow.holds Try.pinned (OpenSpec.ofChange denseFormsWrong)

/- THE SECOND FORM. 'bulk': how many values and letters a reading holds, each counted each time it is reached (what is shared counts as often as it is met; a slice's spare places count too). A statement '..UptoSaid' is the law's where the arguments, and the package variables that the reading takes, are together of bulk at most 1048576: NARROWER than '..Said'. Prove '..Said' where nothing that the law and all that it calls make is longer than what came in: it says more and counts as full. Else prove '..UptoSaid'. A law counts once. -/
mutual
def uptoBulk {H : Type} : DataW H → Nat
  | .lit (.string bytes) => bytes.length + 1
  | .lit _ => 1
  | .nil => 1
  | .ptr d => uptoBulk d + 1
  | .slice elems spare => uptoBulkAll elems + uptoBulkAll spare + 1
  | .agg parts => uptoBulkAll parts + 1
  | .iface _ d => uptoBulk d + 1
  | .map entries => uptoBulkEntries entries + 1
  | .held _ => 1
def uptoBulkAll {H : Type} : List (DataW H) → Nat
  | [] => 0
  | d :: r => uptoBulk d + uptoBulkAll r
def uptoBulkEntries {H : Type} : List (Lit × DataW H) → Nat
  | [] => 0
  | x :: r => uptoBulkEntry x + uptoBulkEntries r
def uptoBulkEntry {H : Type} : Lit × DataW H → Nat
  | (.string bytes, d) => bytes.length + uptoBulk d + 1
  | (_, d) => uptoBulk d + 1
 end
def uptoSmall : (H : Type) → List (DataW H) → Bool := fun _ ds => decide (uptoBulkAll ds ≤ 1048576)
def OpenSpec.upto (s : _root_.Go.ChangeSpec) : _root_.Go.OpenSpec := { _root_.Go.OpenSpec.ofChange s with cond := some uptoSmall }

/-- 'pedagoguelaw10.DenseTwo', WHERE WHAT IT READS IS OF BULK AT MOST 1048576: true; the input reads as it did. -/
def denseTwoUptoRow : OpenClaim := { program := "ytanjlcjpcenejaa", sum := "a7ee7daefdaea7907f1e649c21e98e8909ffb77d5fea266532945b4164303288", func := "pedagogue/pedagoguelaw10.DenseTwo", spec := "denseTwo", unfollowed := true, recurses := true, apart := false, narrowed := true }
def DenseTwoUptoSaid : Prop := denseTwoUptoRow.holds Try.pinned (OpenSpec.upto denseTwoSpec)

/-- 'pedagoguelaw10.DenseBounds', WHERE WHAT IT READS IS OF BULK AT MOST 1048576: true; the input reads as it did. -/
def denseBoundsUptoRow : OpenClaim := { program := "ytanjlcjpcenejaa", sum := "a7ee7daefdaea7907f1e649c21e98e8909ffb77d5fea266532945b4164303288", func := "pedagogue/pedagoguelaw10.DenseBounds", spec := "denseBounds", unfollowed := true, recurses := true, apart := false, narrowed := true }
def DenseBoundsUptoSaid : Prop := denseBoundsUptoRow.holds Try.pinned (OpenSpec.upto denseBoundsSpec)

/-- 'pedagoguelaw10.DenseExps', WHERE WHAT IT READS IS OF BULK AT MOST 1048576: true; the input reads as it did. -/
def denseExpsUptoRow : OpenClaim := { program := "ytanjlcjpcenejaa", sum := "a7ee7daefdaea7907f1e649c21e98e8909ffb77d5fea266532945b4164303288", func := "pedagogue/pedagoguelaw10.DenseExps", spec := "denseExps", unfollowed := true, recurses := true, apart := false, narrowed := true }
def DenseExpsUptoSaid : Prop := denseExpsUptoRow.holds Try.pinned (OpenSpec.upto denseExpsSpec)

/-- 'pedagoguelaw10.DenseNothing', WHERE WHAT IT READS IS OF BULK AT MOST 1048576: true; the input reads as it did. -/
def denseNothingUptoRow : OpenClaim := { program := "ytanjlcjpcenejaa", sum := "a7ee7daefdaea7907f1e649c21e98e8909ffb77d5fea266532945b4164303288", func := "pedagogue/pedagoguelaw10.DenseNothing", spec := "denseNothing", unfollowed := true, recurses := true, apart := false, narrowed := true }
def DenseNothingUptoSaid : Prop := denseNothingUptoRow.holds Try.pinned (OpenSpec.upto denseNothingSpec)

/-- 'pedagoguelaw10.DenseSlope', WHERE WHAT IT READS IS OF BULK AT MOST 1048576: true; the input reads as it did. -/
def denseSlopeUptoRow : OpenClaim := { program := "ytanjlcjpcenejaa", sum := "a7ee7daefdaea7907f1e649c21e98e8909ffb77d5fea266532945b4164303288", func := "pedagogue/pedagoguelaw10.DenseSlope", spec := "denseSlope", unfollowed := true, recurses := true, apart := false, narrowed := true }
def DenseSlopeUptoSaid : Prop := denseSlopeUptoRow.holds Try.pinned (OpenSpec.upto denseSlopeSpec)

/-- 'pedagoguelaw10.DenseSums', WHERE WHAT IT READS IS OF BULK AT MOST 1048576: true; the input reads as it did. -/
def denseSumsUptoRow : OpenClaim := { program := "ytanjlcjpcenejaa", sum := "a7ee7daefdaea7907f1e649c21e98e8909ffb77d5fea266532945b4164303288", func := "pedagogue/pedagoguelaw10.DenseSums", spec := "denseSums", unfollowed := true, recurses := true, apart := false, narrowed := true }
def DenseSumsUptoSaid : Prop := denseSumsUptoRow.holds Try.pinned (OpenSpec.upto denseSumsSpec)

/-- 'pedagoguelaw10.DenseForms', WHERE WHAT IT READS IS OF BULK AT MOST 1048576: true; the input reads as it did. -/
def denseFormsUptoRow : OpenClaim := { program := "ytanjlcjpcenejaa", sum := "a7ee7daefdaea7907f1e649c21e98e8909ffb77d5fea266532945b4164303288", func := "pedagogue/pedagoguelaw10.DenseForms", spec := "denseForms", unfollowed := true, recurses := true, apart := false, narrowed := true }
def DenseFormsUptoSaid : Prop := denseFormsUptoRow.holds Try.pinned (OpenSpec.upto denseFormsSpec)

end Rows
end Go.Proofs.Ytanjlcjpcenejaa
