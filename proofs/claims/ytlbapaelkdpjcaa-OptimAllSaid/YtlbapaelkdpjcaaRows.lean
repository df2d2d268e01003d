/-
  No cell of these rows narrows 'for every input' (looked for: loops, veiled, ifaces, maps, wideKeys, modest, calm, conditions, laid).
  DERIVED. THE GIVEN ROWS OF THIS SEAT. 12 by the template 'for every input the law returns true; each argument reads behind the call as it read before'; 0 by the template 'total and deterministic' (their statements: YtlbapaelkdpjcaaTotals.lean).
  GIVEN WITH THE SEED: the statements are not yours to turn. If you find one false, say at which input.
  Laid BY PROGRAM, IN A SANDBOX (cutbox-rows.mjs): the forced cells as the released guide's own fill.sh prints them over the translation 86ecb8b6bf8c49c6… (all of the seat's roots in one cut). By AI agents, Wed Nov 11 2026. No macro, syntax, notation, axiom, sorry.
-/
import Derived.Test.YtlbapaelkdpjcaaChecked
import GoSem.Claim
import GoSem.ClaimJoined
import GoSem.ClaimMapViews
import Derived.JoinedTies
import Derived.KernelRfl
namespace Go.Proofs.Ytlbapaelkdpjcaa
/- THE CELL 'sum', in the pinned program and in every row, IS THE sha256 OF THE DUMP (.gsa) THAT YtlbapaelkdpjcaaProg.lean LOADS. Nothing in Lean hashes anything: it is a label: what it is worth is what the hold of that sum in a sandbox is worth. -/
noncomputable def Try.pinned : Pinned := { name := "ytlbapaelkdpjcaa", sum := "86ecb8b6bf8c49c6d53784e37dd7372fa7b2b9762377f23ad6ce3c5f3c57457a", checked := Try.checked }
namespace Rows
def none {H : Type} : Left H := { results := [], args := [] }

/-- 'pedagoguelaw10.DenseNothing': WHATEVER THE INPUT: true; the input reads as it did. -/
def denseNothingSpec : ChangeSpec := { name := "denseNothing", fn := fun _ => fun
  | [d1, d2, d3, d4, d5, d6] => { results := [.lit (.bool true)], args := [d1, d2, d3, d4, d5, d6] }
  | _ => none }
def denseNothingRow : OpenClaim := { program := "ytlbapaelkdpjcaa", sum := "86ecb8b6bf8c49c6d53784e37dd7372fa7b2b9762377f23ad6ce3c5f3c57457a", func := "pedagogue/pedagoguelaw10.DenseNothing", spec := "denseNothing", unfollowed := true, recurses := true, apart := false }
def DenseNothingSaid : Prop := denseNothingRow.holds Try.pinned (OpenSpec.ofChange denseNothingSpec)

/-- ITS FALSE NEIGHBOUR: 'it returns false'. Refute it at one input. -/
def denseNothingWrong : ChangeSpec := { name := "denseNothing", fn := fun _ => fun
  | [d1, d2, d3, d4, d5, d6] => { results := [.lit (.bool false)], args := [d1, d2, d3, d4, d5, d6] }
  | _ => none }
def DenseNothingWrongFalsely : Prop := denseNothingRow.holds Try.pinned (OpenSpec.ofChange denseNothingWrong)

/-- 'pedagoguelaw8.TensorZero': WHATEVER THE INPUT: true; the input reads as it did. -/
def tensorZeroSpec : ChangeSpec := { name := "tensorZero", fn := fun _ => fun
  | [d1, d2, d3] => { results := [.lit (.bool true)], args := [d1, d2, d3] }
  | _ => none }
def tensorZeroRow : OpenClaim := { program := "ytlbapaelkdpjcaa", sum := "86ecb8b6bf8c49c6d53784e37dd7372fa7b2b9762377f23ad6ce3c5f3c57457a", func := "pedagogue/pedagoguelaw8.TensorZero", spec := "tensorZero", apart := false }
def TensorZeroSaid : Prop := tensorZeroRow.holds Try.pinned (OpenSpec.ofChange tensorZeroSpec)

/-- ITS FALSE NEIGHBOUR: 'it returns false'. Refute it at one input. -/
def tensorZeroWrong : ChangeSpec := { name := "tensorZero", fn := fun _ => fun
  | [d1, d2, d3] => { results := [.lit (.bool false)], args := [d1, d2, d3] }
  | _ => none }
def TensorZeroWrongFalsely : Prop := tensorZeroRow.holds Try.pinned (OpenSpec.ofChange tensorZeroWrong)

/-- 'pedagoguelaw10.DenseSums': WHATEVER THE INPUT: true; the input reads as it did. -/
def denseSumsSpec : ChangeSpec := { name := "denseSums", fn := fun _ => fun
  | [d1, d2, d3, d4, d5] => { results := [.lit (.bool true)], args := [d1, d2, d3, d4, d5] }
  | _ => none }
def denseSumsRow : OpenClaim := { program := "ytlbapaelkdpjcaa", sum := "86ecb8b6bf8c49c6d53784e37dd7372fa7b2b9762377f23ad6ce3c5f3c57457a", func := "pedagogue/pedagoguelaw10.DenseSums", spec := "denseSums", unfollowed := true, recurses := true, apart := false }
def DenseSumsSaid : Prop := denseSumsRow.holds Try.pinned (OpenSpec.ofChange denseSumsSpec)

/-- ITS FALSE NEIGHBOUR: 'it returns false'. Refute it at one input. -/
def denseSumsWrong : ChangeSpec := { name := "denseSums", fn := fun _ => fun
  | [d1, d2, d3, d4, d5] => { results := [.lit (.bool false)], args := [d1, d2, d3, d4, d5] }
  | _ => none }
def DenseSumsWrongFalsely : Prop := denseSumsRow.holds Try.pinned (OpenSpec.ofChange denseSumsWrong)

/-- 'pedagoguelaw19.LossSoft': WHATEVER THE INPUT: true; the input reads as it did. -/
def lossSoftSpec : ChangeSpec := { name := "lossSoft", fn := fun _ => fun
  | [d1, d2, d3] => { results := [.lit (.bool true)], args := [d1, d2, d3] }
  | _ => none }
def lossSoftRow : OpenClaim := { program := "ytlbapaelkdpjcaa", sum := "86ecb8b6bf8c49c6d53784e37dd7372fa7b2b9762377f23ad6ce3c5f3c57457a", func := "pedagogue/pedagoguelaw19.LossSoft", spec := "lossSoft", unfollowed := true, recurses := true, apart := false }
def LossSoftSaid : Prop := lossSoftRow.holds Try.pinned (OpenSpec.ofChange lossSoftSpec)

/-- ITS FALSE NEIGHBOUR: 'it returns false'. Refute it at one input. -/
def lossSoftWrong : ChangeSpec := { name := "lossSoft", fn := fun _ => fun
  | [d1, d2, d3] => { results := [.lit (.bool false)], args := [d1, d2, d3] }
  | _ => none }
def LossSoftWrongFalsely : Prop := lossSoftRow.holds Try.pinned (OpenSpec.ofChange lossSoftWrong)

/-- 'pedagoguelaw19.LossSharp': WHATEVER THE INPUT: true; the input reads as it did. -/
def lossSharpSpec : ChangeSpec := { name := "lossSharp", fn := fun _ => fun
  | [d1, d2] => { results := [.lit (.bool true)], args := [d1, d2] }
  | _ => none }
def lossSharpRow : OpenClaim := { program := "ytlbapaelkdpjcaa", sum := "86ecb8b6bf8c49c6d53784e37dd7372fa7b2b9762377f23ad6ce3c5f3c57457a", func := "pedagogue/pedagoguelaw19.LossSharp", spec := "lossSharp", unfollowed := true, recurses := true, apart := false }
def LossSharpSaid : Prop := lossSharpRow.holds Try.pinned (OpenSpec.ofChange lossSharpSpec)

/-- ITS FALSE NEIGHBOUR: 'it returns false'. Refute it at one input. -/
def lossSharpWrong : ChangeSpec := { name := "lossSharp", fn := fun _ => fun
  | [d1, d2] => { results := [.lit (.bool false)], args := [d1, d2] }
  | _ => none }
def LossSharpWrongFalsely : Prop := lossSharpRow.holds Try.pinned (OpenSpec.ofChange lossSharpWrong)

/-- 'pedagoguelaw10.DenseForms': WHATEVER THE INPUT: true; the input reads as it did. -/
def denseFormsSpec : ChangeSpec := { name := "denseForms", fn := fun _ => fun
  | [d1, d2, d3, d4, d5] => { results := [.lit (.bool true)], args := [d1, d2, d3, d4, d5] }
  | _ => none }
def denseFormsRow : OpenClaim := { program := "ytlbapaelkdpjcaa", sum := "86ecb8b6bf8c49c6d53784e37dd7372fa7b2b9762377f23ad6ce3c5f3c57457a", func := "pedagogue/pedagoguelaw10.DenseForms", spec := "denseForms", unfollowed := true, recurses := true, apart := false }
def DenseFormsSaid : Prop := denseFormsRow.holds Try.pinned (OpenSpec.ofChange denseFormsSpec)

/-- ITS FALSE NEIGHBOUR: 'it returns false'. Refute it at one input. -/
def denseFormsWrong : ChangeSpec := { name := "denseForms", fn := fun _ => fun
  | [d1, d2, d3, d4, d5] => { results := [.lit (.bool false)], args := [d1, d2, d3, d4, d5] }
  | _ => none }
def DenseFormsWrongFalsely : Prop := denseFormsRow.holds Try.pinned (OpenSpec.ofChange denseFormsWrong)

/-- 'pedagoguelaw21.OptimSteps': WHATEVER THE INPUT: true; the input reads as it did. -/
def optimStepsSpec : ChangeSpec := { name := "optimSteps", fn := fun _ => fun
  | [d1, d2, d3, d4, d5, d6] => { results := [.lit (.bool true)], args := [d1, d2, d3, d4, d5, d6] }
  | _ => none }
def optimStepsRow : OpenClaim := { program := "ytlbapaelkdpjcaa", sum := "86ecb8b6bf8c49c6d53784e37dd7372fa7b2b9762377f23ad6ce3c5f3c57457a", func := "pedagogue/pedagoguelaw21.OptimSteps", spec := "optimSteps", unfollowed := true, recurses := true, apart := false }
def OptimStepsSaid : Prop := optimStepsRow.holds Try.pinned (OpenSpec.ofChange optimStepsSpec)

/-- ITS FALSE NEIGHBOUR: 'it returns false'. Refute it at one input. -/
def optimStepsWrong : ChangeSpec := { name := "optimSteps", fn := fun _ => fun
  | [d1, d2, d3, d4, d5, d6] => { results := [.lit (.bool false)], args := [d1, d2, d3, d4, d5, d6] }
  | _ => none }
def OptimStepsWrongFalsely : Prop := optimStepsRow.holds Try.pinned (OpenSpec.ofChange optimStepsWrong)

/-- 'pedagoguelaw21.OptimStill': WHATEVER THE INPUT: true; the input reads as it did. -/
def optimStillSpec : ChangeSpec := { name := "optimStill", fn := fun _ => fun
  | [d1, d2, d3, d4] => { results := [.lit (.bool true)], args := [d1, d2, d3, d4] }
  | _ => none }
def optimStillRow : OpenClaim := { program := "ytlbapaelkdpjcaa", sum := "86ecb8b6bf8c49c6d53784e37dd7372fa7b2b9762377f23ad6ce3c5f3c57457a", func := "pedagogue/pedagoguelaw21.OptimStill", spec := "optimStill", unfollowed := true, recurses := true, apart := false }
def OptimStillSaid : Prop := optimStillRow.holds Try.pinned (OpenSpec.ofChange optimStillSpec)

/-- ITS FALSE NEIGHBOUR: 'it returns false'. Refute it at one input. -/
def optimStillWrong : ChangeSpec := { name := "optimStill", fn := fun _ => fun
  | [d1, d2, d3, d4] => { results := [.lit (.bool false)], args := [d1, d2, d3, d4] }
  | _ => none }
def OptimStillWrongFalsely : Prop := optimStillRow.holds Try.pinned (OpenSpec.ofChange optimStillWrong)

/-- 'pedagoguelaw21.OptimByHand': WHATEVER THE INPUT: true; the input reads as it did. -/
def optimByHandSpec : ChangeSpec := { name := "optimByHand", fn := fun _ => fun
  | [d1, d2, d3, d4, d5] => { results := [.lit (.bool true)], args := [d1, d2, d3, d4, d5] }
  | _ => none }
def optimByHandRow : OpenClaim := { program := "ytlbapaelkdpjcaa", sum := "86ecb8b6bf8c49c6d53784e37dd7372fa7b2b9762377f23ad6ce3c5f3c57457a", func := "pedagogue/pedagoguelaw21.OptimByHand", spec := "optimByHand", unfollowed := true, recurses := true, apart := false }
def OptimByHandSaid : Prop := optimByHandRow.holds Try.pinned (OpenSpec.ofChange optimByHandSpec)

/-- ITS FALSE NEIGHBOUR: 'it returns false'. Refute it at one input. -/
def optimByHandWrong : ChangeSpec := { name := "optimByHand", fn := fun _ => fun
  | [d1, d2, d3, d4, d5] => { results := [.lit (.bool false)], args := [d1, d2, d3, d4, d5] }
  | _ => none }
def OptimByHandWrongFalsely : Prop := optimByHandRow.holds Try.pinned (OpenSpec.ofChange optimByHandWrong)

/-- 'pedagoguelaw21.OptimWithin': WHATEVER THE INPUT: true; the input reads as it did. -/
def optimWithinSpec : ChangeSpec := { name := "optimWithin", fn := fun _ => fun
  | [d1, d2, d3, d4, d5, d6] => { results := [.lit (.bool true)], args := [d1, d2, d3, d4, d5, d6] }
  | _ => none }
def optimWithinRow : OpenClaim := { program := "ytlbapaelkdpjcaa", sum := "86ecb8b6bf8c49c6d53784e37dd7372fa7b2b9762377f23ad6ce3c5f3c57457a", func := "pedagogue/pedagoguelaw21.OptimWithin", spec := "optimWithin", unfollowed := true, recurses := true, apart := false }
def OptimWithinSaid : Prop := optimWithinRow.holds Try.pinned (OpenSpec.ofChange optimWithinSpec)

/-- ITS FALSE NEIGHBOUR: 'it returns false'. Refute it at one input. -/
def optimWithinWrong : ChangeSpec := { name := "optimWithin", fn := fun _ => fun
  | [d1, d2, d3, d4, d5, d6] => { results := [.lit (.bool false)], args := [d1, d2, d3, d4, d5, d6] }
  | _ => none }
def OptimWithinWrongFalsely : Prop := optimWithinRow.holds Try.pinned (OpenSpec.ofChange optimWithinWrong)

/-- 'pedagoguelaw21.OptimSame': WHATEVER THE INPUT: true; the input reads as it did. -/
def optimSameSpec : ChangeSpec := { name := "optimSame", fn := fun _ => fun
  | [d1, d2, d3, d4, d5, d6, d7] => { results := [.lit (.bool true)], args := [d1, d2, d3, d4, d5, d6, d7] }
  | _ => none }
def optimSameRow : OpenClaim := { program := "ytlbapaelkdpjcaa", sum := "86ecb8b6bf8c49c6d53784e37dd7372fa7b2b9762377f23ad6ce3c5f3c57457a", func := "pedagogue/pedagoguelaw21.OptimSame", spec := "optimSame", unfollowed := true, recurses := true, apart := false }
def OptimSameSaid : Prop := optimSameRow.holds Try.pinned (OpenSpec.ofChange optimSameSpec)

/-- ITS FALSE NEIGHBOUR: 'it returns false'. Refute it at one input. -/
def optimSameWrong : ChangeSpec := { name := "optimSame", fn := fun _ => fun
  | [d1, d2, d3, d4, d5, d6, d7] => { results := [.lit (.bool false)], args := [d1, d2, d3, d4, d5, d6, d7] }
  | _ => none }
def OptimSameWrongFalsely : Prop := optimSameRow.holds Try.pinned (OpenSpec.ofChange optimSameWrong)

/-- 'pedagoguelaw21.OptimAll': WHATEVER THE INPUT: true; the input reads as it did. -/
def optimAllSpec : ChangeSpec := { name := "optimAll", fn := fun _ => fun
  | [d1, d2, d3, d4, d5] => { results := [.lit (.bool true)], args := [d1, d2, d3, d4, d5] }
  | _ => none }
def optimAllRow : OpenClaim := { program := "ytlbapaelkdpjcaa", sum := "86ecb8b6bf8c49c6d53784e37dd7372fa7b2b9762377f23ad6ce3c5f3c57457a", func := "pedagogue/pedagoguelaw21.OptimAll", spec := "optimAll", unfollowed := true, recurses := true, apart := false }
def OptimAllSaid : Prop := optimAllRow.holds Try.pinned (OpenSpec.ofChange optimAllSpec)

/-- ITS FALSE NEIGHBOUR: 'it returns false'. Refute it at one input. -/
def optimAllWrong : ChangeSpec := { name := "optimAll", fn := fun _ => fun
  | [d1, d2, d3, d4, d5] => { results := [.lit (.bool false)], args := [d1, d2, d3, d4, d5] }
  | _ => none }
def OptimAllWrongFalsely : Prop := optimAllRow.holds Try.pinned (OpenSpec.ofChange optimAllWrong)

/- THE SECOND FORM. 'bulk': how many values and letters a reading holds, each counted each time it is reached (what is shared counts as often as it is met; a slice's spare places count too). A statement '..UptoSaid' is the law's where the arguments, and the package variables that the reading takes, are together of bulk at most 1048576: NARROWER than '..Said'. Prove '..Said' where nothing that the law and all that it calls make is longer than what came in: it says more and counts as full. Else prove '..UptoSaid'. A law counts once. -/
mutual
def uptoBulk {H : Type} : DataW H → Nat
  | .lit (.string bytes) => bytes.length + 1
  | .lit _ => 1
  | .nil => 1
  | .ptr d => uptoBulk d + 1
  | .slice elems spare => uptoBulkAll elems + uptoBulkAll spare + 1
  | .agg parts => uptoBulkAll parts + 1
  | .iface _ d => uptoBulk d + 1
  | .map entries => uptoBulkEntries entries + 1
  | .held _ => 1
def uptoBulkAll {H : Type} : List (DataW H) → Nat
  | [] => 0
  | d :: r => uptoBulk d + uptoBulkAll r
def uptoBulkEntries {H : Type} : List (Lit × DataW H) → Nat
  | [] => 0
  | x :: r => uptoBulkEntry x + uptoBulkEntries r
def uptoBulkEntry {H : Type} : Lit × DataW H → Nat
  | (.string bytes, d) => bytes.length + uptoBulk d + 1
  | (_, d) => uptoBulk d + 1
 end
def uptoSmall : (H : Type) → List (DataW H) → Bool := fun _ ds => decide (uptoBulkAll ds ≤ 1048576)
def OpenSpec.upto (s : _root_.Go.ChangeSpec) : _root_.Go.OpenSpec := { _root_.Go.OpenSpec.ofChange s with cond := some uptoSmall }

/-- 'pedagoguelaw10.DenseNothing', WHERE WHAT IT READS IS OF BULK AT MOST 1048576: true; the input reads as it did. -/
def denseNothingUptoRow : OpenClaim := { program := "ytlbapaelkdpjcaa", sum := "86ecb8b6bf8c49c6d53784e37dd7372fa7b2b9762377f23ad6ce3c5f3c57457a", func := "pedagogue/pedagoguelaw10.DenseNothing", spec := "denseNothing", unfollowed := true, recurses := true, apart := false, narrowed := true }
def DenseNothingUptoSaid : Prop := denseNothingUptoRow.holds Try.pinned (OpenSpec.upto denseNothingSpec)

/-- 'pedagoguelaw8.TensorZero', WHERE WHAT IT READS IS OF BULK AT MOST 1048576: true; the input reads as it did. -/
def tensorZeroUptoRow : OpenClaim := { program := "ytlbapaelkdpjcaa", sum := "86ecb8b6bf8c49c6d53784e37dd7372fa7b2b9762377f23ad6ce3c5f3c57457a", func := "pedagogue/pedagoguelaw8.TensorZero", spec := "tensorZero", apart := false, narrowed := true }
def TensorZeroUptoSaid : Prop := tensorZeroUptoRow.holds Try.pinned (OpenSpec.upto tensorZeroSpec)

/-- 'pedagoguelaw10.DenseSums', WHERE WHAT IT READS IS OF BULK AT MOST 1048576: true; the input reads as it did. -/
def denseSumsUptoRow : OpenClaim := { program := "ytlbapaelkdpjcaa", sum := "86ecb8b6bf8c49c6d53784e37dd7372fa7b2b9762377f23ad6ce3c5f3c57457a", func := "pedagogue/pedagoguelaw10.DenseSums", spec := "denseSums", unfollowed := true, recurses := true, apart := false, narrowed := true }
def DenseSumsUptoSaid : Prop := denseSumsUptoRow.holds Try.pinned (OpenSpec.upto denseSumsSpec)

/-- 'pedagoguelaw19.LossSoft', WHERE WHAT IT READS IS OF BULK AT MOST 1048576: true; the input reads as it did. -/
def lossSoftUptoRow : OpenClaim := { program := "ytlbapaelkdpjcaa", sum := "86ecb8b6bf8c49c6d53784e37dd7372fa7b2b9762377f23ad6ce3c5f3c57457a", func := "pedagogue/pedagoguelaw19.LossSoft", spec := "lossSoft", unfollowed := true, recurses := true, apart := false, narrowed := true }
def LossSoftUptoSaid : Prop := lossSoftUptoRow.holds Try.pinned (OpenSpec.upto lossSoftSpec)

/-- 'pedagoguelaw19.LossSharp', WHERE WHAT IT READS IS OF BULK AT MOST 1048576: true; the input reads as it did. -/
def lossSharpUptoRow : OpenClaim := { program := "ytlbapaelkdpjcaa", sum := "86ecb8b6bf8c49c6d53784e37dd7372fa7b2b9762377f23ad6ce3c5f3c57457a", func := "pedagogue/pedagoguelaw19.LossSharp", spec := "lossSharp", unfollowed := true, recurses := true, apart := false, narrowed := true }
def LossSharpUptoSaid : Prop := lossSharpUptoRow.holds Try.pinned (OpenSpec.upto lossSharpSpec)

/-- 'pedagoguelaw10.DenseForms', WHERE WHAT IT READS IS OF BULK AT MOST 1048576: true; the input reads as it did. -/
def denseFormsUptoRow : OpenClaim := { program := "ytlbapaelkdpjcaa", sum := "86ecb8b6bf8c49c6d53784e37dd7372fa7b2b9762377f23ad6ce3c5f3c57457a", func := "pedagogue/pedagoguelaw10.DenseForms", spec := "denseForms", unfollowed := true, recurses := true, apart := false, narrowed := true }
def DenseFormsUptoSaid : Prop := denseFormsUptoRow.holds Try.pinned (OpenSpec.upto denseFormsSpec)

/-- 'pedagoguelaw21.OptimSteps', WHERE WHAT IT READS IS OF BULK AT MOST 1048576: true; the input reads as it did. -/
def optimStepsUptoRow : OpenClaim := { program := "ytlbapaelkdpjcaa", sum := "86ecb8b6bf8c49c6d53784e37dd7372fa7b2b9762377f23ad6ce3c5f3c57457a", func := "pedagogue/pedagoguelaw21.OptimSteps", spec := "optimSteps", unfollowed := true, recurses := true, apart := false, narrowed := true }
def OptimStepsUptoSaid : Prop := optimStepsUptoRow.holds Try.pinned (OpenSpec.upto optimStepsSpec)

/-- 'pedagoguelaw21.OptimStill', WHERE WHAT IT READS IS OF BULK AT MOST 1048576: true; the input reads as it did. -/
def optimStillUptoRow : OpenClaim := { program := "ytlbapaelkdpjcaa", sum := "86ecb8b6bf8c49c6d53784e37dd7372fa7b2b9762377f23ad6ce3c5f3c57457a", func := "pedagogue/pedagoguelaw21.OptimStill", spec := "optimStill", unfollowed := true, recurses := true, apart := false, narrowed := true }
def OptimStillUptoSaid : Prop := optimStillUptoRow.holds Try.pinned (OpenSpec.upto optimStillSpec)

/-- 'pedagoguelaw21.OptimByHand', WHERE WHAT IT READS IS OF BULK AT MOST 1048576: true; the input reads as it did. -/
def optimByHandUptoRow : OpenClaim := { program := "ytlbapaelkdpjcaa", sum := "86ecb8b6bf8c49c6d53784e37dd7372fa7b2b9762377f23ad6ce3c5f3c57457a", func := "pedagogue/pedagoguelaw21.OptimByHand", spec := "optimByHand", unfollowed := true, recurses := true, apart := false, narrowed := true }
def OptimByHandUptoSaid : Prop := optimByHandUptoRow.holds Try.pinned (OpenSpec.upto optimByHandSpec)

/-- 'pedagoguelaw21.OptimWithin', WHERE WHAT IT READS IS OF BULK AT MOST 1048576: true; the input reads as it did. -/
def optimWithinUptoRow : OpenClaim := { program := "ytlbapaelkdpjcaa", sum := "86ecb8b6bf8c49c6d53784e37dd7372fa7b2b9762377f23ad6ce3c5f3c57457a", func := "pedagogue/pedagoguelaw21.OptimWithin", spec := "optimWithin", unfollowed := true, recurses := true, apart := false, narrowed := true }
def OptimWithinUptoSaid : Prop := optimWithinUptoRow.holds Try.pinned (OpenSpec.upto optimWithinSpec)

/-- 'pedagoguelaw21.OptimSame', WHERE WHAT IT READS IS OF BULK AT MOST 1048576: true; the input reads as it did. -/
def optimSameUptoRow : OpenClaim := { program := "ytlbapaelkdpjcaa", sum := "86ecb8b6bf8c49c6d53784e37dd7372fa7b2b9762377f23ad6ce3c5f3c57457a", func := "pedagogue/pedagoguelaw21.OptimSame", spec := "optimSame", unfollowed := true, recurses := true, apart := false, narrowed := true }
def OptimSameUptoSaid : Prop := optimSameUptoRow.holds Try.pinned (OpenSpec.upto optimSameSpec)

/-- 'pedagoguelaw21.OptimAll', WHERE WHAT IT READS IS OF BULK AT MOST 1048576: true; the input reads as it did. -/
def optimAllUptoRow : OpenClaim := { program := "ytlbapaelkdpjcaa", sum := "86ecb8b6bf8c49c6d53784e37dd7372fa7b2b9762377f23ad6ce3c5f3c57457a", func := "pedagogue/pedagoguelaw21.OptimAll", spec := "optimAll", unfollowed := true, recurses := true, apart := false, narrowed := true }
def OptimAllUptoSaid : Prop := optimAllUptoRow.holds Try.pinned (OpenSpec.upto optimAllSpec)

end Rows
end Go.Proofs.Ytlbapaelkdpjcaa
