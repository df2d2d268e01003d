/-
  No cell of these rows narrows 'for every input' (looked for: loops, veiled, ifaces, maps, wideKeys, modest, calm, conditions, laid).
  DERIVED. THE GIVEN ROWS OF THIS SEAT. 5 by the template 'for every input the law returns true; each argument reads behind the call as it read before'; 0 by the template 'total and deterministic' (their statements: YtpbegbmmhpencaaTotals.lean).
  GIVEN WITH THE SEED: the statements are not yours to turn. If you find one false, say at which input.
  Laid BY PROGRAM, IN A SANDBOX (cutbox-rows.mjs): the forced cells as the released guide's own fill.sh prints them over the translation 8eda710a393c558e… (all of the seat's roots in one cut). By AI agents, Wed Nov 11 2026. No macro, syntax, notation, axiom, sorry.
-/
import Derived.Test.YtpbegbmmhpencaaChecked
import GoSem.Claim
import GoSem.ClaimJoined
import GoSem.ClaimMapViews
import Derived.JoinedTies
import Derived.KernelRfl
namespace Go.Proofs.Ytpbegbmmhpencaa
/- THE CELL 'sum', in the pinned program and in every row, IS THE sha256 OF THE DUMP (.gsa) THAT YtpbegbmmhpencaaProg.lean LOADS. Nothing in Lean hashes anything: it is a label: what it is worth is what the hold of that sum in a sandbox is worth. -/
noncomputable def Try.pinned : Pinned := { name := "ytpbegbmmhpencaa", sum := "8eda710a393c558e71116124f8f6f804e9c52900bc6fc4e6129a17bc6e05f26e", checked := Try.checked }
namespace Rows
def none {H : Type} : Left H := { results := [], args := [] }

/-- 'pedagoguelaw19.LossSoft': WHATEVER THE INPUT: true; the input reads as it did. -/
def lossSoftSpec : ChangeSpec := { name := "lossSoft", fn := fun _ => fun
  | [d1, d2, d3] => { results := [.lit (.bool true)], args := [d1, d2, d3] }
  | _ => none }
def lossSoftRow : OpenClaim := { program := "ytpbegbmmhpencaa", sum := "8eda710a393c558e71116124f8f6f804e9c52900bc6fc4e6129a17bc6e05f26e", func := "pedagogue/pedagoguelaw19.LossSoft", spec := "lossSoft", unfollowed := true, recurses := true, apart := false }
def LossSoftSaid : Prop := lossSoftRow.holds Try.pinned (OpenSpec.ofChange lossSoftSpec)

/-- ITS FALSE NEIGHBOUR: 'it returns false'. Refute it at one input. -/
def lossSoftWrong : ChangeSpec := { name := "lossSoft", fn := fun _ => fun
  | [d1, d2, d3] => { results := [.lit (.bool false)], args := [d1, d2, d3] }
  | _ => none }
def LossSoftWrongFalsely : Prop := lossSoftRow.holds Try.pinned (OpenSpec.ofChange lossSoftWrong)

/-- 'pedagoguelaw19.LossSharp': WHATEVER THE INPUT: true; the input reads as it did. -/
def lossSharpSpec : ChangeSpec := { name := "lossSharp", fn := fun _ => fun
  | [d1, d2] => { results := [.lit (.bool true)], args := [d1, d2] }
  | _ => none }
def lossSharpRow : OpenClaim := { program := "ytpbegbmmhpencaa", sum := "8eda710a393c558e71116124f8f6f804e9c52900bc6fc4e6129a17bc6e05f26e", func := "pedagogue/pedagoguelaw19.LossSharp", spec := "lossSharp", unfollowed := true, recurses := true, apart := false }
def LossSharpSaid : Prop := lossSharpRow.holds Try.pinned (OpenSpec.ofChange lossSharpSpec)

/-- ITS FALSE NEIGHBOUR: 'it returns false'. Refute it at one input. -/
def lossSharpWrong : ChangeSpec := { name := "lossSharp", fn := fun _ => fun
  | [d1, d2] => { results := [.lit (.bool false)], args := [d1, d2] }
  | _ => none }
def LossSharpWrongFalsely : Prop := lossSharpRow.holds Try.pinned (OpenSpec.ofChange lossSharpWrong)

/-- 'pedagoguelaw19.LossRows': WHATEVER THE INPUT: true; the input reads as it did. -/
def lossRowsSpec : ChangeSpec := { name := "lossRows", fn := fun _ => fun
  | [d1, d2, d3, d4, d5] => { results := [.lit (.bool true)], args := [d1, d2, d3, d4, d5] }
  | _ => none }
def lossRowsRow : OpenClaim := { program := "ytpbegbmmhpencaa", sum := "8eda710a393c558e71116124f8f6f804e9c52900bc6fc4e6129a17bc6e05f26e", func := "pedagogue/pedagoguelaw19.LossRows", spec := "lossRows", unfollowed := true, recurses := true, apart := false }
def LossRowsSaid : Prop := lossRowsRow.holds Try.pinned (OpenSpec.ofChange lossRowsSpec)

/-- ITS FALSE NEIGHBOUR: 'it returns false'. Refute it at one input. -/
def lossRowsWrong : ChangeSpec := { name := "lossRows", fn := fun _ => fun
  | [d1, d2, d3, d4, d5] => { results := [.lit (.bool false)], args := [d1, d2, d3, d4, d5] }
  | _ => none }
def LossRowsWrongFalsely : Prop := lossRowsRow.holds Try.pinned (OpenSpec.ofChange lossRowsWrong)

/-- 'pedagoguelaw19.LossForms': WHATEVER THE INPUT: true; the input reads as it did. -/
def lossFormsSpec : ChangeSpec := { name := "lossForms", fn := fun _ => fun
  | [d1, d2, d3, d4] => { results := [.lit (.bool true)], args := [d1, d2, d3, d4] }
  | _ => none }
def lossFormsRow : OpenClaim := { program := "ytpbegbmmhpencaa", sum := "8eda710a393c558e71116124f8f6f804e9c52900bc6fc4e6129a17bc6e05f26e", func := "pedagogue/pedagoguelaw19.LossForms", spec := "lossForms", unfollowed := true, recurses := true, apart := false }
def LossFormsSaid : Prop := lossFormsRow.holds Try.pinned (OpenSpec.ofChange lossFormsSpec)

/-- ITS FALSE NEIGHBOUR: 'it returns false'. Refute it at one input. -/
def lossFormsWrong : ChangeSpec := { name := "lossForms", fn := fun _ => fun
  | [d1, d2, d3, d4] => { results := [.lit (.bool false)], args := [d1, d2, d3, d4] }
  | _ => none }
def LossFormsWrongFalsely : Prop := lossFormsRow.holds Try.pinned (OpenSpec.ofChange lossFormsWrong)

/-- 'pedagoguelaw19.LossGrads': WHATEVER THE INPUT: true; the input reads as it did. -/
def lossGradsSpec : ChangeSpec := { name := "lossGrads", fn := fun _ => fun
  | [d1, d2] => { results := [.lit (.bool true)], args := [d1, d2] }
  | _ => none }
def lossGradsRow : OpenClaim := { program := "ytpbegbmmhpencaa", sum := "8eda710a393c558e71116124f8f6f804e9c52900bc6fc4e6129a17bc6e05f26e", func := "pedagogue/pedagoguelaw19.LossGrads", spec := "lossGrads", unfollowed := true, recurses := true, apart := false }
def LossGradsSaid : Prop := lossGradsRow.holds Try.pinned (OpenSpec.ofChange lossGradsSpec)

/-- ITS FALSE NEIGHBOUR: 'it returns false'. Refute it at one input. -/
def lossGradsWrong : ChangeSpec := { name := "lossGrads", fn := fun _ => fun
  | [d1, d2] => { results := [.lit (.bool false)], args := [d1, d2] }
  | _ => none }
def LossGradsWrongFalsely : Prop := lossGradsRow.holds Try.pinned (OpenSpec.ofChange lossGradsWrong)

/- THE SECOND FORM. 'bulk': how many values and letters a reading holds, each counted each time it is reached (what is shared counts as often as it is met; a slice's spare places count too). A statement '..UptoSaid' is the law's where the arguments, and the package variables that the reading takes, are together of bulk at most 1048576: NARROWER than '..Said'. Prove '..Said' where nothing that the law and all that it calls make is longer than what came in: it says more and counts as full. Else prove '..UptoSaid'. A law counts once. -/
mutual
def uptoBulk {H : Type} : DataW H → Nat
  | .lit (.string bytes) => bytes.length + 1
  | .lit _ => 1
  | .nil => 1
  | .ptr d => uptoBulk d + 1
  | .slice elems spare => uptoBulkAll elems + uptoBulkAll spare + 1
  | .agg parts => uptoBulkAll parts + 1
  | .iface _ d => uptoBulk d + 1
  | .map entries => uptoBulkEntries entries + 1
  | .held _ => 1
def uptoBulkAll {H : Type} : List (DataW H) → Nat
  | [] => 0
  | d :: r => uptoBulk d + uptoBulkAll r
def uptoBulkEntries {H : Type} : List (Lit × DataW H) → Nat
  | [] => 0
  | x :: r => uptoBulkEntry x + uptoBulkEntries r
def uptoBulkEntry {H : Type} : Lit × DataW H → Nat
  | (.string bytes, d) => bytes.length + uptoBulk d + 1
  | (_, d) => uptoBulk d + 1
 end
def uptoSmall : (H : Type) → List (DataW H) → Bool := fun _ ds => decide (uptoBulkAll ds ≤ 1048576)
def OpenSpec.upto (s : _root_.Go.ChangeSpec) : _root_.Go.OpenSpec := { _root_.Go.OpenSpec.ofChange s with cond := some uptoSmall }

/-- 'pedagoguelaw19.LossSoft', WHERE WHAT IT READS IS OF BULK AT MOST 1048576: true; the input reads as it did. -/
def lossSoftUptoRow : OpenClaim := { program := "ytpbegbmmhpencaa", sum := "8eda710a393c558e71116124f8f6f804e9c52900bc6fc4e6129a17bc6e05f26e", func := "pedagogue/pedagoguelaw19.LossSoft", spec := "lossSoft", unfollowed := true, recurses := true, apart := false, narrowed := true }
def LossSoftUptoSaid : Prop := lossSoftUptoRow.holds Try.pinned (OpenSpec.upto lossSoftSpec)

/-- 'pedagoguelaw19.LossSharp', WHERE WHAT IT READS IS OF BULK AT MOST 1048576: true; the input reads as it did. -/
def lossSharpUptoRow : OpenClaim := { program := "ytpbegbmmhpencaa", sum := "8eda710a393c558e71116124f8f6f804e9c52900bc6fc4e6129a17bc6e05f26e", func := "pedagogue/pedagoguelaw19.LossSharp", spec := "lossSharp", unfollowed := true, recurses := true, apart := false, narrowed := true }
def LossSharpUptoSaid : Prop := lossSharpUptoRow.holds Try.pinned (OpenSpec.upto lossSharpSpec)

/-- 'pedagoguelaw19.LossRows', WHERE WHAT IT READS IS OF BULK AT MOST 1048576: true; the input reads as it did. -/
def lossRowsUptoRow : OpenClaim := { program := "ytpbegbmmhpencaa", sum := "8eda710a393c558e71116124f8f6f804e9c52900bc6fc4e6129a17bc6e05f26e", func := "pedagogue/pedagoguelaw19.LossRows", spec := "lossRows", unfollowed := true, recurses := true, apart := false, narrowed := true }
def LossRowsUptoSaid : Prop := lossRowsUptoRow.holds Try.pinned (OpenSpec.upto lossRowsSpec)

/-- 'pedagoguelaw19.LossForms', WHERE WHAT IT READS IS OF BULK AT MOST 1048576: true; the input reads as it did. -/
def lossFormsUptoRow : OpenClaim := { program := "ytpbegbmmhpencaa", sum := "8eda710a393c558e71116124f8f6f804e9c52900bc6fc4e6129a17bc6e05f26e", func := "pedagogue/pedagoguelaw19.LossForms", spec := "lossForms", unfollowed := true, recurses := true, apart := false, narrowed := true }
def LossFormsUptoSaid : Prop := lossFormsUptoRow.holds Try.pinned (OpenSpec.upto lossFormsSpec)

/-- 'pedagoguelaw19.LossGrads', WHERE WHAT IT READS IS OF BULK AT MOST 1048576: true; the input reads as it did. -/
def lossGradsUptoRow : OpenClaim := { program := "ytpbegbmmhpencaa", sum := "8eda710a393c558e71116124f8f6f804e9c52900bc6fc4e6129a17bc6e05f26e", func := "pedagogue/pedagoguelaw19.LossGrads", spec := "lossGrads", unfollowed := true, recurses := true, apart := false, narrowed := true }
def LossGradsUptoSaid : Prop := lossGradsUptoRow.holds Try.pinned (OpenSpec.upto lossGradsSpec)

end Rows
end Go.Proofs.Ytpbegbmmhpencaa
