/-
  No cell of these rows narrows 'for every input' (looked for: loops, veiled, ifaces, maps, wideKeys, modest, calm, conditions, laid).
  DERIVED. THE GIVEN ROWS OF THIS SEAT. 6 by the template 'for every input the law returns true; each argument reads behind the call as it read before'; 0 by the template 'total and deterministic' (their statements: YtcfpfefadlnmcaaGreatTotals.lean).
  GIVEN WITH THE SEED: the statements are not yours to turn. If you find one false, say at which input.
  Laid BY PROGRAM, IN A SANDBOX (cutbox-rows.mjs): the forced cells as the released guide's own fill.sh prints them over the translation 689677c153cf82fe… (all of the seat's roots in one cut). By AI agents, Wed Nov 11 2026. No macro, syntax, notation, axiom, sorry.
-/
import Derived.Test.YtcfpfefadlnmcaaGreatChecked
import GoSem.Claim
import GoSem.ClaimJoined
import GoSem.ClaimMapViews
import Derived.JoinedTies
import Derived.KernelRfl
namespace Go.Proofs.YtcfpfefadlnmcaaGreat
/- THE CELL 'sum', in the pinned program and in every row, IS THE sha256 OF THE DUMP (.gsa) THAT YtcfpfefadlnmcaaGreatProg.lean LOADS. Nothing in Lean hashes anything: it is a label: what it is worth is what the hold of that sum in a sandbox is worth. -/
noncomputable def Tryz.pinned : Pinned := { name := "ytcfpfefadlnmcaagreat", sum := "689677c153cf82fe666a3528c34e970392601b3a8f16224ee312063d70ab2c72", checked := Tryz.checked }
namespace Rows
def none {H : Type} : Left H := { results := [], args := [] }

/-- 'pedagoguelaw18.ForwardRefuses': WHATEVER THE INPUT: true; the input reads as it did. -/
def forwardRefusesSpec : ChangeSpec := { name := "forwardRefuses", fn := fun _ => fun
  | [d1, d2, d3, d4, d5] => { results := [.lit (.bool true)], args := [d1, d2, d3, d4, d5] }
  | _ => none }
def forwardRefusesRow : OpenClaim := { program := "ytcfpfefadlnmcaagreat", sum := "689677c153cf82fe666a3528c34e970392601b3a8f16224ee312063d70ab2c72", func := "pedagogue/pedagoguelaw18.ForwardRefuses", spec := "forwardRefuses", unfollowed := true, recurses := true, apart := false }
def ForwardRefusesSaid : Prop := forwardRefusesRow.holds Tryz.pinned (OpenSpec.ofChange forwardRefusesSpec)

/-- ITS FALSE NEIGHBOUR: 'it returns false'. Refute it at one input. -/
def forwardRefusesWrong : ChangeSpec := { name := "forwardRefuses", fn := fun _ => fun
  | [d1, d2, d3, d4, d5] => { results := [.lit (.bool false)], args := [d1, d2, d3, d4, d5] }
  | _ => none }
def ForwardRefusesWrongFalsely : Prop := forwardRefusesRow.holds Tryz.pinned (OpenSpec.ofChange forwardRefusesWrong)

/-- 'pedagoguelaw20.BackwardRuns': WHATEVER THE INPUT: true; the input reads as it did. -/
def backwardRunsSpec : ChangeSpec := { name := "backwardRuns", fn := fun _ => fun
  | [d1, d2, d3, d4, d5] => { results := [.lit (.bool true)], args := [d1, d2, d3, d4, d5] }
  | _ => none }
def backwardRunsRow : OpenClaim := { program := "ytcfpfefadlnmcaagreat", sum := "689677c153cf82fe666a3528c34e970392601b3a8f16224ee312063d70ab2c72", func := "pedagogue/pedagoguelaw20.BackwardRuns", spec := "backwardRuns", unfollowed := true, recurses := true, apart := false }
def BackwardRunsSaid : Prop := backwardRunsRow.holds Tryz.pinned (OpenSpec.ofChange backwardRunsSpec)

/-- ITS FALSE NEIGHBOUR: 'it returns false'. Refute it at one input. -/
def backwardRunsWrong : ChangeSpec := { name := "backwardRuns", fn := fun _ => fun
  | [d1, d2, d3, d4, d5] => { results := [.lit (.bool false)], args := [d1, d2, d3, d4, d5] }
  | _ => none }
def BackwardRunsWrongFalsely : Prop := backwardRunsRow.holds Tryz.pinned (OpenSpec.ofChange backwardRunsWrong)

/-- 'pedagoguelaw20.BackwardRefuses': WHATEVER THE INPUT: true; the input reads as it did. -/
def backwardRefusesSpec : ChangeSpec := { name := "backwardRefuses", fn := fun _ => fun
  | [d1, d2, d3, d4, d5] => { results := [.lit (.bool true)], args := [d1, d2, d3, d4, d5] }
  | _ => none }
def backwardRefusesRow : OpenClaim := { program := "ytcfpfefadlnmcaagreat", sum := "689677c153cf82fe666a3528c34e970392601b3a8f16224ee312063d70ab2c72", func := "pedagogue/pedagoguelaw20.BackwardRefuses", spec := "backwardRefuses", unfollowed := true, recurses := true, apart := false }
def BackwardRefusesSaid : Prop := backwardRefusesRow.holds Tryz.pinned (OpenSpec.ofChange backwardRefusesSpec)

/-- ITS FALSE NEIGHBOUR: 'it returns false'. Refute it at one input. -/
def backwardRefusesWrong : ChangeSpec := { name := "backwardRefuses", fn := fun _ => fun
  | [d1, d2, d3, d4, d5] => { results := [.lit (.bool false)], args := [d1, d2, d3, d4, d5] }
  | _ => none }
def BackwardRefusesWrongFalsely : Prop := backwardRefusesRow.holds Tryz.pinned (OpenSpec.ofChange backwardRefusesWrong)

/-- 'pedagoguelaw20.BackwardFrozen': WHATEVER THE INPUT: true; the input reads as it did. -/
def backwardFrozenSpec : ChangeSpec := { name := "backwardFrozen", fn := fun _ => fun
  | [d1, d2, d3, d4] => { results := [.lit (.bool true)], args := [d1, d2, d3, d4] }
  | _ => none }
def backwardFrozenRow : OpenClaim := { program := "ytcfpfefadlnmcaagreat", sum := "689677c153cf82fe666a3528c34e970392601b3a8f16224ee312063d70ab2c72", func := "pedagogue/pedagoguelaw20.BackwardFrozen", spec := "backwardFrozen", unfollowed := true, recurses := true, apart := false }
def BackwardFrozenSaid : Prop := backwardFrozenRow.holds Tryz.pinned (OpenSpec.ofChange backwardFrozenSpec)

/-- ITS FALSE NEIGHBOUR: 'it returns false'. Refute it at one input. -/
def backwardFrozenWrong : ChangeSpec := { name := "backwardFrozen", fn := fun _ => fun
  | [d1, d2, d3, d4] => { results := [.lit (.bool false)], args := [d1, d2, d3, d4] }
  | _ => none }
def BackwardFrozenWrongFalsely : Prop := backwardFrozenRow.holds Tryz.pinned (OpenSpec.ofChange backwardFrozenWrong)

/-- 'pedagoguelaw20.BackwardNothing': WHATEVER THE INPUT: true; the input reads as it did. -/
def backwardNothingSpec : ChangeSpec := { name := "backwardNothing", fn := fun _ => fun
  | [d1, d2] => { results := [.lit (.bool true)], args := [d1, d2] }
  | _ => none }
def backwardNothingRow : OpenClaim := { program := "ytcfpfefadlnmcaagreat", sum := "689677c153cf82fe666a3528c34e970392601b3a8f16224ee312063d70ab2c72", func := "pedagogue/pedagoguelaw20.BackwardNothing", spec := "backwardNothing", unfollowed := true, recurses := true, apart := false }
def BackwardNothingSaid : Prop := backwardNothingRow.holds Tryz.pinned (OpenSpec.ofChange backwardNothingSpec)

/-- ITS FALSE NEIGHBOUR: 'it returns false'. Refute it at one input. -/
def backwardNothingWrong : ChangeSpec := { name := "backwardNothing", fn := fun _ => fun
  | [d1, d2] => { results := [.lit (.bool false)], args := [d1, d2] }
  | _ => none }
def BackwardNothingWrongFalsely : Prop := backwardNothingRow.holds Tryz.pinned (OpenSpec.ofChange backwardNothingWrong)

/-- 'pedagoguelaw20.BackwardLast': WHATEVER THE INPUT: true; the input reads as it did. -/
def backwardLastSpec : ChangeSpec := { name := "backwardLast", fn := fun _ => fun
  | [d1, d2, d3] => { results := [.lit (.bool true)], args := [d1, d2, d3] }
  | _ => none }
def backwardLastRow : OpenClaim := { program := "ytcfpfefadlnmcaagreat", sum := "689677c153cf82fe666a3528c34e970392601b3a8f16224ee312063d70ab2c72", func := "pedagogue/pedagoguelaw20.BackwardLast", spec := "backwardLast", unfollowed := true, recurses := true, apart := false }
def BackwardLastSaid : Prop := backwardLastRow.holds Tryz.pinned (OpenSpec.ofChange backwardLastSpec)

/-- ITS FALSE NEIGHBOUR: 'it returns false'. Refute it at one input. -/
def backwardLastWrong : ChangeSpec := { name := "backwardLast", fn := fun _ => fun
  | [d1, d2, d3] => { results := [.lit (.bool false)], args := [d1, d2, d3] }
  | _ => none }
def BackwardLastWrongFalsely : Prop := backwardLastRow.holds Tryz.pinned (OpenSpec.ofChange backwardLastWrong)

/- THE SECOND FORM. 'bulk': how many values and letters a reading holds, each counted each time it is reached (what is shared counts as often as it is met; a slice's spare places count too). A statement '..UptoSaid' is the law's where the arguments, and the package variables that the reading takes, are together of bulk at most 1048576: NARROWER than '..Said'. Prove '..Said' where nothing that the law and all that it calls make is longer than what came in: it says more and counts as full. Else prove '..UptoSaid'. A law counts once. -/
mutual
def uptoBulk {H : Type} : DataW H → Nat
  | .lit (.string bytes) => bytes.length + 1
  | .lit _ => 1
  | .nil => 1
  | .ptr d => uptoBulk d + 1
  | .slice elems spare => uptoBulkAll elems + uptoBulkAll spare + 1
  | .agg parts => uptoBulkAll parts + 1
  | .iface _ d => uptoBulk d + 1
  | .map entries => uptoBulkEntries entries + 1
  | .held _ => 1
def uptoBulkAll {H : Type} : List (DataW H) → Nat
  | [] => 0
  | d :: r => uptoBulk d + uptoBulkAll r
def uptoBulkEntries {H : Type} : List (Lit × DataW H) → Nat
  | [] => 0
  | x :: r => uptoBulkEntry x + uptoBulkEntries r
def uptoBulkEntry {H : Type} : Lit × DataW H → Nat
  | (.string bytes, d) => bytes.length + uptoBulk d + 1
  | (_, d) => uptoBulk d + 1
 end
def uptoSmall : (H : Type) → List (DataW H) → Bool := fun _ ds => decide (uptoBulkAll ds ≤ 1048576)
def OpenSpec.upto (s : _root_.Go.ChangeSpec) : _root_.Go.OpenSpec := { _root_.Go.OpenSpec.ofChange s with cond := some uptoSmall }

/-- 'pedagoguelaw18.ForwardRefuses', WHERE WHAT IT READS IS OF BULK AT MOST 1048576: true; the input reads as it did. -/
def forwardRefusesUptoRow : OpenClaim := { program := "ytcfpfefadlnmcaagreat", sum := "689677c153cf82fe666a3528c34e970392601b3a8f16224ee312063d70ab2c72", func := "pedagogue/pedagoguelaw18.ForwardRefuses", spec := "forwardRefuses", unfollowed := true, recurses := true, apart := false, narrowed := true }
def ForwardRefusesUptoSaid : Prop := forwardRefusesUptoRow.holds Tryz.pinned (OpenSpec.upto forwardRefusesSpec)

/-- 'pedagoguelaw20.BackwardRuns', WHERE WHAT IT READS IS OF BULK AT MOST 1048576: true; the input reads as it did. -/
def backwardRunsUptoRow : OpenClaim := { program := "ytcfpfefadlnmcaagreat", sum := "689677c153cf82fe666a3528c34e970392601b3a8f16224ee312063d70ab2c72", func := "pedagogue/pedagoguelaw20.BackwardRuns", spec := "backwardRuns", unfollowed := true, recurses := true, apart := false, narrowed := true }
def BackwardRunsUptoSaid : Prop := backwardRunsUptoRow.holds Tryz.pinned (OpenSpec.upto backwardRunsSpec)

/-- 'pedagoguelaw20.BackwardRefuses', WHERE WHAT IT READS IS OF BULK AT MOST 1048576: true; the input reads as it did. -/
def backwardRefusesUptoRow : OpenClaim := { program := "ytcfpfefadlnmcaagreat", sum := "689677c153cf82fe666a3528c34e970392601b3a8f16224ee312063d70ab2c72", func := "pedagogue/pedagoguelaw20.BackwardRefuses", spec := "backwardRefuses", unfollowed := true, recurses := true, apart := false, narrowed := true }
def BackwardRefusesUptoSaid : Prop := backwardRefusesUptoRow.holds Tryz.pinned (OpenSpec.upto backwardRefusesSpec)

/-- 'pedagoguelaw20.BackwardFrozen', WHERE WHAT IT READS IS OF BULK AT MOST 1048576: true; the input reads as it did. -/
def backwardFrozenUptoRow : OpenClaim := { program := "ytcfpfefadlnmcaagreat", sum := "689677c153cf82fe666a3528c34e970392601b3a8f16224ee312063d70ab2c72", func := "pedagogue/pedagoguelaw20.BackwardFrozen", spec := "backwardFrozen", unfollowed := true, recurses := true, apart := false, narrowed := true }
def BackwardFrozenUptoSaid : Prop := backwardFrozenUptoRow.holds Tryz.pinned (OpenSpec.upto backwardFrozenSpec)

/-- 'pedagoguelaw20.BackwardNothing', WHERE WHAT IT READS IS OF BULK AT MOST 1048576: true; the input reads as it did. -/
def backwardNothingUptoRow : OpenClaim := { program := "ytcfpfefadlnmcaagreat", sum := "689677c153cf82fe666a3528c34e970392601b3a8f16224ee312063d70ab2c72", func := "pedagogue/pedagoguelaw20.BackwardNothing", spec := "backwardNothing", unfollowed := true, recurses := true, apart := false, narrowed := true }
def BackwardNothingUptoSaid : Prop := backwardNothingUptoRow.holds Tryz.pinned (OpenSpec.upto backwardNothingSpec)

/-- 'pedagoguelaw20.BackwardLast', WHERE WHAT IT READS IS OF BULK AT MOST 1048576: true; the input reads as it did. -/
def backwardLastUptoRow : OpenClaim := { program := "ytcfpfefadlnmcaagreat", sum := "689677c153cf82fe666a3528c34e970392601b3a8f16224ee312063d70ab2c72", func := "pedagogue/pedagoguelaw20.BackwardLast", spec := "backwardLast", unfollowed := true, recurses := true, apart := false, narrowed := true }
def BackwardLastUptoSaid : Prop := backwardLastUptoRow.holds Tryz.pinned (OpenSpec.upto backwardLastSpec)

end Rows
end Go.Proofs.YtcfpfefadlnmcaaGreat
