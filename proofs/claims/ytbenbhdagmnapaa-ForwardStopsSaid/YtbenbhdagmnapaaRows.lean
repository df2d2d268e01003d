/-
  No cell of these rows narrows 'for every input' (looked for: loops, veiled, ifaces, maps, wideKeys, modest, calm, conditions, laid).
  DERIVED. THE GIVEN ROWS OF THIS SEAT. 2 by the template 'for every input the law returns true; each argument reads behind the call as it read before'; 0 by the template 'total and deterministic' (their statements: YtbenbhdagmnapaaTotals.lean).
  GIVEN WITH THE SEED: the statements are not yours to turn. If you find one false, say at which input.
  Laid BY PROGRAM, IN A SANDBOX (cutbox-rows.mjs): the forced cells as the released guide's own fill.sh prints them over the translation ff5d28bc5eb14777… (all of the seat's roots in one cut). By AI agents, Wed Nov 11 2026. No macro, syntax, notation, axiom, sorry.
-/
import Derived.Test.YtbenbhdagmnapaaChecked
import GoSem.Claim
import GoSem.ClaimJoined
import GoSem.ClaimMapViews
import Derived.JoinedTies
import Derived.KernelRfl
namespace Go.Proofs.Ytbenbhdagmnapaa
/- THE CELL 'sum', in the pinned program and in every row, IS THE sha256 OF THE DUMP (.gsa) THAT YtbenbhdagmnapaaProg.lean LOADS. Nothing in Lean hashes anything: it is a label: what it is worth is what the hold of that sum in a sandbox is worth. -/
noncomputable def Try.pinned : Pinned := { name := "ytbenbhdagmnapaa", sum := "ff5d28bc5eb147771051ddffdf4246862a0e1f16049235d7d7b138c49b78f4af", checked := Try.checked }
namespace Rows
def none {H : Type} : Left H := { results := [], args := [] }

/-- 'pedagoguelaw18.ForwardStops': WHATEVER THE INPUT: true; the input reads as it did. -/
def forwardStopsSpec : ChangeSpec := { name := "forwardStops", fn := fun _ => fun
  | [d1, d2, d3, d4] => { results := [.lit (.bool true)], args := [d1, d2, d3, d4] }
  | _ => none }
def forwardStopsRow : OpenClaim := { program := "ytbenbhdagmnapaa", sum := "ff5d28bc5eb147771051ddffdf4246862a0e1f16049235d7d7b138c49b78f4af", func := "pedagogue/pedagoguelaw18.ForwardStops", spec := "forwardStops", unfollowed := true, recurses := true, apart := false }
def ForwardStopsSaid : Prop := forwardStopsRow.holds Try.pinned (OpenSpec.ofChange forwardStopsSpec)

/-- ITS FALSE NEIGHBOUR: 'it returns false'. Refute it at one input. -/
def forwardStopsWrong : ChangeSpec := { name := "forwardStops", fn := fun _ => fun
  | [d1, d2, d3, d4] => { results := [.lit (.bool false)], args := [d1, d2, d3, d4] }
  | _ => none }
def ForwardStopsWrongFalsely : Prop := forwardStopsRow.holds Try.pinned (OpenSpec.ofChange forwardStopsWrong)

/-- 'pedagoguelaw18.ForwardSeeds': WHATEVER THE INPUT: true; the input reads as it did. -/
def forwardSeedsSpec : ChangeSpec := { name := "forwardSeeds", fn := fun _ => fun
  | [d1, d2, d3, d4] => { results := [.lit (.bool true)], args := [d1, d2, d3, d4] }
  | _ => none }
def forwardSeedsRow : OpenClaim := { program := "ytbenbhdagmnapaa", sum := "ff5d28bc5eb147771051ddffdf4246862a0e1f16049235d7d7b138c49b78f4af", func := "pedagogue/pedagoguelaw18.ForwardSeeds", spec := "forwardSeeds", unfollowed := true, recurses := true, apart := false }
def ForwardSeedsSaid : Prop := forwardSeedsRow.holds Try.pinned (OpenSpec.ofChange forwardSeedsSpec)

/-- ITS FALSE NEIGHBOUR: 'it returns false'. Refute it at one input. -/
def forwardSeedsWrong : ChangeSpec := { name := "forwardSeeds", fn := fun _ => fun
  | [d1, d2, d3, d4] => { results := [.lit (.bool false)], args := [d1, d2, d3, d4] }
  | _ => none }
def ForwardSeedsWrongFalsely : Prop := forwardSeedsRow.holds Try.pinned (OpenSpec.ofChange forwardSeedsWrong)

/- THE SECOND FORM. 'bulk': how many values and letters a reading holds, each counted each time it is reached (what is shared counts as often as it is met; a slice's spare places count too). A statement '..UptoSaid' is the law's where the arguments, and the package variables that the reading takes, are together of bulk at most 1048576: NARROWER than '..Said'. Prove '..Said' where nothing that the law and all that it calls make is longer than what came in: it says more and counts as full. Else prove '..UptoSaid'. A law counts once. -/
mutual
def uptoBulk {H : Type} : DataW H → Nat
  | .lit (.string bytes) => bytes.length + 1
  | .lit _ => 1
  | .nil => 1
  | .ptr d => uptoBulk d + 1
  | .slice elems spare => uptoBulkAll elems + uptoBulkAll spare + 1
  | .agg parts => uptoBulkAll parts + 1
  | .iface _ d => uptoBulk d + 1
  | .map entries => uptoBulkEntries entries + 1
  | .held _ => 1
def uptoBulkAll {H : Type} : List (DataW H) → Nat
  | [] => 0
  | d :: r => uptoBulk d + uptoBulkAll r
def uptoBulkEntries {H : Type} : List (Lit × DataW H) → Nat
  | [] => 0
  | x :: r => uptoBulkEntry x + uptoBulkEntries r
def uptoBulkEntry {H : Type} : Lit × DataW H → Nat
  | (.string bytes, d) => bytes.length + uptoBulk d + 1
  | (_, d) => uptoBulk d + 1
 end
def uptoSmall : (H : Type) → List (DataW H) → Bool := fun _ ds => decide (uptoBulkAll ds ≤ 1048576)
def OpenSpec.upto (s : _root_.Go.ChangeSpec) : _root_.Go.OpenSpec := { _root_.Go.OpenSpec.ofChange s with cond := some uptoSmall }

/-- 'pedagoguelaw18.ForwardStops', WHERE WHAT IT READS IS OF BULK AT MOST 1048576: true; the input reads as it did. -/
def forwardStopsUptoRow : OpenClaim := { program := "ytbenbhdagmnapaa", sum := "ff5d28bc5eb147771051ddffdf4246862a0e1f16049235d7d7b138c49b78f4af", func := "pedagogue/pedagoguelaw18.ForwardStops", spec := "forwardStops", unfollowed := true, recurses := true, apart := false, narrowed := true }
def ForwardStopsUptoSaid : Prop := forwardStopsUptoRow.holds Try.pinned (OpenSpec.upto forwardStopsSpec)

/-- 'pedagoguelaw18.ForwardSeeds', WHERE WHAT IT READS IS OF BULK AT MOST 1048576: true; the input reads as it did. -/
def forwardSeedsUptoRow : OpenClaim := { program := "ytbenbhdagmnapaa", sum := "ff5d28bc5eb147771051ddffdf4246862a0e1f16049235d7d7b138c49b78f4af", func := "pedagogue/pedagoguelaw18.ForwardSeeds", spec := "forwardSeeds", unfollowed := true, recurses := true, apart := false, narrowed := true }
def ForwardSeedsUptoSaid : Prop := forwardSeedsUptoRow.holds Try.pinned (OpenSpec.upto forwardSeedsSpec)

end Rows
end Go.Proofs.Ytbenbhdagmnapaa
