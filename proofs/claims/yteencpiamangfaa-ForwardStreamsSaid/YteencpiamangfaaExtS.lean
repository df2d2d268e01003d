/- No function is told by a formula. No condition. -/
import Derived.Test.YteencpiamangfaaStep
import Derived.Test.YteencpiamangfaaProg
namespace Go.Mach
theorem extF_kept (P : Program) : CallerKept (extF P) := by
  intro fl f args H v H' h
  cases h
theorem extF_sound {base : Nat} {w0 : World} : CallerSound base w0 Go.Proofs.Try.prog (extF Go.Proofs.Try.prog) := by
  intro fl f args cargs ρ H H' w v S hbf hfl hfr hargs h
  cases h
end Go.Mach
