/- Part of the proof. No condition. -/
import Derived.Test.YtbenbhdagmnapaaYStep
import Derived.Test.YtbenbhdagmnapaaProg
namespace Go.Mach
theorem aLC (P : Program) : fN (aJE P) := by
 intro fl f args H v H' h
 cases h
theorem extF_sound {base : Nat} {w0 : World} : iJ base w0 Go.Proofs.Try.prog (aJE Go.Proofs.Try.prog) := by
 intro fl f args cargs ρ H H' w v S hbf hfl hfr hargs h
 cases h
end Go.Mach
