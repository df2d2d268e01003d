/- Part of the proof. No condition. -/
import Derived.Test.YtbenbhdagmnapaaYStep
import Derived.Test.YtbenbhdagmnapaaProg
namespace Go.Mach
theorem aLE (P : Program) : fW (aIw P) := by
 intro fl f args H v H' h
 cases h
theorem extF_sound {base : Nat} {w0 : World} : iH base w0 Go.Proofs.Try.prog (aIw Go.Proofs.Try.prog) := by
 intro fl f args cargs ρ H H' w v S hbf hfl hfr hargs h
 cases h
end Go.Mach
