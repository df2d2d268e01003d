/- Part of the proof. No condition. -/
import Derived.Test.YtcfpfefadlnmcaaGreatYStep
import Derived.Test.YtcfpfefadlnmcaaGreatProg
namespace Go.Mach
theorem aKP (P : Program) : eK (aI5 P) := by
 intro fl f args H v H' h
 cases h
theorem extF_sound {base : Nat} {w0 : World} : gF base w0 Go.Proofs.Tryz.prog (aI5 Go.Proofs.Tryz.prog) := by
 intro fl f args cargs ρ H H' w v S hbf hfl hfr hargs h
 cases h
end Go.Mach
