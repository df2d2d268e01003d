/- Part of the proof. No condition. -/
import Derived.Test.YtcfpfefadlnmcaaGreatYVArg
import Derived.SizedLaws
namespace Go.Mach
open Go.RowKit Go.ChangeShapes Go.WideShapes
set_option linter.unusedVariables false
set_option linter.unusedSimpArgs false
section
variable {H:Type} {enc:TypeId×Value->H} {P:Program} {w:World} {r:Reach} {base:Nat}
theorem aJL {ρ:Ren}{avs:List Value}(h:∀ x∈avs,VRel ρ x x):VRel ρ (.agg avs.toArray) (.agg avs.toArray):=by
 refine .agg _ _ rfl fun i v v' ha hb => ?_
 rw[ha]at hb
 cases hb
 exact h v (by rw[<- yC]at ha;exact sR (by simpa using ha))
end
end Go.Mach
namespace Go.Mach
open Go.RowKit Go.ChangeShapes Go.WideShapes
set_option linter.unusedVariables false
set_option linter.unusedSimpArgs false
section
variable {H:Type} {enc:TypeId×Value->H} {P:Program} {w:World} {r:Reach} {base:Nat}
end
end Go.Mach
