/- Part of the proof. No condition. -/
import Derived.Test.YtcfpfefadlnmcaaGreatYMach
namespace Go.Mach
def aPl (_f : FuncId) : Bool := false
def aI5 (_P : Program) : Nat -> FuncId -> Array Value -> aB -> Option (Value × aB) := fun _ _ _ _ => none
end Go.Mach
