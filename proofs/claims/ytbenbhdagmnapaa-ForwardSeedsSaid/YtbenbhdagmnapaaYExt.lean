/- Part of the proof. No condition. -/
import Derived.Test.YtbenbhdagmnapaaYMach
namespace Go.Mach
def aPM (_f : FuncId) : Bool := false
def aJE (_P : Program) : Nat -> FuncId -> Array Value -> aA -> Option (Value × aA) := fun _ _ _ _ => none
end Go.Mach
