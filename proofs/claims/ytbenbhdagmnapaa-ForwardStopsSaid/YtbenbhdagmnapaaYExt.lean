/- Part of the proof. No condition. -/
import Derived.Test.YtbenbhdagmnapaaYMach
namespace Go.Mach
def aP0 (_f : FuncId) : Bool := false
def aIw (_P : Program) : Nat -> FuncId -> Array Value -> aA -> Option (Value × aA) := fun _ _ _ _ => none
end Go.Mach
