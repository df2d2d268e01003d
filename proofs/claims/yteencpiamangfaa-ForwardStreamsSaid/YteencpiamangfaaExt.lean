/- Functions whose text the machine does not take: none. -/
import Derived.Test.YteencpiamangfaaMach
namespace Go.Mach
def extB (_f : FuncId) : Bool := false
def extF (_P : Program) : Nat → FuncId → Array Value → AHeap → Option (Value × AHeap) := fun _ _ _ _ => none
end Go.Mach
