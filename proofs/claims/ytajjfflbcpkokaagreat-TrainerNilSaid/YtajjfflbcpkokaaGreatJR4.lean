/- Call 4 of the concrete run, carried out by the kernel. No condition. -/
import Derived.Test.YtajjfflbcpkokaaGreatJA
import Derived.Test.YtajjfflbcpkokaaGreatProg
import Derived.KernelRfl
namespace Go.Mach.J
open Go Go.Mach
theorem run4 (k : Value → HT → Prop) : (h4 fun H => kcall extB0 Go.Proofs.Tryz.prog xk 99999 0 4 [(p 505 0), (.agg ⟨[(i 1), (i 1), z]⟩)] H fun v H => gcK [253, 401, 420, 439, 458, 477, 496, 501, 502, 503, 504, 505, 506, 953, 5101, 6678, 6731, 6764, 6769, 6782, 6870, 6899, 6916, 6921, 6928, 6931] H fun H => k v H) = h5 fun H => k (.tuple ⟨[(i 1), (i 0)]⟩) H := by kernel_rfl
end Go.Mach.J
