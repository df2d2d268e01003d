/- Call 2 of the concrete run, carried out by the kernel. No condition. -/
import Derived.Test.YtajjfflbcpkokaaGreatJA
import Derived.Test.YtajjfflbcpkokaaGreatProg
import Derived.KernelRfl
namespace Go.Mach.J
open Go Go.Mach
theorem run2 (k : Value → HT → Prop) : (h2 fun H => kcall extB0 Go.Proofs.Tryz.prog xk 99999 0 4 [(p 505 0), (.agg ⟨[(i 1), (i 2), z]⟩)] H fun v H => gcK [253, 401, 420, 439, 458, 477, 496, 501, 502, 503, 504, 505, 506, 953, 4360, 4413, 4446, 4451, 4464, 4552, 4581, 4598, 4603, 4610, 4613] H fun H => k v H) = h3 fun H => k (.tuple ⟨[(i 2), (i 0)]⟩) H := by kernel_rfl
end Go.Mach.J
