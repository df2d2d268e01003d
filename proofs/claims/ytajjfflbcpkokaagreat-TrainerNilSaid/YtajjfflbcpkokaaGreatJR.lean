/- Calls of the concrete run, carried out by the kernel. No condition. -/
import Derived.Test.YtajjfflbcpkokaaGreatJA
import Derived.Test.YtajjfflbcpkokaaGreatProg
import Derived.KernelRfl
namespace Go.Mach.J
open Go Go.Mach
theorem run0 (k : Value → HT → Prop) : (h0 fun H => kcall extB0 Go.Proofs.Tryz.prog xk 99999 0 17 [] H fun v H => gcK [3, 14, 25, 36, 47, 58, 69, 71] H fun H => k v H) = h1 fun H => k (.tuple ⟨[(.agg ⟨[(i 1), (i 2), (i 2), (s 3 0 4 4)]⟩), (.agg ⟨[(i 1), (i 2), (i 2), (i' 4), (i 2), (s 71 0 6 6)]⟩), (.agg ⟨[(i 2), (i 5), (i 2), (i 3), (i 0), (i 0)]⟩)]⟩) H := by kernel_rfl
theorem run1 (k : Value → HT → Prop) : (g1 fun H => kcall extB0 Go.Proofs.Tryz.prog xk 99999 0 18 [(.agg ⟨[(i 1), (i 2), (i 2), (s 3 0 4 4)]⟩), (.agg ⟨[(i 1), (i 2), (i 2), (i' 4), (i 2), (s 71 0 6 6)]⟩), (.agg ⟨[(i 2), (i 5), (i 2), (i 3), (i 0), (i 0)]⟩), (w 1), (i 64)] H fun v H => gcK [207, 208, 215, 216, 220, 235, 236, 243, 244, 248, 250, 253, 401, 420, 439, 458, 477, 496, 501, 502, 503, 504, 505, 506, 953] H fun H => k v H) = h2 fun H => k (.tuple ⟨[(p 505 0), (i 0)]⟩) H := by kernel_rfl
theorem run3 (k : Value → HT → Prop) : (h3 fun H => kcall extB0 Go.Proofs.Tryz.prog xk 99999 0 4 [(p 505 0), (.agg ⟨[(i 2), (i 0), z]⟩)] H fun v H => gcK [253, 401, 420, 439, 458, 477, 496, 501, 502, 503, 504, 505, 506, 953, 4360, 4413, 4446, 4451, 4464, 4552, 4581, 4598, 4603, 4610, 4613, 5101] H fun H => k v H) = h4 fun H => k (.tuple ⟨[(i 2), (i 0)]⟩) H := by kernel_rfl
theorem run5 (k : Value → HT → Prop) : (h5 fun H => kcall extB0 Go.Proofs.Tryz.prog xk 99999 0 4 [(p 505 0), (.agg ⟨[(i 3), (i 0), z]⟩)] H fun v H => gcK [253, 401, 420, 439, 458, 477, 496, 501, 502, 503, 504, 505, 953, 6934, 6950, 7036, 7074, 7139, 7143, 7157, 7178, 7200, 7233, 7237, 7247, 7250] H fun H => k v H) = h6 fun H => k (.tuple ⟨[(i 2), (i 0)]⟩) H := by kernel_rfl
theorem run6 (k : Value → HT → Prop) : (h6 fun H => kcall extB0 Go.Proofs.Tryz.prog xk 99999 0 5 [(p 505 0)] H fun v H => gcK [253, 401, 420, 439, 458, 477, 496, 501, 502, 503, 504, 505, 953, 6934, 6950, 7036, 7074, 7139, 7143, 7157, 7178, 7200, 7233, 7237, 7247, 7250, 7711, 7749, 7814, 7818, 7832, 7853, 7875, 7908, 7912, 7922, 7925] H fun H => k v H) = h7 fun H => k (.agg ⟨[(w 1), (i 2), (s 7925 0 4 4)]⟩) H := by kernel_rfl
end Go.Mach.J
