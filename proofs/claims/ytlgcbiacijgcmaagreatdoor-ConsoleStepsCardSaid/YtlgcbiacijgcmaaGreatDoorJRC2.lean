/- Calls of the concrete run, carried out by the kernel. No condition. -/
import Derived.Test.YtlgcbiacijgcmaaGreatDoorJRC1
import Derived.Test.YtlgcbiacijgcmaaGreatDoorProg
import Derived.KernelRfl
namespace Go.Mach.J
open Go Go.Mach

theorem line0 (k : Value → HT → Prop) : (h0 fun H => kcall extB0 Go.Proofs.Tryz.prog xk 100004 5 4 [] H fun v H => gcK [212, 213, 220, 221, 225, 240, 241, 248, 249, 253, 255, 258, 406, 425, 444, 463, 482, 501, 506, 507, 508, 509, 510, 511, 958, 959] H fun H => k v H) = h1 fun H => k (p 959 0) H := by kernel_rfl
theorem line1 (k : Value → HT → Prop) : (h1 fun H => kcut extB0 Go.Proofs.Tryz.prog xk orcN 99999 chainL 5 5 5 [(p 959 0), (.string ⟨⟨[116, 114, 97, 105, 110, 32, 51]⟩⟩)] H fun v H => gcK [258, 406, 425, 444, 463, 482, 501, 506, 507, 508, 509, 510, 511, 958, 959, 6203, 6256, 6289, 6294, 6307, 6395, 6424, 6441, 6446, 6453, 6456] H fun H => k v H) = en0 (en1 (en2 (h8 fun H => k (.string ⟨⟨[111, 107, 32, 51]⟩⟩) H))) := by kernel_rfl
theorem line2 (k : Value → HT → Prop) : (h8 fun H => kcall extB0 Go.Proofs.Tryz.prog xk 100004 5 5 [(p 959 0), (.string ⟨⟨[115, 116, 101, 112]⟩⟩)] H fun v H => gcK [258, 406, 425, 444, 463, 482, 501, 506, 507, 508, 509, 510, 511, 958, 959, 6203, 6256, 6289, 6294, 6307, 6395, 6424, 6441, 6446, 6453, 6456] H fun H => k v H) = h9 fun H => k (.string ⟨⟨[51]⟩⟩) H := by kernel_rfl
theorem line3 (k : Value → HT → Prop) : (h9 fun H => kcall extB0 Go.Proofs.Tryz.prog xk 100004 5 5 [(p 959 0), (.string ⟨⟨[99, 104, 101, 99, 107]⟩⟩)] H fun v H => gcK [258, 406, 425, 444, 463, 482, 501, 506, 507, 508, 509, 510, 511, 958, 959, 6203, 6256, 6289, 6294, 6307, 6395, 6424, 6441, 6446, 6453, 6456, 7627] H fun H => k v H) = h10 fun H => k (.string ⟨⟨[111, 107, 32, 51]⟩⟩) H := by kernel_rfl
theorem line4 (k : Value → HT → Prop) : (h10 fun H => kcall extB0 Go.Proofs.Tryz.prog xk 100004 5 5 [(p 959 0), (.string ⟨⟨[99, 114, 97, 115, 104, 32, 45]⟩⟩)] H fun v H => gcK [258, 406, 425, 444, 463, 482, 501, 506, 507, 508, 509, 510, 958, 959, 7636, 7652, 7738, 7776, 7841, 7845, 7859, 7880, 7902, 7935, 7939, 7949, 7952] H fun H => k v H) = h11 fun H => k (.string ⟨⟨[111, 107, 32, 51]⟩⟩) H := by kernel_rfl
theorem line5 (k : Value → HT → Prop) : (h11 fun H => kcall extB0 Go.Proofs.Tryz.prog xk 100004 5 5 [(p 959 0), (.string ⟨⟨[110, 101, 116]⟩⟩)] H fun v H => gcK [258, 406, 425, 444, 463, 482, 501, 506, 507, 508, 509, 510, 958, 959, 7636, 7652, 7738, 7776, 7841, 7845, 7859, 7880, 7902, 7935, 7939, 7949, 7952] H fun H => k v H) = h12 fun H => k (.string ⟨⟨[105, 110, 32, 49, 32, 50, 32, 50, 59, 32, 102, 108, 97, 116, 59, 32, 100, 101, 110, 115, 101, 32, 52, 59, 32, 114, 101, 108, 117, 59, 32, 100, 101, 110, 115, 101, 32, 50, 59, 32]⟩⟩) H := by kernel_rfl
end Go.Mach.J
