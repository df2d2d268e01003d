/- Steps of learning, carried out by the kernel. No condition. -/
import Derived.Test.YtlgcbiacijgcmaaGreatDoorJS
import Derived.KernelRfl
namespace Go.Mach.J
open Go Go.Mach
theorem stp12 : runK (kcall extB0 Go.Proofs.Tryz.prog xk 100000) (eN 12).D (eN 12) = True := by kernel_rfl
theorem stp13 : runK (kcall extB0 Go.Proofs.Tryz.prog xk 100000) (eN 13).D (eN 13) = True := by kernel_rfl
theorem stp14 : runK (kcall extB0 Go.Proofs.Tryz.prog xk 100000) (eN 14).D (eN 14) = True := by kernel_rfl
theorem stp15 : runK (kcall extB0 Go.Proofs.Tryz.prog xk 100000) (eN 15).D (eN 15) = True := by kernel_rfl
theorem stp16 : runK (kcall extB0 Go.Proofs.Tryz.prog xk 100000) (eN 16).D (eN 16) = True := by kernel_rfl
theorem stp17 : runK (kcall extB0 Go.Proofs.Tryz.prog xk 100000) (eN 17).D (eN 17) = True := by kernel_rfl
end Go.Mach.J
