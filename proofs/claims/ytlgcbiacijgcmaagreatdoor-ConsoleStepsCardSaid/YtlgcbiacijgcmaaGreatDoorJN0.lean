/- Steps of learning, carried out by the kernel. No condition. -/
import Derived.Test.YtlgcbiacijgcmaaGreatDoorJS
import Derived.KernelRfl
namespace Go.Mach.J
open Go Go.Mach
theorem stp0 : runK (kcall extB0 Go.Proofs.Tryz.prog xk 100000) (eN 0).D (eN 0) = True := by kernel_rfl
theorem stp1 : runK (kcall extB0 Go.Proofs.Tryz.prog xk 100000) (eN 1).D (eN 1) = True := by kernel_rfl
theorem stp2 : runK (kcall extB0 Go.Proofs.Tryz.prog xk 100000) (eN 2).D (eN 2) = True := by kernel_rfl
theorem stp3 : runK (kcall extB0 Go.Proofs.Tryz.prog xk 100000) (eN 3).D (eN 3) = True := by kernel_rfl
theorem stp4 : runK (kcall extB0 Go.Proofs.Tryz.prog xk 100000) (eN 4).D (eN 4) = True := by kernel_rfl
theorem stp5 : runK (kcall extB0 Go.Proofs.Tryz.prog xk 100000) (eN 5).D (eN 5) = True := by kernel_rfl
end Go.Mach.J
