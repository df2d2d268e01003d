/- Steps of learning, carried out by the kernel. No condition. -/
import Derived.Test.YtlgcbiacijgcmaaGreatDoorJS
import Derived.KernelRfl
namespace Go.Mach.J
open Go Go.Mach
theorem stp18 : runK (kcall extB0 Go.Proofs.Tryz.prog xk 100000) (eN 18).D (eN 18) = True := by kernel_rfl
theorem stp19 : runK (kcall extB0 Go.Proofs.Tryz.prog xk 100000) (eN 19).D (eN 19) = True := by kernel_rfl
theorem stp20 : runK (kcall extB0 Go.Proofs.Tryz.prog xk 100000) (eN 20).D (eN 20) = True := by kernel_rfl
theorem stp21 : runK (kcall extB0 Go.Proofs.Tryz.prog xk 100000) (eN 21).D (eN 21) = True := by kernel_rfl
theorem stp22 : runK (kcall extB0 Go.Proofs.Tryz.prog xk 100000) (eN 22).D (eN 22) = True := by kernel_rfl
theorem stp23 : runK (kcall extB0 Go.Proofs.Tryz.prog xk 100000) (eN 23).D (eN 23) = True := by kernel_rfl
end Go.Mach.J
