/- Steps of learning, carried out by the kernel. No condition. -/
import Derived.Test.YtlgcbiacijgcmaaGreatDoorJS
import Derived.KernelRfl
namespace Go.Mach.J
open Go Go.Mach
theorem stp6 : runK (kcall extB0 Go.Proofs.Tryz.prog xk 100000) (eN 6).D (eN 6) = True := by kernel_rfl
theorem stp7 : runK (kcall extB0 Go.Proofs.Tryz.prog xk 100000) (eN 7).D (eN 7) = True := by kernel_rfl
theorem stp8 : runK (kcall extB0 Go.Proofs.Tryz.prog xk 100000) (eN 8).D (eN 8) = True := by kernel_rfl
theorem stp9 : runK (kcall extB0 Go.Proofs.Tryz.prog xk 100000) (eN 9).D (eN 9) = True := by kernel_rfl
theorem stp10 : runK (kcall extB0 Go.Proofs.Tryz.prog xk 100000) (eN 10).D (eN 10) = True := by kernel_rfl
theorem stp11 : runK (kcall extB0 Go.Proofs.Tryz.prog xk 100000) (eN 11).D (eN 11) = True := by kernel_rfl
end Go.Mach.J
