/- Steps of learning, carried out by the kernel. No condition. -/
import Derived.Test.YtlgcbiacijgcmaaGreatDoorJS
import Derived.KernelRfl
namespace Go.Mach.J
open Go Go.Mach
theorem stp30 : runK (kcall extB0 Go.Proofs.Tryz.prog xk 100000) (eN 30).D (eN 30) = True := by kernel_rfl
theorem stp31 : runK (kcall extB0 Go.Proofs.Tryz.prog xk 100000) (eN 31).D (eN 31) = True := by kernel_rfl
theorem stp32 : runK (kcall extB0 Go.Proofs.Tryz.prog xk 100000) (eN 32).D (eN 32) = True := by kernel_rfl
theorem stp33 : runK (kcall extB0 Go.Proofs.Tryz.prog xk 100000) (eN 33).D (eN 33) = True := by kernel_rfl
theorem stp34 : runK (kcall extB0 Go.Proofs.Tryz.prog xk 100000) (eN 34).D (eN 34) = True := by kernel_rfl
theorem stp35 : runK (kcall extB0 Go.Proofs.Tryz.prog xk 100000) (eN 35).D (eN 35) = True := by kernel_rfl
end Go.Mach.J
