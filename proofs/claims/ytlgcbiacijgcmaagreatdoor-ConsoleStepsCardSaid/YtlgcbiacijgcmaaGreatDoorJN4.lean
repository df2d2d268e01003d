/- Steps of learning, carried out by the kernel. No condition. -/
import Derived.Test.YtlgcbiacijgcmaaGreatDoorJS
import Derived.KernelRfl
namespace Go.Mach.J
open Go Go.Mach
theorem stp24 : runK (kcall extB0 Go.Proofs.Tryz.prog xk 100000) (eN 24).D (eN 24) = True := by kernel_rfl
theorem stp25 : runK (kcall extB0 Go.Proofs.Tryz.prog xk 100000) (eN 25).D (eN 25) = True := by kernel_rfl
theorem stp26 : runK (kcall extB0 Go.Proofs.Tryz.prog xk 100000) (eN 26).D (eN 26) = True := by kernel_rfl
theorem stp27 : runK (kcall extB0 Go.Proofs.Tryz.prog xk 100000) (eN 27).D (eN 27) = True := by kernel_rfl
theorem stp28 : runK (kcall extB0 Go.Proofs.Tryz.prog xk 100000) (eN 28).D (eN 28) = True := by kernel_rfl
theorem stp29 : runK (kcall extB0 Go.Proofs.Tryz.prog xk 100000) (eN 29).D (eN 29) = True := by kernel_rfl
end Go.Mach.J
