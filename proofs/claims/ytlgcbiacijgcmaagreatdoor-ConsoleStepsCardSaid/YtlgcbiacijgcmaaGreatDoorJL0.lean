/- The console's lines, carried out by the kernel. No condition. -/
import Derived.Test.YtlgcbiacijgcmaaGreatDoorJT
import Derived.KernelRfl
namespace Go.Mach.J
open Go Go.Mach
abbrev ck1 : KC := kcall extB1 Go.Proofs.Tryz.prog xkN 100000
theorem ln0 : (runK ck1 (eT 0 0).D (eT 0 0) ∧ runK ck1 (eT 0 1).D (eT 0 1) ∧ runK ck1 (eT 0 2).D (eT 0 2) ∧ runK ck1 (eT 0 3).D (eT 0 3)) = (True ∧ True ∧ True ∧ True) := by kernel_rfl
theorem ln1 : (runK ck1 (eT 1 0).D (eT 1 0) ∧ runK ck1 (eT 1 1).D (eT 1 1) ∧ runK ck1 (eT 1 2).D (eT 1 2) ∧ runK ck1 (eT 1 3).D (eT 1 3)) = (True ∧ True ∧ True ∧ True) := by kernel_rfl
theorem ln2 : (runK ck1 (eT 2 0).D (eT 2 0) ∧ runK ck1 (eT 2 1).D (eT 2 1) ∧ runK ck1 (eT 2 2).D (eT 2 2) ∧ runK ck1 (eT 2 3).D (eT 2 3)) = (True ∧ True ∧ True ∧ True) := by kernel_rfl
theorem ln3 : (runK ck1 (eT 3 0).D (eT 3 0) ∧ runK ck1 (eT 3 1).D (eT 3 1) ∧ runK ck1 (eT 3 2).D (eT 3 2) ∧ runK ck1 (eT 3 3).D (eT 3 3)) = (True ∧ True ∧ True ∧ True) := by kernel_rfl
theorem ln4 : (runK ck1 (eT 4 0).D (eT 4 0) ∧ runK ck1 (eT 4 1).D (eT 4 1) ∧ runK ck1 (eT 4 2).D (eT 4 2) ∧ runK ck1 (eT 4 3).D (eT 4 3)) = (True ∧ True ∧ True ∧ True) := by kernel_rfl
theorem ln5 : (runK ck1 (eT 5 0).D (eT 5 0) ∧ runK ck1 (eT 5 1).D (eT 5 1) ∧ runK ck1 (eT 5 2).D (eT 5 2) ∧ runK ck1 (eT 5 3).D (eT 5 3)) = (True ∧ True ∧ True ∧ True) := by kernel_rfl
theorem ln6 : (runK ck1 (eT 6 0).D (eT 6 0) ∧ runK ck1 (eT 6 1).D (eT 6 1) ∧ runK ck1 (eT 6 2).D (eT 6 2) ∧ runK ck1 (eT 6 3).D (eT 6 3)) = (True ∧ True ∧ True ∧ True) := by kernel_rfl
theorem ln7 : (runK ck1 (eT 7 0).D (eT 7 0) ∧ runK ck1 (eT 7 1).D (eT 7 1) ∧ runK ck1 (eT 7 2).D (eT 7 2) ∧ runK ck1 (eT 7 3).D (eT 7 3)) = (True ∧ True ∧ True ∧ True) := by kernel_rfl
theorem ln8 : (runK ck1 (eT 8 0).D (eT 8 0) ∧ runK ck1 (eT 8 1).D (eT 8 1) ∧ runK ck1 (eT 8 2).D (eT 8 2) ∧ runK ck1 (eT 8 3).D (eT 8 3)) = (True ∧ True ∧ True ∧ True) := by kernel_rfl
theorem ln9 : (runK ck1 (eT 9 0).D (eT 9 0) ∧ runK ck1 (eT 9 1).D (eT 9 1) ∧ runK ck1 (eT 9 2).D (eT 9 2) ∧ runK ck1 (eT 9 3).D (eT 9 3)) = (True ∧ True ∧ True ∧ True) := by kernel_rfl
theorem ln10 : (runK ck1 (eT 10 0).D (eT 10 0) ∧ runK ck1 (eT 10 1).D (eT 10 1) ∧ runK ck1 (eT 10 2).D (eT 10 2) ∧ runK ck1 (eT 10 3).D (eT 10 3)) = (True ∧ True ∧ True ∧ True) := by kernel_rfl
theorem ln11 : (runK ck1 (eT 11 0).D (eT 11 0) ∧ runK ck1 (eT 11 1).D (eT 11 1) ∧ runK ck1 (eT 11 2).D (eT 11 2) ∧ runK ck1 (eT 11 3).D (eT 11 3)) = (True ∧ True ∧ True ∧ True) := by kernel_rfl
theorem ln12 : (runK ck1 (eT 12 0).D (eT 12 0) ∧ runK ck1 (eT 12 1).D (eT 12 1) ∧ runK ck1 (eT 12 2).D (eT 12 2) ∧ runK ck1 (eT 12 3).D (eT 12 3)) = (True ∧ True ∧ True ∧ True) := by kernel_rfl
theorem ln13 : (runK ck1 (eT 13 0).D (eT 13 0) ∧ runK ck1 (eT 13 1).D (eT 13 1) ∧ runK ck1 (eT 13 2).D (eT 13 2) ∧ runK ck1 (eT 13 3).D (eT 13 3)) = (True ∧ True ∧ True ∧ True) := by kernel_rfl
theorem ln14 : (runK ck1 (eT 14 0).D (eT 14 0) ∧ runK ck1 (eT 14 1).D (eT 14 1) ∧ runK ck1 (eT 14 2).D (eT 14 2) ∧ runK ck1 (eT 14 3).D (eT 14 3)) = (True ∧ True ∧ True ∧ True) := by kernel_rfl
theorem ln15 : (runK ck1 (eT 15 0).D (eT 15 0) ∧ runK ck1 (eT 15 1).D (eT 15 1) ∧ runK ck1 (eT 15 2).D (eT 15 2) ∧ runK ck1 (eT 15 3).D (eT 15 3)) = (True ∧ True ∧ True ∧ True) := by kernel_rfl
theorem ln16 : (runK ck1 (eT 16 0).D (eT 16 0) ∧ runK ck1 (eT 16 1).D (eT 16 1) ∧ runK ck1 (eT 16 2).D (eT 16 2) ∧ runK ck1 (eT 16 3).D (eT 16 3)) = (True ∧ True ∧ True ∧ True) := by kernel_rfl
theorem ln17 : (runK ck1 (eT 17 0).D (eT 17 0) ∧ runK ck1 (eT 17 1).D (eT 17 1) ∧ runK ck1 (eT 17 2).D (eT 17 2) ∧ runK ck1 (eT 17 3).D (eT 17 3)) = (True ∧ True ∧ True ∧ True) := by kernel_rfl
theorem ln18 : (runK ck1 (eT 18 0).D (eT 18 0) ∧ runK ck1 (eT 18 1).D (eT 18 1) ∧ runK ck1 (eT 18 2).D (eT 18 2) ∧ runK ck1 (eT 18 3).D (eT 18 3)) = (True ∧ True ∧ True ∧ True) := by kernel_rfl
theorem ln19 : (runK ck1 (eT 19 0).D (eT 19 0) ∧ runK ck1 (eT 19 1).D (eT 19 1) ∧ runK ck1 (eT 19 2).D (eT 19 2) ∧ runK ck1 (eT 19 3).D (eT 19 3)) = (True ∧ True ∧ True ∧ True) := by kernel_rfl
theorem ln20 : (runK ck1 (eT 20 0).D (eT 20 0) ∧ runK ck1 (eT 20 1).D (eT 20 1) ∧ runK ck1 (eT 20 2).D (eT 20 2) ∧ runK ck1 (eT 20 3).D (eT 20 3)) = (True ∧ True ∧ True ∧ True) := by kernel_rfl
theorem ln21 : (runK ck1 (eT 21 0).D (eT 21 0) ∧ runK ck1 (eT 21 1).D (eT 21 1) ∧ runK ck1 (eT 21 2).D (eT 21 2) ∧ runK ck1 (eT 21 3).D (eT 21 3)) = (True ∧ True ∧ True ∧ True) := by kernel_rfl
theorem ln22 : (runK ck1 (eT 22 0).D (eT 22 0) ∧ runK ck1 (eT 22 1).D (eT 22 1) ∧ runK ck1 (eT 22 2).D (eT 22 2) ∧ runK ck1 (eT 22 3).D (eT 22 3)) = (True ∧ True ∧ True ∧ True) := by kernel_rfl
theorem ln23 : (runK ck1 (eT 23 0).D (eT 23 0) ∧ runK ck1 (eT 23 1).D (eT 23 1) ∧ runK ck1 (eT 23 2).D (eT 23 2) ∧ runK ck1 (eT 23 3).D (eT 23 3)) = (True ∧ True ∧ True ∧ True) := by kernel_rfl
theorem ln24 : (runK ck1 (eT 24 0).D (eT 24 0) ∧ runK ck1 (eT 24 1).D (eT 24 1) ∧ runK ck1 (eT 24 2).D (eT 24 2) ∧ runK ck1 (eT 24 3).D (eT 24 3)) = (True ∧ True ∧ True ∧ True) := by kernel_rfl
theorem ln25 : (runK ck1 (eT 25 0).D (eT 25 0) ∧ runK ck1 (eT 25 1).D (eT 25 1) ∧ runK ck1 (eT 25 2).D (eT 25 2) ∧ runK ck1 (eT 25 3).D (eT 25 3)) = (True ∧ True ∧ True ∧ True) := by kernel_rfl
theorem ln26 : (runK ck1 (eT 26 0).D (eT 26 0) ∧ runK ck1 (eT 26 1).D (eT 26 1) ∧ runK ck1 (eT 26 2).D (eT 26 2) ∧ runK ck1 (eT 26 3).D (eT 26 3)) = (True ∧ True ∧ True ∧ True) := by kernel_rfl
theorem ln27 : (runK ck1 (eT 27 0).D (eT 27 0) ∧ runK ck1 (eT 27 1).D (eT 27 1) ∧ runK ck1 (eT 27 2).D (eT 27 2) ∧ runK ck1 (eT 27 3).D (eT 27 3)) = (True ∧ True ∧ True ∧ True) := by kernel_rfl
theorem ln28 : (runK ck1 (eT 28 0).D (eT 28 0) ∧ runK ck1 (eT 28 1).D (eT 28 1) ∧ runK ck1 (eT 28 2).D (eT 28 2) ∧ runK ck1 (eT 28 3).D (eT 28 3)) = (True ∧ True ∧ True ∧ True) := by kernel_rfl
theorem ln29 : (runK ck1 (eT 29 0).D (eT 29 0) ∧ runK ck1 (eT 29 1).D (eT 29 1) ∧ runK ck1 (eT 29 2).D (eT 29 2) ∧ runK ck1 (eT 29 3).D (eT 29 3)) = (True ∧ True ∧ True ∧ True) := by kernel_rfl
theorem ln30 : (runK ck1 (eT 30 0).D (eT 30 0) ∧ runK ck1 (eT 30 1).D (eT 30 1) ∧ runK ck1 (eT 30 2).D (eT 30 2) ∧ runK ck1 (eT 30 3).D (eT 30 3)) = (True ∧ True ∧ True ∧ True) := by kernel_rfl
theorem ln31 : (runK ck1 (eT 31 0).D (eT 31 0) ∧ runK ck1 (eT 31 1).D (eT 31 1) ∧ runK ck1 (eT 31 2).D (eT 31 2) ∧ runK ck1 (eT 31 3).D (eT 31 3)) = (True ∧ True ∧ True ∧ True) := by kernel_rfl
theorem ln32 : (runK ck1 (eT 32 0).D (eT 32 0) ∧ runK ck1 (eT 32 1).D (eT 32 1) ∧ runK ck1 (eT 32 2).D (eT 32 2) ∧ runK ck1 (eT 32 3).D (eT 32 3)) = (True ∧ True ∧ True ∧ True) := by kernel_rfl
theorem ln33 : (runK ck1 (eT 33 0).D (eT 33 0) ∧ runK ck1 (eT 33 1).D (eT 33 1) ∧ runK ck1 (eT 33 2).D (eT 33 2) ∧ runK ck1 (eT 33 3).D (eT 33 3)) = (True ∧ True ∧ True ∧ True) := by kernel_rfl
end Go.Mach.J
