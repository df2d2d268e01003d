/- The console's lines, carried out by the kernel. No condition. -/
import Derived.Test.YtlgcbiacijgcmaaGreatDoorJL0
import Derived.Test.YtlgcbiacijgcmaaGreatDoorJER
import Derived.KernelRfl
namespace Go.Mach.J
open Go Go.Mach
theorem st0 : (runK ck1 (eP 0).D (eP 0) ∧ runK ck1 (eV 0).D (eV 0)) = (True ∧ True) := by kernel_rfl
theorem st1 : (runK ck1 (eP 1).D (eP 1) ∧ runK ck1 (eV 1).D (eV 1)) = (True ∧ True) := by kernel_rfl
theorem st2 : (runK ck1 (eP 2).D (eP 2) ∧ runK ck1 (eV 2).D (eV 2)) = (True ∧ True) := by kernel_rfl
theorem st3 : (runK ck1 (eP 3).D (eP 3) ∧ runK ck1 (eV 3).D (eV 3)) = (True ∧ True) := by kernel_rfl
theorem st4 : (runK ck1 (eP 4).D (eP 4) ∧ runK ck1 (eV 4).D (eV 4)) = (True ∧ True) := by kernel_rfl
theorem st5 : (runK ck1 (eP 5).D (eP 5) ∧ runK ck1 (eV 5).D (eV 5)) = (True ∧ True) := by kernel_rfl
theorem st6 : (runK ck1 (eP 6).D (eP 6) ∧ runK ck1 (eV 6).D (eV 6)) = (True ∧ True) := by kernel_rfl
theorem st7 : (runK ck1 (eP 7).D (eP 7) ∧ runK ck1 (eV 7).D (eV 7)) = (True ∧ True) := by kernel_rfl
theorem st8 : (runK ck1 (eP 8).D (eP 8) ∧ runK ck1 (eV 8).D (eV 8)) = (True ∧ True) := by kernel_rfl
theorem st9 : (runK ck1 (eP 9).D (eP 9) ∧ runK ck1 (eV 9).D (eV 9)) = (True ∧ True) := by kernel_rfl
theorem st10 : (runK ck1 (eP 10).D (eP 10) ∧ runK ck1 (eV 10).D (eV 10)) = (True ∧ True) := by kernel_rfl
theorem st11 : (runK ck1 (eP 11).D (eP 11) ∧ runK ck1 (eV 11).D (eV 11)) = (True ∧ True) := by kernel_rfl
theorem st12 : (runK ck1 (eP 12).D (eP 12) ∧ runK ck1 (eV 12).D (eV 12)) = (True ∧ True) := by kernel_rfl
theorem st13 : (runK ck1 (eP 13).D (eP 13) ∧ runK ck1 (eV 13).D (eV 13)) = (True ∧ True) := by kernel_rfl
theorem st14 : (runK ck1 (eP 14).D (eP 14) ∧ runK ck1 (eV 14).D (eV 14)) = (True ∧ True) := by kernel_rfl
theorem st15 : (runK ck1 (eP 15).D (eP 15) ∧ runK ck1 (eV 15).D (eV 15)) = (True ∧ True) := by kernel_rfl
theorem st16 : (runK ck1 (eP 16).D (eP 16) ∧ runK ck1 (eV 16).D (eV 16)) = (True ∧ True) := by kernel_rfl
theorem st17 : (runK ck1 (eP 17).D (eP 17) ∧ runK ck1 (eV 17).D (eV 17)) = (True ∧ True) := by kernel_rfl
theorem st18 : (runK ck1 (eP 18).D (eP 18) ∧ runK ck1 (eV 18).D (eV 18)) = (True ∧ True) := by kernel_rfl
theorem st19 : (runK ck1 (eP 19).D (eP 19) ∧ runK ck1 (eV 19).D (eV 19)) = (True ∧ True) := by kernel_rfl
theorem st20 : (runK ck1 (eP 20).D (eP 20) ∧ runK ck1 (eV 20).D (eV 20)) = (True ∧ True) := by kernel_rfl
theorem st21 : (runK ck1 (eP 21).D (eP 21) ∧ runK ck1 (eV 21).D (eV 21)) = (True ∧ True) := by kernel_rfl
theorem st22 : (runK ck1 (eP 22).D (eP 22) ∧ runK ck1 (eV 22).D (eV 22)) = (True ∧ True) := by kernel_rfl
theorem st23 : (runK ck1 (eP 23).D (eP 23) ∧ runK ck1 (eV 23).D (eV 23)) = (True ∧ True) := by kernel_rfl
theorem st24 : (runK ck1 (eP 24).D (eP 24) ∧ runK ck1 (eV 24).D (eV 24)) = (True ∧ True) := by kernel_rfl
theorem st25 : (runK ck1 (eP 25).D (eP 25) ∧ runK ck1 (eV 25).D (eV 25)) = (True ∧ True) := by kernel_rfl
theorem st26 : (runK ck1 (eP 26).D (eP 26) ∧ runK ck1 (eV 26).D (eV 26)) = (True ∧ True) := by kernel_rfl
theorem st27 : (runK ck1 (eP 27).D (eP 27) ∧ runK ck1 (eV 27).D (eV 27)) = (True ∧ True) := by kernel_rfl
theorem st28 : (runK ck1 (eP 28).D (eP 28) ∧ runK ck1 (eV 28).D (eV 28)) = (True ∧ True) := by kernel_rfl
theorem st29 : (runK ck1 (eP 29).D (eP 29) ∧ runK ck1 (eV 29).D (eV 29)) = (True ∧ True) := by kernel_rfl
theorem st30 : (runK ck1 (eP 30).D (eP 30) ∧ runK ck1 (eV 30).D (eV 30)) = (True ∧ True) := by kernel_rfl
theorem st31 : (runK ck1 (eP 31).D (eP 31) ∧ runK ck1 (eV 31).D (eV 31)) = (True ∧ True) := by kernel_rfl
theorem st32 : (runK ck1 (eP 32).D (eP 32) ∧ runK ck1 (eV 32).D (eV 32)) = (True ∧ True) := by kernel_rfl
theorem st33 : (runK ck1 (eP 33).D (eP 33) ∧ runK ck1 (eV 33).D (eV 33)) = (True ∧ True) := by kernel_rfl
theorem st34 : (runK ck1 (eP 34).D (eP 34) ∧ runK ck1 (eV 34).D (eV 34)) = (True ∧ True) := by kernel_rfl
theorem st35 : (runK ck1 (eP 35).D (eP 35) ∧ runK ck1 (eV 35).D (eV 35)) = (True ∧ True) := by kernel_rfl
theorem st36 : (runK ck1 (eP 36).D (eP 36) ∧ runK ck1 (eV 36).D (eV 36)) = (True ∧ True) := by kernel_rfl
theorem lw : runK ck1 eW.D eW = True := by kernel_rfl
theorem lp2 : runK ck1 eP2.D eP2 = True := by kernel_rfl
theorem lw2 : runK ck1 eW2.D eW2 = True := by kernel_rfl
theorem lo : runK ck1 eO.D eO = True := by kernel_rfl
/-- A crash, whatever the state is. -/
theorem lc (n b : Nat) : runR ck1 (stN ++ stC ++ [(510, trB (.int .i64 (.ofNat n)) (.slice (some ⟨b, 0, none⟩) 4 4))]) (eC 0) = True := by kernel_rfl
end Go.Mach.J
