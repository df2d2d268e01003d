/- ConsoleNil: what the program comes to, whatever the text and the number are. Condition: two variables of the library's lie there. -/
import Derived.Test.YtkdgnjdhlbkjnaaGreatDoorJCC
namespace Go.Mach.J
open Go Go.Mach Go.RowKit

abbrev Tt : Prop := Value.bool true = .bool true
/-- The law's text, carried out by the kernel: in each of three cases. -/
theorem nil_run (s : ByteArray) (n : Int) : kcall extB Go.Proofs.Tryz.prog xk2 100000 5 3 [.string s, .int .i64 n] ⟨5, .c none⟩ (fun v _ => v = .bool true) = (Tt ∧ Tt ∧ Tt) := by kernel_rfl
/-- The model's run of the law. -/
theorem nil_calls {w : World} (hL : LibVars w) (s : ByteArray) (n : Int) : Calls Go.Proofs.Tryz.prog 3 #[.string s, .int .i64 n] w fun e w' => e = .returned (.bool true) ∧ Below w.heap.size w w' := by
  obtain ⟨N, H', h⟩ := call_true (xk2_ok Go.Proofs.Tryz.prog) (callG_kept extB (extF_kept Go.Proofs.Tryz.prog) Go.Proofs.Tryz.prog) (deadH_rel (n := 5) rfl) (hold_of (nil_run s n) ⟨rfl, rfl, rfl⟩)
  exact true_calls (args := [.string s, .int .i64 n]) (extF_kept Go.Proofs.Tryz.prog) hL (extF_sound hL (by rw [gTop_is]; exact Nat.le_refl _)) (LRel.cons (.string s) (LRel.cons (.int _ _) (LRel.nil _))) h
end Go.Mach.J
