/- TrainerNil: what the program comes to, whatever the step that is handed on. No condition. -/
import Derived.Test.YtajjfflbcpkokaaGreatJC
import Derived.Test.YtajjfflbcpkokaaGreatVTold
namespace Go.Mach.J
open Go Go.Mach Go.RowKit

/-- The law's text on a step's three cells, carried out by the kernel: in a heap of one block that is not there. -/
theorem nil_run (a b : Int) (o l c : Nat) : kcall extB Go.Proofs.Tryz.prog xk2 1000 1 3 [.agg ⟨[.int .i64 a, .int .i64 b, .slice (some ⟨0, o, none⟩) l c]⟩] ⟨1, .c none⟩ (fun v _ => v = .bool true) = (Value.bool true = .bool true) := by kernel_rfl
theorem nil_run0 (a b : Int) (l c : Nat) : kcall extB Go.Proofs.Tryz.prog xk2 1000 1 3 [.agg ⟨[.int .i64 a, .int .i64 b, .slice none l c]⟩] ⟨1, .c none⟩ (fun v _ => v = .bool true) = (Value.bool true = .bool true) := by kernel_rfl

def dead1 : AHeap := [⟨[], 0, true, false⟩]
theorem dead_rel : HRel ⟨1, .c none⟩ dead1 := ⟨rfl, by unfold big; exact Nat.le_of_ble_eq_true rfl, fun b B _ h => by rw [Tr.get_c] at h; cases h⟩
theorem nil_call {v : Value} (h : Hold (kcall extB Go.Proofs.Tryz.prog xk2 1000 1 3 [v] ⟨1, .c none⟩ (fun v _ => v = .bool true))) :
    ∃ (n : Nat) (H' : AHeap), callG extB (extF Go.Proofs.Tryz.prog) Go.Proofs.Tryz.prog n 1 3 ⟨[v]⟩ dead1 = some (.bool true, H') :=
  call_true (xk2_ok Go.Proofs.Tryz.prog) (callG_kept extB (extF_kept Go.Proofs.Tryz.prog) Go.Proofs.Tryz.prog) dead_rel h

def ren1 (L : Option Loc) : Ren := fun id => if id = 0 then L else none
theorem sim1 (w : World) {L : Option Loc} (hL : ∀ M, L = some M → M.blk < w.heap.size ∧ M.n = 0 ∧ M.exact = true ∧ M.es = 0 ∧ M.room = 0) : Sim 0 w All (ren1 L) dead1 w where
  base_le := Nat.zero_le _
  old := fun b hb => absurd hb (Nat.not_lt_zero b)
  dom := fun id M h => by
    unfold ren1 at h
    split at h
    · exact ⟨(hL M h).1, fun _ => Nat.zero_le _⟩
    · cases h
  apart := fun id L h => absurd h (Nat.not_lt_zero id)
  stat := fun id M B h hB => by
    unfold ren1 at h
    split at h
    · rename_i hid
      subst hid
      cases hB
      obtain ⟨_, h1, h2, h3, h4⟩ := hL M h
      exact ⟨h1.symm, h2.symm, h3.symm, by omega, fun _ => by omega⟩
    · cases h
  cont := fun id M B _ h hB => by
    exfalso
    cases id with
    | zero => cases hB
    | succ id => cases hB
  inj := fun id id' M M' _ _ _ _ h => by
    exfalso
    cases id with
    | zero => cases h
    | succ id => cases h

/-- The model's run of the law. -/
theorem nil_model {w : World} {L : Option Loc} (hL : ∀ M, L = some M → M.blk < w.heap.size ∧ M.n = 0 ∧ M.exact = true ∧ M.es = 0 ∧ M.room = 0) {v u : Value} (hvu : VRel (ren1 L) v u)
    (h : Hold (kcall extB Go.Proofs.Tryz.prog xk2 1000 1 3 [v] ⟨1, .c none⟩ (fun v _ => v = .bool true))) :
    Calls Go.Proofs.Tryz.prog 3 #[u] w fun e w' => e = .returned (.bool true) ∧ Below w.heap.size w w' := by
  obtain ⟨n, H', h1⟩ := nil_call h
  have hm : Go.Proofs.Tryz.prog.follows .mixedOrders = true := by kernel_rfl
  refine (callG_sound (base := 0) (w0 := w) extB (extF_kept Go.Proofs.Tryz.prog) Go.Proofs.Tryz.prog extF_sound hm n 1 3 ⟨[v]⟩ #[u] (ren1 L) dead1 H' w (.bool true) (sim1 w hL) (Nat.zero_le _) (Nat.le_refl _) (fun id h1 _ => ?_) ?_ h1).mono ?_
  · unfold ren1
    rw [if_neg (by intro h; subst h; exact absurd h1 (by decide))]
  · exact ⟨rfl, fun i a b ha hb => by
      cases i with
      | zero => cases ha; cases hb; exact hvu
      | succ i => cases ha⟩
  · rintro e w' ⟨v', ρ', rfl, hv, st⟩
    cases hv
    refine ⟨rfl, st.side.1, st.side.2.1, st.side.2.2, st.grow, fun b hb => st.frame b hb fun id M hid _ _ hM _ => ?_⟩
    unfold ren1 at hM
    rw [if_neg (by omega)] at hM
    cases hM

abbrev StepT : Ty := .pair (.int .i64) (.pair (.int .i64) (.slc (.int .u8)))
theorem agg3 {ρ : Ren} {a b : Int} {u v : Value} (h : VRel ρ u v) : VRel ρ (.agg ⟨[.int .i64 a, .int .i64 b, u]⟩) (.agg ⟨[.int .i64 a, .int .i64 b, v]⟩) := by
  refine .agg _ _ rfl fun i x x' h1 h2 => ?_
  match i with
  | 0 => cases h1; cases h2; exact .int _ _
  | 1 => cases h1; cases h2; exact .int _ _
  | 2 => cases h1; cases h2; exact h
  | n + 3 => cases h1
/-- The law on any step that is read. -/
theorem nil_walk {w : World} {cs : List Value} {y : Ty.den StepT} (t0 : ToldA w StepT y cs) :
    Calls Go.Proofs.Tryz.prog 3 #[.agg cs.toArray] w fun e w' => e = .returned (.bool true) ∧ Below w.heap.size w w' := by
  obtain ⟨rl, rel, _⟩ := t0
  obtain ⟨a, b, l⟩ := y
  cases rl with
  | cons h0 rl => cases rl with
    | cons h1 rl => cases rl with
      | cons h2 rl =>
        cases rl
        obtain ⟨rfl, _⟩ := h0
        obtain ⟨rfl, _⟩ := h1
        obtain ⟨ad, k, rfl, _⟩ := h2
        have hr : VRel (ren0 w) (.slice ad l.length k) (.slice ad l.length k) := by
          cases rel with
          | agg _ _ _ h => exact h 2 _ _ rfl rfl
        cases ad with
        | none =>
          exact nil_model (L := none) (fun M h => by cases h) (agg3 (.nilslice _ _)) (hold_of (nil_run0 a b l.length k) rfl)
        | some ad =>
          obtain ⟨q, o, s⟩ := ad
          have hq : s = none ∧ q < w.heap.size ∧ l.length ≤ k := by
            rcases slice_inv hr with ⟨h1, L, o', c', hL, hf, _⟩ | ⟨h1, h2, h3, L, a', hL, _⟩
            · exact ⟨h1, (ren0_lt hL).1, hf.1⟩
            · exact ⟨h1, (ren0_lt hL).1, by omega⟩
          obtain ⟨rfl, hq1, hq2⟩ := hq
          refine nil_model (L := some ⟨q, 0, 0, 0, 0, true⟩) (fun M h => ?_) (agg3 (u := .slice (some ⟨0, o, none⟩) l.length k) ?_) (hold_of (nil_run a b o l.length k) rfl)
          · cases h
            exact ⟨hq1, rfl, rfl, rfl, rfl⟩
          · exact VRel.slice (L := ⟨q, 0, 0, 0, 0, true⟩) rfl ⟨hq2, .inl ⟨by simp, rfl⟩⟩
end Go.Mach.J
