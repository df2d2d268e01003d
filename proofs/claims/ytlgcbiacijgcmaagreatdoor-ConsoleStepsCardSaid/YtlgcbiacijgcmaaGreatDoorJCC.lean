/- A CONCRETE RUN, WHOLE: awake comes to 'true'; so does the model's, wherever it begins. Condition: two variables of the library's lie there. -/
import Derived.Test.YtlgcbiacijgcmaaGreatDoorJRC2
import Derived.Test.YtlgcbiacijgcmaaGreatDoorSound
import Derived.Test.YtlgcbiacijgcmaaGreatDoorExtS
namespace Go.Mach.J
open Go Go.Mach Go.RowKit

def orcA : KC := fun fl f args H k => HT.rec (motive := fun _ => Prop) (fun n _ =>
    (ifB (Nat.beq n 5) (h0 fun G => (fl = 5 ∧ f = 4 ∧ args = [] ∧ H = G) ∧ h1 fun G => k (p 959 0) G)
    (ifB (Nat.beq n 960) (h1 fun G => (fl = 5 ∧ f = 5 ∧ args = [(p 959 0), (.string ⟨⟨[116, 114, 97, 105, 110, 32, 51]⟩⟩)] ∧ H = G) ∧ h8 fun G => k (.string ⟨⟨[111, 107, 32, 51]⟩⟩) G)
    (ifB (Nat.beq n 6458) (h8 fun G => (fl = 5 ∧ f = 5 ∧ args = [(p 959 0), (.string ⟨⟨[115, 116, 101, 112]⟩⟩)] ∧ H = G) ∧ h9 fun G => k (.string ⟨⟨[51]⟩⟩) G)
    (ifB (Nat.beq n 7136) (h9 fun G => (fl = 5 ∧ f = 5 ∧ args = [(p 959 0), (.string ⟨⟨[99, 104, 101, 99, 107]⟩⟩)] ∧ H = G) ∧ h10 fun G => k (.string ⟨⟨[111, 107, 32, 51]⟩⟩) G)
    (ifB (Nat.beq n 7628) (h10 fun G => (fl = 5 ∧ f = 5 ∧ args = [(p 959 0), (.string ⟨⟨[99, 114, 97, 115, 104, 32, 45]⟩⟩)] ∧ H = G) ∧ h11 fun G => k (.string ⟨⟨[111, 107, 32, 51]⟩⟩) G)
    (ifB (Nat.beq n 7954) (h11 fun G => (fl = 5 ∧ f = 5 ∧ args = [(p 959 0), (.string ⟨⟨[110, 101, 116]⟩⟩)] ∧ H = G) ∧ h12 fun G => k (.string ⟨⟨[105, 110, 32, 49, 32, 50, 32, 50, 59, 32, 102, 108, 97, 116, 59, 32, 100, 101, 110, 115, 101, 32, 52, 59, 32, 114, 101, 108, 117, 59, 32, 100, 101, 110, 115, 101, 32, 50, 59, 32]⟩⟩) G)
    False))))))) H
set_option maxRecDepth 100000 in
theorem orcA_ok : CallS (callG extB0 (extF0 Go.Proofs.Tryz.prog) Go.Proofs.Tryz.prog 100004) orcA := by
  have hk := callG_kept extB0 (extF0_kept Go.Proofs.Tryz.prog) Go.Proofs.Tryz.prog
  have hS := calls_ok (xb := extB0) (P := Go.Proofs.Tryz.prog) (xk_ok Go.Proofs.Tryz.prog) hk 100004
  have hC : CallS (callG extB0 (extF0 Go.Proofs.Tryz.prog) Go.Proofs.Tryz.prog 100004) (kcut extB0 Go.Proofs.Tryz.prog xk orcN 99999 chainL 5) := kcut_ok (M := 99999) (xk_ok Go.Proofs.Tryz.prog) hk (orcN_ok (extF0_kept Go.Proofs.Tryz.prog)) 5
  intro fl f args K H k hH h
  obtain ⟨n, tr⟩ := K
  rcases ifB_iff.1 h with ⟨_, h⟩ | ⟨_, h⟩
  · exact entry hx0 hx1 hS line0 hH h
  rcases ifB_iff.1 h with ⟨_, h⟩ | ⟨_, h⟩
  · exact entryE (E := fun Z => en0 (en1 (en2 Z))) (fun Z h => en0_of (en1_of (en2_of h))) hx1 hx8 hC line1 hH h
  rcases ifB_iff.1 h with ⟨_, h⟩ | ⟨_, h⟩
  · exact entry hx8 hx9 hS line2 hH h
  rcases ifB_iff.1 h with ⟨_, h⟩ | ⟨_, h⟩
  · exact entry hx9 hx10 hS line3 hH h
  rcases ifB_iff.1 h with ⟨_, h⟩ | ⟨_, h⟩
  · exact entry hx10 hx11 hS line4 hH h
  rcases ifB_iff.1 h with ⟨_, h⟩ | ⟨_, h⟩
  · exact entry hx11 hx12 hS line5 hH h
  exact h.elim
def ea0 (Z : Prop) : Prop := h0 fun G => ((5 : Nat) = 5 ∧ (4 : FuncId) = 4 ∧ ([] : List Value) = [] ∧ G = G) ∧ Z
theorem ea0_of {Z : Prop} (h : Z) : ea0 Z := ⟨⟨rfl, rfl, rfl, rfl⟩, h⟩
def ea1 (Z : Prop) : Prop := h1 fun G => ((5 : Nat) = 5 ∧ (5 : FuncId) = 5 ∧ ([(p 959 0), (.string ⟨⟨[116, 114, 97, 105, 110, 32, 51]⟩⟩)] : List Value) = [(p 959 0), (.string ⟨⟨[116, 114, 97, 105, 110, 32, 51]⟩⟩)] ∧ G = G) ∧ Z
theorem ea1_of {Z : Prop} (h : Z) : ea1 Z := ⟨⟨rfl, rfl, rfl, rfl⟩, h⟩
def ea2 (Z : Prop) : Prop := h8 fun G => ((5 : Nat) = 5 ∧ (5 : FuncId) = 5 ∧ ([(p 959 0), (.string ⟨⟨[115, 116, 101, 112]⟩⟩)] : List Value) = [(p 959 0), (.string ⟨⟨[115, 116, 101, 112]⟩⟩)] ∧ G = G) ∧ Z
theorem ea2_of {Z : Prop} (h : Z) : ea2 Z := ⟨⟨rfl, rfl, rfl, rfl⟩, h⟩
def ea3 (Z : Prop) : Prop := h9 fun G => ((5 : Nat) = 5 ∧ (5 : FuncId) = 5 ∧ ([(p 959 0), (.string ⟨⟨[99, 104, 101, 99, 107]⟩⟩)] : List Value) = [(p 959 0), (.string ⟨⟨[99, 104, 101, 99, 107]⟩⟩)] ∧ G = G) ∧ Z
theorem ea3_of {Z : Prop} (h : Z) : ea3 Z := ⟨⟨rfl, rfl, rfl, rfl⟩, h⟩
def ea4 (Z : Prop) : Prop := h10 fun G => ((5 : Nat) = 5 ∧ (5 : FuncId) = 5 ∧ ([(p 959 0), (.string ⟨⟨[99, 114, 97, 115, 104, 32, 45]⟩⟩)] : List Value) = [(p 959 0), (.string ⟨⟨[99, 114, 97, 115, 104, 32, 45]⟩⟩)] ∧ G = G) ∧ Z
theorem ea4_of {Z : Prop} (h : Z) : ea4 Z := ⟨⟨rfl, rfl, rfl, rfl⟩, h⟩
def ea5 (Z : Prop) : Prop := h11 fun G => ((5 : Nat) = 5 ∧ (5 : FuncId) = 5 ∧ ([(p 959 0), (.string ⟨⟨[110, 101, 116]⟩⟩)] : List Value) = [(p 959 0), (.string ⟨⟨[110, 101, 116]⟩⟩)] ∧ G = G) ∧ Z
theorem ea5_of {Z : Prop} (h : Z) : ea5 Z := ⟨⟨rfl, rfl, rfl, rfl⟩, h⟩
theorem top_eq : kfn extB0 Go.Proofs.Tryz.prog xk orcA 100004 5 6 [] ⟨5, .c none⟩ (fun v _ => v = .bool true) = ea0 (ea1 (ea2 (ea3 (ea4 (ea5 (Value.bool true = Value.bool true)))))) := by kernel_rfl
theorem awake_run : ∃ (n : Nat) (H' : AHeap), callG extB0 (extF0 Go.Proofs.Tryz.prog) Go.Proofs.Tryz.prog n 5 6 ⟨[]⟩ (deadH 5) = some (.bool true, H') := by
  have hS := orcA_ok
  have h : Hold (kfn extB0 Go.Proofs.Tryz.prog xk orcA 100004 5 6 [] ⟨5, .c none⟩ (fun v _ => v = .bool true)) := hold_of top_eq (ea0_of (ea1_of (ea2_of (ea3_of (ea4_of (ea5_of (rfl)))))))
  have hk := callG_kept extB0 (extF0_kept Go.Proofs.Tryz.prog) Go.Proofs.Tryz.prog 100004
  generalize (100004 : Nat) = n at hS h hk
  exact ⟨n + 1, fn_true (xk_ok Go.Proofs.Tryz.prog) hS hk (deadH_rel rfl) h⟩
theorem dead_sim {w : World} (h : 5 ≤ w.heap.size) : Sim 5 w All (fun _ => none) (deadH 5) w where
  base_le := h
  old := fun b _ => rfl
  dom := fun id L h => by cases h
  apart := fun id L _ h => by cases h
  stat := fun id L B h => by cases h
  cont := fun id L B _ h => by cases h
  inj := fun id id' L L' _ _ h => by cases h
theorem gTop_is : gTop = 5 := by decide
theorem dead_len : (deadH 5).length = 5 := by unfold deadH; rw [List.length_replicate]
/-- What comes to true in a heap of which nothing is known, the model comes to. -/
theorem true_calls {xb : FuncId → Bool} {xf : Caller} (hk : CallerKept xf) {w : World} (hL : LibVars w) (hX : CallerSound 5 w Go.Proofs.Tryz.prog xf) {n : Nat} {f : FuncId} {args : List Value} {H' : AHeap}
    (ha : LRel (fun _ => none) args args) (h : callG xb xf Go.Proofs.Tryz.prog n 5 f ⟨args⟩ (deadH 5) = some (.bool true, H')) :
    Calls Go.Proofs.Tryz.prog f ⟨args⟩ w fun e w' => e = .returned (.bool true) ∧ Below w.heap.size w w' := by
  have hm : Go.Proofs.Tryz.prog.follows .mixedOrders = true := by kernel_rfl
  refine (callG_sound (base := 5) (w0 := w) xb hk Go.Proofs.Tryz.prog hX hm n 5 f ⟨args⟩ ⟨args⟩ (fun _ => none) (deadH 5) H' w (.bool true) (dead_sim (by rw [← gTop_is]; exact hL.top)) (Nat.le_refl _) (by rw [dead_len]; exact Nat.le_refl _) (fun _ _ _ => rfl) ha h).mono ?_
  rintro e w' ⟨v', ρ', rfl, hv, st⟩
  cases hv
  exact ⟨rfl, st.side.1, st.side.2.1, st.side.2.2, st.grow, fun b hb => st.frame b hb fun id L _ _ _ h _ => by cases h⟩
/-- The model's run of awake. -/
theorem awake_calls {w : World} (hL : LibVars w) : Calls Go.Proofs.Tryz.prog 6 #[] w fun e w' => e = .returned (.bool true) ∧ Below w.heap.size w w' := by
  obtain ⟨n, H', h⟩ := awake_run
  exact true_calls (args := []) (extF0_kept Go.Proofs.Tryz.prog) hL (extF0_sound hL (by rw [gTop_is]; exact Nat.le_refl _)) (LRel.nil _) h
end Go.Mach.J

namespace Go.Mach
/-- What the formulas say, the model comes to. -/
theorem extF_sound {base : Nat} {w0 : World} (hL : LibVars w0) (hb : gTop ≤ base) : CallerSound base w0 Go.Proofs.Tryz.prog (extF Go.Proofs.Tryz.prog) := by
  intro fl f args cargs ρ H H' w v S hbf hfl hfr hargs h
  simp only [extF] at h
  split at h
  · rename_i hal
    split at h
    · rename_i hf
      cases h
      subst hf
      rw [hal] at hargs
      have hc : cargs = #[] := by
        have := hargs.inv_nil
        cases cargs; simp at this; rw [this]
      subst hc
      refine (J.awake_calls (hL.now S hb)).mono ?_
      rintro e w' ⟨rfl, hb⟩
      exact ⟨_, ρ, rfl, .bool _, Step.behind S hb⟩
    · cases h
  · exact extF0_sound hL hb fl f args cargs ρ H H' w v S hbf hfl hfr hargs h
end Go.Mach
