/- A CONCRETE RUN, WHOLE: awake comes to 'true'; so does the model's, wherever it begins. No condition. -/
import Derived.Test.YtajjfflbcpkokaaGreatJR
import Derived.Test.YtajjfflbcpkokaaGreatJR2
import Derived.Test.YtajjfflbcpkokaaGreatJR4
import Derived.Test.YtajjfflbcpkokaaGreatSound
import Derived.Test.YtajjfflbcpkokaaGreatExtS
namespace Go.Mach.J
open Go Go.Mach Go.RowKit

def orc : KC := fun fl f args H k => HT.rec (motive := fun _ => Prop) (fun n _ =>
    (ifB (Nat.beq n 0) (h0 fun G => (fl = 0 ∧ f = 17 ∧ args = [] ∧ H = G) ∧ h1 fun G => k (.tuple ⟨[(.agg ⟨[(i 1), (i 2), (i 2), (s 3 0 4 4)]⟩), (.agg ⟨[(i 1), (i 2), (i 2), (i' 4), (i 2), (s 71 0 6 6)]⟩), (.agg ⟨[(i 2), (i 5), (i 2), (i 3), (i 0), (i 0)]⟩)]⟩) G)
    (ifB (Nat.beq n 75) (g1 fun G => (fl = 0 ∧ f = 18 ∧ args = [(.agg ⟨[(i 1), (i 2), (i 2), (s 3 0 4 4)]⟩), (.agg ⟨[(i 1), (i 2), (i 2), (i' 4), (i 2), (s 71 0 6 6)]⟩), (.agg ⟨[(i 2), (i 5), (i 2), (i 3), (i 0), (i 0)]⟩), (w 1), (i 64)] ∧ H = G) ∧ h2 fun G => k (.tuple ⟨[(p 505 0), (i 0)]⟩) G)
    (ifB (Nat.beq n 954) (h2 fun G => (fl = 0 ∧ f = 4 ∧ args = [(p 505 0), (.agg ⟨[(i 1), (i 2), z]⟩)] ∧ H = G) ∧ h3 fun G => k (.tuple ⟨[(i 2), (i 0)]⟩) G)
    (ifB (Nat.beq n 4615) (h3 fun G => (fl = 0 ∧ f = 4 ∧ args = [(p 505 0), (.agg ⟨[(i 2), (i 0), z]⟩)] ∧ H = G) ∧ h4 fun G => k (.tuple ⟨[(i 2), (i 0)]⟩) G)
    (ifB (Nat.beq n 5102) (h4 fun G => (fl = 0 ∧ f = 4 ∧ args = [(p 505 0), (.agg ⟨[(i 1), (i 1), z]⟩)] ∧ H = G) ∧ h5 fun G => k (.tuple ⟨[(i 1), (i 0)]⟩) G)
    (ifB (Nat.beq n 6933) (h5 fun G => (fl = 0 ∧ f = 4 ∧ args = [(p 505 0), (.agg ⟨[(i 3), (i 0), z]⟩)] ∧ H = G) ∧ h6 fun G => k (.tuple ⟨[(i 2), (i 0)]⟩) G)
    (ifB (Nat.beq n 7252) (h6 fun G => (fl = 0 ∧ f = 5 ∧ args = [(p 505 0)] ∧ H = G) ∧ h7 fun G => k (.agg ⟨[(w 1), (i 2), (s 7925 0 4 4)]⟩) G)
    False)))))))) H
theorem orc_ok : CallS (callG extB0 (extF0 Go.Proofs.Tryz.prog) Go.Proofs.Tryz.prog 99999) orc := by
  have hS := calls_ok (xb := extB0) (P := Go.Proofs.Tryz.prog) (xk_ok Go.Proofs.Tryz.prog) (callG_kept extB0 (extF0_kept Go.Proofs.Tryz.prog) Go.Proofs.Tryz.prog) 99999
  intro fl f args K H k hH h
  obtain ⟨n, tr⟩ := K
  rcases ifB_iff.1 h with ⟨_, h⟩ | ⟨_, h⟩
  · exact entry hx0 hx1 hS run0 hH h
  rcases ifB_iff.1 h with ⟨_, h⟩ | ⟨_, h⟩
  · exact entry gx1 hx2 hS run1 hH h
  rcases ifB_iff.1 h with ⟨_, h⟩ | ⟨_, h⟩
  · exact entry hx2 hx3 hS run2 hH h
  rcases ifB_iff.1 h with ⟨_, h⟩ | ⟨_, h⟩
  · exact entry hx3 hx4 hS run3 hH h
  rcases ifB_iff.1 h with ⟨_, h⟩ | ⟨_, h⟩
  · exact entry hx4 hx5 hS run4 hH h
  rcases ifB_iff.1 h with ⟨_, h⟩ | ⟨_, h⟩
  · exact entry hx5 hx6 hS run5 hH h
  rcases ifB_iff.1 h with ⟨_, h⟩ | ⟨_, h⟩
  · exact entry hx6 hx7 hS run6 hH h
  exact h.elim
def e0 (Z : Prop) : Prop := h0 fun G => ((0 : Nat) = 0 ∧ (17 : FuncId) = 17 ∧ ([] : List Value) = [] ∧ G = G) ∧ Z
theorem e0_of {Z : Prop} (h : Z) : e0 Z := ⟨⟨rfl, rfl, rfl, rfl⟩, h⟩
def e1 (Z : Prop) : Prop := g1 fun G => ((0 : Nat) = 0 ∧ (18 : FuncId) = 18 ∧ ([(.agg ⟨[(i 1), (i 2), (i 2), (s 3 0 4 4)]⟩), (.agg ⟨[(i 1), (i 2), (i 2), (i' 4), (i 2), (s 71 0 6 6)]⟩), (.agg ⟨[(i 2), (i 5), (i 2), (i 3), (i 0), (i 0)]⟩), (w 1), (i 64)] : List Value) = [(.agg ⟨[(i 1), (i 2), (i 2), (s 3 0 4 4)]⟩), (.agg ⟨[(i 1), (i 2), (i 2), (i' 4), (i 2), (s 71 0 6 6)]⟩), (.agg ⟨[(i 2), (i 5), (i 2), (i 3), (i 0), (i 0)]⟩), (w 1), (i 64)] ∧ G = G) ∧ Z
theorem e1_of {Z : Prop} (h : Z) : e1 Z := ⟨⟨rfl, rfl, rfl, rfl⟩, h⟩
def e2 (Z : Prop) : Prop := h2 fun G => ((0 : Nat) = 0 ∧ (4 : FuncId) = 4 ∧ ([(p 505 0), (.agg ⟨[(i 1), (i 2), z]⟩)] : List Value) = [(p 505 0), (.agg ⟨[(i 1), (i 2), z]⟩)] ∧ G = G) ∧ Z
theorem e2_of {Z : Prop} (h : Z) : e2 Z := ⟨⟨rfl, rfl, rfl, rfl⟩, h⟩
def e3 (Z : Prop) : Prop := h3 fun G => ((0 : Nat) = 0 ∧ (4 : FuncId) = 4 ∧ ([(p 505 0), (.agg ⟨[(i 2), (i 0), z]⟩)] : List Value) = [(p 505 0), (.agg ⟨[(i 2), (i 0), z]⟩)] ∧ G = G) ∧ Z
theorem e3_of {Z : Prop} (h : Z) : e3 Z := ⟨⟨rfl, rfl, rfl, rfl⟩, h⟩
def e4 (Z : Prop) : Prop := h4 fun G => ((0 : Nat) = 0 ∧ (4 : FuncId) = 4 ∧ ([(p 505 0), (.agg ⟨[(i 1), (i 1), z]⟩)] : List Value) = [(p 505 0), (.agg ⟨[(i 1), (i 1), z]⟩)] ∧ G = G) ∧ Z
theorem e4_of {Z : Prop} (h : Z) : e4 Z := ⟨⟨rfl, rfl, rfl, rfl⟩, h⟩
def e5 (Z : Prop) : Prop := h5 fun G => ((0 : Nat) = 0 ∧ (4 : FuncId) = 4 ∧ ([(p 505 0), (.agg ⟨[(i 3), (i 0), z]⟩)] : List Value) = [(p 505 0), (.agg ⟨[(i 3), (i 0), z]⟩)] ∧ G = G) ∧ Z
theorem e5_of {Z : Prop} (h : Z) : e5 Z := ⟨⟨rfl, rfl, rfl, rfl⟩, h⟩
def e6 (Z : Prop) : Prop := h6 fun G => ((0 : Nat) = 0 ∧ (5 : FuncId) = 5 ∧ ([(p 505 0)] : List Value) = [(p 505 0)] ∧ G = G) ∧ Z
theorem e6_of {Z : Prop} (h : Z) : e6 Z := ⟨⟨rfl, rfl, rfl, rfl⟩, h⟩
theorem top_eq : kfn extB0 Go.Proofs.Tryz.prog xk orc 99999 0 9 [] ⟨0, .c none⟩ (fun v _ => v = .bool true) = e0 (e1 (e2 (e3 (e4 (e5 (e6 (Value.bool true = Value.bool true))))))) := by kernel_rfl
theorem top_run : Hold (kfn extB0 Go.Proofs.Tryz.prog xk orc 99999 0 9 [] ⟨0, .c none⟩ (fun v _ => v = .bool true)) :=
  hold_of top_eq (e0_of (e1_of (e2_of (e3_of (e4_of (e5_of (e6_of (rfl))))))))
theorem awake_run : ∃ (n : Nat) (H' : AHeap), callG extB0 (extF0 Go.Proofs.Tryz.prog) Go.Proofs.Tryz.prog n 0 9 ⟨[]⟩ [] = some (.bool true, H') := by
  have hS := orc_ok
  have h := top_run
  have hk := callG_kept extB0 (extF0_kept Go.Proofs.Tryz.prog) Go.Proofs.Tryz.prog 99999
  generalize (99999 : Nat) = n at hS h hk
  exact ⟨n + 1, fn_run (xk_ok Go.Proofs.Tryz.prog) hS hk h⟩

theorem empty_sim (w : World) : Sim 0 w All (fun _ => none) [] w where
  base_le := Nat.zero_le _
  old := fun b hb => absurd hb (Nat.not_lt_zero b)
  dom := fun id L h => by cases h
  apart := fun id L h => absurd h (Nat.not_lt_zero id)
  stat := fun id L B h => by cases h
  cont := fun id L B _ h => by cases h
  inj := fun id id' L L' _ _ h => by cases h
/-- The model's run of awake. -/
theorem awake_calls (w : World) : Calls Go.Proofs.Tryz.prog 9 #[] w fun e w' => e = .returned (.bool true) ∧ Below w.heap.size w w' := by
  obtain ⟨n, H', h⟩ := awake_run
  have hm : Go.Proofs.Tryz.prog.follows .mixedOrders = true := by kernel_rfl
  refine (callG_sound (base := 0) (w0 := w) extB0 (extF0_kept Go.Proofs.Tryz.prog) Go.Proofs.Tryz.prog extF0_sound hm n 0 9 ⟨[]⟩ #[] (fun _ => none) [] H' w (.bool true) (empty_sim w) (Nat.le_refl _) (Nat.zero_le _) (fun _ _ _ => rfl) (LRel.nil _) h).mono ?_
  rintro e w' ⟨v', ρ', rfl, hv, st⟩
  cases hv
  exact ⟨rfl, st.side.1, st.side.2.1, st.side.2.2, st.grow, fun b hb => st.frame b hb fun id L _ _ _ h _ => by cases h⟩
end Go.Mach.J

namespace Go.Mach
/-- What the formulas say, the model comes to. -/
theorem extF_sound {base : Nat} {w0 : World} : CallerSound base w0 Go.Proofs.Tryz.prog (extF Go.Proofs.Tryz.prog) := by
  intro fl f args cargs ρ H H' w v S hbf hfl hfr hargs h
  simp only [extF] at h
  split at h
  · rename_i hal
    split at h
    · rename_i hf
      cases h
      subst hf
      rw [hal] at hargs
      have hc : cargs = #[] := by
        have := hargs.inv_nil
        cases cargs; simp at this; rw [this]
      subst hc
      refine (J.awake_calls w).mono ?_
      rintro e w' ⟨rfl, hb⟩
      exact ⟨_, ρ, rfl, .bool _, Step.behind S hb⟩
    · cases h
  · exact extF0_sound fl f args cargs ρ H H' w v S hbf hfl hfr hargs h
end Go.Mach
