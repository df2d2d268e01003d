/- What the oracle of the steps says, the first machine comes to. No condition. -/
import Derived.Test.YtlgcbiacijgcmaaGreatDoorJRC0
import Derived.Test.YtlgcbiacijgcmaaGreatDoorSound
namespace Go.Mach.J
open Go Go.Mach
set_option maxRecDepth 100000 in
theorem orcN_ok (hk0 : CallerKept (extF0 Go.Proofs.Tryz.prog)) : CallS (callG extB0 (extF0 Go.Proofs.Tryz.prog) Go.Proofs.Tryz.prog 99999) orcN := by
  have hS := calls_ok (xb := extB0) (P := Go.Proofs.Tryz.prog) (xk_ok Go.Proofs.Tryz.prog) (callG_kept extB0 hk0 Go.Proofs.Tryz.prog) 99999
  intro fl f args K H k hH h
  rcases ifB_iff.1 h with ⟨_, h⟩ | ⟨_, h⟩
  rotate_left
  · exact hS fl f args K H k hH h
  obtain ⟨n, tr⟩ := K
  rcases ifB_iff.1 h with ⟨_, h⟩ | ⟨_, h⟩
  · exact entry hx2 hx3 hS step0 hH h
  rcases ifB_iff.1 h with ⟨_, h⟩ | ⟨_, h⟩
  · exact entry hx4 hx5 hS step1 hH h
  rcases ifB_iff.1 h with ⟨_, h⟩ | ⟨_, h⟩
  · exact entry hx6 hx7 hS step2 hH h
  exact h.elim
def en0 (Z : Prop) : Prop := h2 fun G => ((5 : Nat) = 5 ∧ (158 : FuncId) = 158 ∧ ([(.agg ⟨[(i 1), (i 2), (i 2), (s 258 0 4 4)]⟩), (.agg ⟨[(i 1), (i 2), (i 2), (i' 4), (i 2), (s 506 0 6 6)]⟩), (.agg ⟨[(i 2), (i 5), (i 2), (i 3), (i 0), (i 0)]⟩), (.agg ⟨[(w 1), (i 0), (s 255 0 4 4)]⟩)] : List Value) = [(.agg ⟨[(i 1), (i 2), (i 2), (s 258 0 4 4)]⟩), (.agg ⟨[(i 1), (i 2), (i 2), (i' 4), (i 2), (s 506 0 6 6)]⟩), (.agg ⟨[(i 2), (i 5), (i 2), (i 3), (i 0), (i 0)]⟩), (.agg ⟨[(w 1), (i 0), (s 255 0 4 4)]⟩)] ∧ G = G) ∧ Z
theorem en0_of {Z : Prop} (h : Z) : en0 Z := ⟨⟨rfl, rfl, rfl, rfl⟩, h⟩
def en1 (Z : Prop) : Prop := h4 fun G => ((5 : Nat) = 5 ∧ (158 : FuncId) = 158 ∧ ([(.agg ⟨[(i 1), (i 2), (i 2), (s 258 0 4 4)]⟩), (.agg ⟨[(i 1), (i 2), (i 2), (i' 4), (i 2), (s 506 0 6 6)]⟩), (.agg ⟨[(i 2), (i 5), (i 2), (i 3), (i 0), (i 0)]⟩), (.agg ⟨[(w 1), (i 1), (s 2796 0 4 4)]⟩)] : List Value) = [(.agg ⟨[(i 1), (i 2), (i 2), (s 258 0 4 4)]⟩), (.agg ⟨[(i 1), (i 2), (i 2), (i' 4), (i 2), (s 506 0 6 6)]⟩), (.agg ⟨[(i 2), (i 5), (i 2), (i 3), (i 0), (i 0)]⟩), (.agg ⟨[(w 1), (i 1), (s 2796 0 4 4)]⟩)] ∧ G = G) ∧ Z
theorem en1_of {Z : Prop} (h : Z) : en1 Z := ⟨⟨rfl, rfl, rfl, rfl⟩, h⟩
def en2 (Z : Prop) : Prop := h6 fun G => ((5 : Nat) = 5 ∧ (158 : FuncId) = 158 ∧ ([(.agg ⟨[(i 1), (i 2), (i 2), (s 258 0 4 4)]⟩), (.agg ⟨[(i 1), (i 2), (i 2), (i' 4), (i 2), (s 506 0 6 6)]⟩), (.agg ⟨[(i 2), (i 5), (i 2), (i 3), (i 0), (i 0)]⟩), (.agg ⟨[(w 1), (i 2), (s 4626 0 4 4)]⟩)] : List Value) = [(.agg ⟨[(i 1), (i 2), (i 2), (s 258 0 4 4)]⟩), (.agg ⟨[(i 1), (i 2), (i 2), (i' 4), (i 2), (s 506 0 6 6)]⟩), (.agg ⟨[(i 2), (i 5), (i 2), (i 3), (i 0), (i 0)]⟩), (.agg ⟨[(w 1), (i 2), (s 4626 0 4 4)]⟩)] ∧ G = G) ∧ Z
theorem en2_of {Z : Prop} (h : Z) : en2 Z := ⟨⟨rfl, rfl, rfl, rfl⟩, h⟩
def chainL : List Nat := [5, 12, 29, 70, 119]
end Go.Mach.J
