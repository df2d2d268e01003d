/- LossSharp. Plain law; no condition. -/
import Derived.Test.YtpbegbmmhpencaaGX
import Derived.Test.YtpbegbmmhpencaaGP
namespace Go.Proofs.Ytpbegbmmhpencaa
open Go.Mach Go.RowKit
set_option maxRecDepth 100000
set_option linter.unusedVariables false
set_option linter.unusedSimpArgs false

theorem sum_pw (f g : Int → Nat) : ∀ {l : List Int}, (∀ x ∈ l, f x ≤ g x) → (l.map f).sum ≤ (l.map g).sum
  | [], _ => by simp
  | x :: l, h => by
    have h1 := h x (by simp)
    have h2 := sum_pw f g (l := l) fun y hy => h y (by simp [hy])
    simp only [List.map_cons, List.sum_cons]; omega
/-- With a greater exponent all together are no more. -/
theorem all_exp {e m : Int} {l : List Int} (h : ∀ x ∈ l, x ≤ m) : allF (e + 1) m l ≤ allF e m l := by
  unfold allF
  refine sum_pw _ _ fun x hx => ?_
  have := below_exp (n := m - x) (e := e) (by have := h x hx; omega)
  exact Nat.pow_le_pow_right (by omega) (by omega)
theorem part_top (e m : Int) : partF e m m = 32768 := by
  unfold partF
  rw [show m - m = 0 by omega, below_zero]; rfl
theorem soft_top {l : List Int} {e : Int} (h : 1 ≤ l.length ∧ l.length ≤ 10) {i : Nat} (hi : i < l.length) (hm : l.getD i 0 = maxF l) : (softF l e).getD i 0 = ((32768 * 127 / allF (clampF e) (maxF l) l : Nat) : Int) := by
  rw [soft_get h hi, hm, part_top]
theorem soft_one {x e : Int} : softF [x] e = [127] := by
  unfold softF
  rw [if_neg (by simp)]
  simp only [List.map_cons, List.map_nil, allF, List.sum_cons, List.sum_nil, Nat.add_zero, maxF]
  rw [part_top]; rfl

theorem best_v {l : List Int} {K : Int → Prop} (hl : 1 ≤ l.length ∧ l.length ≤ 1000) (h : ∀ b : Nat, b < l.length → l.getD b 0 = maxF l → K (b : Int)) : pedagoguelaw19_LossSharp_n0 l (l.length : Int) K (0, 0) := by
  refine ⟨Loop.rangeI (B := pedagoguelaw19_LossSharp_n0_B l (l.length : Int) K) l.length (fun i s => s.2 = (i : Int) ∧ ∃ b : Nat, s.1 = (b : Int) ∧ b < l.length ∧ ∀ j, j < i → l.getD j 0 ≤ l.getD b 0) ⟨rfl, 0, rfl, by omega, fun j hj => by omega⟩ ?_ ?_⟩
  · rintro i hi ⟨s, t⟩ ⟨rfl, b, rfl, hb, hub⟩ X hX
    unfold pedagoguelaw19_LossSharp_n0_B
    dsimp only
    rw [if_pos (by simp; omega), Int.toNat_natCast, Int.toNat_natCast]
    refine ⟨⟨by omega, by omega⟩, ⟨by omega, by omega⟩, ?_⟩
    by_cases hc : l.getD b 0 < l.getD i 0
    · rw [if_pos (by simpa using hc)]
      refine ⟨?_⟩
      unfold pedagoguelaw19_LossSharp_n1_t
      rw [wrap_i64 _ (by omega) (by omega)]
      refine hX _ ⟨rfl, i, rfl, hi, fun j hj => ?_⟩
      by_cases hji : j = i
      · subst hji; exact Int.le_refl _
      · have := hub j (by omega); omega
    · rw [if_neg (by simpa using hc)]
      refine ⟨?_⟩
      unfold pedagoguelaw19_LossSharp_n1_t
      rw [wrap_i64 _ (by omega) (by omega)]
      refine hX _ ⟨rfl, b, rfl, hb, fun j hj => ?_⟩
      by_cases hji : j = i
      · subst hji; omega
      · exact hub j (by omega)
  · rintro ⟨s, t⟩ ⟨rfl, b, rfl, hb, hub⟩ X
    unfold pedagoguelaw19_LossSharp_n0_B
    dsimp only
    rw [if_neg (by simp)]
    refine h b hb (maxF_eq (getD_mem hb) fun x hx => ?_)
    obtain ⟨j, hj, rfl⟩ := List.getElem_of_mem hx
    have := hub j hj
    rwa [List.getD_eq_getElem?_getD, List.getElem?_eq_getElem hj] at this

theorem law_sharp {l : List Int} {e : Int} {Q : Bool → Prop} (h8 : All8 l) (h : Q true) : pedagoguelaw19_LossSharp l e Q := by
  refine ⟨?_⟩
  unfold pedagoguelaw19_LossSharp_t
  by_cases hc : l.length < 1 ∨ 10 < l.length
  · rw [if_pos (by simp; omega)]
    exact awake_v h
  have hl : 1 ≤ l.length ∧ l.length ≤ 10 := by omega
  have hne : l ≠ [] := fun e => by subst e; simp at hl
  rw [if_neg (by simp; omega)]
  refine ⟨by omega, ?_⟩
  obtain ⟨c, hcx⟩ : ∃ c, e.tmod 60 = c := ⟨_, rfl⟩
  have hcr : -59 ≤ c ∧ c ≤ 59 := by
    have h1 := Int.tmod_lt_of_pos e (show (0 : Int) < 60 by omega)
    have h2 := Int.lt_tmod_of_pos e (show (0 : Int) < 60 by omega)
    omega
  rw [hcx, wrap_i64 (c + 1) (by omega) (by omega)]
  refine soft_v h8 (soft_v h8 ⟨⟨hne, by omega, by omega, by omega⟩, ?_⟩)
  have h1 : ((l.take ((1 : Int)).toNat).drop ((0 : Int)).toNat) = [l.getD 0 0] := by
    cases l with
    | nil => simp at hne
    | cons x r => rfl
  rw [h1]
  refine soft_v (by intro y hy; simp at hy; subst hy; have := h8.at_ 0; simpa using this) ?_
  rw [soft_one]
  have hp := soft_len l c hl
  have hq := soft_len l (c + 1) hl
  refine orb_v (b := ((((softF l c).length : Int) != (l.length : Int)) || (((softF l (c + 1)).length : Int) != (l.length : Int))) || (((([127] : List Int)).length : Int) != 1)) (c := false) ?_ (fun v hv => ?_) rfl
  · intro _ P hP
    exact ⟨⟨by decide, by decide⟩, hP⟩
  · have : v = false := by
      rw [hv, hp, hq]; simp
    rw [this, if_neg (by simp)]
    refine best_v (by omega) fun b hb hm => ?_
    refine ⟨⟨by omega, by omega⟩, ⟨by omega, by omega⟩, ?_⟩
    rw [Int.toNat_natCast]
    have e1 : clampF c = c := by unfold clampF; rw [greater_eq, smaller_eq]; omega
    have e2 : clampF (c + 1) = c + 1 := by unfold clampF; rw [greater_eq, smaller_eq]; omega
    have t1 := soft_top (e := c) hl hb hm
    have t2 := soft_top (e := c + 1) hl hb hm
    rw [e1] at t1; rw [e2] at t2
    have ha := all_exp (e := c) (m := maxF l) (l := l) fun x hx => maxF_ge hx
    have hpos := all_pos (c + 1) (maxF l) hne
    have hpos2 := all_pos c (maxF l) hne
    have hup : allF c (maxF l) l ≤ l.length * 32768 := sum_le (partF c (maxF l)) 32768 (fun x => (part_rng c (maxF l) x).2) l
    generalize allF c (maxF l) l = A at *
    generalize allF (c + 1) (maxF l) l = B at *
    have k1 : 32768 * 127 / A ≤ 32768 * 127 / B := Nat.div_le_div_left ha (by omega)
    have k2 : 128 ≤ 32768 * 127 / A * l.length + l.length := by
      have hlt := Nat.lt_div_mul_add (a := 32768 * 127) (b := A) (by omega)
      have hm2 : 32768 * 127 / A * A + A ≤ (32768 * 127 / A + 1) * (l.length * 32768) := by
        rw [show 32768 * 127 / A * A + A = (32768 * 127 / A + 1) * A by rw [Nat.add_mul, Nat.one_mul]]
        exact Nat.mul_le_mul_left _ hup
      have : 127 * 32768 < ((32768 * 127 / A + 1) * l.length) * 32768 := by rw [Nat.mul_assoc]; omega
      have := Nat.lt_of_mul_lt_mul_right this
      rw [Nat.add_mul, Nat.one_mul] at this
      omega
    have k3 : 32768 * 127 / A ≤ 32768 * 127 := Nat.div_le_self _ _
    have k4 : 32768 * 127 / A * l.length ≤ 32768 * 127 * 10 := Nat.mul_le_mul k3 hl.2
    generalize 32768 * 127 / A = p at *
    generalize 32768 * 127 / B = q at *
    rw [t1, t2]
    have fin : (if (true && true) = true then pedagoguelaw19_awake (fun r => Q r) else Q false) := by rw [if_pos (by rfl)]; exact awake_v h
    have hmul : ((p : Int)) * ((l.length : Nat) : Int) = ((p * l.length : Nat) : Int) := by push_cast; rfl
    refine and_v (b := decide ((p : Int) ≤ (q : Int))) (c := decide ((IntKind.i64.wrap ((IntKind.i64.wrap (127 - (l.length : Int))) + 1)) ≤ (IntKind.i64.wrap ((p : Int) * (l.length : Int))))) ?_ (fun v hv => ?_) rfl
    · intro _ P hP
      exact ⟨⟨by omega, by omega⟩, hP⟩
    · have hvt : v = true := by
        rw [hv, hmul, wrap_i64 (127 - (l.length : Int)) (by omega) (by omega), wrap_i64 _ (by omega) (by omega), wrap_i64 _ (by omega) (by omega)]
        simp only [Bool.and_eq_true, decide_eq_true_eq]
        omega
      rw [hvt]
      exact fin
end Go.Proofs.Ytpbegbmmhpencaa
