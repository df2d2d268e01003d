/- What is to be said of the parts. Laws; no condition. -/
import Derived.Test.YtpbegbmmhpencaaGX
namespace Go.Proofs.Ytpbegbmmhpencaa
open Go.Mach Go.RowKit
set_option maxRecDepth 100000
set_option linter.unusedVariables false
set_option linter.unusedSimpArgs false

/-! ### Parts of a whole -/
theorem part_mono {e m x y : Int} (h : x ≤ y) (hy : y ≤ m) : partF e m x ≤ partF e m y := by
  have h1 := below_mono (n := m - y) (m := m - x) (e := e) (by omega) (by omega)
  exact Nat.pow_le_pow_right (by omega) (by omega)
theorem div_sum (all : Nat) (ha : 0 < all) : ∀ ps : List Nat, (ps.map fun p => p * 127 / all).sum * all ≤ ps.sum * 127 ∧ ps.sum * 127 + (if ps = [] then 0 else 1) ≤ ((ps.map fun p => p * 127 / all).sum + ps.length) * all
  | [] => by simp
  | p :: ps => by
    obtain ⟨h1, h2⟩ := div_sum all ha ps
    have h3 := Nat.div_mul_le_self (p * 127) all
    have h4 := Nat.lt_div_mul_add (a := p * 127) ha
    simp only [List.map_cons, List.sum_cons, List.length_cons, Nat.add_mul, Nat.one_mul, reduceCtorEq, if_false] at h2 ⊢
    generalize p * 127 / all * all = z at *
    split at h2 <;> omega
theorem sum_cast : ∀ l : List Nat, (l.map fun n => ((n : Nat) : Int)).sum = ((l.sum : Nat) : Int)
  | [] => rfl
  | n :: l => by rw [List.map_cons, List.sum_cons, List.sum_cons, sum_cast l]; push_cast; rfl
theorem soft_sum {l : List Int} {e : Int} (h : 1 ≤ l.length ∧ l.length ≤ 10) : (softF l e).sum ≤ 127 ∧ 127 - (l.length : Int) < (softF l e).sum := by
  have hne : l ≠ [] := fun e => by subst e; simp at h
  unfold softF
  rw [if_neg (by omega)]
  generalize clampF e = c
  generalize maxF l = m
  have ha := all_pos c m hne
  have key : (l.map fun x => ((partF c m x * 127 / allF c m l : Nat) : Int)) = ((l.map (partF c m)).map fun p => p * 127 / allF c m l).map fun n => ((n : Nat) : Int) := by
    rw [List.map_map, List.map_map]; rfl
  rw [key, sum_cast]
  obtain ⟨h1, h2⟩ := div_sum (allF c m l) ha (l.map (partF c m))
  rw [if_neg (by simpa using hne), List.length_map] at h2
  have hs : (l.map (partF c m)).sum = allF c m l := rfl
  rw [hs] at h1 h2
  generalize allF c m l = all at *
  generalize ((l.map (partF c m)).map fun p => p * 127 / all).sum = s at *
  have h3 : s ≤ 127 := by
    rw [Nat.mul_comm all 127] at h1
    exact Nat.le_of_mul_le_mul_right h1 ha
  have h4 : 127 < s + l.length := by
    have : 127 * all < (s + l.length) * all := by rw [Nat.mul_comm all 127] at h2; omega
    exact Nat.lt_of_mul_lt_mul_right this
  omega
theorem soft_mono {l : List Int} {e : Int} (h : 1 ≤ l.length ∧ l.length ≤ 10) {i j : Nat} (hi : i < l.length) (hj : j < l.length) (hle : l.getD i 0 ≤ l.getD j 0) : (softF l e).getD i 0 ≤ (softF l e).getD j 0 := by
  rw [soft_get h hi, soft_get h hj]
  have h1 := part_mono (e := clampF e) (m := maxF l) hle (maxF_ge (getD_mem hj))
  have h2 : partF (clampF e) (maxF l) (l.getD i 0) * 127 / allF (clampF e) (maxF l) l ≤ partF (clampF e) (maxF l) (l.getD j 0) * 127 / allF (clampF e) (maxF l) l := Nat.div_le_div_right (Nat.mul_le_mul_right 127 h1)
  exact Int.ofNat_le.2 h2
theorem maxF_add (b : Int) : ∀ {l : List Int}, l ≠ [] → maxF (l.map (· + b)) = maxF l + b
  | [], h => absurd rfl h
  | [x], _ => rfl
  | x :: y :: r, _ => by
    have ih := maxF_add b (l := y :: r) (by simp)
    show max (x + b) (maxF ((y :: r).map (· + b))) = max x (maxF (y :: r)) + b
    rw [ih]; omega
theorem soft_moved {l : List Int} {e b : Int} (h : 1 ≤ l.length ∧ l.length ≤ 10) : softF (l.map (· + b)) e = softF l e := by
  have hne : l ≠ [] := fun e => by subst e; simp at h
  unfold softF
  rw [if_neg (by rw [List.length_map]; omega), if_neg (by omega), maxF_add b hne, List.map_map]
  have hp : ∀ x, partF (clampF e) (maxF l + b) (x + b) = partF (clampF e) (maxF l) x := fun x => by
    unfold partF; rw [show maxF l + b - (x + b) = maxF l - x by omega]
  have ha : allF (clampF e) (maxF l + b) (l.map (· + b)) = allF (clampF e) (maxF l) l := by
    unfold allF
    rw [List.map_map]
    congr 1
    exact List.map_congr_left fun x _ => hp x
  rw [ha]
  refine List.map_congr_left fun x _ => ?_
  show ((partF (clampF e) (maxF l + b) (x + b) * 127 / _ : Nat) : Int) = _
  rw [hp]

end Go.Proofs.Ytpbegbmmhpencaa
