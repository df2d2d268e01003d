/- LossSoft. Plain law; no condition. -/
import Derived.Test.YtpbegbmmhpencaaGX
import Derived.Test.YtpbegbmmhpencaaGS
namespace Go.Proofs.Ytpbegbmmhpencaa
open Go.Mach Go.RowKit
set_option maxRecDepth 100000
set_option linter.unusedVariables false
set_option linter.unusedSimpArgs false

theorem sints_v {a b : List Int} {Q : Bool → Prop} (hl : a.length ≤ 1000000) (e : a = b) (h : Q true) : pedagogueref1_SameInts a b Q := by
  subst e
  refine ⟨?_⟩
  unfold pedagogueref1_SameInts_t
  rw [if_neg (by simp)]
  refine ⟨Loop.range (B := pedagogueref1_SameInts_n0_B a a (a.length : Int) _ _) (f := fun i : Nat => (i : Int)) a.length (fun _ => True) trivial ?_ ?_⟩
  · intro i hi _ X hX
    unfold pedagogueref1_SameInts_n0_B
    rw [if_pos (by simp; omega)]
    refine ⟨⟨by omega, by omega⟩, ⟨by omega, by omega⟩, ?_⟩
    rw [if_neg (by simp), wrap_i64 _ (by omega) (by omega)]
    exact hX trivial
  · intro _ X
    unfold pedagogueref1_SameInts_n0_B
    rw [if_neg (by simp)]; exact h

/-! ### Parts of a whole -/
theorem part_mono {e m x y : Int} (h : x ≤ y) (hy : y ≤ m) : partF e m x ≤ partF e m y := by
  have h1 := below_mono (n := m - y) (m := m - x) (e := e) (by omega) (by omega)
  exact Nat.pow_le_pow_right (by omega) (by omega)
theorem div_sum (all : Nat) (ha : 0 < all) : ∀ ps : List Nat, (ps.map fun p => p * 127 / all).sum * all ≤ ps.sum * 127 ∧ ps.sum * 127 + (if ps = [] then 0 else 1) ≤ ((ps.map fun p => p * 127 / all).sum + ps.length) * all
  | [] => by simp
  | p :: ps => by
    obtain ⟨h1, h2⟩ := div_sum all ha ps
    have h3 := Nat.div_mul_le_self (p * 127) all
    have h4 := Nat.lt_div_mul_add (a := p * 127) ha
    simp only [List.map_cons, List.sum_cons, List.length_cons, Nat.add_mul, Nat.one_mul, reduceCtorEq, if_false] at h2 ⊢
    generalize p * 127 / all * all = z at *
    split at h2 <;> omega
theorem sum_cast : ∀ l : List Nat, (l.map fun n => ((n : Nat) : Int)).sum = ((l.sum : Nat) : Int)
  | [] => rfl
  | n :: l => by rw [List.map_cons, List.sum_cons, List.sum_cons, sum_cast l]; push_cast; rfl
theorem soft_sum {l : List Int} {e : Int} (h : 1 ≤ l.length ∧ l.length ≤ 10) : (softF l e).sum ≤ 127 ∧ 127 - (l.length : Int) < (softF l e).sum := by
  have hne : l ≠ [] := fun e => by subst e; simp at h
  unfold softF
  rw [if_neg (by omega)]
  generalize clampF e = c
  generalize maxF l = m
  have ha := all_pos c m hne
  have key : (l.map fun x => ((partF c m x * 127 / allF c m l : Nat) : Int)) = ((l.map (partF c m)).map fun p => p * 127 / allF c m l).map fun n => ((n : Nat) : Int) := by
    rw [List.map_map, List.map_map]; rfl
  rw [key, sum_cast]
  obtain ⟨h1, h2⟩ := div_sum (allF c m l) ha (l.map (partF c m))
  rw [if_neg (by simpa using hne), List.length_map] at h2
  have hs : (l.map (partF c m)).sum = allF c m l := rfl
  rw [hs] at h1 h2
  generalize allF c m l = all at *
  generalize ((l.map (partF c m)).map fun p => p * 127 / all).sum = s at *
  have h3 : s ≤ 127 := by
    rw [Nat.mul_comm all 127] at h1
    exact Nat.le_of_mul_le_mul_right h1 ha
  have h4 : 127 < s + l.length := by
    have : 127 * all < (s + l.length) * all := by rw [Nat.mul_comm all 127] at h2; omega
    exact Nat.lt_of_mul_lt_mul_right this
  omega
theorem soft_mono {l : List Int} {e : Int} (h : 1 ≤ l.length ∧ l.length ≤ 10) {i j : Nat} (hi : i < l.length) (hj : j < l.length) (hle : l.getD i 0 ≤ l.getD j 0) : (softF l e).getD i 0 ≤ (softF l e).getD j 0 := by
  rw [soft_get h hi, soft_get h hj]
  have h1 := part_mono (e := clampF e) (m := maxF l) hle (maxF_ge (getD_mem hj))
  have h2 : partF (clampF e) (maxF l) (l.getD i 0) * 127 / allF (clampF e) (maxF l) l ≤ partF (clampF e) (maxF l) (l.getD j 0) * 127 / allF (clampF e) (maxF l) l := Nat.div_le_div_right (Nat.mul_le_mul_right 127 h1)
  exact Int.ofNat_le.2 h2
theorem maxF_add (b : Int) : ∀ {l : List Int}, l ≠ [] → maxF (l.map (· + b)) = maxF l + b
  | [], h => absurd rfl h
  | [x], _ => rfl
  | x :: y :: r, _ => by
    have ih := maxF_add b (l := y :: r) (by simp)
    show max (x + b) (maxF ((y :: r).map (· + b))) = max x (maxF (y :: r)) + b
    rw [ih]; omega
theorem soft_moved {l : List Int} {e b : Int} (h : 1 ≤ l.length ∧ l.length ≤ 10) : softF (l.map (· + b)) e = softF l e := by
  have hne : l ≠ [] := fun e => by subst e; simp at h
  unfold softF
  rw [if_neg (by rw [List.length_map]; omega), if_neg (by omega), maxF_add b hne, List.map_map]
  have hp : ∀ x, partF (clampF e) (maxF l + b) (x + b) = partF (clampF e) (maxF l) x := fun x => by
    unfold partF; rw [show maxF l + b - (x + b) = maxF l - x by omega]
  have ha : allF (clampF e) (maxF l + b) (l.map (· + b)) = allF (clampF e) (maxF l) l := by
    unfold allF
    rw [List.map_map]
    congr 1
    exact List.map_congr_left fun x _ => hp x
  rw [ha]
  refine List.map_congr_left fun x _ => ?_
  show ((partF (clampF e) (maxF l + b) (x + b) * 127 / _ : Nat) : Int) = _
  rw [hp]

theorem pairs_v {l p : List Int} {i : Nat} {K0 K1 : Unit → Prop} (hl : l.length ≤ 1000) (hpl : p.length = l.length) (hi : i < l.length) (hm : ∀ j, j < l.length → (l.getD j 0 ≤ l.getD i 0 → p.getD j 0 ≤ p.getD i 0) ∧ (l.getD i 0 ≤ l.getD j 0 → p.getD i 0 ≤ p.getD j 0)) (h : K0 ()) :
    pedagoguelaw19_LossSoft_n1 l (i : Int) (p.getD i 0) (p.length : Int) p K0 K1 0 := by
  refine ⟨Loop.range (B := pedagoguelaw19_LossSoft_n1_B l (i : Int) (p.getD i 0) (p.length : Int) p K0 K1) (f := fun j : Nat => (j : Int)) p.length (fun _ => True) trivial ?_ ?_⟩
  · intro j hj _ X hX
    unfold pedagoguelaw19_LossSoft_n1_B
    rw [if_pos (by simp; omega), Int.toNat_natCast, Int.toNat_natCast]
    refine ⟨⟨by omega, by omega⟩, ⟨by omega, by omega⟩, ⟨by omega, by omega⟩, ?_⟩
    obtain ⟨h1, h2⟩ := hm j (by omega)
    have hX' : X (IntKind.i64.wrap ((j : Int) + 1)) := by rw [wrap_i64 _ (by omega) (by omega)]; exact hX trivial
    show (if (decide (l.getD j 0 < l.getD i 0) && decide (p.getD i 0 < p.getD j 0)) = true then _ else _)
    rw [if_neg (by simp only [Bool.and_eq_true, decide_eq_true_eq]; omega)]
    refine ⟨⟨by omega, by omega⟩, ⟨by omega, by omega⟩, ?_⟩
    show (if ((l.getD i 0 == l.getD j 0) && (p.getD i 0 != p.getD j 0)) = true then _ else _)
    rw [if_neg (by simp only [Bool.and_eq_true, beq_iff_eq, bne_iff_ne, ne_eq]; omega)]
    exact hX'
  · intro _ X
    unfold pedagoguelaw19_LossSoft_n1_B
    rw [if_neg (by simp)]; exact h

theorem law_soft {l : List Int} {e b : Int} {Q : Bool → Prop} (h8 : All8 l) (hb : -128 ≤ b ∧ b ≤ 127) (h : Q true) : pedagoguelaw19_LossSoft l e b Q := by
  refine ⟨?_⟩
  unfold pedagoguelaw19_LossSoft_t
  by_cases hc : l.length < 1 ∨ 10 < l.length
  · rw [if_pos (by simp; omega)]
    refine soft_v h8 ?_
    have e0 : softF l e = [] := by unfold softF; rw [if_pos hc]
    rw [e0]
    show (if ((([] : List Int).length : Int) == 0) = true then pedagoguelaw19_awake (fun r => Q r) else Q false)
    rw [if_pos (by simp)]
    exact awake_v h
  have hl : 1 ≤ l.length ∧ l.length ≤ 10 := by omega
  rw [if_neg (by simp; omega)]
  refine soft_v h8 ?_
  have hpl := soft_len l e hl
  rw [if_neg (by rw [bne_iff_ne]; omega)]
  refine ⟨by omega, ?_⟩
  obtain ⟨p, hp⟩ : ∃ p, softF l e = p := ⟨_, rfl⟩
  have hr : ∀ i, 0 ≤ p.getD i 0 ∧ p.getD i 0 ≤ 127 := fun i => by rw [← hp]; exact soft_rng
  have hmono : ∀ {i j : Nat}, i < l.length → j < l.length → l.getD i 0 ≤ l.getD j 0 → p.getD i 0 ≤ p.getD j 0 := fun hi hj hle => by rw [← hp]; exact soft_mono hl hi hj hle
  have hsum : p.sum ≤ 127 ∧ 127 - (l.length : Int) < p.sum := by rw [← hp]; exact soft_sum hl
  rw [hp] at hpl ⊢
  refine ⟨Loop.rangeI (B := pedagoguelaw19_LossSoft_n0_B l b (p.length : Int) p _ _) p.length (fun i s => s.1 = (p.take i).sum ∧ (0 ≤ s.1 ∧ s.1 ≤ (i : Int) * 127) ∧ (s.2.1 = true → ∀ j, j < i → -128 ≤ l.getD j 0 + b ∧ l.getD j 0 + b ≤ 127) ∧ s.2.2.1 = (i : Int) ∧
      s.2.2.2.length = l.length ∧ ∀ j, j < i → s.2.2.2.getD j 0 = IntKind.i8.wrap (l.getD j 0 + b)) ⟨rfl, ⟨by simp, by simp⟩, fun _ j hj => by omega, rfl, by simp, fun j hj => by omega⟩ ?_ ?_⟩
  · rintro i hi ⟨s, mv, t, m⟩ ⟨h1, h2, h3, rfl, h5, h6⟩ X hX
    simp only at h1 h2 h3 h5 h6
    unfold pedagoguelaw19_LossSoft_n0_B
    dsimp only
    rw [if_pos (by simp; omega), Int.toNat_natCast]
    refine ⟨⟨by omega, by omega⟩, ?_⟩
    have hri := hr i
    rw [if_neg (by simp only [Bool.or_eq_true, decide_eq_true_eq]; omega)]
    refine pairs_v (by omega) hpl (by omega) (fun j hj => ⟨fun hle => hmono hj (by omega) hle, fun hle => hmono (by omega) hj hle⟩) ?_
    refine ⟨⟨by omega, by omega⟩, ⟨by omega, by omega⟩, ?_⟩
    have hli := h8.at_ i
    rw [wrap_i64 (l.getD i 0) (by omega) (by omega), wrap_i64 b (by omega) (by omega), wrap_i64 (l.getD i 0 + b) (by omega) (by omega), wrap_i64 ((i : Int) + 1) (by omega) (by omega), wrap_i64 (s + p.getD i 0) (by omega) (by omega)]
    refine hX _ ⟨?_, ⟨by simp only; omega, by simp only; omega⟩, ?_, by simp only; omega, by simp only; rw [List.length_set]; exact h5, ?_⟩
    · simp only
      rw [take_snoc hi, List.sum_append, h1]; simp
    · intro hmv j hj
      simp only [Bool.and_eq_true, decide_eq_true_eq] at hmv
      by_cases hji : j = i
      · subst hji; exact ⟨hmv.1.2, hmv.2⟩
      · exact h3 hmv.1.1 j (by omega)
    · intro j hj
      simp only
      rw [getD_set (by omega)]
      by_cases hji : i = j
      · rw [if_pos hji, hji]
      · rw [if_neg hji]; exact h6 j (by omega)
  · rintro ⟨s, mv, t, m⟩ ⟨h1, h2, h3, rfl, h5, h6⟩ X
    simp only at h1 h2 h3 h5 h6
    unfold pedagoguelaw19_LossSoft_n0_B
    dsimp only
    rw [if_neg (by simp)]
    rw [List.take_length] at h1
    rw [wrap_i64 (127 - (l.length : Int)) (by omega) (by omega)]
    rw [if_neg (by simp only [Bool.or_eq_true, decide_eq_true_eq]; omega)]
    have fin : (if true = true then pedagoguelaw19_awake (fun r => Q r) else Q false) := by rw [if_pos rfl]; exact awake_v h
    have hm8 : All8 m := by
      intro y hy
      obtain ⟨j, hj, rfl⟩ := List.getElem_of_mem hy
      have := h6 j (by omega)
      rw [List.getD_eq_getElem?_getD, List.getElem?_eq_getElem hj] at this
      simp only [Option.getD_some] at this
      rw [this]
      simp only [IntKind.wrap, IntKind.bits, IntKind.signed]; simp; omega
    cases mv with
    | false => exact fin
    | true =>
      simp only [jn, Bool.not_true, Bool.false_eq_true, if_false]
      refine soft_v hm8 ?_
      have hmm : m = l.map (· + b) := by
        refine list_of (by rw [List.length_map]; exact h5) fun j hj => ?_
        have h7 := h3 rfl j (by omega)
        rw [h6 j (by omega), wrap_i8 _ (by omega) (by omega)]
        rw [List.getD_eq_getElem?_getD, List.getD_eq_getElem?_getD, List.getElem?_map, List.getElem?_eq_getElem (by omega : j < l.length)]; rfl
      refine sints_v (by rw [soft_len m e (by omega)]; omega) (by rw [hmm, soft_moved hl, hp]) fin
end Go.Proofs.Ytpbegbmmhpencaa
