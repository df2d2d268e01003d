/- loss.Soft: what its text comes to, and what is to be said of it. Laws; no condition. -/
import Derived.Test.YtpbegbmmhpencaaGV
namespace Go.Proofs.Ytpbegbmmhpencaa
open Go.Mach Go.RowKit
set_option maxRecDepth 100000
set_option linter.unusedVariables false
set_option linter.unusedSimpArgs false

/-! ### How far below -/
def belowF (n e : Int) : Int :=
  if n = 0 then 0 else if 4 ≤ e then 15 else if 0 ≤ e then min 15 (n * 2 ^ e.toNat) else min 15 (n / 2 ^ (min (-e).toNat 62))

theorem smaller_eq (a b : Int) : smaller a b = min a b := by
  unfold smaller; split <;> omega
theorem greater_eq (a b : Int) : greater a b = max a b := by
  unfold greater; split <;> omega
theorem pow_pos2 (k : Nat) : (1 : Int) ≤ 2 ^ k := by
  have : 0 < (2 : Int) ^ k := Int.pow_pos (by omega)
  omega

theorem below_v {n e : Int} {Q : Int → Prop} (hn : 0 ≤ n ∧ n ≤ 255) (he : -64 ≤ e ∧ e ≤ 64) (h : Q (belowF n e)) : loss_below n e Q := by
  refine ⟨?_⟩
  unfold loss_below_t
  unfold belowF at h
  by_cases h0 : n = 0
  · rw [if_pos h0] at h
    rw [if_pos (by simpa using h0)]; exact h
  · rw [if_neg h0] at h
    rw [if_neg (by simpa using h0)]
    by_cases h4 : 4 ≤ e
    · rw [if_pos h4] at h
      rw [if_pos (by simpa using h4)]; exact h
    · rw [if_neg h4] at h
      rw [if_neg (by simpa using h4)]
      by_cases hp : 0 ≤ e
      · rw [if_pos hp] at h
        rw [if_pos (by simpa using hp)]
        refine ⟨hp, ?_⟩
        have hc : e = 0 ∨ e = 1 ∨ e = 2 ∨ e = 3 := by omega
        have e64 : IntKind.i64.bits = 64 := rfl
        have key : smaller 15 (IntKind.i64.wrap (n * 2 ^ min e.toNat IntKind.i64.bits)) = min 15 (n * 2 ^ e.toNat) := by
          rw [smaller_eq, e64]
          rcases hc with rfl | rfl | rfl | rfl
          · show min 15 (IntKind.i64.wrap (n * 2 ^ 0)) = min 15 (n * 2 ^ 0)
            rw [wrap_i64 _ (by omega) (by omega)]
          · show min 15 (IntKind.i64.wrap (n * 2 ^ 1)) = min 15 (n * 2 ^ 1)
            rw [wrap_i64 _ (by omega) (by omega)]
          · show min 15 (IntKind.i64.wrap (n * 2 ^ 2)) = min 15 (n * 2 ^ 2)
            rw [wrap_i64 _ (by omega) (by omega)]
          · show min 15 (IntKind.i64.wrap (n * 2 ^ 3)) = min 15 (n * 2 ^ 3)
            rw [wrap_i64 _ (by omega) (by omega)]
        rw [key]; exact h
      · rw [if_neg hp] at h
        rw [if_neg (by simpa using hp)]
        have e64 : IntKind.i64.bits = 64 := rfl
        have hw : IntKind.i64.wrap (0 - e) = -e := by rw [wrap_i64 _ (by omega) (by omega)]; omega
        rw [hw, smaller_eq]
        refine ⟨by omega, ?_⟩
        have hm : min (min (-e) 62).toNat IntKind.i64.bits = min (-e).toNat 62 := by rw [e64]; omega
        rw [hm, smaller_eq, Int.fdiv_eq_ediv_of_nonneg _ (by have := pow_pos2 (min (-e).toNat 62); omega)]
        exact h

theorem below_rng {n e : Int} (hn : 0 ≤ n) : 0 ≤ belowF n e ∧ belowF n e ≤ 15 := by
  unfold belowF
  split
  · omega
  · split
    · omega
    · split
      · have := Int.mul_nonneg hn (show (0 : Int) ≤ 2 ^ e.toNat by have := pow_pos2 e.toNat; omega)
        omega
      · have := Int.ediv_nonneg hn (show (0 : Int) ≤ 2 ^ min (-e).toNat 62 by have := pow_pos2 (min (-e).toNat 62); omega)
        omega
theorem below_zero (e : Int) : belowF 0 e = 0 := by unfold belowF; rw [if_pos rfl]
theorem below_mono {n m e : Int} (hn : 0 ≤ n) (h : n ≤ m) : belowF n e ≤ belowF m e := by
  by_cases h0 : n = 0
  · subst h0; rw [below_zero]; exact (below_rng h).1
  · have hm : m ≠ 0 := by omega
    unfold belowF
    rw [if_neg h0, if_neg hm]
    split
    · omega
    · split
      · have := Int.mul_le_mul_of_nonneg_right h (show (0 : Int) ≤ 2 ^ e.toNat by have := pow_pos2 e.toNat; omega)
        omega
      · have := Int.ediv_le_ediv (show (0 : Int) < 2 ^ min (-e).toNat 62 by have := pow_pos2 (min (-e).toNat 62); omega) h
        omega
theorem pow_step (k : Nat) : (2 : Int) ^ (k + 1) = 2 ^ k + 2 ^ k := by rw [Int.pow_succ]; omega
/-- With a greater exponent it is no less far below. -/
theorem below_exp {n e : Int} (hn : 0 ≤ n) : belowF n e ≤ belowF n (e + 1) := by
  by_cases h0 : n = 0
  · subst h0; rw [below_zero, below_zero]; omega
  · have hr := (below_rng (n := n) (e := e) hn).2
    by_cases h4 : 3 ≤ e
    · have : belowF n (e + 1) = 15 := by unfold belowF; rw [if_neg h0, if_pos (by omega)]
      omega
    · unfold belowF
      rw [if_neg h0, if_neg h0, if_neg (show ¬ 4 ≤ e by omega), if_neg (show ¬ 4 ≤ e + 1 by omega)]
      by_cases hp : 0 ≤ e
      · rw [if_pos hp, if_pos (show 0 ≤ e + 1 by omega)]
        have ht : (e + 1).toNat = e.toNat + 1 := by omega
        rw [ht, pow_step, Int.mul_add]
        have := Int.mul_nonneg hn (show (0 : Int) ≤ 2 ^ e.toNat by have := pow_pos2 e.toNat; omega)
        omega
      · rw [if_neg hp]
        by_cases hm1 : e = -1
        · subst hm1
          rw [if_pos (show (0 : Int) ≤ -1 + 1 by omega)]
          have : n / 2 ^ min (- (-1 : Int)).toNat 62 ≤ n := Int.ediv_le_self _ hn
          have h2 : n * 2 ^ ((-1 : Int) + 1).toNat = n := by simp
          rw [h2]
          omega
        · rw [if_neg (show ¬ 0 ≤ e + 1 by omega)]
          have hle : min (-(e + 1)).toNat 62 ≤ min (-e).toNat 62 := by omega
          obtain ⟨d, hd⟩ := Nat.exists_eq_add_of_le hle
          rw [hd, Int.pow_add, ← Int.ediv_ediv_of_nonneg (by have := pow_pos2 (min (-(e + 1)).toNat 62); omega)]
          have : n / 2 ^ min (-(e + 1)).toNat 62 / 2 ^ d ≤ n / 2 ^ min (-(e + 1)).toNat 62 := Int.ediv_le_self _ (Int.ediv_nonneg hn (by have := pow_pos2 (min (-(e + 1)).toNat 62); omega))
          omega

/-! ### The greatest -/
def maxF : List Int → Int
  | [] => 0
  | [x] => x
  | x :: y :: r => max x (maxF (y :: r))
theorem maxF_mem : ∀ {l : List Int}, l ≠ [] → maxF l ∈ l
  | [], h => absurd rfl h
  | [x], _ => by simp [maxF]
  | x :: y :: r, _ => by
    have ih := maxF_mem (l := y :: r) (by simp)
    unfold maxF
    rcases Int.le_total x (maxF (y :: r)) with h | h
    · rw [Int.max_eq_right h]; exact List.mem_cons_of_mem _ ih
    · rw [Int.max_eq_left h]; exact List.mem_cons_self
theorem maxF_ge : ∀ {l : List Int} {x : Int}, x ∈ l → x ≤ maxF l
  | [x], z, h => by simp at h; subst h; simp [maxF]
  | x :: y :: r, z, h => by
    unfold maxF
    rcases List.mem_cons.1 h with rfl | h
    · omega
    · have := maxF_ge (l := y :: r) h; omega
theorem maxF_eq {l : List Int} {m : Int} (h1 : m ∈ l) (h2 : ∀ x ∈ l, x ≤ m) : m = maxF l := by
  have := maxF_ge h1
  have := h2 _ (maxF_mem (l := l) (fun e => by rw [e] at h1; cases h1))
  omega

theorem max_v {l : List Int} {Q : Int → Prop} (hl : l ≠ []) (hlen : l.length ≤ 1000000) (h : Q (maxF l)) : slices_Max_int8_int8 l Q := by
  have hp : 0 < l.length := List.length_pos_iff.2 hl
  refine ⟨?_⟩
  unfold slices_Max_int8_int8_t
  rw [if_neg (by simp; omega)]
  refine ⟨?_⟩
  unfold slices_Max_int8_int8_n0_t
  refine ⟨by omega, ?_⟩
  refine ⟨Loop.rangeI (l.length - 1) (fun i s => s.2 = ((i + 1 : Nat) : Int) ∧ (∃ j, j < i + 1 ∧ s.1 = l.getD j 0) ∧ ∀ j, j < i + 1 → l.getD j 0 ≤ s.1) ⟨rfl, ⟨0, by omega, rfl⟩, fun j hj => by rw [show j = 0 by omega]; exact Int.le_refl _⟩ ?_ ?_⟩
  · rintro i hi ⟨b, t⟩ ⟨rfl, ⟨j, hj, hb⟩, hub⟩ X hX
    simp only at hb hub
    unfold slices_Max_int8_int8_n1_B
    dsimp only
    rw [if_pos (by simp; omega)]
    refine ⟨⟨by omega, by omega⟩, hX _ ⟨?_, ?_, ?_⟩⟩
    · show IntKind.i64.wrap (((i + 1 : Nat) : Int) + 1) = _
      rw [wrap_i64 _ (by omega) (by omega)]; omega
    · show ∃ j, j < i + 1 + 1 ∧ greater b (l.getD ((i + 1 : Nat) : Int).toNat 0) = l.getD j 0
      rw [Int.toNat_natCast, greater_eq]
      rcases Int.le_total b (l.getD (i + 1) 0) with h | h
      · exact ⟨i + 1, by omega, Int.max_eq_right h⟩
      · exact ⟨j, by omega, by rw [Int.max_eq_left h]; exact hb⟩
    · intro k hk
      show _ ≤ greater b (l.getD ((i + 1 : Nat) : Int).toNat 0)
      rw [Int.toNat_natCast, greater_eq]
      by_cases hk2 : k < i + 1
      · have := hub k hk2; omega
      · rw [show k = i + 1 by omega]; omega
  · rintro ⟨b, t⟩ ⟨rfl, ⟨j, hj, hb⟩, hub⟩ X
    simp only at hb hub
    unfold slices_Max_int8_int8_n1_B
    dsimp only
    rw [if_neg (by simp; omega)]
    have : b = maxF l := maxF_eq (by rw [hb]; exact getD_mem (by omega)) (fun x hx => by
      obtain ⟨k, hk, rfl⟩ := List.getElem_of_mem hx
      have := hub k (by omega)
      rwa [List.getD_eq_getElem?_getD, List.getElem?_eq_getElem hk] at this)
    rw [this]; exact h

/-! ### The parts -/
def partF (e m x : Int) : Nat := 2 ^ (15 - (belowF (m - x) e).toNat)
def allF (e m : Int) (l : List Int) : Nat := (l.map (partF e m)).sum
def clampF (e : Int) : Int := greater (-64) (smaller e 64)
def softF (l : List Int) (e : Int) : List Int :=
  if l.length < 1 ∨ 10 < l.length then [] else l.map fun x => ((partF (clampF e) (maxF l) x * 127 / allF (clampF e) (maxF l) l : Nat) : Int)

theorem clamp_rng (e : Int) : -64 ≤ clampF e ∧ clampF e ≤ 64 := by unfold clampF; rw [greater_eq, smaller_eq]; omega
theorem pw16 : ∀ k : Fin 16, IntKind.i64.wrap (1 * 2 ^ min (IntKind.i64.wrap (15 - ((k.1 : Nat) : Int))).toNat IntKind.i64.bits) = ((2 ^ (15 - k.1) : Nat) : Int) := by decide
theorem pw {r : Int} (h : 0 ≤ r ∧ r ≤ 15) : IntKind.i64.wrap (1 * 2 ^ min (IntKind.i64.wrap (15 - r)).toNat IntKind.i64.bits) = ((2 ^ (15 - r.toNat) : Nat) : Int) := by
  obtain ⟨k, rfl⟩ := Int.eq_ofNat_of_zero_le h.1
  exact pw16 ⟨k, by omega⟩
theorem part_rng (e m x : Int) : 1 ≤ partF e m x ∧ partF e m x ≤ 32768 := by
  unfold partF
  have h1 : 0 < 2 ^ (15 - (belowF (m - x) e).toNat) := Nat.pow_pos (by omega)
  have h2 : 2 ^ (15 - (belowF (m - x) e).toNat) ≤ 2 ^ 15 := Nat.pow_le_pow_right (by omega) (by omega)
  omega
theorem sum_le (f : Int → Nat) (B : Nat) (hf : ∀ x, f x ≤ B) : ∀ l : List Int, (l.map f).sum ≤ l.length * B
  | [] => by simp
  | x :: l => by
    have := sum_le f B hf l
    have := hf x
    simp only [List.map_cons, List.sum_cons, List.length_cons, Nat.add_mul]; omega
theorem sum_ge (f : Int → Nat) (B : Nat) (hf : ∀ x, B ≤ f x) : ∀ l : List Int, l.length * B ≤ (l.map f).sum
  | [] => by simp
  | x :: l => by
    have := sum_ge f B hf l
    have := hf x
    simp only [List.map_cons, List.sum_cons, List.length_cons, Nat.add_mul]; omega
theorem take_snoc {l : List Int} {i : Nat} (h : i < l.length) : l.take (i + 1) = l.take i ++ [l.getD i 0] := by
  rw [List.take_add_one, List.getD_eq_getElem?_getD, List.getElem?_eq_getElem h]; rfl
theorem set_next {ps : List Int} {g : Int → Int} {i : Nat} (h : i < ps.length) :
    ((ps.take i).map g ++ ps.drop i).set i (g (ps.getD i 0)) = (ps.take (i + 1)).map g ++ ps.drop (i + 1) := by
  have hl : ((ps.take i).map g).length = i := by simp; omega
  rw [take_snoc h, List.map_append, List.append_assoc, List.drop_eq_getElem_cons h, List.set_append_right _ _ (by omega), hl, Nat.sub_self, List.set_cons_zero]
  rfl
theorem get_next {ps : List Int} {g : Int → Int} {i : Nat} (h : i < ps.length) : ((ps.take i).map g ++ ps.drop i).getD i 0 = ps.getD i 0 := by
  have hl : ((ps.take i).map g).length = i := by simp; omega
  rw [List.getD_eq_getElem?_getD, List.getElem?_append_right (by omega), hl, Nat.sub_self, List.getElem?_drop, Nat.add_zero, ← List.getD_eq_getElem?_getD]

theorem soft_v {l : List Int} {e : Int} {Q : List Int → Prop} (h8 : All8 l) (h : Q (softF l e)) : loss_Soft l e Q := by
  refine ⟨?_⟩
  unfold loss_Soft_t
  unfold softF at h
  by_cases hc : l.length < 1 ∨ 10 < l.length
  · rw [if_pos hc] at h
    rw [if_pos (by simp; omega)]; exact h
  rw [if_neg hc] at h
  rw [if_neg (by simp; omega)]
  have hne : l ≠ [] := fun e => by subst e; simp at hc
  have hm := h8 _ (maxF_mem hne)
  refine max_v hne (by omega) ?_
  have hce := clamp_rng e
  rw [show greater (-64) (smaller e 64) = clampF e from rfl, wrap_i64 (maxF l) (by omega) (by omega)]
  generalize clampF e = c at *
  generalize hmx : maxF l = m at *
  refine ⟨Loop.range (B := loss_Soft_n0_B c m l (l.length : Int) _) (f := fun i : Nat => (((((l.take i).map (partF c m)).sum : Nat) : Int), (i : Int), (l.take i).map fun x => ((partF c m x : Nat) : Int))) l.length (fun _ => True) trivial ?_ ?_⟩
  · intro i hi _ X hX
    unfold loss_Soft_n0_B
    dsimp only
    rw [if_pos (by simp; omega)]
    refine ⟨⟨by omega, by omega⟩, ?_⟩
    rw [Int.toNat_natCast]
    have hx := h8.at_ i
    have hxm : l.getD i 0 ≤ m := by rw [← hmx]; exact maxF_ge (getD_mem hi)
    rw [wrap_i64 (l.getD i 0) (by omega) (by omega), wrap_i64 (m - l.getD i 0) (by omega) (by omega)]
    refine below_v (by omega) hce ?_
    have hb := below_rng (n := m - l.getD i 0) (e := c) (by omega)
    rw [pw hb]
    refine ⟨by rw [wrap_i64 _ (by omega) (by omega)]; omega, by simp; omega, ?_⟩
    have hs := sum_le (partF c m) 32768 (fun x => (part_rng c m x).2) (l.take i)
    have hp := part_rng c m (l.getD i 0)
    have hlt : (l.take i).length = i := by simp; omega
    rw [hlt] at hs
    have hX' := hX trivial
    rw [take_snoc hi, List.map_append, List.map_append, List.sum_append] at hX'
    rw [show (2 ^ (15 - (belowF (m - l.getD i 0) c).toNat) : Nat) = partF c m (l.getD i 0) from rfl, wrap_i64 _ (by omega) (by omega), wrap_i64 _ (by omega) (by omega)]
    simpa using hX'
  · intro _ X
    unfold loss_Soft_n0_B
    dsimp only
    rw [if_neg (by simp), List.take_length]
    have hs := sum_le (partF c m) 32768 (fun x => (part_rng c m x).2) l
    have hg := sum_ge (partF c m) 1 (fun x => (part_rng c m x).1) l
    obtain ⟨all, hall⟩ : ∃ all, (l.map (partF c m)).sum = all := ⟨_, rfl⟩
    unfold allF at h
    rw [hall] at hs hg h ⊢
    obtain ⟨ps, hps⟩ : ∃ ps, (l.map fun x => ((partF c m x : Nat) : Int)) = ps := ⟨_, rfl⟩
    rw [hps]
    have hpl : ps.length = l.length := by rw [← hps]; simp
    have hpr : ∀ i, 0 ≤ ps.getD i 0 ∧ ps.getD i 0 ≤ 32768 := by
      intro i
      rw [List.getD_eq_getElem?_getD, ← hps, List.getElem?_map]
      cases hq : l[i]? with
      | none => simp
      | some y => have := part_rng c m y; simp; omega
    refine ⟨Loop.range (B := loss_Soft_n1_B (all : Int) (ps.length : Int) _) (f := fun i : Nat => ((i : Int), (ps.take i).map (fun p => (p * 127).tdiv (all : Int)) ++ ps.drop i)) ps.length (fun _ => True) trivial ?_ ?_⟩
    · intro i hi _ X hX
      unfold loss_Soft_n1_B
      dsimp only
      have hlen : ((ps.take i).map (fun p => (p * 127).tdiv (all : Int)) ++ ps.drop i).length = ps.length := by simp; omega
      rw [if_pos (by simp; omega), hlen, Int.toNat_natCast, get_next hi]
      refine ⟨⟨by omega, by omega⟩, by omega, ⟨by omega, by omega⟩, ?_⟩
      have hp := hpr i
      have hd1 : 0 ≤ (ps.getD i 0 * 127).tdiv (all : Int) := Int.tdiv_nonneg (by omega) (by omega)
      have hd2 : (ps.getD i 0 * 127).tdiv (all : Int) ≤ ps.getD i 0 * 127 := Int.tdiv_le_self _ (by omega)
      rw [wrap_i64 (ps.getD i 0 * 127) (by omega) (by omega), wrap_i64 ((ps.getD i 0 * 127).tdiv (all : Int)) (by omega) (by omega), wrap_i64 ((i : Int) + 1) (by omega) (by omega)]
      have hX' := hX trivial
      rw [← set_next hi] at hX'
      simpa using hX'
    · intro _ X
      unfold loss_Soft_n1_B
      dsimp only
      rw [if_neg (by simp), List.take_length, List.drop_length, List.append_nil]
      have e3 : ps.map (fun p => (p * 127).tdiv (all : Int)) = l.map fun x => ((partF c m x * 127 / all : Nat) : Int) := by
        rw [← hps, List.map_map]
        refine List.map_congr_left fun x _ => ?_
        have : (((partF c m x : Nat) : Int) * 127).tdiv (all : Int) = ((partF c m x * 127 / all : Nat) : Int) := by
          rw [Int.tdiv_eq_ediv_of_nonneg (by omega)]
          push_cast
          rfl
        exact this
      rw [e3]; exact h
end Go.Proofs.Ytpbegbmmhpencaa
