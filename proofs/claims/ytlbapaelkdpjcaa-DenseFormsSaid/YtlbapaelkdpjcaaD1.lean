/- Values of the functions of chapter 10: sums, tensors, matrices. Laws; no condition. -/
import Derived.Test.YtlbapaelkdpjcaaC1
import Derived.Test.YtlbapaelkdpjcaaL5
import Derived.Test.YtlbapaelkdpjcaaVArg
namespace Go.Proofs.Ytlbapaelkdpjcaa
open Go.Mach Go.RowKit
set_option maxRecDepth 100000
set_option linter.unusedVariables false
set_option linter.unusedSimpArgs false

theorem contains8_v {l : List Int} {v : Int} {Q : Bool → Prop} (hl : l.length ≤ 1000000000000) (h : Q (decide (v ∈ l))) : slices_Contains_int8_int8 l v Q := by
  refine Loop.range (B := slices_Index_int8_int8_n26_B l v (l.length : Int) (fun _ => Q (decide ((0 : Int) ≤ -1))) (fun y => Q (decide (0 ≤ y)))) l.length (fun i => (i : Int)) (fun i => ∀ j, j < i → v ≠ l.getD j 0) (fun j hj => absurd hj (by omega)) ?_ ?_
  · intro i hi hI X hX
    unfold slices_Index_int8_int8_n26_B
    rw [if_pos (by simpa using hi)]
    refine ⟨by omega, ?_⟩
    simp only [Int.toNat_natCast]
    have hget : l.getD i 0 = l[i] := by rw [List.getD_eq_getElem?_getD, List.getElem?_eq_getElem hi]; rfl
    by_cases hv : v = l.getD i 0
    · rw [if_pos (by simpa using hv)]
      have : decide (v ∈ l) = true := by
        simp only [decide_eq_true_eq]
        rw [hv, hget]
        exact List.getElem_mem hi
      rw [this] at h
      rw [decide_eq_true (by omega : (0 : Int) ≤ (i : Int))]
      exact h
    · rw [if_neg (by simpa using hv), wrap_i64 _ (by omega) (by omega)]
      refine hX fun j hj => ?_
      by_cases hji : j = i
      · subst hji; exact hv
      · exact hI j (by omega)
  · intro hI X
    unfold slices_Index_int8_int8_n26_B
    rw [if_neg (by simp)]
    have : decide (v ∈ l) = false := by
      simp only [decide_eq_false_iff_not]
      intro hm
      obtain ⟨j, hj, e⟩ := List.getElem_of_mem hm
      apply hI j hj
      rw [List.getD_eq_getElem?_getD, List.getElem?_eq_getElem hj, ← e]; rfl
    rw [this] at h
    exact h

def mayF (a : List Int × Int × List Int) : Bool := ((decide (0 < szF a.1) && ((a.2.2.length : Int) == szF a.1)) && expF a.2.1 64) && !decide (-128 ∈ a.2.2)
theorem mayT_v {a : List Int × Int × List Int} {Q : Bool → Prop} (h : Q (mayF a)) : tensor_May a Q := by
  refine may_v ?_
  have e3 : ∀ v, (v = true → a.2.2.length ≤ 1000000000000) → (Q (v && !decide (-128 ∈ a.2.2))) → jn (fun (v8 : Bool) => Q v8) (fun J9 => if v = true then slices_Contains_int8_int8 a.2.2 (-128) (fun (r10 : Bool) => J9 (!r10)) else J9 false) := by
    intro v hl hv
    cases v with
    | true => exact contains8_v (Q := fun r => Q (!r)) (hl rfl) hv
    | false => exact hv
  have e2 : ∀ v, (v = true → a.2.2.length ≤ 1000000000000) → (Q ((v && expF a.2.1 64) && !decide (-128 ∈ a.2.2))) → jn (fun (v5 : Bool) => jn (fun (v8 : Bool) => Q v8) (fun J9 => if v5 = true then slices_Contains_int8_int8 a.2.2 (-128) (fun (r10 : Bool) => J9 (!r10)) else J9 false)) (fun J6 => if v = true then tensor_exp a.2.1 64 (fun (r7 : Bool) => J6 r7) else J6 false) := by
    intro v hl hv
    cases v with
    | true => exact e3 _ (fun _ => hl rfl) hv
    | false => exact e3 false (fun e => by cases e) hv
  have hle := szF_le a.1
  unfold mayF at h
  cases hb : decide (0 < szF a.1) with
  | true =>
    rw [hb] at h
    refine size_v (Q := fun r4 => jn (fun (v2 : Bool) => jn (fun (v5 : Bool) => jn (fun (v8 : Bool) => Q v8) (fun J9 => if v5 = true then slices_Contains_int8_int8 a.2.2 (-128) (fun (r10 : Bool) => J9 (!r10)) else J9 false)) (fun J6 => if v2 = true then tensor_exp a.2.1 64 (fun (r7 : Bool) => J6 r7) else J6 false)) (fun J3 => J3 ((a.2.2.length : Int) == r4))) (e2 _ (fun e => ?_) h)
    have : (a.2.2.length : Int) = szF a.1 := by simpa using e
    omega
  | false =>
    rw [hb] at h
    exact e2 false (fun e => by cases e) h

theorem mayF_inv {a : List Int × Int × List Int} (h : mayF a = true) : mayAccF a = true ∧ -64 ≤ a.2.1 ∧ a.2.1 ≤ 64 ∧ -128 ∉ a.2.2 := by
  unfold mayF at h
  simp only [Bool.and_eq_true, decide_eq_true_eq, beq_iff_eq, Bool.not_eq_true', decide_eq_false_iff_not] at h
  obtain ⟨⟨⟨h1, h2⟩, h3⟩, h4⟩ := h
  unfold expF at h3
  rw [wrap_i64 (0 - 64) (by omega) (by omega)] at h3
  simp only [Bool.and_eq_true, decide_eq_true_eq] at h3
  refine ⟨?_, by omega, by omega, h4⟩
  unfold mayAccF expF
  rw [wrap_i64 (0 - 128) (by omega) (by omega)]
  simp only [Bool.and_eq_true, decide_eq_true_eq, beq_iff_eq]
  omega


/-! ### Numbers -/
theorem mul_bd (a b A B : Int) (h1 : -A ≤ a) (h2 : a ≤ A) (h3 : 0 ≤ b) (h4 : b ≤ B) (hA : 0 ≤ A) : -(A * B) ≤ a * b ∧ a * b ≤ A * B := by
  have e1 : a * b ≤ A * b := Int.mul_le_mul_of_nonneg_right h2 h3
  have e2 : A * b ≤ A * B := Int.mul_le_mul_of_nonneg_left h4 hA
  have e3 : -A * b ≤ a * b := Int.mul_le_mul_of_nonneg_right h1 h3
  have e4 : -A * b = -(A * b) := Int.neg_mul A b
  omega
theorem mul8 {a b : Int} (h : -128 ≤ a ∧ a ≤ 127) (k : -128 ≤ b ∧ b ≤ 127) : -16384 ≤ a * b ∧ a * b ≤ 16384 := by
  rcases Int.le_total 0 b with hb | hb
  · have := mul_bd a b 128 128 (by omega) (by omega) hb (by omega) (by omega)
    omega
  · have := mul_bd a (-b) 128 128 (by omega) (by omega) (by omega) (by omega) (by omega)
    rw [Int.mul_neg] at this
    omega
/-- A sum of so many numbers. -/
def sumTo (g : Nat → Int) : Nat → Int
  | 0 => 0
  | n + 1 => sumTo g n + g n
theorem sumTo_bd (g : Nat → Int) (B : Int) (n : Nat) (h : ∀ i, i < n → -B ≤ g i ∧ g i ≤ B) : -(B * n) ≤ sumTo g n ∧ sumTo g n ≤ B * n := by
  induction n with
  | zero => simp [sumTo]
  | succ n ih =>
    have h1 := ih fun i hi => h i (by omega)
    have h2 := h n (by omega)
    have e : B * ((n + 1 : Nat) : Int) = B * n + B := by rw [Int.natCast_add, Int.mul_add]; simp
    simp only [sumTo]
    omega
theorem sumTo_congr {f g : Nat → Int} {n : Nat} (h : ∀ i, i < n → f i = g i) : sumTo f n = sumTo g n := by
  induction n with
  | zero => rfl
  | succ n ih => simp only [sumTo]; rw [ih fun i hi => h i (by omega), h n (by omega)]
theorem sumTo_zero {f : Nat → Int} {n : Nat} (h : ∀ i, i < n → f i = 0) : sumTo f n = 0 := by
  induction n with
  | zero => rfl
  | succ n ih => simp only [sumTo]; rw [ih fun i hi => h i (by omega), h n (by omega)]; rfl
/-- Small numbers: eight bits. -/
def All8 (l : List Int) : Prop := ∀ y ∈ l, -128 ≤ y ∧ y ≤ 127
theorem All8.at_ {l : List Int} (h : All8 l) (i : Nat) : -128 ≤ l.getD i 0 ∧ l.getD i 0 ≤ 127 := by
  rw [List.getD_eq_getElem?_getD]
  cases hq : l[i]? with
  | none => simp
  | some y => exact h y (List.mem_of_getElem? hq)
theorem ix {r n i : Nat} (h : r * n + i ≤ 100000000) : IntKind.i64.wrap (IntKind.i64.wrap ((r : Int) * (n : Int)) + (i : Int)) = ((r * n + i : Nat) : Int) := by
  have e : (r : Int) * (n : Int) = ((r * n : Nat) : Int) := by rw [Int.natCast_mul]
  have h1 : r * n ≤ 100000000 := by omega
  rw [e, wrap_i64 ((r * n : Nat) : Int) (by omega) (by omega), wrap_i64 _ (by omega) (by omega), Int.natCast_add]
theorem ix_lt {r R n i : Nat} (h1 : r < R) (h2 : i < n) : r * n + i < R * n := by
  have : (r + 1) * n ≤ R * n := Nat.mul_le_mul_right n h1
  rw [Nat.add_mul, Nat.one_mul] at this
  omega

/-! ### Shapes of two lengths -/
theorem szF2 (r c : Int) (h : 0 < szF [r, c]) : 1 ≤ r ∧ r ≤ 4096 ∧ 1 ≤ c ∧ c ≤ 4096 ∧ r * c ≤ 8192 ∧ szF [r, c] = r * c := by
  have e : szF [r, c] = if ((decide (r < 1) || decide (4096 < r)) || decide (8192 < IntKind.i64.wrap (1 * r))) = true then 0 else if ((decide (c < 1) || decide (4096 < c)) || decide (8192 < IntKind.i64.wrap (IntKind.i64.wrap (1 * r) * c))) = true then 0 else IntKind.i64.wrap (IntKind.i64.wrap (1 * r) * c) := rfl
  rw [e] at h ⊢
  by_cases h1 : ((decide (r < 1) || decide (4096 < r)) || decide (8192 < IntKind.i64.wrap (1 * r))) = true
  · rw [if_pos h1] at h; omega
  · rw [if_neg h1] at h ⊢
    simp only [Bool.or_eq_true, decide_eq_true_eq, not_or] at h1
    rw [Int.one_mul, wrap_i64 r (by omega) (by omega)] at h h1 ⊢
    by_cases h2 : ((decide (c < 1) || decide (4096 < c)) || decide (8192 < IntKind.i64.wrap (r * c))) = true
    · rw [if_pos h2] at h; omega
    · rw [if_neg h2] at h ⊢
      simp only [Bool.or_eq_true, decide_eq_true_eq, not_or] at h2
      have := mul_bd r c 4096 4096 (by omega) (by omega) (by omega) (by omega) (by omega)
      rw [wrap_i64 (r * c) (by omega) (by omega)] at h2 h ⊢
      omega
theorem szF2_of {r c : Int} (h1 : 1 ≤ r) (h2 : r ≤ 4096) (h3 : 1 ≤ c) (h4 : c ≤ 4096) (h5 : r * c ≤ 8192) : szF [r, c] = r * c := by
  have e : szF [r, c] = if ((decide (r < 1) || decide (4096 < r)) || decide (8192 < IntKind.i64.wrap (1 * r))) = true then 0 else if ((decide (c < 1) || decide (4096 < c)) || decide (8192 < IntKind.i64.wrap (IntKind.i64.wrap (1 * r) * c))) = true then 0 else IntKind.i64.wrap (IntKind.i64.wrap (1 * r) * c) := rfl
  have hb := mul_bd r c 4096 4096 (by omega) (by omega) (by omega) (by omega) (by omega)
  rw [e, Int.one_mul, wrap_i64 r (by omega) (by omega), wrap_i64 (r * c) (by omega) (by omega), if_neg (by simp; omega), if_neg (by simp; omega)]
theorem szF1 (c : Int) (h : 0 < szF [c]) : 1 ≤ c ∧ c ≤ 4096 ∧ szF [c] = c := by
  have e : szF [c] = if ((decide (c < 1) || decide (4096 < c)) || decide (8192 < IntKind.i64.wrap (1 * c))) = true then 0 else IntKind.i64.wrap (1 * c) := rfl
  rw [e] at h ⊢
  by_cases h1 : ((decide (c < 1) || decide (4096 < c)) || decide (8192 < IntKind.i64.wrap (1 * c))) = true
  · rw [if_pos h1] at h; omega
  · rw [if_neg h1] at h ⊢
    simp only [Bool.or_eq_true, decide_eq_true_eq, not_or] at h1
    rw [Int.one_mul, wrap_i64 c (by omega) (by omega)]
    omega
theorem szF1_of {c : Int} (h1 : 1 ≤ c) (h2 : c ≤ 4096) : szF [c] = c := by
  have e : szF [c] = if ((decide (c < 1) || decide (4096 < c)) || decide (8192 < IntKind.i64.wrap (1 * c))) = true then 0 else IntKind.i64.wrap (1 * c) := rfl
  rw [e, Int.one_mul, wrap_i64 c (by omega) (by omega), if_neg (by simp; omega)]

/-! ### Row by row -/
def rowsF (R C : Nat) (f : Nat → Nat → Int) : List Int := (List.range R).flatMap fun r => (List.range C).map (f r)
theorem rowsF_succ (R C : Nat) (f : Nat → Nat → Int) : rowsF (R + 1) C f = rowsF R C f ++ (List.range C).map (f R) := by
  unfold rowsF
  rw [List.range_succ, List.flatMap_append]
  simp
theorem rowsF_len (R C : Nat) (f : Nat → Nat → Int) : (rowsF R C f).length = R * C := by
  induction R with
  | zero => simp [rowsF]
  | succ R ih => rw [rowsF_succ, List.length_append, ih]; simp [Nat.add_mul]
theorem rowsF_get {R C : Nat} {f : Nat → Nat → Int} {r c : Nat} (hr : r < R) (hc : c < C) : (rowsF R C f).getD (r * C + c) 0 = f r c := by
  induction R with
  | zero => omega
  | succ R ih =>
    rw [rowsF_succ, List.getD_eq_getElem?_getD]
    have hl := rowsF_len R C f
    by_cases h : r < R
    · have := ix_lt (R := R) h hc
      rw [List.getElem?_append_left (by omega), ← List.getD_eq_getElem?_getD]
      exact ih h
    · have : r = R := by omega
      subst this
      rw [List.getElem?_append_right (by omega), hl, show r * C + c - r * C = c by omega, List.getElem?_map, List.getElem?_range hc]
      rfl
theorem rowsF_congr {R C : Nat} {f g : Nat → Nat → Int} (h : ∀ r, r < R → ∀ c, c < C → f r c = g r c) : rowsF R C f = rowsF R C g := by
  induction R with
  | zero => rfl
  | succ R ih =>
    rw [rowsF_succ, rowsF_succ, ih fun r hr => h r (by omega)]
    congr 1
    exact List.map_congr_left fun c hc => h R (by omega) c (List.mem_range.1 hc)
theorem divmod {p C : Nat} (hC : 0 < C) : p = p / C * C + p % C ∧ p % C < C := ⟨by rw [Nat.mul_comm]; exact (Nat.div_add_mod p C).symm, Nat.mod_lt _ hC⟩
theorem rowsF_ext {R C : Nat} {f : Nat → Nat → Int} {l : List Int} (hl : l.length = R * C) (h : ∀ r, r < R → ∀ c, c < C → l.getD (r * C + c) 0 = f r c) : l = rowsF R C f := by
  refine List.ext_getElem (by rw [hl, rowsF_len]) fun p h1 h2 => ?_
  have hC : 0 < C := by
    rcases Nat.eq_zero_or_pos C with e | e
    · rw [hl, e] at h1; omega
    · exact e
  obtain ⟨e, hm⟩ := divmod (p := p) hC
  have hr : p / C < R := by
    rw [Nat.div_lt_iff_lt_mul hC, ← hl]; exact h1
  have k1 := h _ hr _ hm
  have k2 := rowsF_get (f := f) hr hm
  rw [← e, List.getD_eq_getElem?_getD, List.getElem?_eq_getElem h1] at k1
  rw [← e, List.getD_eq_getElem?_getD, List.getElem?_eq_getElem h2] at k2
  simp only [Option.getD_some] at k1 k2
  rw [k1, k2]

/-! ### May they be, and have so many lengths -/
abbrev T3 := List Int × Int × List Int
def dmayF (n : Int) (l : List T3) : Int := if l.all mayF = true then (if l.all (fun t => (t.1.length : Int) == n) = true then 0 else 2) else 1
theorem all_take {α : Type} {l : List α} {p : α → Bool} {i : Nat} {d : α} (hi : i < l.length) : (l.take (i + 1)).all p = ((l.take i).all p && p (l.getD i d)) := by
  rw [List.take_add_one, List.all_append, List.getD_eq_getElem?_getD, List.getElem?_eq_getElem hi]
  simp
theorem all_at {α : Type} {l : List α} {p : α → Bool} {i : Nat} {d : α} (hi : i < l.length) (h : p (l.getD i d) = false) : l.all p = false := by
  rw [List.all_eq_false]
  refine ⟨l[i], List.getElem_mem hi, ?_⟩
  rw [List.getD_eq_getElem?_getD, List.getElem?_eq_getElem hi] at h
  simp only [Option.getD_some] at h
  rw [h]; simp
theorem dmay_v {n : Int} {l : List T3} {Q : Int → Prop} (hl : l.length ≤ 1000000) (h : Q (dmayF n l)) : dense_may n l Q := by
  refine ⟨?_⟩
  unfold dense_may_t
  refine ⟨?_⟩
  refine Loop.range (B := dense_may_n26_B l (l.length : Int) _ _) l.length (fun i => (i : Int)) (fun i => (l.take i).all mayF = true) rfl ?_ ?_
  · intro i hi hI X hX
    unfold dense_may_n26_B
    rw [if_pos (by simpa using hi)]
    refine ⟨by omega, mayT_v ?_⟩
    simp only [Int.toNat_natCast]
    cases hm : mayF (l.getD i ([], 0, [])) with
    | true =>
      rw [if_neg (by simp [hm])]
      rw [wrap_i64 _ (by omega) (by omega)]
      exact hX (by rw [all_take (d := ([], 0, [])) hi, hI, hm]; rfl)
    | false =>
      rw [if_pos (by simp [hm])]
      unfold dmayF at h
      rw [if_neg (by rw [all_at hi hm]; simp)] at h
      exact h
  · intro hI X
    unfold dense_may_n26_B
    rw [if_neg (by simp)]
    rw [List.take_length] at hI
    unfold dmayF at h
    rw [if_pos hI] at h
    refine ⟨?_⟩
    refine Loop.range (B := dense_may_n58_B n l (l.length : Int) _ _) l.length (fun i => (i : Int)) (fun i => (l.take i).all (fun t => (t.1.length : Int) == n) = true) rfl ?_ ?_
    · intro i hi hJ X hX
      unfold dense_may_n58_B
      rw [if_pos (by simpa using hi)]
      refine ⟨by omega, ?_⟩
      simp only [Int.toNat_natCast]
      cases hm : (((l.getD i ([], 0, [])).1.length : Int) == n) with
      | true =>
        rw [if_neg (by unfold bne; rw [hm]; simp)]
        rw [wrap_i64 _ (by omega) (by omega)]
        exact hX (by rw [all_take (d := ([], 0, [])) hi, hJ, hm]; rfl)
      | false =>
        rw [if_pos (by unfold bne; rw [hm]; rfl)]
        rw [if_neg (by rw [all_at (d := ([], 0, [])) hi hm]; simp)] at h
        exact h
    · intro hJ X
      unfold dense_may_n58_B
      rw [if_neg (by simp)]
      rw [List.take_length] at hJ
      rw [if_pos hJ] at h
      exact h

/-! ### A number at another exponent -/
def alF (a b c : Int) : Int :=
  let r1 := valF a
  let by_ := greater (-1000) (smaller b 1000) - greater (-1000) (smaller c 1000)
  if by_ < 0 then r1.fdiv (2 ^ (smaller (0 - by_) 62).toNat)
  else if 20 < by_ then (if 0 < r1 then 1048576 else if r1 < 0 then -1048576 else 0)
  else greater (-1048576) (smaller (greater (-1048576) (smaller r1 1048576) * 2 ^ by_.toNat) 1048576)
theorem gs_rng (a lo hi : Int) (h : lo ≤ hi) : lo ≤ greater lo (smaller a hi) ∧ greater lo (smaller a hi) ≤ hi := by
  unfold greater smaller
  split <;> split <;> omega
theorem pow2_le (a b : Nat) (h : a ≤ b) : (1 : Int) ≤ 2 ^ a ∧ (2 : Int) ^ a ≤ 2 ^ b := by
  have h1 : (2 : Nat) ^ a ≤ 2 ^ b := Nat.pow_le_pow_right (by omega) h
  have h2 : 0 < (2 : Nat) ^ a := Nat.pow_pos (by omega)
  have e : ∀ n : Nat, ((2 ^ n : Nat) : Int) = 2 ^ n := fun n => by rw [Int.natCast_pow]; rfl
  rw [← e, ← e]
  omega
theorem fdiv_rng {a L U p : Int} (hp : 1 ≤ p) (hL : L ≤ 0) (hU : 0 ≤ U) (h1 : L ≤ a) (h2 : a ≤ U) : L ≤ a.fdiv p ∧ a.fdiv p ≤ U := by
  rw [Int.fdiv_eq_ediv_of_nonneg _ (by omega)]
  constructor
  · rw [Int.le_ediv_iff_mul_le (by omega)]
    have : L * p ≤ L * 1 := Int.mul_le_mul_of_nonpos_left hL hp
    omega
  · have := Int.ediv_le_ediv (c := p) (by omega) h2
    have := Int.ediv_le_self (a := U) p hU
    omega
theorem alF_rng {a b c : Int} (h : -128 ≤ a ∧ a ≤ 127) : -1048576 ≤ alF a b c ∧ alF a b c ≤ 1048576 := by
  unfold alF
  rw [valF_id (by omega) (by omega)]
  simp only
  generalize greater (-1000) (smaller b 1000) - greater (-1000) (smaller c 1000) = y
  split
  · have := fdiv_rng (p := 2 ^ (smaller (0 - y) 62).toNat) (pow2_le _ _ (Nat.le_refl _)).1 (by omega) (by omega) h.1 h.2
    omega
  · split
    · split
      · omega
      · split <;> omega
    · exact gs_rng _ _ _ (by omega)
theorem al_v {a b c : Int} {Q : Int → Prop} (h : Q (alF a b c)) : round_Align a b c Q := by
  unfold round_Align
  refine val_v ?_
  show (if (decide (IntKind.i64.wrap (greater (-1000) (smaller b 1000) - greater (-1000) (smaller c 1000)) < 0)) = true then _ else _)
  unfold alF at h
  simp only at h
  have hb := gs_rng b (-1000) 1000 (by omega)
  have hc := gs_rng c (-1000) 1000 (by omega)
  generalize greater (-1000) (smaller b 1000) = x at *
  generalize greater (-1000) (smaller c 1000) = y at *
  rw [wrap_i64 (x - y) (by omega) (by omega)]
  by_cases h1 : x - y < 0
  · rw [if_pos h1] at h
    rw [if_pos (by simpa using h1), wrap_i64 (0 - (x - y)) (by omega) (by omega)]
    have hs : 0 ≤ smaller (0 - (x - y)) 62 ∧ smaller (0 - (x - y)) 62 ≤ 62 := by unfold smaller; split <;> omega
    refine ⟨hs.1, ?_⟩
    rw [show min (smaller (0 - (x - y)) 62).toNat (IntKind.i64).bits = (smaller (0 - (x - y)) 62).toNat from Nat.min_eq_left (by show _ ≤ 64; omega)]
    exact h
  · rw [if_neg h1] at h
    rw [if_neg (by simpa using h1)]
    by_cases h2 : 20 < x - y
    · rw [if_pos h2] at h
      by_cases h3 : 0 < valF a
      · rw [if_pos h3] at h
        rw [if_pos (by simp [h2, h3])]
        exact h
      · rw [if_neg h3] at h
        rw [if_neg (by simp; omega)]
        by_cases h4 : valF a < 0
        · rw [if_pos h4] at h
          rw [if_pos (by simp [h2, h4])]
          exact h
        · rw [if_neg h4] at h
          rw [if_neg (by simp; omega), if_pos (by simp [h2])]
          exact h
    · rw [if_neg h2] at h
      rw [if_neg (by simp; omega), if_neg (by simp; omega), if_neg (by simp; omega)]
      refine ⟨by omega, ?_⟩
      have hm := gs_rng (valF a) (-1048576) 1048576 (by omega)
      have hp := pow2_le (x - y).toNat 20 (by omega)
      have := mul_bd (greater (-1048576) (smaller (valF a) 1048576)) (2 ^ (x - y).toNat) 1048576 1048576 hm.1 hm.2 (by omega) hp.2 (by omega)
      rw [show min (x - y).toNat (IntKind.i64).bits = (x - y).toNat from Nat.min_eq_left (by show _ ≤ 64; omega)]
      rw [wrap_i64 _ (by omega) (by omega)]
      exact h
theorem alF_same {a e : Int} (h : -128 ≤ a ∧ a ≤ 127) : alF a e e = a := by
  unfold alF
  simp only
  rw [Int.sub_self, if_neg (by omega), if_neg (by omega), valF_id (by omega) (by omega)]
  unfold greater smaller
  simp
  split <;> split <;> omega

def fitsF (n : Int) : Bool := (decide (0 ≤ n) && decide (n ≤ 1023)) && decide (n * 16384 + 1048576 < 16777216)
theorem fits_v {n : Int} {Q : Bool → Prop} (h : Q (fitsF n)) : dense_Fits n Q := by
  refine ⟨?_⟩
  unfold dense_Fits_t
  unfold fitsF at h
  by_cases h1 : 0 ≤ n ∧ n ≤ 1023
  · rw [wrap_i64 (n * 16384) (by omega) (by omega), wrap_i64 _ (by omega) (by omega)]
    exact h
  · have e : (decide (0 ≤ n) && decide (n ≤ 1023)) = false := by simp; omega
    rw [e] at h ⊢
    exact h
theorem fitsF_le {n : Int} (h : fitsF n = true) : 0 ≤ n ∧ n ≤ 959 := by
  unfold fitsF at h
  simp only [Bool.and_eq_true, decide_eq_true_eq] at h
  omega

end Go.Proofs.Ytlbapaelkdpjcaa
