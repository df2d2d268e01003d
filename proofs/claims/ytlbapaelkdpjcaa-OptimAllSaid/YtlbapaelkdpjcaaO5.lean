/- What the reference's rounding, chance and small sums come to; its step is the program's: OptimSteps, plainly. No condition. -/
import Derived.Test.YtlbapaelkdpjcaaO3
import Derived.Test.YtlbapaelkdpjcaaN9
namespace Go.Proofs.Ytlbapaelkdpjcaa
open Go.Mach Go.RowKit
set_option maxRecDepth 100000
set_option linter.unusedVariables false
set_option linter.unusedSimpArgs false

/-! ### How many places a number has -/
def IsLen (x : Int) (k : Nat) : Prop := x < 2 ^ k ∧ 2 ^ k ≤ 2 * x + 1
theorem IsLen.half {x : Int} {k : Nat} (h0 : 0 < x) (h : IsLen (x / 2) k) : IsLen x (k + 1) := by
  obtain ⟨h1, h2⟩ := h
  unfold IsLen
  rw [Int.pow_succ]
  cases k with
  | zero => rw [Int.pow_zero] at *; omega
  | succ m =>
    rw [Int.pow_succ] at *
    generalize (2 : Int) ^ m = P at *
    omega
theorem IsLen.up {x c : Int} {j k : Nat} (hc : (2 : Int) ^ j = c) (hcp : 0 < c) (hx : c ≤ x) (h : IsLen (x / c) k) : IsLen x (j + k) := by
  have e := Int.mul_ediv_add_emod x c
  have r0 := Int.emod_nonneg x (show c ≠ 0 by omega)
  have r1 := Int.emod_lt_of_pos x hcp
  have hq : 1 ≤ x / c := (Int.le_ediv_iff_mul_le hcp).2 (by omega)
  unfold IsLen at h ⊢
  rw [Int.pow_add, hc]
  generalize x / c = q at *
  generalize x % c = r at *
  cases k with
  | zero => rw [Int.pow_zero] at h; omega
  | succ m =>
    rw [Int.pow_succ] at h ⊢
    generalize (2 : Int) ^ m = P at *
    have k1 : c * (q + 1) ≤ c * (P * 2) := Int.mul_le_mul_of_nonneg_left (by omega) (by omega)
    have k2 : c * (P * 2) ≤ c * (q * 2) := Int.mul_le_mul_of_nonneg_left (by omega) (by omega)
    rw [Int.mul_add, Int.mul_one] at k1
    rw [← Int.mul_assoc c q 2] at k2
    omega
theorem tab_is : ∀ i : Fin 256, i.1 < 2 ^ (sc_14a5d850.data.toList.getD i.1 0).toNat ∧ 2 ^ (sc_14a5d850.data.toList.getD i.1 0).toNat ≤ 2 * i.1 + 1 := by decide +kernel
theorem l31_is {x n : Int} (h0 : 0 ≤ x) (h : x < 256) (hn : 0 ≤ n) (hm : n ≤ 56) : ∃ k : Nat, l31 x n = n + k ∧ k ≤ 8 ∧ IsLen x k := by
  have ht := tab_le ⟨x.toNat, by omega⟩
  have hl := tab_is ⟨x.toNat, by omega⟩
  simp only at ht hl
  unfold l31
  rw [wrap_u8 x (by omega) (by omega)]
  generalize (sc_14a5d850.data.toList.getD x.toNat 0).toNat = m at ht hl ⊢
  refine ⟨m, ?_, ht, ?_⟩
  · rw [wrap_i64 (m : Int) (by omega) (by omega), wrap_i64 _ (by omega) (by omega)]
  · have e : ((2 ^ m : Nat) : Int) = 2 ^ m := by rw [Int.natCast_pow]; rfl
    unfold IsLen
    rw [← e]
    omega
theorem l15_is {x n : Int} (h0 : 0 ≤ x) (h : x < 65536) (hn : 0 ≤ n) (hm : n ≤ 48) : ∃ k : Nat, l15 x n = n + k ∧ k ≤ 16 ∧ IsLen x k := by
  have e : (2 : Int) ^ (min ((8 : Int)).toNat (IntKind.u64).bits) = 256 := by decide +kernel
  unfold l15
  rw [e]
  split
  · rw [wrap_i64 _ (by omega) (by omega), Int.fdiv_eq_ediv_of_nonneg _ (by omega)]
    obtain ⟨k, h1, h2, h3⟩ := l31_is (x := x / 256) (n := n + 8) (by omega) (by omega) (by omega) (by omega)
    exact ⟨8 + k, by rw [h1]; omega, by omega, h3.up (c := 256) (by decide) (by omega) (by omega)⟩
  · obtain ⟨k, h1, h2, h3⟩ := l31_is (x := x) (n := n) (by omega) (by omega) (by omega) (by omega)
    exact ⟨k, h1, by omega, h3⟩
theorem l7_is {x n : Int} (h0 : 0 ≤ x) (h : x < 4294967296) (hn : 0 ≤ n) (hm : n ≤ 32) : ∃ k : Nat, l7 x n = n + k ∧ k ≤ 32 ∧ IsLen x k := by
  have e : (2 : Int) ^ (min ((16 : Int)).toNat (IntKind.u64).bits) = 65536 := by decide +kernel
  unfold l7
  rw [e]
  split
  · rw [wrap_i64 _ (by omega) (by omega), Int.fdiv_eq_ediv_of_nonneg _ (by omega)]
    obtain ⟨k, h1, h2, h3⟩ := l15_is (x := x / 65536) (n := n + 16) (by omega) (by omega) (by omega) (by omega)
    exact ⟨16 + k, by rw [h1]; omega, by omega, h3.up (c := 65536) (by decide) (by omega) (by omega)⟩
  · obtain ⟨k, h1, h2, h3⟩ := l15_is (x := x) (n := n) (by omega) (by omega) (by omega) (by omega)
    exact ⟨k, h1, by omega, h3⟩
theorem lenF_is {x : Int} (h0 : 0 ≤ x) (h : x ≤ 4611686018427387904) : ∃ k : Nat, lenF x = k ∧ k ≤ 64 ∧ IsLen x k := by
  have e : (2 : Int) ^ (min ((32 : Int)).toNat (IntKind.u64).bits) = 4294967296 := by decide +kernel
  unfold lenF
  rw [e]
  split
  · rw [Int.fdiv_eq_ediv_of_nonneg _ (by omega)]
    obtain ⟨k, h1, h2, h3⟩ := l7_is (x := x / 4294967296) (n := 32) (by omega) (by omega) (by omega) (by omega)
    exact ⟨32 + k, by rw [h1]; omega, by omega, h3.up (c := 4294967296) (by decide) (by omega) (by omega)⟩
  · obtain ⟨k, h1, h2, h3⟩ := l7_is (x := x) (n := 0) (by omega) (by omega) (by omega) (by omega)
    exact ⟨k, by rw [h1]; omega, by omega, h3⟩

/-! ### Rounding -/
theorem rtaken_v {a s : Int} {Q : Int × Int → Prop} (h : Q (valF a, shF s)) : pedagogueref1_taken a s Q := by
  have hr := shF_rng s
  refine ⟨⟨⟨?_⟩⟩⟩
  show Q (valF a, IntKind.u64.wrap (shF s))
  rw [wrap_u64 _ (by omega) (by omega)]
  exact h
theorem rbits_v {a : Int} {Q : Int → Prop} (h : Q (bitF a)) : pedagogueref1_Bits a Q := by
  refine ⟨?_⟩
  unfold pedagogueref1_Bits_t
  refine rtaken_v ?_
  show pedagogueref1_Bits_n122 (fun y => Q y) (0, greater (valF a) (IntKind.i64.wrap (0 - valF a)))
  have hv := valF_rng a
  unfold bitF at h
  rw [wrap_i64 (0 - valF a) (by omega) (by omega)] at h ⊢
  have hg : 0 ≤ greater (valF a) (0 - valF a) ∧ greater (valF a) (0 - valF a) ≤ 4611686018427387904 := by
    unfold greater; split <;> omega
  generalize greater (valF a) (0 - valF a) = g at hg h ⊢
  rw [wrap_u64 g (by omega) (by omega)] at h
  obtain ⟨k, e1, e2, e3, e4⟩ := lenF_is hg.1 hg.2
  rw [e1] at h
  refine ⟨?_⟩
  have eg : ((0 : Int), g) = (fun i : Nat => ((i : Int), g / 2 ^ i)) 0 := by simp
  rw [eg]
  refine Loop.range (B := pedagogueref1_Bits_n122_B _) (f := fun i : Nat => ((i : Int), g / 2 ^ i)) k (fun _ => True) trivial ?_ ?_
  · intro i hi _ X hX
    have hX := hX trivial
    unfold pedagogueref1_Bits_n122_B
    have p1 := pow2_le (i + 1) k hi
    have p2 := (pow2_le i i (Nat.le_refl _)).1
    have hpos : 0 < g / 2 ^ i := by
      rw [Int.pow_succ] at p1
      have : 1 ≤ g / 2 ^ i := (Int.le_ediv_iff_mul_le (by omega)).2 (by omega)
      omega
    rw [if_pos (decide_eq_true (show 0 < g / 2 ^ i from hpos))]
    refine ⟨by omega, ?_⟩
    have e : (2 : Int) ^ (min ((1 : Int)).toNat (IntKind.i64).bits) = 2 := by decide +kernel
    have e5 : g / 2 ^ (i + 1) = (g / 2 ^ i).fdiv 2 := by
      rw [Int.fdiv_eq_ediv_of_nonneg _ (by omega), Int.pow_succ, Int.ediv_ediv, if_neg (by omega), Int.sub_zero]
    simp only [e]
    rw [wrap_i64 ((i : Int) + 1) (by omega) (by omega), ← e5]
    exact hX
  · intro _ X
    unfold pedagogueref1_Bits_n122_B
    have : g / 2 ^ k = 0 := Int.ediv_eq_zero_of_lt hg.1 e3
    simp only [this]
    rw [if_neg (by simp)]
    exact h
theorem mix_mono {a : Int} {P P' : Int → Prop} (h : prng_Mix a P) (k : ∀ r, P r → P' r) : pedagogueref1_Mix a P' := ⟨⟨h.1, h.2.1, h.2.2.1, k _ h.2.2.2⟩⟩
theorem rat_v {a b c : Int} {Q : Int → Prop} (h : Q (atF a b c)) : pedagogueref1_At a b c Q := ⟨mix_mono (at_v h) fun r1 h1 => mix_mono h1 fun r2 h2 => mix_mono h2 fun r3 h3 => h3⟩
theorem rchance_v {a s r : Int} {Q : Int → Prop} (h : Q (chF a s r)) : pedagogueref1_Chance a s r Q := ⟨rtaken_v ⟨(shF_rng s).1, (shF_rng s).1, h⟩⟩
theorem rdown_v {a s : Int} {Q : Int → Prop} (h : Q (downF a s)) : pedagogueref1_Down a s Q := ⟨rtaken_v ⟨(shF_rng s).1, h⟩⟩
theorem rnear_v {a s : Int} {Q : Int → Prop} (h : Q (nearF a s)) : pedagogueref1_Near a s Q := by
  refine ⟨rtaken_v ?_⟩
  have hr := shF_rng s
  unfold nearF at h
  show (if (shF s == 0) = true then Q (valF a) else _)
  by_cases h0 : shF s = 0
  · rw [if_pos h0] at h
    rw [if_pos (by rw [h0]; rfl)]
    exact h
  · rw [if_neg h0, wrap_i64 (shF s - 1) (by omega) (by omega)] at h
    rw [if_neg (by simpa using h0)]
    show ck (0 ≤ IntKind.u64.wrap (shF s - 1)) _
    rw [wrap_u64 (shF s - 1) (by omega) (by omega)]
    exact ⟨by omega, hr.1, h⟩
theorem top_k : ∀ i : Fin 32, 0 ≤ IntKind.i64.wrap ((IntKind.i64.wrap (1 * 2 ^ (min (IntKind.i64.wrap (((i.1 : Int) + 1) - 1)).toNat (IntKind.i64).bits))) - 1) ∧ IntKind.i64.wrap ((IntKind.i64.wrap (1 * 2 ^ (min (IntKind.i64.wrap (((i.1 : Int) + 1) - 1)).toNat (IntKind.i64).bits))) - 1) ≤ 2147483647 := by decide +kernel
theorem topF_rng (b : Int) : 0 ≤ topF b ∧ topF b ≤ 2147483647 := by
  have hr := b32_rng b
  have := top_k ⟨(b32 b - 1).toNat, by omega⟩
  simp only at this
  rw [show (((b32 b - 1).toNat : Nat) : Int) + 1 = b32 b by omega] at this
  exact this
theorem rclamp_v {a b : Int} {Q : Int → Prop} (h : Q (clF a b)) : pedagogueref1_Clamp a b Q := by
  have hr := b32_rng b
  have ht := topF_rng b
  refine ⟨⟨?_⟩⟩
  have ew : IntKind.u64.wrap (IntKind.i64.wrap (b32 b - 1)) = IntKind.i64.wrap (b32 b - 1) := by
    rw [wrap_i64 _ (by omega) (by omega), wrap_u64 _ (by omega) (by omega)]
  show ck (0 ≤ IntKind.u64.wrap (IntKind.i64.wrap (b32 b - 1))) (pedagogueref1_within a (IntKind.i64.wrap (0 - IntKind.i64.wrap ((IntKind.i64.wrap (1 * 2 ^ (min (IntKind.u64.wrap (IntKind.i64.wrap (b32 b - 1))).toNat (IntKind.i64).bits))) - 1))) (IntKind.i64.wrap ((IntKind.i64.wrap (1 * 2 ^ (min (IntKind.u64.wrap (IntKind.i64.wrap (b32 b - 1))).toNat (IntKind.i64).bits))) - 1)) (fun r => Q r))
  rw [ew]
  refine ⟨by rw [wrap_i64 _ (by omega) (by omega)]; omega, ⟨?_⟩⟩
  show Q (greater (IntKind.i64.wrap (0 - topF b)) (smaller a (topF b)))
  have e : clF a b = greater (IntKind.i64.wrap (0 - topF b)) (smaller a (topF b)) := by
    unfold clF
    rw [wrap_i64 (0 - topF b) (by omega) (by omega)]
    unfold valF greater smaller
    generalize topF b = t at ht
    split <;> split <;> split <;> split <;> (try split) <;> omega
  rw [← e]
  exact h

/-! ### Streams, widths, small sums -/
theorem rstream_v {a b c : Int} {Q : Int → Prop} (h : Q (streamF a b c)) : pedagogueref18_Stream a b c Q := by
  refine ⟨⟨?_⟩⟩
  show (if (((((!inB a 0 1000000) || decide (b < 0)) || decide (12 < b)) || decide (c < 0)) || decide (15 < c)) = true then Q 0 else _)
  unfold streamF at h
  by_cases e : ((inB a 0 1000000 && inB b 0 12) && inB c 0 15) = true
  · rw [if_pos e] at h
    unfold inB at e ⊢
    simp only [Bool.and_eq_true, decide_eq_true_eq] at e
    rw [if_neg (by simp only [Bool.or_eq_true, Bool.not_eq_true', Bool.and_eq_false_iff, decide_eq_true_eq, decide_eq_false_iff_not]; omega)]
    rw [wrap_i64 (a * 1024) (by omega) (by omega), wrap_i64 (b * 16) (by omega) (by omega), wrap_i64 (a * 1024 + b * 16) (by omega) (by omega), wrap_i64 (a * 1024 + b * 16 + c) (by omega) (by omega), wrap_u64 (a * 1024 + b * 16 + c) (by omega) (by omega)] at h
    rw [wrap_u64 a (by omega) (by omega), wrap_u64 b (by omega) (by omega), wrap_u64 c (by omega) (by omega), wrap_u64 (a * 1024) (by omega) (by omega), wrap_u64 (b * 16) (by omega) (by omega), wrap_u64 (a * 1024 + b * 16) (by omega) (by omega), wrap_u64 (a * 1024 + b * 16 + c) (by omega) (by omega)]
    exact h
  · rw [if_neg e] at h
    unfold inB at e ⊢
    simp only [Bool.and_eq_true, decide_eq_true_eq] at e
    rw [if_pos (by simp only [Bool.or_eq_true, Bool.not_eq_true', Bool.and_eq_false_iff, decide_eq_true_eq, decide_eq_false_iff_not]; omega)]
    exact h
theorem rmayAcc_v {a : T3} {Q : Bool → Prop} (h : Q (mayAccF a)) : pedagogueref1_MayAcc a Q := by
  refine ⟨?_⟩
  unfold pedagogueref1_MayAcc_t
  refine mayDims_v ?_
  refine and_v (b := decide (0 < szF a.1)) (c := ((a.2.2.length : Int) == szF a.1)) (fun P hp => rsize_v hp) (fun v e => ?_) rfl
  have : mayAccF a = ((v && decide (-128 ≤ a.2.1)) && decide (a.2.1 ≤ 128)) := by
    unfold mayAccF expF
    rw [e, wrap_i64 (0 - 128) (by omega) (by omega), Bool.and_assoc _ (decide (-128 ≤ a.2.1))]
    rfl
  rw [← this]
  exact h
theorem rwidth_v {a : T3} {Q : Int → Prop} (h : Q (widthF a)) : pedagogueref1_Width a Q := by
  refine ⟨?_⟩
  unfold pedagogueref1_Width_t
  refine rmayAcc_v (a := a) ?_
  unfold widthF at h
  cases hm : mayAccF a with
  | false =>
    rw [hm] at h
    exact h
  | true =>
    rw [hm, if_pos rfl] at h
    rw [if_neg (by simp)]
    obtain ⟨_, _, _, _, hlen⟩ := mayAccF_len hm
    refine ⟨?_⟩
    refine Loop.range (B := pedagogueref1_Width_n122_B a.2.2 (a.2.2.length : Int) fun y => Q y) a.2.2.length (fun i => (wideF (a.2.2.take i), (i : Int))) (fun _ => True) trivial ?_ ?_
    · intro i hi _ X hX
      unfold pedagogueref1_Width_n122_B
      rw [if_pos (decide_eq_true (show (i : Int) < (a.2.2.length : Int) by omega))]
      refine ⟨by simp only []; omega, rbits_v ?_⟩
      have := hX trivial
      rw [wideF_take _ _ hi] at this
      simp only [Int.toNat_natCast]
      rw [wrap_i64 ((i : Int) + 1) (by omega) (by omega)]
      exact this
    · intro _ X
      unfold pedagogueref1_Width_n122_B
      rw [if_neg (by simp)]
      simp only [List.take_length]
      exact h
theorem rsmall_v {a : T3} {b s t : Int} {Q : T3 × Int → Prop} (h : Q (smallF a b s t)) : pedagogueref1_Small a b s t Q := by
  refine ⟨?_⟩
  unfold pedagogueref1_Small_t
  refine rmayAcc_v (a := a) ?_
  unfold smallF at h
  by_cases e : ((!(mayAccF a) || (decide (b < 2))) || (decide (8 < b))) = true
  · rw [if_pos e] at h ⊢; exact h
  · rw [if_neg e] at h ⊢
    have hm : mayAccF a = true := by
      cases hm : mayAccF a with
      | true => rfl
      | false => exfalso; apply e; rw [hm]; rfl
    obtain ⟨_, _, h3, h4, hlen⟩ := mayAccF_len hm
    refine rwidth_v (a := a) ⟨by omega, ?_⟩
    show (if (decide (IntKind.i64.wrap (a.2.1 + shiftF a b) < -64) || decide (64 < IntKind.i64.wrap (a.2.1 + shiftF a b))) = true then _ else _)
    rw [expF64, Bool.not_not] at h
    by_cases e2 : (decide (IntKind.i64.wrap (a.2.1 + shiftF a b) < -64) || decide (64 < IntKind.i64.wrap (a.2.1 + shiftF a b))) = true
    · rw [if_pos e2] at h ⊢; exact h
    · rw [if_neg e2] at h ⊢
      refine ⟨?_⟩
      refine Loop.range (B := pedagogueref1_Small_n506_B b s t (shiftF a b) a.2.2 (a.2.2.length : Int) _) (f := fun i : Nat => ((i : Int), (List.range i).map (cellF b s t (shiftF a b) a.2.2))) a.2.2.length (fun _ => True) trivial ?_ ?_
      · intro i hi _ X hX
        unfold pedagogueref1_Small_n506_B
        rw [if_pos (decide_eq_true (show (i : Int) < (a.2.2.length : Int) by omega))]
        refine ⟨by simp only []; omega, rat_v (rchance_v (rclamp_v ⟨?_, ?_⟩))⟩
        · simp only [List.length_map, List.length_range, List.length_singleton]
          omega
        · have := hX trivial
          simp only [List.range_succ, List.map_append, List.map_cons, List.map_nil] at this
          simp only [Int.toNat_natCast]
          rw [wrap_i64 ((i : Int) + 1) (by omega) (by omega)]
          exact this
      · intro _ X
        unfold pedagogueref1_Small_n506_B
        rw [if_neg (by simp)]
        exact h

/-! ### The same, however long -/
structure LensB (p : Prm) : Prop where
  wd : p.1.1.length ≤ 17592186044416
  wv : p.1.2.2.length ≤ 17592186044416
  m : p.2.1.length ≤ 17592186044416
  bd : p.2.2.1.length ≤ 17592186044416
  bv : p.2.2.2.2.length ≤ 17592186044416
theorem sintsB_v {a b : List Int} {Q : Bool → Prop} (hl : a.length ≤ 1000000000000000) (h : Q (decide (a = b))) : pedagogueref1_SameInts a b Q := by
  refine ⟨?_⟩
  unfold pedagogueref1_SameInts_t
  by_cases e : a.length = b.length
  · rw [if_neg (by simp [e])]
    refine ⟨?_⟩
    refine Loop.range (B := pedagogueref1_SameInts_n58_B a b (a.length : Int) (fun _ => Q true) (fun _ => Q false)) a.length (fun i => (i : Int)) (fun i => ∀ j, j < i → a.getD j 0 = b.getD j 0) (fun j hj => absurd hj (by omega)) ?_ ?_
    · intro i hi hI X hX
      unfold pedagogueref1_SameInts_n58_B
      rw [if_pos (decide_eq_true (show (i : Int) < (a.length : Int) by omega))]
      refine ⟨by omega, by omega, ?_⟩
      simp only [Int.toNat_natCast]
      by_cases hd : a.getD i 0 = b.getD i 0
      · rw [if_neg (by simpa using hd), wrap_i64 _ (by omega) (by omega)]
        refine hX fun j hj => ?_
        by_cases hji : j = i
        · subst hji; exact hd
        · exact hI j (by omega)
      · rw [if_pos (by simpa using hd)]
        have : decide (a = b) = false := by
          simp only [decide_eq_false_iff_not]
          intro hab; exact hd (by rw [hab])
        rw [this] at h; exact h
    · intro hI X
      unfold pedagogueref1_SameInts_n58_B
      rw [if_neg (by simp)]
      have : decide (a = b) = true := by
        simp only [decide_eq_true_eq]
        refine List.ext_getElem e fun i h1 h2 => ?_
        have := hI i h1
        rw [List.getD_eq_getElem?_getD, List.getD_eq_getElem?_getD, List.getElem?_eq_getElem h1, List.getElem?_eq_getElem h2] at this
        exact this
      rw [this] at h; exact h
  · rw [if_pos (by simp; omega)]
    have : decide (a = b) = false := by
      simp only [decide_eq_false_iff_not]
      intro hab; exact e (by rw [hab])
    rw [this] at h; exact h

theorem sameTB_refl {a : T3} {Q : Bool → Prop} (h1 : a.1.length ≤ 1000000000000000) (h2 : a.2.2.length ≤ 1000000000000000) (h : Q true) : pedagogueref1_SameT a a Q := by
  refine ⟨?_⟩
  unfold pedagogueref1_SameT_t
  refine sintsB_v h1 ?_
  rw [decide_eq_true rfl, if_neg (by simp)]
  refine ⟨?_⟩
  refine Loop.range (B := pedagogueref1_SameT_n58_B (a.2.2.length : Int) a.2.2 a.2.2 (fun _ => Q true) (fun _ => Q false)) a.2.2.length (fun i => (i : Int)) (fun _ => True) trivial ?_ ?_
  · intro i hi _ X hX
    unfold pedagogueref1_SameT_n58_B
    rw [if_pos (decide_eq_true (show (i : Int) < (a.2.2.length : Int) by omega))]
    refine ⟨by omega, by omega, ?_⟩
    rw [if_neg (by simp), wrap_i64 _ (by omega) (by omega)]
    exact hX trivial
  · intro _ X
    unfold pedagogueref1_SameT_n58_B
    rw [if_neg (by simp)]
    exact h
theorem samePB_refl {a : Prm} {Q : Bool → Prop} (hl : LensB a) (h : Q true) : pedagogueref10_SameParams [a] [a] Q := by
  obtain ⟨l1, l2, l3, l4, l5⟩ := hl
  refine ⟨?_⟩
  unfold pedagogueref10_SameParams_t
  rw [if_neg (by simp)]
  refine ⟨?_⟩
  refine Loop.range (B := pedagogueref10_SameParams_n58_B [a] [a] (1 : Nat) (fun _ => Q true) (fun _ => Q false)) 1 (fun i => (i : Int)) (fun _ => True) trivial ?_ ?_
  · intro i hi _ X hX
    have hX := hX trivial
    have hi0 : i = 0 := by omega
    subst hi0
    unfold pedagogueref10_SameParams_n58_B
    rw [if_pos (by simp)]
    refine ⟨by simp, by simp, ?_⟩
    refine sameTB_refl (a := a.1) (by omega) (by omega) ?_
    simp only [jn, Bool.not_true, Bool.false_eq_true, if_false]
    refine ⟨by simp, by simp, ?_⟩
    refine sameTB_refl (a := a.2.2) (by omega) (by omega) ?_
    simp only [Bool.not_true, Bool.false_eq_true, if_false]
    refine ⟨by simp, by simp, ?_⟩
    have en : ((a.2.1.length : Int) != (a.2.1.length : Int)) = false := by simp
    show (if ((a.2.1.length : Int) != (a.2.1.length : Int)) = true then Q false else _)
    rw [if_neg (by rw [en]; simp)]
    refine ⟨by simp, ⟨?_⟩⟩
    show Go.Mach.Loop (pedagogueref10_SameParams_n29902_B [a] [a] (0 : Int) (a.2.1.length : Int) _ _) 0
    refine Loop.range (B := pedagogueref10_SameParams_n29902_B [a] [a] (0 : Int) (a.2.1.length : Int) _ _) a.2.1.length (fun i => (i : Int)) (fun _ => True) trivial ?_ ?_
    · intro j hj _ Y hY
      have hY := hY trivial
      unfold pedagogueref10_SameParams_n29902_B
      rw [if_pos (decide_eq_true (show (j : Int) < (a.2.1.length : Int) by omega))]
      refine ⟨by simp, ?_, by simp, ?_, ?_⟩
      · show 0 ≤ (j : Int) ∧ (j : Int) < (a.2.1.length : Int); omega
      · show 0 ≤ (j : Int) ∧ (j : Int) < (a.2.1.length : Int); omega
      · show (if (a.2.1.getD ((j : Int)).toNat 0 != a.2.1.getD ((j : Int)).toNat 0) = true then _ else _)
        rw [if_neg (by simp), wrap_i64 ((j : Int) + 1) (by omega) (by omega)]
        exact hY
    · intro _ Y
      unfold pedagogueref10_SameParams_n29902_B
      rw [if_neg (by simp)]
      exact hX
  · intro _ X
    unfold pedagogueref10_SameParams_n58_B
    rw [if_neg (by simp)]
    exact h

/-! ### The step's loops -/
theorem rgreat_v {l : List Int} {K0 K1 : Unit → Prop} (hl : l.length ≤ 1000000) (h : if l.any greatM = true then K1 () else K0 ()) : pedagogueref18_StepDown_n250 l (l.length : Int) K0 K1 0 := by
  refine ⟨?_⟩
  refine Loop.range (B := pedagogueref18_StepDown_n250_B l (l.length : Int) K0 K1) l.length (fun i => (i : Int)) (fun i => (l.take i).any greatM = false) rfl ?_ ?_
  · intro i hi hI X hX
    unfold pedagogueref18_StepDown_n250_B
    rw [if_pos (decide_eq_true (show (i : Int) < (l.length : Int) by omega))]
    refine ⟨by omega, ?_⟩
    rw [Int.toNat_natCast]
    have hget : l.getD i 0 = l[i] := by rw [List.getD_eq_getElem?_getD, List.getElem?_eq_getElem hi]; rfl
    show (if greatM (l.getD i 0) = true then _ else _)
    cases hm : greatM (l.getD i 0) with
    | true =>
      rw [if_pos rfl]
      have : l.any greatM = true := by
        rw [List.any_eq_true]
        exact ⟨l[i], List.getElem_mem hi, by rw [← hget]; exact hm⟩
      rw [if_pos this] at h
      exact h
    | false =>
      rw [if_neg (by simp), wrap_i64 _ (by omega) (by omega)]
      refine hX ?_
      rw [List.take_add_one, List.any_append, hI, List.getElem?_eq_getElem hi]
      rw [hget] at hm
      simp [hm]
  · intro hI X
    unfold pedagogueref18_StepDown_n250_B
    rw [if_neg (by simp)]
    rw [List.take_length] at hI
    rw [hI, if_neg (by simp)] at h
    exact h
theorem rpush_v {h : Hyp} {seed step layer nm : Int} {w u wn M F : List Int} {ov : Bool} {i : Nat} {K0 : Bool × List Int × List Int → Prop} (hu : i < u.length) (hm : i < M.length) (hw : i < w.length) (hn : wn.length ≤ 1000000)
    (hF : IntKind.i64.wrap (F.getD i 0) = greater (-1048576) (smaller (IntKind.i64.wrap (nm + (IntKind.i64.wrap (u.getD i 0)))) 1048576))
    (hq : K0 ((ov || decide (127 < wN h seed step layer w F i)) || decide (wN h seed step layer w F i < -127), wn ++ [wN h seed step layer w F i], M.set i (IntKind.i32.wrap (greater (-1048576) (smaller (IntKind.i64.wrap (nm + (IntKind.i64.wrap (u.getD i 0)))) 1048576))))) :
    pedagogueref18_StepDown_n33552999 seed step layer ov (i : Int) nm w h.2.2.1 h.2.2.2.2.1 wn u M K0 := by
  refine ⟨?_⟩
  unfold pedagogueref18_StepDown_n33552999_t
  refine ⟨by omega, by omega, by omega, ?_⟩
  refine rstream_v (rat_v (rchance_v ⟨?_⟩))
  unfold pedagogueref18_StepDown_n1073695997_t
  rw [Int.toNat_natCast]
  unfold wN chnF at hq
  rw [hF] at hq
  generalize greater (-1048576) (smaller (IntKind.i64.wrap (nm + (IntKind.i64.wrap (u.getD i 0)))) 1048576) = c at hq ⊢
  simp only at hq
  by_cases hd : 0 < h.2.2.2.2.1
  · rw [if_pos hd] at hq
    rw [if_pos (decide_eq_true hd)]
    refine ⟨by omega, rnear_v ⟨?_⟩⟩
    unfold pedagogueref18_StepDown_n536847999_t
    refine ⟨?_, hq⟩
    simp only [List.length_singleton]; omega
  · rw [if_neg hd] at hq
    rw [if_neg (by simpa using hd)]
    refine ⟨?_⟩
    unfold pedagogueref18_StepDown_n536847999_t
    refine ⟨?_, hq⟩
    simp only [List.length_singleton]; omega
theorem wNs_succ {h : Hyp} {seed step layer : Int} {w m : List Int} {i : Nat} : wNs h seed step layer w m (i + 1) = wNs h seed step layer w m i ++ [wN h seed step layer w m i] := by
  unfold wNs
  rw [List.range_succ, List.map_append]; rfl
theorem wNs_over {h : Hyp} {seed step layer : Int} {w m : List Int} {i : Nat} : (wNs h seed step layer w m (i + 1)).any over = (((wNs h seed step layer w m i).any over || decide (127 < wN h seed step layer w m i)) || decide (wN h seed step layer w m i < -127)) := by
  rw [wNs_succ, List.any_append]
  simp [over, Bool.or_assoc]
theorem rweigh_v {h : Hyp} {seed step layer : Int} {w m u : List Int} {Q : Bool × List Int × List Int → Prop} (hmom : 0 ≤ h.2.2.2.1) (hl : w.length ≤ 1000000) (e : m.length = w.length) (hu : m.length ≤ u.length)
    (hq : Q ((wNs h seed step layer w (movF h.2.2.2.1 m u) w.length).any over, wNs h seed step layer w (movF h.2.2.2.1 m u) w.length, movF h.2.2.2.1 m u)) :
    pedagogueref18_StepDown_n131066 seed step layer m (m.length : Int) w h.2.2.1 h.2.2.2.1 h.2.2.2.2.1 u Q (false, 0, ([] : List Int), m) := by
  refine ⟨?_⟩
  have eg : ((false : Bool), (0 : Int), ([] : List Int), m) = (fun i : Nat => ((wNs h seed step layer w (movF h.2.2.2.1 m u) i).any over, (i : Int), wNs h seed step layer w (movF h.2.2.2.1 m u) i, upTo (movC h.2.2.2.1 m u) m i)) 0 := by simp [wNs, upTo]
  rw [eg]
  refine Loop.range (B := pedagogueref18_StepDown_n131066_B seed step layer m (m.length : Int) w h.2.2.1 h.2.2.2.1 h.2.2.2.2.1 u Q) (f := fun i : Nat => ((wNs h seed step layer w (movF h.2.2.2.1 m u) i).any over, (i : Int), wNs h seed step layer w (movF h.2.2.2.1 m u) i, upTo (movC h.2.2.2.1 m u) m i)) m.length (fun _ => True) trivial ?_ ?_
  · intro i hi _ X hX
    have hX := hX trivial
    unfold pedagogueref18_StepDown_n131066_B
    rw [if_pos (decide_eq_true (show (i : Int) < (m.length : Int) by omega))]
    dsimp only at hX ⊢
    rw [wNs_over, wNs_succ, ← upTo_set hi] at hX
    refine ⟨by omega, ?_⟩
    have hlen : (wNs h seed step layer w (movF h.2.2.2.1 m u) i).length = i := by simp [wNs]
    have hup : (upTo (movC h.2.2.2.1 m u) m i).length = m.length := upTo_len (by omega)
    have hF : (movF h.2.2.2.1 m u).getD i 0 = movC h.2.2.2.1 m u i := map_get hi
    rw [Int.toNat_natCast]
    have fin : ∀ nm : Int, nm = (if h.2.2.2.1 = 0 then 0 else IntKind.i64.wrap ((IntKind.i64.wrap (m.getD i 0)) - downF (IntKind.i64.wrap (m.getD i 0)) h.2.2.2.1)) → pedagogueref18_StepDown_n33552999 seed step layer ((wNs h seed step layer w (movF h.2.2.2.1 m u) i).any over) (i : Int) nm w h.2.2.1 h.2.2.2.2.1 (wNs h seed step layer w (movF h.2.2.2.1 m u) i) u (upTo (movC h.2.2.2.1 m u) m i) (fun y => X (y.1, IntKind.i64.wrap ((i : Int) + 1), y.2.1, y.2.2)) := by
      intro nm hn
      have e3 : movC h.2.2.2.1 m u i = IntKind.i32.wrap (greater (-1048576) (smaller (IntKind.i64.wrap (nm + (IntKind.i64.wrap (u.getD i 0)))) 1048576)) := by rw [hn]; rfl
      have hr := gs_rng (IntKind.i64.wrap (nm + (IntKind.i64.wrap (u.getD i 0)))) (-1048576) 1048576 (by omega)
      refine rpush_v (F := movF h.2.2.2.1 m u) (by omega) (by omega) (by omega) (by omega) ?_ ?_
      · rw [hF, e3, wrap_i32 _ (by omega) (by omega), wrap_i64 _ (by omega) (by omega)]
      · rw [← e3, wrap_i64 ((i : Int) + 1) (by omega) (by omega)]
        exact hX
    by_cases h0 : 0 < h.2.2.2.1
    · rw [if_pos (decide_eq_true h0)]
      exact rdown_v (fin _ (by rw [if_neg (by omega)]))
    · rw [if_neg (by simpa using h0)]
      exact fin 0 (by rw [if_pos (by omega)])
  · intro _ X
    unfold pedagogueref18_StepDown_n131066_B
    rw [if_neg (by simp)]
    dsimp only
    rw [upTo_all, e]
    rw [show movF h.2.2.2.1 m u = (List.range w.length).map (movC h.2.2.2.1 m u) from by unfold movF; rw [e]] at hq ⊢
    exact hq
theorem rcut_v {g : Bool} {L A : List Int} {K : List Int → Prop} (e : L.length = A.length) (hl : L.length ≤ 1000000) (hq : K (L.map (cutC g))) : pedagogueref18_StepDown_n1048570 g (L.length : Int) L K (0, A) := by
  refine ⟨?_⟩
  have em : (List.range L.length).map (fun i => cutC g (L.getD i 0)) = L.map (cutC g) := by
    refine List.ext_getElem (by simp) fun i h1 h2 => ?_
    have h3 : i < L.length := by simpa using h2
    simp only [List.getElem_map, List.getElem_range]
    rw [List.getD_eq_getElem?_getD, List.getElem?_eq_getElem h3]
    rfl
  have eg : ((0 : Int), A) = (fun i : Nat => ((i : Int), upTo (fun i => cutC g (L.getD i 0)) A i)) 0 := by simp [upTo]
  rw [eg]
  refine Loop.range (B := pedagogueref18_StepDown_n1048570_B g (L.length : Int) L K) (f := fun i : Nat => ((i : Int), upTo (fun i => cutC g (L.getD i 0)) A i)) L.length (fun _ => True) trivial ?_ ?_
  · intro i hi _ X hX
    have hX := hX trivial
    unfold pedagogueref18_StepDown_n1048570_B
    rw [if_pos (decide_eq_true (show (i : Int) < (L.length : Int) by omega))]
    dsimp only at hX ⊢
    rw [← upTo_set (by omega)] at hX
    refine ⟨by omega, ?_⟩
    rw [Int.toNat_natCast]
    have hup : (upTo (fun i => cutC g (L.getD i 0)) A i).length = A.length := upTo_len (by omega)
    have fin : ∀ n : Int, n = (if g = true then nearF (L.getD i 0) 1 else L.getD i 0) → pedagogueref18_StepDown_n134217011 (i : Int) n (upTo (fun i => cutC g (L.getD i 0)) A i) (fun y => X (IntKind.i64.wrap ((i : Int) + 1), y)) := by
      intro n hn
      refine ⟨?_⟩
      unfold pedagogueref18_StepDown_n134217011_t
      refine rclamp_v ⟨by omega, ?_⟩
      rw [Int.toNat_natCast, wrap_i64 ((i : Int) + 1) (by omega) (by omega), hn]
      exact hX
    cases g with
    | true => rw [if_pos rfl]; exact rnear_v (fin _ rfl)
    | false => rw [if_neg (by simp)]; exact fin _ rfl
  · intro _ X
    unfold pedagogueref18_StepDown_n1048570_B
    rw [if_neg (by simp)]
    dsimp only
    rw [e, upTo_all, ← e, em]
    exact hq
theorem rbias_v {h : Hyp} {seed step layer : Int} {b v : List Int} {K : List Int → Prop} (hl : b.length ≤ 1000000) (hv : b.length ≤ v.length) (hq : K ((List.range b.length).map (bC h seed step layer b v))) : pedagogueref18_StepDown_n2097146 seed step layer b (b.length : Int) h.2.2.1 v K (0, b) := by
  refine ⟨?_⟩
  have eg : ((0 : Int), b) = (fun i : Nat => ((i : Int), upTo (bC h seed step layer b v) b i)) 0 := by simp [upTo]
  rw [eg]
  refine Loop.range (B := pedagogueref18_StepDown_n2097146_B seed step layer b (b.length : Int) h.2.2.1 v K) (f := fun i : Nat => ((i : Int), upTo (bC h seed step layer b v) b i)) b.length (fun _ => True) trivial ?_ ?_
  · intro i hi _ X hX
    have hX := hX trivial
    unfold pedagogueref18_StepDown_n2097146_B
    rw [if_pos (decide_eq_true (show (i : Int) < (b.length : Int) by omega))]
    dsimp only at hX ⊢
    rw [← upTo_set hi] at hX
    have hup : (upTo (bC h seed step layer b v) b i).length = b.length := upTo_len (by omega)
    refine ⟨by omega, by omega, rstream_v (rat_v (rchance_v (rclamp_v ⟨by omega, ?_⟩)))⟩
    rw [Int.toNat_natCast, wrap_i64 ((i : Int) + 1) (by omega) (by omega)]
    exact hX
  · intro _ X
    unfold pedagogueref18_StepDown_n2097146_B
    rw [if_neg (by simp)]
    dsimp only
    rw [upTo_all]
    exact hq
theorem rcopied_v {p : Prm} {Q : Prm → Prop} (l : LensB p) (h : Q p) : pedagogueref18_copied p Q := by
  obtain ⟨l1, l2, l3, l4, l5⟩ := l
  exact ⟨⟨by omega, by omega, by omega, by omega, by omega, h⟩⟩
theorem rstep_v {p : Prm} {g : Grd} {h : Hyp} {seed step layer : Int} {Q : Prm × Int → Prop} (l : LensB p) (hq : Q (stepF p g h seed step layer)) : pedagogueref18_StepDown p g h seed step layer Q := by
  have rin : ∀ {a b c : Int} {Q : Bool → Prop}, Q (inB a b c) → pedagogueref18_in a b c Q := fun h => ⟨h⟩
  have rms : ∀ {a : Int} {Q : Bool → Prop}, Q (inB a 0 1000000) → pedagogueref18_MayStep a Q := fun h => ⟨h⟩
  refine ⟨?_⟩
  unfold pedagogueref18_StepDown_t
  refine rmayH_v (h := h) ?_
  refine or_v (b := !mayHF h) (c := !inB step 0 1000000) (fun P hp => rms hp) (fun v2 e2 => ?_) rfl
  refine or_v (c := !inB layer 1 12) (fun P hp => rin hp) (fun v5 e5 => ?_) rfl
  have e : v5 = badArgs h step layer := by rw [e5, e2]; rfl
  unfold stepF at hq
  rw [← e] at hq
  cases v5 with
  | true => rw [if_pos rfl] at hq ⊢; exact hq
  | false =>
    have hh : mayHF h = true := by
      have := e.symm
      unfold badArgs at this
      simp only [Bool.or_eq_false_iff, Bool.not_eq_false'] at this
      exact this.1.1
    have hmom := (mayHF_inv hh).2.2.2.2.1
    rw [if_neg (by simp)] at hq ⊢
    by_cases h1 : (!g.1) = true
    · rw [if_pos h1] at hq ⊢
      exact rcopied_v l hq
    · rw [if_neg h1] at hq ⊢
      refine rmayT_v ?_
      refine or_v (b := !mayF p.1) (c := !mayF p.2.2) (fun P hp => rmayT_v hp) (fun v10 e10 => ?_) rfl
      refine or_v (c := !mayAccF g.2.1) (fun P hp => rmayAcc_v hp) (fun v13 e13 => ?_) rfl
      refine or_v (c := !mayAccF g.2.2) (fun P hp => rmayAcc_v hp) (fun v16 e16 => ?_) rfl
      have e16' : v16 = (((!mayF p.1 || !mayF p.2.2) || !mayAccF g.2.1) || !mayAccF g.2.2) := by rw [e16, e13, e10]
      by_cases hb1 : (v16 || ((p.2.1.length : Int) != (p.1.2.2.length : Int))) = true
      · rw [if_pos hb1]
        have hb : badPG p g = true := by unfold badPG; rw [← e16', hb1]; rfl
        have : mayPGF p g = 1 := by unfold mayPGF; rw [if_pos hb]
        rw [this, if_pos (by simp)] at hq
        exact hq
      · rw [if_neg hb1]
        have hb1' : (v16 || ((p.2.1.length : Int) != (p.1.2.2.length : Int))) = false := by simpa using hb1
        have hm : p.2.1.length ≤ 8192 := by
          have hb1' := hb1'
          simp only [Bool.or_eq_false_iff, bne_eq_false_iff_eq] at hb1'
          rw [e16'] at hb1'
          simp only [Bool.or_eq_false_iff, Bool.not_eq_false'] at hb1'
          obtain ⟨m1, _, _, _⟩ := mayF_inv hb1'.1.1.1.1
          obtain ⟨_, _, _, _, l1⟩ := mayAccF_len m1
          omega
        refine rgreat_v (by omega) ?_
        by_cases hb2 : p.2.1.any greatM = true
        · rw [if_pos hb2]
          have hb : badPG p g = true := by unfold badPG; rw [hb2, Bool.or_true]
          have : mayPGF p g = 1 := by unfold mayPGF; rw [if_pos hb]
          rw [this, if_pos (by simp)] at hq
          exact hq
        · rw [if_neg hb2]
          have hbad : badPG p g = false := by
            unfold badPG
            rw [← e16', hb1', Bool.false_or]
            simpa using hb2
          obtain ⟨m1, m2, m3, m4, m5, m6⟩ := badPG_inv hbad
          obtain ⟨a1, _, _, _⟩ := mayF_inv m1
          obtain ⟨a2, _, _, _⟩ := mayF_inv m2
          obtain ⟨_, c1, _, d1, f1⟩ := mayAccF_len a1
          obtain ⟨_, c2, _, d2, f2⟩ := mayAccF_len a2
          obtain ⟨_, c3, _, d3, f3⟩ := mayAccF_len m3
          obtain ⟨_, c4, _, d4, f4⟩ := mayAccF_len m4
          refine sints_v (by omega) ?_
          refine or_v (b := !decide (g.2.1.1 = p.1.1)) (c := !decide (g.2.2.1 = p.2.2.1)) (fun P hp => sints_v (by omega) hp) (fun v21 e21 => ?_) rfl
          cases v21 with
          | true =>
            rw [if_pos rfl]
            have : mayPGF p g = 2 := by unfold mayPGF; rw [if_neg (by rw [hbad]; simp), if_pos e21.symm]
            rw [this, if_pos (by simp)] at hq
            exact hq
          | false =>
            rw [if_neg (by simp)]
            have : mayPGF p g = 0 := by unfold mayPGF; rw [if_neg (by rw [hbad]; simp), if_neg (by rw [← e21]; simp)]
            rw [this, if_neg (by simp)] at hq
            have hsh : g.2.1.1 = p.1.1 ∧ g.2.2.1 = p.2.2.1 := by
              have := e21.symm
              simpa using this
            refine rstream_v (rsmall_v ?_)
            show (if ((dsmF h seed step layer g.2.1 3).2 != 0) = true then _ else _)
            by_cases h3 : ((dsmF h seed step layer g.2.1 3).2 != 0) = true
            · rw [if_pos h3] at hq ⊢; exact hq
            · rw [if_neg h3] at hq ⊢
              refine rstream_v (rsmall_v ?_)
              show (if ((dsmF h seed step layer g.2.2 5).2 != 0) = true then _ else _)
              by_cases h4 : ((dsmF h seed step layer g.2.2 5).2 != 0) = true
              · rw [if_pos h4] at hq ⊢; exact hq
              · rw [if_neg h4] at hq ⊢
                refine rcopied_v (p := p) l ?_
                have s1 := (small_len (a := g.2.1) (b := h.2.1) (s := seed) (t := streamF step layer 3) (show (dsmF h seed step layer g.2.1 3).2 = 0 from by simpa using h3)).1
                have s2 := (small_len (a := g.2.2) (b := h.2.1) (s := seed) (t := streamF step layer 5) (show (dsmF h seed step layer g.2.2 5).2 = 0 from by simpa using h4)).1
                rw [hsh.1] at c3
                rw [hsh.2] at c4
                have u1 : (dsmF h seed step layer g.2.1 3).1.2.2.length = g.2.1.2.2.length := s1
                have u2 : (dsmF h seed step layer g.2.2 5).1.2.2.length = g.2.2.2.2.length := s2
                refine rweigh_v (h := h) (u := (dsmF h seed step layer g.2.1 3).1.2.2) hmom (by omega) m5 (by omega) ?_
                have hLl : (wNs h seed step layer p.1.2.2 (movF h.2.2.2.1 p.2.1 (dsmF h seed step layer g.2.1 3).1.2.2) p.1.2.2.length).length = p.1.2.2.length := by simp [wNs]
                unfold wgF at hq
                simp only at hq ⊢
                generalize wNs h seed step layer p.1.2.2 (movF h.2.2.2.1 p.2.1 (dsmF h seed step layer g.2.1 3).1.2.2) p.1.2.2.length = L at hq hLl ⊢
                have fin : ∀ (b : Bool) (K : List Int × List Int → Prop), K (L.map (cutC b), (List.range p.2.2.2.2.length).map (bC h seed step layer p.2.2.2.2 (dsmF h seed step layer g.2.2 5).1.2.2)) → pedagogueref18_StepDown_n131071 seed step layer b p.2.2.2.2 h.2.2.1 L (dsmF h seed step layer g.2.2 5).1.2.2 p.1.2.2 p.2.2.2.2 K := by
                  intro b K hK
                  refine ⟨?_⟩
                  unfold pedagogueref18_StepDown_n131071_t
                  exact rcut_v hLl (by omega) (rbias_v (by omega) (by omega) hK)
                by_cases hg : (L.any over && decide (p.1.2.1 < 64)) = true
                · rw [if_pos hg] at hq ⊢
                  exact fin _ _ hq
                · rw [if_neg hg] at hq ⊢
                  exact fin _ _ hq

/-! ### The law -/
theorem stepF_lens {p : Prm} {g : Grd} {h : Hyp} {seed step layer : Int} (l : LensB p) : LensB (stepF p g h seed step layer).1 := by
  unfold stepF
  have z : LensB ZP := ⟨by simp, by simp, by simp, by simp, by simp⟩
  split
  · exact z
  split
  · exact l
  split
  · exact z
  split
  · exact z
  split
  · exact z
  obtain ⟨l1, l2, l3, l4, l5⟩ := l
  refine ⟨l1, ?_, ?_, l4, ?_⟩
  · simp only [wgF, wNs, List.length_map, List.length_range]; exact l2
  · simp only [movF, List.length_map, List.length_range]; exact l3
  · simp only [bsF, List.length_map, List.length_range]; exact l5
theorem steps_law {p : Prm} {g : Grd} {h : Hyp} {seed step layer : Int} {Q : Bool → Prop} (k1 : p.1.1.length ≤ 17592186044416) (k2 : p.1.2.2.length ≤ 140737488355328) (k3 : p.2.1.length ≤ 140737488355328) (k4 : p.2.2.1.length ≤ 17592186044416) (k5 : p.2.2.2.2.length ≤ 140737488355328)
    (k6 : g.2.1.2.2.length ≤ 140737488355328) (k7 : g.2.2.2.2.length ≤ 140737488355328) (hq : Q true) : pedagoguelaw21_OptimSteps p g h seed step layer Q := by
  refine ⟨?_⟩
  unfold pedagoguelaw21_OptimSteps_t
  refine ⟨?_⟩
  unfold pedagoguelaw21_light_t
  simp only
  rw [wrap_i64 ((p.1.2.2.length : Int) + (p.2.1.length : Int)) (by omega) (by omega), wrap_i64 ((p.1.2.2.length : Int) + (p.2.1.length : Int) + (p.2.2.2.2.length : Int)) (by omega) (by omega), wrap_i64 ((p.1.2.2.length : Int) + (p.2.1.length : Int) + (p.2.2.2.2.length : Int) + (g.2.1.2.2.length : Int)) (by omega) (by omega), wrap_i64 ((p.1.2.2.length : Int) + (p.2.1.length : Int) + (p.2.2.2.2.length : Int) + (g.2.1.2.2.length : Int) + (g.2.2.2.2.length : Int)) (by omega) (by omega)]
  by_cases hc : (p.1.2.2.length : Int) + (p.2.1.length : Int) + (p.2.2.2.2.length : Int) + (g.2.1.2.2.length : Int) + (g.2.2.2.2.length : Int) ≤ 600
  · rw [decide_eq_true hc, if_neg (by simp)]
    have l : LensB p := ⟨k1, by omega, by omega, k4, by omega⟩
    refine step_v (p := p) (g := g) (h := h) l.wd l.wv l.m l.bd l.bv (rstep_v (p := p) (g := g) (h := h) l ?_)
    have lR := stepF_lens (g := g) (h := h) (seed := seed) (step := step) (layer := layer) l
    generalize stepF p g h seed step layer = R at lR ⊢
    refine one_v (a := R.1) (one_v (a := R.1) (samePB_refl (a := R.1) lR ?_))
    have eb : (true && (R.2 == R.2)) = true := by simp
    simp only [jn]
    rw [if_pos eb]
    refine mayH_v (h := h) (rmayH_v (h := h) ?_)
    have em : (mayHF h == mayHF h) = true := by simp
    rw [em, if_pos rfl]
    exact awake21_v hq
  · rw [decide_eq_false hc, if_pos (by simp)]
    exact awake21_v hq

end Go.Proofs.Ytlbapaelkdpjcaa
