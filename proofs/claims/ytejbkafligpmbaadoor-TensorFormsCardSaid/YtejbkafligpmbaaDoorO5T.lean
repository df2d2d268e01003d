/- What the reference's rounding, chance and small sums come to; its step is the program's: OptimSteps, plainly. No condition. -/
import Derived.Test.YtejbkafligpmbaaDoorNR
import Derived.Test.YtejbkafligpmbaaDoorRef1T
namespace Go.Proofs.YtejbkafligpmbaaDoor
open Go.Mach Go.RowKit
set_option maxRecDepth 100000
set_option linter.unusedVariables false
set_option linter.unusedSimpArgs false

theorem and_v {b c : Bool} {Q K : Bool → Prop} {G : (Bool → Prop) → Prop} (hG : ∀ P : Bool → Prop, P c → G P) (hK : ∀ v, v = (b && c) → K v) (hQ : Q = K) : jn (fun v => Q v) (fun J => if b = true then G J else J false) := by
  subst hQ
  cases b with
  | true => show (if true = true then G (fun v => Q v) else Q false); rw [if_pos rfl]; exact hG _ (hK _ (by simp))
  | false => exact hK _ rfl
/-! ### How many places a number has -/
def IsLen (x : Int) (k : Nat) : Prop := x < 2 ^ k ∧ 2 ^ k ≤ 2 * x + 1
theorem IsLen.half {x : Int} {k : Nat} (h0 : 0 < x) (h : IsLen (x / 2) k) : IsLen x (k + 1) := by
  obtain ⟨h1, h2⟩ := h
  unfold IsLen
  rw [Int.pow_succ]
  cases k with
  | zero => rw [Int.pow_zero] at *; omega
  | succ m =>
    rw [Int.pow_succ] at *
    generalize (2 : Int) ^ m = P at *
    omega
theorem IsLen.up {x c : Int} {j k : Nat} (hc : (2 : Int) ^ j = c) (hcp : 0 < c) (hx : c ≤ x) (h : IsLen (x / c) k) : IsLen x (j + k) := by
  have e := Int.mul_ediv_add_emod x c
  have r0 := Int.emod_nonneg x (show c ≠ 0 by omega)
  have r1 := Int.emod_lt_of_pos x hcp
  have hq : 1 ≤ x / c := (Int.le_ediv_iff_mul_le hcp).2 (by omega)
  unfold IsLen at h ⊢
  rw [Int.pow_add, hc]
  generalize x / c = q at *
  generalize x % c = r at *
  cases k with
  | zero => rw [Int.pow_zero] at h; omega
  | succ m =>
    rw [Int.pow_succ] at h ⊢
    generalize (2 : Int) ^ m = P at *
    have k1 : c * (q + 1) ≤ c * (P * 2) := Int.mul_le_mul_of_nonneg_left (by omega) (by omega)
    have k2 : c * (P * 2) ≤ c * (q * 2) := Int.mul_le_mul_of_nonneg_left (by omega) (by omega)
    rw [Int.mul_add, Int.mul_one] at k1
    rw [← Int.mul_assoc c q 2] at k2
    omega
theorem tab_is : ∀ i : Fin 256, i.1 < 2 ^ (sc_14a5d850.data.toList.getD i.1 0).toNat ∧ 2 ^ (sc_14a5d850.data.toList.getD i.1 0).toNat ≤ 2 * i.1 + 1 := by decide +kernel
theorem l31_is {x n : Int} (h0 : 0 ≤ x) (h : x < 256) (hn : 0 ≤ n) (hm : n ≤ 56) : ∃ k : Nat, l31 x n = n + k ∧ k ≤ 8 ∧ IsLen x k := by
  have ht := tab_le ⟨x.toNat, by omega⟩
  have hl := tab_is ⟨x.toNat, by omega⟩
  simp only at ht hl
  unfold l31
  rw [wrap_u8 x (by omega) (by omega)]
  generalize (sc_14a5d850.data.toList.getD x.toNat 0).toNat = m at ht hl ⊢
  refine ⟨m, ?_, ht, ?_⟩
  · rw [wrap_i64 (m : Int) (by omega) (by omega), wrap_i64 _ (by omega) (by omega)]
  · have e : ((2 ^ m : Nat) : Int) = 2 ^ m := by rw [Int.natCast_pow]; rfl
    unfold IsLen
    rw [← e]
    omega
theorem l15_is {x n : Int} (h0 : 0 ≤ x) (h : x < 65536) (hn : 0 ≤ n) (hm : n ≤ 48) : ∃ k : Nat, l15 x n = n + k ∧ k ≤ 16 ∧ IsLen x k := by
  have e : (2 : Int) ^ (min ((8 : Int)).toNat (IntKind.u64).bits) = 256 := by decide +kernel
  unfold l15
  rw [e]
  split
  · rw [wrap_i64 _ (by omega) (by omega), Int.fdiv_eq_ediv_of_nonneg _ (by omega)]
    obtain ⟨k, h1, h2, h3⟩ := l31_is (x := x / 256) (n := n + 8) (by omega) (by omega) (by omega) (by omega)
    exact ⟨8 + k, by rw [h1]; omega, by omega, h3.up (c := 256) (by decide) (by omega) (by omega)⟩
  · obtain ⟨k, h1, h2, h3⟩ := l31_is (x := x) (n := n) (by omega) (by omega) (by omega) (by omega)
    exact ⟨k, h1, by omega, h3⟩
theorem l7_is {x n : Int} (h0 : 0 ≤ x) (h : x < 4294967296) (hn : 0 ≤ n) (hm : n ≤ 32) : ∃ k : Nat, l7 x n = n + k ∧ k ≤ 32 ∧ IsLen x k := by
  have e : (2 : Int) ^ (min ((16 : Int)).toNat (IntKind.u64).bits) = 65536 := by decide +kernel
  unfold l7
  rw [e]
  split
  · rw [wrap_i64 _ (by omega) (by omega), Int.fdiv_eq_ediv_of_nonneg _ (by omega)]
    obtain ⟨k, h1, h2, h3⟩ := l15_is (x := x / 65536) (n := n + 16) (by omega) (by omega) (by omega) (by omega)
    exact ⟨16 + k, by rw [h1]; omega, by omega, h3.up (c := 65536) (by decide) (by omega) (by omega)⟩
  · obtain ⟨k, h1, h2, h3⟩ := l15_is (x := x) (n := n) (by omega) (by omega) (by omega) (by omega)
    exact ⟨k, h1, by omega, h3⟩
theorem lenF_is {x : Int} (h0 : 0 ≤ x) (h : x ≤ 4611686018427387904) : ∃ k : Nat, lenF x = k ∧ k ≤ 64 ∧ IsLen x k := by
  have e : (2 : Int) ^ (min ((32 : Int)).toNat (IntKind.u64).bits) = 4294967296 := by decide +kernel
  unfold lenF
  rw [e]
  split
  · rw [Int.fdiv_eq_ediv_of_nonneg _ (by omega)]
    obtain ⟨k, h1, h2, h3⟩ := l7_is (x := x / 4294967296) (n := 32) (by omega) (by omega) (by omega) (by omega)
    exact ⟨32 + k, by rw [h1]; omega, by omega, h3.up (c := 4294967296) (by decide) (by omega) (by omega)⟩
  · obtain ⟨k, h1, h2, h3⟩ := l7_is (x := x) (n := 0) (by omega) (by omega) (by omega) (by omega)
    exact ⟨k, by rw [h1]; omega, by omega, h3⟩

/-! ### Rounding -/
theorem rtaken_v {a s : Int} {Q : Int × Int → Prop} (h : Q (valF a, shF s)) : pedagogueref1_taken a s Q := by
  have hr := shF_rng s
  refine ⟨⟨⟨?_⟩⟩⟩
  show Q (valF a, IntKind.u64.wrap (shF s))
  rw [wrap_u64 _ (by omega) (by omega)]
  exact h
theorem rbits_v {a : Int} {Q : Int → Prop} (h : Q (bitF a)) : pedagogueref1_Bits a Q := by
  refine ⟨?_⟩
  unfold pedagogueref1_Bits_t
  refine rtaken_v ?_
  show pedagogueref1_Bits_n0 (fun y => Q y) (0, greater (valF a) (IntKind.i64.wrap (0 - valF a)))
  have hv := valF_rng a
  unfold bitF at h
  rw [wrap_i64 (0 - valF a) (by omega) (by omega)] at h ⊢
  have hg : 0 ≤ greater (valF a) (0 - valF a) ∧ greater (valF a) (0 - valF a) ≤ 4611686018427387904 := by
    unfold greater; split <;> omega
  generalize greater (valF a) (0 - valF a) = g at hg h ⊢
  rw [wrap_u64 g (by omega) (by omega)] at h
  obtain ⟨k, e1, e2, e3, e4⟩ := lenF_is hg.1 hg.2
  rw [e1] at h
  refine ⟨?_⟩
  have eg : ((0 : Int), g) = (fun i : Nat => ((i : Int), g / 2 ^ i)) 0 := by simp
  rw [eg]
  refine Loop.range (B := pedagogueref1_Bits_n0_B _) (f := fun i : Nat => ((i : Int), g / 2 ^ i)) k (fun _ => True) trivial ?_ ?_
  · intro i hi _ X hX
    have hX := hX trivial
    unfold pedagogueref1_Bits_n0_B
    have p1 := pow2_le (i + 1) k hi
    have p2 := (pow2_le i i (Nat.le_refl _)).1
    have hpos : 0 < g / 2 ^ i := by
      rw [Int.pow_succ] at p1
      have : 1 ≤ g / 2 ^ i := (Int.le_ediv_iff_mul_le (by omega)).2 (by omega)
      omega
    rw [if_pos (decide_eq_true (show 0 < g / 2 ^ i from hpos))]
    refine ⟨by omega, ?_⟩
    have e : (2 : Int) ^ (min ((1 : Int)).toNat (IntKind.i64).bits) = 2 := by decide +kernel
    have e5 : g / 2 ^ (i + 1) = (g / 2 ^ i).fdiv 2 := by
      rw [Int.fdiv_eq_ediv_of_nonneg _ (by omega), Int.pow_succ, Int.ediv_ediv, if_neg (by omega), Int.sub_zero]
    simp only [e]
    rw [wrap_i64 ((i : Int) + 1) (by omega) (by omega), ← e5]
    exact hX
  · intro _ X
    unfold pedagogueref1_Bits_n0_B
    have : g / 2 ^ k = 0 := Int.ediv_eq_zero_of_lt hg.1 e3
    simp only [this]
    rw [if_neg (by simp)]
    exact h
theorem mix_mono {a : Int} {P P' : Int → Prop} (h : prng_Mix a P) (k : ∀ r, P r → P' r) : pedagogueref1_Mix a P' := ⟨⟨h.1, h.2.1, h.2.2.1, k _ h.2.2.2⟩⟩
theorem rat_v {a b c : Int} {Q : Int → Prop} (h : Q (atF a b c)) : pedagogueref1_At a b c Q := ⟨mix_mono (at_v h) fun r1 h1 => mix_mono h1 fun r2 h2 => mix_mono h2 fun r3 h3 => h3⟩
theorem rchance_v {a s r : Int} {Q : Int → Prop} (h : Q (chF a s r)) : pedagogueref1_Chance a s r Q := ⟨rtaken_v ⟨(shF_rng s).1, (shF_rng s).1, h⟩⟩
theorem top_k : ∀ i : Fin 32, 0 ≤ IntKind.i64.wrap ((IntKind.i64.wrap (1 * 2 ^ (min (IntKind.i64.wrap (((i.1 : Int) + 1) - 1)).toNat (IntKind.i64).bits))) - 1) ∧ IntKind.i64.wrap ((IntKind.i64.wrap (1 * 2 ^ (min (IntKind.i64.wrap (((i.1 : Int) + 1) - 1)).toNat (IntKind.i64).bits))) - 1) ≤ 2147483647 := by decide +kernel
theorem topF_rng (b : Int) : 0 ≤ topF b ∧ topF b ≤ 2147483647 := by
  have hr := b32_rng b
  have := top_k ⟨(b32 b - 1).toNat, by omega⟩
  simp only at this
  rw [show (((b32 b - 1).toNat : Nat) : Int) + 1 = b32 b by omega] at this
  exact this
theorem rclamp_v {a b : Int} {Q : Int → Prop} (h : Q (clF a b)) : pedagogueref1_Clamp a b Q := by
  have hr := b32_rng b
  have ht := topF_rng b
  refine ⟨⟨?_⟩⟩
  have ew : IntKind.u64.wrap (IntKind.i64.wrap (b32 b - 1)) = IntKind.i64.wrap (b32 b - 1) := by
    rw [wrap_i64 _ (by omega) (by omega), wrap_u64 _ (by omega) (by omega)]
  show ck (0 ≤ IntKind.u64.wrap (IntKind.i64.wrap (b32 b - 1))) (pedagogueref1_within a (IntKind.i64.wrap (0 - IntKind.i64.wrap ((IntKind.i64.wrap (1 * 2 ^ (min (IntKind.u64.wrap (IntKind.i64.wrap (b32 b - 1))).toNat (IntKind.i64).bits))) - 1))) (IntKind.i64.wrap ((IntKind.i64.wrap (1 * 2 ^ (min (IntKind.u64.wrap (IntKind.i64.wrap (b32 b - 1))).toNat (IntKind.i64).bits))) - 1)) (fun r => Q r))
  rw [ew]
  refine ⟨by rw [wrap_i64 _ (by omega) (by omega)]; omega, ⟨?_⟩⟩
  show Q (greater (IntKind.i64.wrap (0 - topF b)) (smaller a (topF b)))
  have e : clF a b = greater (IntKind.i64.wrap (0 - topF b)) (smaller a (topF b)) := by
    unfold clF
    rw [wrap_i64 (0 - topF b) (by omega) (by omega)]
    unfold valF greater smaller
    generalize topF b = t at ht
    split <;> split <;> split <;> split <;> (try split) <;> omega
  rw [← e]
  exact h

/-! ### Streams, widths, small sums -/
theorem rmayAcc_v {a : T3} {Q : Bool → Prop} (h : Q (mayAccF a)) : pedagogueref1_MayAcc a Q := by
  refine ⟨?_⟩
  unfold pedagogueref1_MayAcc_t
  refine mayDims_v ?_
  refine and_v (b := decide (0 < szF a.1)) (c := ((a.2.2.length : Int) == szF a.1)) (fun P hp => rsize_v hp) (fun v e => ?_) rfl
  have : mayAccF a = ((v && decide (-128 ≤ a.2.1)) && decide (a.2.1 ≤ 128)) := by
    unfold mayAccF expF
    rw [e, wrap_i64 (0 - 128) (by omega) (by omega), Bool.and_assoc _ (decide (-128 ≤ a.2.1))]
    rfl
  rw [← this]
  exact h
theorem rwidth_v {a : T3} {Q : Int → Prop} (h : Q (widthF a)) : pedagogueref1_Width a Q := by
  refine ⟨?_⟩
  unfold pedagogueref1_Width_t
  refine rmayAcc_v (a := a) ?_
  unfold widthF at h
  cases hm : mayAccF a with
  | false =>
    rw [hm] at h
    exact h
  | true =>
    rw [hm, if_pos rfl] at h
    rw [if_neg (by simp)]
    obtain ⟨_, _, _, _, hlen⟩ := mayAccF_len hm
    refine ⟨?_⟩
    refine Loop.range (B := pedagogueref1_Width_n0_B a.2.2 (a.2.2.length : Int) fun y => Q y) a.2.2.length (fun i => (wideF (a.2.2.take i), (i : Int))) (fun _ => True) trivial ?_ ?_
    · intro i hi _ X hX
      unfold pedagogueref1_Width_n0_B
      rw [if_pos (decide_eq_true (show (i : Int) < (a.2.2.length : Int) by omega))]
      refine ⟨by simp only []; omega, rbits_v ?_⟩
      have := hX trivial
      rw [wideF_take _ _ hi] at this
      simp only [Int.toNat_natCast]
      rw [wrap_i64 ((i : Int) + 1) (by omega) (by omega)]
      exact this
    · intro _ X
      unfold pedagogueref1_Width_n0_B
      rw [if_neg (by simp)]
      simp only [List.take_length]
      exact h
theorem rsmall_v {a : T3} {b s t : Int} {Q : T3 × Int → Prop} (h : Q (smallF a b s t)) : pedagogueref1_Small a b s t Q := by
  refine ⟨?_⟩
  unfold pedagogueref1_Small_t
  refine rmayAcc_v (a := a) ?_
  unfold smallF at h
  by_cases e : ((!(mayAccF a) || (decide (b < 2))) || (decide (8 < b))) = true
  · rw [if_pos e] at h ⊢; exact h
  · rw [if_neg e] at h ⊢
    have hm : mayAccF a = true := by
      cases hm : mayAccF a with
      | true => rfl
      | false => exfalso; apply e; rw [hm]; rfl
    obtain ⟨_, _, h3, h4, hlen⟩ := mayAccF_len hm
    refine rwidth_v (a := a) ⟨by omega, ?_⟩
    show (if (decide (IntKind.i64.wrap (a.2.1 + shiftF a b) < -64) || decide (64 < IntKind.i64.wrap (a.2.1 + shiftF a b))) = true then _ else _)
    rw [expF64, Bool.not_not] at h
    by_cases e2 : (decide (IntKind.i64.wrap (a.2.1 + shiftF a b) < -64) || decide (64 < IntKind.i64.wrap (a.2.1 + shiftF a b))) = true
    · rw [if_pos e2] at h ⊢; exact h
    · rw [if_neg e2] at h ⊢
      refine ⟨?_⟩
      refine Loop.range (B := pedagogueref1_Small_n0_B b s t (shiftF a b) a.2.2 (a.2.2.length : Int) _) (f := fun i : Nat => ((i : Int), (List.range i).map (cellF b s t (shiftF a b) a.2.2))) a.2.2.length (fun _ => True) trivial ?_ ?_
      · intro i hi _ X hX
        unfold pedagogueref1_Small_n0_B
        rw [if_pos (decide_eq_true (show (i : Int) < (a.2.2.length : Int) by omega))]
        refine ⟨by simp only []; omega, rat_v (rchance_v (rclamp_v ⟨?_, ?_⟩))⟩
        · simp only [List.length_map, List.length_range, List.length_singleton]
          omega
        · have := hX trivial
          simp only [List.range_succ, List.map_append, List.map_cons, List.map_nil] at this
          simp only [Int.toNat_natCast]
          rw [wrap_i64 ((i : Int) + 1) (by omega) (by omega)]
          exact this
      · intro _ X
        unfold pedagogueref1_Small_n0_B
        rw [if_neg (by simp)]
        exact h

/-! ### The same, however long -/
theorem sintsB_v {a b : List Int} {Q : Bool → Prop} (hl : a.length ≤ 1000000000000000) (h : Q (decide (a = b))) : pedagogueref1_SameInts a b Q := by
  refine ⟨?_⟩
  unfold pedagogueref1_SameInts_t
  by_cases e : a.length = b.length
  · rw [if_neg (by simp [e])]
    refine ⟨?_⟩
    refine Loop.range (B := pedagogueref1_SameInts_n0_B a b (a.length : Int) (fun _ => Q true) (fun _ => Q false)) a.length (fun i => (i : Int)) (fun i => ∀ j, j < i → a.getD j 0 = b.getD j 0) (fun j hj => absurd hj (by omega)) ?_ ?_
    · intro i hi hI X hX
      unfold pedagogueref1_SameInts_n0_B
      rw [if_pos (decide_eq_true (show (i : Int) < (a.length : Int) by omega))]
      refine ⟨by omega, by omega, ?_⟩
      simp only [Int.toNat_natCast]
      by_cases hd : a.getD i 0 = b.getD i 0
      · rw [if_neg (by simpa using hd), wrap_i64 _ (by omega) (by omega)]
        refine hX fun j hj => ?_
        by_cases hji : j = i
        · subst hji; exact hd
        · exact hI j (by omega)
      · rw [if_pos (by simpa using hd)]
        have : decide (a = b) = false := by
          simp only [decide_eq_false_iff_not]
          intro hab; exact hd (by rw [hab])
        rw [this] at h; exact h
    · intro hI X
      unfold pedagogueref1_SameInts_n0_B
      rw [if_neg (by simp)]
      have : decide (a = b) = true := by
        simp only [decide_eq_true_eq]
        refine List.ext_getElem e fun i h1 h2 => ?_
        have := hI i h1
        rw [List.getD_eq_getElem?_getD, List.getD_eq_getElem?_getD, List.getElem?_eq_getElem h1, List.getElem?_eq_getElem h2] at this
        exact this
      rw [this] at h; exact h
  · rw [if_pos (by simp; omega)]
    have : decide (a = b) = false := by
      simp only [decide_eq_false_iff_not]
      intro hab; exact e (by rw [hab])
    rw [this] at h; exact h

/-! ### The step's loops -/
/-! ### The law -/
end Go.Proofs.YtejbkafligpmbaaDoor

