/- Whole numbers as words of 64-bit floating point: what is done on words below 2^53 is done on the numbers. Laws; no condition. -/
import GoSem.Core.Float
import Derived.Laws.ComplexArith
namespace Go.Fl
open Ieee
set_option maxRecDepth 100000
set_option linter.unusedVariables false
set_option linter.unusedSimpArgs false

def sg (s : Bool) (m : Nat) : Int := if s = true then -(m : Int) else (m : Int)
/-- A datum that is a whole number. -/
def Stands (d : Datum) (n : Int) : Prop := ∃ s m e, d = .number s m e ∧ sg s m * 2 ^ e.toNat = n * 2 ^ (-e).toNat
/-- A word that is a whole number's. -/
def Word (x : Nat) (n : Int) : Prop := Stands (double.read x) n

theorem pw (a : Nat) : ((2 ^ a : Nat) : Int) = 2 ^ a := by rw [Int.natCast_pow]; rfl
theorem sg_abs (s : Bool) (m : Nat) : (sg s m).natAbs = m := by
  unfold sg; split <;> omega
theorem sg_natAbs (n : Int) : sg (decide (n < 0)) n.natAbs = n := by
  unfold sg
  by_cases h : n < 0
  · rw [decide_eq_true h, if_pos rfl]; omega
  · rw [decide_eq_false h, if_neg (by simp)]; omega
theorem stands_abs {s : Bool} {m : Nat} {e n : Int} (h : sg s m * 2 ^ e.toNat = n * 2 ^ (-e).toNat) : m * 2 ^ e.toNat = n.natAbs * 2 ^ (-e).toNat := by
  have := congrArg Int.natAbs h
  rw [Int.natAbs_mul, Int.natAbs_mul, sg_abs, ← pw, ← pw, Int.natAbs_natCast, Int.natAbs_natCast] at this
  exact this
theorem log2_mul (m p : Nat) (hm : m ≠ 0) : (m * 2 ^ p).log2 = m.log2 + p := by
  have hp : 0 < 2 ^ p := Nat.pow_pos (by omega)
  rw [Nat.log2_eq_iff (Nat.mul_ne_zero hm (by omega))]
  have h1 := Nat.log2_self_le hm
  have h2 := @Nat.lt_log2_self m
  constructor
  · rw [Nat.pow_add]; exact Nat.mul_le_mul_right _ h1
  · rw [show m.log2 + p + 1 = (m.log2 + 1) + p by omega, Nat.pow_add]; exact Nat.mul_lt_mul_of_pos_right h2 hp

/-- To write a whole number below 2^53 and to read it. -/
theorem read_word {neg : Bool} {K M : Nat} (hK : K ≤ 52) (h1 : 2 ^ 52 ≤ M) (h2 : M < 2 ^ 53) : double.read (double.word neg ((K + 1022) * 2 ^ 52 + M)) = .number neg M ((K : Int) - 52) := by
  have hr1 : (K + 1022) * 2 ^ 52 + M < 2 ^ 63 := by omega
  have e1 : double.word neg ((K + 1022) * 2 ^ 52 + M) % double.signWeight = (K + 1022) * 2 ^ 52 + M := by
    unfold Format.word
    show _ % 2 ^ 63 = _
    cases neg with
    | true => rw [if_pos rfl]; show (2 ^ 63 + _) % 2 ^ 63 = _; omega
    | false => rw [if_neg (by simp)]; omega
  have e2 : (double.word neg ((K + 1022) * 2 ^ 52 + M) / double.signWeight % 2 == 1) = neg := by
    unfold Format.word
    show (_ / 2 ^ 63 % 2 == 1) = _
    cases neg with
    | true =>
      rw [if_pos rfl]
      show ((2 ^ 63 + _) / 2 ^ 63 % 2 == 1) = true
      rw [show (2 ^ 63 + ((K + 1022) * 2 ^ 52 + M)) / 2 ^ 63 = 1 by omega]
      rfl
    | false =>
      rw [if_neg (by simp), show ((K + 1022) * 2 ^ 52 + M) / 2 ^ 63 = 0 by omega]
      rfl
  have e3 : double.binade = 2 ^ 52 := rfl
  have e4 : double.infRung = 2047 * 2 ^ 52 := by decide
  have e5 : double.leastPlace = -1074 := by decide
  unfold Format.read
  rw [e1, e2, e3, e4, e5]
  simp only
  rw [if_neg (by omega), if_pos (by omega)]
  have d1 : ((K + 1022) * 2 ^ 52 + M) / 2 ^ 52 = K + 1023 := by omega
  have d2 : ((K + 1022) * 2 ^ 52 + M) % 2 ^ 52 = M - 2 ^ 52 := by omega
  rw [d1, d2, show 2 ^ 52 + (M - 2 ^ 52) = M by omega, show (-1074 : Int) + ((K + 1023 - 1 : Nat) : Int) = (K : Int) - 52 by omega]

theorem cut_exact {neg : Bool} {low drop : Nat} {way : Toward} : way.cut neg (low * 2 ^ drop) drop = low := by
  unfold Toward.cut
  by_cases h0 : low = 0
  · subst h0
    rw [Nat.zero_mul]
    have hg : 0 < 1 <<< min drop (Nat.log2 0 + 2) := by rw [Nat.shiftLeft_eq, Nat.one_mul]; exact Nat.pow_pos (by omega)
    generalize 1 <<< min drop (Nat.log2 0 + 2) = g at hg
    simp only [Nat.zero_div, Nat.zero_mod]
    cases way <;> simp <;> omega
  · have hp : 0 < 2 ^ drop := Nat.pow_pos (by omega)
    have hl : min drop ((low * 2 ^ drop).log2 + 2) = drop := by
      rw [log2_mul low drop h0]; omega
    rw [hl, Nat.shiftLeft_eq, Nat.one_mul]
    simp only [Nat.mul_div_cancel _ hp, Nat.mul_mod_left]
    cases way <;> simp <;> omega

theorem write_read {d : Datum} {n : Int} (h : Stands d n) (hn : n.natAbs < 2 ^ 53) : Word (double.write d) n := by
  obtain ⟨s, m, e, rfl, he⟩ := h
  have ha := stands_abs he
  have hpe : 0 < 2 ^ e.toNat := Nat.pow_pos (by omega)
  have hpe' : 0 < 2 ^ (-e).toNat := Nat.pow_pos (by omega)
  unfold Word
  show Stands (double.read (double.nearest s m e)) n
  unfold Format.nearest
  by_cases hm : m = 0
  · rw [if_pos hm]
    subst hm
    have hn0 : n = 0 := by
      rw [Nat.zero_mul] at ha
      have : n.natAbs = 0 := (Nat.mul_eq_zero.1 ha.symm).resolve_right (by omega)
      omega
    subst hn0
    have : double.read (double.word s 0) = .number s 0 (-1074) := by cases s <;> decide +kernel
    rw [this]
    refine ⟨s, 0, -1074, rfl, ?_⟩
    rw [show sg s 0 = 0 by cases s <;> rfl, Int.zero_mul, Int.zero_mul]
  · rw [if_neg hm]
    have hn0 : n.natAbs ≠ 0 := by
      intro h0
      rw [h0, Nat.zero_mul] at ha
      exact hm ((Nat.mul_eq_zero.1 ha).resolve_right (by omega))
    obtain ⟨N, hN⟩ : ∃ N, n.natAbs = N := ⟨_, rfl⟩
    rw [hN] at ha hn hn0
    obtain ⟨K, hKe⟩ : ∃ K, N.log2 = K := ⟨_, rfl⟩
    have hK : K ≤ 52 := by
      have := (Nat.log2_lt hn0).2 hn
      omega
    have hlog : (m.log2 : Int) + e = K := by
      have := congrArg Nat.log2 ha
      rw [log2_mul m _ hm, log2_mul N _ hn0] at this
      omega
    have hf : (double.fractionBits : Int) = 52 := rfl
    have e5 : double.leastPlace = -1074 := by decide
    have hlast : max (e + m.log2 - double.fractionBits) double.leastPlace = (K : Int) - 52 := by
      rw [hf, e5]; omega
    simp only
    rw [hlast]
    have hkept : Toward.even.cut s (m <<< (e - ((K : Int) - 52)).toNat) ((K : Int) - 52 - e).toNat = N * 2 ^ (52 - K) := by
      rw [Nat.shiftLeft_eq]
      by_cases hc : (K : Int) - 52 ≤ e
      · rw [show ((K : Int) - 52 - e).toNat = 0 by omega]
        have e1 : m * 2 ^ (e - ((K : Int) - 52)).toNat = N * 2 ^ (52 - K) := by
          have hp : 0 < 2 ^ (-e).toNat := hpe'
          apply Nat.eq_of_mul_eq_mul_right hp
          rw [Nat.mul_assoc, Nat.mul_assoc, ← Nat.pow_add, Nat.mul_comm (2 ^ (52 - K)), ← Nat.mul_assoc, ← ha, Nat.mul_assoc, ← Nat.pow_add]
          congr 2
          omega
        rw [e1]
        have := @cut_exact s (N * 2 ^ (52 - K)) 0 .even
        rw [Nat.pow_zero, Nat.mul_one] at this
        exact this
      · rw [show (e - ((K : Int) - 52)).toNat = 0 by omega, Nat.pow_zero, Nat.mul_one]
        have e1 : m = N * 2 ^ (52 - K) * 2 ^ ((K : Int) - 52 - e).toNat := by
          have h0 : e.toNat = 0 := by omega
          rw [h0, Nat.pow_zero, Nat.mul_one] at ha
          rw [ha, Nat.mul_assoc, ← Nat.pow_add]
          congr 2
          omega
        rw [e1]
        exact cut_exact
    rw [hkept, e5, show ((K : Int) - 52 - -1074).toNat = K + 1022 by omega]
    have b1 : 2 ^ 52 ≤ N * 2 ^ (52 - K) := by
      have := Nat.mul_le_mul_right (2 ^ (52 - K)) (Nat.log2_self_le hn0)
      rw [hKe, ← Nat.pow_add, show K + (52 - K) = 52 by omega] at this
      exact this
    have b2 : N * 2 ^ (52 - K) < 2 ^ 53 := by
      have := Nat.mul_lt_mul_of_pos_right (@Nat.lt_log2_self N) (show 0 < 2 ^ (52 - K) from Nat.pow_pos (by omega))
      rw [hKe, ← Nat.pow_add, show K + 1 + (52 - K) = 53 by omega] at this
      exact this
    have hmin : min ((K + 1022) * double.binade + N * 2 ^ (52 - K)) double.infRung = (K + 1022) * 2 ^ 52 + N * 2 ^ (52 - K) := by
      rw [show double.binade = 2 ^ 52 from rfl, show double.infRung = 2047 * 2 ^ 52 by decide]
      generalize N * 2 ^ (52 - K) = M at b1 b2 ⊢
      exact Nat.min_eq_left (by omega)
    rw [hmin, read_word hK b1 b2]
    refine ⟨s, _, _, rfl, ?_⟩
    have hs : sg s (N * 2 ^ (52 - K)) = n * 2 ^ (52 - K) := by
      -- the sign is the number's
      have hp : (0 : Int) < 2 ^ e.toNat := Int.pow_pos (by omega)
      have hp' : (0 : Int) < 2 ^ (-e).toNat := Int.pow_pos (by omega)
      unfold sg at he ⊢
      rw [Int.natCast_mul, pw]
      cases s with
      | true =>
        rw [if_pos rfl] at he ⊢
        have hneg : n < 0 := by
          have h1 : (-(m : Int)) * 2 ^ e.toNat < 0 := Int.mul_neg_of_neg_of_pos (by omega) hp
          rw [he] at h1
          rcases Int.lt_or_le n 0 with h | h
          · exact h
          · have := Int.mul_nonneg h (Int.le_of_lt hp'); omega
        rw [← Int.neg_mul, show -(N : Int) = n by omega]
      | false =>
        rw [if_neg (by simp)] at he ⊢
        have hpos : 0 ≤ n := by
          have h1 : 0 ≤ (m : Int) * 2 ^ e.toNat := Int.mul_nonneg (by omega) (Int.le_of_lt hp)
          rw [he] at h1
          rcases Int.lt_or_le n 0 with h | h
          · have := Int.mul_neg_of_neg_of_pos h hp'; omega
          · exact h
        rw [show (N : Int) = n by omega]
    rw [hs, show ((K : Int) - 52).toNat = 0 by omega, show (-((K : Int) - 52)).toNat = 52 - K by omega, Int.pow_zero, Int.mul_one]

/-! ### What is done -/
theorem stands_sign {s : Bool} {m : Nat} {e n : Int} (he : sg s m * 2 ^ e.toNat = n * 2 ^ (-e).toNat) : sg s n.natAbs = n := by
  have hp : (0 : Int) < 2 ^ e.toNat := Int.pow_pos (by omega)
  have hp' : (0 : Int) < 2 ^ (-e).toNat := Int.pow_pos (by omega)
  unfold sg at he ⊢
  cases s with
  | true =>
    rw [if_pos rfl] at he ⊢
    have h1 : (-(m : Int)) * 2 ^ e.toNat ≤ 0 := Int.mul_nonpos_of_nonpos_of_nonneg (by omega) (Int.le_of_lt hp)
    rw [he] at h1
    rcases Int.lt_or_le 0 n with h | h
    · have := Int.mul_pos h hp'; omega
    · omega
  | false =>
    rw [if_neg (by simp)] at he ⊢
    have h1 : 0 ≤ (m : Int) * 2 ^ e.toNat := Int.mul_nonneg (by omega) (Int.le_of_lt hp)
    rw [he] at h1
    rcases Int.lt_or_le n 0 with h | h
    · have := Int.mul_neg_of_neg_of_pos h hp'; omega
    · omega
theorem signed_is (s : Bool) (m up : Nat) : signed s m up = sg s m * 2 ^ up := by
  unfold signed sg
  rw [Nat.shiftLeft_eq, Int.natCast_mul, pw]
  cases s <;> simp [Int.neg_mul]
theorem shift {S a i base : Int} (h : S * 2 ^ i.toNat = a * 2 ^ (-i).toNat) (hb : base ≤ i) : S * 2 ^ (i - base).toNat * 2 ^ base.toNat = a * 2 ^ (-base).toNat := by
  rw [Int.mul_assoc, ← Int.pow_add]
  by_cases h0 : 0 ≤ base
  · rw [show (-base).toNat = 0 by omega, show (i - base).toNat + base.toNat = i.toNat by omega, h, show (-i).toNat = 0 by omega]
  · rw [show base.toNat = 0 by omega, Nat.add_zero]
    by_cases h1 : 0 ≤ i
    · rw [show (i - base).toNat = i.toNat + (-base).toNat by omega, Int.pow_add, ← Int.mul_assoc, h, show (-i).toNat = 0 by omega, Int.pow_zero, Int.mul_one]
    · rw [show i.toNat = 0 by omega, Int.pow_zero, Int.mul_one] at h
      rw [h, Int.mul_assoc, ← Int.pow_add, show (-i).toNat + (i - base).toNat = (-base).toNat by omega]
theorem stands_int (n : Int) : Stands (.number (decide (n < 0)) n.natAbs 0) n := ⟨_, _, _, rfl, by rw [sg_natAbs]; rfl⟩
theorem stands_opp {d : Datum} {n : Int} (h : Stands d n) : Stands d.opposite (-n) := by
  obtain ⟨s, m, e, rfl, he⟩ := h
  refine ⟨!s, m, e, rfl, ?_⟩
  have : sg (!s) m = -sg s m := by cases s <;> simp [sg]
  rw [this, Int.neg_mul, Int.neg_mul, he]
theorem stands_sum {d d' : Datum} {a b : Int} (h : Stands d a) (h' : Stands d' b) : ∃ r, d.sum d' = some r ∧ Stands r (a + b) := by
  obtain ⟨s, m, i, rfl, h1⟩ := h
  obtain ⟨t, n, j, rfl, h2⟩ := h'
  refine ⟨_, rfl, _, _, _, rfl, ?_⟩
  rw [signed_is, signed_is]
  have k1 := shift h1 (show min i j ≤ i by omega)
  have k2 := shift h2 (show min i j ≤ j by omega)
  generalize min i j = base at k1 k2 ⊢
  have hs : ∀ x : Int, sg (if x = 0 then s && t else decide (x < 0)) x.natAbs = x := by
    intro x
    by_cases h0 : x = 0
    · subst h0; simp [sg]
    · rw [if_neg h0]; exact sg_natAbs x
  rw [hs, Int.add_mul, k1, k2, ← Int.add_mul]
theorem stands_product {d d' : Datum} {a b : Int} (h : Stands d a) (h' : Stands d' b) : ∃ r, d.product d' = some r ∧ Stands r (a * b) := by
  obtain ⟨s, m, i, rfl, h1⟩ := h
  obtain ⟨t, n, j, rfl, h2⟩ := h'
  refine ⟨_, rfl, _, _, _, rfl, ?_⟩
  have hs : sg (s ^^ t) (m * n) = sg s m * sg t n := by
    unfold sg
    rw [Int.natCast_mul]
    cases s <;> cases t <;> simp [Int.neg_mul, Int.mul_neg]
  rw [hs]
  generalize sg s m = S at h1 ⊢
  generalize sg t n = T at h2 ⊢
  have hp : (2 : Int) ^ ((-i).toNat + (-j).toNat) ≠ 0 := Int.ne_of_gt (Int.pow_pos (by omega))
  apply Int.eq_of_mul_eq_mul_right hp
  have e1 : S * T * 2 ^ (i.toNat + j.toNat) = a * b * 2 ^ ((-i).toNat + (-j).toNat) := by
    rw [Int.pow_add, Int.pow_add]
    calc S * T * (2 ^ i.toNat * 2 ^ j.toNat) = (S * 2 ^ i.toNat) * (T * 2 ^ j.toNat) := by ac_rfl
      _ = (a * 2 ^ (-i).toNat) * (b * 2 ^ (-j).toNat) := by rw [h1, h2]
      _ = a * b * (2 ^ (-i).toNat * 2 ^ (-j).toNat) := by ac_rfl
  rw [Int.mul_assoc, ← Int.pow_add, show (i + j).toNat + ((-i).toNat + (-j).toNat) = (i.toNat + j.toNat) + (-(i + j)).toNat by omega, Int.pow_add, ← Int.mul_assoc, e1]
  ac_rfl
theorem stands_order {d d' : Datum} {a b : Int} (h : Stands d a) (h' : Stands d' b) : d.order d' = some (compare a b) := by
  obtain ⟨s, m, i, rfl, h1⟩ := h
  obtain ⟨t, n, j, rfl, h2⟩ := h'
  show some (compare (signed s m (i - min i j).toNat) (signed t n (j - min i j).toNat)) = _
  rw [signed_is, signed_is]
  have k1 := shift h1 (show min i j ≤ i by omega)
  have k2 := shift h2 (show min i j ≤ j by omega)
  generalize min i j = base at k1 k2 ⊢
  generalize sg s m * 2 ^ (i - base).toNat = x at k1 ⊢
  generalize sg t n * 2 ^ (j - base).toNat = y at k2 ⊢
  have hp : (0 : Int) < 2 ^ base.toNat := Int.pow_pos (by omega)
  have hp' : (0 : Int) < 2 ^ (-base).toNat := Int.pow_pos (by omega)
  have hlt : x < y ↔ a < b := by
    constructor
    · intro h
      have := Int.mul_lt_mul_of_pos_right h hp
      rw [k1, k2] at this
      exact Int.lt_of_mul_lt_mul_right this (Int.le_of_lt hp')
    · intro h
      have := Int.mul_lt_mul_of_pos_right h hp'
      rw [← k1, ← k2] at this
      exact Int.lt_of_mul_lt_mul_right this (Int.le_of_lt hp)
  have heq : x = y ↔ a = b := by
    constructor
    · intro h
      rw [h, k2] at k1
      exact (Int.eq_of_mul_eq_mul_right (Int.ne_of_gt hp') k1).symm
    · intro h
      rw [h, ← k2] at k1
      exact Int.eq_of_mul_eq_mul_right (Int.ne_of_gt hp) k1
  congr 1
  show compareOfLessAndEq x y = compareOfLessAndEq a b
  unfold compareOfLessAndEq
  simp only [hlt, heq]
theorem stands_toInt {d : Datum} {n : Int} (h : Stands d n) : d.toInt .zero = some n := by
  obtain ⟨s, m, e, rfl, he⟩ := h
  show some (signed s (Toward.zero.cut s (m <<< e.toNat) (-e).toNat) 0) = _
  rw [Nat.shiftLeft_eq, stands_abs he, cut_exact, signed_is, Int.pow_zero, Int.mul_one, stands_sign he]

/-! ### Words -/
theorem word_int {n : Int} (hn : n.natAbs < 2 ^ 53) : Word (FloatKind.f64.nearest n) n := write_read (stands_int n) hn
theorem word_add {x y : Nat} {a b : Int} (h : Word x a) (h' : Word y b) (hn : (a + b).natAbs < 2 ^ 53) : ∃ r, double.add x y = some r ∧ Word r (a + b) := by
  obtain ⟨d, h1, h2⟩ := stands_sum h h'
  exact ⟨_, by unfold Format.add; rw [h1]; rfl, write_read h2 hn⟩
theorem word_sub {x y : Nat} {a b : Int} (h : Word x a) (h' : Word y b) (hn : (a - b).natAbs < 2 ^ 53) : ∃ r, double.sub x y = some r ∧ Word r (a - b) := by
  obtain ⟨d, h1, h2⟩ := stands_sum h (stands_opp h')
  exact ⟨_, by unfold Format.sub; rw [h1]; rfl, write_read (by rw [Int.sub_eq_add_neg]; exact h2) hn⟩
theorem word_mul {x y : Nat} {a b : Int} (h : Word x a) (h' : Word y b) (hn : (a * b).natAbs < 2 ^ 53) : ∃ r, double.mul x y = some r ∧ Word r (a * b) := by
  obtain ⟨d, h1, h2⟩ := stands_product h h'
  exact ⟨_, by unfold Format.mul; rw [h1]; rfl, write_read h2 hn⟩
theorem word_order {x y : Nat} {a b : Int} (h : Word x a) (h' : Word y b) : double.order x y = some (compare a b) := stands_order h h'
theorem word_toInt {x : Nat} {a : Int} (h : Word x a) : (double.read x).toInt .zero = some a := stands_toInt h

/-! ### Complex numbers -/
def CWord (z : Nat × Nat) (a b : Int) : Prop := Word z.1 a ∧ Word z.2 b
theorem cword_add {x y : Nat × Nat} {a b c d : Int} (h : CWord x a b) (h' : CWord y c d) (h1 : (a + c).natAbs < 2 ^ 53) (h2 : (b + d).natAbs < 2 ^ 53) : ∃ r, cSumBits .add .f64 x.1 x.2 y.1 y.2 = some r ∧ CWord r (a + c) (b + d) := by
  obtain ⟨u, u1, u2⟩ := word_add h.1 h'.1 h1
  obtain ⟨v, v1, v2⟩ := word_add h.2 h'.2 h2
  refine ⟨(u, v), ?_, u2, v2⟩
  have e1 : floatBits .add .f64 x.1 y.1 = some u := u1
  have e2 : floatBits .add .f64 x.2 y.2 = some v := v1
  unfold cSumBits
  rw [e1, e2]
  rfl
theorem cword_sub {x y : Nat × Nat} {a b c d : Int} (h : CWord x a b) (h' : CWord y c d) (h1 : (a - c).natAbs < 2 ^ 53) (h2 : (b - d).natAbs < 2 ^ 53) : ∃ r, cSumBits .sub .f64 x.1 x.2 y.1 y.2 = some r ∧ CWord r (a - c) (b - d) := by
  obtain ⟨u, u1, u2⟩ := word_sub h.1 h'.1 h1
  obtain ⟨v, v1, v2⟩ := word_sub h.2 h'.2 h2
  refine ⟨(u, v), ?_, u2, v2⟩
  have e1 : floatBits .sub .f64 x.1 y.1 = some u := u1
  have e2 : floatBits .sub .f64 x.2 y.2 = some v := v1
  unfold cSumBits
  rw [e1, e2]
  rfl
theorem cword_mul {x y : Nat × Nat} {a b c d : Int} (h : CWord x a b) (h' : CWord y c d) (h1 : (a * c).natAbs < 2 ^ 52) (h2 : (b * d).natAbs < 2 ^ 52) (h3 : (a * d).natAbs < 2 ^ 52) (h4 : (b * c).natAbs < 2 ^ 52) :
    ∃ r, cMulBits x.1 x.2 y.1 y.2 = some r ∧ CWord r (a * c - b * d) (a * d + b * c) := by
  obtain ⟨p, p1, p2⟩ := word_mul h.1 h'.1 (by omega)
  obtain ⟨q, q1, q2⟩ := word_mul h.2 h'.2 (by omega)
  obtain ⟨u, u1, u2⟩ := word_sub p2 q2 (by omega)
  obtain ⟨s, s1, s2⟩ := word_mul h.1 h'.2 (by omega)
  obtain ⟨t, t1, t2⟩ := word_mul h.2 h'.1 (by omega)
  obtain ⟨v, v1, v2⟩ := word_add s2 t2 (by omega)
  refine ⟨(u, v), ?_, u2, v2⟩
  have e1 : floatBits .mul .f64 x.1 y.1 = some p := p1
  have e2 : floatBits .mul .f64 x.2 y.2 = some q := q1
  have e3 : floatBits .sub .f64 p q = some u := u1
  have e4 : floatBits .mul .f64 x.1 y.2 = some s := s1
  have e5 : floatBits .mul .f64 x.2 y.1 = some t := t1
  have e6 : floatBits .add .f64 s t = some v := v1
  unfold cMulBits
  simp only [e1, e2, e3, e4, e5, e6, Option.bind_some]
theorem word_int64 {n : Int} (hn : n.natAbs < 2 ^ 53) : Word (floatOfInt .f64 n) n := word_int hn
theorem int_of_word {x : Nat} {n : Int} (h : Word x n) (h1 : -9223372036854775808 ≤ n) (h2 : n ≤ 9223372036854775807) : floatToIntVal .f64 x .i64 = some n := by
  unfold floatToIntVal
  have : (FloatKind.f64.decode x).toInt .zero = some n := word_toInt h
  rw [this]
  simp only
  rw [if_pos ⟨by show IntKind.i64.min ≤ n; have : IntKind.i64.min = -9223372036854775808 := by decide
                 omega, by show n ≤ IntKind.i64.max; have : IntKind.i64.max = 9223372036854775807 := by decide
                           omega⟩]
theorem order_of_words {x y : Nat} {a b : Int} (h : Word x a) (h' : Word y b) : FloatKind.f64.format.order x y = some (compare a b) := word_order h h'

end Go.Fl
