/- Places as pairs of whole numbers: what place.Of, place.To come to. Laws; no condition. -/
import Derived.Test.YtmleeffinagncaaP2
import Derived.Test.YtmleeffinagncaaFl
import Derived.Test.YtmleeffinagncaaVJoin
namespace Go.Proofs.Ytmleeffinagncaa
open Go.Mach Go.RowKit Go.Fl
set_option maxRecDepth 100000
set_option linter.unusedVariables false
set_option linter.unusedSimpArgs false

def inP (a lo hi : Int) : Bool := decide (lo ≤ a) && decide (a ≤ hi)
theorem pin_v {a lo hi : Int} {Q : Bool → Prop} (h : Q (inP a lo hi)) : place_in a lo hi Q := ⟨h⟩
theorem inP_of {a lo hi : Int} (h1 : lo ≤ a) (h2 : a ≤ hi) : inP a lo hi = true := by
  unfold inP
  rw [decide_eq_true h1, decide_eq_true h2]
  rfl
theorem of_v {r c : Int} {Q : Nat × Nat → Prop} (h1 : -1000 ≤ r ∧ r ≤ 1000) (h2 : -1000 ≤ c ∧ c ≤ 1000) (h : ∀ z, CWord z r c → Q z) : place_Of r c Q := by
  refine ⟨?_⟩
  unfold place_Of_t
  refine pin_v ?_
  rw [inP_of h1.1 h1.2]
  simp only [jn, Bool.not_true, Bool.false_eq_true, if_false]
  refine pin_v ?_
  rw [inP_of h2.1 h2.2]
  simp only [Bool.not_true, Bool.false_eq_true, if_false]
  exact h _ ⟨word_int64 (by omega), word_int64 (by omega)⟩
theorem word_lo : Word 13875379345695965184 (-1000) := by
  have : FloatKind.f64.nearest (-1000) = 13875379345695965184 := by decide +kernel
  rw [← this]
  exact word_int (by decide)
theorem word_hi : Word 4652007308841189376 1000 := by
  have : FloatKind.f64.nearest 1000 = 4652007308841189376 := by decide +kernel
  rw [← this]
  exact word_int (by decide)
theorem cmp_ge (a b : Int) : ((some (compare a b) == some Ordering.gt) || (some (compare a b) == some Ordering.eq)) = decide (b ≤ a) := by
  show ((some (compareOfLessAndEq a b) == some Ordering.gt) || (some (compareOfLessAndEq a b) == some Ordering.eq)) = decide (b ≤ a)
  unfold compareOfLessAndEq
  by_cases h1 : a < b
  · rw [if_pos h1, decide_eq_false (by omega)]; rfl
  · rw [if_neg h1]
    by_cases h2 : a = b
    · rw [if_pos h2, decide_eq_true (by omega)]; rfl
    · rw [if_neg h2, decide_eq_true (by omega)]; rfl
theorem cmp_le (a b : Int) : ((some (compare a b) == some Ordering.lt) || (some (compare a b) == some Ordering.eq)) = decide (a ≤ b) := by
  show ((some (compareOfLessAndEq a b) == some Ordering.lt) || (some (compareOfLessAndEq a b) == some Ordering.eq)) = decide (a ≤ b)
  unfold compareOfLessAndEq
  by_cases h1 : a < b
  · rw [if_pos h1, decide_eq_true (by omega)]; rfl
  · rw [if_neg h1]
    by_cases h2 : a = b
    · rw [if_pos h2, decide_eq_true (by omega)]; rfl
    · rw [if_neg h2, decide_eq_false (by omega)]; rfl
theorem cmp_eq (a : Int) : (some (compare a a) == some Ordering.eq) = true := by
  show (some (compareOfLessAndEq a a) == some Ordering.eq) = true
  unfold compareOfLessAndEq
  rw [if_neg (by omega), if_pos rfl]
  rfl
theorem whole_v {x : Nat} {n : Int} {Q : Int × Bool → Prop} (hw : Word x n) (h : Q (if inP n (-1000) 1000 = true then (n, true) else (0, false))) : place_whole x Q := by
  refine ⟨?_⟩
  unfold place_whole_t
  rw [order_of_words hw word_lo, order_of_words hw word_hi, cmp_ge, cmp_le]
  by_cases hi : inP n (-1000) 1000 = true
  · rw [if_pos hi] at h
    unfold inP at hi
    rw [hi, if_neg (by simp)]
    simp only [Bool.and_eq_true, decide_eq_true_eq] at hi
    refine ⟨n, int_of_word hw (by omega) (by omega), ?_⟩
    show Q (n, FloatKind.f64.format.order (floatOfInt .f64 n) x == some Ordering.eq)
    rw [order_of_words (word_int64 (by omega)) hw, cmp_eq]
    exact h
  · rw [if_neg hi] at h
    unfold inP at hi
    have hi2 : (decide (-1000 ≤ n) && decide (n ≤ 1000)) = false := by simpa using hi
    rw [hi2, if_pos (by rfl)]
    exact h
theorem to_v {z : Nat × Nat} {r c : Int} {Q : Int × Int × Bool → Prop} (hz : CWord z r c) (h : Q (if (inP r (-1000) 1000 && inP c (-1000) 1000) = true then (r, c, true) else (0, 0, false))) : place_To z Q := by
  refine ⟨?_⟩
  unfold place_To_t
  refine whole_v hz.1 (whole_v hz.2 ?_)
  cases h1 : inP r (-1000) 1000 <;> cases h2 : inP c (-1000) 1000 <;> rw [h1, h2] at h <;> exact h

end Go.Proofs.Ytmleeffinagncaa
