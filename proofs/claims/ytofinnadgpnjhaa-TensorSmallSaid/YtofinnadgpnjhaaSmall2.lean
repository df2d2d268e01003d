/- The law TensorSmall, plainly. No condition. -/
import Derived.Test.YtofinnadgpnjhaaSmall
namespace Go.Proofs.Ytofinnadgpnjhaa
open Go.Mach Go.RowKit
set_option maxRecDepth 100000
set_option linter.unusedVariables false
set_option linter.unusedSimpArgs false

theorem cell_core {x m P G q : Int} (hP : 0 < P) (hG : 1 ≤ G) (hx : -(P * G) < x) (hx2 : x < P * G) (hm : 0 ≤ m) (hm2 : m < P) (hq : q = (x + m) / P) :
    -(G - 1) ≤ greater (-(G - 1)) (smaller q (G - 1)) ∧ greater (-(G - 1)) (smaller q (G - 1)) ≤ G - 1 ∧ -P < greater (-(G - 1)) (smaller q (G - 1)) * P - x ∧ greater (-(G - 1)) (smaller q (G - 1)) * P - x < P := by
  have d1 := Int.mul_ediv_add_emod (x + m) P
  have d2 := Int.emod_nonneg (x + m) (show P ≠ 0 by omega)
  have d3 := Int.emod_lt_of_pos (x + m) hP
  rw [← hq] at d1
  generalize (x + m) % P = e at d1 d2 d3
  by_cases c1 : G ≤ q
  · have hqG : q = G := by
      by_cases c : G + 1 ≤ q
      · have := Int.mul_le_mul_of_nonneg_left c (Int.le_of_lt hP)
        rw [Int.mul_add, Int.mul_one] at this
        omega
      · omega
    subst hqG
    have ev : greater (-(q - 1)) (smaller q (q - 1)) = q - 1 := by unfold greater smaller; split <;> split <;> omega
    have em : (q - 1) * P = P * q - P := by rw [Int.sub_mul, Int.one_mul, Int.mul_comm]
    rw [ev, em]
    omega
  · by_cases c2 : q ≤ -G
    · have hqG : q = -G := by
        by_cases c : q ≤ -G - 1
        · have := Int.mul_le_mul_of_nonneg_left c (Int.le_of_lt hP)
          rw [Int.mul_sub, Int.mul_one, Int.mul_neg] at this
          omega
        · omega
      have ev : greater (-(G - 1)) (smaller q (G - 1)) = -(G - 1) := by unfold greater smaller; split <;> split <;> omega
      have em : -(G - 1) * P = -(P * G) + P := by rw [Int.neg_mul, Int.sub_mul, Int.one_mul, Int.mul_comm]; omega
      rw [hqG, Int.mul_neg] at d1
      rw [ev, em]
      omega
    · have ev : greater (-(G - 1)) (smaller q (G - 1)) = q := by unfold greater smaller; split <;> split <;> omega
      rw [ev, Int.mul_comm q P]
      omega

theorem topF_k : ∀ i : Fin 7, topF ((i.1 : Int) + 2) = 2 ^ (i.1 + 1) - 1 ∧ (2 : Int) ^ (i.1 + 1) ≤ 128 ∧ (2 : Int) ≤ 2 ^ (i.1 + 1) ∧
    IntKind.i64.wrap ((IntKind.i64.wrap (1 * 2 ^ (min (IntKind.u64.wrap (IntKind.i64.wrap ((i.1 : Int) + 2 - 1))).toNat (IntKind.i64).bits))) - 1) = 2 ^ (i.1 + 1) - 1 := by decide +kernel
theorem pow_k : ∀ d : Fin 32, IntKind.i64.wrap (1 * 2 ^ (min (IntKind.u64.wrap (d.1 : Int)).toNat (IntKind.i64).bits)) = 2 ^ d.1 ∧ (2 : Int) ^ (min (IntKind.u64.wrap (d.1 : Int)).toNat (IntKind.i64).bits) = 2 ^ d.1 ∧ (2 : Int) ^ d.1 ≤ 2147483648 ∧ (1 : Int) ≤ 2 ^ d.1 := by decide +kernel

/-- A cell that was made small. -/
theorem cell_k {l : List Int} {s t : Int} {i d b : Nat} (hd : d ≤ 31) (hb : b < 7) (h32 : -2147483648 ≤ l.getD i 0 ∧ l.getD i 0 ≤ 2147483647) (hx : -(2 ^ d * 2 ^ (b + 1)) < l.getD i 0) (hx2 : l.getD i 0 < 2 ^ d * 2 ^ (b + 1)) :
    ∃ v, cellF ((b : Int) + 2) s t d l i = v ∧ -(2 ^ (b + 1) - 1) ≤ v ∧ v ≤ 2 ^ (b + 1) - 1 ∧ -2 ^ d < v * 2 ^ d - l.getD i 0 ∧ v * 2 ^ d - l.getD i 0 < 2 ^ d := by
  obtain ⟨t1, t2, t3, _⟩ := topF_k ⟨b, hb⟩
  obtain ⟨_, _, p1, p2⟩ := pow_k ⟨d, by omega⟩
  simp only at t1 t2 t3 p1 p2
  obtain ⟨m, m1, m2, m3⟩ := @chF_k (IntKind.i64.wrap (l.getD i 0)) (atF s t (IntKind.u64.wrap (i : Int))) d hd (by rw [wrap_i64 _ (by omega) (by omega)]; omega) (by rw [wrap_i64 _ (by omega) (by omega)]; omega)
  unfold cellF
  rw [m3]
  rw [wrap_i64 (l.getD i 0) (by omega) (by omega)]
  generalize hP : (2 : Int) ^ d = P at *
  generalize hG : (2 : Int) ^ (b + 1) = G at *
  generalize l.getD i 0 = x at *
  have k := @cell_core x m P G ((x + m) / P) (by omega) (by omega) hx hx2 m1 m2 rfl
  have q1 : -4611686018427387904 ≤ (x + m) / P := by
    have := Int.le_ediv_of_mul_le (a := -4611686018427387904) (b := x + m) (c := P) (by omega) (by omega)
    exact this
  have q2 : (x + m) / P ≤ 4611686018427387904 := by
    have h3 : (x + m) / P < 4611686018427387904 := Int.ediv_lt_of_lt_mul (by omega) (by omega)
    omega
  unfold clF
  rw [t1, valF_id q1 q2, wrap_i64 (0 - (G - 1)) (by omega) (by omega), show 0 - (G - 1) = -(G - 1) by omega]
  generalize greater (-(G - 1)) (smaller ((x + m) / P) (G - 1)) = v at k
  rw [wrap_i8 v (by omega) (by omega)]
  exact ⟨v, rfl, k⟩

end Go.Proofs.Ytofinnadgpnjhaa
