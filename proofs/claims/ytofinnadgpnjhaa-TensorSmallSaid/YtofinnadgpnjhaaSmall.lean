/- What rounding does: bounds. No condition. -/
import Derived.Test.YtofinnadgpnjhaaTwice
namespace Go.Proofs.Ytofinnadgpnjhaa
open Go.Mach Go.RowKit
set_option maxRecDepth 100000
set_option linter.unusedVariables false
set_option linter.unusedSimpArgs false

theorem tab_lt : ∀ i : Fin 256, i.1 < 2 ^ (sc_14a5d850.data.toList.getD i.1 0).toNat := by decide +kernel
theorem l31_k {x n : Int} (h0 : 0 ≤ x) (h : x < 256) (hn : 0 ≤ n) (hm : n ≤ 56) : ∃ k : Nat, l31 x n = n + k ∧ k ≤ 8 ∧ x < 2 ^ k := by
  have ht := tab_le ⟨x.toNat, by omega⟩
  have hl := tab_lt ⟨x.toNat, by omega⟩
  simp only at ht hl
  unfold l31
  rw [wrap_u8 x (by omega) (by omega)]
  generalize (sc_14a5d850.data.toList.getD x.toNat 0).toNat = m at ht hl ⊢
  refine ⟨m, ?_, ht, ?_⟩
  · rw [wrap_i64 (m : Int) (by omega) (by omega), wrap_i64 _ (by omega) (by omega)]
  · have : (x.toNat : Int) < ((2 ^ m : Nat) : Int) := by exact_mod_cast hl
    rw [Int.natCast_pow, show ((2 : Nat) : Int) = 2 from rfl] at this
    omega
theorem up8 {x y : Int} {k j : Nat} {c : Int} (hc : (2 : Int) ^ j = c) (hy : y < 2 ^ k) (hx : x < c * (y + 1)) (hcp : 0 < c) : x < 2 ^ (j + k) := by
  rw [Int.pow_add, hc]
  have : c * (y + 1) ≤ c * 2 ^ k := Int.mul_le_mul_of_nonneg_left (by omega) (by omega)
  omega
theorem l15_k {x n : Int} (h0 : 0 ≤ x) (h : x < 65536) (hn : 0 ≤ n) (hm : n ≤ 48) : ∃ k : Nat, l15 x n = n + k ∧ k ≤ 16 ∧ x < 2 ^ k := by
  have e : (2 : Int) ^ (min ((8 : Int)).toNat (IntKind.u64).bits) = 256 := by decide +kernel
  unfold l15
  rw [e]
  split
  · rw [wrap_i64 _ (by omega) (by omega), Int.fdiv_eq_ediv_of_nonneg _ (by omega)]
    obtain ⟨k, h1, h2, h3⟩ := l31_k (x := x / 256) (n := n + 8) (by omega) (by omega) (by omega) (by omega)
    exact ⟨8 + k, by rw [h1]; omega, by omega, up8 (c := 256) (by decide) h3 (by omega) (by omega)⟩
  · obtain ⟨k, h1, h2, h3⟩ := l31_k (x := x) (n := n) (by omega) (by omega) (by omega) (by omega)
    exact ⟨k, h1, by omega, h3⟩
theorem l7_k {x n : Int} (h0 : 0 ≤ x) (h : x < 4294967296) (hn : 0 ≤ n) (hm : n ≤ 32) : ∃ k : Nat, l7 x n = n + k ∧ k ≤ 32 ∧ x < 2 ^ k := by
  have e : (2 : Int) ^ (min ((16 : Int)).toNat (IntKind.u64).bits) = 65536 := by decide +kernel
  unfold l7
  rw [e]
  split
  · rw [wrap_i64 _ (by omega) (by omega), Int.fdiv_eq_ediv_of_nonneg _ (by omega)]
    obtain ⟨k, h1, h2, h3⟩ := l15_k (x := x / 65536) (n := n + 16) (by omega) (by omega) (by omega) (by omega)
    exact ⟨16 + k, by rw [h1]; omega, by omega, up8 (c := 65536) (by decide) h3 (by omega) (by omega)⟩
  · obtain ⟨k, h1, h2, h3⟩ := l15_k (x := x) (n := n) (by omega) (by omega) (by omega) (by omega)
    exact ⟨k, h1, by omega, h3⟩
theorem bitF_k {x : Int} (h0 : -2147483648 ≤ x) (h1 : x ≤ 2147483647) : ∃ k : Nat, bitF (IntKind.i64.wrap x) = k ∧ k ≤ 32 ∧ -2 ^ k < x ∧ x < 2 ^ k := by
  unfold bitF
  rw [wrap_i64 x (by omega) (by omega), valF_id (by omega) (by omega), wrap_i64 (0 - x) (by omega) (by omega)]
  have hg : 0 ≤ greater x (0 - x) ∧ greater x (0 - x) ≤ 2147483648 ∧ x ≤ greater x (0 - x) ∧ -x ≤ greater x (0 - x) := by
    unfold greater; split <;> omega
  generalize greater x (0 - x) = g at hg ⊢
  rw [wrap_u64 g (by omega) (by omega)]
  unfold lenF
  rw [if_neg (by omega)]
  obtain ⟨k, e1, e2, e3⟩ := l7_k (x := g) (n := 0) (by omega) (by omega) (by omega) (by omega)
  exact ⟨k, by rw [e1]; omega, e2, by omega, by omega⟩

theorem pow_mono {a b : Nat} (h : a ≤ b) : (2 : Int) ^ a ≤ 2 ^ b := by
  obtain ⟨c, rfl⟩ := Nat.le.dest h
  rw [Int.pow_add]
  have h1 : (0 : Int) < 2 ^ a := Int.pow_pos (by omega)
  have h2 : (0 : Int) < 2 ^ c := Int.pow_pos (by omega)
  have : (2 : Int) ^ a * 1 ≤ 2 ^ a * 2 ^ c := Int.mul_le_mul_of_nonneg_left (by omega) (by omega)
  omega
theorem wideF_k {l : List Int} (h : ∀ x ∈ l, -2147483648 ≤ x ∧ x ≤ 2147483647) : ∃ k : Nat, wideF l = k ∧ k ≤ 32 ∧ ∀ x ∈ l, -2 ^ k < x ∧ x < 2 ^ k := by
  have : ∀ (l : List Int) (m : Nat), (∀ x ∈ l, -2147483648 ≤ x ∧ x ≤ 2147483647) → m ≤ 32 → ∃ k : Nat, l.foldl (fun m x => greater m (bitF (IntKind.i64.wrap x))) (m : Int) = k ∧ m ≤ k ∧ k ≤ 32 ∧ ∀ x ∈ l, -2 ^ k < x ∧ x < 2 ^ k := by
    intro l
    induction l with
    | nil => exact fun m _ hm => ⟨m, rfl, Nat.le_refl _, hm, fun x hx => by cases hx⟩
    | cons x l ih =>
      intro m hx hm
      obtain ⟨j, j1, j2, j3, j4⟩ := bitF_k (hx x (List.mem_cons_self ..)).1 (hx x (List.mem_cons_self ..)).2
      have hg : greater (m : Int) (bitF (IntKind.i64.wrap x)) = ((max m j : Nat) : Int) := by
        rw [j1]; unfold greater; split <;> omega
      obtain ⟨k, k1, k2, k3, k4⟩ := ih (max m j) (fun y hy => hx y (List.mem_cons_of_mem _ hy)) (by omega)
      refine ⟨k, ?_, by omega, k3, fun y hy => ?_⟩
      · rw [List.foldl_cons, hg]; exact k1
      · rcases List.mem_cons.1 hy with rfl | hy
        · have := pow_mono (show j ≤ k by omega)
          omega
        · exact k4 y hy
  obtain ⟨k, k1, _, k2, k3⟩ := this l 0 h (by omega)
  exact ⟨k, k1, k2, k3⟩

theorem mask_d : ∀ d : Fin 32, (BitVec.ofInt (IntKind.u64).bits (IntKind.u64.wrap ((IntKind.u64.wrap (1 * 2 ^ (min (shF (d.1 : Int)).toNat (IntKind.u64).bits))) - 1))).toNat = 2 ^ d.1 - 1 ∧ (2 : Int) ^ (min (shF (d.1 : Int)).toNat (IntKind.i64).bits) = 2 ^ d.1 ∧ (2 : Nat) ^ d.1 ≤ 2147483648 := by decide +kernel
theorem chF_k {x r : Int} {d : Nat} (hd : d ≤ 31) (h0 : -2147483648 ≤ x) (h1 : x ≤ 2147483647) : ∃ m : Int, 0 ≤ m ∧ m < 2 ^ d ∧ chF x d r = (x + m) / 2 ^ d := by
  obtain ⟨e1, e2, e3⟩ := mask_d ⟨d, by omega⟩
  simp only at e1 e2 e3
  unfold chF
  rw [BitVec.toNat_and, e1, e2, Nat.and_two_pow_sub_one_eq_mod, valF_id (by omega) (by omega)]
  have hm := Nat.mod_lt (BitVec.ofInt (IntKind.u64).bits r).toNat (show 0 < 2 ^ d from Nat.two_pow_pos d)
  generalize (BitVec.ofInt (IntKind.u64).bits r).toNat % 2 ^ d = m at hm ⊢
  have hp : ((2 ^ d : Nat) : Int) = (2 : Int) ^ d := by rw [Int.natCast_pow]; rfl
  refine ⟨m, by omega, by rw [← hp]; omega, ?_⟩
  rw [wrap_u64 (m : Int) (by omega) (by omega), wrap_i64 (m : Int) (by omega) (by omega), wrap_i64 (x + m) (by omega) (by omega), Int.fdiv_eq_ediv_of_nonneg _ (by rw [← hp]; omega)]

end Go.Proofs.Ytofinnadgpnjhaa
