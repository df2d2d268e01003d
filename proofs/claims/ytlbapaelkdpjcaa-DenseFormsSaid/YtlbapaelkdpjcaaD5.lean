/- Values of the document's own answers for chapter 10. Laws; no condition. -/
import Derived.Test.YtlbapaelkdpjcaaD4
import Derived.Test.YtlbapaelkdpjcaaL6
namespace Go.Proofs.Ytlbapaelkdpjcaa
open Go.Mach Go.RowKit
set_option maxRecDepth 100000
set_option linter.unusedVariables false
set_option linter.unusedSimpArgs false

/-! ### Shapes -/
theorem tdiv_lt {x n : Int} (h1 : 1 ≤ x) (h2 : x ≤ 4096) (h3 : 1 ≤ n) (h4 : n ≤ 8192) : (IntKind.i64.wrap ((8192 : Int).tdiv x) < n) ↔ 8192 < n * x := by
  have e : (8192 : Int).tdiv x = 8192 / x := Int.tdiv_eq_ediv_of_nonneg (by omega)
  have h5 : 0 ≤ (8192 : Int) / x := Int.ediv_nonneg (by omega) (by omega)
  have h6 : (8192 : Int) / x ≤ 8192 := Int.ediv_le_self _ (by omega)
  rw [e, wrap_i64 _ (by omega) (by omega), Int.ediv_lt_iff_lt_mul (by omega)]
theorem szGo_step {acc d : Int} {r : List Int} (h1 : 1 ≤ acc) (h2 : acc ≤ 8192) : szGo acc (d :: r) = if (decide (d < 1) || decide (4096 < d)) = true then 0 else if 8192 < acc * d then 0 else szGo (acc * d) r := by
  by_cases hd : (decide (d < 1) || decide (4096 < d)) = true
  · rw [if_pos hd]
    unfold szGo
    rw [if_pos (by rw [hd]; rfl)]
  · rw [if_neg hd]
    simp only [Bool.or_eq_true, decide_eq_true_eq, not_or] at hd
    have hb := mul_bd acc d 8192 4096 (by omega) (by omega) (by omega) (by omega) (by omega)
    have hw : IntKind.i64.wrap (acc * d) = acc * d := wrap_i64 _ (by omega) (by omega)
    have e1 : decide (d < 1) = false := by simp; omega
    have e2 : decide (4096 < d) = false := by simp; omega
    by_cases h3 : 8192 < acc * d
    · rw [if_pos h3]
      unfold szGo
      rw [hw, if_pos (by simp [h3])]
    · rw [if_neg h3]
      show (if ((decide (d < 1) || decide (4096 < d)) || decide (8192 < IntKind.i64.wrap (acc * d))) = true then 0 else szGo (IntKind.i64.wrap (acc * d)) r) = _
      rw [hw, if_neg (by rw [e1, e2]; simp; omega)]
theorem getD_drop {l : List Int} {i : Nat} (h : i < l.length) : l.drop i = l.getD i 0 :: l.drop (i + 1) := by
  rw [List.drop_eq_getElem_cons h, List.getD_eq_getElem?_getD, List.getElem?_eq_getElem h]; rfl
theorem mul_pos' {a d : Int} (h1 : 1 ≤ a) (h2 : 1 ≤ d) : 1 ≤ a * d := by
  have := Int.mul_pos (show 0 < a by omega) (show 0 < d by omega)
  omega
theorem mayDims_v {l : List Int} {Q : Bool → Prop} (h : Q (decide (0 < szF l))) : pedagogueref1_MayDims l Q := by
  refine ⟨?_⟩
  unfold pedagogueref1_MayDims_t
  unfold szF at h
  by_cases e : (decide ((l.length : Int) < 1) || decide (4 < (l.length : Int))) = true
  · rw [if_pos e] at h ⊢; exact h
  · rw [if_neg e] at h ⊢
    have hl : l.length ≤ 4 := by simp only [Bool.or_eq_true, decide_eq_true_eq, not_or] at e; omega
    obtain ⟨z, hz⟩ : ∃ z, szGo 1 l = z := ⟨_, rfl⟩
    rw [hz] at h
    refine ⟨?_⟩
    refine Loop.inv (n := l.length) (fun m s => ∃ i : Nat, i + m = l.length ∧ s.2 = (i : Int) ∧ 1 ≤ s.1 ∧ s.1 ≤ 8192 ∧ szGo s.1 (l.drop i) = z) ⟨0, by omega, rfl, by show 1 ≤ (1 : Int); omega, by show (1 : Int) ≤ 8192; omega, hz⟩ ?_
    rintro m ⟨acc, i'⟩ X ⟨i, hi, he, ha, hb, hzz⟩ hX
    simp only at he ha hb hzz
    subst he
    unfold pedagogueref1_MayDims_n122_B
    by_cases hlt : i < l.length
    · rw [getD_drop hlt, szGo_step ha hb] at hzz
      rw [if_pos (decide_eq_true (show (i : Int) < (l.length : Int) by omega))]
      dsimp only
      refine ⟨by omega, ?_⟩
      rw [Int.toNat_natCast]
      generalize l.getD i 0 = d at hzz ⊢
      show (if (decide (d < 1) || decide (4096 < d)) = true then _ else _)
      by_cases hd : (decide (d < 1) || decide (4096 < d)) = true
      · rw [if_pos hd] at hzz ⊢
        show (if true = true then _ else _)
        rw [if_pos rfl]
        have : decide (0 < z) = false := by rw [← hzz]; rfl
        rw [this] at h; exact h
      · rw [if_neg hd] at hzz ⊢
        simp only [Bool.or_eq_true, decide_eq_true_eq, not_or] at hd
        refine ⟨by omega, ?_⟩
        have ht := tdiv_lt (x := d) (n := acc) (by omega) (by omega) ha hb
        show (if (decide (IntKind.i64.wrap ((8192 : Int).tdiv d) < acc)) = true then _ else _)
        by_cases h3 : 8192 < acc * d
        · rw [if_pos h3] at hzz
          rw [if_pos (decide_eq_true (ht.2 h3))]
          have : decide (0 < z) = false := by rw [← hzz]; rfl
          rw [this] at h; exact h
        · rw [if_neg h3] at hzz
          rw [if_neg (by simp; exact Int.not_lt.1 (fun hh => h3 (ht.1 hh)))]
          have hb2 := mul_bd acc d 8192 4096 (by omega) (by omega) (by omega) (by omega) (by omega)
          rw [wrap_i64 (acc * d) (by omega) (by omega), wrap_i64 ((i : Int) + 1) (by omega) (by omega)]
          exact hX (m - 1) _ (by omega) ⟨i + 1, by omega, rfl, mul_pos' ha (by omega), by show acc * d ≤ 8192; omega, hzz⟩
    · have hil : i = l.length := by omega
      subst hil
      rw [if_neg (by simp)]
      rw [List.drop_length] at hzz
      unfold szGo at hzz
      have : decide (0 < z) = true := by rw [← hzz]; exact decide_eq_true (by omega)
      rw [this] at h; exact h
theorem szGo_pos : ∀ (l : List Int) (acc : Int), 1 ≤ acc → acc ≤ 8192 → 0 ≤ szGo acc l
  | [], acc, h, _ => by unfold szGo; omega
  | d :: r, acc, h, h2 => by
    rw [szGo_step h h2]
    split
    · omega
    · rename_i hd
      simp only [Bool.or_eq_true, decide_eq_true_eq, not_or] at hd
      split
      · omega
      · exact szGo_pos r _ (mul_pos' h (by omega)) (by omega)
theorem szF_nonneg (l : List Int) : 0 ≤ szF l := by
  unfold szF
  split
  · omega
  · exact szGo_pos l 1 (by omega) (by omega)
theorem rsize_v {l : List Int} {Q : Int → Prop} (h : Q (szF l)) : pedagogueref1_Size l Q := by
  refine ⟨?_⟩
  unfold pedagogueref1_Size_t
  refine mayDims_v ?_
  by_cases hp : 0 < szF l
  · rw [if_neg (by simp [hp])]
    have hp2 := hp
    unfold szF at hp2 h
    split at hp2
    · omega
    · rename_i e
      rw [if_neg e] at h
      have hl : l.length ≤ 4 := by simp only [Bool.or_eq_true, decide_eq_true_eq, not_or] at e; omega
      obtain ⟨z, hz⟩ : ∃ z, szGo 1 l = z := ⟨_, rfl⟩
      rw [hz] at h hp2
      refine ⟨?_⟩
      refine Loop.inv (n := l.length) (fun m s => ∃ i : Nat, i + m = l.length ∧ s.2 = (i : Int) ∧ 1 ≤ s.1 ∧ s.1 ≤ 8192 ∧ szGo s.1 (l.drop i) = z) ⟨0, by omega, rfl, by show 1 ≤ (1 : Int); omega, by show (1 : Int) ≤ 8192; omega, hz⟩ ?_
      rintro m ⟨acc, i'⟩ X ⟨i, hi, he, ha, hb, hzz⟩ hX
      simp only at he ha hb hzz
      subst he
      unfold pedagogueref1_Size_n122_B
      by_cases hlt : i < l.length
      · rw [getD_drop hlt, szGo_step ha hb] at hzz
        rw [if_pos (decide_eq_true (show (i : Int) < (l.length : Int) by omega))]
        dsimp only
        refine ⟨by omega, ?_⟩
        rw [Int.toNat_natCast]
        generalize l.getD i 0 = d at hzz ⊢
        split at hzz
        · omega
        · rename_i hd
          simp only [Bool.or_eq_true, decide_eq_true_eq, not_or] at hd
          split at hzz
          · omega
          · have hb2 := mul_bd acc d 8192 4096 (by omega) (by omega) (by omega) (by omega) (by omega)
            rw [wrap_i64 (acc * d) (by omega) (by omega), wrap_i64 ((i : Int) + 1) (by omega) (by omega)]
            exact hX (m - 1) _ (by omega) ⟨i + 1, by omega, rfl, mul_pos' ha (by omega), by show acc * d ≤ 8192; omega, hzz⟩
      · have hil : i = l.length := by omega
        subst hil
        rw [if_neg (by simp)]
        rw [List.drop_length] at hzz
        unfold szGo at hzz
        dsimp only
        rw [hzz]
        exact h
  · rw [if_pos (by simp; omega)]
    have : szF l = 0 := by have := szF_nonneg l; omega
    rw [this] at h; exact h

/-! ### Tensors -/
theorem noMin_v {l : List Int} {K0 K1 : Unit → Prop} (hl : l.length ≤ 1000000) (h : if -128 ∈ l then K1 () else K0 ()) : pedagogueref1_MayT_n58 l (l.length : Int) K0 K1 0 := by
  refine ⟨?_⟩
  refine Loop.range (B := pedagogueref1_MayT_n58_B l (l.length : Int) K0 K1) l.length (fun i => (i : Int)) (fun i => ∀ j, j < i → l.getD j 0 ≠ -128) (fun j hj => absurd hj (by omega)) ?_ ?_
  · intro i hi hI X hX
    unfold pedagogueref1_MayT_n58_B
    rw [if_pos (decide_eq_true (show (i : Int) < (l.length : Int) by omega))]
    refine ⟨by omega, ?_⟩
    rw [Int.toNat_natCast]
    have hget : l.getD i 0 = l[i] := by rw [List.getD_eq_getElem?_getD, List.getElem?_eq_getElem hi]; rfl
    by_cases hv : l.getD i 0 = -128
    · rw [if_pos (by rw [hv]; rfl)]
      rw [if_pos (by rw [← hv, hget]; exact List.getElem_mem hi)] at h
      exact h
    · rw [if_neg (by simpa using hv), wrap_i64 _ (by omega) (by omega)]
      refine hX fun j hj => ?_
      by_cases hji : j = i
      · subst hji; exact hv
      · exact hI j (by omega)
  · intro hI X
    unfold pedagogueref1_MayT_n58_B
    rw [if_neg (by simp)]
    rw [if_neg] at h
    · exact h
    · intro hm
      obtain ⟨j, hj, e⟩ := List.getElem_of_mem hm
      apply hI j hj
      rw [List.getD_eq_getElem?_getD, List.getElem?_eq_getElem hj, ← e]; rfl
theorem expF64 (e : Int) : expF e 64 = !(decide (e < -64) || decide (64 < e)) := by
  unfold expF
  rw [wrap_i64 (0 - 64) (by omega) (by omega), Bool.eq_iff_iff]
  simp only [Bool.and_eq_true, decide_eq_true_eq, Bool.not_eq_true', Bool.or_eq_false_iff, decide_eq_false_iff_not]
  omega
theorem rmayT_v {a : T3} {Q : Bool → Prop} (h : Q (mayF a)) : pedagogueref1_MayT a Q := by
  refine ⟨?_⟩
  unfold pedagogueref1_MayT_t
  refine mayDims_v ?_
  unfold mayF at h
  have key : ∀ v : Bool, v = !(decide (0 < szF a.1) && ((a.2.2.length : Int) == szF a.1)) → (if ((v || decide (a.2.1 < -64)) || decide (64 < a.2.1)) = true then Q false else pedagogueref1_MayT_n58 a.2.2 (a.2.2.length : Int) (fun _ => Q true) (fun _ => Q false) 0) := by
    intro v hv
    rw [expF64] at h
    have hle := szF_le a.1
    by_cases hc : ((v || decide (a.2.1 < -64)) || decide (64 < a.2.1)) = true
    · rw [if_pos hc]
      have : (((decide (0 < szF a.1) && ((a.2.2.length : Int) == szF a.1)) && !(decide (a.2.1 < -64) || decide (64 < a.2.1))) && !decide (-128 ∈ a.2.2)) = false := by
        rw [Bool.or_assoc] at hc
        cases hv2 : v with
        | true =>
          rw [hv2] at hv
          cases hq : (decide (0 < szF a.1) && ((a.2.2.length : Int) == szF a.1)) with
          | true => rw [hq] at hv; cases hv
          | false => rfl
        | false =>
          rw [hv2, Bool.false_or] at hc
          rw [hc]; simp
      rw [this] at h; exact h
    · rw [if_neg hc]
      simp only [Bool.or_eq_true, not_or] at hc
      have hv0 : v = false := by simpa using hc.1.1
      rw [hv0] at hv
      have hv' : (decide (0 < szF a.1) && ((a.2.2.length : Int) == szF a.1)) = true := by
        cases hq : (decide (0 < szF a.1) && ((a.2.2.length : Int) == szF a.1)) with
        | true => rfl
        | false => rw [hq] at hv; cases hv
      have hlen : a.2.2.length ≤ 1000000 := by
        simp only [Bool.and_eq_true, decide_eq_true_eq, beq_iff_eq] at hv'
        omega
      refine noMin_v hlen ?_
      have e1 : decide (a.2.1 < -64) = false := by simpa using hc.1.2
      have e2 : decide (64 < a.2.1) = false := by simpa using hc.2
      rw [hv', e1, e2] at h
      by_cases hm : -128 ∈ a.2.2
      · rw [if_pos hm]; simpa [hm] using h
      · rw [if_neg hm]; simpa [hm] using h
  show (if (!decide (0 < szF a.1)) = true then _ else _)
  by_cases hp : 0 < szF a.1
  · rw [if_neg (by simp [hp])]
    refine rsize_v ?_
    exact key _ (by rw [decide_eq_true hp]; unfold bne; rw [Bool.true_and])
  · rw [if_pos (by simp [hp])]
    exact key true (by rw [decide_eq_false hp]; rfl)
theorem rmay_v {l : List T3} {Q : Bool → Prop} (hl : l.length ≤ 1000000) (h : Q (l.all mayF)) : pedagogueref10_may l Q := by
  refine ⟨?_⟩
  unfold pedagogueref10_may_t
  refine ⟨?_⟩
  refine Loop.range (B := pedagogueref10_may_n26_B l (l.length : Int) _ _) l.length (fun i => (i : Int)) (fun i => (l.take i).all mayF = true) rfl ?_ ?_
  · intro i hi hI X hX
    unfold pedagogueref10_may_n26_B
    rw [if_pos (decide_eq_true (show (i : Int) < (l.length : Int) by omega))]
    refine ⟨by omega, rmayT_v ?_⟩
    simp only [Int.toNat_natCast]
    cases hm : mayF (l.getD i ([], 0, [])) with
    | true =>
      rw [if_neg (by simp [hm]), wrap_i64 _ (by omega) (by omega)]
      exact hX (by rw [all_take (d := ([], 0, [])) hi, hI, hm]; rfl)
    | false =>
      rw [if_pos (by simp [hm])]
      rw [all_at hi hm] at h
      exact h
  · intro hI X
    unfold pedagogueref10_may_n26_B
    rw [if_neg (by simp)]
    rw [List.take_length] at hI
    rw [hI] at h
    exact h
theorem rfits_v {n : Int} {Q : Bool → Prop} (h : Q (fitsF n)) : pedagogueref10_Fits n Q := by
  refine ⟨?_⟩
  unfold pedagogueref10_Fits_t
  unfold fitsF at h
  show (if (decide (0 ≤ n) && decide (n ≤ 1023)) = true then _ else _)
  by_cases h1 : (decide (0 ≤ n) && decide (n ≤ 1023)) = true
  · rw [if_pos h1]
    rw [h1] at h
    simp only [Bool.and_eq_true, decide_eq_true_eq] at h1
    refine ⟨by omega, ?_⟩
    rw [Int.mul_one, wrap_i64 n (by omega) (by omega)]
    rw [show (2 : Int) ^ min ((14 : Int)).toNat (IntKind.i64).bits = 16384 by decide, wrap_i64 (n * 16384) (by omega) (by omega), wrap_i64 _ (by omega) (by omega)]
    exact h
  · rw [if_neg h1]
    have e : (decide (0 ≤ n) && decide (n ≤ 1023)) = false := by simpa using h1
    rw [e] at h
    exact h
/-- Sums of a shape that are 0. -/
def sumsF (d : List Int) (e n : Int) : T3 × Int :=
  if (!fitsF n) = true then (Z3, 3)
  else if (decide (e < -128) || decide (128 < e)) = true then (Z3, 3)
  else if (!decide (0 < szF d)) = true then (Z3, 1)
  else ((d, (e, List.replicate (szF d).toNat 0)), 0)
theorem sums_v {d : List Int} {e n : Int} {Q : T3 × Int → Prop} (h : Q (sumsF d e n)) : pedagogueref10_sums d e n Q := by
  refine ⟨?_⟩
  unfold pedagogueref10_sums_t
  refine rfits_v ?_
  unfold sumsF at h
  by_cases h1 : (!fitsF n) = true
  · rw [if_pos h1] at h ⊢; exact h
  · rw [if_neg h1] at h ⊢
    refine ⟨?_⟩
    unfold pedagogueref10_acc_t
    by_cases h2 : (decide (e < -128) || decide (128 < e)) = true
    · rw [if_pos h2] at h ⊢; exact h
    · rw [if_neg h2] at h ⊢
      refine mayDims_v ?_
      by_cases h3 : (!decide (0 < szF d)) = true
      · rw [if_pos h3] at h ⊢; exact h
      · rw [if_neg h3] at h ⊢
        have := szF_le d
        have := szF_nonneg d
        refine rsize_v ⟨⟨by omega, by omega⟩, h⟩
/-- made, by the sums that are 0 at first. -/
theorem madeF_sums (R C n e : Int) (f : Nat → Nat → Int) : madeF R C n e f = if ((sumsF [R, C] e n).2 != 0) = true then sumsF [R, C] e n else (([R, C], (e, rowsF R.toNat C.toNat f)), 0) := by
  cases hf : fitsF n with
  | false =>
    have e1 : sumsF [R, C] e n = (Z3, 3) := by unfold sumsF; rw [if_pos (by rw [hf]; rfl)]
    rw [e1]
    unfold madeF
    rw [if_pos (by rw [hf]; rfl), if_pos (by rfl)]
  | true =>
    by_cases h2 : 128 < e ∨ e < -128
    · have e1 : sumsF [R, C] e n = (Z3, 3) := by unfold sumsF; rw [if_neg (by rw [hf]; simp), if_pos (by simp; omega)]
      rw [e1]
      unfold madeF
      rw [if_pos (by simp; omega), if_pos (by rfl)]
    · by_cases h3 : 0 < szF [R, C]
      · have e1 : sumsF [R, C] e n = (([R, C], (e, List.replicate (szF [R, C]).toNat 0)), 0) := by unfold sumsF; rw [if_neg (by rw [hf]; simp), if_neg (by simp; omega), if_neg (by simp [h3])]
        rw [e1, madeF_ok hf (by omega) (by omega) h3, if_neg (by simp)]
      · have e1 : sumsF [R, C] e n = (Z3, 1) := by unfold sumsF; rw [if_neg (by rw [hf]; simp), if_neg (by simp; omega), if_pos (by simp [h3])]
        rw [e1]
        unfold madeF
        rw [if_neg (by rw [hf]; simp; omega), if_pos (by simp [h3]), if_pos (by rfl)]

theorem ral_v {a b c : Int} {Q : Int → Prop} (h : Q (alF a b c)) : pedagogueref1_Align a b c Q := by
  refine ⟨?_⟩
  unfold pedagogueref1_Align_t
  refine ⟨?_⟩
  unfold pedagogueref1_taken_t
  refine ⟨?_⟩
  unfold pedagogueref1_within_t
  refine ⟨?_⟩
  unfold pedagogueref1_within_t
  refine ⟨?_⟩
  unfold pedagogueref1_within_t
  refine ⟨?_⟩
  unfold pedagogueref1_within_t
  unfold alF at h
  simp only at h
  have hb := gs_rng b (-1000) 1000 (by omega)
  have hc := gs_rng c (-1000) 1000 (by omega)
  have hv := valF_rng a
  show (if decide (greater (-1000) (smaller b 1000) < greater (-1000) (smaller c 1000)) = true then _ else _)
  generalize greater (-1000) (smaller b 1000) = x at *
  generalize greater (-1000) (smaller c 1000) = y at *
  show (if decide (x < y) = true then ck _ (Q ((valF a).fdiv _)) else if decide (20 < IntKind.i64.wrap (x - y)) = true then (if ((valF a) == 0) = true then Q 0 else pedagogueref1_within (valF a) (-1) 1 (fun r4 => pedagogueref1_Align_n63 r4 (IntKind.i64.wrap (y + 20)) y (fun y7 => Q y7))) else pedagogueref1_Align_n63 (valF a) x y _)
  generalize valF a = v at *
  have n63 : ∀ (p q : Int), -1000 ≤ q → q ≤ p → p ≤ q + 20 → q ≤ 1000 → ∀ K : Int → Prop, K (greater (-1048576) (smaller (greater (-1048576) (smaller v 1048576) * 2 ^ (p - q).toNat) 1048576)) → pedagogueref1_Align_n63 v p q K := by
    intro p q h1 h2 h3 h4 K hK
    refine ⟨?_⟩
    unfold pedagogueref1_Align_n63_t
    refine ⟨?_⟩
    unfold pedagogueref1_within_t
    rw [wrap_i64 (p - q) (by omega) (by omega), wrap_u64 (p - q) (by omega) (by omega)]
    refine ⟨by omega, ⟨?_⟩⟩
    unfold pedagogueref1_within_t
    have hm := gs_rng v (-1048576) 1048576 (by omega)
    have hp := pow2_le (p - q).toNat 20 (by omega)
    have := mul_bd (greater (-1048576) (smaller v 1048576)) (2 ^ (p - q).toNat) 1048576 1048576 hm.1 hm.2 (by omega) hp.2 (by omega)
    rw [show min (p - q).toNat (IntKind.i64).bits = (p - q).toNat from Nat.min_eq_left (by show _ ≤ 64; omega)]
    rw [wrap_i64 (greater (-1048576) (smaller v 1048576) * 2 ^ (p - q).toNat) (by omega) (by omega)]
    exact hK
  have n63' : ∀ (u : Int), -1 ≤ u → u ≤ 1 → ∀ K : Int → Prop, K (greater (-1048576) (smaller (u * 1048576) 1048576)) → pedagogueref1_Align_n63 u (IntKind.i64.wrap (y + 20)) y K := by
    intro u h1 h2 K hK
    refine ⟨?_⟩
    unfold pedagogueref1_Align_n63_t
    refine ⟨?_⟩
    unfold pedagogueref1_within_t
    rw [wrap_i64 (y + 20) (by omega) (by omega), show y + 20 - y = 20 by omega, wrap_i64 20 (by omega) (by omega), wrap_u64 20 (by omega) (by omega)]
    refine ⟨by omega, ⟨?_⟩⟩
    unfold pedagogueref1_within_t
    have hu : greater (-1048576) (smaller u 1048576) = u := by unfold greater smaller; split <;> split <;> omega
    rw [hu, show (2 : Int) ^ min ((20 : Int)).toNat (IntKind.i64).bits = 1048576 by decide]
    rw [wrap_i64 (u * 1048576) (by omega) (by omega)]
    exact hK
  by_cases h1 : x - y < 0
  · rw [if_pos h1] at h
    rw [if_pos (decide_eq_true (by omega)), wrap_i64 (y - x) (by omega) (by omega)]
    have hs : 0 ≤ smaller (y - x) 62 ∧ smaller (y - x) 62 ≤ 62 := by unfold smaller; split <;> omega
    rw [wrap_u64 _ (by omega) (by omega)]
    refine ⟨hs.1, ?_⟩
    rw [show min (smaller (y - x) 62).toNat (IntKind.i64).bits = (smaller (y - x) 62).toNat from Nat.min_eq_left (by show _ ≤ 64; omega)]
    rw [show (0 : Int) - (x - y) = y - x by omega] at h
    exact h
  · rw [if_neg h1] at h
    rw [if_neg (by simp; omega), wrap_i64 (x - y) (by omega) (by omega)]
    by_cases h2 : 20 < x - y
    · rw [if_pos h2] at h
      rw [if_pos (decide_eq_true h2)]
      by_cases h3 : v = 0
      · rw [if_pos (by rw [h3]; rfl)]
        rw [if_neg (by omega), if_neg (by omega)] at h
        exact h
      · rw [if_neg (by simpa using h3)]
        refine ⟨?_⟩
        unfold pedagogueref1_within_t
        have hu := gs_rng v (-1) 1 (by omega)
        refine n63' (greater (-1) (smaller v 1)) hu.1 hu.2 _ ?_
        by_cases h4 : 0 < v
        · rw [if_pos h4] at h
          have : greater (-1) (smaller v 1) = 1 := by unfold greater smaller; split <;> split <;> omega
          rw [this]
          exact h
        · rw [if_neg h4, if_pos (by omega)] at h
          have : greater (-1) (smaller v 1) = -1 := by unfold greater smaller; split <;> split <;> omega
          rw [this]
          exact h
    · rw [if_neg h2] at h
      rw [if_neg (by simp; omega)]
      exact n63 x y (by omega) (by omega) (by omega) (by omega) _ h

end Go.Proofs.Ytlbapaelkdpjcaa
