/- The reference's tensors, sums, windows, lookers, places of a number. Laws; no condition. -/
import Derived.Test.YtmleeffinagncaaQD
import Derived.Test.YtmleeffinagncaaP6
namespace Go.Proofs.Ytmleeffinagncaa
open Go.Mach Go.RowKit
set_option maxRecDepth 100000
set_option linter.unusedVariables false
set_option linter.unusedSimpArgs false

theorem noMin_v {l : List Int} {K0 K1 : Unit → Prop} (hl : l.length ≤ 1000000) (h : if -128 ∈ l then K1 () else K0 ()) : pedagogueref1_MayT_n0 l (l.length : Int) K0 K1 0 := by
  refine ⟨?_⟩
  refine Loop.range (B := pedagogueref1_MayT_n0_B l (l.length : Int) K0 K1) l.length (fun i => (i : Int)) (fun i => ∀ j, j < i → l.getD j 0 ≠ -128) (fun j hj => absurd hj (by omega)) ?_ ?_
  · intro i hi hI X hX
    unfold pedagogueref1_MayT_n0_B
    rw [if_pos (decide_eq_true (show (i : Int) < (l.length : Int) by omega))]
    refine ⟨by omega, ?_⟩
    rw [Int.toNat_natCast]
    have hget : l.getD i 0 = l[i] := by rw [List.getD_eq_getElem?_getD, List.getElem?_eq_getElem hi]; rfl
    by_cases hv : l.getD i 0 = -128
    · rw [if_pos (by rw [hv]; rfl)]
      rw [if_pos (by rw [← hv, hget]; exact List.getElem_mem hi)] at h
      exact h
    · rw [if_neg (by simpa using hv), wrap_i64 _ (by omega) (by omega)]
      refine hX fun j hj => ?_
      by_cases hji : j = i
      · subst hji; exact hv
      · exact hI j (by omega)
  · intro hI X
    unfold pedagogueref1_MayT_n0_B
    rw [if_neg (by simp)]
    rw [if_neg] at h
    · exact h
    · intro hm
      obtain ⟨j, hj, e⟩ := List.getElem_of_mem hm
      apply hI j hj
      rw [List.getD_eq_getElem?_getD, List.getElem?_eq_getElem hj, ← e]; rfl
theorem expF64 (e : Int) : expF e 64 = !(decide (e < -64) || decide (64 < e)) := by
  unfold expF
  rw [wrap_i64 (0 - 64) (by omega) (by omega), Bool.eq_iff_iff]
  simp only [Bool.and_eq_true, decide_eq_true_eq, Bool.not_eq_true', Bool.or_eq_false_iff, decide_eq_false_iff_not]
  omega
theorem rmayT_v {a : T3} {Q : Bool → Prop} (h : Q (mayF a)) : pedagogueref1_MayT a Q := by
  refine ⟨?_⟩
  unfold pedagogueref1_MayT_t
  refine mayDims_v ?_
  unfold mayF at h
  have key : ∀ v : Bool, v = !(decide (0 < szF a.1) && ((a.2.2.length : Int) == szF a.1)) → (if ((v || decide (a.2.1 < -64)) || decide (64 < a.2.1)) = true then Q false else pedagogueref1_MayT_n0 a.2.2 (a.2.2.length : Int) (fun _ => Q true) (fun _ => Q false) 0) := by
    intro v hv
    rw [expF64] at h
    have hle := szF_le a.1
    by_cases hc : ((v || decide (a.2.1 < -64)) || decide (64 < a.2.1)) = true
    · rw [if_pos hc]
      have : (((decide (0 < szF a.1) && ((a.2.2.length : Int) == szF a.1)) && !(decide (a.2.1 < -64) || decide (64 < a.2.1))) && !decide (-128 ∈ a.2.2)) = false := by
        rw [Bool.or_assoc] at hc
        cases hv2 : v with
        | true =>
          rw [hv2] at hv
          cases hq : (decide (0 < szF a.1) && ((a.2.2.length : Int) == szF a.1)) with
          | true => rw [hq] at hv; cases hv
          | false => rfl
        | false =>
          rw [hv2, Bool.false_or] at hc
          rw [hc]; simp
      rw [this] at h; exact h
    · rw [if_neg hc]
      simp only [Bool.or_eq_true, not_or] at hc
      have hv0 : v = false := by simpa using hc.1.1
      rw [hv0] at hv
      have hv' : (decide (0 < szF a.1) && ((a.2.2.length : Int) == szF a.1)) = true := by
        cases hq : (decide (0 < szF a.1) && ((a.2.2.length : Int) == szF a.1)) with
        | true => rfl
        | false => rw [hq] at hv; cases hv
      have hlen : a.2.2.length ≤ 1000000 := by
        simp only [Bool.and_eq_true, decide_eq_true_eq, beq_iff_eq] at hv'
        omega
      refine noMin_v hlen ?_
      have e1 : decide (a.2.1 < -64) = false := by simpa using hc.1.2
      have e2 : decide (64 < a.2.1) = false := by simpa using hc.2
      rw [hv', e1, e2] at h
      by_cases hm : -128 ∈ a.2.2
      · rw [if_pos hm]; simpa [hm] using h
      · rw [if_neg hm]; simpa [hm] using h
  show (if (!decide (0 < szF a.1)) = true then _ else _)
  by_cases hp : 0 < szF a.1
  · rw [if_neg (by simp [hp])]
    refine rsize_v ?_
    exact key _ (by rw [decide_eq_true hp]; unfold bne; rw [Bool.true_and])
  · rw [if_pos (by simp [hp])]
    exact key true (by rw [decide_eq_false hp]; rfl)
theorem rmay_v {l : List T3} {Q : Bool → Prop} (hl : l.length ≤ 1000000) (h : Q (l.all mayF)) : pedagogueref10_may l Q := by
  refine ⟨?_⟩
  unfold pedagogueref10_may_t
  refine ⟨?_⟩
  refine Loop.range (B := pedagogueref10_may_n0_B l (l.length : Int) _ _) l.length (fun i => (i : Int)) (fun i => (l.take i).all mayF = true) rfl ?_ ?_
  · intro i hi hI X hX
    unfold pedagogueref10_may_n0_B
    rw [if_pos (decide_eq_true (show (i : Int) < (l.length : Int) by omega))]
    refine ⟨by omega, rmayT_v ?_⟩
    simp only [Int.toNat_natCast]
    cases hm : mayF (l.getD i ([], 0, [])) with
    | true =>
      rw [if_neg (by simp [hm]), wrap_i64 _ (by omega) (by omega)]
      exact hX (by rw [all_take (d := ([], 0, [])) hi, hI, hm]; rfl)
    | false =>
      rw [if_pos (by simp [hm])]
      rw [all_at hi hm] at h
      exact h
  · intro hI X
    unfold pedagogueref10_may_n0_B
    rw [if_neg (by simp)]
    rw [List.take_length] at hI
    rw [hI] at h
    exact h
theorem rfits_v {n : Int} {Q : Bool → Prop} (h : Q (fitsF n)) : pedagogueref10_Fits n Q := by
  refine ⟨?_⟩
  unfold pedagogueref10_Fits_t
  unfold fitsF at h
  show (if (decide (0 ≤ n) && decide (n ≤ 1023)) = true then _ else _)
  by_cases h1 : (decide (0 ≤ n) && decide (n ≤ 1023)) = true
  · rw [if_pos h1]
    rw [h1] at h
    simp only [Bool.and_eq_true, decide_eq_true_eq] at h1
    refine ⟨by omega, ?_⟩
    rw [Int.mul_one, wrap_i64 n (by omega) (by omega)]
    rw [show (2 : Int) ^ min ((14 : Int)).toNat (IntKind.i64).bits = 16384 by decide, wrap_i64 (n * 16384) (by omega) (by omega), wrap_i64 _ (by omega) (by omega)]
    exact h
  · rw [if_neg h1]
    have e : (decide (0 ≤ n) && decide (n ≤ 1023)) = false := by simpa using h1
    rw [e] at h
    exact h
theorem rsums_v {d : List Int} {e n : Int} {Q : T3 × Int → Prop} (h : Q (sumsF d e n)) : pedagogueref10_sums d e n Q := by
  refine ⟨?_⟩
  unfold pedagogueref10_sums_t
  refine rfits_v ?_
  unfold sumsF at h
  by_cases h1 : (!fitsF n) = true
  · rw [if_pos h1] at h ⊢; exact h
  · rw [if_neg h1] at h ⊢
    refine ⟨?_⟩
    unfold pedagogueref10_acc_t
    by_cases h2 : (decide (e < -128) || decide (128 < e)) = true
    · rw [if_pos h2] at h ⊢; exact h
    · rw [if_neg h2] at h ⊢
      refine mayDims_v ?_
      by_cases h3 : (!decide (0 < szF d)) = true
      · rw [if_pos h3] at h ⊢; exact h
      · rw [if_neg h3] at h ⊢
        have := szF_le d
        have := szF_nonneg d
        refine rsize_v ⟨⟨by omega, by omega⟩, h⟩
theorem valF_rng (a : Int) : -4611686018427387904 ≤ valF a ∧ valF a ≤ 4611686018427387904 := by
  unfold valF greater smaller
  split <;> split <;> omega
theorem ral_v {a b c : Int} {Q : Int → Prop} (h : Q (alF a b c)) : pedagogueref1_Align a b c Q := by
  refine ⟨?_⟩
  unfold pedagogueref1_Align_t
  refine ⟨?_⟩
  unfold pedagogueref1_taken_t
  refine ⟨?_⟩
  unfold pedagogueref1_within_t
  refine ⟨?_⟩
  unfold pedagogueref1_within_t
  refine ⟨?_⟩
  unfold pedagogueref1_within_t
  refine ⟨?_⟩
  unfold pedagogueref1_within_t
  unfold alF at h
  simp only at h
  have hb := gs_rng b (-1000) 1000 (by omega)
  have hc := gs_rng c (-1000) 1000 (by omega)
  have hv := valF_rng a
  show (if decide (greater (-1000) (smaller b 1000) < greater (-1000) (smaller c 1000)) = true then _ else _)
  generalize greater (-1000) (smaller b 1000) = x at *
  generalize greater (-1000) (smaller c 1000) = y at *
  show (if decide (x < y) = true then ck _ (Q ((valF a).fdiv _)) else if decide (20 < IntKind.i64.wrap (x - y)) = true then (if ((valF a) == 0) = true then Q 0 else pedagogueref1_within (valF a) (-1) 1 (fun r4 => pedagogueref1_Align_n0 r4 (IntKind.i64.wrap (y + 20)) y (fun y7 => Q y7))) else pedagogueref1_Align_n0 (valF a) x y _)
  generalize valF a = v at *
  have n63 : ∀ (p q : Int), -1000 ≤ q → q ≤ p → p ≤ q + 20 → q ≤ 1000 → ∀ K : Int → Prop, K (greater (-1048576) (smaller (greater (-1048576) (smaller v 1048576) * 2 ^ (p - q).toNat) 1048576)) → pedagogueref1_Align_n0 v p q K := by
    intro p q h1 h2 h3 h4 K hK
    refine ⟨?_⟩
    unfold pedagogueref1_Align_n0_t
    refine ⟨?_⟩
    unfold pedagogueref1_within_t
    rw [wrap_i64 (p - q) (by omega) (by omega), wrap_u64 (p - q) (by omega) (by omega)]
    refine ⟨by omega, ⟨?_⟩⟩
    unfold pedagogueref1_within_t
    have hm := gs_rng v (-1048576) 1048576 (by omega)
    have hp := pow2_le (p - q).toNat 20 (by omega)
    have := mul_bd (greater (-1048576) (smaller v 1048576)) (2 ^ (p - q).toNat) 1048576 1048576 hm.1 hm.2 (by omega) hp.2 (by omega)
    rw [show min (p - q).toNat (IntKind.i64).bits = (p - q).toNat from Nat.min_eq_left (by show _ ≤ 64; omega)]
    rw [wrap_i64 (greater (-1048576) (smaller v 1048576) * 2 ^ (p - q).toNat) (by omega) (by omega)]
    exact hK
  have n63' : ∀ (u : Int), -1 ≤ u → u ≤ 1 → ∀ K : Int → Prop, K (greater (-1048576) (smaller (u * 1048576) 1048576)) → pedagogueref1_Align_n0 u (IntKind.i64.wrap (y + 20)) y K := by
    intro u h1 h2 K hK
    refine ⟨?_⟩
    unfold pedagogueref1_Align_n0_t
    refine ⟨?_⟩
    unfold pedagogueref1_within_t
    rw [wrap_i64 (y + 20) (by omega) (by omega), show y + 20 - y = 20 by omega, wrap_i64 20 (by omega) (by omega), wrap_u64 20 (by omega) (by omega)]
    refine ⟨by omega, ⟨?_⟩⟩
    unfold pedagogueref1_within_t
    have hu : greater (-1048576) (smaller u 1048576) = u := by unfold greater smaller; split <;> split <;> omega
    rw [hu, show (2 : Int) ^ min ((20 : Int)).toNat (IntKind.i64).bits = 1048576 by decide]
    rw [wrap_i64 (u * 1048576) (by omega) (by omega)]
    exact hK
  by_cases h1 : x - y < 0
  · rw [if_pos h1] at h
    rw [if_pos (decide_eq_true (by omega)), wrap_i64 (y - x) (by omega) (by omega)]
    have hs : 0 ≤ smaller (y - x) 62 ∧ smaller (y - x) 62 ≤ 62 := by unfold smaller; split <;> omega
    rw [wrap_u64 _ (by omega) (by omega)]
    refine ⟨hs.1, ?_⟩
    rw [show min (smaller (y - x) 62).toNat (IntKind.i64).bits = (smaller (y - x) 62).toNat from Nat.min_eq_left (by show _ ≤ 64; omega)]
    rw [show (0 : Int) - (x - y) = y - x by omega] at h
    exact h
  · rw [if_neg h1] at h
    rw [if_neg (by simp; omega), wrap_i64 (x - y) (by omega) (by omega)]
    by_cases h2 : 20 < x - y
    · rw [if_pos h2] at h
      rw [if_pos (decide_eq_true h2)]
      by_cases h3 : v = 0
      · rw [if_pos (by rw [h3]; rfl)]
        rw [if_neg (by omega), if_neg (by omega)] at h
        exact h
      · rw [if_neg (by simpa using h3)]
        refine ⟨?_⟩
        unfold pedagogueref1_within_t
        have hu := gs_rng v (-1) 1 (by omega)
        refine n63' (greater (-1) (smaller v 1)) hu.1 hu.2 _ ?_
        by_cases h4 : 0 < v
        · rw [if_pos h4] at h
          have : greater (-1) (smaller v 1) = 1 := by unfold greater smaller; split <;> split <;> omega
          rw [this]
          exact h
        · rw [if_neg h4, if_pos (by omega)] at h
          have : greater (-1) (smaller v 1) = -1 := by unfold greater smaller; split <;> split <;> omega
          rw [this]
          exact h
    · rw [if_neg h2] at h
      rw [if_neg (by simp; omega)]
      exact n63 x y (by omega) (by omega) (by omega) (by omega) _ h

theorem rout2_v {n k s p : Int} {Q : Int → Prop} (h : Q (outF n k s p)) : pedagogueref1_Out n k s p Q := by
  by_cases hp : 0 ≤ p ∧ p < k ∧ k ≤ 5
  · exact rout_v (by omega) h
  · refine ⟨?_⟩
    unfold pedagogueref1_Out_t
    unfold outF badOut inP at h
    rw [if_pos (by simp; omega)] at h
    rw [if_pos (by simp; omega)]
    exact h
theorem rplane_v {a b k s p : Int} {Q : Int × Int → Prop} (h : Q (outF a k s p, outF b k s p)) : pedagogueref10_plane a b k s p Q := by
  refine ⟨?_⟩
  unfold pedagogueref10_plane_t
  exact rout2_v (rout2_v h)

/-! ### Windows -/
theorem rwrow_v {rows cols r c k s p : Int} {i K : Nat} {acc : List (Int × Int × Int)} {K0 : List (Int × Int × Int) → Prop} (hr : 0 ≤ r ∧ r ≤ 100) (hc : 0 ≤ c ∧ c ≤ 100) (hs : 0 ≤ s ∧ s ≤ 4) (hp : 0 ≤ p ∧ p ≤ 5) (hi : i ≤ 5) (hK : K ≤ 5) (hrows : 0 ≤ rows ∧ rows ≤ 16) (hcols : 0 ≤ cols ∧ cols ≤ 16) (ha : acc.length ≤ 100000)
    (h : K0 (acc ++ winRow rows cols (s * r - p) (s * c - p) i K)) : pedagogueref1_Window_n1 rows cols r c s p i K K0 (0, acc) := by
  refine ⟨?_⟩
  have m1 : 0 ≤ s * r := Int.mul_nonneg hs.1 hr.1
  have m2 : s * r ≤ 4 * 100 := Int.mul_le_mul hs.2 hr.2 hr.1 (by omega)
  have m3 : 0 ≤ s * c := Int.mul_nonneg hs.1 hc.1
  have m4 : s * c ≤ 4 * 100 := Int.mul_le_mul hs.2 hc.2 hc.1 (by omega)
  have eg : ((0 : Int), acc) = (fun j : Nat => ((j : Int), acc ++ winRow rows cols (s * r - p) (s * c - p) i j)) 0 := by simp [winRow]
  rw [eg]
  refine Loop.range (B := pedagogueref1_Window_n1_B rows cols r c s p i K K0) (f := fun j : Nat => ((j : Int), acc ++ winRow rows cols (s * r - p) (s * c - p) i j)) K (fun _ => True) trivial ?_ ?_
  · intro j hj _ X hX
    have hX := hX trivial
    unfold pedagogueref1_Window_n1_B
    rw [if_pos (decide_eq_true (show (j : Int) < (K : Int) by omega))]
    dsimp only at hX ⊢
    have e1 : IntKind.i64.wrap (IntKind.i64.wrap (IntKind.i64.wrap (r * s) - p) + (i : Int)) = s * r - p + i := by
      rw [Int.mul_comm r s, wrap_i64 (s * r) (by omega) (by omega), wrap_i64 (s * r - p) (by omega) (by omega), wrap_i64 _ (by omega) (by omega)]
    have e2 : IntKind.i64.wrap (IntKind.i64.wrap (IntKind.i64.wrap (c * s) - p) + (j : Int)) = s * c - p + j := by
      rw [Int.mul_comm c s, wrap_i64 (s * c) (by omega) (by omega), wrap_i64 (s * c - p) (by omega) (by omega), wrap_i64 _ (by omega) (by omega)]
    rw [e1, e2]
    have hlen := winRow_len (rows := rows) (cols := cols) (cr := s * r - p) (cc := s * c - p) (i := i) j
    rw [winRow_succ, ← List.append_assoc] at hX
    unfold winCell at hX
    by_cases hin : (inP (s * r - p + i) 0 (rows - 1) && inP (s * c - p + j) 0 (cols - 1)) = true
    · rw [if_pos hin] at hX
      simp only [Bool.and_eq_true] at hin
      have b1 : 0 ≤ s * r - p + i ∧ s * r - p + i ≤ rows - 1 := by simpa [inP] using hin.1
      have b2 : 0 ≤ s * c - p + j ∧ s * c - p + j ≤ cols - 1 := by simpa [inP] using hin.2
      have m5 : 0 ≤ (s * r - p + i) * cols := Int.mul_nonneg b1.1 hcols.1
      have m6 : (s * r - p + i) * cols ≤ 16 * 16 := Int.mul_le_mul (by omega) hcols.2 hcols.1 (by omega)
      rw [if_pos (by simp; omega)]
      refine ⟨by simp only [List.length_append, List.length_singleton]; omega, ⟨?_⟩⟩
      unfold pedagogueref1_Window_n2_t
      rw [wrap_i64 ((j : Int) + 1) (by omega) (by omega), wrap_i64 ((s * r - p + i) * cols) (by omega) (by omega), wrap_i64 ((s * r - p + i) * cols + (s * c - p + j)) (by omega) (by omega)]
      exact hX
    · rw [if_neg hin, List.append_nil] at hX
      rw [if_neg (by
        intro hh
        apply hin
        simp only [Bool.and_eq_true, decide_eq_true_eq] at hh
        rw [inP_of (by omega) (by omega), inP_of (by omega) (by omega)]; rfl)]
      refine ⟨?_⟩
      unfold pedagogueref1_Window_n2_t
      rw [wrap_i64 ((j : Int) + 1) (by omega) (by omega)]
      exact hX
  · intro _ X
    unfold pedagogueref1_Window_n1_B
    rw [if_neg (by simp)]
    exact h
theorem rwindow_v {rows cols r c k s p : Int} {Q : List (Int × Int × Int) → Prop} (h : Q (windowF rows cols r c k s p)) : pedagogueref1_Window rows cols r c k s p Q := by
  refine ⟨?_⟩
  unfold pedagogueref1_Window_t
  obtain ⟨m1, m2, m3⟩ := outF_rng rows k s p
  obtain ⟨n1, n2, n3⟩ := outF_rng cols k s p
  refine orb_v (b := decide (r < 0) || decide (c < 0)) (c := decide (outF rows k s p ≤ r)) (fun _ P hp => rout2_v hp) (fun v1 e1 => ?_) rfl
  refine orb_v (c := decide (outF cols k s p ≤ c)) (fun _ P hp => rout2_v hp) (fun v4 e4 => ?_) rfl
  have hv : v4 = noWin rows cols r c k s p := by
    rw [e4, e1, Bool.eq_iff_iff]
    unfold noWin inP
    simp only [Bool.or_eq_true, decide_eq_true_eq, Bool.not_eq_true', Bool.and_eq_false_iff, decide_eq_false_iff_not]
    omega
  unfold windowF at h
  rw [← hv] at h
  cases hv4 : v4 with
  | true => rw [hv4, if_pos rfl] at h; rw [if_pos rfl]; exact h
  | false =>
    rw [hv4, if_neg (by simp)] at h
    rw [if_neg (by simp)]
    rw [hv4, e1] at e4
    have e4 := e4.symm
    simp only [Bool.or_eq_false_iff, decide_eq_false_iff_not] at e4
    obtain ⟨b1, b2, b3, b4, b5, _⟩ := out_ok (n := rows) (k := k) (s := s) (p := p) (by omega)
    obtain ⟨c1, _⟩ := out_ok (n := cols) (k := k) (s := s) (p := p) (by omega)
    obtain ⟨K, rfl⟩ := Int.eq_ofNat_of_zero_le (show 0 ≤ k by omega)
    rw [Int.toNat_natCast] at h
    refine ⟨?_⟩
    refine Loop.range (B := pedagogueref1_Window_n0_B rows cols r c K s p K _) (f := fun i : Nat => ((i : Int), winF rows cols (s * r - p) (s * c - p) K i)) K (fun _ => True) trivial ?_ ?_
    · intro i hi _ X hX
      have hX := hX trivial
      unfold pedagogueref1_Window_n0_B
      rw [if_pos (decide_eq_true (show (i : Int) < (K : Int) by omega))]
      dsimp only at hX ⊢
      have hl := winF_len (rows := rows) (cols := cols) (cr := s * r - p) (cc := s * c - p) (k := K) i
      have hm : i * K ≤ 5 * 5 := Nat.mul_le_mul (by omega) (by omega)
      refine rwrow_v (k := K) (by omega) (by omega) (by omega) (by omega) (by omega) (by omega) (by omega) (by omega) (by omega) ?_
      rw [wrap_i64 ((i : Int) + 1) (by omega) (by omega)]
      rw [winF_succ] at hX
      exact hX
    · intro _ X
      unfold pedagogueref1_Window_n0_B
      rw [if_neg (by simp)]
      exact h

/-! ### Who looks -/
theorem rlrow_v {r c k s p : Int} {Q y m : Nat} {acc : List (Int × Int × Int)} {K0 : List (Int × Int × Int) → Prop} (hr : 0 ≤ r ∧ r ≤ 100) (hc : 0 ≤ c ∧ c ≤ 100) (hs : 0 ≤ s ∧ s ≤ 4) (hp : 0 ≤ p ∧ p ≤ 5) (hy : y ≤ 25) (hQ : Q ≤ 25) (hm : m ≤ 25) (hk : 0 ≤ k ∧ k ≤ 5) (ha : acc.length ≤ 100000)
    (h : K0 (acc ++ lookRow s p r c k Q y m)) : pedagogueref1_Lookers_n1 r c k s p Q y m K0 (0, acc) := by
  refine ⟨?_⟩
  have m1 : 0 ≤ s * (y : Int) := Int.mul_nonneg hs.1 (by omega)
  have m2 : s * (y : Int) ≤ 4 * 25 := Int.mul_le_mul hs.2 (by omega) (by omega) (by omega)
  have eg : ((0 : Int), acc) = (fun j : Nat => ((j : Int), acc ++ lookRow s p r c k Q y j)) 0 := by simp [lookRow]
  rw [eg]
  refine Loop.range (B := pedagogueref1_Lookers_n1_B r c k s p Q y m K0) (f := fun j : Nat => ((j : Int), acc ++ lookRow s p r c k Q y j)) m (fun _ => True) trivial ?_ ?_
  · intro x hx _ X hX
    have hX := hX trivial
    unfold pedagogueref1_Lookers_n1_B
    rw [if_pos (decide_eq_true (show (x : Int) < (m : Int) by omega))]
    dsimp only at hX ⊢
    have m3 : 0 ≤ s * (x : Int) := Int.mul_nonneg hs.1 (by omega)
    have m4 : s * (x : Int) ≤ 4 * 25 := Int.mul_le_mul hs.2 (by omega) (by omega) (by omega)
    have e1 : IntKind.i64.wrap (r - IntKind.i64.wrap (IntKind.i64.wrap ((y : Int) * s) - p)) = r - (s * y - p) := by
      rw [Int.mul_comm (y : Int) s, wrap_i64 (s * (y : Int)) (by omega) (by omega), wrap_i64 (s * (y : Int) - p) (by omega) (by omega), wrap_i64 _ (by omega) (by omega)]
    have e2 : IntKind.i64.wrap (c - IntKind.i64.wrap (IntKind.i64.wrap ((x : Int) * s) - p)) = c - (s * x - p) := by
      rw [Int.mul_comm (x : Int) s, wrap_i64 (s * (x : Int)) (by omega) (by omega), wrap_i64 (s * (x : Int) - p) (by omega) (by omega), wrap_i64 _ (by omega) (by omega)]
    have hyQ : y * Q ≤ 25 * 25 := Nat.mul_le_mul hy hQ
    have e3 : IntKind.i64.wrap (IntKind.i64.wrap ((y : Int) * (Q : Int)) + (x : Int)) = (y : Int) * Q + x := by
      rw [ix (r := y) (n := Q) (i := x) (by omega)]; rw [Int.natCast_add, Int.natCast_mul]
    rw [e1, e2, e3]
    have hlen := lookRow_len (s := s) (p := p) (r := r) (c := c) (k := k) (Q := Q) (y := y) x
    rw [lookRow_succ, ← List.append_assoc] at hX
    unfold lookCell at hX
    by_cases hin : (inP (r - (s * y - p)) 0 (k - 1) && inP (c - (s * x - p)) 0 (k - 1)) = true
    · rw [if_pos hin] at hX
      simp only [Bool.and_eq_true] at hin
      have b1 : 0 ≤ r - (s * y - p) ∧ r - (s * y - p) ≤ k - 1 := by simpa [inP] using hin.1
      have b2 : 0 ≤ c - (s * x - p) ∧ c - (s * x - p) ≤ k - 1 := by simpa [inP] using hin.2
      rw [if_pos (by simp only [Bool.and_eq_true, decide_eq_true_eq]; omega)]
      refine ⟨by simp only [List.length_append, List.length_singleton]; omega, ⟨?_⟩⟩
      unfold pedagogueref1_Lookers_n2_t
      rw [wrap_i64 ((x : Int) + 1) (by omega) (by omega)]
      exact hX
    · rw [if_neg hin, List.append_nil] at hX
      rw [if_neg (by
        intro hh
        apply hin
        simp only [Bool.and_eq_true, decide_eq_true_eq] at hh
        rw [inP_of (by omega) (by omega), inP_of (by omega) (by omega)]; rfl)]
      refine ⟨?_⟩
      unfold pedagogueref1_Lookers_n2_t
      rw [wrap_i64 ((x : Int) + 1) (by omega) (by omega)]
      exact hX
  · intro _ X
    unfold pedagogueref1_Lookers_n1_B
    rw [if_neg (by simp)]
    exact h
theorem rlook_v {rows cols r c k s p : Int} {Q : List (Int × Int × Int) → Prop} (h : Q (lookF rows cols r c k s p)) : pedagogueref1_Lookers rows cols r c k s p Q := by
  refine ⟨?_⟩
  unfold pedagogueref1_Lookers_t
  refine rout2_v (rout2_v ?_)
  obtain ⟨m1, m2, m3⟩ := outF_rng rows k s p
  obtain ⟨n1, n2, n3⟩ := outF_rng cols k s p
  have hv : ((((((outF rows k s p == 0) || (outF cols k s p == 0)) || (decide (r < 0))) || (decide (rows ≤ r))) || (decide (c < 0))) || (decide (cols ≤ c))) = noLook rows cols r c k s p := by
    rw [Bool.eq_iff_iff]
    unfold noLook inP
    simp only [Bool.or_eq_true, decide_eq_true_eq, Bool.not_eq_true', Bool.and_eq_false_iff, decide_eq_false_iff_not, beq_iff_eq]
    omega
  rw [hv]
  unfold lookF at h
  by_cases hn : noLook rows cols r c k s p = true
  · rw [if_pos hn] at h ⊢; exact h
  · rw [if_neg hn] at h ⊢
    unfold noLook inP at hn
    simp only [Bool.or_eq_true, decide_eq_true_eq, Bool.not_eq_true', Bool.and_eq_false_iff, decide_eq_false_iff_not] at hn
    obtain ⟨b1, b2, b3, b4, b5, _⟩ := out_ok (n := rows) (k := k) (s := s) (p := p) (by omega)
    obtain ⟨c1, _⟩ := out_ok (n := cols) (k := k) (s := s) (p := p) (by omega)
    obtain ⟨P, eP, hP⟩ := out_nat (n := rows) (k := k) (s := s) (p := p)
    obtain ⟨R, eR, hR⟩ := out_nat (n := cols) (k := k) (s := s) (p := p)
    rw [eP, eR, Int.toNat_natCast, Int.toNat_natCast] at h
    rw [eP, eR]
    refine ⟨?_⟩
    refine Loop.range (B := pedagogueref1_Lookers_n0_B r c k s p R P _) (f := fun y : Nat => ((y : Int), lookP s p r c k R y R)) P (fun _ => True) trivial ?_ ?_
    · intro y hy _ X hX
      have hX := hX trivial
      unfold pedagogueref1_Lookers_n0_B
      rw [if_pos (decide_eq_true (show (y : Int) < (P : Int) by omega))]
      dsimp only at hX ⊢
      have hl := lookP_len (s := s) (p := p) (r := r) (c := c) (k := k) (Q := R) (m := R) y
      have hl2 : y * R ≤ 25 * 25 := Nat.mul_le_mul (by omega) hR
      refine rlrow_v (by omega) (by omega) (by omega) (by omega) (by omega) hR hR (by omega) (by omega) ?_
      rw [wrap_i64 ((y : Int) + 1) (by omega) (by omega)]
      rw [lookP_succ] at hX
      exact hX
    · intro _ X
      unfold pedagogueref1_Lookers_n0_B
      rw [if_neg (by simp)]
      exact h

/-! ### The place of a number -/
theorem prod_v {l : List Int} {K0 : Int → Prop} (hl : l.length ≤ 4) (hd : ∀ d ∈ l, 1 ≤ d) (hp : prodL l ≤ 8192) (h : K0 (prodL l)) : pedagogueref1_Strides_n1 l (l.length : Int) K0 (1, 0) := by
  refine ⟨?_⟩
  refine Loop.rangeI (B := pedagogueref1_Strides_n1_B l (l.length : Int) K0) l.length (fun i st => st.2 = (i : Int) ∧ 1 ≤ st.1 ∧ st.1 * prodL (l.drop i) = prodL l) ⟨rfl, by show (1 : Int) ≤ 1; omega, by show 1 * prodL (l.drop 0) = _; rw [Int.one_mul, List.drop_zero]⟩ ?_ ?_
  · rintro i hi ⟨acc, i'⟩ ⟨e1, e2, e3⟩ X hX
    simp only at e1 e2 e3
    subst e1
    unfold pedagogueref1_Strides_n1_B
    rw [if_pos (decide_eq_true (show (i : Int) < (l.length : Int) by omega))]
    dsimp only
    refine ⟨by omega, ?_⟩
    rw [Int.toNat_natCast]
    have hg : l.drop i = l.getD i 0 :: l.drop (i + 1) := getD_drop hi
    rw [hg] at e3
    have h1 := hd (l.getD i 0) (getD_mem hi)
    have h2 := prodL_pos (l := l.drop (i + 1)) fun d hdd => hd d (List.mem_of_mem_drop hdd)
    have e4 : acc * l.getD i 0 * prodL (l.drop (i + 1)) = prodL l := by rw [Int.mul_assoc]; exact e3
    have h3 := mul_pos' e2 h1
    have h4 : acc * l.getD i 0 ≤ acc * l.getD i 0 * prodL (l.drop (i + 1)) := by
      have := Int.mul_le_mul_of_nonneg_left (c := acc * l.getD i 0) h2 (by omega)
      omega
    rw [wrap_i64 (acc * l.getD i 0) (by omega) (by omega), wrap_i64 ((i : Int) + 1) (by omega) (by omega)]
    exact hX _ ⟨by simp, h3, e4⟩
  · rintro ⟨acc, i'⟩ ⟨e1, e2, e3⟩ X
    simp only at e1 e2 e3
    subst e1
    unfold pedagogueref1_Strides_n1_B
    rw [if_neg (by simp)]
    rw [List.drop_length] at e3
    have : acc = prodL l := by simpa [prodL] using e3
    dsimp only
    rw [this]
    exact h
def stF (d : List Int) : List Int := tab d.length fun i => prodL (d.drop (i + 1))
theorem prodL_drop {l : List Int} (hd : ∀ d ∈ l, 1 ≤ d) : ∀ i, prodL (l.drop i) ≤ prodL l := by
  intro i
  induction i with
  | zero => rw [List.drop_zero]; exact Int.le_refl _
  | succ i ih =>
    rcases Nat.lt_or_ge i l.length with h | h
    · have hg : l.drop i = l.getD i 0 :: l.drop (i + 1) := getD_drop h
      rw [hg] at ih
      have h1 := hd (l.getD i 0) (getD_mem h)
      have h2 := prodL_pos (l := l.drop (i + 1)) fun d hdd => hd d (List.mem_of_mem_drop hdd)
      have h3 : prodL (l.drop (i + 1)) ≤ l.getD i 0 * prodL (l.drop (i + 1)) := by
        have := Int.mul_le_mul_of_nonneg_right h1 (show 0 ≤ prodL (l.drop (i + 1)) by omega)
        omega
      exact Int.le_trans h3 ih
    · rw [List.drop_eq_nil_of_le (by omega)]
      exact prodL_pos hd
theorem rstrides_v {d : List Int} {Q : List Int → Prop} (hs : 0 < szF d) (h : Q (stF d)) : pedagogueref1_Strides d Q := by
  obtain ⟨h1, h2, h3, h4⟩ := szF_inv hs
  refine ⟨?_⟩
  unfold pedagogueref1_Strides_t
  refine mayDims_v ?_
  rw [if_neg (by simp [hs])]
  refine ⟨?_⟩
  refine Loop.range (B := pedagogueref1_Strides_n0_B d (d.length : Int) _) (f := fun i : Nat => ((i : Int), tab i fun i => prodL (d.drop (i + 1)))) d.length (fun _ => True) trivial ?_ ?_
  · intro i hi _ X hX
    have hX := hX trivial
    unfold pedagogueref1_Strides_n0_B
    rw [if_pos (decide_eq_true (show (i : Int) < (d.length : Int) by omega))]
    dsimp only at hX ⊢
    have ei : IntKind.i64.wrap ((i : Int) + 1) = ((i + 1 : Nat) : Int) := by rw [wrap_i64 _ (by omega) (by omega)]; omega
    rw [ei]
    refine ⟨⟨?_, by omega, by omega, by omega⟩, ?_⟩
    · intro e; rw [e] at h1; simp at h1
    · simp only [Int.toNat_natCast, List.take_length]
      have hb := prodL_drop (fun x hx => (h2 x hx).1) (i + 1)
      refine prod_v (by rw [List.length_drop]; omega) (fun x hx => (h2 x (List.mem_of_mem_drop hx)).1) (by omega) ?_
      refine ⟨by simp; omega, ?_⟩
      have : tab (i + 1) (fun i => prodL (d.drop (i + 1))) = tab i (fun i => prodL (d.drop (i + 1))) ++ [prodL (d.drop (i + 1))] := by
        unfold tab; rw [List.range_succ, List.map_append]; rfl
      rw [this] at hX
      exact hX
  · intro _ X
    unfold pedagogueref1_Strides_n0_B
    rw [if_neg (by simp)]
    exact h
theorem stF4 {n O P R : Nat} : stF [(n : Int), O, P, R] = [((O * P * R : Nat) : Int), ((P * R : Nat) : Int), (R : Int), 1] := by
  have e1 : prodL [(O : Int), P, R] = ((O * P * R : Nat) : Int) := by simp only [prodL, Int.natCast_mul, Int.mul_one, Int.mul_assoc]
  have e2 : prodL [(P : Int), R] = ((P * R : Nat) : Int) := by simp only [prodL, Int.natCast_mul, Int.mul_one]
  have e3 : prodL [(R : Int)] = (R : Int) := by simp only [prodL, Int.mul_one]
  show [prodL [(O : Int), P, R], prodL [(P : Int), R], prodL [(R : Int)], prodL []] = _
  rw [e1, e2, e3]
  rfl
theorem dm {a b q r : Nat} (hr : r < b) (e : a = q * b + r) : (a : Int).tdiv (b : Int) = (q : Int) ∧ (a : Int).tmod (b : Int) = (r : Int) := by
  subst e
  rw [Int.tdiv_eq_ediv_of_nonneg (by omega), Int.tmod_eq_emod_of_nonneg (by omega), ← Int.natCast_ediv, ← Int.natCast_emod, ix_div hr, ix_mod hr]
  exact ⟨rfl, rfl⟩
theorem ratdims_v {n O P R m o p q : Nat} {Q : List Int → Prop} (hs : 0 < szF [(n : Int), O, P, R]) (hm : m < n) (ho : o < O) (hp : p < P) (hq : q < R) (h : Q [(m : Int), o, p, q]) :
    pedagogueref1_AtDims [(n : Int), O, P, R] ((ix4 O P R m o p q : Nat) : Int) Q := by
  obtain ⟨a, b, c, d, e1, e2, e3, e4, b1, b2, b3, b4, s5, s6⟩ := szF4 hs
  have e1 : a = n := by omega
  have e2 : b = O := by omega
  have e3 : c = P := by omega
  have e4 : d = R := by omega
  subst e1 e2 e3 e4
  have hlt := ix4_lt hm ho hp hq
  have r3 : p * d + q < c * d := ix_lt hp hq
  have r2 : o * (c * d) + (p * d + q) < b * c * d := by rw [Nat.mul_assoc]; exact ix_lt ho r3
  have ei : ix4 b c d m o p q = m * (b * c * d) + (o * (c * d) + (p * d + q)) := by
    unfold ix4
    simp only [Nat.add_mul, Nat.mul_assoc, Nat.add_assoc]
  obtain ⟨t0, u0⟩ := dm r2 ei
  obtain ⟨t1, u1⟩ := dm (a := o * (c * d) + (p * d + q)) r3 rfl
  obtain ⟨t2, u2⟩ := dm (a := p * d + q) hq rfl
  have k1 : m ≤ ix4 b c d m o p q := by rw [ei]; have : m ≤ m * (b * c * d) := Nat.le_mul_of_pos_right _ (by omega); omega
  have k2 : o ≤ o * (c * d) := Nat.le_mul_of_pos_right _ (by omega)
  have k3 : p ≤ p * d := Nat.le_mul_of_pos_right _ (by omega)
  have k0 : ix4 b c d m o p q ≤ 8192 := by omega
  refine ⟨?_⟩
  unfold pedagogueref1_AtDims_t
  refine orb_v (b := decide (((ix4 b c d m o p q : Nat) : Int) < 0)) (c := decide (szF [(a : Int), b, c, d] ≤ ((ix4 b c d m o p q : Nat) : Int))) (fun _ P hp => rsize_v hp) (fun v1 e1 => ?_) rfl
  have hv : v1 = false := by
    rw [e1, s6]
    simp only [Bool.or_eq_false_iff, decide_eq_false_iff_not]
    omega
  rw [hv, if_neg (by simp)]
  refine rstrides_v hs ?_
  rw [stF4]
  refine ⟨?_⟩
  refine Loop.range (B := pedagogueref1_AtDims_n0_B 4 [((b * c * d : Nat) : Int), ((c * d : Nat) : Int), (d : Int), 1] _) (f := fun i : Nat => match i with
    | 0 => (((ix4 b c d m o p q : Nat) : Int), 0, [])
    | 1 => (((o * (c * d) + (p * d + q) : Nat) : Int), 1, [(m : Int)])
    | 2 => (((p * d + q : Nat) : Int), 2, [(m : Int), o])
    | 3 => ((q : Int), 3, [(m : Int), o, p])
    | _ => (0, 4, [(m : Int), o, p, q])) 4 (fun _ => True) trivial ?_ ?_
  · intro i hi _ X hX
    have hX := hX trivial
    unfold pedagogueref1_AtDims_n0_B
    match i, hi, hX with
    | 0, _, hX =>
      refine ⟨by simp, by show ((b * c * d : Nat) : Int) ≠ 0; omega, by simp, by show ((b * c * d : Nat) : Int) ≠ 0; omega, ?_⟩
      show X (((ix4 b c d m o p q : Nat) : Int).tmod ((b * c * d : Nat) : Int), IntKind.i64.wrap (0 + 1), [] ++ [IntKind.i64.wrap (((ix4 b c d m o p q : Nat) : Int).tdiv ((b * c * d : Nat) : Int))])
      rw [t0, u0, wrap_i64 (m : Int) (by omega) (by omega)]
      exact hX
    | 1, _, hX =>
      refine ⟨by simp, by show ((c * d : Nat) : Int) ≠ 0; omega, by simp, by show ((c * d : Nat) : Int) ≠ 0; omega, ?_⟩
      show X (((o * (c * d) + (p * d + q) : Nat) : Int).tmod ((c * d : Nat) : Int), IntKind.i64.wrap (1 + 1), [(m : Int)] ++ [IntKind.i64.wrap (((o * (c * d) + (p * d + q) : Nat) : Int).tdiv ((c * d : Nat) : Int))])
      rw [t1, u1, wrap_i64 (o : Int) (by omega) (by omega)]
      exact hX
    | 2, _, hX =>
      refine ⟨by simp, by show (d : Int) ≠ 0; omega, by simp, by show (d : Int) ≠ 0; omega, ?_⟩
      show X (((p * d + q : Nat) : Int).tmod (d : Int), IntKind.i64.wrap (2 + 1), [(m : Int), o] ++ [IntKind.i64.wrap (((p * d + q : Nat) : Int).tdiv (d : Int))])
      rw [t2, u2, wrap_i64 (p : Int) (by omega) (by omega)]
      exact hX
    | 3, _, hX =>
      refine ⟨by simp, by show (1 : Int) ≠ 0; omega, by simp, by show (1 : Int) ≠ 0; omega, ?_⟩
      show X ((q : Int).tmod 1, IntKind.i64.wrap (3 + 1), [(m : Int), o, p] ++ [IntKind.i64.wrap ((q : Int).tdiv 1)])
      rw [Int.tmod_one, Int.tdiv_one, wrap_i64 (q : Int) (by omega) (by omega)]
      exact hX
  · intro _ X
    exact h

end Go.Proofs.Ytmleeffinagncaa
