/- The reference's shapes, tensorOf, the law's own beginning; a window's sum. Laws; no condition. -/
import Derived.Test.YtmleeffinagncaaQ6
import Derived.Test.YtmleeffinagncaaP5
namespace Go.Proofs.Ytmleeffinagncaa
open Go.Mach Go.RowKit
set_option maxRecDepth 100000
set_option linter.unusedVariables false
set_option linter.unusedSimpArgs false

theorem i8_rng {x : Int} (h : (Lit.int IntKind.i8 x).wf = true) : -128 ≤ x ∧ x ≤ 127 := by
  have := wf_rng h
  have e1 : IntKind.i8.min = -128 := by decide
  have e2 : IntKind.i8.max = 127 := by decide
  rw [e1, e2] at this
  exact this
theorem tdiv_lt {x n : Int} (h1 : 1 ≤ x) (h2 : x ≤ 4096) (h3 : 1 ≤ n) (h4 : n ≤ 8192) : (IntKind.i64.wrap ((8192 : Int).tdiv x) < n) ↔ 8192 < n * x := by
  have e : (8192 : Int).tdiv x = 8192 / x := Int.tdiv_eq_ediv_of_nonneg (by omega)
  have h5 : 0 ≤ (8192 : Int) / x := Int.ediv_nonneg (by omega) (by omega)
  have h6 : (8192 : Int) / x ≤ 8192 := Int.ediv_le_self _ (by omega)
  rw [e, wrap_i64 _ (by omega) (by omega), Int.ediv_lt_iff_lt_mul (by omega)]
theorem szGo_step {acc d : Int} {r : List Int} (h1 : 1 ≤ acc) (h2 : acc ≤ 8192) : szGo acc (d :: r) = if (decide (d < 1) || decide (4096 < d)) = true then 0 else if 8192 < acc * d then 0 else szGo (acc * d) r := by
  by_cases hd : (decide (d < 1) || decide (4096 < d)) = true
  · rw [if_pos hd]
    unfold szGo
    rw [if_pos (by rw [hd]; rfl)]
  · rw [if_neg hd]
    simp only [Bool.or_eq_true, decide_eq_true_eq, not_or] at hd
    have hb := mul_bd acc d 8192 4096 (by omega) (by omega) (by omega) (by omega) (by omega)
    have hw : IntKind.i64.wrap (acc * d) = acc * d := wrap_i64 _ (by omega) (by omega)
    have e1 : decide (d < 1) = false := by simp; omega
    have e2 : decide (4096 < d) = false := by simp; omega
    by_cases h3 : 8192 < acc * d
    · rw [if_pos h3]
      unfold szGo
      rw [hw, if_pos (by simp [h3])]
    · rw [if_neg h3]
      show (if ((decide (d < 1) || decide (4096 < d)) || decide (8192 < IntKind.i64.wrap (acc * d))) = true then 0 else szGo (IntKind.i64.wrap (acc * d)) r) = _
      rw [hw, if_neg (by rw [e1, e2]; simp; omega)]
theorem getD_drop {l : List Int} {i : Nat} (h : i < l.length) : l.drop i = l.getD i 0 :: l.drop (i + 1) := by
  rw [List.drop_eq_getElem_cons h, List.getD_eq_getElem?_getD, List.getElem?_eq_getElem h]; rfl
theorem mul_pos' {a d : Int} (h1 : 1 ≤ a) (h2 : 1 ≤ d) : 1 ≤ a * d := by
  have := Int.mul_pos (show 0 < a by omega) (show 0 < d by omega)
  omega
theorem mayDims_v {l : List Int} {Q : Bool → Prop} (h : Q (decide (0 < szF l))) : pedagogueref1_MayDims l Q := by
  refine ⟨?_⟩
  unfold pedagogueref1_MayDims_t
  unfold szF at h
  by_cases e : (decide ((l.length : Int) < 1) || decide (4 < (l.length : Int))) = true
  · rw [if_pos e] at h ⊢; exact h
  · rw [if_neg e] at h ⊢
    have hl : l.length ≤ 4 := by simp only [Bool.or_eq_true, decide_eq_true_eq, not_or] at e; omega
    obtain ⟨z, hz⟩ : ∃ z, szGo 1 l = z := ⟨_, rfl⟩
    rw [hz] at h
    refine ⟨?_⟩
    refine Loop.inv (n := l.length) (fun m s => ∃ i : Nat, i + m = l.length ∧ s.2 = (i : Int) ∧ 1 ≤ s.1 ∧ s.1 ≤ 8192 ∧ szGo s.1 (l.drop i) = z) ⟨0, by omega, rfl, by show 1 ≤ (1 : Int); omega, by show (1 : Int) ≤ 8192; omega, hz⟩ ?_
    rintro m ⟨acc, i'⟩ X ⟨i, hi, he, ha, hb, hzz⟩ hX
    simp only at he ha hb hzz
    subst he
    unfold pedagogueref1_MayDims_n0_B
    by_cases hlt : i < l.length
    · rw [getD_drop hlt, szGo_step ha hb] at hzz
      rw [if_pos (decide_eq_true (show (i : Int) < (l.length : Int) by omega))]
      dsimp only
      refine ⟨by omega, ?_⟩
      rw [Int.toNat_natCast]
      generalize l.getD i 0 = d at hzz ⊢
      show (if (decide (d < 1) || decide (4096 < d)) = true then _ else _)
      by_cases hd : (decide (d < 1) || decide (4096 < d)) = true
      · rw [if_pos hd] at hzz ⊢
        show (if true = true then _ else _)
        rw [if_pos rfl]
        have : decide (0 < z) = false := by rw [← hzz]; rfl
        rw [this] at h; exact h
      · rw [if_neg hd] at hzz ⊢
        simp only [Bool.or_eq_true, decide_eq_true_eq, not_or] at hd
        refine ⟨by omega, ?_⟩
        have ht := tdiv_lt (x := d) (n := acc) (by omega) (by omega) ha hb
        show (if (decide (IntKind.i64.wrap ((8192 : Int).tdiv d) < acc)) = true then _ else _)
        by_cases h3 : 8192 < acc * d
        · rw [if_pos h3] at hzz
          rw [if_pos (decide_eq_true (ht.2 h3))]
          have : decide (0 < z) = false := by rw [← hzz]; rfl
          rw [this] at h; exact h
        · rw [if_neg h3] at hzz
          rw [if_neg (by simp; exact Int.not_lt.1 (fun hh => h3 (ht.1 hh)))]
          have hb2 := mul_bd acc d 8192 4096 (by omega) (by omega) (by omega) (by omega) (by omega)
          rw [wrap_i64 (acc * d) (by omega) (by omega), wrap_i64 ((i : Int) + 1) (by omega) (by omega)]
          exact hX (m - 1) _ (by omega) ⟨i + 1, by omega, rfl, mul_pos' ha (by omega), by show acc * d ≤ 8192; omega, hzz⟩
    · have hil : i = l.length := by omega
      subst hil
      rw [if_neg (by simp)]
      rw [List.drop_length] at hzz
      unfold szGo at hzz
      have : decide (0 < z) = true := by rw [← hzz]; exact decide_eq_true (by omega)
      rw [this] at h; exact h
theorem rsize_v {l : List Int} {Q : Int → Prop} (h : Q (szF l)) : pedagogueref1_Size l Q := by
  refine ⟨?_⟩
  unfold pedagogueref1_Size_t
  refine mayDims_v ?_
  by_cases hp : 0 < szF l
  · rw [if_neg (by simp [hp])]
    have hp2 := hp
    unfold szF at hp2 h
    split at hp2
    · omega
    · rename_i e
      rw [if_neg e] at h
      have hl : l.length ≤ 4 := by simp only [Bool.or_eq_true, decide_eq_true_eq, not_or] at e; omega
      obtain ⟨z, hz⟩ : ∃ z, szGo 1 l = z := ⟨_, rfl⟩
      rw [hz] at h hp2
      refine ⟨?_⟩
      refine Loop.inv (n := l.length) (fun m s => ∃ i : Nat, i + m = l.length ∧ s.2 = (i : Int) ∧ 1 ≤ s.1 ∧ s.1 ≤ 8192 ∧ szGo s.1 (l.drop i) = z) ⟨0, by omega, rfl, by show 1 ≤ (1 : Int); omega, by show (1 : Int) ≤ 8192; omega, hz⟩ ?_
      rintro m ⟨acc, i'⟩ X ⟨i, hi, he, ha, hb, hzz⟩ hX
      simp only at he ha hb hzz
      subst he
      unfold pedagogueref1_Size_n0_B
      by_cases hlt : i < l.length
      · rw [getD_drop hlt, szGo_step ha hb] at hzz
        rw [if_pos (decide_eq_true (show (i : Int) < (l.length : Int) by omega))]
        dsimp only
        refine ⟨by omega, ?_⟩
        rw [Int.toNat_natCast]
        generalize l.getD i 0 = d at hzz ⊢
        split at hzz
        · omega
        · rename_i hd
          simp only [Bool.or_eq_true, decide_eq_true_eq, not_or] at hd
          split at hzz
          · omega
          · have hb2 := mul_bd acc d 8192 4096 (by omega) (by omega) (by omega) (by omega) (by omega)
            rw [wrap_i64 (acc * d) (by omega) (by omega), wrap_i64 ((i : Int) + 1) (by omega) (by omega)]
            exact hX (m - 1) _ (by omega) ⟨i + 1, by omega, rfl, mul_pos' ha (by omega), by show acc * d ≤ 8192; omega, hzz⟩
      · have hil : i = l.length := by omega
        subst hil
        rw [if_neg (by simp)]
        rw [List.drop_length] at hzz
        unfold szGo at hzz
        dsimp only
        rw [hzz]
        exact h
  · rw [if_pos (by simp; omega)]
    have : szF l = 0 := by have := szF_nonneg l; omega
    rw [this] at h; exact h

theorem rout_v {n k s p : Int} {Q : Int → Prop} (hp : -1000000 ≤ p ∧ p ≤ 1000000) (h : Q (outF n k s p)) : pedagogueref1_Out n k s p Q := by
  refine ⟨?_⟩
  unfold pedagogueref1_Out_t
  unfold outF badOut inP at h
  by_cases h1 : (1 ≤ n ∧ n ≤ 16) ∧ (1 ≤ k ∧ k ≤ 5)
  · rw [wrap_i64 (2 * p) (by omega) (by omega), wrap_i64 (n + 2 * p) (by omega) (by omega)]
    by_cases h2 : (1 ≤ s ∧ s ≤ 4) ∧ (0 ≤ p ∧ p ≤ k - 1) ∧ k ≤ n + 2 * p
    · rw [if_neg (by simp; omega)] at h
      rw [if_neg (by simp; omega)]
      have d0 : 0 ≤ (n + 2 * p - k) / s := Int.ediv_nonneg (by omega) (by omega)
      have d1 : (n + 2 * p - k) / s ≤ n + 2 * p - k := Int.ediv_le_self _ (by omega)
      refine ⟨by omega, ?_⟩
      rw [wrap_i64 (n + 2 * p - k) (by omega) (by omega), Int.tdiv_eq_ediv_of_nonneg (by omega), wrap_i64 ((n + 2 * p - k) / s) (by omega) (by omega), wrap_i64 _ (by omega) (by omega)]
      exact h
    · rw [if_pos (by simp; omega)] at h
      rw [if_pos (by simp; omega)]
      exact h
  · rw [if_pos (by simp; omega)] at h
    rw [if_pos (by simp; omega)]
    exact h

/-! ### tensorOf -/
def tnC (l : List Int) (i : Nat) : Int := if l.getD i 0 = -128 then 0 else l.getD i 0
def tnF (l : List Int) (d : List Int) : T3 := (d, (0, tab (szF d).toNat (tnC l)))
theorem tnC_rng {l : List Int} (h : All8 l) (i : Nat) : -127 ≤ tnC l i ∧ tnC l i ≤ 127 := by
  have := h.at_ i
  unfold tnC
  split <;> omega
theorem tn_v {l d : List Int} {Q : T3 → Prop} (hd : d.length ≤ 1000000) (h : Q (tnF l d)) : pedagoguelaw11_tensorOf l d Q := by
  refine ⟨?_⟩
  unfold pedagoguelaw11_tensorOf_t
  refine ⟨by simp only [List.length_nil]; omega, rsize_v ?_⟩
  have h1 := szF_le d
  have h2 := szF_nonneg d
  obtain ⟨N, hN⟩ := Int.eq_ofNat_of_zero_le h2
  refine ⟨⟨by omega, by omega⟩, ⟨?_⟩⟩
  rw [hN] at h1 ⊢
  rw [Int.toNat_natCast, List.length_replicate]
  refine Loop.rangeI (B := pedagoguelaw11_tensorOf_n0_B l (N : Int) _) N (fun i st => st.1 = (i : Int) ∧ st.2.length = N ∧ ∀ j, j < N → st.2.getD j 0 = if j < i then tnC l j else 0) ⟨rfl, by simp, fun j hj => by rw [getD_repl hj, if_neg (by omega)]⟩ ?_ ?_
  · rintro i hi ⟨i', M⟩ ⟨e1, e2, e3⟩ X hX
    simp only at e1 e2 e3
    subst e1
    unfold pedagoguelaw11_tensorOf_n0_B
    rw [if_pos (decide_eq_true (show (i : Int) < (N : Int) by omega))]
    dsimp only
    rw [Int.toNat_natCast]
    refine and_v (b := decide ((i : Int) < (l.length : Int))) (c := l.getD i 0 != -128) (fun hb P hp => ⟨by simp only [decide_eq_true_eq] at hb; omega, hp⟩) (fun v2 e4 => ?_) rfl
    cases v2 with
    | true =>
      rw [if_pos rfl]
      have e4 := e4.symm
      simp only [Bool.and_eq_true, decide_eq_true_eq, bne_t] at e4
      refine ⟨by omega, by omega, ⟨?_⟩⟩
      unfold pedagoguelaw11_tensorOf_n1_t
      rw [wrap_i64 ((i : Int) + 1) (by omega) (by omega)]
      refine hX _ ⟨by simp, by simp [e2], fun j hj => ?_⟩
      rw [getD_set (by omega)]
      by_cases hij : i = j
      · subst hij
        rw [if_pos rfl, if_pos (by omega)]
        unfold tnC
        rw [if_neg e4.2]
      · rw [if_neg hij, e3 j hj]
        by_cases hj2 : j < i
        · rw [if_pos hj2, if_pos (by omega)]
        · rw [if_neg hj2, if_neg (by omega)]
    | false =>
      rw [if_neg (by simp)]
      refine ⟨?_⟩
      unfold pedagoguelaw11_tensorOf_n1_t
      rw [wrap_i64 ((i : Int) + 1) (by omega) (by omega)]
      refine hX _ ⟨by simp, e2, fun j hj => ?_⟩
      rw [e3 j hj]
      by_cases hj2 : j < i
      · rw [if_pos hj2, if_pos (by omega)]
      · rw [if_neg hj2]
        by_cases hij : i = j
        · subst hij
          rw [if_pos (by omega)]
          unfold tnC
          by_cases hl : i < l.length
          · have e4 := e4.symm
            simp only [Bool.and_eq_false_iff, decide_eq_false_iff_not, bne_f] at e4
            rcases e4 with e4 | e4
            · omega
            · rw [if_pos e4]
          · rw [List.getD_eq_getElem?_getD, List.getElem?_eq_none (by omega)]
            simp
        · rw [if_neg (by omega)]
  · rintro ⟨i', M⟩ ⟨e1, e2, e3⟩ X
    simp only at e1 e2 e3
    subst e1
    unfold pedagoguelaw11_tensorOf_n0_B
    rw [if_neg (by simp)]
    have : M = tab N (tnC l) := tab_of e2 fun j hj => by rw [e3 j hj, if_pos hj]
    dsimp only
    rw [this, List.nil_append]
    unfold tnF at h
    rw [hN, Int.toNat_natCast] at h
    exact h
theorem tab8 {n : Nat} {f : Nat → Int} (h : ∀ i, -128 ≤ f i ∧ f i ≤ 127) : All8 (tab n f) := by
  intro y hy
  unfold tab at hy
  simp only [List.mem_map, List.mem_range] at hy
  obtain ⟨i, _, rfl⟩ := hy
  exact h i
theorem tnF_8 {l : List Int} (h : All8 l) (d : List Int) : All8 (tnF l d).2.2 := tab8 fun i => by have := tnC_rng h i; omega
theorem tnF_may {l d : List Int} (h : All8 l) (hd : 0 < szF d) : mayF (tnF l d) = true := by
  refine mayF_iff.2 ⟨hd, ?_, ⟨by show (-64 : Int) ≤ 0; omega, by show (0 : Int) ≤ 64; omega⟩, ?_⟩
  · show ((tab (szF d).toNat (tnC l)).length : Int) = _
    rw [tab_len]
    have := szF_nonneg d
    show ((szF d).toNat : Int) = szF d
    omega
  · intro hm
    have hm : (-128 : Int) ∈ tab (szF d).toNat (tnC l) := hm
    unfold tab at hm
    simp only [List.mem_map, List.mem_range] at hm
    obtain ⟨i, _, e⟩ := hm
    have := tnC_rng h i
    omega
theorem all8_nil : All8 [] := fun y hy => by simp at hy

/-! ### A window's sum -/
theorem lsum_winF (rows cols cr cc : Int) (k m : Nat) (f : Int × Int × Int → Int) :
    lsum (winF rows cols cr cc k m) f = sumTo (fun i => sumTo (fun j => if (inP (cr + i) 0 (rows - 1) && inP (cc + j) 0 (cols - 1)) = true then f ((cr + i) * cols + (cc + j), (i : Int), (j : Int)) else 0) k) m := by
  unfold winF winRow
  rw [lsum_flatMap, lsum_range]
  refine sumTo_congr fun i _ => ?_
  rw [lsum_flatMap, lsum_range]
  refine sumTo_congr fun j _ => ?_
  unfold winCell
  split
  · rw [lsum_cons, lsum_nil]; omega
  · rfl
theorem windowF_ok {H V K P Q y x : Nat} {s p : Int} (eP : outF H K s p = P) (eQ : outF V K s p = Q) (hy : y < P) (hx : x < Q) : windowF H V y x K s p = winF H V (s * y - p) (s * x - p) K K := by
  unfold windowF
  rw [if_neg, Int.toNat_natCast]
  unfold noWin inP
  rw [eP, eQ]
  simp
  omega

/-! ### The law's beginning -/
theorem awake_v {Q : Bool → Prop} (h : Q true) : pedagoguelaw11_awake Q := by
  refine ⟨?_⟩
  unfold pedagoguelaw11_awake_t
  refine conv_v (by intro y hy; simp at hy; omega) (by intro y hy; simp at hy; omega) (by intro y hy; simp at hy; omega) ?_
  have e : convF ([1, 1, 2, 2], (0, [1, 2, 3, 4])) ([1, 1, 2, 2], (0, [1, 0, 0, 1])) ([1], (0, [0])) 1 0 = (([1, 1, 1, 1], (0, [5])), 0) := by decide +kernel
  rw [e]
  exact ⟨by simp, h⟩

end Go.Proofs.Ytmleeffinagncaa
