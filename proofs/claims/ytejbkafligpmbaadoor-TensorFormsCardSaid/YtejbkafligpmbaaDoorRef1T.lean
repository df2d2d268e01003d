/- The document's own shapes and tensors: plain values. Laws; no condition. -/
import Derived.Test.YtejbkafligpmbaaDoorN5
import Derived.Test.YtejbkafligpmbaaDoorMayFT
namespace Go.Proofs.YtejbkafligpmbaaDoor
open Go.Mach Go.RowKit
set_option maxRecDepth 100000
set_option linter.unusedVariables false
set_option linter.unusedSimpArgs false

theorem mul_bd (a b A B : Int) (h1 : -A ≤ a) (h2 : a ≤ A) (h3 : 0 ≤ b) (h4 : b ≤ B) (hA : 0 ≤ A) : -(A * B) ≤ a * b ∧ a * b ≤ A * B := by
  have e1 : a * b ≤ A * b := Int.mul_le_mul_of_nonneg_right h2 h3
  have e2 : A * b ≤ A * B := Int.mul_le_mul_of_nonneg_left h4 hA
  have e3 : -A * b ≤ a * b := Int.mul_le_mul_of_nonneg_right h1 h3
  have e4 : -A * b = -(A * b) := Int.neg_mul A b
  omega
theorem mul8 {a b : Int} (h : -128 ≤ a ∧ a ≤ 127) (k : -128 ≤ b ∧ b ≤ 127) : -16384 ≤ a * b ∧ a * b ≤ 16384 := by
  rcases Int.le_total 0 b with hb | hb
  · have := mul_bd a b 128 128 (by omega) (by omega) hb (by omega) (by omega)
    omega
  · have := mul_bd a (-b) 128 128 (by omega) (by omega) (by omega) (by omega) (by omega)
    rw [Int.mul_neg] at this
    omega
/-- Small numbers: eight bits. -/
def All8 (l : List Int) : Prop := ∀ y ∈ l, -128 ≤ y ∧ y ≤ 127
theorem All8.at_ {l : List Int} (h : All8 l) (i : Nat) : -128 ≤ l.getD i 0 ∧ l.getD i 0 ≤ 127 := by
  rw [List.getD_eq_getElem?_getD]
  cases hq : l[i]? with
  | none => simp
  | some y => exact h y (List.mem_of_getElem? hq)
/-! ### Shapes of two lengths -/
theorem szF2 (r c : Int) (h : 0 < szF [r, c]) : 1 ≤ r ∧ r ≤ 4096 ∧ 1 ≤ c ∧ c ≤ 4096 ∧ r * c ≤ 8192 ∧ szF [r, c] = r * c := by
  have e : szF [r, c] = if ((decide (r < 1) || decide (4096 < r)) || decide (8192 < IntKind.i64.wrap (1 * r))) = true then 0 else if ((decide (c < 1) || decide (4096 < c)) || decide (8192 < IntKind.i64.wrap (IntKind.i64.wrap (1 * r) * c))) = true then 0 else IntKind.i64.wrap (IntKind.i64.wrap (1 * r) * c) := rfl
  rw [e] at h ⊢
  by_cases h1 : ((decide (r < 1) || decide (4096 < r)) || decide (8192 < IntKind.i64.wrap (1 * r))) = true
  · rw [if_pos h1] at h; omega
  · rw [if_neg h1] at h ⊢
    simp only [Bool.or_eq_true, decide_eq_true_eq, not_or] at h1
    rw [Int.one_mul, wrap_i64 r (by omega) (by omega)] at h h1 ⊢
    by_cases h2 : ((decide (c < 1) || decide (4096 < c)) || decide (8192 < IntKind.i64.wrap (r * c))) = true
    · rw [if_pos h2] at h; omega
    · rw [if_neg h2] at h ⊢
      simp only [Bool.or_eq_true, decide_eq_true_eq, not_or] at h2
      have := mul_bd r c 4096 4096 (by omega) (by omega) (by omega) (by omega) (by omega)
      rw [wrap_i64 (r * c) (by omega) (by omega)] at h2 h ⊢
      omega
theorem szF2_of {r c : Int} (h1 : 1 ≤ r) (h2 : r ≤ 4096) (h3 : 1 ≤ c) (h4 : c ≤ 4096) (h5 : r * c ≤ 8192) : szF [r, c] = r * c := by
  have e : szF [r, c] = if ((decide (r < 1) || decide (4096 < r)) || decide (8192 < IntKind.i64.wrap (1 * r))) = true then 0 else if ((decide (c < 1) || decide (4096 < c)) || decide (8192 < IntKind.i64.wrap (IntKind.i64.wrap (1 * r) * c))) = true then 0 else IntKind.i64.wrap (IntKind.i64.wrap (1 * r) * c) := rfl
  have hb := mul_bd r c 4096 4096 (by omega) (by omega) (by omega) (by omega) (by omega)
  rw [e, Int.one_mul, wrap_i64 r (by omega) (by omega), wrap_i64 (r * c) (by omega) (by omega), if_neg (by simp; omega), if_neg (by simp; omega)]
theorem szF1 (c : Int) (h : 0 < szF [c]) : 1 ≤ c ∧ c ≤ 4096 ∧ szF [c] = c := by
  have e : szF [c] = if ((decide (c < 1) || decide (4096 < c)) || decide (8192 < IntKind.i64.wrap (1 * c))) = true then 0 else IntKind.i64.wrap (1 * c) := rfl
  rw [e] at h ⊢
  by_cases h1 : ((decide (c < 1) || decide (4096 < c)) || decide (8192 < IntKind.i64.wrap (1 * c))) = true
  · rw [if_pos h1] at h; omega
  · rw [if_neg h1] at h ⊢
    simp only [Bool.or_eq_true, decide_eq_true_eq, not_or] at h1
    rw [Int.one_mul, wrap_i64 c (by omega) (by omega)]
    omega
theorem szF1_of {c : Int} (h1 : 1 ≤ c) (h2 : c ≤ 4096) : szF [c] = c := by
  have e : szF [c] = if ((decide (c < 1) || decide (4096 < c)) || decide (8192 < IntKind.i64.wrap (1 * c))) = true then 0 else IntKind.i64.wrap (1 * c) := rfl
  rw [e, Int.one_mul, wrap_i64 c (by omega) (by omega), if_neg (by simp; omega)]

abbrev T3 := List Int × Int × List Int
theorem all_take {α : Type} {l : List α} {p : α → Bool} {i : Nat} {d : α} (hi : i < l.length) : (l.take (i + 1)).all p = ((l.take i).all p && p (l.getD i d)) := by
  rw [List.take_add_one, List.all_append, List.getD_eq_getElem?_getD, List.getElem?_eq_getElem hi]
  simp
theorem all_at {α : Type} {l : List α} {p : α → Bool} {i : Nat} {d : α} (hi : i < l.length) (h : p (l.getD i d) = false) : l.all p = false := by
  rw [List.all_eq_false]
  refine ⟨l[i], List.getElem_mem hi, ?_⟩
  rw [List.getD_eq_getElem?_getD, List.getElem?_eq_getElem hi] at h
  simp only [Option.getD_some] at h
  rw [h]; simp
theorem gs_rng (a lo hi : Int) (h : lo ≤ hi) : lo ≤ greater lo (smaller a hi) ∧ greater lo (smaller a hi) ≤ hi := by
  unfold greater smaller
  split <;> split <;> omega
theorem pow2_le (a b : Nat) (h : a ≤ b) : (1 : Int) ≤ 2 ^ a ∧ (2 : Int) ^ a ≤ 2 ^ b := by
  have h1 : (2 : Nat) ^ a ≤ 2 ^ b := Nat.pow_le_pow_right (by omega) h
  have h2 : 0 < (2 : Nat) ^ a := Nat.pow_pos (by omega)
  have e : ∀ n : Nat, ((2 ^ n : Nat) : Int) = 2 ^ n := fun n => by rw [Int.natCast_pow]; rfl
  rw [← e, ← e]
  omega
abbrev Z3 : T3 := ([], 0, [])
/-- The first j places anew, the others as they were. -/
def upTo (h : Nat → Int) (A : List Int) (j : Nat) : List Int := (List.range j).map h ++ A.drop j
theorem upTo_zero (h : Nat → Int) (A : List Int) : upTo h A 0 = A := by simp [upTo]
theorem upTo_len {h : Nat → Int} {A : List Int} {j : Nat} (hj : j ≤ A.length) : (upTo h A j).length = A.length := by simp [upTo]; omega
theorem upTo_get {h : Nat → Int} {A : List Int} {j : Nat} (hj : j < A.length) : (upTo h A j).getD j 0 = A.getD j 0 := by
  unfold upTo
  rw [List.getD_eq_getElem?_getD, List.getElem?_append_right (by simp), List.getElem?_drop, List.getD_eq_getElem?_getD]
  simp
theorem upTo_set {h : Nat → Int} {A : List Int} {j : Nat} (hj : j < A.length) : (upTo h A j).set j (h j) = upTo h A (j + 1) := by
  unfold upTo
  rw [List.set_append_right _ _ (by simp), List.range_succ, List.map_append, List.append_assoc]
  congr 1
  simp only [List.length_map, List.length_range, Nat.sub_self]
  rw [List.drop_eq_getElem_cons hj]
  rfl
theorem upTo_skip {h : Nat → Int} {A : List Int} {j : Nat} (hj : j < A.length) (e : h j = A.getD j 0) : upTo h A j = upTo h A (j + 1) := by
  rw [← upTo_set hj, e, ← upTo_get (h := h) hj]
  have hl : j < (upTo h A j).length := by rw [upTo_len (by omega)]; exact hj
  rw [List.getD_eq_getElem?_getD, List.getElem?_eq_getElem hl]
  simp
theorem upTo_all {h : Nat → Int} {A : List Int} : upTo h A A.length = (List.range A.length).map h := by simp [upTo]

theorem map_get {h : Nat → Int} {N i : Nat} (hi : i < N) : ((List.range N).map h).getD i 0 = h i := by
  rw [List.getD_eq_getElem?_getD, List.getElem?_map, List.getElem?_range hi]; rfl
theorem mayF_of {t : T3} (h1 : 0 < szF t.1) (h2 : (t.2.2.length : Int) = szF t.1) (h3 : -64 ≤ t.2.1) (h4 : t.2.1 ≤ 64) (h5 : -128 ∉ t.2.2) : mayF t = true := by
  unfold mayF expF
  rw [wrap_i64 (0 - 64) (by omega) (by omega)]
  simp only [Bool.and_eq_true, decide_eq_true_eq, beq_iff_eq, Bool.not_eq_true', decide_eq_false_iff_not]
  exact ⟨⟨⟨h1, h2⟩, by omega, h4⟩, h5⟩
theorem i8_rng {x : Int} (h : (Lit.int IntKind.i8 x).wf = true) : -128 ≤ x ∧ x ≤ 127 := by
  have := wf_rng h
  have e1 : IntKind.i8.min = -128 := by decide
  have e2 : IntKind.i8.max = 127 := by decide
  rw [e1, e2] at this
  exact this
theorem tdiv_lt {x n : Int} (h1 : 1 ≤ x) (h2 : x ≤ 4096) (h3 : 1 ≤ n) (h4 : n ≤ 8192) : (IntKind.i64.wrap ((8192 : Int).tdiv x) < n) ↔ 8192 < n * x := by
  have e : (8192 : Int).tdiv x = 8192 / x := Int.tdiv_eq_ediv_of_nonneg (by omega)
  have h5 : 0 ≤ (8192 : Int) / x := Int.ediv_nonneg (by omega) (by omega)
  have h6 : (8192 : Int) / x ≤ 8192 := Int.ediv_le_self _ (by omega)
  rw [e, wrap_i64 _ (by omega) (by omega), Int.ediv_lt_iff_lt_mul (by omega)]
theorem szGo_step {acc d : Int} {r : List Int} (h1 : 1 ≤ acc) (h2 : acc ≤ 8192) : szGo acc (d :: r) = if (decide (d < 1) || decide (4096 < d)) = true then 0 else if 8192 < acc * d then 0 else szGo (acc * d) r := by
  by_cases hd : (decide (d < 1) || decide (4096 < d)) = true
  · rw [if_pos hd]
    unfold szGo
    rw [if_pos (by rw [hd]; rfl)]
  · rw [if_neg hd]
    simp only [Bool.or_eq_true, decide_eq_true_eq, not_or] at hd
    have hb := mul_bd acc d 8192 4096 (by omega) (by omega) (by omega) (by omega) (by omega)
    have hw : IntKind.i64.wrap (acc * d) = acc * d := wrap_i64 _ (by omega) (by omega)
    have e1 : decide (d < 1) = false := by simp; omega
    have e2 : decide (4096 < d) = false := by simp; omega
    by_cases h3 : 8192 < acc * d
    · rw [if_pos h3]
      unfold szGo
      rw [hw, if_pos (by simp [h3])]
    · rw [if_neg h3]
      show (if ((decide (d < 1) || decide (4096 < d)) || decide (8192 < IntKind.i64.wrap (acc * d))) = true then 0 else szGo (IntKind.i64.wrap (acc * d)) r) = _
      rw [hw, if_neg (by rw [e1, e2]; simp; omega)]
theorem getD_drop {l : List Int} {i : Nat} (h : i < l.length) : l.drop i = l.getD i 0 :: l.drop (i + 1) := by
  rw [List.drop_eq_getElem_cons h, List.getD_eq_getElem?_getD, List.getElem?_eq_getElem h]; rfl
theorem mul_pos' {a d : Int} (h1 : 1 ≤ a) (h2 : 1 ≤ d) : 1 ≤ a * d := by
  have := Int.mul_pos (show 0 < a by omega) (show 0 < d by omega)
  omega
theorem mayDims_v {l : List Int} {Q : Bool → Prop} (h : Q (decide (0 < szF l))) : pedagogueref1_MayDims l Q := by
  refine ⟨?_⟩
  unfold pedagogueref1_MayDims_t
  unfold szF at h
  by_cases e : (decide ((l.length : Int) < 1) || decide (4 < (l.length : Int))) = true
  · rw [if_pos e] at h ⊢; exact h
  · rw [if_neg e] at h ⊢
    have hl : l.length ≤ 4 := by simp only [Bool.or_eq_true, decide_eq_true_eq, not_or] at e; omega
    obtain ⟨z, hz⟩ : ∃ z, szGo 1 l = z := ⟨_, rfl⟩
    rw [hz] at h
    refine ⟨?_⟩
    refine Loop.inv (n := l.length) (fun m s => ∃ i : Nat, i + m = l.length ∧ s.2 = (i : Int) ∧ 1 ≤ s.1 ∧ s.1 ≤ 8192 ∧ szGo s.1 (l.drop i) = z) ⟨0, by omega, rfl, by show 1 ≤ (1 : Int); omega, by show (1 : Int) ≤ 8192; omega, hz⟩ ?_
    rintro m ⟨acc, i'⟩ X ⟨i, hi, he, ha, hb, hzz⟩ hX
    simp only at he ha hb hzz
    subst he
    unfold pedagogueref1_MayDims_n0_B
    by_cases hlt : i < l.length
    · rw [getD_drop hlt, szGo_step ha hb] at hzz
      rw [if_pos (decide_eq_true (show (i : Int) < (l.length : Int) by omega))]
      dsimp only
      refine ⟨by omega, ?_⟩
      rw [Int.toNat_natCast]
      generalize l.getD i 0 = d at hzz ⊢
      show (if (decide (d < 1) || decide (4096 < d)) = true then _ else _)
      by_cases hd : (decide (d < 1) || decide (4096 < d)) = true
      · rw [if_pos hd] at hzz ⊢
        show (if true = true then _ else _)
        rw [if_pos rfl]
        have : decide (0 < z) = false := by rw [← hzz]; rfl
        rw [this] at h; exact h
      · rw [if_neg hd] at hzz ⊢
        simp only [Bool.or_eq_true, decide_eq_true_eq, not_or] at hd
        refine ⟨by omega, ?_⟩
        have ht := tdiv_lt (x := d) (n := acc) (by omega) (by omega) ha hb
        show (if (decide (IntKind.i64.wrap ((8192 : Int).tdiv d) < acc)) = true then _ else _)
        by_cases h3 : 8192 < acc * d
        · rw [if_pos h3] at hzz
          rw [if_pos (decide_eq_true (ht.2 h3))]
          have : decide (0 < z) = false := by rw [← hzz]; rfl
          rw [this] at h; exact h
        · rw [if_neg h3] at hzz
          rw [if_neg (by simp; exact Int.not_lt.1 (fun hh => h3 (ht.1 hh)))]
          have hb2 := mul_bd acc d 8192 4096 (by omega) (by omega) (by omega) (by omega) (by omega)
          rw [wrap_i64 (acc * d) (by omega) (by omega), wrap_i64 ((i : Int) + 1) (by omega) (by omega)]
          exact hX (m - 1) _ (by omega) ⟨i + 1, by omega, rfl, mul_pos' ha (by omega), by show acc * d ≤ 8192; omega, hzz⟩
    · have hil : i = l.length := by omega
      subst hil
      rw [if_neg (by simp)]
      rw [List.drop_length] at hzz
      unfold szGo at hzz
      have : decide (0 < z) = true := by rw [← hzz]; exact decide_eq_true (by omega)
      rw [this] at h; exact h
theorem szGo_pos : ∀ (l : List Int) (acc : Int), 1 ≤ acc → acc ≤ 8192 → 0 ≤ szGo acc l
  | [], acc, h, _ => by unfold szGo; omega
  | d :: r, acc, h, h2 => by
    rw [szGo_step h h2]
    split
    · omega
    · rename_i hd
      simp only [Bool.or_eq_true, decide_eq_true_eq, not_or] at hd
      split
      · omega
      · exact szGo_pos r _ (mul_pos' h (by omega)) (by omega)
theorem szF_nonneg (l : List Int) : 0 ≤ szF l := by
  unfold szF
  split
  · omega
  · exact szGo_pos l 1 (by omega) (by omega)
theorem rsize_v {l : List Int} {Q : Int → Prop} (h : Q (szF l)) : pedagogueref1_Size l Q := by
  refine ⟨?_⟩
  unfold pedagogueref1_Size_t
  refine mayDims_v ?_
  by_cases hp : 0 < szF l
  · rw [if_neg (by simp [hp])]
    have hp2 := hp
    unfold szF at hp2 h
    split at hp2
    · omega
    · rename_i e
      rw [if_neg e] at h
      have hl : l.length ≤ 4 := by simp only [Bool.or_eq_true, decide_eq_true_eq, not_or] at e; omega
      obtain ⟨z, hz⟩ : ∃ z, szGo 1 l = z := ⟨_, rfl⟩
      rw [hz] at h hp2
      refine ⟨?_⟩
      refine Loop.inv (n := l.length) (fun m s => ∃ i : Nat, i + m = l.length ∧ s.2 = (i : Int) ∧ 1 ≤ s.1 ∧ s.1 ≤ 8192 ∧ szGo s.1 (l.drop i) = z) ⟨0, by omega, rfl, by show 1 ≤ (1 : Int); omega, by show (1 : Int) ≤ 8192; omega, hz⟩ ?_
      rintro m ⟨acc, i'⟩ X ⟨i, hi, he, ha, hb, hzz⟩ hX
      simp only at he ha hb hzz
      subst he
      unfold pedagogueref1_Size_n0_B
      by_cases hlt : i < l.length
      · rw [getD_drop hlt, szGo_step ha hb] at hzz
        rw [if_pos (decide_eq_true (show (i : Int) < (l.length : Int) by omega))]
        dsimp only
        refine ⟨by omega, ?_⟩
        rw [Int.toNat_natCast]
        generalize l.getD i 0 = d at hzz ⊢
        split at hzz
        · omega
        · rename_i hd
          simp only [Bool.or_eq_true, decide_eq_true_eq, not_or] at hd
          split at hzz
          · omega
          · have hb2 := mul_bd acc d 8192 4096 (by omega) (by omega) (by omega) (by omega) (by omega)
            rw [wrap_i64 (acc * d) (by omega) (by omega), wrap_i64 ((i : Int) + 1) (by omega) (by omega)]
            exact hX (m - 1) _ (by omega) ⟨i + 1, by omega, rfl, mul_pos' ha (by omega), by show acc * d ≤ 8192; omega, hzz⟩
      · have hil : i = l.length := by omega
        subst hil
        rw [if_neg (by simp)]
        rw [List.drop_length] at hzz
        unfold szGo at hzz
        dsimp only
        rw [hzz]
        exact h
  · rw [if_pos (by simp; omega)]
    have : szF l = 0 := by have := szF_nonneg l; omega
    rw [this] at h; exact h

/-! ### Tensors -/
theorem noMin_v {l : List Int} {K0 K1 : Unit → Prop} (hl : l.length ≤ 1000000) (h : if -128 ∈ l then K1 () else K0 ()) : pedagogueref1_MayT_n0 l (l.length : Int) K0 K1 0 := by
  refine ⟨?_⟩
  refine Loop.range (B := pedagogueref1_MayT_n0_B l (l.length : Int) K0 K1) l.length (fun i => (i : Int)) (fun i => ∀ j, j < i → l.getD j 0 ≠ -128) (fun j hj => absurd hj (by omega)) ?_ ?_
  · intro i hi hI X hX
    unfold pedagogueref1_MayT_n0_B
    rw [if_pos (decide_eq_true (show (i : Int) < (l.length : Int) by omega))]
    refine ⟨by omega, ?_⟩
    rw [Int.toNat_natCast]
    have hget : l.getD i 0 = l[i] := by rw [List.getD_eq_getElem?_getD, List.getElem?_eq_getElem hi]; rfl
    by_cases hv : l.getD i 0 = -128
    · rw [if_pos (by rw [hv]; rfl)]
      rw [if_pos (by rw [← hv, hget]; exact List.getElem_mem hi)] at h
      exact h
    · rw [if_neg (by simpa using hv), wrap_i64 _ (by omega) (by omega)]
      refine hX fun j hj => ?_
      by_cases hji : j = i
      · subst hji; exact hv
      · exact hI j (by omega)
  · intro hI X
    unfold pedagogueref1_MayT_n0_B
    rw [if_neg (by simp)]
    rw [if_neg] at h
    · exact h
    · intro hm
      obtain ⟨j, hj, e⟩ := List.getElem_of_mem hm
      apply hI j hj
      rw [List.getD_eq_getElem?_getD, List.getElem?_eq_getElem hj, ← e]; rfl
theorem expF64 (e : Int) : expF e 64 = !(decide (e < -64) || decide (64 < e)) := by
  unfold expF
  rw [wrap_i64 (0 - 64) (by omega) (by omega), Bool.eq_iff_iff]
  simp only [Bool.and_eq_true, decide_eq_true_eq, Bool.not_eq_true', Bool.or_eq_false_iff, decide_eq_false_iff_not]
  omega
theorem rmayT_v {a : T3} {Q : Bool → Prop} (h : Q (mayF a)) : pedagogueref1_MayT a Q := by
  refine ⟨?_⟩
  unfold pedagogueref1_MayT_t
  refine mayDims_v ?_
  unfold mayF at h
  have key : ∀ v : Bool, v = !(decide (0 < szF a.1) && ((a.2.2.length : Int) == szF a.1)) → (if ((v || decide (a.2.1 < -64)) || decide (64 < a.2.1)) = true then Q false else pedagogueref1_MayT_n0 a.2.2 (a.2.2.length : Int) (fun _ => Q true) (fun _ => Q false) 0) := by
    intro v hv
    rw [expF64] at h
    have hle := szF_le a.1
    by_cases hc : ((v || decide (a.2.1 < -64)) || decide (64 < a.2.1)) = true
    · rw [if_pos hc]
      have : (((decide (0 < szF a.1) && ((a.2.2.length : Int) == szF a.1)) && !(decide (a.2.1 < -64) || decide (64 < a.2.1))) && !decide (-128 ∈ a.2.2)) = false := by
        rw [Bool.or_assoc] at hc
        cases hv2 : v with
        | true =>
          rw [hv2] at hv
          cases hq : (decide (0 < szF a.1) && ((a.2.2.length : Int) == szF a.1)) with
          | true => rw [hq] at hv; cases hv
          | false => rfl
        | false =>
          rw [hv2, Bool.false_or] at hc
          rw [hc]; simp
      rw [this] at h; exact h
    · rw [if_neg hc]
      simp only [Bool.or_eq_true, not_or] at hc
      have hv0 : v = false := by simpa using hc.1.1
      rw [hv0] at hv
      have hv' : (decide (0 < szF a.1) && ((a.2.2.length : Int) == szF a.1)) = true := by
        cases hq : (decide (0 < szF a.1) && ((a.2.2.length : Int) == szF a.1)) with
        | true => rfl
        | false => rw [hq] at hv; cases hv
      have hlen : a.2.2.length ≤ 1000000 := by
        simp only [Bool.and_eq_true, decide_eq_true_eq, beq_iff_eq] at hv'
        omega
      refine noMin_v hlen ?_
      have e1 : decide (a.2.1 < -64) = false := by simpa using hc.1.2
      have e2 : decide (64 < a.2.1) = false := by simpa using hc.2
      rw [hv', e1, e2] at h
      by_cases hm : -128 ∈ a.2.2
      · rw [if_pos hm]; simpa [hm] using h
      · rw [if_neg hm]; simpa [hm] using h
  show (if (!decide (0 < szF a.1)) = true then _ else _)
  by_cases hp : 0 < szF a.1
  · rw [if_neg (by simp [hp])]
    refine rsize_v ?_
    exact key _ (by rw [decide_eq_true hp]; unfold bne; rw [Bool.true_and])
  · rw [if_pos (by simp [hp])]
    exact key true (by rw [decide_eq_false hp]; rfl)
theorem sints_v {a b : List Int} {Q : Bool → Prop} (hl : a.length ≤ 1000000) (h : Q (decide (a = b))) : pedagogueref1_SameInts a b Q := by
  refine ⟨?_⟩
  unfold pedagogueref1_SameInts_t
  by_cases e : a.length = b.length
  · rw [if_neg (by simp [e])]
    refine ⟨?_⟩
    refine Loop.range (B := pedagogueref1_SameInts_n0_B a b (a.length : Int) (fun _ => Q true) (fun _ => Q false)) a.length (fun i => (i : Int)) (fun i => ∀ j, j < i → a.getD j 0 = b.getD j 0) (fun j hj => absurd hj (by omega)) ?_ ?_
    · intro i hi hI X hX
      unfold pedagogueref1_SameInts_n0_B
      rw [if_pos (decide_eq_true (show (i : Int) < (a.length : Int) by omega))]
      refine ⟨by omega, by omega, ?_⟩
      simp only [Int.toNat_natCast]
      by_cases hd : a.getD i 0 = b.getD i 0
      · rw [if_neg (by simpa using hd), wrap_i64 _ (by omega) (by omega)]
        refine hX fun j hj => ?_
        by_cases hji : j = i
        · subst hji; exact hd
        · exact hI j (by omega)
      · rw [if_pos (by simpa using hd)]
        have : decide (a = b) = false := by
          simp only [decide_eq_false_iff_not]
          intro hab; exact hd (by rw [hab])
        rw [this] at h; exact h
    · intro hI X
      unfold pedagogueref1_SameInts_n0_B
      rw [if_neg (by simp)]
      have : decide (a = b) = true := by
        simp only [decide_eq_true_eq]
        refine List.ext_getElem e fun i h1 h2 => ?_
        have := hI i h1
        rw [List.getD_eq_getElem?_getD, List.getD_eq_getElem?_getD, List.getElem?_eq_getElem h1, List.getElem?_eq_getElem h2] at this
        exact this
      rw [this] at h; exact h
  · rw [if_pos (by simp; omega)]
    have : decide (a = b) = false := by
      simp only [decide_eq_false_iff_not]
      intro hab; exact e (by rw [hab])
    rw [this] at h; exact h

end Go.Proofs.YtejbkafligpmbaaDoor

