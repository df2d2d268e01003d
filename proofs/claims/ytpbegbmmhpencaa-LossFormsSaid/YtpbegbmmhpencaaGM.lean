/- The reference's rows, labels, parts, what goes back, the greatest. Laws; no condition. -/
import Derived.Test.YtpbegbmmhpencaaGH
import Derived.Test.YtpbegbmmhpencaaGF
namespace Go.Proofs.Ytpbegbmmhpencaa
open Go.Mach Go.RowKit
set_option maxRecDepth 100000
set_option linter.unusedVariables false
set_option linter.unusedSimpArgs false

theorem tdiv_lt {x n : Int} (h1 : 1 ≤ x) (h2 : x ≤ 4096) (h3 : 1 ≤ n) (h4 : n ≤ 8192) : (IntKind.i64.wrap ((8192 : Int).tdiv x) < n) ↔ 8192 < n * x := by
  have e : (8192 : Int).tdiv x = 8192 / x := Int.tdiv_eq_ediv_of_nonneg (by omega)
  have h5 : 0 ≤ (8192 : Int) / x := Int.ediv_nonneg (by omega) (by omega)
  have h6 : (8192 : Int) / x ≤ 8192 := Int.ediv_le_self _ (by omega)
  rw [e, wrap_i64 _ (by omega) (by omega), Int.ediv_lt_iff_lt_mul (by omega)]
theorem szGo_step {acc d : Int} {r : List Int} (h1 : 1 ≤ acc) (h2 : acc ≤ 8192) : szGo acc (d :: r) = if (decide (d < 1) || decide (4096 < d)) = true then 0 else if 8192 < acc * d then 0 else szGo (acc * d) r := by
  by_cases hd : (decide (d < 1) || decide (4096 < d)) = true
  · rw [if_pos hd]
    unfold szGo
    rw [if_pos (by rw [hd]; rfl)]
  · rw [if_neg hd]
    simp only [Bool.or_eq_true, decide_eq_true_eq, not_or] at hd
    have hb := mul_bd acc d 8192 4096 (by omega) (by omega) (by omega) (by omega) (by omega)
    have hw : IntKind.i64.wrap (acc * d) = acc * d := wrap_i64 _ (by omega) (by omega)
    have e1 : decide (d < 1) = false := by simp; omega
    have e2 : decide (4096 < d) = false := by simp; omega
    by_cases h3 : 8192 < acc * d
    · rw [if_pos h3]
      unfold szGo
      rw [hw, if_pos (by simp [h3])]
    · rw [if_neg h3]
      show (if ((decide (d < 1) || decide (4096 < d)) || decide (8192 < IntKind.i64.wrap (acc * d))) = true then 0 else szGo (IntKind.i64.wrap (acc * d)) r) = _
      rw [hw, if_neg (by rw [e1, e2]; simp; omega)]
theorem getD_drop {l : List Int} {i : Nat} (h : i < l.length) : l.drop i = l.getD i 0 :: l.drop (i + 1) := by
  rw [List.drop_eq_getElem_cons h, List.getD_eq_getElem?_getD, List.getElem?_eq_getElem h]; rfl
theorem mul_pos' {a d : Int} (h1 : 1 ≤ a) (h2 : 1 ≤ d) : 1 ≤ a * d := by
  have := Int.mul_pos (show 0 < a by omega) (show 0 < d by omega)
  omega
theorem mayDims_v {l : List Int} {Q : Bool → Prop} (h : Q (decide (0 < szF l))) : pedagogueref1_MayDims l Q := by
  refine ⟨?_⟩
  unfold pedagogueref1_MayDims_t
  unfold szF at h
  by_cases e : (decide ((l.length : Int) < 1) || decide (4 < (l.length : Int))) = true
  · rw [if_pos e] at h ⊢; exact h
  · rw [if_neg e] at h ⊢
    have hl : l.length ≤ 4 := by simp only [Bool.or_eq_true, decide_eq_true_eq, not_or] at e; omega
    obtain ⟨z, hz⟩ : ∃ z, szGo 1 l = z := ⟨_, rfl⟩
    rw [hz] at h
    refine ⟨?_⟩
    refine Loop.inv (n := l.length) (fun m s => ∃ i : Nat, i + m = l.length ∧ s.2 = (i : Int) ∧ 1 ≤ s.1 ∧ s.1 ≤ 8192 ∧ szGo s.1 (l.drop i) = z) ⟨0, by omega, rfl, by show 1 ≤ (1 : Int); omega, by show (1 : Int) ≤ 8192; omega, hz⟩ ?_
    rintro m ⟨acc, i'⟩ X ⟨i, hi, he, ha, hb, hzz⟩ hX
    simp only at he ha hb hzz
    subst he
    unfold pedagogueref1_MayDims_n0_B
    by_cases hlt : i < l.length
    · rw [getD_drop hlt, szGo_step ha hb] at hzz
      rw [if_pos (decide_eq_true (show (i : Int) < (l.length : Int) by omega))]
      dsimp only
      refine ⟨by omega, ?_⟩
      rw [Int.toNat_natCast]
      generalize l.getD i 0 = d at hzz ⊢
      show (if (decide (d < 1) || decide (4096 < d)) = true then _ else _)
      by_cases hd : (decide (d < 1) || decide (4096 < d)) = true
      · rw [if_pos hd] at hzz ⊢
        show (if true = true then _ else _)
        rw [if_pos rfl]
        have : decide (0 < z) = false := by rw [← hzz]; rfl
        rw [this] at h; exact h
      · rw [if_neg hd] at hzz ⊢
        simp only [Bool.or_eq_true, decide_eq_true_eq, not_or] at hd
        refine ⟨by omega, ?_⟩
        have ht := tdiv_lt (x := d) (n := acc) (by omega) (by omega) ha hb
        show (if (decide (IntKind.i64.wrap ((8192 : Int).tdiv d) < acc)) = true then _ else _)
        by_cases h3 : 8192 < acc * d
        · rw [if_pos h3] at hzz
          rw [if_pos (decide_eq_true (ht.2 h3))]
          have : decide (0 < z) = false := by rw [← hzz]; rfl
          rw [this] at h; exact h
        · rw [if_neg h3] at hzz
          rw [if_neg (by simp; exact Int.not_lt.1 (fun hh => h3 (ht.1 hh)))]
          have hb2 := mul_bd acc d 8192 4096 (by omega) (by omega) (by omega) (by omega) (by omega)
          rw [wrap_i64 (acc * d) (by omega) (by omega), wrap_i64 ((i : Int) + 1) (by omega) (by omega)]
          exact hX (m - 1) _ (by omega) ⟨i + 1, by omega, rfl, mul_pos' ha (by omega), by show acc * d ≤ 8192; omega, hzz⟩
    · have hil : i = l.length := by omega
      subst hil
      rw [if_neg (by simp)]
      rw [List.drop_length] at hzz
      unfold szGo at hzz
      have : decide (0 < z) = true := by rw [← hzz]; exact decide_eq_true (by omega)
      rw [this] at h; exact h
theorem rsize_v {l : List Int} {Q : Int → Prop} (h : Q (szF l)) : pedagogueref1_Size l Q := by
  refine ⟨?_⟩
  unfold pedagogueref1_Size_t
  refine mayDims_v ?_
  by_cases hp : 0 < szF l
  · rw [if_neg (by simp [hp])]
    have hp2 := hp
    unfold szF at hp2 h
    split at hp2
    · omega
    · rename_i e
      rw [if_neg e] at h
      have hl : l.length ≤ 4 := by simp only [Bool.or_eq_true, decide_eq_true_eq, not_or] at e; omega
      obtain ⟨z, hz⟩ : ∃ z, szGo 1 l = z := ⟨_, rfl⟩
      rw [hz] at h hp2
      refine ⟨?_⟩
      refine Loop.inv (n := l.length) (fun m s => ∃ i : Nat, i + m = l.length ∧ s.2 = (i : Int) ∧ 1 ≤ s.1 ∧ s.1 ≤ 8192 ∧ szGo s.1 (l.drop i) = z) ⟨0, by omega, rfl, by show 1 ≤ (1 : Int); omega, by show (1 : Int) ≤ 8192; omega, hz⟩ ?_
      rintro m ⟨acc, i'⟩ X ⟨i, hi, he, ha, hb, hzz⟩ hX
      simp only at he ha hb hzz
      subst he
      unfold pedagogueref1_Size_n0_B
      by_cases hlt : i < l.length
      · rw [getD_drop hlt, szGo_step ha hb] at hzz
        rw [if_pos (decide_eq_true (show (i : Int) < (l.length : Int) by omega))]
        dsimp only
        refine ⟨by omega, ?_⟩
        rw [Int.toNat_natCast]
        generalize l.getD i 0 = d at hzz ⊢
        split at hzz
        · omega
        · rename_i hd
          simp only [Bool.or_eq_true, decide_eq_true_eq, not_or] at hd
          split at hzz
          · omega
          · have hb2 := mul_bd acc d 8192 4096 (by omega) (by omega) (by omega) (by omega) (by omega)
            rw [wrap_i64 (acc * d) (by omega) (by omega), wrap_i64 ((i : Int) + 1) (by omega) (by omega)]
            exact hX (m - 1) _ (by omega) ⟨i + 1, by omega, rfl, mul_pos' ha (by omega), by show acc * d ≤ 8192; omega, hzz⟩
      · have hil : i = l.length := by omega
        subst hil
        rw [if_neg (by simp)]
        rw [List.drop_length] at hzz
        unfold szGo at hzz
        dsimp only
        rw [hzz]
        exact h
  · rw [if_pos (by simp; omega)]
    have : szF l = 0 := by have := szF_nonneg l; omega
    rw [this] at h; exact h
theorem noMin_v {l : List Int} {K0 K1 : Unit → Prop} (hl : l.length ≤ 1000000) (h : if -128 ∈ l then K1 () else K0 ()) : pedagogueref1_MayT_n0 l (l.length : Int) K0 K1 0 := by
  refine ⟨?_⟩
  refine Loop.range (B := pedagogueref1_MayT_n0_B l (l.length : Int) K0 K1) l.length (fun i => (i : Int)) (fun i => ∀ j, j < i → l.getD j 0 ≠ -128) (fun j hj => absurd hj (by omega)) ?_ ?_
  · intro i hi hI X hX
    unfold pedagogueref1_MayT_n0_B
    rw [if_pos (decide_eq_true (show (i : Int) < (l.length : Int) by omega))]
    refine ⟨by omega, ?_⟩
    rw [Int.toNat_natCast]
    have hget : l.getD i 0 = l[i] := by rw [List.getD_eq_getElem?_getD, List.getElem?_eq_getElem hi]; rfl
    by_cases hv : l.getD i 0 = -128
    · rw [if_pos (by rw [hv]; rfl)]
      rw [if_pos (by rw [← hv, hget]; exact List.getElem_mem hi)] at h
      exact h
    · rw [if_neg (by simpa using hv), wrap_i64 _ (by omega) (by omega)]
      refine hX fun j hj => ?_
      by_cases hji : j = i
      · subst hji; exact hv
      · exact hI j (by omega)
  · intro hI X
    unfold pedagogueref1_MayT_n0_B
    rw [if_neg (by simp)]
    rw [if_neg] at h
    · exact h
    · intro hm
      obtain ⟨j, hj, e⟩ := List.getElem_of_mem hm
      apply hI j hj
      rw [List.getD_eq_getElem?_getD, List.getElem?_eq_getElem hj, ← e]; rfl
theorem expF64 (e : Int) : expF e 64 = !(decide (e < -64) || decide (64 < e)) := by
  unfold expF
  rw [wrap_i64 (0 - 64) (by omega) (by omega), Bool.eq_iff_iff]
  simp only [Bool.and_eq_true, decide_eq_true_eq, Bool.not_eq_true', Bool.or_eq_false_iff, decide_eq_false_iff_not]
  omega
theorem rmayT_v {a : T3} {Q : Bool → Prop} (h : Q (mayF a)) : pedagogueref1_MayT a Q := by
  refine ⟨?_⟩
  unfold pedagogueref1_MayT_t
  refine mayDims_v ?_
  unfold mayF at h
  have key : ∀ v : Bool, v = !(decide (0 < szF a.1) && ((a.2.2.length : Int) == szF a.1)) → (if ((v || decide (a.2.1 < -64)) || decide (64 < a.2.1)) = true then Q false else pedagogueref1_MayT_n0 a.2.2 (a.2.2.length : Int) (fun _ => Q true) (fun _ => Q false) 0) := by
    intro v hv
    rw [expF64] at h
    have hle := szF_le a.1
    by_cases hc : ((v || decide (a.2.1 < -64)) || decide (64 < a.2.1)) = true
    · rw [if_pos hc]
      have : (((decide (0 < szF a.1) && ((a.2.2.length : Int) == szF a.1)) && !(decide (a.2.1 < -64) || decide (64 < a.2.1))) && !decide (-128 ∈ a.2.2)) = false := by
        rw [Bool.or_assoc] at hc
        cases hv2 : v with
        | true =>
          rw [hv2] at hv
          cases hq : (decide (0 < szF a.1) && ((a.2.2.length : Int) == szF a.1)) with
          | true => rw [hq] at hv; cases hv
          | false => rfl
        | false =>
          rw [hv2, Bool.false_or] at hc
          rw [hc]; simp
      rw [this] at h; exact h
    · rw [if_neg hc]
      simp only [Bool.or_eq_true, not_or] at hc
      have hv0 : v = false := by simpa using hc.1.1
      rw [hv0] at hv
      have hv' : (decide (0 < szF a.1) && ((a.2.2.length : Int) == szF a.1)) = true := by
        cases hq : (decide (0 < szF a.1) && ((a.2.2.length : Int) == szF a.1)) with
        | true => rfl
        | false => rw [hq] at hv; cases hv
      have hlen : a.2.2.length ≤ 1000000 := by
        simp only [Bool.and_eq_true, decide_eq_true_eq, beq_iff_eq] at hv'
        omega
      refine noMin_v hlen ?_
      have e1 : decide (a.2.1 < -64) = false := by simpa using hc.1.2
      have e2 : decide (64 < a.2.1) = false := by simpa using hc.2
      rw [hv', e1, e2] at h
      by_cases hm : -128 ∈ a.2.2
      · rw [if_pos hm]; simpa [hm] using h
      · rw [if_neg hm]; simpa [hm] using h
  show (if (!decide (0 < szF a.1)) = true then _ else _)
  by_cases hp : 0 < szF a.1
  · rw [if_neg (by simp [hp])]
    refine rsize_v ?_
    exact key _ (by rw [decide_eq_true hp]; unfold bne; rw [Bool.true_and])
  · rw [if_pos (by simp [hp])]
    exact key true (by rw [decide_eq_false hp]; rfl)
theorem OkL.grad {t : T3} {ks : List Int} {n c : Nat} (h : OkL t ks n c) : gradF t ks = ((t.1, (-7, gradData (chunksF t.2.2 c) t.2.1 ks)), 0) := by
  unfold gradF
  rw [h.label, if_neg (by simp)]
theorem gradData_eq {l : List Int} {e : Int} {ks : List Int} {n c : Nat} (hc : 1 ≤ c) (hl : l.length = n * c) : gradData (chunksF l c) e ks = (List.range n).flatMap fun i => gradRow (rowAt l c i) e (ks.getD i 0) := by
  unfold gradData
  rw [chunks_len hc hl]
  rw [List.flatMap_def, List.flatMap_def]
  congr 1
  refine List.map_congr_left fun i hi => ?_
  rw [chunks_get hc hl (List.mem_range.1 hi)]
theorem ixw {r n i : Nat} (h : r * n + i ≤ 100000000) : IntKind.i64.wrap (IntKind.i64.wrap ((r : Int) * (n : Int)) + (i : Int)) = ((r * n + i : Nat) : Int) := by
  have : ((r : Int)) * (n : Int) = ((r * n : Nat) : Int) := by push_cast; rfl
  rw [this, wrap_i64 ((r * n : Nat) : Int) (by omega) (by omega), wrap_i64 _ (by omega) (by omega)]; omega
theorem sints_v {a b : List Int} {Q : Bool → Prop} (hl : a.length ≤ 1000000) (e : a = b) (h : Q true) : pedagogueref1_SameInts a b Q := by
  subst e
  refine ⟨?_⟩
  unfold pedagogueref1_SameInts_t
  rw [if_neg (by simp)]
  refine ⟨Loop.range (B := pedagogueref1_SameInts_n0_B a a (a.length : Int) _ _) (f := fun i : Nat => (i : Int)) a.length (fun _ => True) trivial ?_ ?_⟩
  · intro i hi _ X hX
    unfold pedagogueref1_SameInts_n0_B
    rw [if_pos (by simp; omega)]
    refine ⟨⟨by omega, by omega⟩, ⟨by omega, by omega⟩, ?_⟩
    rw [if_neg (by simp), wrap_i64 _ (by omega) (by omega)]
    exact hX trivial
  · intro _ X
    unfold pedagogueref1_SameInts_n0_B
    rw [if_neg (by simp)]; exact h
theorem rrows_v {t : T3} {Q : Int → Prop} (h : Q (rowsF t).2) : pedagogueref18_rows t Q := by
  refine ⟨?_⟩
  unfold pedagogueref18_rows_t
  refine rmayT_v (a := t) ?_
  unfold rowsF at h
  cases hm : mayF t with
  | false => rw [if_pos hm] at h; rw [if_pos (by rfl)]; exact h
  | true =>
    rw [if_neg (by rw [hm]; simp)] at h
    rw [if_neg (by simp)]
    refine orb_v (b := ((t.1.length : Int) != 2)) (c := decide (t.1.getD 1 0 < 2)) ?_ (fun v hv => ?_) rfl
    · intro hb P hP
      refine ⟨?_, hP⟩
      have : (t.1.length : Int) = 2 := by simpa using hb
      omega
    · subst hv
      refine orb_v (b := ((t.1.length : Int) != 2) || decide (t.1.getD 1 0 < 2)) (c := decide (10 < t.1.getD 1 0)) ?_ (fun v hv => ?_) rfl
      · intro hb P hP
        refine ⟨?_, hP⟩
        have : (t.1.length : Int) = 2 := by simp at hb; exact hb.1
        omega
      · subst hv
        by_cases hc : t.1.length ≠ 2 ∨ t.1.getD 1 0 < 2 ∨ 10 < t.1.getD 1 0
        · rw [if_pos hc] at h
          rw [if_pos (by simp only [Bool.or_eq_true, decide_eq_true_eq, bne_iff_ne, ne_eq]; omega)]; exact h
        · rw [if_neg hc] at h
          rw [if_neg (by simp only [Bool.or_eq_true, decide_eq_true_eq, bne_iff_ne, ne_eq]; omega)]
          exact h

theorem rlabel_v {t : T3} {ks : List Int} {Q : Int → Prop} (h : Q (labelF t ks).2) : pedagogueref18_labeled t ks Q := by
  refine ⟨?_⟩
  unfold pedagogueref18_labeled_t
  refine rrows_v (t := t) ?_
  unfold labelF at h
  by_cases h0 : (rowsF t).2 ≠ 0
  · rw [if_pos h0] at h
    rw [if_pos (by simpa using h0)]; exact h
  · rw [if_neg h0] at h
    rw [if_neg (by simpa using h0)]
    obtain ⟨n, c, ho⟩ := rowsF_ok (t := t) (by simpa using h0)
    have hd := ho.dim
    have hrl : (rowsF t).1.length = n := by rw [ho.rows]; exact chunks_len (by have := ho.c2; omega) ho.len
    refine ⟨by omega, ?_⟩
    rw [hd.2.2]
    by_cases hl : (rowsF t).1.length ≠ ks.length
    · rw [if_pos hl] at h
      rw [if_pos (by rw [bne_iff_ne]; omega)]; exact h
    · rw [if_neg hl] at h
      rw [if_neg (by rw [bne_iff_ne]; omega)]
      have hkl : ks.length = n := by omega
      have hn := ho.n1
      refine ⟨Loop.all (B := pedagogueref18_labeled_n0_B ks (ks.length : Int) t.1 _ _) ks (fun k => !(decide (k < 0) || decide (t.1.getD 1 0 ≤ k))) (K0 := Q 0) (K1 := Q 1) ?_ ?_ (by
        split
        · rename_i hh; rw [if_pos hh] at h; exact h
        · rename_i hh; rw [if_neg hh] at h; exact h)⟩
      · intro i hi X hX hK
        unfold pedagogueref18_labeled_n0_B
        dsimp only
        rw [if_pos (by simp; omega)]
        refine ⟨⟨by omega, by omega⟩, ?_⟩
        have hg : ks.getD i 0 = ks[i] := by rw [List.getD_eq_getElem?_getD, List.getElem?_eq_getElem hi]; rfl
        rw [Int.toNat_natCast, hg]
        have key : ∀ v, v = (decide (ks[i] < 0) || decide (t.1.getD 1 0 ≤ ks[i])) → (if v = true then Q 1 else X (IntKind.i64.wrap ((i : Int) + 1))) := by
          intro v hv
          cases hvv : v with
          | true => rw [if_pos rfl]; exact hK (by rw [← hv, hvv]; rfl)
          | false =>
            rw [if_neg (by simp), wrap_i64 _ (by omega) (by omega)]
            exact hX (by rw [← hv, hvv]; rfl)
        by_cases hk : ks[i] < 0
        · show (if (decide (ks[i] < 0)) = true then _ else _)
          rw [if_pos (by simpa using hk)]
          exact key true (by simp [hk])
        · show (if (decide (ks[i] < 0)) = true then _ else _)
          rw [if_neg (by simpa using hk)]
          exact ⟨by omega, key _ (by simp [hk])⟩
      · intro hK X
        unfold pedagogueref18_labeled_n0_B
        dsimp only
        rw [if_neg (by simp)]; exact hK

/-! ### Parts -/
theorem pow16 {k : Nat} (h : 4 ≤ k) : (16 : Int) ≤ 2 ^ k := by
  obtain ⟨d, rfl⟩ := Nat.exists_eq_add_of_le h
  rw [Int.pow_add]
  have := pow_pos2 d
  have e : (2 : Int) ^ 4 = 16 := rfl
  rw [e]; omega
theorem ups_v {d e : Int} {K : Int → Prop} (hd : 0 ≤ d ∧ d ≤ 255) (he : e ≤ 64) (h : ∀ s, 0 ≤ s ∧ s ≤ 255 → (0 ≤ e → min s 15 = min (d * 2 ^ e.toNat) 15) → (e ≤ 0 → s = d) → K s) : pedagogueref18_Soft_n3 e K (d, 0) := by
  refine ⟨Loop.rangeI (B := pedagogueref18_Soft_n3_B e K) e.toNat (fun i s => s.2 = (i : Int) ∧ (0 ≤ s.1 ∧ s.1 ≤ 255) ∧ min s.1 15 = min (d * 2 ^ i) 15 ∧ (i = 0 → s.1 = d)) ⟨rfl, hd, by simp, fun _ => rfl⟩ ?_ ?_⟩
  · rintro i hi ⟨s, u⟩ ⟨rfl, h1, h2, h3⟩ X hX
    simp only at h1 h2 h3
    unfold pedagogueref18_Soft_n3_B
    dsimp only
    rw [if_pos (by simp; omega), wrap_i64 (2 * s) (by omega) (by omega), wrap_i64 ((i : Int) + 1) (by omega) (by omega), smaller_eq]
    have hA := Int.mul_nonneg hd.1 (show (0 : Int) ≤ 2 ^ i by have := pow_pos2 i; omega)
    refine hX _ ⟨rfl, by simp only; omega, ?_, fun e => by omega⟩
    simp only
    rw [pow_step, Int.mul_add]
    generalize d * 2 ^ i = A at *
    omega
  · rintro ⟨s, u⟩ ⟨rfl, h1, h2, h3⟩ X
    simp only at h1 h2 h3
    unfold pedagogueref18_Soft_n3_B
    dsimp only
    rw [if_neg (by simp; omega)]
    exact h s h1 (fun _ => h2) (fun hz => h3 (by omega))
theorem downs_v {d k : Int} {K : Int → Prop} (hd : 0 ≤ d ∧ d ≤ 255) (hk : k ≤ 64) (h : K (d / 2 ^ k.toNat)) : pedagogueref18_Soft_n4 k K (d, 0) := by
  refine ⟨Loop.rangeI (B := pedagogueref18_Soft_n4_B k K) k.toNat (fun i s => s.2 = (i : Int) ∧ s.1 = d / 2 ^ i) ⟨rfl, by simp⟩ ?_ ?_⟩
  · rintro i hi ⟨s, u⟩ ⟨rfl, h1⟩ X hX
    simp only at h1
    unfold pedagogueref18_Soft_n4_B
    dsimp only
    rw [if_pos (by simp; omega), wrap_i64 ((i : Int) + 1) (by omega) (by omega)]
    refine ⟨by omega, hX _ ⟨rfl, ?_⟩⟩
    show s.fdiv (2 ^ 1) = d / 2 ^ (i + 1)
    rw [Int.fdiv_eq_ediv_of_nonneg _ (by decide), h1, Int.ediv_ediv_of_nonneg (by have := pow_pos2 i; omega), Int.pow_succ]
    rfl
  · rintro ⟨s, u⟩ ⟨rfl, h1⟩ X
    simp only at h1
    unfold pedagogueref18_Soft_n4_B
    dsimp only
    rw [if_neg (by simp; omega), h1]
    exact h
theorem small_div {d : Int} {k : Nat} (hd : 0 ≤ d ∧ d ≤ 255) (hk : 8 ≤ k) : d / 2 ^ k = 0 := by
  refine Int.ediv_eq_zero_of_lt hd.1 ?_
  obtain ⟨j, rfl⟩ := Nat.exists_eq_add_of_le hk
  rw [Int.pow_add]
  have := pow_pos2 j
  have e : (2 : Int) ^ 8 = 256 := rfl
  rw [e]; omega
theorem rbelow_v {d e : Int} {K : Int → Prop} (hd : 0 ≤ d ∧ d ≤ 255) (he : -64 ≤ e ∧ e ≤ 64) (h : ∀ y, min y 15 = belowF d e → K y) : pedagogueref18_Soft_n3 e (fun y => pedagogueref18_Soft_n4 (IntKind.i64.wrap (0 - e)) K (y, 0)) (d, 0) := by
  refine ups_v hd he.2 fun s hs h1 h2 => ?_
  rw [wrap_i64 (0 - e) (by omega) (by omega)]
  refine downs_v hs (by omega) (h _ ?_)
  unfold belowF
  by_cases h0 : d = 0
  · rw [if_pos h0]
    subst h0
    have hs0 : s = 0 := by
      by_cases hp : 0 ≤ e
      · have := h1 hp; rw [Int.zero_mul] at this; omega
      · exact h2 (by omega)
    subst hs0
    rw [Int.zero_ediv]; rfl
  · rw [if_neg h0]
    by_cases hp : 0 ≤ e
    · have hz : (0 - e).toNat = 0 := by omega
      rw [hz, Int.pow_zero, Int.ediv_one]
      have h3 := h1 hp
      by_cases h4 : 4 ≤ e
      · rw [if_pos h4]
        have := pow16 (k := e.toNat) (by omega)
        have : 16 ≤ d * 2 ^ e.toNat := by
          have := Int.mul_le_mul (show (1 : Int) ≤ d by omega) this (by omega) (by omega)
          omega
        omega
      · rw [if_neg h4, if_pos hp, h3]
        omega
    · rw [if_neg (by omega), if_neg hp]
      have hsd := h2 (by omega)
      subst hsd
      by_cases h62 : (-e).toNat ≤ 62
      · rw [Nat.min_eq_left h62, show (0 - e).toNat = (-e).toNat by omega]
        omega
      · rw [small_div hd (by omega), small_div hd (by omega)]
        omega
theorem upw {r : Int} (h : 0 ≤ r ∧ r ≤ 15) : IntKind.u64.wrap (IntKind.i64.wrap (15 - r)) = IntKind.i64.wrap (15 - r) := by
  rw [wrap_i64 _ (by omega) (by omega)]
  simp only [IntKind.wrap, IntKind.bits, IntKind.signed]; simp; omega

theorem rmax_v {l : List Int} {K : Int → Prop} (hl : l ≠ []) (hlen : l.length ≤ 1000) (h : K (maxF l)) : pedagogueref18_Soft_n0 l (l.length : Int) K (l.getD 0 0, 0) := by
  have hp : 0 < l.length := List.length_pos_iff.2 hl
  refine ⟨Loop.rangeI (B := pedagogueref18_Soft_n0_B l (l.length : Int) K) l.length (fun i s => s.2 = (i : Int) ∧ (∃ j, j < l.length ∧ s.1 = l.getD j 0) ∧ ∀ j, j < i → l.getD j 0 ≤ s.1) ⟨rfl, ⟨0, by omega, rfl⟩, fun j hj => by omega⟩ ?_ ?_⟩
  · rintro i hi ⟨b, u⟩ ⟨rfl, ⟨j, hj, hb⟩, hub⟩ X hX
    simp only at hb hub
    unfold pedagogueref18_Soft_n0_B
    dsimp only
    rw [if_pos (by simp; omega), Int.toNat_natCast, greater_eq, wrap_i64 ((i : Int) + 1) (by omega) (by omega)]
    refine ⟨⟨by omega, by omega⟩, hX _ ⟨rfl, ?_, fun k hk => ?_⟩⟩
    · rcases Int.le_total b (l.getD i 0) with h | h
      · exact ⟨i, hi, Int.max_eq_right h⟩
      · exact ⟨j, hj, by simp only; rw [Int.max_eq_left h]; exact hb⟩
    · simp only
      by_cases hk2 : k < i
      · have := hub k hk2; omega
      · rw [show k = i by omega]; omega
  · rintro ⟨b, u⟩ ⟨rfl, ⟨j, hj, hb⟩, hub⟩ X
    simp only at hb hub
    unfold pedagogueref18_Soft_n0_B
    dsimp only
    rw [if_neg (by simp)]
    have : b = maxF l := maxF_eq (by rw [hb]; exact getD_mem hj) (fun x hx => by
      obtain ⟨k, hk, rfl⟩ := List.getElem_of_mem hx
      have := hub k hk
      rwa [List.getD_eq_getElem?_getD, List.getElem?_eq_getElem hk] at this)
    rw [this]; exact h

theorem rsoft_v {l : List Int} {e : Int} {Q : List Int → Prop} (h8 : All8 l) (h : Q (softF l e)) : pedagogueref18_Soft l e Q := by
  refine ⟨?_⟩
  unfold pedagogueref18_Soft_t
  unfold softF at h
  by_cases hc : l.length < 1 ∨ 10 < l.length
  · rw [if_pos hc] at h
    rw [if_pos (by simp; omega)]; exact h
  rw [if_neg hc] at h
  rw [if_neg (by simp; omega)]
  have hne : l ≠ [] := fun e => by subst e; simp at hc
  have hm := h8 _ (maxF_mem hne)
  refine ⟨⟨by omega, by omega⟩, rmax_v hne (by omega) ?_⟩
  have hce := clamp_rng e
  rw [show greater (-64) (smaller e 64) = clampF e from rfl]
  generalize clampF e = c at *
  generalize hmx : maxF l = m at *
  refine ⟨Loop.range (B := pedagogueref18_Soft_n1_B c m l (l.length : Int) _) (f := fun i : Nat => (((((l.take i).map (partF c m)).sum : Nat) : Int), (i : Int), (l.take i).map fun x => ((partF c m x : Nat) : Int))) l.length (fun _ => True) trivial ?_ ?_⟩
  · intro i hi _ X hX
    unfold pedagogueref18_Soft_n1_B
    dsimp only
    rw [if_pos (by simp; omega)]
    refine ⟨⟨by omega, by omega⟩, ?_⟩
    rw [Int.toNat_natCast]
    have hx := h8.at_ i
    have hxm : l.getD i 0 ≤ m := by rw [← hmx]; exact maxF_ge (getD_mem hi)
    rw [wrap_i64 (l.getD i 0) (by omega) (by omega), wrap_i64 m (by omega) (by omega), wrap_i64 (m - l.getD i 0) (by omega) (by omega)]
    refine rbelow_v (by omega) hce fun y hy => ?_
    have hb := below_rng (n := m - l.getD i 0) (e := c) (by omega)
    rw [smaller_eq, hy, upw hb, pw hb]
    refine ⟨by rw [wrap_i64 _ (by omega) (by omega)]; omega, by simp; omega, by rw [wrap_i64 _ (by omega) (by omega)]; omega, ?_⟩
    have hs := sum_le (partF c m) 32768 (fun x => (part_rng c m x).2) (l.take i)
    have hp := part_rng c m (l.getD i 0)
    have hlt : (l.take i).length = i := by simp; omega
    rw [hlt] at hs
    have hX' := hX trivial
    rw [take_snoc hi, List.map_append, List.map_append, List.sum_append] at hX'
    rw [show (2 ^ (15 - (belowF (m - l.getD i 0) c).toNat) : Nat) = partF c m (l.getD i 0) from rfl, wrap_i64 _ (by omega) (by omega), wrap_i64 _ (by omega) (by omega)]
    simpa using hX'
  · intro _ X
    unfold pedagogueref18_Soft_n1_B
    dsimp only
    rw [if_neg (by simp), List.take_length]
    have hs := sum_le (partF c m) 32768 (fun x => (part_rng c m x).2) l
    have hg := sum_ge (partF c m) 1 (fun x => (part_rng c m x).1) l
    obtain ⟨all, hall⟩ : ∃ all, (l.map (partF c m)).sum = all := ⟨_, rfl⟩
    unfold allF at h
    rw [hall] at hs hg h ⊢
    obtain ⟨ps, hps⟩ : ∃ ps, (l.map fun x => ((partF c m x : Nat) : Int)) = ps := ⟨_, rfl⟩
    rw [hps]
    have hpl : ps.length = l.length := by rw [← hps]; simp
    have hpr : ∀ i, 0 ≤ ps.getD i 0 ∧ ps.getD i 0 ≤ 32768 := by
      intro i
      rw [List.getD_eq_getElem?_getD, ← hps, List.getElem?_map]
      cases hq : l[i]? with
      | none => simp
      | some y => have := part_rng c m y; simp; omega
    refine ⟨Loop.range (B := pedagogueref18_Soft_n2_B (all : Int) (ps.length : Int) _) (f := fun i : Nat => ((i : Int), (ps.take i).map (fun p => (p * 127).tdiv (all : Int)) ++ ps.drop i)) ps.length (fun _ => True) trivial ?_ ?_⟩
    · intro i hi _ X hX
      unfold pedagogueref18_Soft_n2_B
      dsimp only
      have hlen : ((ps.take i).map (fun p => (p * 127).tdiv (all : Int)) ++ ps.drop i).length = ps.length := by simp; omega
      rw [if_pos (by simp; omega), hlen, Int.toNat_natCast, get_next hi]
      refine ⟨⟨by omega, by omega⟩, by omega, ⟨by omega, by omega⟩, ?_⟩
      have hp := hpr i
      have hd1 : 0 ≤ (ps.getD i 0 * 127).tdiv (all : Int) := Int.tdiv_nonneg (by omega) (by omega)
      have hd2 : (ps.getD i 0 * 127).tdiv (all : Int) ≤ ps.getD i 0 * 127 := Int.tdiv_le_self _ (by omega)
      rw [wrap_i64 (ps.getD i 0 * 127) (by omega) (by omega), wrap_i64 ((ps.getD i 0 * 127).tdiv (all : Int)) (by omega) (by omega), wrap_i64 ((i : Int) + 1) (by omega) (by omega)]
      have hX' := hX trivial
      rw [← set_next hi] at hX'
      simpa using hX'
    · intro _ X
      unfold pedagogueref18_Soft_n2_B
      dsimp only
      rw [if_neg (by simp), List.take_length, List.drop_length, List.append_nil]
      have e3 : ps.map (fun p => (p * 127).tdiv (all : Int)) = l.map fun x => ((partF c m x * 127 / all : Nat) : Int) := by
        rw [← hps, List.map_map]
        refine List.map_congr_left fun x _ => ?_
        have : (((partF c m x : Nat) : Int) * 127).tdiv (all : Int) = ((partF c m x * 127 / all : Nat) : Int) := by
          rw [Int.tdiv_eq_ediv_of_nonneg (by omega)]
          push_cast
          rfl
        exact this
      rw [e3]; exact h
end Go.Proofs.Ytpbegbmmhpencaa
