/- LossForms. Plain law; no condition. -/
import Derived.Test.YtpbegbmmhpencaaGM
namespace Go.Proofs.Ytpbegbmmhpencaa
open Go.Mach Go.RowKit
set_option maxRecDepth 100000
set_option linter.unusedVariables false
set_option linter.unusedSimpArgs false

theorem rows_nil {t : T3} (h0 : (rowsF t).2 ≠ 0) : (rowsF t).1 = [] := by
  unfold rowsF at h0 ⊢
  split
  · rfl
  · rename_i h1
    rw [if_neg h1] at h0
    split
    · rfl
    · rename_i h2; rw [if_neg h2] at h0; exact absurd rfl h0
theorem label_nil {t : T3} {ks : List Int} (h0 : (labelF t ks).2 ≠ 0) : (labelF t ks).1 = [] := by
  unfold labelF at h0 ⊢
  split
  · rfl
  · rename_i h1
    rw [if_neg h1] at h0
    split
    · rfl
    · rename_i h2
      rw [if_neg h2] at h0
      split
      · rename_i h3; rw [if_pos h3] at h0; exact absurd rfl h0
      · rfl

theorem rgrad_row_v {row o : List Int} {e k : Int} {K : List Int → Prop} (hr : 1 ≤ row.length ∧ row.length ≤ 10) (hk : 0 ≤ k ∧ k < (row.length : Int)) (ho : o.length ≤ 1000000) (h : K (o ++ gradRow row e k)) :
    pedagogueref18_LossGrad_n1 k ((softF row e).length : Int) (softF row e) K (0, o) := by
  have hgl := gradRow_len (l := row) (e := e) (k := k) hr
  have hsl := soft_len row e hr
  refine ⟨Loop.range (B := pedagogueref18_LossGrad_n1_B k ((softF row e).length : Int) (softF row e) K) (f := fun i : Nat => ((i : Int), o ++ (gradRow row e k).take i)) (softF row e).length (fun _ => True) trivial ?_ ?_ |> fun z => by simpa using z⟩
  · intro i hi _ X hX
    unfold pedagogueref18_LossGrad_n1_B
    dsimp only
    rw [if_pos (by simp; omega), Int.toNat_natCast]
    have hj := gradRow_get (l := row) (e := e) (k := k) (j := i) hr hk
    have hs := soft_rng (l := row) (e := e) (i := i)
    have hX' := hX trivial
    rw [take_snoc (by omega), ← List.append_assoc, hj] at hX'
    rw [wrap_i64 ((i : Int) + 1) (by omega) (by omega)]
    refine ⟨⟨by omega, by omega⟩, ?_⟩
    by_cases hki : k.toNat = i
    · rw [if_pos hki] at hX'
      rw [if_pos (by rw [beq_iff_eq]; omega)]
      refine ⟨?_⟩
      unfold pedagogueref18_LossGrad_n2_t
      rw [wrap_i64 ((softF row e).getD i 0 - 127) (by omega) (by omega), wrap_i8 _ (by omega) (by omega)]
      exact ⟨by simp; omega, by simpa using hX'⟩
    · rw [if_neg hki] at hX'
      rw [if_neg (by rw [beq_iff_eq]; omega)]
      refine ⟨?_⟩
      unfold pedagogueref18_LossGrad_n2_t
      rw [wrap_i8 _ (by omega) (by omega)]
      exact ⟨by simp; omega, by simpa using hX'⟩
  · intro _ X
    unfold pedagogueref18_LossGrad_n1_B
    dsimp only
    rw [if_neg (by simp), List.take_of_length_le (by omega)]; exact h

theorem rgrad_v {t : T3} {ks : List Int} {Q : T3 × Int → Prop} (h8 : All8 t.2.2) (h : Q (gradF t ks)) : pedagogueref18_LossGrad t ks Q := by
  refine ⟨?_⟩
  unfold pedagogueref18_LossGrad_t
  refine rlabel_v (t := t) ?_
  by_cases h0 : (labelF t ks).2 ≠ 0
  · unfold gradF at h
    rw [if_pos h0] at h
    rw [if_pos (by simpa using h0)]; exact h
  · rw [if_neg (by simpa using h0)]
    obtain ⟨n, c, ho⟩ := labelF_ok (t := t) (ks := ks) (by simpa using h0)
    have hd := ho.toOkT.dim; have hc := ho.c2; have hn := ho.n1; have hm := ho.most; have hkl := ho.kl; have hlen := ho.len
    rw [ho.grad, gradData_eq (n := n) (by omega) ho.len] at h
    refine ⟨by omega, by omega, ?_⟩
    rw [hd.2.1]
    have hne : t.2.2 ≠ [] := fun e => by
      rw [e] at hlen
      have : 1 ≤ n * c := Nat.mul_pos (by omega) (by omega)
      simp at hlen; omega
    refine ⟨Loop.range (B := pedagogueref18_LossGrad_n0_B (c : Int) ks (ks.length : Int) t.2.1 t.2.2 _) (f := fun i : Nat => ((i : Int), (List.range i).flatMap fun j => gradRow (rowAt t.2.2 c j) t.2.1 (ks.getD j 0))) n (fun _ => True) trivial ?_ ?_⟩
    · intro i hi _ X hX
      unfold pedagogueref18_LossGrad_n0_B
      dsimp only
      have hic : i * c + c ≤ n * c := by
        have := Nat.mul_le_mul_right c (show i + 1 ≤ n from hi)
        rwa [Nat.add_mul, Nat.one_mul] at this
      have e1 : ((i : Int)) * (c : Int) = ((i * c : Nat) : Int) := by push_cast; rfl
      have e2 : ((i : Int) + 1) * (c : Int) = ((i * c + c : Nat) : Int) := by rw [Int.add_mul, e1]; push_cast; omega
      rw [if_pos (by simp; omega), wrap_i64 ((i : Int) + 1) (by omega) (by omega), e1, e2, wrap_i64 ((i * c : Nat) : Int) (by omega) (by omega), wrap_i64 ((i * c + c : Nat) : Int) (by omega) (by omega), Int.toNat_natCast, Int.toNat_natCast, Int.toNat_natCast]
      refine ⟨⟨by omega, by omega⟩, ⟨hne, by omega, by omega, by omega⟩, ?_⟩
      have hrl := rowAt_len ho.len hi
      show pedagogueref18_Soft (rowAt t.2.2 c i) t.2.1 _
      refine rsoft_v (rowAt_all h8) ?_
      have hfl : ((List.range i).flatMap fun j => gradRow (rowAt t.2.2 c j) t.2.1 (ks.getD j 0)).length ≤ 1000000 := by
        have key : ∀ m, m ≤ n → ((List.range m).flatMap fun j => gradRow (rowAt t.2.2 c j) t.2.1 (ks.getD j 0)).length = m * c := by
          intro m
          induction m with
          | zero => intro _; simp
          | succ m ih =>
            intro hm2
            rw [flat_snoc, List.length_append, ih (by omega), gradRow_len (by rw [rowAt_len ho.len (by omega)]; omega), rowAt_len ho.len (by omega), Nat.add_mul, Nat.one_mul]
        rw [key i (by omega)]; omega
      have hk := ho.kr i hi
      refine rgrad_row_v (by omega) (by omega) hfl ?_
      have hX' := hX trivial
      rw [flat_snoc] at hX'
      exact hX'
    · intro _ X
      unfold pedagogueref18_LossGrad_n0_B
      dsimp only
      rw [if_neg (by simp; omega)]; exact h

theorem rtop_row_v {y : List Int} {n c i : Nat} {K : Int → Prop} (hc : 2 ≤ c ∧ c ≤ 10) (hn : n * c ≤ 8192) (hi : i < n) (hy : y.length = n * c) (h : K (topI (rowAt y c i))) : pedagogueref18_Top_n1 (c : Int) (i : Int) (c : Int) y K (0, 0) := by
  have hrl := rowAt_len hy hi
  have hne : rowAt y c i ≠ [] := fun e => by rw [e] at hrl; simp at hrl; omega
  have hic : i * c + c ≤ n * c := by
    have := Nat.mul_le_mul_right c (show i + 1 ≤ n from hi)
    rwa [Nat.add_mul, Nat.one_mul] at this
  refine ⟨Loop.rangeI (B := pedagogueref18_Top_n1_B (c : Int) (i : Int) (c : Int) y K) c (fun j s => s.2 = (j : Int) ∧ ∃ b : Nat, s.1 = (b : Int) ∧ b < c ∧ (∀ q, q < j → (rowAt y c i).getD q 0 ≤ (rowAt y c i).getD b 0) ∧ ∀ q, q < b → (rowAt y c i).getD q 0 < (rowAt y c i).getD b 0) ⟨rfl, 0, rfl, by omega, fun q hq => by omega, fun q hq => by omega⟩ ?_ ?_⟩
  · rintro j hj ⟨s, u⟩ ⟨rfl, b, rfl, hb, h1, h2⟩ X hX
    unfold pedagogueref18_Top_n1_B
    dsimp only
    have e1 := ixw (r := i) (n := c) (i := j) (by omega)
    have e2 := ixw (r := i) (n := c) (i := b) (by omega)
    rw [if_pos (by simp; omega), e1, e2, Int.toNat_natCast, Int.toNat_natCast, ← rowAt_get hy hi hj, ← rowAt_get hy hi hb]
    refine ⟨⟨by omega, by omega⟩, ⟨by omega, by omega⟩, ?_⟩
    by_cases hlt : (rowAt y c i).getD b 0 < (rowAt y c i).getD j 0
    · rw [if_pos (by simpa using hlt)]
      refine ⟨?_⟩
      unfold pedagogueref18_Top_n2_t
      rw [wrap_i64 _ (by omega) (by omega)]
      refine hX _ ⟨rfl, j, rfl, hj, fun q hq => ?_, fun q hq => ?_⟩
      · by_cases hqj : q = j
        · subst hqj; exact Int.le_refl _
        · have := h1 q (by omega); omega
      · have := h1 q hq; omega
    · rw [if_neg (by simpa using hlt)]
      refine ⟨?_⟩
      unfold pedagogueref18_Top_n2_t
      rw [wrap_i64 _ (by omega) (by omega)]
      refine hX _ ⟨rfl, b, rfl, hb, fun q hq => ?_, h2⟩
      by_cases hqj : q = j
      · subst hqj; omega
      · exact h1 q (by omega)
  · rintro ⟨s, u⟩ ⟨rfl, b, rfl, hb, h1, h2⟩ X
    unfold pedagogueref18_Top_n1_B
    dsimp only
    rw [if_neg (by simp)]
    have hmx : (rowAt y c i).getD b 0 = maxF (rowAt y c i) := maxF_eq (getD_mem (by omega)) fun x hx => by
      obtain ⟨q, hq, rfl⟩ := List.getElem_of_mem hx
      have := h1 q (by omega)
      rwa [List.getD_eq_getElem?_getD, List.getElem?_eq_getElem hq] at this
    have ht := top_eq hne (i := b) (by omega) hmx fun q hq => by have := h2 q hq; omega
    unfold topI at h
    rw [ht] at h
    exact h

theorem rtop_v {t : T3} {Q : List Int × Int → Prop} (h : Q (topsF t)) : pedagogueref18_Top t Q := by
  refine ⟨?_⟩
  unfold pedagogueref18_Top_t
  refine rrows_v (t := t) ?_
  unfold topsF at h
  by_cases h0 : (rowsF t).2 ≠ 0
  · rw [rows_nil h0] at h
    rw [if_pos (by simpa using h0)]; exact h
  · rw [if_neg (by simpa using h0)]
    obtain ⟨n, c, ho⟩ := rowsF_ok (t := t) (by simpa using h0)
    have hd := ho.dim; have hc := ho.c2; have hn := ho.n1; have hm := ho.most
    refine ⟨by omega, by omega, ?_⟩
    rw [hd.2.1, hd.2.2]
    rw [ho.rows] at h
    simp only at h
    have hrl := chunks_len (l := t.2.2) (c := c) (by omega) ho.len
    have hrow : ∀ i, i < n → (chunksF t.2.2 c).getD i [] = rowAt t.2.2 c i := fun i hi => chunks_get (by omega) ho.len hi
    generalize chunksF t.2.2 c = rows at *
    refine ⟨Loop.range (B := pedagogueref18_Top_n0_B (c : Int) (n : Int) t.2.2 _) (f := fun i : Nat => ((i : Int), (rows.take i).map topI)) n (fun _ => True) trivial ?_ ?_⟩
    · intro i hi _ X hX
      unfold pedagogueref18_Top_n0_B
      dsimp only
      rw [if_pos (by simp; omega)]
      refine rtop_row_v hc hm hi ho.len ?_
      refine ⟨by simp; omega, ?_⟩
      have hX' := hX trivial
      rw [take_snocD [] (by omega), List.map_append, hrow i hi] at hX'
      rw [wrap_i64 _ (by omega) (by omega)]
      exact hX'
    · intro _ X
      unfold pedagogueref18_Top_n0_B
      dsimp only
      rw [if_neg (by simp), List.take_of_length_le (by omega)]; exact h

theorem rright_v {t : T3} {ks : List Int} {Q : Int × Int → Prop} (h : Q (rightF t ks)) : pedagogueref18_Right t ks Q := by
  refine ⟨?_⟩
  unfold pedagogueref18_Right_t
  refine rlabel_v (t := t) ?_
  unfold rightF at h
  by_cases h0 : (labelF t ks).2 ≠ 0
  · rw [label_nil h0] at h
    rw [if_pos (by simpa using h0)]; exact h
  · rw [if_neg (by simpa using h0)]
    obtain ⟨n, c, ho⟩ := labelF_ok (t := t) (ks := ks) (by simpa using h0)
    have hd := ho.toOkT.dim; have hc := ho.c2; have hn := ho.n1; have hm := ho.most; have hkl := ho.kl
    refine rtop_v (t := t) ?_
    unfold topsF
    rw [ho.label] at h
    rw [ho.toOkT.rows]
    simp only at h ⊢
    have hrl := chunks_len (l := t.2.2) (c := c) (by omega) ho.len
    generalize chunksF t.2.2 c = rows at *
    rw [hrl] at h
    refine ⟨Loop.range (B := pedagogueref18_Right_n0_B ks (ks.length : Int) (rows.map topI) _) (f := fun i : Nat => (((hitsF rows ks i : Nat) : Int), (i : Int))) n (fun _ => True) trivial ?_ ?_⟩
    · intro i hi _ X hX
      unfold pedagogueref18_Right_n0_B
      dsimp only
      have htg : (rows.map topI).getD i 0 = topI (rows.getD i []) := by
        rw [List.getD_eq_getElem?_getD, List.getD_eq_getElem?_getD, List.getElem?_map, List.getElem?_eq_getElem (by omega : i < rows.length)]; rfl
      rw [if_pos (by simp; omega), Int.toNat_natCast, htg]
      refine ⟨⟨by omega, by omega⟩, ⟨by omega, by rw [List.length_map]; omega⟩, ?_⟩
      have hX' := hX trivial
      have hle := hits_le rows ks i
      unfold hitsF at hX'
      by_cases e : topI (rows.getD i []) = ks.getD i 0
      · rw [if_pos e] at hX'
        rw [if_pos (by rw [beq_iff_eq]; exact e)]
        refine ⟨?_⟩
        unfold pedagogueref18_Right_n1_t
        rw [wrap_i64 _ (by omega) (by omega), wrap_i64 _ (by omega) (by omega)]
        exact hX'
      · rw [if_neg e] at hX'
        rw [if_neg (by rw [beq_iff_eq]; exact e)]
        refine ⟨?_⟩
        unfold pedagogueref18_Right_n1_t
        rw [wrap_i64 _ (by omega) (by omega)]
        exact hX'
    · intro _ X
      unfold pedagogueref18_Right_n0_B
      dsimp only
      rw [if_neg (by simp; omega)]; exact h

theorem samet_v {a : T3} {Q : Bool → Prop} (h1 : a.1.length ≤ 1000000) (h2 : a.2.2.length ≤ 1000000) (h : Q true) : pedagogueref1_SameT a a Q := by
  refine ⟨?_⟩
  unfold pedagogueref1_SameT_t
  refine sints_v h1 rfl ?_
  rw [if_neg (by simp)]
  refine ⟨Loop.range (B := pedagogueref1_SameT_n0_B (a.2.2.length : Int) a.2.2 a.2.2 _ _) (f := fun i : Nat => (i : Int)) a.2.2.length (fun _ => True) trivial ?_ ?_⟩
  · intro i hi _ X hX
    unfold pedagogueref1_SameT_n0_B
    rw [if_pos (by simp; omega)]
    refine ⟨⟨by omega, by omega⟩, ⟨by omega, by omega⟩, ?_⟩
    rw [if_neg (by simp), wrap_i64 _ (by omega) (by omega)]
    exact hX trivial
  · intro _ X
    unfold pedagogueref1_SameT_n0_B
    rw [if_neg (by simp)]; exact h

theorem grad_small (t : T3) (ks : List Int) : (gradF t ks).1.1.length ≤ 1000000 ∧ (gradF t ks).1.2.2.length ≤ 1000000 := by
  by_cases h0 : (labelF t ks).2 ≠ 0
  · unfold gradF; rw [if_pos h0]; simp
  · obtain ⟨n, c, ho⟩ := labelF_ok (t := t) (ks := ks) (by simpa using h0)
    have hd := ho.toOkT.dim; have hc := ho.c2; have hm := ho.most
    rw [ho.grad, gradData_eq (n := n) (by omega) ho.len]
    refine ⟨by simp only; omega, ?_⟩
    have key : ∀ m, m ≤ n → ((List.range m).flatMap fun j => gradRow (rowAt t.2.2 c j) t.2.1 (ks.getD j 0)).length = m * c := by
      intro m
      induction m with
      | zero => intro _; simp
      | succ m ih =>
        intro hm2
        rw [flat_snoc, List.length_append, ih (by omega), gradRow_len (by rw [rowAt_len ho.len (by omega)]; omega), rowAt_len ho.len (by omega), Nat.add_mul, Nat.one_mul]
    simp only
    rw [key n (by omega)]; omega
theorem tops_small (t : T3) : (topsF t).1.length ≤ 1000000 := by
  unfold topsF
  simp only [List.length_map]
  by_cases h0 : (rowsF t).2 ≠ 0
  · rw [rows_nil h0]; simp
  · obtain ⟨n, c, ho⟩ := rowsF_ok (t := t) (by simpa using h0)
    have hc := ho.c2; have hn := ho.n1
    rw [ho.rows]
    have := chunks_len (l := t.2.2) (c := c) (by omega) ho.len
    simp only; omega

theorem law_forms {t : T3} {ks l : List Int} {e : Int} {Q : Bool → Prop} (h8 : All8 t.2.2) (hl : All8 l) (h : Q true) : pedagoguelaw19_LossForms t ks l e Q := by
  refine ⟨?_⟩
  unfold pedagoguelaw19_LossForms_t
  by_cases h600 : (decide (600 < (t.2.2.length : Int)) || decide (600 < (ks.length : Int))) = true
  · rw [if_pos h600]; exact awake_v h
  rw [if_neg h600]
  refine grad_v (t := t) h8 (rgrad_v (t := t) h8 (Top_v (t := t) (rtop_v (t := t) ⟨?_⟩)))
  unfold pedagoguelaw19_LossForms_n0_t
  refine Right_v (t := t) (rright_v (t := t) ?_)
  obtain ⟨g1, g2⟩ := grad_small t ks
  refine samet_v (a := (gradF t ks).1) g1 g2 ?_
  simp only [jn]
  rw [if_pos (by simp)]
  refine sints_v (tops_small t) rfl ?_
  rw [if_pos (by simp)]
  refine soft_v hl (rsoft_v hl (sints_v ?_ rfl ?_))
  · unfold softF
    split
    · simp
    · rw [List.length_map]; omega
  · rw [if_pos rfl]
    exact awake_v h
end Go.Proofs.Ytpbegbmmhpencaa
