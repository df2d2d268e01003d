/- LossGrads. Plain law; no condition. -/
import Derived.Test.YtpbegbmmhpencaaGH
import Derived.Test.YtpbegbmmhpencaaGG
namespace Go.Proofs.Ytpbegbmmhpencaa
open Go.Mach Go.RowKit
set_option maxRecDepth 100000
set_option linter.unusedVariables false
set_option linter.unusedSimpArgs false

theorem OkL.grad {t : T3} {ks : List Int} {n c : Nat} (h : OkL t ks n c) : gradF t ks = ((t.1, (-7, gradData (chunksF t.2.2 c) t.2.1 ks)), 0) := by
  unfold gradF
  rw [h.label, if_neg (by simp)]
theorem gradData_eq {l : List Int} {e : Int} {ks : List Int} {n c : Nat} (hc : 1 ≤ c) (hl : l.length = n * c) : gradData (chunksF l c) e ks = (List.range n).flatMap fun i => gradRow (rowAt l c i) e (ks.getD i 0) := by
  unfold gradData
  rw [chunks_len hc hl]
  rw [List.flatMap_def, List.flatMap_def]
  congr 1
  refine List.map_congr_left fun i hi => ?_
  rw [chunks_get hc hl (List.mem_range.1 hi)]
theorem flat_len {f : Nat → List Int} {c : Nat} : ∀ n, (∀ i, i < n → (f i).length = c) → ((List.range n).flatMap f).length = n * c
  | 0, _ => by simp
  | n + 1, h => by rw [flat_snoc, List.length_append, flat_len n (fun i hi => h i (by omega)), h n (by omega), Nat.add_mul, Nat.one_mul]
theorem flat_get {f : Nat → List Int} {c : Nat} : ∀ n, (∀ i, i < n → (f i).length = c) → ∀ i j, i < n → j < c → ((List.range n).flatMap f).getD (i * c + j) 0 = (f i).getD j 0
  | n + 1, h, i, j, hi, hj => by
    have hl := flat_len n (fun i hi => h i (by omega))
    rw [flat_snoc]
    by_cases e : i < n
    · have hlt : i * c + j < n * c := ix_lt e hj
      rw [List.getD_eq_getElem?_getD, List.getElem?_append_left (by omega), ← List.getD_eq_getElem?_getD]
      exact flat_get n (fun i hi => h i (by omega)) i j e hj
    · obtain rfl : i = n := by omega
      rw [List.getD_eq_getElem?_getD, List.getElem?_append_right (by omega), hl, Nat.add_sub_cancel_left, ← List.getD_eq_getElem?_getD]
theorem sum_set : ∀ {l : List Int} {i : Nat} (d : Int), i < l.length → (l.set i (l.getD i 0 - d)).sum = l.sum - d
  | x :: l, 0, d, _ => by simp; omega
  | x :: l, i + 1, d, h => by
    rw [List.set_cons_succ, List.sum_cons, List.sum_cons, List.getD_cons_succ, sum_set d (by simpa using h)]; omega
theorem grad_sum {l : List Int} {e k : Int} (h : 1 ≤ l.length ∧ l.length ≤ 10) (hk : 0 ≤ k ∧ k < (l.length : Int)) : (gradRow l e k).sum = (softF l e).sum - 127 := by
  unfold gradRow
  exact sum_set 127 (by rw [soft_len l e h]; omega)
theorem ixw {r n i : Nat} (h : r * n + i ≤ 100000000) : IntKind.i64.wrap (IntKind.i64.wrap ((r : Int) * (n : Int)) + (i : Int)) = ((r * n + i : Nat) : Int) := by
  have : ((r : Int)) * (n : Int) = ((r * n : Nat) : Int) := by push_cast; rfl
  rw [this, wrap_i64 ((r * n : Nat) : Int) (by omega) (by omega), wrap_i64 _ (by omega) (by omega)]; omega

theorem row_v {y D tops : List Int} {e k : Int} {n c i : Nat} {K0 : Int → Prop} {K1 : Unit → Prop} (hc : 2 ≤ c ∧ c ≤ 10) (hn : n * c ≤ 8192) (hi : i < n) (hy : y.length = n * c) (hD : D.length = n * c)
    (hg : ∀ j, j < c → D.getD (i * c + j) 0 = (gradRow (rowAt y c i) e k).getD j 0) (hk : 0 ≤ k ∧ k < (c : Int)) (htl : tops.length = n) (ht : tops.getD i 0 = topI (rowAt y c i))
    (h : K0 ((gradRow (rowAt y c i) e k).sum)) : pedagoguelaw19_LossGrads_n3 (c : Int) (i : Int) k (c : Int) y tops D K0 K1 (0, 0) := by
  have hrl := rowAt_len hy hi
  have hne : rowAt y c i ≠ [] := fun e => by rw [e] at hrl; simp at hrl; omega
  obtain ⟨t1, t2, t3⟩ := top_spec hne
  rw [hrl] at t1
  have hgl := gradRow_len (l := rowAt y c i) (e := e) (k := k) (by omega)
  rw [hrl] at hgl
  have hic : i * c + c ≤ n * c := by
    have := Nat.mul_le_mul_right c (show i + 1 ≤ n from hi)
    rwa [Nat.add_mul, Nat.one_mul] at this
  obtain ⟨g, hgg⟩ : ∃ g, gradRow (rowAt y c i) e k = g := ⟨_, rfl⟩
  have hgr : ∀ j, -127 ≤ g.getD j 0 ∧ g.getD j 0 ≤ 127 := fun j => by rw [← hgg]; exact gradRow_rng (by omega) (by omega)
  have hgs : ∀ j, (k.toNat = j → g.getD j 0 ≤ 0) ∧ (k.toNat ≠ j → 0 ≤ g.getD j 0) := fun j => by
    rw [← hgg, gradRow_get (by omega) (by omega)]
    have := soft_rng (l := rowAt y c i) (e := e) (i := j)
    constructor
    · intro hj; rw [if_pos hj]; omega
    · intro hj; rw [if_neg hj]; omega
  rw [hgg] at hg hgl h
  refine ⟨Loop.rangeI (B := pedagoguelaw19_LossGrads_n3_B (c : Int) (i : Int) k (c : Int) y tops D K0 K1) c (fun j s => s.2 = (j : Int) ∧ s.1 = (g.take j).sum ∧ (-127 * (j : Int) ≤ s.1 ∧ s.1 ≤ 127 * (j : Int))) ⟨rfl, by simp, by simp⟩ ?_ ?_⟩
  · rintro j hj ⟨s, u⟩ ⟨rfl, h1, h2⟩ X hX
    simp only at h1 h2
    unfold pedagoguelaw19_LossGrads_n3_B
    dsimp only
    rw [if_pos (by simp; omega)]
    have e1 := ixw (r := i) (n := c) (i := j) (by omega)
    have e2 := ixw (r := i) (n := c) (i := topF (rowAt y c i)) (by omega)
    rw [Int.toNat_natCast, ht, show topI (rowAt y c i) = ((topF (rowAt y c i) : Nat) : Int) from rfl, e1, e2, Int.toNat_natCast, Int.toNat_natCast, hg j hj, ← rowAt_get hy hi hj, ← rowAt_get hy hi t1, t2]
    have hgj := hgr j
    have hgs' := hgs j
    rw [wrap_i64 (g.getD j 0) (by omega) (by omega)]
    have hup : (rowAt y c i).getD j 0 ≤ maxF (rowAt y c i) := maxF_ge (getD_mem (by omega))
    refine ⟨⟨by omega, by omega⟩, ?_⟩
    have fin : X (IntKind.i64.wrap (s + g.getD j 0), IntKind.i64.wrap ((j : Int) + 1)) := by
      rw [wrap_i64 (s + g.getD j 0) (by omega) (by omega), wrap_i64 ((j : Int) + 1) (by omega) (by omega)]
      refine hX _ ⟨rfl, ?_, by simp only; omega, by simp only; omega⟩
      simp only
      rw [take_snoc (by omega), List.sum_append, h1]; simp
    simp only [jn]
    rw [if_neg (by
      simp only [Bool.or_eq_true, Bool.and_eq_true, decide_eq_true_eq, beq_iff_eq, bne_iff_ne, ne_eq]
      rintro (⟨h3, h4⟩ | ⟨h3, h4⟩)
      · have := hgs'.1 (by omega); omega
      · have := hgs'.2 (by omega); omega)]
    refine ⟨⟨by omega, by omega⟩, ⟨by omega, by omega⟩, ⟨by omega, by omega⟩, ?_⟩
    rw [if_neg (by simpa using hup)]
    refine ⟨⟨by omega, by omega⟩, ?_⟩
    by_cases hjt : j < topF (rowAt y c i)
    · rw [if_pos (by simpa using hjt)]
      refine ⟨⟨by omega, by omega⟩, ⟨by omega, by omega⟩, ⟨by omega, by omega⟩, ?_⟩
      rw [if_neg (by rw [beq_iff_eq]; exact t3 j hjt)]
      exact fin
    · rw [if_neg (by simpa using hjt), if_neg (by simp)]
      exact fin
  · rintro ⟨s, u⟩ ⟨rfl, h1, h2⟩ X
    simp only at h1 h2
    unfold pedagoguelaw19_LossGrads_n3_B
    dsimp only
    rw [if_neg (by simp), h1, List.take_of_length_le (by omega)]
    exact h

theorem law_grads {t : T3} {ks : List Int} {Q : Bool → Prop} (h8 : All8 t.2.2) (h : Q true) : pedagoguelaw19_LossGrads t ks Q := by
  refine ⟨?_⟩
  unfold pedagoguelaw19_LossGrads_t
  by_cases h600 : 600 < t.2.2.length
  · rw [if_pos (by simp; omega)]; exact awake_v h
  rw [if_neg (by simp; omega)]
  refine grad_v (t := t) h8 ?_
  by_cases h0 : (labelF t ks).2 = 0
  case neg =>
    have e : gradF t ks = (Z3, (labelF t ks).2) := by unfold gradF; rw [if_pos h0]
    rw [e, if_pos (by simpa using h0)]
    simp only [jn]
    rw [if_pos (by rfl)]
    exact awake_v h
  obtain ⟨n, c, ho⟩ := labelF_ok h0
  have hc := ho.c2; have hn := ho.n1; have hm := ho.most; have hkl := ho.kl; have hd := ho.toOkT.dim
  rw [ho.grad, if_neg (by simp)]
  refine Top_v (t := t) (Right_v (t := t) ?_)
  refine ⟨?_⟩
  unfold pedagoguelaw19_LossGrads_n0_t
  have hrl := chunks_len (l := t.2.2) (c := c) (by omega) ho.len
  have hgl : ∀ i, i < n → (gradRow (rowAt t.2.2 c i) t.2.1 (ks.getD i 0)).length = c := fun i hi => by
    rw [gradRow_len (by rw [rowAt_len ho.len hi]; omega), rowAt_len ho.len hi]
  have hD := gradData_eq (l := t.2.2) (e := t.2.1) (ks := ks) (n := n) (c := c) (by omega) ho.len
  have hDl := flat_len n hgl
  have hDg := flat_get n hgl
  rw [← hD] at hDl hDg
  unfold topsF rightF
  rw [ho.toOkT.rows, ho.label]
  simp only
  have hrow : ∀ i, i < n → (chunksF t.2.2 c).getD i [] = rowAt t.2.2 c i := fun i hi => chunks_get (by omega) ho.len hi
  obtain ⟨rows, hrows⟩ : ∃ rows, chunksF t.2.2 c = rows := ⟨_, rfl⟩
  have hDl' := hDl
  rw [hrows] at hrl hrow hDl hDg ⊢
  generalize gradData rows t.2.1 ks = D at *
  have htl : (rows.map topI).length = n := by rw [List.length_map]; exact hrl
  have htg : ∀ i, i < n → (rows.map topI).getD i 0 = topI (rowAt t.2.2 c i) := fun i hi => by
    rw [← hrow i hi, List.getD_eq_getElem?_getD, List.getD_eq_getElem?_getD, List.getElem?_map, List.getElem?_eq_getElem (by omega : i < rows.length)]; rfl
  rw [if_neg (by
    have := ho.len
    simp only [Bool.or_eq_true, bne_iff_ne, ne_eq, htl, hDl, this, hkl, hd.1]
    simp)]
  refine ⟨⟨by omega, by omega⟩, ?_⟩
  rw [hd.2.1, hrl]
  refine ⟨Loop.rangeI (B := pedagoguelaw19_LossGrads_n1_B (c : Int) ks (ks.length : Int) t.2.2 (rows.map topI) D _ _) n (fun i s => s.2 = (i : Int) ∧ s.1 = ((hitsF rows ks n : Nat) : Int) - ((hitsF rows ks i : Nat) : Int)) ⟨rfl, by simp [hitsF]⟩ ?_ ?_⟩
  · rintro i hi ⟨s, u⟩ ⟨rfl, h1⟩ X hX
    simp only at h1
    unfold pedagoguelaw19_LossGrads_n1_B
    dsimp only
    rw [if_pos (by simp; omega), Int.toNat_natCast]
    refine ⟨⟨by omega, by omega⟩, ?_⟩
    have hk := ho.kr i hi
    have hrl2 := rowAt_len ho.len hi
    refine row_v (e := t.2.1) (n := n) hc hm hi ho.len hDl (fun j hj => hDg i j hi hj) hk htl (htg i hi) ?_
    have hs := soft_sum (l := rowAt t.2.2 c i) (e := t.2.1) (by omega)
    rw [grad_sum (by omega) (by omega), wrap_i64 (0 - (c : Int)) (by omega) (by omega)]
    rw [if_neg (by simp only [Bool.or_eq_true, decide_eq_true_eq]; omega)]
    refine ⟨⟨by omega, by omega⟩, ?_⟩
    have hl1 := hits_le rows ks n
    have hl2 := hits_le rows ks (i + 1)
    have hstep : hitsF rows ks (i + 1) = hitsF rows ks i + if topI (rows.getD i []) = ks.getD i 0 then 1 else 0 := rfl
    rw [htg i hi]
    rw [hrow i hi] at hstep
    by_cases e : topI (rowAt t.2.2 c i) = ks.getD i 0
    · rw [if_pos e] at hstep
      rw [if_pos (by rw [beq_iff_eq]; exact e)]
      refine ⟨?_⟩
      unfold pedagoguelaw19_LossGrads_n2_t
      rw [wrap_i64 (s - 1) (by omega) (by omega), wrap_i64 ((i : Int) + 1) (by omega) (by omega)]
      exact hX _ ⟨rfl, by simp only; omega⟩
    · rw [if_neg e] at hstep
      rw [if_neg (by rw [beq_iff_eq]; exact e)]
      refine ⟨?_⟩
      unfold pedagoguelaw19_LossGrads_n2_t
      rw [wrap_i64 ((i : Int) + 1) (by omega) (by omega)]
      exact hX _ ⟨rfl, by simp only; omega⟩
  · rintro ⟨s, u⟩ ⟨rfl, h1⟩ X
    simp only at h1
    unfold pedagoguelaw19_LossGrads_n1_B
    dsimp only
    rw [if_neg (by simp; omega)]
    simp only [jn]
    rw [if_pos (by simp; omega)]
    exact awake_v h
end Go.Proofs.Ytpbegbmmhpencaa
