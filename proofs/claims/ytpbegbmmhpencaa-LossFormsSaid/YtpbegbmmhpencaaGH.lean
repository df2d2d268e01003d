/- loss.Top, loss.Right: what their texts come to. Laws; no condition. -/
import Derived.Test.YtpbegbmmhpencaaGK
import Derived.Test.YtpbegbmmhpencaaG3
namespace Go.Proofs.Ytpbegbmmhpencaa
open Go.Mach Go.RowKit
set_option maxRecDepth 100000
set_option linter.unusedVariables false
set_option linter.unusedSimpArgs false

theorem take_snocD {α : Type} {l : List α} {i : Nat} (d : α) (h : i < l.length) : l.take (i + 1) = l.take i ++ [l.getD i d] := by
  rw [List.take_add_one, List.getD_eq_getElem?_getD, List.getElem?_eq_getElem h]; rfl
def firstF (v : Int) : List Int → Nat
  | [] => 0
  | x :: r => if v = x then 0 else firstF v r + 1
theorem firstF_spec {v : Int} : ∀ {l : List Int}, v ∈ l → firstF v l < l.length ∧ l.getD (firstF v l) 0 = v ∧ ∀ j, j < firstF v l → l.getD j 0 ≠ v
  | x :: r, h => by
    unfold firstF
    by_cases e : v = x
    · rw [if_pos e]; exact ⟨by simp, by simp [e], fun j hj => by omega⟩
    · rw [if_neg e]
      obtain ⟨h1, h2, h3⟩ := firstF_spec (l := r) (by rcases List.mem_cons.1 h with h | h; exact absurd h e; exact h)
      refine ⟨by simp; omega, by rw [List.getD_cons_succ]; exact h2, fun j hj => ?_⟩
      cases j with
      | zero => rw [List.getD_cons_zero]; exact fun h => e h.symm
      | succ j => rw [List.getD_cons_succ]; exact h3 j (by omega)
def topF (l : List Int) : Nat := firstF (maxF l) l
theorem top_spec {l : List Int} (h : l ≠ []) : topF l < l.length ∧ l.getD (topF l) 0 = maxF l ∧ ∀ j, j < topF l → l.getD j 0 ≠ maxF l := firstF_spec (maxF_mem h)
theorem top_eq {l : List Int} (h : l ≠ []) {i : Nat} (h1 : i < l.length) (h2 : l.getD i 0 = maxF l) (h3 : ∀ j, j < i → maxF l ≠ l.getD j 0) : topF l = i := by
  obtain ⟨k1, k2, k3⟩ := top_spec h
  rcases Nat.lt_trichotomy (topF l) i with e | e | e
  · exact absurd k2.symm (h3 _ e)
  · exact e
  · exact absurd h2 (k3 _ e)

theorem top_v {l : List Int} {Q : Int → Prop} (hl : l ≠ []) (hlen : l.length ≤ 1000) (h : Q ((topF l : Nat) : Int)) : loss_top l Q := by
  refine ⟨?_⟩
  unfold loss_top_t
  refine max_v hl (by omega) ?_
  refine ⟨?_⟩
  unfold slices_Index_int8_int8_t
  refine ⟨Loop.range (B := slices_Index_int8_int8_n0_B l (maxF l) (l.length : Int) (fun _ => Q (-1)) (fun y => Q y)) (f := fun i : Nat => (i : Int)) l.length (fun i => ∀ j, j < i → maxF l ≠ l.getD j 0) (fun j hj => absurd hj (by omega)) ?_ ?_⟩
  · intro i hi hI X hX
    unfold slices_Index_int8_int8_n0_B
    rw [if_pos (by simpa using hi)]
    refine ⟨by omega, ?_⟩
    simp only [Int.toNat_natCast]
    by_cases hv : maxF l = l.getD i 0
    · rw [if_pos (by simpa using hv)]
      rw [top_eq hl hi hv.symm hI] at h
      exact h
    · rw [if_neg (by simpa using hv), wrap_i64 _ (by omega) (by omega)]
      refine hX fun j hj => ?_
      by_cases hji : j = i
      · subst hji; exact hv
      · exact hI j (by omega)
  · intro hI X
    obtain ⟨k1, k2, _⟩ := top_spec hl
    exact absurd k2.symm (hI _ k1)

def topI (l : List Int) : Int := ((topF l : Nat) : Int)
def Rows (c : Nat) (rows : List (List Int)) : Prop := rows.length ≤ 8192 ∧ ∀ i, i < rows.length → (rows.getD i []).length = c
theorem tops_v {rows : List (List Int)} {c : Nat} {K : List Int → Prop} (hc : 1 ≤ c ∧ c ≤ 10) (hr : Rows c rows) (h : K (rows.map topI)) : loss_Top_n0 rows (rows.length : Int) K (0, []) := by
  obtain ⟨h1, h2⟩ := hr
  refine ⟨Loop.range (B := loss_Top_n0_B rows (rows.length : Int) K) (f := fun i : Nat => ((i : Int), (rows.take i).map topI)) rows.length (fun _ => True) trivial ?_ ?_⟩
  · intro i hi _ X hX
    unfold loss_Top_n0_B
    dsimp only
    rw [if_pos (by simp; omega), Int.toNat_natCast]
    refine ⟨⟨by omega, by omega⟩, ?_⟩
    have hl := h2 i hi
    refine top_v (fun e => by rw [e] at hl; simp at hl; omega) (by omega) ⟨by simp; omega, ?_⟩
    have hX' := hX trivial
    rw [take_snocD [] hi, List.map_append] at hX'
    rw [wrap_i64 _ (by omega) (by omega)]
    exact hX'
  · intro _ X
    unfold loss_Top_n0_B
    dsimp only
    rw [if_neg (by simp), List.take_length]; exact h

def hitsF (rows : List (List Int)) (ks : List Int) : Nat → Nat
  | 0 => 0
  | i + 1 => hitsF rows ks i + if topI (rows.getD i []) = ks.getD i 0 then 1 else 0
theorem hits_le (rows : List (List Int)) (ks : List Int) : ∀ i, hitsF rows ks i ≤ i
  | 0 => Nat.le_refl _
  | i + 1 => by
    have := hits_le rows ks i
    unfold hitsF
    split <;> omega
theorem right_v' {rows : List (List Int)} {ks : List Int} {c : Nat} {K : Int → Prop} (hc : 1 ≤ c ∧ c ≤ 10) (hr : Rows c rows) (hk : rows.length ≤ ks.length) (h : K ((hitsF rows ks rows.length : Nat) : Int)) : loss_Right_n0 ks rows (rows.length : Int) K (0, 0) := by
  obtain ⟨h1, h2⟩ := hr
  refine ⟨Loop.range (B := loss_Right_n0_B ks rows (rows.length : Int) K) (f := fun i : Nat => (((hitsF rows ks i : Nat) : Int), (i : Int))) rows.length (fun _ => True) trivial ?_ ?_⟩
  · intro i hi _ X hX
    unfold loss_Right_n0_B
    dsimp only
    rw [if_pos (by simp; omega), Int.toNat_natCast]
    refine ⟨⟨by omega, by omega⟩, ?_⟩
    have hl := h2 i hi
    refine top_v (fun e => by rw [e] at hl; simp at hl; omega) (by omega) ⟨⟨by omega, by omega⟩, ?_⟩
    have hX' := hX trivial
    have hle := hits_le rows ks i
    unfold hitsF at hX'
    by_cases e : topI (rows.getD i []) = ks.getD i 0
    · rw [if_pos e] at hX'
      rw [if_pos (by rw [beq_iff_eq]; exact e)]
      refine ⟨?_⟩
      unfold loss_Right_n1_t
      rw [wrap_i64 _ (by omega) (by omega), wrap_i64 _ (by omega) (by omega)]
      exact hX'
    · rw [if_neg e] at hX'
      rw [if_neg (by rw [beq_iff_eq]; exact e)]
      refine ⟨?_⟩
      unfold loss_Right_n1_t
      rw [wrap_i64 _ (by omega) (by omega)]
      exact hX'
  · intro _ X
    unfold loss_Right_n0_B
    dsimp only
    rw [if_neg (by simp)]; exact h

theorem OkT.Rows {t : T3} {n c : Nat} (h : OkT t n c) : Rows c (chunksF t.2.2 c) := by
  have h1 := h.c2; have h2 := h.len; have h3 := h.n1
  have hl := chunks_len (l := t.2.2) (c := c) (by omega) h.len
  refine ⟨by omega, fun i hi => ?_⟩
  rw [chunks_get (by omega) h.len (by omega)]
  exact rowAt_len h.len (by omega)

/-- The greatest of each row. -/
def topsF (t : T3) : List Int × Int := ((rowsF t).1.map topI, (rowsF t).2)
theorem Top_v {t : T3} {Q : List Int × Int → Prop} (h : Q (topsF t)) : loss_Top t Q := by
  refine ⟨?_⟩
  unfold loss_Top_t
  refine rows_v (t := t) ?_
  by_cases h0 : (rowsF t).2 = 0
  · obtain ⟨n, c, ho⟩ := rowsF_ok h0
    have hc := ho.c2
    exact tops_v (c := c) (by omega) (by rw [ho.rows]; exact ho.Rows) h
  · have e : (rowsF t).1 = [] := by
      unfold rowsF at h0 ⊢
      split
      · rfl
      · rename_i h1
        rw [if_neg h1] at h0
        split
        · rfl
        · rename_i h2; rw [if_neg h2] at h0; exact absurd rfl h0
    unfold topsF at h
    refine tops_v (c := 1) (by omega) (by rw [e]; exact ⟨by simp, fun i hi => by simp at hi⟩) h
def rightF (t : T3) (ks : List Int) : Int × Int := (((hitsF (labelF t ks).1 ks (labelF t ks).1.length : Nat) : Int), (labelF t ks).2)
theorem Right_v {t : T3} {ks : List Int} {Q : Int × Int → Prop} (h : Q (rightF t ks)) : loss_Right t ks Q := by
  refine ⟨?_⟩
  unfold loss_Right_t
  refine label_v (t := t) ?_
  by_cases h0 : (labelF t ks).2 = 0
  · obtain ⟨n, c, ho⟩ := labelF_ok h0
    have hc := ho.c2
    have hl := chunks_len (l := t.2.2) (c := c) (by omega) ho.len
    exact right_v' (c := c) (by omega) (by rw [ho.label]; exact ho.toOkT.Rows) (by rw [ho.label]; have := ho.kl; simp only; omega) h
  · have e : (labelF t ks).1 = [] := by
      unfold labelF at h0 ⊢
      split
      · rfl
      · rename_i h1
        rw [if_neg h1] at h0
        split
        · rfl
        · rename_i h2
          rw [if_neg h2] at h0
          split
          · rename_i h3; rw [if_pos h3] at h0; exact absurd rfl h0
          · rfl
    exact right_v' (c := 1) (by omega) (by rw [e]; exact ⟨by simp, fun i hi => by simp at hi⟩) (by rw [e]; simp) h
end Go.Proofs.Ytpbegbmmhpencaa
