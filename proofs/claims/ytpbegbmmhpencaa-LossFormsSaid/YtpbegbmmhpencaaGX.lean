/- loss.rows, labelled, Grad: what their texts come to; the row that every program must know. Laws; no condition. -/
import Derived.Test.YtpbegbmmhpencaaGW
namespace Go.Proofs.Ytpbegbmmhpencaa
open Go.Mach Go.RowKit
set_option maxRecDepth 100000
set_option linter.unusedVariables false
set_option linter.unusedSimpArgs false

/-! ### Rows -/
def rowAt (l : List Int) (c i : Nat) : List Int := (l.take (i * c + c)).drop (i * c)
theorem rowAt_len {l : List Int} {c i n : Nat} (hl : l.length = n * c) (hi : i < n) : (rowAt l c i).length = c := by
  have := Nat.mul_le_mul_right c (show i + 1 ≤ n from hi)
  rw [Nat.add_mul, Nat.one_mul] at this
  unfold rowAt
  rw [List.length_drop, List.length_take]; omega
theorem rowAt_get {l : List Int} {c i j n : Nat} (hl : l.length = n * c) (hi : i < n) (hj : j < c) : (rowAt l c i).getD j 0 = l.getD (i * c + j) 0 := by
  unfold rowAt
  rw [List.getD_eq_getElem?_getD, List.getD_eq_getElem?_getD, List.getElem?_drop, List.getElem?_take_of_lt (by omega)]
theorem rowAt_all {l : List Int} {c i : Nat} (h : All8 l) : All8 (rowAt l c i) := fun y hy => h y (List.mem_of_mem_take (List.mem_of_mem_drop hy))
theorem rowAt_mem {l : List Int} {c i : Nat} {x : Int} (h : x ∈ rowAt l c i) : x ∈ l := List.mem_of_mem_take (List.mem_of_mem_drop h)
theorem chunks_len {l : List Int} {c n : Nat} (hc : 1 ≤ c) (hl : l.length = n * c) : (chunksF l c).length = n := by
  unfold chunksF
  rw [List.length_map, List.length_range, hl, show n * c + c - 1 = (c - 1) + n * c by omega, Nat.add_mul_div_right _ _ (by omega), Nat.div_eq_of_lt (by omega), Nat.zero_add]
theorem chunks_get {l : List Int} {c n i : Nat} (hc : 1 ≤ c) (hl : l.length = n * c) (hi : i < n) : (chunksF l c).getD i [] = rowAt l c i := by
  have h := chunks_len hc hl
  rw [List.getD_eq_getElem?_getD]
  unfold chunksF at h ⊢
  rw [List.length_map, List.length_range] at h
  rw [h, List.getElem?_map, List.getElem?_range hi]; rfl

structure OkT (t : T3) (n c : Nat) : Prop where
  dims : t.1 = [(n : Int), (c : Int)]
  n1 : 1 ≤ n ∧ n ≤ 4096
  c2 : 2 ≤ c ∧ c ≤ 10
  len : t.2.2.length = n * c
  most : n * c ≤ 8192
  exp : -64 ≤ t.2.1 ∧ t.2.1 ≤ 64
  no : -128 ∉ t.2.2

def rowsF (t : T3) : List (List Int) × Int :=
  if mayF t = false then ([], 1) else if t.1.length ≠ 2 ∨ t.1.getD 1 0 < 2 ∨ 10 < t.1.getD 1 0 then ([], 2) else (chunksF t.2.2 (t.1.getD 1 0).toNat, 0)

theorem okT_of {t : T3} (h : mayF t = true) (h2 : ¬ (t.1.length ≠ 2 ∨ t.1.getD 1 0 < 2 ∨ 10 < t.1.getD 1 0)) : ∃ n c : Nat, OkT t n c ∧ t.1.getD 1 0 = (c : Int) := by
  obtain ⟨h3, h4, h5, h6⟩ := mayF_iff.1 h
  obtain ⟨_, h7, h8, h9⟩ := szF_inv h3
  obtain ⟨d, e, l⟩ := t
  simp only at *
  match d, h2 with
  | [a, b], h2 =>
    have ha := h7 a (by simp)
    have hb := h7 b (by simp)
    have hp : prodL [a, b] = a * b := by simp [prodL]
    simp only [List.getD_cons_succ, List.getD_cons_zero] at h2 ⊢
    obtain ⟨n, rfl⟩ := Int.eq_ofNat_of_zero_le (show 0 ≤ a by omega)
    obtain ⟨c, rfl⟩ := Int.eq_ofNat_of_zero_le (show 0 ≤ b by omega)
    have hm : ((n : Int)) * (c : Int) = ((n * c : Nat) : Int) := by push_cast; rfl
    rw [hp, hm] at h8 h9
    refine ⟨n, c, ⟨rfl, by omega, ?_, by simp only; omega, by omega, h5, h6⟩, rfl⟩
    simp only [List.length_cons, List.length_nil] at h2
    omega
  | [], h2 => simp at h2
  | [a], h2 => simp at h2
  | a :: b :: c :: r, h2 => simp at h2

theorem OkT.may {t : T3} {n c : Nat} (h : OkT t n c) : mayF t = true := by
  have h1 := h.n1; have h2 := h.c2; have h3 := h.most
  have hm : ((n : Int)) * (c : Int) = ((n * c : Nat) : Int) := by push_cast; rfl
  have hp : prodL [(n : Int), (c : Int)] = ((n * c : Nat) : Int) := by simp [prodL]
  have hnc : 1 ≤ n * c := Nat.mul_pos (by omega) (by omega)
  have hs : szF t.1 = ((n * c : Nat) : Int) := by
    rw [h.dims, szF_of ⟨by simp, by simp⟩ (by intro d hd; simp at hd; omega) (by rw [hp]; omega), hp]
  refine mayF_iff.2 ⟨by rw [hs]; omega, by rw [hs, h.len], h.exp, h.no⟩
theorem OkT.dim {t : T3} {n c : Nat} (h : OkT t n c) : t.1.length = 2 ∧ t.1.getD 1 0 = (c : Int) ∧ t.1.getD 0 0 = (n : Int) := by rw [h.dims]; simp
theorem OkT.rows {t : T3} {n c : Nat} (h : OkT t n c) : rowsF t = (chunksF t.2.2 c, 0) := by
  have := h.dim; have := h.c2
  unfold rowsF
  rw [if_neg (by rw [h.may]; simp), if_neg (by omega), h.dim.2.1, Int.toNat_natCast]
theorem rowsF_ok {t : T3} (h : (rowsF t).2 = 0) : ∃ n c : Nat, OkT t n c := by
  unfold rowsF at h
  split at h
  · cases h
  · split at h
    · cases h
    · rename_i h1 h2
      obtain ⟨n, c, h3, _⟩ := okT_of (by simpa using h1) h2
      exact ⟨n, c, h3⟩

theorem rows_v {t : T3} {Q : List (List Int) × Int → Prop} (h : Q (rowsF t)) : loss_rows t Q := by
  refine ⟨?_⟩
  unfold loss_rows_t
  refine mayT_v ?_
  unfold rowsF at h
  show (if (!mayF t) = true then _ else _)
  cases hm : mayF t with
  | false => rw [if_pos hm] at h; exact h
  | true =>
    rw [if_neg (by rw [hm]; simp)] at h
    rw [if_neg (by simp)]
    refine orb_v (b := ((t.1.length : Int) != 2)) (c := decide (t.1.getD 1 0 < 2)) ?_ (fun v hv => ?_) rfl
    · intro hb P hP
      refine ⟨?_, hP⟩
      have : (t.1.length : Int) = 2 := by simpa using hb
      omega
    · subst hv
      refine orb_v (b := ((t.1.length : Int) != 2) || decide (t.1.getD 1 0 < 2)) (c := decide (10 < t.1.getD 1 0)) ?_ (fun v hv => ?_) rfl
      · intro hb P hP
        refine ⟨?_, hP⟩
        have : (t.1.length : Int) = 2 := by simp at hb; exact hb.1
        omega
      · subst hv
        by_cases hc : t.1.length ≠ 2 ∨ t.1.getD 1 0 < 2 ∨ 10 < t.1.getD 1 0
        · rw [if_pos hc] at h
          rw [if_pos (by simp only [Bool.or_eq_true, decide_eq_true_eq, bne_iff_ne, ne_eq]; omega)]; exact h
        · rw [if_neg hc] at h
          rw [if_neg (by simp only [Bool.or_eq_true, decide_eq_true_eq, bne_iff_ne, ne_eq]; omega)]
          obtain ⟨n, c, ho, hcc⟩ := okT_of hm hc
          have h1 := ho.c2; have h2 := ho.len; have h3 := ho.most; have h4 := ho.n1
          have hnc : 1 ≤ n * c := Nat.mul_pos (by omega) (by omega)
          rw [hcc] at h ⊢
          refine ⟨by omega, ⟨by omega, ⟨?_⟩⟩⟩
          unfold slices_Collect_int8__slices_Chunk_int8_int8_1_t
          exact ⟨by omega, h⟩

/-! ### Labels -/
def labelF (t : T3) (ks : List Int) : List (List Int) × Int :=
  if (rowsF t).2 ≠ 0 then ([], (rowsF t).2) else if (rowsF t).1.length ≠ ks.length then ([], 2) else
    if ks.all (fun k => !(decide (k < 0) || decide (t.1.getD 1 0 ≤ k))) = true then ((rowsF t).1, 0) else ([], 1)

theorem label_v {t : T3} {ks : List Int} {Q : List (List Int) × Int → Prop} (h : Q (labelF t ks)) : loss_labelled t ks Q := by
  refine ⟨?_⟩
  unfold loss_labelled_t
  refine rows_v (t := t) ?_
  unfold labelF at h
  by_cases h0 : (rowsF t).2 ≠ 0
  · rw [if_pos h0] at h
    rw [if_pos (by simpa using h0)]; exact h
  · rw [if_neg h0] at h
    rw [if_neg (by simpa using h0)]
    obtain ⟨n, c, ho⟩ := rowsF_ok (t := t) (by simpa using h0)
    by_cases hl : (rowsF t).1.length ≠ ks.length
    · rw [if_pos hl] at h
      rw [if_pos (by rw [bne_iff_ne]; omega)]; exact h
    · rw [if_neg hl] at h
      rw [if_neg (by rw [bne_iff_ne]; omega)]
      have hkl : ks.length = n := by
        have : (rowsF t).1.length = n := by rw [ho.rows]; exact chunks_len (by have := ho.c2; omega) ho.len
        omega
      have hn := ho.n1
      refine ⟨Loop.all (B := loss_labelled_n0_B ks (ks.length : Int) t.1 _ _) ks (fun k => !(decide (k < 0) || decide (t.1.getD 1 0 ≤ k))) (K0 := Q ((rowsF t).1, 0)) (K1 := Q ([], 1)) ?_ ?_ (by
        split
        · rename_i hh; rw [if_pos hh] at h; exact h
        · rename_i hh; rw [if_neg hh] at h; exact h)⟩
      · intro i hi X hX hK
        unfold loss_labelled_n0_B
        dsimp only
        rw [if_pos (by simp; omega)]
        refine ⟨⟨by omega, by omega⟩, ?_⟩
        have hg : ks.getD i 0 = ks[i] := by rw [List.getD_eq_getElem?_getD, List.getElem?_eq_getElem hi]; rfl
        rw [Int.toNat_natCast, hg]
        have key : ∀ v, v = (decide (ks[i] < 0) || decide (t.1.getD 1 0 ≤ ks[i])) → (if v = true then Q ([], 1) else X (IntKind.i64.wrap ((i : Int) + 1))) := by
          intro v hv
          cases hvv : v with
          | true => rw [if_pos rfl]; exact hK (by rw [← hv, hvv]; rfl)
          | false =>
            rw [if_neg (by simp), wrap_i64 _ (by omega) (by omega)]
            exact hX (by rw [← hv, hvv]; rfl)
        have hd := ho.dim
        by_cases hk : ks[i] < 0
        · show (if (decide (ks[i] < 0)) = true then _ else _)
          rw [if_pos (by simpa using hk)]
          exact key true (by simp [hk])
        · show (if (decide (ks[i] < 0)) = true then _ else _)
          rw [if_neg (by simpa using hk)]
          exact ⟨by omega, key _ (by simp [hk])⟩
      · intro hK X
        unfold loss_labelled_n0_B
        dsimp only
        rw [if_neg (by simp)]; exact hK

structure OkL (t : T3) (ks : List Int) (n c : Nat) : Prop extends OkT t n c where
  kl : ks.length = n
  kr : ∀ i, i < n → 0 ≤ ks.getD i 0 ∧ ks.getD i 0 < (c : Int)

theorem OkL.label {t : T3} {ks : List Int} {n c : Nat} (h : OkL t ks n c) : labelF t ks = (chunksF t.2.2 c, 0) := by
  unfold labelF
  have hc := h.c2
  have hl := chunks_len (l := t.2.2) (c := c) (by omega) h.len
  rw [h.toOkT.rows, if_neg (by simp), if_neg (by have := h.kl; simp only; omega), if_pos]
  rw [List.all_eq_true]
  intro k hk
  obtain ⟨i, hi, rfl⟩ := List.getElem_of_mem hk
  have := h.kr i (by have := h.kl; omega)
  rw [List.getD_eq_getElem?_getD, List.getElem?_eq_getElem hi] at this
  simp only [Option.getD_some] at this
  rw [h.toOkT.dim.2.1]
  simp; omega
theorem labelF_ok {t : T3} {ks : List Int} (h : (labelF t ks).2 = 0) : ∃ n c : Nat, OkL t ks n c := by
  unfold labelF at h
  split at h
  · rename_i h0; exact absurd h h0
  · rename_i h0
    obtain ⟨n, c, ho⟩ := rowsF_ok (t := t) (by simpa using h0)
    split at h
    · cases h
    · rename_i hl
      split at h
      · rename_i ha
        have hkl : ks.length = n := by
          have : (rowsF t).1.length = n := by rw [ho.rows]; exact chunks_len (by have := ho.c2; omega) ho.len
          omega
        refine ⟨n, c, ⟨ho, hkl, fun i hi => ?_⟩⟩
        rw [List.all_eq_true] at ha
        have := ha (ks.getD i 0) (getD_mem (by omega))
        rw [ho.dim.2.1] at this
        simp only [Bool.not_eq_true', Bool.or_eq_false_iff, decide_eq_false_iff_not] at this; omega
      · cases h

/-! ### What goes back -/
def gradRow (row : List Int) (e k : Int) : List Int := (softF row e).set k.toNat ((softF row e).getD k.toNat 0 - 127)
def gradData (rows : List (List Int)) (e : Int) (ks : List Int) : List Int := (List.range rows.length).flatMap fun i => gradRow (rows.getD i []) e (ks.getD i 0)
def gradF (t : T3) (ks : List Int) : T3 × Int :=
  if (labelF t ks).2 ≠ 0 then (Z3, (labelF t ks).2) else ((t.1, (-7, gradData (labelF t ks).1 t.2.1 ks)), 0)

theorem soft_len (l : List Int) (e : Int) (h : 1 ≤ l.length ∧ l.length ≤ 10) : (softF l e).length = l.length := by
  unfold softF; rw [if_neg (by omega), List.length_map]
theorem soft_get {l : List Int} {e : Int} {i : Nat} (h : 1 ≤ l.length ∧ l.length ≤ 10) (hi : i < l.length) : (softF l e).getD i 0 = ((partF (clampF e) (maxF l) (l.getD i 0) * 127 / allF (clampF e) (maxF l) l : Nat) : Int) := by
  unfold softF
  rw [if_neg (by omega), List.getD_eq_getElem?_getD, List.getElem?_map, List.getD_eq_getElem?_getD, List.getElem?_eq_getElem hi]; rfl
theorem part_le_all (e m : Int) : ∀ (l : List Int) (x : Int), x ∈ l → partF e m x ≤ allF e m l
  | y :: l, x, h => by
    unfold allF
    rw [List.map_cons, List.sum_cons]
    rcases List.mem_cons.1 h with rfl | h
    · omega
    · have := part_le_all e m l x h
      unfold allF at this; omega
theorem all_pos (e m : Int) {l : List Int} (h : l ≠ []) : 1 ≤ allF e m l := by
  have := sum_ge (partF e m) 1 (fun x => (part_rng e m x).1) l
  have : 0 < l.length := List.length_pos_iff.2 h
  unfold allF; omega
theorem soft_rng {l : List Int} {e : Int} {i : Nat} : 0 ≤ (softF l e).getD i 0 ∧ (softF l e).getD i 0 ≤ 127 := by
  by_cases hl : 1 ≤ l.length ∧ l.length ≤ 10
  · by_cases hi : i < l.length
    · rw [soft_get hl hi]
      have h1 := part_le_all (clampF e) (maxF l) l (l.getD i 0) (getD_mem hi)
      have h2 := all_pos (clampF e) (maxF l) (l := l) (fun e => by subst e; simp at hl)
      have : partF (clampF e) (maxF l) (l.getD i 0) * 127 / allF (clampF e) (maxF l) l ≤ 127 := by
        refine Nat.div_le_of_le_mul ?_
        exact Nat.mul_le_mul_right 127 h1
      generalize partF (clampF e) (maxF l) (l.getD i 0) * 127 / allF (clampF e) (maxF l) l = z at *
      omega
    · rw [List.getD_eq_getElem?_getD, List.getElem?_eq_none (by rw [soft_len l e hl]; omega)]; simp
  · unfold softF; rw [if_pos (by omega)]; simp
theorem gradRow_len {l : List Int} {e k : Int} (h : 1 ≤ l.length ∧ l.length ≤ 10) : (gradRow l e k).length = l.length := by
  unfold gradRow; rw [List.length_set, soft_len l e h]
theorem gradRow_get {l : List Int} {e k : Int} {j : Nat} (h : 1 ≤ l.length ∧ l.length ≤ 10) (hk : 0 ≤ k ∧ k < (l.length : Int)) : (gradRow l e k).getD j 0 = if k.toNat = j then (softF l e).getD j 0 - 127 else (softF l e).getD j 0 := by
  unfold gradRow
  rw [getD_set (by rw [soft_len l e h]; omega)]
  split
  · rename_i hh; rw [hh]
  · rfl
theorem gradRow_rng {l : List Int} {e k : Int} {j : Nat} (h : 1 ≤ l.length ∧ l.length ≤ 10) (hk : 0 ≤ k ∧ k < (l.length : Int)) : -127 ≤ (gradRow l e k).getD j 0 ∧ (gradRow l e k).getD j 0 ≤ 127 := by
  rw [gradRow_get h hk]
  have := soft_rng (l := l) (e := e) (i := j)
  split <;> omega

theorem clone_v {l : List Int} {Q : List Int → Prop} (hl : l.length ≤ 1000000) (h : Q l) : slices_Clone_int_int l Q := by
  refine ⟨?_⟩
  unfold slices_Clone_int_int_t
  refine ⟨fun e => by subst e; exact h, by simp; omega, by simpa using h⟩

theorem flat_snoc (f : Nat → List Int) (i : Nat) : (List.range (i + 1)).flatMap f = (List.range i).flatMap f ++ f i := by
  rw [List.range_succ, List.flatMap_append]; simp

theorem grad_row_v {p : List Int} {o : List Int} {K : List Int → Prop} (hp : p.length ≤ 1000) (ho : o.length ≤ 1000000) (hr : ∀ j, -128 ≤ p.getD j 0 ∧ p.getD j 0 ≤ 127) (h : K (o ++ p)) : loss_Grad_n1 (p.length : Int) p K (0, o) := by
  refine ⟨Loop.range (B := loss_Grad_n1_B (p.length : Int) p K) (f := fun i : Nat => ((i : Int), o ++ p.take i)) p.length (fun _ => True) trivial ?_ ?_ |> fun z => by simpa using z⟩
  · intro i hi _ X hX
    unfold loss_Grad_n1_B
    dsimp only
    rw [if_pos (by simp; omega), Int.toNat_natCast]
    have hj := hr i
    rw [wrap_i8 _ (by omega) (by omega), wrap_i64 ((i : Int) + 1) (by omega) (by omega)]
    have hX' := hX trivial
    rw [take_snoc hi, ← List.append_assoc] at hX'
    exact ⟨⟨by omega, by omega⟩, by simp; omega, by simpa using hX'⟩
  · intro _ X
    unfold loss_Grad_n1_B
    dsimp only
    rw [if_neg (by simp), List.take_length]; exact h

theorem gradData_len {rows : List (List Int)} {e : Int} {ks : List Int} {c : Nat} (i : Nat) (hc : 1 ≤ c ∧ c ≤ 10) (hr : ∀ j, j < i → (rows.getD j []).length = c) :
    ((List.range i).flatMap fun j => gradRow (rows.getD j []) e (ks.getD j 0)).length = i * c := by
  induction i with
  | zero => simp
  | succ i ih =>
    rw [flat_snoc, List.length_append, ih fun j hj => hr j (by omega), gradRow_len (by rw [hr i (by omega)]; exact hc), hr i (by omega), Nat.add_mul, Nat.one_mul]

theorem grad_v {t : T3} {ks : List Int} {Q : T3 × Int → Prop} (h8 : All8 t.2.2) (h : Q (gradF t ks)) : loss_Grad t ks Q := by
  refine ⟨?_⟩
  unfold loss_Grad_t
  refine label_v (t := t) ?_
  unfold gradF at h
  by_cases h0 : (labelF t ks).2 ≠ 0
  · rw [if_pos h0] at h
    rw [if_pos (by simpa using h0)]; exact h
  · rw [if_neg h0] at h
    rw [if_neg (by simpa using h0)]
    obtain ⟨n, c, ho⟩ := labelF_ok (t := t) (ks := ks) (by simpa using h0)
    have hd := ho.toOkT.dim; have hc := ho.c2; have hn := ho.n1; have hm := ho.most; have hkl := ho.kl
    refine clone_v (by omega) ?_
    rw [ho.label] at h ⊢
    have hrl := chunks_len (l := t.2.2) (c := c) (by omega) ho.len
    simp only at h ⊢
    obtain ⟨rows, hrows⟩ : ∃ rows, chunksF t.2.2 c = rows := ⟨_, rfl⟩
    have hrow : ∀ i, i < n → rows.getD i [] = rowAt t.2.2 c i := fun i hi => by rw [← hrows]; exact chunks_get (by omega) ho.len hi
    rw [hrows] at h hrl ⊢
    have hrlen : ∀ i, i < n → (rows.getD i []).length = c := fun i hi => by rw [hrow i hi]; exact rowAt_len ho.len hi
    refine ⟨Loop.range (B := loss_Grad_n0_B ks rows (rows.length : Int) t.2.1 _) (f := fun i : Nat => ((i : Int), (List.range i).flatMap fun j => gradRow (rows.getD j []) t.2.1 (ks.getD j 0))) rows.length (fun _ => True) trivial ?_ ?_⟩
    · intro i hi _ X hX
      unfold loss_Grad_n0_B
      dsimp only
      rw [hrl] at hi
      rw [if_pos (by simp; omega), Int.toNat_natCast]
      refine ⟨⟨by omega, by omega⟩, ?_⟩
      have hli := hrlen i hi
      refine soft_v (by rw [hrow i hi]; exact rowAt_all h8) ?_
      have hk := ho.kr i hi
      have hsl := soft_len (rows.getD i []) t.2.1 (by omega)
      refine ⟨⟨by omega, by omega⟩, ⟨by omega, by omega⟩, ⟨by omega, by omega⟩, ?_⟩
      have hsr := soft_rng (l := rows.getD i []) (e := t.2.1) (i := (ks.getD i 0).toNat)
      rw [wrap_i64 ((softF (rows.getD i []) t.2.1).getD (ks.getD i 0).toNat 0 - 127) (by omega) (by omega)]
      have hg : (softF (rows.getD i []) t.2.1).set (ks.getD i 0).toNat ((softF (rows.getD i []) t.2.1).getD (ks.getD i 0).toNat 0 - 127) = gradRow (rows.getD i []) t.2.1 (ks.getD i 0) := rfl
      rw [hg]
      have hgl := gradData_len (rows := rows) (e := t.2.1) (ks := ks) i (c := c) (by omega) (fun j hj => hrlen j (by omega))
      have hic := Nat.mul_le_mul_right c (show i ≤ n by omega)
      refine grad_row_v (by rw [gradRow_len (by omega)]; omega) (by rw [hgl]; omega) (fun j => by have := gradRow_rng (l := rows.getD i []) (e := t.2.1) (k := ks.getD i 0) (j := j) (by omega) (by omega); omega) ?_
      have hX' := hX trivial
      rw [flat_snoc] at hX'
      rw [wrap_i64 ((i : Int) + 1) (by omega) (by omega)]
      simpa using hX'
    · intro _ X
      unfold loss_Grad_n0_B
      dsimp only
      rw [if_neg (by simp)]; exact h

theorem awake_v {Q : Bool → Prop} (h : Q true) : pedagoguelaw19_awake Q := by
  refine ⟨?_⟩
  unfold pedagoguelaw19_awake_t
  refine grad_v (t := ([1, 2], (0, [0, 0]))) (by intro y hy; simp at hy; omega) ?_
  have e : gradF ([1, 2], (0, [0, 0])) [1] = (([1, 2], (-7, [63, -64])), 0) := by decide
  rw [e]
  exact ⟨⟨by decide, by decide⟩, ⟨by decide, by decide⟩, h⟩
end Go.Proofs.Ytpbegbmmhpencaa
