/- A net as a text (model.Text), and back. Laws; no condition. -/
import Derived.Test.YthphkjgkgdjmdaaDoorKP
import Derived.Lib.ItoaLen
namespace Go.Proofs.YthphkjgkgdjmdaaDoor
open Go.Mach
set_option maxRecDepth 100000
set_option linter.unusedVariables false
set_option linter.unusedSimpArgs false

theorem brk_app {c : UInt8} : ∀ {a : Bytes} (r : Bytes), c ∉ a → brk c (a ++ c :: r) = some (a, r)
  | [], r, h => by simp [brk]
  | x :: a, r, h => by
    have hx : x ≠ c := fun e => h (by rw [e]; simp)
    simp only [List.cons_append, brk]
    rw [if_neg hx, brk_app r (fun k => h (List.mem_cons_of_mem _ k))]
theorem brk_some {c : UInt8} : ∀ {l a r : Bytes}, brk c l = some (a, r) → l = a ++ c :: r ∧ c ∉ a
  | [], a, r, h => by cases h
  | x :: l, a, r, h => by
    unfold brk at h
    split at h
    · rename_i hx; cases h; rw [hx]; exact ⟨rfl, by simp⟩
    · rename_i hx
      split at h
      · rename_i h1
        cases h
        obtain ⟨e1, e2⟩ := brk_some h1
        exact ⟨by rw [e1]; rfl, fun k => by
          rcases List.mem_cons.1 k with k | k
          · exact hx k.symm
          · exact e2 k⟩
      · cases h

theorem B_app (a b : Bytes) : B a ++ B b = B (a ++ b) := by
  have h : ∀ x y : ByteArray, x.data = y.data → x = y := fun x y e => by cases x; cases y; cases e; rfl
  apply h
  rw [ByteArray.data_append]
  show a.toArray ++ b.toArray = (a ++ b).toArray
  simp
def I64 (n : Int) : Prop := -9223372036854775808 ≤ n ∧ n ≤ 9223372036854775807
def numsT (l : List Int) : Bytes := l.flatMap fun n => 32 :: Lib.itoa n
theorem numsT_len : ∀ (l : List Int), (∀ n ∈ l, I64 n) → (numsT l).length ≤ 22 * l.length
  | [], _ => by simp [numsT]
  | n :: l, h => by
    have ih := numsT_len l (fun x hx => h x (by simp [hx]))
    have hn := h n (by simp)
    have := Lib.itoa_length_le n hn.1 hn.2
    unfold numsT at ih ⊢
    simp only [List.flatMap_cons, List.length_append, List.length_cons]
    omega
theorem numbers_v {w : Bytes} {l : List Int} {Q : ByteArray → Prop} (hw : w.length ≤ 1000) (hl : l.length ≤ 100) (hn : ∀ n ∈ l, I64 n) (h : Q (B (w ++ numsT l))) : model_numbers (B w) l Q := by
  refine ⟨⟨?_⟩⟩
  have e0 : (B w, (0 : Int)) = (B (w ++ numsT (l.take 0)), ((0 : Nat) : Int)) := by simp [numsT]
  rw [e0]
  refine Loop.range (B := model_numbers_n0_B l (l.length : Int) (fun y2 => Q y2)) l.length (fun i => (B (w ++ numsT (l.take i)), (i : Int))) (fun i => True) trivial ?_ ?_
  · intro i hi _ X hX
    unfold model_numbers_n0_B
    rw [if_pos (decide_eq_true (show (i : Int) < (l.length : Int) by omega))]
    refine ⟨by simp only; omega, ?_⟩
    dsimp only
    rw [Int.toNat_natCast]
    have hm : l.getD i 0 ∈ l := by
      rw [List.getD_eq_getElem?_getD, List.getElem?_eq_getElem hi]
      exact List.getElem_mem hi
    have h1 := hn _ hm
    have h2 := Lib.itoa_length_le _ h1.1 h1.2
    have h3 := numsT_len (l.take i) (fun n hx => hn n (List.mem_of_mem_take hx))
    rw [List.length_take] at h3
    refine ⟨h1, ?_⟩
    have e : itoaS (l.getD i 0) = B (Lib.itoa (l.getD i 0)) := rfl
    have e32 : (⟨#[32]⟩ : ByteArray) = B [32] := rfl
    rw [e]
    dsimp only
    rw [e32, B_app, B_app]
    refine ⟨by rw [B_size, B_size]; simp only [List.length_cons, List.length_nil]; omega, ?_⟩
    refine ⟨by rw [B_size, B_size, List.length_append, List.length_append]; simp only [List.length_cons, List.length_nil]; omega, ?_⟩
    rw [wrap_i64 _ (by omega) (by omega)]
    have := hX trivial
    have e2 : numsT (l.take (i + 1)) = numsT (l.take i) ++ ([32] ++ Lib.itoa (l.getD i 0)) := by
      have eg : l.getD i 0 = l[i] := by rw [List.getD_eq_getElem?_getD, List.getElem?_eq_getElem hi]; rfl
      unfold numsT
      rw [eg, List.take_add_one, List.getElem?_eq_getElem hi, List.flatMap_append]
      simp only [Option.toList_some, List.flatMap_cons, List.flatMap_nil, List.append_nil]
      rfl
    rw [e2, ← List.append_assoc] at this
    exact this
  · intro _ X
    unfold model_numbers_n0_B
    rw [if_neg (by simp)]
    rw [List.take_length]
    exact h

/-- A layer's line, without its end. -/
def bodyT (x : Lay) : Bytes :=
  (if x.1 = 1 then wDense ++ numsT [x.2.1] else if x.1 = 2 then wConv ++ numsT [x.2.1, x.2.2.1, x.2.2.2.1, x.2.2.2.2.1] else if x.1 = 3 then wMax ++ numsT [x.2.2.1, x.2.2.2.1]
   else if x.1 = 4 then wAvg ++ numsT [x.2.2.1, x.2.2.2.1] else if x.1 = 5 then wRelu else if x.1 = 6 then wFlat else if x.1 = 7 then wAdd ++ numsT [x.2.2.2.2.2.1] else [])
  ++ (if x.2.2.2.2.2.2 = true then wFz else [])
def lineT (x : Lay) : Bytes := bodyT x ++ [10]
/-- Numbers of a layer that may be are small. -/
def Sm (n : Int) : Prop := 0 ≤ n ∧ n ≤ 9999
theorem Sm.i64 {n : Int} (h : Sm n) : I64 n := ⟨by have := h.1; omega, by have := h.2; omega⟩
def LaySm (x : Lay) : Prop := (1 ≤ x.1 ∧ x.1 ≤ 7) ∧ Sm x.2.1 ∧ Sm x.2.2.1 ∧ Sm x.2.2.2.1 ∧ Sm x.2.2.2.2.1 ∧ Sm x.2.2.2.2.2.1
theorem may_sm {x : Lay} {n : Nat} (hn : n ≤ 1000) (h : mayLF x n = true) : LaySm x := by
  obtain ⟨kd, ou, k, st, pd, fr, fz⟩ := x
  unfold mayLF winB inP at h
  unfold LaySm Sm
  dsimp only at h ⊢
  have hw : ∀ a : Int, 1 ≤ a → a ≤ 5 → IntKind.i64.wrap (a - 1) = a - 1 := fun a h1 h2 => wrap_i64 _ (by omega) (by omega)
  have hw2 : IntKind.i64.wrap ((n : Int) - 1) = (n : Int) - 1 := wrap_i64 _ (by omega) (by omega)
  by_cases h1 : kd = 1
  · rw [if_pos h1] at h
    simp only [Bool.and_eq_true, decide_eq_true_eq, beq_iff_eq] at h
    omega
  rw [if_neg h1] at h
  by_cases h2 : kd = 2
  · rw [if_pos h2] at h
    simp only [Bool.and_eq_true, decide_eq_true_eq, beq_iff_eq] at h
    have := hw k (by omega) (by omega)
    rw [this] at h
    omega
  rw [if_neg h2] at h
  by_cases h3 : kd = 3 ∨ kd = 4
  · rw [if_pos h3] at h
    simp only [Bool.and_eq_true, decide_eq_true_eq, beq_iff_eq] at h
    omega
  rw [if_neg h3] at h
  by_cases h5 : kd = 5 ∨ kd = 6
  · rw [if_pos h5] at h
    simp only [Bool.and_eq_true, decide_eq_true_eq, beq_iff_eq] at h
    omega
  rw [if_neg h5] at h
  by_cases h7 : kd = 7
  · rw [if_pos h7, hw2] at h
    simp only [Bool.and_eq_true, decide_eq_true_eq, beq_iff_eq] at h
    omega
  rw [if_neg h7] at h
  cases h
theorem numsT_sm {l : List Int} (h : ∀ n ∈ l, Sm n) : (numsT l).length ≤ 22 * l.length := numsT_len l (fun n hn => (h n hn).i64)
theorem body_len {x : Lay} (h : LaySm x) : (bodyT x).length ≤ 110 := by
  obtain ⟨_, h1, h2, h3, h4, h5⟩ := h
  have e1 := numsT_sm (l := [x.2.1]) (by simpa using h1)
  have e2 := numsT_sm (l := [x.2.1, x.2.2.1, x.2.2.2.1, x.2.2.2.2.1]) (by simp; exact ⟨h1, h2, h3, h4⟩)
  have e3 := numsT_sm (l := [x.2.2.1, x.2.2.2.1]) (by simp; exact ⟨h2, h3⟩)
  have e4 := numsT_sm (l := [x.2.2.2.2.2.1]) (by simpa using h5)
  simp only [List.length_cons, List.length_nil] at e1 e2 e3 e4
  have l1 : wDense.length = 5 := rfl
  have l2 : wConv.length = 4 := rfl
  have l3 : wMax.length = 3 := rfl
  have l4 : wAvg.length = 3 := rfl
  have l5 : wRelu.length = 4 := rfl
  have l6 : wFlat.length = 4 := rfl
  have l7 : wAdd.length = 3 := rfl
  have l8 : wFz.length = 7 := rfl
  unfold bodyT
  rw [List.length_append]
  have hA : ∀ b : Bool, (if b = true then wFz else []).length ≤ 7 := fun b => by cases b <;> simp [l8]
  have := hA x.2.2.2.2.2.2
  split
  · rw [List.length_append]; omega
  split
  · rw [List.length_append]; omega
  split
  · rw [List.length_append]; omega
  split
  · rw [List.length_append]; omega
  split
  · omega
  split
  · omega
  split
  · rw [List.length_append]; omega
  · simp; omega

theorem end_v {b : Bytes} {fz : Bool} {K : ByteArray → Prop} (hb : b.length ≤ 1000) (h : K (B ((b ++ (if fz = true then wFz else [])) ++ [10]))) : model_text_n0 (B b) fz K := by
  have e10 : (⟨#[10]⟩ : ByteArray) = B [10] := rfl
  have ef : sc_0481102b = B wFz := rfl
  have l8 : wFz.length = 7 := rfl
  refine ⟨?_⟩
  cases fz with
  | true =>
    rw [if_pos rfl] at h ⊢
    rw [ef, B_app]
    refine ⟨by rw [B_size, B_size]; omega, ⟨?_⟩⟩
    rw [e10, B_app]
    refine ⟨by rw [B_size, B_size, List.length_append]; simp only [List.length_cons, List.length_nil]; omega, h⟩
  | false =>
    rw [if_neg (by simp)] at h ⊢
    rw [List.append_nil] at h
    refine ⟨?_⟩
    rw [e10, B_app]
    exact ⟨by rw [B_size, B_size]; simp only [List.length_cons, List.length_nil]; omega, h⟩
theorem text_v {x : Lay} {Q : ByteArray → Prop} (hx : LaySm x) (h : Q (B (lineT x))) : model_text x Q := by
  obtain ⟨hk, h1, h2, h3, h4, h5⟩ := hx
  have s1 : ∀ n ∈ [x.2.1], I64 n := by simpa using h1.i64
  have s2 : ∀ n ∈ [x.2.1, x.2.2.1, x.2.2.2.1, x.2.2.2.2.1], I64 n := by simp; exact ⟨h1.i64, h2.i64, h3.i64, h4.i64⟩
  have s3 : ∀ n ∈ [x.2.2.1, x.2.2.2.1], I64 n := by simp; exact ⟨h2.i64, h3.i64⟩
  have s4 : ∀ n ∈ [x.2.2.2.2.2.1], I64 n := by simpa using h5.i64
  have e1 := numsT_len _ s1
  have e2 := numsT_len _ s2
  have e3 := numsT_len _ s3
  have e4 := numsT_len _ s4
  simp only [List.length_cons, List.length_nil] at e1 e2 e3 e4
  unfold lineT bodyT at h
  refine ⟨?_⟩
  rw [show sc_d6a98598 = B wDense from rfl, show (⟨#[99, 111, 110, 118]⟩ : ByteArray) = B wConv from rfl, show (⟨#[109, 97, 120]⟩ : ByteArray) = B wMax from rfl, show (⟨#[97, 118, 103]⟩ : ByteArray) = B wAvg from rfl,
      show (⟨#[114, 101, 108, 117]⟩ : ByteArray) = B wRelu from rfl, show (⟨#[102, 108, 97, 116]⟩ : ByteArray) = B wFlat from rfl, show (⟨#[97, 100, 100]⟩ : ByteArray) = B wAdd from rfl]
  by_cases k1 : x.1 = 1
  · rw [if_pos k1] at h
    rw [if_pos (by simp [k1])]
    exact numbers_v (by decide) (by simp) s1 (end_v (by rw [List.length_append]; have : wDense.length = 5 := rfl; omega) h)
  rw [if_neg k1] at h
  rw [if_neg (by simp [k1])]
  by_cases k2 : x.1 = 2
  · rw [if_pos k2] at h
    rw [if_pos (by simp [k2])]
    exact numbers_v (by decide) (by simp) s2 (end_v (by rw [List.length_append]; have : wConv.length = 4 := rfl; omega) h)
  rw [if_neg k2] at h
  rw [if_neg (by simp [k2])]
  by_cases k3 : x.1 = 3
  · rw [if_pos k3] at h
    rw [if_pos (by simp [k3])]
    exact numbers_v (by decide) (by simp) s3 (end_v (by rw [List.length_append]; have : wMax.length = 3 := rfl; omega) h)
  rw [if_neg k3] at h
  rw [if_neg (by simp [k3])]
  by_cases k4 : x.1 = 4
  · rw [if_pos k4] at h
    rw [if_pos (by simp [k4])]
    exact numbers_v (by decide) (by simp) s3 (end_v (by rw [List.length_append]; have : wAvg.length = 3 := rfl; omega) h)
  rw [if_neg k4] at h
  rw [if_neg (by simp [k4])]
  by_cases k5 : x.1 = 5
  · rw [if_pos k5] at h
    rw [if_pos (by simp [k5])]
    exact end_v (by decide) h
  rw [if_neg k5] at h
  rw [if_neg (by simp [k5])]
  by_cases k6 : x.1 = 6
  · rw [if_pos k6] at h
    rw [if_pos (by simp [k6])]
    exact end_v (by decide) h
  rw [if_neg k6] at h
  rw [if_neg (by simp [k6])]
  have k7 : x.1 = 7 := by omega
  rw [if_pos k7] at h
  rw [if_pos (by simp [k7])]
  exact numbers_v (by decide) (by simp) s4 (end_v (by rw [List.length_append]; have : wAdd.length = 3 := rfl; omega) h)

def headT (i : Int × Int × Int) : Bytes := (wIn ++ numsT [i.1, i.2.1, i.2.2]) ++ [10]
def fullT (m : Mdl) : Bytes := headT m.1 ++ m.2.flatMap lineT
def textF (m : Mdl) : Bytes × Int := if mayMF m = true then (fullT m, 0) else ([], 1)
theorem ent_sm {i : Int × Int × Int} (h : entersB i = true) : Sm i.1 ∧ Sm i.2.1 ∧ Sm i.2.2 := by
  unfold entersB inP at h
  simp only [Bool.and_eq_true, decide_eq_true_eq] at h
  unfold Sm
  omega
theorem flat_len : ∀ {l : List Lay}, (∀ x ∈ l, LaySm x) → (l.flatMap lineT).length ≤ 111 * l.length
  | [], _ => by simp
  | x :: l, h => by
    have ih := flat_len (l := l) (fun y hy => h y (by simp [hy]))
    have := body_len (h x (by simp))
    simp only [List.flatMap_cons, List.length_append, lineT, List.length_cons, List.length_nil] at ih ⊢
    omega
theorem lay_all {m : Mdl} (h : mayMF m = true) : entersB m.1 = true ∧ (1 ≤ m.2.length ∧ m.2.length ≤ 12) ∧ (∀ i, i < m.2.length → mayLF (m.2.getD i Lay0) i = true) ∧ ∀ x ∈ m.2, LaySm x := by
  obtain ⟨h1, h2, h3⟩ := mayMF_inv h
  refine ⟨?_, h2, h3, fun x hx => ?_⟩
  · unfold mayMF at h
    simp only [Bool.and_eq_true] at h
    exact h.1.1
  · obtain ⟨i, hi, e⟩ := List.getElem_of_mem hx
    have := h3 i hi
    rw [List.getD_eq_getElem?_getD, List.getElem?_eq_getElem hi] at this
    simp only [Option.getD_some] at this
    rw [e] at this
    exact may_sm (by omega) this
theorem textM_v {m : Mdl} {Q : ByteArray × Int → Prop} (hl : m.2.length ≤ 10000000000000) (h : Q (B (textF m).1, (textF m).2)) : model_Text m Q := by
  refine ⟨mayM_v hl ?_⟩
  unfold textF at h
  cases hm : mayMF m with
  | false =>
    rw [hm] at h
    rw [if_pos (by rfl)]
    exact h
  | true =>
    rw [hm, if_pos rfl] at h
    rw [if_neg (by simp)]
    obtain ⟨he, hlen, _, hsm⟩ := lay_all hm
    obtain ⟨s1, s2, s3⟩ := ent_sm he
    have hs : ∀ n ∈ [m.1.1, m.1.2.1, m.1.2.2], I64 n := by simp; exact ⟨s1.i64, s2.i64, s3.i64⟩
    have hnl := numsT_len _ hs
    simp only [List.length_cons, List.length_nil] at hnl
    have l1 : wIn.length = 2 := rfl
    rw [show (⟨#[105, 110]⟩ : ByteArray) = B wIn from rfl]
    refine numbers_v (by decide) (by simp) hs ?_
    rw [show (⟨#[10]⟩ : ByteArray) = B [10] from rfl, B_app]
    refine ⟨by rw [B_size, B_size, List.length_append]; simp only [List.length_cons, List.length_nil]; omega, ⟨?_⟩⟩
    have e0 : (B ((wIn ++ numsT [m.1.1, m.1.2.1, m.1.2.2]) ++ [10]), (0 : Int)) = (B (headT m.1 ++ (m.2.take 0).flatMap lineT), ((0 : Nat) : Int)) := by simp [headT]
    rw [e0]
    refine Loop.range (B := model_Text_n0_B m.2 (m.2.length : Int) (fun y4 => Q (y4, 0))) m.2.length (fun i => (B (headT m.1 ++ (m.2.take i).flatMap lineT), (i : Int))) (fun i => True) trivial ?_ ?_
    · intro i hi _ X hX
      unfold model_Text_n0_B
      rw [if_pos (decide_eq_true (show (i : Int) < (m.2.length : Int) by omega))]
      refine ⟨by simp only; omega, ?_⟩
      dsimp only
      rw [Int.toNat_natCast]
      have hx : m.2.getD i Lay0 ∈ m.2 := by
        rw [List.getD_eq_getElem?_getD, List.getElem?_eq_getElem hi]
        exact List.getElem_mem hi
      have hb := body_len (hsm _ hx)
      have hf := flat_len (l := m.2.take i) (fun y hy => hsm y (List.mem_of_mem_take hy))
      rw [List.length_take] at hf
      refine text_v (hsm _ hx) ?_
      rw [B_app]
      have hL1 : (lineT (m.2.getD i Lay0)).length ≤ 111 := by
        unfold lineT
        rw [List.length_append]
        simp only [List.length_cons, List.length_nil]
        omega
      have hH : (headT m.1).length ≤ 69 := by
        unfold headT
        rw [List.length_append, List.length_append]
        simp only [List.length_cons, List.length_nil]
        omega
      refine ⟨by
        rw [B_size, B_size, List.length_append]
        show _ + (lineT (m.2.getD i Lay0)).length ≤ _
        omega, ?_⟩
      rw [wrap_i64 _ (by omega) (by omega)]
      have := hX trivial
      have e2 : (m.2.take (i + 1)).flatMap lineT = (m.2.take i).flatMap lineT ++ lineT (m.2.getD i Lay0) := by
        have eg : m.2.getD i Lay0 = m.2[i] := by rw [List.getD_eq_getElem?_getD, List.getElem?_eq_getElem hi]; rfl
        rw [eg, List.take_add_one, List.getElem?_eq_getElem hi, List.flatMap_append]
        simp only [Option.toList_some, List.flatMap_cons, List.flatMap_nil, List.append_nil]
      rw [e2, ← List.append_assoc] at this
      exact this
    · intro _ X
      unfold model_Text_n0_B
      rw [if_neg (by simp)]
      rw [List.take_length]
      exact h

end Go.Proofs.YthphkjgkgdjmdaaDoor
