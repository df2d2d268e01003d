/- tensor.Text comes to the tensor's text; TensorTexts, plainly. No condition. -/
import Derived.Test.YtejbkafligpmbaaDoorT1
import Derived.Test.YtejbkafligpmbaaDoorNT
import Derived.Test.YtejbkafligpmbaaDoorVFlat
namespace Go.Proofs.YtejbkafligpmbaaDoor
open Go.Mach Go.RowKit
set_option maxRecDepth 100000
set_option linter.unusedVariables false
set_option linter.unusedSimpArgs false

theorem getD_at {l : List Int} {i : Nat} (h : i < l.length) : l.getD i 0 = l[i] := by
  rw [List.getD_eq_getElem?_getD, List.getElem?_eq_getElem h]; rfl
theorem strs_v0 {l : List Int} {K : List ByteArray → Prop} (hl : l.length ≤ 1000000) (h : K (l.map itoaS)) (hr : ∀ x ∈ l, -9223372036854775808 ≤ x ∧ x ≤ 9223372036854775807) : tensor_Text_n0 l (l.length : Int) K (0, []) := by
  refine ⟨?_⟩
  refine Loop.range (B := tensor_Text_n0_B l (l.length : Int) K) l.length (fun i => ((i : Int), (l.take i).map itoaS)) (fun _ => True) trivial ?_ ?_
  · intro i hi _ X hX
    unfold tensor_Text_n0_B
    dsimp only
    rw [if_pos (decide_eq_true (show (i : Int) < (l.length : Int) by omega))]
    refine ⟨by omega, ?_⟩
    rw [Int.toNat_natCast]
    have hm : l.getD i 0 ∈ l := by rw [getD_at hi]; exact List.getElem_mem _
    refine ⟨hr _ hm, ?_⟩
    refine ⟨by simp; omega, ?_⟩
    rw [wrap_i64 _ (by omega) (by omega)]
    have e : (l.take i).map itoaS ++ [itoaS (l.getD i 0)] = (l.take (i + 1)).map itoaS := by
      rw [List.take_add_one, getD_at hi, List.getElem?_eq_getElem hi, List.map_append]
      rfl
    rw [e]
    exact hX trivial
  · intro _ X
    unfold tensor_Text_n0_B
    dsimp only
    rw [if_neg (by simp), List.take_length]
    exact h
theorem strs_v1 {l : List Int} {K : List ByteArray → Prop} (hl : l.length ≤ 1000000) (h : K (l.map itoaS)) (hr : ∀ x ∈ l, -128 ≤ x ∧ x ≤ 127) : tensor_Text_n1 l (l.length : Int) K (0, []) := by
  refine ⟨?_⟩
  refine Loop.range (B := tensor_Text_n1_B l (l.length : Int) K) l.length (fun i => ((i : Int), (l.take i).map itoaS)) (fun _ => True) trivial ?_ ?_
  · intro i hi _ X hX
    unfold tensor_Text_n1_B
    dsimp only
    rw [if_pos (decide_eq_true (show (i : Int) < (l.length : Int) by omega))]
    refine ⟨by omega, ?_⟩
    rw [Int.toNat_natCast]
    have hm : l.getD i 0 ∈ l := by rw [getD_at hi]; exact List.getElem_mem _
    have hb := hr _ hm
    rw [wrap_i64 (l.getD i 0) (by omega) (by omega)]
    refine ⟨by omega, ?_⟩
    refine ⟨by simp; omega, ?_⟩
    rw [wrap_i64 _ (by omega) (by omega)]
    have e : (l.take i).map itoaS ++ [itoaS (l.getD i 0)] = (l.take (i + 1)).map itoaS := by
      rw [List.take_add_one, getD_at hi, List.getElem?_eq_getElem hi, List.map_append]
      rfl
    rw [e]
    exact hX trivial
  · intro _ X
    unfold tensor_Text_n1_B
    dsimp only
    rw [if_neg (by simp), List.take_length]
    exact h

theorem bsize (l : List UInt8) : (⟨l.toArray⟩ : ByteArray).size = l.length := by
  show l.toArray.size = _
  simp
theorem szGo_dims : ∀ (l : List Int) (acc : Int), 1 ≤ acc → acc ≤ 8192 → 0 < szGo acc l → ∀ x ∈ l, 1 ≤ x ∧ x ≤ 4096
  | [], _, _, _, _ => fun x hx => by simp at hx
  | d :: r, acc, h1, h2, h => by
    rw [szGo_step h1 h2] at h
    split at h
    · omega
    · rename_i hd
      simp only [Bool.or_eq_true, decide_eq_true_eq, not_or] at hd
      split at h
      · omega
      · rename_i hm
        intro x hx
        rcases List.mem_cons.1 hx with rfl | hx
        · omega
        · exact szGo_dims r (acc * d) (mul_pos' h1 (by omega)) (by omega) h x hx
theorem mayF_lens {a : List Int × Int × List Int} (h : mayF a = true) : a.1 ≠ [] ∧ a.2.2 ≠ [] ∧ a.1.length ≤ 4 ∧ a.2.2.length ≤ 8192 ∧ (∀ x ∈ a.1, 1 ≤ x ∧ x ≤ 4096) ∧ -64 ≤ a.2.1 ∧ a.2.1 ≤ 64 := by
  obtain ⟨h1, h2, h3, h4⟩ := mayF_inv h
  obtain ⟨k1, k2, k3, k4, k5⟩ := mayAccF_len h1
  refine ⟨k3, ?_, k4, k5, ?_, h2, h3⟩
  · intro e; rw [e] at k2; simp at k2; omega
  · unfold szF at k1
    split at k1
    · omega
    · exact szGo_dims _ _ (by omega) (by omega) k1
theorem text_v {a : List Int × Int × List Int} {Q : ByteArray → Prop} (h8 : ∀ x ∈ a.2.2, -128 ≤ x ∧ x ≤ 127) (h : Q (textF a)) : tensor_Text a Q := by
  refine ⟨?_⟩
  unfold tensor_Text_t
  refine mayT_v ?_
  show if (!mayF a) = true then _ else _
  unfold textF at h
  by_cases hm : mayF a = true
  rotate_left
  · rw [if_neg hm] at h
    rw [if_pos (by simp [hm])]
    exact h
  rw [if_pos hm] at h
  rw [if_neg (by simp [hm])]
  obtain ⟨m1, m2, m3, m4, m5, m6, m7⟩ := mayF_lens hm
  refine strs_v0 (by omega) ?_ (fun x hx => by have := m5 x hx; omega)
  refine strs_v1 (by omega) ?_ h8
  have b1 := numsL_len a.1 120 (fun x hx => by have := m5 x hx; omega)
  have b2 := numsL_len a.2.2 44 (fun x hx => by have := h8 x hx; omega)
  have b3 := itoa_len (n := a.2.1) (by omega) (by omega)
  refine ⟨⟨by simp; omega, by rw [joinS_nums, bsize]; omega⟩, ?_⟩
  rw [joinS_nums]
  refine ⟨by rw [bsize]; simp [ByteArray.size]; omega, ?_⟩
  refine ⟨⟨by omega, by omega⟩, ?_⟩
  refine ⟨by simp only [ByteArray.size_append, bsize, itoaS]; simp [ByteArray.size]; omega, ?_⟩
  refine ⟨by simp only [ByteArray.size_append, bsize, itoaS]; simp [ByteArray.size]; omega, ?_⟩
  refine ⟨⟨by simp; omega, by rw [joinS_nums, bsize]; omega⟩, ?_⟩
  rw [joinS_nums]
  refine ⟨by simp only [ByteArray.size_append, bsize, itoaS]; simp [ByteArray.size]; omega, ?_⟩
  refine cast (congrArg Q ?_) h
  apply ByteArray.ext
  simp only [ByteArray.data_append, itoaS, textL]
  simp

theorem sints_v2 {a b : List Int} {Q : Bool → Prop} (hl : a.length ≤ 1000000000000000) (h : Q (decide (a = b))) : pedagogueref1_SameInts a b Q := by
  refine ⟨?_⟩
  unfold pedagogueref1_SameInts_t
  by_cases e : a.length = b.length
  · rw [if_neg (by simp [e])]
    refine ⟨?_⟩
    refine Loop.range (B := pedagogueref1_SameInts_n0_B a b (a.length : Int) (fun _ => Q true) (fun _ => Q false)) a.length (fun i => (i : Int)) (fun i => ∀ j, j < i → a.getD j 0 = b.getD j 0) (fun j hj => absurd hj (by omega)) ?_ ?_
    · intro i hi hI X hX
      unfold pedagogueref1_SameInts_n0_B
      rw [if_pos (decide_eq_true (show (i : Int) < (a.length : Int) by omega))]
      refine ⟨by omega, by omega, ?_⟩
      simp only [Int.toNat_natCast]
      by_cases hd : a.getD i 0 = b.getD i 0
      · rw [if_neg (by simpa using hd), wrap_i64 _ (by omega) (by omega)]
        refine hX fun j hj => ?_
        by_cases hji : j = i
        · subst hji; exact hd
        · exact hI j (by omega)
      · rw [if_pos (by simpa using hd)]
        have : decide (a = b) = false := by
          simp only [decide_eq_false_iff_not]
          intro hab; exact hd (by rw [hab])
        rw [this] at h; exact h
    · intro hI X
      unfold pedagogueref1_SameInts_n0_B
      rw [if_neg (by simp)]
      have : decide (a = b) = true := by
        simp only [decide_eq_true_eq]
        refine List.ext_getElem e fun i h1 h2 => ?_
        have := hI i h1
        rw [List.getD_eq_getElem?_getD, List.getD_eq_getElem?_getD, List.getElem?_eq_getElem h1, List.getElem?_eq_getElem h2] at this
        exact this
      rw [this] at h; exact h
  · rw [if_pos (by simp; omega)]
    have : decide (a = b) = false := by
      simp only [decide_eq_false_iff_not]
      intro hab; exact e (by rw [hab])
    rw [this] at h; exact h
theorem sameT_v {a b : List Int × Int × List Int} {Q : Bool → Prop} (h1 : a.1.length ≤ 1000000000000000) (h2 : a.2.2.length ≤ 1000000000000000) (h : Q (decide (a = b))) : pedagogueref1_SameT a b Q := by
  refine ⟨?_⟩
  unfold pedagogueref1_SameT_t
  obtain ⟨a1, a2, a3⟩ := a
  obtain ⟨b1, b2, b3⟩ := b
  dsimp only at h1 h2 ⊢
  refine sints_v2 h1 ?_
  by_cases e1 : a1 = b1 ∧ a2 = b2 ∧ a3.length = b3.length
  rotate_left
  · have hf : decide ((a1, a2, a3) = (b1, b2, b3)) = false := by
      simp only [decide_eq_false_iff_not, Prod.mk.injEq]
      rintro ⟨rfl, rfl, rfl⟩; exact e1 ⟨rfl, rfl, rfl⟩
    rw [hf] at h
    rw [if_pos ?_]
    · exact h
    · simp only [Bool.or_eq_true, Bool.not_eq_true', decide_eq_false_iff_not, bne_iff_ne, ne_eq]
      by_cases h3 : a1 = b1
      · by_cases h4 : a2 = b2
        · exact .inr (fun hh => e1 ⟨h3, h4, by omega⟩)
        · exact .inl (.inr h4)
      · exact .inl (.inl h3)
  obtain ⟨rfl, rfl, e⟩ := e1
  rw [if_neg (by simp [e])]
  refine ⟨?_⟩
  refine Loop.range (B := pedagogueref1_SameT_n0_B (a3.length : Int) a3 b3 (fun _ => Q true) (fun _ => Q false)) a3.length (fun i => (i : Int)) (fun i => ∀ j, j < i → a3.getD j 0 = b3.getD j 0) (fun j hj => absurd hj (by omega)) ?_ ?_
  · intro i hi hI X hX
    unfold pedagogueref1_SameT_n0_B
    rw [if_pos (decide_eq_true (show (i : Int) < (a3.length : Int) by omega))]
    refine ⟨by omega, by omega, ?_⟩
    simp only [Int.toNat_natCast]
    by_cases hd : a3.getD i 0 = b3.getD i 0
    · rw [if_neg (by simpa using hd), wrap_i64 _ (by omega) (by omega)]
      refine hX fun j hj => ?_
      by_cases hji : j = i
      · subst hji; exact hd
      · exact hI j (by omega)
    · rw [if_pos (by simpa using hd)]
      have : decide ((a1, a2, a3) = (a1, a2, b3)) = false := by
        simp only [decide_eq_false_iff_not, Prod.mk.injEq]
        rintro ⟨_, _, hab⟩; exact hd (by rw [hab])
      rw [this] at h; exact h
  · intro hI X
    unfold pedagogueref1_SameT_n0_B
    rw [if_neg (by simp)]
    have : a3 = b3 := by
      refine List.ext_getElem e fun i h1 h2 => ?_
      have := hI i h1
      rw [List.getD_eq_getElem?_getD, List.getD_eq_getElem?_getD, List.getElem?_eq_getElem h1, List.getElem?_eq_getElem h2] at this
      exact this
    subst this
    rw [decide_eq_true rfl] at h; exact h

theorem texts_law {a b : List Int × Int × List Int} {Q : Bool → Prop} (ha : ∀ x ∈ a.2.2, -128 ≤ x ∧ x ≤ 127) (hb : ∀ x ∈ b.2.2, -128 ≤ x ∧ x ≤ 127) (h : Q true) : pedagoguelaw8_TensorTexts a b Q := by
  refine ⟨?_⟩
  unfold pedagoguelaw8_TensorTexts_t
  obtain ⟨a1, a2, a3⟩ := a
  obtain ⟨b1, b2, b3⟩ := b
  dsimp only
  refine mayT_v ?_
  generalize eA : mayF (a1, a2, a3) = A
  have other : tensor_May (a1, (a2, a3)) (fun (r5 : Bool) => jn (fun (v6 : Bool) => jn (fun (v9 : Bool) => Q v9) (fun J10 => if v6 = true then pedagoguelaw8_awake (fun (r11 : Bool) => J10 r11) else J10 false)) (fun J7 => if r5 = true then J7 true else tensor_Text (a1, (a2, a3)) (fun (r8 : ByteArray) => J7 (r8.toList == (⟨#[63]⟩ : ByteArray).toList)))) := by
    refine mayT_v ?_
    rw [eA]
    unfold jn
    cases A with
    | true =>
      dsimp only
      rw [if_pos rfl, if_pos rfl]
      exact awake_v h
    | false =>
      rw [if_neg (by simp)]
      refine text_v ha ?_
      have : textF (a1, a2, a3) = ⟨#[63]⟩ := by unfold textF; rw [if_neg (by rw [eA]; simp)]
      rw [this, bytes_eq, decide_eq_true rfl]
      dsimp only
      rw [if_pos rfl]
      exact awake_v h
  unfold jn at other ⊢
  dsimp only at other ⊢
  cases A with
  | false =>
    rw [if_pos (by rfl)]
    simp only [Bool.true_or, if_true]
    exact other
  | true =>
    rw [if_neg (by simp)]
    refine mayT_v ?_
    generalize eB : mayF (b1, b2, b3) = B
    cases B with
    | false =>
      simp only [Bool.not_false, Bool.true_or, if_true]
      exact other
    | true =>
      by_cases hl : 600 < a3.length ∨ 600 < b3.length
      · rw [if_pos (by simp; omega)]
        exact other
      rw [if_neg (by simp; omega)]
      obtain ⟨m1, m2, m3, m4, _⟩ := mayF_lens eA
      obtain ⟨n1, n2, _⟩ := mayF_lens eB
      refine text_v ha ?_
      refine text_v hb ?_
      dsimp only at m3 m4
      refine sameT_v (by dsimp only; omega) (by dsimp only; omega) ?_
      rw [bytes_eq]
      have e : decide (textF (a1, a2, a3) = textF (b1, b2, b3)) = decide ((a1, a2, a3) = (b1, b2, b3)) := by
        rw [decide_eq_decide]
        constructor
        · intro he
          refine textL_inj m1 n1 m2 n2 ?_
          unfold textF at he
          rw [if_pos eA, if_pos eB] at he
          have := congrArg (fun (s : ByteArray) => s.data.toList) he
          simpa using this
        · intro he; rw [he]
      rw [e, if_pos (by simp)]
      exact awake_v h

end Go.Proofs.YtejbkafligpmbaaDoor
