/- The reference's text of a tensor is the tensor's text; TensorForms, plainly. No condition. -/
import Derived.Test.YtejbkafligpmbaaDoorT2
import Derived.Test.YtejbkafligpmbaaDoorO5T
import Derived.Test.YtejbkafligpmbaaDoorNR
import Derived.Test.YtejbkafligpmbaaDoorVFlat
namespace Go.Proofs.YtejbkafligpmbaaDoor
open Go.Mach Go.RowKit
set_option maxRecDepth 100000
set_option linter.unusedVariables false
set_option linter.unusedSimpArgs false

/-! ### Bytes -/
def bs (l : List UInt8) : ByteArray := ⟨l.toArray⟩
theorem bs_app (a b : List UInt8) : bs a ++ bs b = bs (a ++ b) := by
  apply ByteArray.ext
  simp only [ByteArray.data_append, bs]
  simp
theorem bs_size (l : List UInt8) : (bs l).size = l.length := by
  show l.toArray.size = _
  simp
theorem join_snoc (s : UInt8) (y : List UInt8) : ∀ (xs : List (List UInt8)), xs ≠ [] → Lib.join (xs ++ [y]) [s] = Lib.join xs [s] ++ s :: y
  | [], h => absurd rfl h
  | [x], _ => by rw [List.singleton_append, join_cc, Lib.join_one, Lib.join_one]; simp
  | x :: x2 :: l, _ => by
    rw [List.cons_append, List.cons_append, join_cc, join_cc]
    have := join_snoc s y (x2 :: l) (by simp)
    rw [List.cons_append] at this
    rw [this]
    simp
theorem numsL_zero (l : List Int) (s : UInt8) (h : 0 < l.length) : numsL (l.take 1) s = Lib.itoa (l.getD 0 0) := by
  cases l with
  | nil => simp at h
  | cons x l => simp [numsL, Lib.join_one]
theorem numsL_succ (l : List Int) (s : UInt8) (i : Nat) (h : i < l.length) (h0 : 0 < i) : numsL (l.take (i + 1)) s = numsL (l.take i) s ++ s :: Lib.itoa (l.getD i 0) := by
  unfold numsL
  rw [List.take_add_one, List.getElem?_eq_getElem h, Option.toList_some, List.map_append, List.map_singleton, getD_at h]
  refine join_snoc s _ _ ?_
  intro e
  have := congrArg List.length e
  rw [List.length_map, List.length_take, List.length_nil] at this
  omega
theorem numsL_take (l : List Int) (s : UInt8) (i : Nat) (hl : l.length ≤ 10000) (h : ∀ x ∈ l, -9223372036854775808 ≤ x ∧ x ≤ 9223372036854775807) : (numsL (l.take i) s).length ≤ 220000 := by
  have := numsL_len (l.take i) s (fun x hx => h x (List.mem_of_mem_take hx))
  have h2 : (l.take i).length ≤ l.length := by rw [List.length_take]; omega
  omega

theorem dims_text {l : List Int} {K : ByteArray → Prop} (hl : l.length ≤ 10000) (hr : ∀ x ∈ l, -9223372036854775808 ≤ x ∧ x ≤ 9223372036854775807) (h : K (bs (numsL l 120))) : pedagogueref1_TensorText_n0 l (l.length : Int) K (bs [], 0) := by
  refine ⟨?_⟩
  refine Loop.range (B := pedagogueref1_TensorText_n0_B l (l.length : Int) K) l.length (fun i => (bs (numsL (l.take i) 120), (i : Int))) (fun _ => True) trivial ?_ ?_
  · intro i hi _ X hX
    unfold pedagogueref1_TensorText_n0_B
    dsimp only
    rw [if_pos (decide_eq_true (show (i : Int) < (l.length : Int) by omega))]
    refine ⟨by omega, ?_⟩
    rw [Int.toNat_natCast]
    have hm : l.getD i 0 ∈ l := by rw [getD_at hi]; exact List.getElem_mem _
    have hb := hr _ hm
    have h3 := itoa_len hb.1 hb.2
    have h4 := numsL_take l 120 i hl hr
    by_cases h0 : 0 < i
    · rw [if_pos (by simp; omega)]
      refine ⟨by rw [bs_size]; simp [ByteArray.size]; omega, ?_⟩
      refine ⟨?_⟩
      refine ⟨hb, ?_⟩
      show (bs (numsL (l.take i) 120) ++ bs [120]).size + (bs (Lib.itoa (l.getD i 0))).size ≤ _ ∧ X (bs (numsL (l.take i) 120) ++ bs [120] ++ bs (Lib.itoa (l.getD i 0)), _)
      rw [bs_app, bs_app, bs_size, bs_size]
      refine ⟨by simp only [List.length_append, List.length_cons, List.length_nil]; omega, ?_⟩
      rw [wrap_i64 _ (by omega) (by omega)]
      have e := numsL_succ l 120 i hi h0
      have := hX trivial
      rw [e] at this
      simpa using this
    · have hi0 : i = 0 := by omega
      subst hi0
      rw [if_neg (by simp)]
      refine ⟨?_⟩
      refine ⟨hb, ?_⟩
      show (bs (numsL (l.take 0) 120)).size + (bs (Lib.itoa (l.getD 0 0))).size ≤ _ ∧ X (bs (numsL (l.take 0) 120) ++ bs (Lib.itoa (l.getD 0 0)), _)
      rw [bs_app, bs_size, bs_size]
      refine ⟨by omega, ?_⟩
      rw [wrap_i64 _ (by omega) (by omega)]
      have := hX trivial
      rw [numsL_zero l 120 (by omega)] at this
      simpa [numsL, Lib.join_nil] using this
  · intro _ X
    unfold pedagogueref1_TensorText_n0_B
    dsimp only
    rw [if_neg (by simp), List.take_length]
    exact h
theorem data_text {l : List Int} {p : List UInt8} {K : ByteArray → Prop} (hl : l.length ≤ 10000) (hp : p.length ≤ 1000000) (hr : ∀ x ∈ l, -128 ≤ x ∧ x ≤ 127) (h : K (bs (p ++ numsL l 44))) : pedagogueref1_TensorText_n1 l (l.length : Int) K (bs p, 0) := by
  have hR : ∀ x ∈ l, -9223372036854775808 ≤ x ∧ x ≤ 9223372036854775807 := fun x hx => by have := hr x hx; omega
  refine ⟨?_⟩
  have key := Loop.range (B := pedagogueref1_TensorText_n1_B l (l.length : Int) K) l.length (fun i => (bs (p ++ numsL (l.take i) 44), (i : Int))) (fun _ => True) trivial ?_ ?_
  · simpa [numsL, Lib.join_nil] using key
  · intro i hi _ X hX
    unfold pedagogueref1_TensorText_n1_B
    dsimp only
    rw [if_pos (decide_eq_true (show (i : Int) < (l.length : Int) by omega))]
    refine ⟨by omega, ?_⟩
    rw [Int.toNat_natCast]
    have hm : l.getD i 0 ∈ l := by rw [getD_at hi]; exact List.getElem_mem _
    have hb := hR _ hm
    have h8 := hr _ hm
    have h3 := itoa_len hb.1 hb.2
    have h4 := numsL_take l 44 i hl hR
    by_cases h0 : 0 < i
    · rw [if_pos (by simp; omega)]
      refine ⟨by rw [bs_size]; simp [ByteArray.size]; omega, ?_⟩
      refine ⟨?_⟩
      unfold pedagogueref1_TensorText_n3_t
      rw [wrap_i64 (l.getD i 0) (by omega) (by omega)]
      refine ⟨hb, ?_⟩
      show (bs (p ++ numsL (l.take i) 44) ++ bs [44]).size + (bs (Lib.itoa (l.getD i 0))).size ≤ _ ∧ X (bs (p ++ numsL (l.take i) 44) ++ bs [44] ++ bs (Lib.itoa (l.getD i 0)), _)
      rw [bs_app, bs_app, bs_size, bs_size]
      refine ⟨by simp only [List.length_append, List.length_cons, List.length_nil]; omega, ?_⟩
      rw [wrap_i64 _ (by omega) (by omega)]
      have e := numsL_succ l 44 i hi h0
      have := hX trivial
      rw [e] at this
      simpa using this
    · have hi0 : i = 0 := by omega
      subst hi0
      rw [if_neg (by simp)]
      refine ⟨?_⟩
      unfold pedagogueref1_TensorText_n3_t
      rw [wrap_i64 (l.getD 0 0) (by omega) (by omega)]
      refine ⟨hb, ?_⟩
      show (bs (p ++ numsL (l.take 0) 44)).size + (bs (Lib.itoa (l.getD 0 0))).size ≤ _ ∧ X (bs (p ++ numsL (l.take 0) 44) ++ bs (Lib.itoa (l.getD 0 0)), _)
      rw [bs_app, bs_size, bs_size]
      refine ⟨by simp only [List.length_append, List.length_cons, List.length_nil]; omega, ?_⟩
      rw [wrap_i64 _ (by omega) (by omega)]
      have := hX trivial
      rw [numsL_zero l 44 (by omega)] at this
      simpa [numsL, Lib.join_nil] using this
  · intro _ X
    unfold pedagogueref1_TensorText_n1_B
    dsimp only
    rw [if_neg (by simp), List.take_length]
    exact h
theorem rtext_v {a : List Int × Int × List Int} {Q : ByteArray → Prop} (h8 : ∀ x ∈ a.2.2, -128 ≤ x ∧ x ≤ 127) (h : Q (textF a)) : pedagogueref1_TensorText a Q := by
  refine ⟨?_⟩
  unfold pedagogueref1_TensorText_t
  refine rmayT_v ?_
  show if (!mayF a) = true then _ else _
  unfold textF at h
  by_cases hm : mayF a = true
  rotate_left
  · rw [if_neg hm] at h
    rw [if_pos (by simp [hm])]
    exact h
  rw [if_pos hm] at h
  rw [if_neg (by simp [hm])]
  obtain ⟨m1, m2, m3, m4, m5, m6, m7⟩ := mayF_lens hm
  have r1 : ∀ x ∈ a.1, -9223372036854775808 ≤ x ∧ x ≤ 9223372036854775807 := fun x hx => by have := m5 x hx; omega
  refine dims_text (by omega) r1 ?_
  have b1 := numsL_len a.1 120 r1
  have b3 := itoa_len (n := a.2.1) (by omega) (by omega)
  refine ⟨⟨by omega, by omega⟩, ?_⟩
  show (bs [64]).size + (bs (Lib.itoa a.2.1)).size ≤ _ ∧ (bs [64] ++ bs (Lib.itoa a.2.1)).size + (bs [58]).size ≤ _ ∧ (bs (numsL a.1 120)).size + (bs [64] ++ bs (Lib.itoa a.2.1) ++ bs [58]).size ≤ _ ∧ pedagogueref1_TensorText_n1 a.2.2 (a.2.2.length : Int) (fun y8 => Q y8) (bs (numsL a.1 120) ++ (bs [64] ++ bs (Lib.itoa a.2.1) ++ bs [58]), 0)
  rw [bs_app, bs_app, bs_app]
  simp only [bs_size]
  refine ⟨by simp; omega, by simp; omega, by simp; omega, ?_⟩
  refine data_text (by omega) (by simp; omega) h8 ?_
  refine cast (congrArg Q ?_) h
  unfold textL bs
  simp

theorem equal32_v {a b : List Int} {Q : Bool → Prop} (hl : a.length ≤ 1000000000000000) (h : Q (decide (a = b))) : slices_Equal_int32_int32 a b Q := by
  refine ⟨?_⟩
  unfold slices_Equal_int32_int32_t
  by_cases e : a.length = b.length
  · rw [if_neg (by simp [e])]
    refine ⟨?_⟩
    refine Loop.range (B := slices_Equal_int32_int32_n0_B a b (a.length : Int) (fun _ => Q true) (fun _ => Q false)) a.length (fun i => (i : Int)) (fun i => ∀ j, j < i → a.getD j 0 = b.getD j 0) (fun j hj => absurd hj (by omega)) ?_ ?_
    · intro i hi hI X hX
      unfold slices_Equal_int32_int32_n0_B
      rw [if_pos (decide_eq_true (show (i : Int) < (a.length : Int) by omega))]
      refine ⟨by omega, by omega, ?_⟩
      simp only [Int.toNat_natCast]
      by_cases hd : a.getD i 0 = b.getD i 0
      · rw [if_neg (by simpa using hd), wrap_i64 _ (by omega) (by omega)]
        refine hX fun j hj => ?_
        by_cases hji : j = i
        · subst hji; exact hd
        · exact hI j (by omega)
      · rw [if_pos (by simpa using hd)]
        have : decide (a = b) = false := by
          simp only [decide_eq_false_iff_not]
          intro hab; exact hd (by rw [hab])
        rw [this] at h; exact h
    · intro hI X
      unfold slices_Equal_int32_int32_n0_B
      rw [if_neg (by simp)]
      have : decide (a = b) = true := by
        simp only [decide_eq_true_eq]
        refine List.ext_getElem e fun i h1 h2 => ?_
        have := hI i h1
        rw [List.getD_eq_getElem?_getD, List.getD_eq_getElem?_getD, List.getElem?_eq_getElem h1, List.getElem?_eq_getElem h2] at this
        exact this
      rw [this] at h; exact h
  · rw [if_pos (by simp; omega)]
    have : decide (a = b) = false := by
      simp only [decide_eq_false_iff_not]
      intro hab; exact e (by rw [hab])
    rw [this] at h; exact h
theorem sameAcc_v {a b : List Int × Int × List Int} {Q : Bool → Prop} (h1 : a.1.length ≤ 1000000000000000) (h2 : a.2.2.length ≤ 1000000000000000) (h : Q (decide (a = b))) : pedagogueref1_SameAcc a b Q := by
  refine ⟨?_⟩
  unfold pedagogueref1_SameAcc_t
  obtain ⟨a1, a2, a3⟩ := a
  obtain ⟨b1, b2, b3⟩ := b
  dsimp only at h1 h2 ⊢
  refine sints_v2 h1 ?_
  by_cases e1 : a1 = b1 ∧ a2 = b2 ∧ a3.length = b3.length
  rotate_left
  · have hf : decide ((a1, a2, a3) = (b1, b2, b3)) = false := by
      simp only [decide_eq_false_iff_not, Prod.mk.injEq]
      rintro ⟨rfl, rfl, rfl⟩; exact e1 ⟨rfl, rfl, rfl⟩
    rw [hf] at h
    rw [if_pos ?_]
    · exact h
    · simp only [Bool.or_eq_true, Bool.not_eq_true', decide_eq_false_iff_not, bne_iff_ne, ne_eq]
      by_cases h3 : a1 = b1
      · by_cases h4 : a2 = b2
        · exact .inr (fun hh => e1 ⟨h3, h4, by omega⟩)
        · exact .inl (.inr h4)
      · exact .inl (.inl h3)
  obtain ⟨rfl, rfl, e⟩ := e1
  rw [if_neg (by simp [e])]
  refine ⟨?_⟩
  refine Loop.range (B := pedagogueref1_SameAcc_n0_B (a3.length : Int) a3 b3 (fun _ => Q true) (fun _ => Q false)) a3.length (fun i => (i : Int)) (fun i => ∀ j, j < i → a3.getD j 0 = b3.getD j 0) (fun j hj => absurd hj (by omega)) ?_ ?_
  · intro i hi hI X hX
    unfold pedagogueref1_SameAcc_n0_B
    rw [if_pos (decide_eq_true (show (i : Int) < (a3.length : Int) by omega))]
    refine ⟨by omega, by omega, ?_⟩
    simp only [Int.toNat_natCast]
    by_cases hd : a3.getD i 0 = b3.getD i 0
    · rw [if_neg (by simpa using hd), wrap_i64 _ (by omega) (by omega)]
      refine hX fun j hj => ?_
      by_cases hji : j = i
      · subst hji; exact hd
      · exact hI j (by omega)
    · rw [if_pos (by simpa using hd)]
      have : decide ((a1, a2, a3) = (a1, a2, b3)) = false := by
        simp only [decide_eq_false_iff_not, Prod.mk.injEq]
        rintro ⟨_, _, hab⟩; exact hd (by rw [hab])
      rw [this] at h; exact h
  · intro hI X
    unfold pedagogueref1_SameAcc_n0_B
    rw [if_neg (by simp)]
    have : a3 = b3 := by
      refine List.ext_getElem e fun i h1 h2 => ?_
      have := hI i h1
      rw [List.getD_eq_getElem?_getD, List.getD_eq_getElem?_getD, List.getElem?_eq_getElem h1, List.getElem?_eq_getElem h2] at this
      exact this
    subst this
    rw [decide_eq_true rfl] at h; exact h


noncomputable def zeroF (d : List Int) (e : Int) : (List Int × Int × List Int) × Int := if mayF (d, e, List.replicate (szF d).toNat 0) = true then ((d, e, List.replicate (szF d).toNat 0), 0) else (([], 0, []), 1)
theorem zero_v {d : List Int} {e : Int} {Q : (List Int × Int × List Int) × Int → Prop} (hd : d.length ≤ 17592186044416) (h : Q (zeroF d e)) : tensor_Zero d e Q := by
  unfold tensor_Zero
  refine clone_v hd (size_v ?_)
  have h1 := szF_le d
  have h2 := szF_nonneg d
  refine ⟨⟨by omega, by omega⟩, mayT_v ?_⟩
  unfold zeroF at h
  cases hm : mayF (d, e, List.replicate (szF d).toNat 0) with
  | true =>
    rw [if_pos hm] at h
    rw [if_neg (by simp)]
    exact h
  | false =>
    rw [if_neg (by rw [hm]; simp)] at h
    rw [if_pos (by simp)]
    exact h

theorem sameG_v {a b : List Int × Int × List Int} {Q : Bool → Prop} (h1 : a.1.length ≤ 1000000000000000) (h2 : a.2.2.length ≤ 1000000000000000) (h : Q (decide (a = b))) : tensor_SameAcc a b Q := by
  obtain ⟨a1, a2, a3⟩ := a
  obtain ⟨b1, b2, b3⟩ := b
  dsimp only at h1 h2
  refine ⟨?_⟩
  unfold tensor_SameAcc_t shape_Same
  refine equal64_v h1 ?_
  unfold jn
  dsimp only
  by_cases e1 : a1 = b1 ∧ a2 = b2
  · obtain ⟨rfl, rfl⟩ := e1
    rw [if_pos (by simp)]
    refine equal32_v h2 ?_
    refine cast (congrArg Q ?_) h
    simp
  · rw [if_neg (by simpa using e1)]
    refine cast (congrArg Q ?_) h
    simp only [Prod.mk.injEq]
    rw [decide_eq_false_iff_not]
    rintro ⟨e2, e3, _⟩
    exact e1 ⟨e2, e3⟩

theorem smallF_lens (a : List Int × Int × List Int) (b s t : Int) : (smallF a b s t).1.1.length ≤ a.1.length ∧ (smallF a b s t).1.2.2.length ≤ a.2.2.length := by
  unfold smallF
  split
  · exact ⟨Nat.zero_le _, Nat.zero_le _⟩
  · split
    · exact ⟨Nat.zero_le _, Nat.zero_le _⟩
    · refine ⟨Nat.le_refl _, ?_⟩
      unfold dataF
      simp

theorem forms_law {t u a b : List Int × Int × List Int} {w s r e : Int} {Q : Bool → Prop} (ht : ∀ x ∈ t.2.2, -128 ≤ x ∧ x ≤ 127) (l1 : t.1.length ≤ 17592186044416) (l3 : a.1.length ≤ 17592186044416)
    (h : Q true) : pedagoguelaw8_TensorForms t u a b w s r e Q := by
  refine ⟨?_⟩
  unfold pedagoguelaw8_TensorForms_t
  obtain ⟨t1, t2, t3⟩ := t
  obtain ⟨u1, u2, u3⟩ := u
  dsimp only at ht l1 l3 ⊢
  refine ⟨?_⟩
  unfold pedagoguelaw8_light_t jn
  dsimp only
  by_cases hA : (a.2.2.length : Int) ≤ 600
  rotate_left
  · rw [decide_eq_false hA, if_pos (by rfl), if_pos (by simp)]
    exact awake_v h
  rw [decide_eq_true hA, if_neg (by simp)]
  refine ⟨?_⟩
  unfold pedagoguelaw8_light_t
  by_cases hB : (b.2.2.length : Int) ≤ 600
  rotate_left
  · dsimp only
    rw [decide_eq_false hB, if_pos (by simp)]
    exact awake_v h
  rw [decide_eq_true hB]
  dsimp only
  by_cases hl : 600 < t3.length ∨ 600 < u3.length
  · rw [if_pos (by simp; omega)]
    exact awake_v h
  rw [if_neg (by simp; omega)]
  refine small_v ?_
  refine rsmall_v ?_
  have hsl := smallF_lens a w s r
  obtain ⟨⟨⟨p1, p2, p3⟩, p4⟩, hS⟩ : ∃ z, smallF a w s r = z := ⟨_, rfl⟩
  rw [hS] at hsl
  rw [show smallF (a.1, (a.2.1, a.2.2)) w s r = smallF a w s r from rfl, hS]
  dsimp only at hsl ⊢
  refine ⟨?_⟩
  unfold pedagoguelaw8_TensorForms_n0_t
  refine zero_v l1 ?_
  refine mayDims_v ?_
  -- what there must be
  have hz : ∀ g : Int, (zeroF t1 e).2 = g → (g = 0 ∨ g = 1) ∧ (g = 0 ↔ (0 < szF t1 ∧ -64 ≤ e ∧ e ≤ 64)) ∧ (g = 0 → (zeroF t1 e).1 = (t1, e, List.replicate (szF t1).toNat 0)) := by
    intro g hg
    have hsz := szF_nonneg t1
    unfold zeroF at hg ⊢
    by_cases hm : mayF (t1, e, List.replicate (szF t1).toNat 0) = true
    · rw [if_pos hm] at hg ⊢
      subst hg
      have h1 := mayF_inv hm
      have h2 := (mayAccF_len h1.1).1
      exact ⟨.inl rfl, ⟨fun _ => ⟨h2, h1.2.1, h1.2.2.1⟩, fun _ => rfl⟩, fun _ => rfl⟩
    · rw [if_neg hm] at hg ⊢
      subst hg
      refine ⟨.inr rfl, ⟨fun h => (by cases h), fun hh => absurd (mayF_of (t := (t1, e, List.replicate (szF t1).toNat 0)) hh.1 ?_ hh.2.1 hh.2.2 ?_) hm⟩, fun h => (by cases h)⟩
      · simp; omega
      · simp
  obtain ⟨⟨⟨q1, q2, q3⟩, q4⟩, hZ⟩ : ∃ z, zeroF t1 e = z := ⟨_, rfl⟩
  rw [hZ] at hz ⊢
  obtain ⟨z1, z2, z3⟩ := hz q4 rfl
  dsimp only at z3 ⊢
  have n1 : ∀ want : Int, q4 = want → pedagoguelaw8_TensorForms_n1 e p4 p4 q4 want t1 t2 t3 u1 u2 u3 a.1 a.2.1 a.2.2 b.1 b.2.1 b.2.2 p2 p2 q2 p1 p3 p1 p3 q1 q3 (fun (y : Bool) => Q y) := by
    intro want hw
    subst hw
    refine ⟨?_⟩
    unfold pedagoguelaw8_TensorForms_n1_t jn
    dsimp only
    rw [if_neg (by simp)]
    have rest : tensor_May (t1, (t2, t3)) (fun (r16 : Bool) => pedagogueref1_MayT (t1, (t2, t3)) (fun (r17 : Bool) => if (r16 == r17) = true then tensor_MayAcc (a.1, (a.2.1, a.2.2)) (fun (r20 : Bool) => pedagogueref1_MayAcc (a.1, (a.2.1, a.2.2)) (fun (r21 : Bool) => (fun (v18 : Bool) => (fun (J23 : Bool → Prop) => if v18 = true then tensor_Width (a.1, (a.2.1, a.2.2)) (fun (r24 : Int) => pedagogueref1_Width (a.1, (a.2.1, a.2.2)) (fun (r25 : Int) => J23 (r24 == r25))) else J23 false) (fun (v22 : Bool) => (fun (J27 : Bool → Prop) => if v22 = true then pedagogueref1_SameT (p1, (p2, p3)) (p1, (p2, p3)) (fun (r28 : Bool) => J27 r28) else J27 false) (fun (v26 : Bool) => (fun (J30 : Bool → Prop) => if (v26 && (p4 == p4)) = true then tensor_Same (t1, (t2, t3)) (u1, (u2, u3)) (fun (r31 : Bool) => pedagogueref1_SameT (t1, (t2, t3)) (u1, (u2, u3)) (fun (r32 : Bool) => J30 (r31 == r32))) else J30 false) (fun (v29 : Bool) => (fun (J34 : Bool → Prop) => if v29 = true then tensor_SameAcc (a.1, (a.2.1, a.2.2)) (b.1, (b.2.1, b.2.2)) (fun (r35 : Bool) => pedagogueref1_SameAcc (a.1, (a.2.1, a.2.2)) (b.1, (b.2.1, b.2.2)) (fun (r36 : Bool) => J34 (r35 == r36))) else J34 false) (fun (v33 : Bool) => (fun (J38 : Bool → Prop) => if v33 = true then tensor_Text (t1, (t2, t3)) (fun (r39 : ByteArray) => pedagogueref1_TensorText (t1, (t2, t3)) (fun (r40 : ByteArray) => J38 (r39.toList == r40.toList))) else J38 false) (fun (v37 : Bool) => (fun (J42 : Bool → Prop) => if v37 = true then pedagoguelaw8_awake (fun (r43 : Bool) => J42 r43) else J42 false) (fun (v41 : Bool) => Q v41))))))) (r20 == r21))) else (fun (v18 : Bool) => (fun (J23 : Bool → Prop) => if v18 = true then tensor_Width (a.1, (a.2.1, a.2.2)) (fun (r24 : Int) => pedagogueref1_Width (a.1, (a.2.1, a.2.2)) (fun (r25 : Int) => J23 (r24 == r25))) else J23 false) (fun (v22 : Bool) => (fun (J27 : Bool → Prop) => if v22 = true then pedagogueref1_SameT (p1, (p2, p3)) (p1, (p2, p3)) (fun (r28 : Bool) => J27 r28) else J27 false) (fun (v26 : Bool) => (fun (J30 : Bool → Prop) => if (v26 && (p4 == p4)) = true then tensor_Same (t1, (t2, t3)) (u1, (u2, u3)) (fun (r31 : Bool) => pedagogueref1_SameT (t1, (t2, t3)) (u1, (u2, u3)) (fun (r32 : Bool) => J30 (r31 == r32))) else J30 false) (fun (v29 : Bool) => (fun (J34 : Bool → Prop) => if v29 = true then tensor_SameAcc (a.1, (a.2.1, a.2.2)) (b.1, (b.2.1, b.2.2)) (fun (r35 : Bool) => pedagogueref1_SameAcc (a.1, (a.2.1, a.2.2)) (b.1, (b.2.1, b.2.2)) (fun (r36 : Bool) => J34 (r35 == r36))) else J34 false) (fun (v33 : Bool) => (fun (J38 : Bool → Prop) => if v33 = true then tensor_Text (t1, (t2, t3)) (fun (r39 : ByteArray) => pedagogueref1_TensorText (t1, (t2, t3)) (fun (r40 : ByteArray) => J38 (r39.toList == r40.toList))) else J38 false) (fun (v37 : Bool) => (fun (J42 : Bool → Prop) => if v37 = true then pedagoguelaw8_awake (fun (r43 : Bool) => J42 r43) else J42 false) (fun (v41 : Bool) => Q v41))))))) false)) := by
      refine mayT_v ?_
      refine rmayT_v ?_
      rw [if_pos (by simp)]
      refine mayAcc_v ?_
      refine rmayAcc_v ?_
      dsimp only
      rw [if_pos (by simp)]
      refine width_v ?_
      refine rwidth_v ?_
      rw [if_pos (by simp)]
      refine sameT_v (by dsimp only; omega) (by dsimp only; omega) ?_
      rw [decide_eq_true rfl, if_pos (by simp)]
      refine same_v (by dsimp only; omega) (by dsimp only; omega) ?_
      refine sameT_v (by dsimp only; omega) (by dsimp only; omega) ?_
      rw [if_pos (by simp)]
      refine sameG_v (by dsimp only; omega) (by dsimp only; omega) ?_
      refine sameAcc_v (by dsimp only; omega) (by dsimp only; omega) ?_
      rw [if_pos (by simp)]
      refine text_v ht ?_
      refine rtext_v ht ?_
      rw [if_pos (by simp)]
      exact awake_v h
    by_cases hg : q4 = 0
    · rw [if_pos (by simpa using hg)]
      refine rsize_v ?_
      have hs1 := szF_le t1
      have hs2 := szF_nonneg t1
      refine ⟨⟨by omega, by omega⟩, ?_⟩
      have e3 := z3 hg
      simp only [Prod.mk.injEq] at e3
      obtain ⟨rfl, rfl, rfl⟩ := e3
      refine sameT_v (by dsimp only; omega) (by simp; omega) ?_
      rw [decide_eq_true rfl, if_neg (by simp)]
      exact rest
    · rw [if_neg (by simpa using hg), if_neg (by simp)]
      exact rest
  by_cases hc : 0 < szF t1 ∧ -64 ≤ e ∧ e ≤ 64
  · rw [if_neg (by simp; omega)]
    exact n1 0 (z2.2 hc)
  · rw [if_pos (by simp; omega)]
    refine n1 1 ?_
    rcases z1 with h | h
    · exact absurd (z2.1 h) hc
    · exact h

end Go.Proofs.YtejbkafligpmbaaDoor
