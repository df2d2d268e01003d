/- Shapes, tensors that may be: what the texts come to. Laws; no condition. -/
import Derived.Test.YtpbegbmmhpencaaG2
import Derived.Test.YtpbegbmmhpencaaQA
import Derived.Test.YtpbegbmmhpencaaVArg
namespace Go.Proofs.Ytpbegbmmhpencaa
open Go.Mach Go.RowKit
set_option maxRecDepth 100000
set_option linter.unusedVariables false
set_option linter.unusedSimpArgs false

def szGo : Int → List Int → Int
  | acc, [] => acc
  | acc, d :: r => if ((decide (d < 1) || decide (4096 < d)) || decide (8192 < IntKind.i64.wrap (acc * d))) = true then 0 else szGo (IntKind.i64.wrap (acc * d)) r
def szF (l : List Int) : Int := if (decide ((l.length : Int) < 1) || decide (4 < (l.length : Int))) = true then 0 else szGo 1 l
theorem szGo_le : ∀ (l : List Int) (acc : Int), acc ≤ 8192 → szGo acc l ≤ 8192
  | [], acc, h => h
  | d :: r, acc, h => by
    unfold szGo
    split
    · omega
    · rename_i hn
      simp only [Bool.or_eq_true, decide_eq_true_eq, not_or] at hn
      exact szGo_le r _ (by omega)
theorem szF_le (l : List Int) : szF l ≤ 8192 := by
  unfold szF
  split
  · omega
  · exact szGo_le l 1 (by omega)
theorem size_v {a : List Int} {Q : Int → Prop} (h : Q (szF a)) : shape_Size a Q := by
  refine ⟨?_⟩
  unfold shape_Size_t
  unfold szF at h
  by_cases e : (decide ((a.length : Int) < 1) || decide (4 < (a.length : Int))) = true
  · rw [if_pos e] at h ⊢; exact h
  · rw [if_neg e] at h ⊢
    simp only [Bool.or_eq_true, decide_eq_true_eq, not_or] at e
    obtain ⟨z, hzz⟩ : ∃ z, szGo 1 a = z := ⟨_, rfl⟩
    rw [hzz] at h
    refine ⟨?_⟩
    refine Loop.inv (n := a.length) (fun m s => ∃ i : Nat, i + m = a.length ∧ s.2 = (i : Int) ∧ szGo s.1 (a.drop i) = z) ⟨0, by omega, rfl, hzz⟩ ?_
    rintro m ⟨acc, i'⟩ X ⟨i, hi, he, hz⟩ hX
    simp only at he hz
    subst he
    unfold shape_Size_n0_B
    by_cases hlt : i < a.length
    · have hd : a.drop i = a.getD i 0 :: a.drop (i + 1) := by
        rw [List.drop_eq_getElem_cons hlt, List.getD_eq_getElem?_getD, List.getElem?_eq_getElem hlt]; rfl
      rw [hd] at hz
      rw [if_pos (by simpa using hlt)]
      refine ⟨by simp only []; omega, ?_⟩
      simp only [Int.toNat_natCast]
      unfold szGo at hz
      split
      · rename_i hc
        rw [if_pos hc] at hz
        rw [← hz] at h; exact h
      · rename_i hc
        rw [if_neg hc] at hz
        refine hX (m - 1) _ (by omega) ⟨i + 1, by omega, ?_, hz⟩
        show IntKind.i64.wrap ((i : Int) + 1) = _
        rw [wrap_i64 _ (by omega) (by omega)]; rfl
    · have hil : i = a.length := by omega
      subst hil
      rw [if_neg (by simp)]
      rw [List.drop_length] at hz
      unfold szGo at hz
      show Q acc
      rw [hz]; exact h
theorem may_v {a : List Int} {Q : Bool → Prop} (h : Q (decide (0 < szF a))) : shape_May a Q := by
  refine ⟨?_⟩
  unfold shape_May_t
  exact size_v h


abbrev T3 := List Int × Int × List Int
abbrev Z3 : T3 := ([], 0, [])
theorem and_v {b c : Bool} {Q K : Bool → Prop} {G : (Bool → Prop) → Prop} (hG : (b = true → ∀ P : Bool → Prop, P c → G P)) (hK : ∀ v, v = (b && c) → K v) (hQ : Q = K) : jn (fun v => Q v) (fun J => if b = true then G J else J false) := by
  subst hQ
  cases b with
  | true => show (if true = true then G (fun v => Q v) else Q false); rw [if_pos rfl]; exact hG rfl _ (hK _ (by simp))
  | false => exact hK _ rfl
/-- One more condition, looked at only where none of the others has failed. -/
theorem orb_v {b c : Bool} {Q K : Bool → Prop} {G : (Bool → Prop) → Prop} (hG : b = false → ∀ P : Bool → Prop, P c → G P) (hK : ∀ v, v = (b || c) → K v) (hQ : Q = K) : jn (fun v => Q v) (fun J => if b = true then J true else G J) := by
  subst hQ
  cases b with
  | true => exact hK _ rfl
  | false => show (if false = true then Q true else G (fun v => Q v)); rw [if_neg (by simp)]; exact hG rfl _ (hK _ (by simp))

/-! ### Numbers -/
theorem mul_bd (a b A B : Int) (h1 : -A ≤ a) (h2 : a ≤ A) (h3 : 0 ≤ b) (h4 : b ≤ B) (hA : 0 ≤ A) : -(A * B) ≤ a * b ∧ a * b ≤ A * B := by
  have e1 : a * b ≤ A * b := Int.mul_le_mul_of_nonneg_right h2 h3
  have e2 : A * b ≤ A * B := Int.mul_le_mul_of_nonneg_left h4 hA
  have e3 : -A * b ≤ a * b := Int.mul_le_mul_of_nonneg_right h1 h3
  have e4 : -A * b = -(A * b) := Int.neg_mul A b
  omega
theorem mul8 {a b : Int} (h : -128 ≤ a ∧ a ≤ 127) (k : -128 ≤ b ∧ b ≤ 127) : -16384 ≤ a * b ∧ a * b ≤ 16384 := by
  rcases Int.le_total 0 b with hb | hb
  · have := mul_bd a b 128 128 (by omega) (by omega) hb (by omega) (by omega)
    omega
  · have := mul_bd a (-b) 128 128 (by omega) (by omega) (by omega) (by omega) (by omega)
    rw [Int.mul_neg] at this
    omega
/-- Small numbers: eight bits. -/
def All8 (l : List Int) : Prop := ∀ y ∈ l, -128 ≤ y ∧ y ≤ 127
theorem All8.at_ {l : List Int} (h : All8 l) (i : Nat) : -128 ≤ l.getD i 0 ∧ l.getD i 0 ≤ 127 := by
  rw [List.getD_eq_getElem?_getD]
  cases hq : l[i]? with
  | none => simp
  | some y => exact h y (List.mem_of_getElem? hq)
theorem contains8_v {l : List Int} {v : Int} {Q : Bool → Prop} (hl : l.length ≤ 1000000000000) (h : Q (decide (v ∈ l))) : slices_Contains_int8_int8 l v Q := by
  refine ⟨?_⟩
  unfold slices_Contains_int8_int8_t
  refine ⟨?_⟩
  unfold slices_Index_int8_int8_t
  refine ⟨?_⟩
  refine Loop.range (B := slices_Index_int8_int8_n0_B l v (l.length : Int) (fun _ => Q (decide ((0 : Int) ≤ -1))) (fun y => Q (decide (0 ≤ y)))) (f := fun i : Nat => (i : Int)) l.length (fun i => ∀ j, j < i → v ≠ l.getD j 0) (fun j hj => absurd hj (by omega)) ?_ ?_
  · intro i hi hI X hX
    unfold slices_Index_int8_int8_n0_B
    rw [if_pos (by simpa using hi)]
    refine ⟨by omega, ?_⟩
    simp only [Int.toNat_natCast]
    by_cases hv : v = l.getD i 0
    · rw [if_pos (by simpa using hv)]
      have : decide (v ∈ l) = true := by rw [decide_eq_true_eq, hv]; exact getD_mem hi
      rw [this] at h
      rw [decide_eq_true (by omega : (0 : Int) ≤ (i : Int))]
      exact h
    · rw [if_neg (by simpa using hv), wrap_i64 _ (by omega) (by omega)]
      refine hX fun j hj => ?_
      by_cases hji : j = i
      · subst hji; exact hv
      · exact hI j (by omega)
  · intro hI X
    unfold slices_Index_int8_int8_n0_B
    rw [if_neg (by simp)]
    have : decide (v ∈ l) = false := by
      simp only [decide_eq_false_iff_not]
      intro hm
      obtain ⟨j, hj, e⟩ := List.getElem_of_mem hm
      apply hI j hj
      rw [List.getD_eq_getElem?_getD, List.getElem?_eq_getElem hj, ← e]; rfl
    rw [this] at h
    exact h
def expF (a b : Int) : Bool := (decide ((IntKind.i64.wrap (0 - b)) ≤ a)) && (decide (a ≤ b))
theorem exp_v {a b : Int} {Q : Bool → Prop} (h : Q (expF a b)) : tensor_exp a b Q := ⟨h⟩
def mayF (a : T3) : Bool := ((decide (0 < szF a.1) && ((a.2.2.length : Int) == szF a.1)) && expF a.2.1 64) && !decide (-128 ∈ a.2.2)
theorem mayT_v {a : T3} {Q : Bool → Prop} (h : Q (mayF a)) : tensor_May a Q := by
  refine ⟨?_⟩
  unfold tensor_May_t
  refine may_v ?_
  refine and_v (b := decide (0 < szF a.1)) (c := (a.2.2.length : Int) == szF a.1) (fun _ P hp => size_v hp) (fun v2 e2 => ?_) rfl
  refine and_v (c := expF a.2.1 64) (fun _ P hp => exp_v hp) (fun v3 e3 => ?_) rfl
  refine and_v (c := !decide (-128 ∈ a.2.2)) (fun h3 P hp => contains8_v (Q := fun r => P (!r)) ?_ hp) (fun v4 e4 => ?_) rfl
  · rw [e3, e2] at h3
    simp only [Bool.and_eq_true, beq_iff_eq] at h3
    have := szF_le a.1
    omega
  · rw [e4, e3, e2]
    exact h
theorem expF_iff {a : Int} {b : Int} (h1 : 0 ≤ b) (h2 : b ≤ 1000) : expF a b = true ↔ -b ≤ a ∧ a ≤ b := by
  unfold expF
  rw [wrap_i64 (0 - b) (by omega) (by omega)]
  simp only [Bool.and_eq_true, decide_eq_true_eq]
  omega
theorem mayF_iff {a : T3} : mayF a = true ↔ 0 < szF a.1 ∧ (a.2.2.length : Int) = szF a.1 ∧ (-64 ≤ a.2.1 ∧ a.2.1 ≤ 64) ∧ -128 ∉ a.2.2 := by
  unfold mayF
  rw [Bool.and_eq_true, Bool.and_eq_true, Bool.and_eq_true, expF_iff (by omega) (by omega)]
  simp only [decide_eq_true_eq, beq_iff_eq, Bool.not_eq_true', decide_eq_false_iff_not]
  constructor
  · rintro ⟨⟨⟨h1, h2⟩, h3⟩, h4⟩; exact ⟨h1, h2, h3, h4⟩
  · rintro ⟨h1, h2, h3, h4⟩; exact ⟨⟨⟨h1, h2⟩, h3⟩, h4⟩

/-! ### Shapes -/
def prodL : List Int → Int
  | [] => 1
  | d :: r => d * prodL r
theorem szGo_inv : ∀ (l : List Int) (acc : Int), 1 ≤ acc → acc ≤ 8192 → 0 < szGo acc l → (∀ d ∈ l, 1 ≤ d ∧ d ≤ 4096) ∧ szGo acc l = acc * prodL l
  | [], acc, h, _, _ => ⟨by simp, by simp [szGo, prodL]⟩
  | d :: r, acc, h, h2, h3 => by
    unfold szGo at h3 ⊢
    split at h3
    · omega
    · rename_i hn
      rw [if_neg hn]
      simp only [Bool.or_eq_true, decide_eq_true_eq, not_or] at hn
      have hb := mul_bd acc d 8192 4096 (by omega) (by omega) (by omega) (by omega) (by omega)
      have hw : IntKind.i64.wrap (acc * d) = acc * d := wrap_i64 _ (by omega) (by omega)
      rw [hw] at h3 hn ⊢
      have hp : 1 ≤ acc * d := by
        have := Int.mul_pos (show 0 < acc by omega) (show 0 < d by omega)
        omega
      obtain ⟨g1, g2⟩ := szGo_inv r (acc * d) hp (by omega) h3
      refine ⟨fun x hx => ?_, by rw [g2]; show _ = acc * (d * prodL r); rw [Int.mul_assoc]⟩
      rcases List.mem_cons.1 hx with e | e
      · subst e; omega
      · exact g1 x e
theorem szF_inv {l : List Int} (h : 0 < szF l) : (1 ≤ l.length ∧ l.length ≤ 4) ∧ (∀ d ∈ l, 1 ≤ d ∧ d ≤ 4096) ∧ szF l = prodL l ∧ prodL l ≤ 8192 := by
  have hle := szF_le l
  unfold szF at h hle ⊢
  split at h
  · omega
  · rename_i hn
    rw [if_neg hn] at hle ⊢
    simp only [Bool.or_eq_true, decide_eq_true_eq, not_or] at hn
    obtain ⟨g1, g2⟩ := szGo_inv l 1 (by omega) (by omega) h
    rw [Int.one_mul] at g2
    exact ⟨by omega, g1, g2, by omega⟩
theorem prodL_pos : ∀ {l : List Int}, (∀ d ∈ l, 1 ≤ d) → 1 ≤ prodL l
  | [], _ => by simp [prodL]
  | d :: r, h => by
    have h1 := h d (by simp)
    have h2 := prodL_pos (l := r) fun x hx => h x (by simp [hx])
    have := Int.mul_pos (show 0 < d by omega) (show 0 < prodL r by omega)
    unfold prodL; omega
theorem szGo_of : ∀ (l : List Int) (acc : Int), 1 ≤ acc → (∀ d ∈ l, 1 ≤ d ∧ d ≤ 4096) → acc * prodL l ≤ 8192 → szGo acc l = acc * prodL l
  | [], acc, h, _, _ => by simp [szGo, prodL]
  | d :: r, acc, h, hd, h2 => by
    have h1 := hd d (by simp)
    have hr : ∀ x ∈ r, 1 ≤ x ∧ x ≤ 4096 := fun x hx => hd x (by simp [hx])
    have hp := prodL_pos (l := r) fun x hx => (hr x hx).1
    have e : acc * prodL (d :: r) = acc * d * prodL r := by show acc * (d * prodL r) = _; rw [Int.mul_assoc]
    rw [e] at h2 ⊢
    have h0 : 1 ≤ acc * d := by
      have := Int.mul_pos (show 0 < acc by omega) (show 0 < d by omega)
      omega
    have h3 : acc * d ≤ acc * d * prodL r := by
      have := Int.mul_le_mul_of_nonneg_left (c := acc * d) hp (by omega)
      omega
    have hw : IntKind.i64.wrap (acc * d) = acc * d := wrap_i64 _ (by omega) (by omega)
    unfold szGo
    rw [hw, if_neg (by simp; omega)]
    exact szGo_of r (acc * d) h0 hr h2
theorem szF_of {l : List Int} (h1 : 1 ≤ l.length ∧ l.length ≤ 4) (hd : ∀ d ∈ l, 1 ≤ d ∧ d ≤ 4096) (h2 : prodL l ≤ 8192) : szF l = prodL l := by
  unfold szF
  rw [if_neg (by simp; omega), szGo_of l 1 (by omega) hd (by omega), Int.one_mul]
theorem szF_nonneg (l : List Int) : 0 ≤ szF l := by
  rcases Int.lt_or_le (szF l) 0 with h | h
  · exfalso
    have key : ∀ (l : List Int) (acc : Int), 1 ≤ acc → acc ≤ 8192 → 0 ≤ szGo acc l := by
      intro l
      induction l with
      | nil => intro acc h _; unfold szGo; omega
      | cons d r ih =>
        intro acc h h2
        unfold szGo
        split
        · omega
        · rename_i hn
          simp only [Bool.or_eq_true, decide_eq_true_eq, not_or] at hn
          have hb := mul_bd acc d 8192 4096 (by omega) (by omega) (by omega) (by omega) (by omega)
          have hw : IntKind.i64.wrap (acc * d) = acc * d := wrap_i64 _ (by omega) (by omega)
          rw [hw] at hn ⊢
          have := Int.mul_pos (show 0 < acc by omega) (show 0 < d by omega)
          exact ih _ (by omega) (by omega)
    have := key l 1 (by omega) (by omega)
    unfold szF at h
    split at h <;> omega
  · exact h
theorem i8_rng {x : Int} (h : (Lit.int IntKind.i8 x).wf = true) : -128 ≤ x ∧ x ≤ 127 := by
  have := wf_rng h
  have e1 : IntKind.i8.min = -128 := by decide
  have e2 : IntKind.i8.max = 127 := by decide
  rw [e1, e2] at this
  exact this
end Go.Proofs.Ytpbegbmmhpencaa
