/- May tensors be; shapes of up to four lengths; numbers at another exponent; sums that are 0. Laws; no condition. -/
import Derived.Test.YteencpiamangfaaVArg
import Derived.Test.YteencpiamangfaaQA
import Derived.Test.YteencpiamangfaaWA
import Derived.Test.YteencpiamangfaaF2
namespace Go.Proofs.Yteencpiamangfaa
open Go.Mach Go.RowKit
set_option maxRecDepth 100000
set_option linter.unusedVariables false
set_option linter.unusedSimpArgs false

abbrev T3 := List Int × Int × List Int
abbrev Z3 : T3 := ([], 0, [])
theorem and_v {b c : Bool} {Q K : Bool → Prop} {G : (Bool → Prop) → Prop} (hG : (b = true → ∀ P : Bool → Prop, P c → G P)) (hK : ∀ v, v = (b && c) → K v) (hQ : Q = K) : jn (fun v => Q v) (fun J => if b = true then G J else J false) := by
  subst hQ
  cases b with
  | true => show (if true = true then G (fun v => Q v) else Q false); rw [if_pos rfl]; exact hG rfl _ (hK _ (by simp))
  | false => exact hK _ rfl
/-- One more condition, looked at only where none of the others has failed. -/
theorem orb_v {b c : Bool} {Q K : Bool → Prop} {G : (Bool → Prop) → Prop} (hG : b = false → ∀ P : Bool → Prop, P c → G P) (hK : ∀ v, v = (b || c) → K v) (hQ : Q = K) : jn (fun v => Q v) (fun J => if b = true then J true else G J) := by
  subst hQ
  cases b with
  | true => exact hK _ rfl
  | false => show (if false = true then Q true else G (fun v => Q v)); rw [if_neg (by simp)]; exact hG rfl _ (hK _ (by simp))

/-! ### Numbers -/
theorem mul_bd (a b A B : Int) (h1 : -A ≤ a) (h2 : a ≤ A) (h3 : 0 ≤ b) (h4 : b ≤ B) (hA : 0 ≤ A) : -(A * B) ≤ a * b ∧ a * b ≤ A * B := by
  have e1 : a * b ≤ A * b := Int.mul_le_mul_of_nonneg_right h2 h3
  have e2 : A * b ≤ A * B := Int.mul_le_mul_of_nonneg_left h4 hA
  have e3 : -A * b ≤ a * b := Int.mul_le_mul_of_nonneg_right h1 h3
  have e4 : -A * b = -(A * b) := Int.neg_mul A b
  omega
theorem mul8 {a b : Int} (h : -128 ≤ a ∧ a ≤ 127) (k : -128 ≤ b ∧ b ≤ 127) : -16384 ≤ a * b ∧ a * b ≤ 16384 := by
  rcases Int.le_total 0 b with hb | hb
  · have := mul_bd a b 128 128 (by omega) (by omega) hb (by omega) (by omega)
    omega
  · have := mul_bd a (-b) 128 128 (by omega) (by omega) (by omega) (by omega) (by omega)
    rw [Int.mul_neg] at this
    omega
/-- Small numbers: eight bits. -/
def All8 (l : List Int) : Prop := ∀ y ∈ l, -128 ≤ y ∧ y ≤ 127
theorem All8.at_ {l : List Int} (h : All8 l) (i : Nat) : -128 ≤ l.getD i 0 ∧ l.getD i 0 ≤ 127 := by
  rw [List.getD_eq_getElem?_getD]
  cases hq : l[i]? with
  | none => simp
  | some y => exact h y (List.mem_of_getElem? hq)
theorem ix {r n i : Nat} (h : r * n + i ≤ 100000000) : IntKind.i64.wrap (IntKind.i64.wrap ((r : Int) * (n : Int)) + (i : Int)) = ((r * n + i : Nat) : Int) := by
  have e : (r : Int) * (n : Int) = ((r * n : Nat) : Int) := by rw [Int.natCast_mul]
  have h1 : r * n ≤ 100000000 := by omega
  rw [e, wrap_i64 ((r * n : Nat) : Int) (by omega) (by omega), wrap_i64 _ (by omega) (by omega), Int.natCast_add]
theorem mulw {r n : Nat} (h : r * n ≤ 100000000) : IntKind.i64.wrap ((r : Int) * (n : Int)) = ((r * n : Nat) : Int) := by
  have e : (r : Int) * (n : Int) = ((r * n : Nat) : Int) := by rw [Int.natCast_mul]
  rw [e, wrap_i64 ((r * n : Nat) : Int) (by omega) (by omega)]

/-! ### May a tensor be -/
theorem contains8_v {l : List Int} {v : Int} {Q : Bool → Prop} (hl : l.length ≤ 1000000000000) (h : Q (decide (v ∈ l))) : slices_Contains_int8_int8 l v Q := by
  refine ⟨?_⟩
  unfold slices_Contains_int8_int8_t
  refine ⟨?_⟩
  unfold slices_Index_int8_int8_t
  refine ⟨?_⟩
  refine Loop.range (B := slices_Index_int8_int8_n0_B l v (l.length : Int) (fun _ => Q (decide ((0 : Int) ≤ -1))) (fun y => Q (decide (0 ≤ y)))) (f := fun i : Nat => (i : Int)) l.length (fun i => ∀ j, j < i → v ≠ l.getD j 0) (fun j hj => absurd hj (by omega)) ?_ ?_
  · intro i hi hI X hX
    unfold slices_Index_int8_int8_n0_B
    rw [if_pos (by simpa using hi)]
    refine ⟨by omega, ?_⟩
    simp only [Int.toNat_natCast]
    by_cases hv : v = l.getD i 0
    · rw [if_pos (by simpa using hv)]
      have : decide (v ∈ l) = true := by rw [decide_eq_true_eq, hv]; exact getD_mem hi
      rw [this] at h
      rw [decide_eq_true (by omega : (0 : Int) ≤ (i : Int))]
      exact h
    · rw [if_neg (by simpa using hv), wrap_i64 _ (by omega) (by omega)]
      refine hX fun j hj => ?_
      by_cases hji : j = i
      · subst hji; exact hv
      · exact hI j (by omega)
  · intro hI X
    unfold slices_Index_int8_int8_n0_B
    rw [if_neg (by simp)]
    have : decide (v ∈ l) = false := by
      simp only [decide_eq_false_iff_not]
      intro hm
      obtain ⟨j, hj, e⟩ := List.getElem_of_mem hm
      apply hI j hj
      rw [List.getD_eq_getElem?_getD, List.getElem?_eq_getElem hj, ← e]; rfl
    rw [this] at h
    exact h
def expF (a b : Int) : Bool := (decide ((IntKind.i64.wrap (0 - b)) ≤ a)) && (decide (a ≤ b))
theorem exp_v {a b : Int} {Q : Bool → Prop} (h : Q (expF a b)) : tensor_exp a b Q := ⟨h⟩
def mayF (a : T3) : Bool := ((decide (0 < szF a.1) && ((a.2.2.length : Int) == szF a.1)) && expF a.2.1 64) && !decide (-128 ∈ a.2.2)
theorem mayT_v {a : T3} {Q : Bool → Prop} (h : Q (mayF a)) : tensor_May a Q := by
  refine ⟨?_⟩
  unfold tensor_May_t
  refine may_v ?_
  refine and_v (b := decide (0 < szF a.1)) (c := (a.2.2.length : Int) == szF a.1) (fun _ P hp => size_v hp) (fun v2 e2 => ?_) rfl
  refine and_v (c := expF a.2.1 64) (fun _ P hp => exp_v hp) (fun v3 e3 => ?_) rfl
  refine and_v (c := !decide (-128 ∈ a.2.2)) (fun h3 P hp => contains8_v (Q := fun r => P (!r)) ?_ hp) (fun v4 e4 => ?_) rfl
  · rw [e3, e2] at h3
    simp only [Bool.and_eq_true, beq_iff_eq] at h3
    have := szF_le a.1
    omega
  · rw [e4, e3, e2]
    exact h
theorem expF_iff {a : Int} {b : Int} (h1 : 0 ≤ b) (h2 : b ≤ 1000) : expF a b = true ↔ -b ≤ a ∧ a ≤ b := by
  unfold expF
  rw [wrap_i64 (0 - b) (by omega) (by omega)]
  simp only [Bool.and_eq_true, decide_eq_true_eq]
  omega
theorem mayF_iff {a : T3} : mayF a = true ↔ 0 < szF a.1 ∧ (a.2.2.length : Int) = szF a.1 ∧ (-64 ≤ a.2.1 ∧ a.2.1 ≤ 64) ∧ -128 ∉ a.2.2 := by
  unfold mayF
  rw [Bool.and_eq_true, Bool.and_eq_true, Bool.and_eq_true, expF_iff (by omega) (by omega)]
  simp only [decide_eq_true_eq, beq_iff_eq, Bool.not_eq_true', decide_eq_false_iff_not]
  constructor
  · rintro ⟨⟨⟨h1, h2⟩, h3⟩, h4⟩; exact ⟨h1, h2, h3, h4⟩
  · rintro ⟨h1, h2, h3, h4⟩; exact ⟨⟨⟨h1, h2⟩, h3⟩, h4⟩

/-! ### Shapes -/
def prodL : List Int → Int
  | [] => 1
  | d :: r => d * prodL r
theorem szGo_inv : ∀ (l : List Int) (acc : Int), 1 ≤ acc → acc ≤ 8192 → 0 < szGo acc l → (∀ d ∈ l, 1 ≤ d ∧ d ≤ 4096) ∧ szGo acc l = acc * prodL l
  | [], acc, h, _, _ => ⟨by simp, by simp [szGo, prodL]⟩
  | d :: r, acc, h, h2, h3 => by
    unfold szGo at h3 ⊢
    split at h3
    · omega
    · rename_i hn
      rw [if_neg hn]
      simp only [Bool.or_eq_true, decide_eq_true_eq, not_or] at hn
      have hb := mul_bd acc d 8192 4096 (by omega) (by omega) (by omega) (by omega) (by omega)
      have hw : IntKind.i64.wrap (acc * d) = acc * d := wrap_i64 _ (by omega) (by omega)
      rw [hw] at h3 hn ⊢
      have hp : 1 ≤ acc * d := by
        have := Int.mul_pos (show 0 < acc by omega) (show 0 < d by omega)
        omega
      obtain ⟨g1, g2⟩ := szGo_inv r (acc * d) hp (by omega) h3
      refine ⟨fun x hx => ?_, by rw [g2]; show _ = acc * (d * prodL r); rw [Int.mul_assoc]⟩
      rcases List.mem_cons.1 hx with e | e
      · subst e; omega
      · exact g1 x e
theorem szF_inv {l : List Int} (h : 0 < szF l) : (1 ≤ l.length ∧ l.length ≤ 4) ∧ (∀ d ∈ l, 1 ≤ d ∧ d ≤ 4096) ∧ szF l = prodL l ∧ prodL l ≤ 8192 := by
  have hle := szF_le l
  unfold szF at h hle ⊢
  split at h
  · omega
  · rename_i hn
    rw [if_neg hn] at hle ⊢
    simp only [Bool.or_eq_true, decide_eq_true_eq, not_or] at hn
    obtain ⟨g1, g2⟩ := szGo_inv l 1 (by omega) (by omega) h
    rw [Int.one_mul] at g2
    exact ⟨by omega, g1, g2, by omega⟩
theorem prodL_pos : ∀ {l : List Int}, (∀ d ∈ l, 1 ≤ d) → 1 ≤ prodL l
  | [], _ => by simp [prodL]
  | d :: r, h => by
    have h1 := h d (by simp)
    have h2 := prodL_pos (l := r) fun x hx => h x (by simp [hx])
    have := Int.mul_pos (show 0 < d by omega) (show 0 < prodL r by omega)
    unfold prodL; omega
theorem szGo_of : ∀ (l : List Int) (acc : Int), 1 ≤ acc → (∀ d ∈ l, 1 ≤ d ∧ d ≤ 4096) → acc * prodL l ≤ 8192 → szGo acc l = acc * prodL l
  | [], acc, h, _, _ => by simp [szGo, prodL]
  | d :: r, acc, h, hd, h2 => by
    have h1 := hd d (by simp)
    have hr : ∀ x ∈ r, 1 ≤ x ∧ x ≤ 4096 := fun x hx => hd x (by simp [hx])
    have hp := prodL_pos (l := r) fun x hx => (hr x hx).1
    have e : acc * prodL (d :: r) = acc * d * prodL r := by show acc * (d * prodL r) = _; rw [Int.mul_assoc]
    rw [e] at h2 ⊢
    have h0 : 1 ≤ acc * d := by
      have := Int.mul_pos (show 0 < acc by omega) (show 0 < d by omega)
      omega
    have h3 : acc * d ≤ acc * d * prodL r := by
      have := Int.mul_le_mul_of_nonneg_left (c := acc * d) hp (by omega)
      omega
    have hw : IntKind.i64.wrap (acc * d) = acc * d := wrap_i64 _ (by omega) (by omega)
    unfold szGo
    rw [hw, if_neg (by simp; omega)]
    exact szGo_of r (acc * d) h0 hr h2
theorem szF_of {l : List Int} (h1 : 1 ≤ l.length ∧ l.length ≤ 4) (hd : ∀ d ∈ l, 1 ≤ d ∧ d ≤ 4096) (h2 : prodL l ≤ 8192) : szF l = prodL l := by
  unfold szF
  rw [if_neg (by simp; omega), szGo_of l 1 (by omega) hd (by omega), Int.one_mul]
theorem szF_nonneg (l : List Int) : 0 ≤ szF l := by
  rcases Int.lt_or_le (szF l) 0 with h | h
  · exfalso
    have key : ∀ (l : List Int) (acc : Int), 1 ≤ acc → acc ≤ 8192 → 0 ≤ szGo acc l := by
      intro l
      induction l with
      | nil => intro acc h _; unfold szGo; omega
      | cons d r ih =>
        intro acc h h2
        unfold szGo
        split
        · omega
        · rename_i hn
          simp only [Bool.or_eq_true, decide_eq_true_eq, not_or] at hn
          have hb := mul_bd acc d 8192 4096 (by omega) (by omega) (by omega) (by omega) (by omega)
          have hw : IntKind.i64.wrap (acc * d) = acc * d := wrap_i64 _ (by omega) (by omega)
          rw [hw] at hn ⊢
          have := Int.mul_pos (show 0 < acc by omega) (show 0 < d by omega)
          exact ih _ (by omega) (by omega)
    have := key l 1 (by omega) (by omega)
    unfold szF at h
    split at h <;> omega
  · exact h
/-- Four lengths. -/
theorem szF4 {a b c d : Int} (h : 0 < szF [a, b, c, d]) : ∃ n m p q : Nat, a = n ∧ b = m ∧ c = p ∧ d = q ∧ 1 ≤ n ∧ 1 ≤ m ∧ 1 ≤ p ∧ 1 ≤ q ∧ n * m * p * q ≤ 8192 ∧ szF [a, b, c, d] = ((n * m * p * q : Nat) : Int) := by
  obtain ⟨_, h2, h3, h4⟩ := szF_inv h
  have ha := h2 a (by simp)
  have hb := h2 b (by simp)
  have hc := h2 c (by simp)
  have hd := h2 d (by simp)
  obtain ⟨n, rfl⟩ := Int.eq_ofNat_of_zero_le (show 0 ≤ a by omega)
  obtain ⟨m, rfl⟩ := Int.eq_ofNat_of_zero_le (show 0 ≤ b by omega)
  obtain ⟨p, rfl⟩ := Int.eq_ofNat_of_zero_le (show 0 ≤ c by omega)
  obtain ⟨q, rfl⟩ := Int.eq_ofNat_of_zero_le (show 0 ≤ d by omega)
  have e : prodL [(n : Int), m, p, q] = ((n * m * p * q : Nat) : Int) := by
    simp only [prodL, Int.natCast_mul, Int.mul_one, Int.mul_assoc]
  rw [h3]
  rw [e] at h4 ⊢
  exact ⟨n, m, p, q, rfl, rfl, rfl, rfl, by omega, by omega, by omega, by omega, by omega, rfl⟩
theorem szF4_of {n m p q : Nat} (h1 : 1 ≤ n ∧ n ≤ 4096) (h2 : 1 ≤ m ∧ m ≤ 4096) (h3 : 1 ≤ p ∧ p ≤ 4096) (h4 : 1 ≤ q ∧ q ≤ 4096) (h : n * m * p * q ≤ 8192) : szF [(n : Int), m, p, q] = ((n * m * p * q : Nat) : Int) := by
  have e : prodL [(n : Int), m, p, q] = ((n * m * p * q : Nat) : Int) := by
    simp only [prodL, Int.natCast_mul, Int.mul_one, Int.mul_assoc]
  rw [szF_of (by simp) _ (by rw [e]; omega), e]
  intro d hd
  simp only [List.mem_cons, List.not_mem_nil, or_false] at hd
  omega
theorem szF1 {c : Int} (h : 0 < szF [c]) : 1 ≤ c ∧ c ≤ 4096 ∧ szF [c] = c := by
  obtain ⟨_, h2, h3, h4⟩ := szF_inv h
  have := h2 c (by simp)
  have e : prodL [c] = c := by simp [prodL]
  rw [h3, e]
  omega
theorem szF1_of {c : Int} (h1 : 1 ≤ c) (h2 : c ≤ 4096) : szF [c] = c := by
  have e : prodL [c] = c := by simp [prodL]
  rw [szF_of (by simp) _ (by rw [e]; omega), e]
  intro d hd
  simp only [List.mem_cons, List.not_mem_nil, or_false] at hd
  omega

/-! ### A number at another exponent -/
def valF (a : Int) : Int := greater (-4611686018427387904) (smaller a 4611686018427387904)
theorem btw_v {a b c : Int} {Q : Int → Prop} (h : Q (greater b (smaller a c))) : round_between_int a b c Q := ⟨h⟩
theorem btw64_v {a b c : Int} {Q : Int → Prop} (h : Q (greater b (smaller a c))) : round_between_int64 a b c Q := ⟨h⟩
theorem val_v {a : Int} {Q : Int → Prop} (h : Q (valF a)) : round_value a Q := ⟨⟨h⟩⟩
theorem valF_id {a : Int} (h1 : -4611686018427387904 ≤ a) (h2 : a ≤ 4611686018427387904) : valF a = a := by
  unfold valF greater smaller
  split <;> split <;> omega
def alF (a b c : Int) : Int :=
  let r1 := valF a
  let by_ := greater (-1000) (smaller b 1000) - greater (-1000) (smaller c 1000)
  if by_ < 0 then r1.fdiv (2 ^ (smaller (0 - by_) 62).toNat)
  else if 20 < by_ then (if 0 < r1 then 1048576 else if r1 < 0 then -1048576 else 0)
  else greater (-1048576) (smaller (greater (-1048576) (smaller r1 1048576) * 2 ^ by_.toNat) 1048576)
theorem gs_rng (a lo hi : Int) (h : lo ≤ hi) : lo ≤ greater lo (smaller a hi) ∧ greater lo (smaller a hi) ≤ hi := by
  unfold greater smaller
  split <;> split <;> omega
theorem pow2_le (a b : Nat) (h : a ≤ b) : (1 : Int) ≤ 2 ^ a ∧ (2 : Int) ^ a ≤ 2 ^ b := by
  have h1 : (2 : Nat) ^ a ≤ 2 ^ b := Nat.pow_le_pow_right (by omega) h
  have h2 : 0 < (2 : Nat) ^ a := Nat.pow_pos (by omega)
  have e : ∀ n : Nat, ((2 ^ n : Nat) : Int) = 2 ^ n := fun n => by rw [Int.natCast_pow]; rfl
  rw [← e, ← e]
  omega
theorem fdiv_rng {a L U p : Int} (hp : 1 ≤ p) (hL : L ≤ 0) (hU : 0 ≤ U) (h1 : L ≤ a) (h2 : a ≤ U) : L ≤ a.fdiv p ∧ a.fdiv p ≤ U := by
  rw [Int.fdiv_eq_ediv_of_nonneg _ (by omega)]
  constructor
  · rw [Int.le_ediv_iff_mul_le (by omega)]
    have : L * p ≤ L * 1 := Int.mul_le_mul_of_nonpos_left hL hp
    omega
  · have := Int.ediv_le_ediv (c := p) (by omega) h2
    have := Int.ediv_le_self (a := U) p hU
    omega
theorem alF_rng {a b c : Int} (h : -128 ≤ a ∧ a ≤ 127) : -1048576 ≤ alF a b c ∧ alF a b c ≤ 1048576 := by
  unfold alF
  rw [valF_id (by omega) (by omega)]
  simp only
  generalize greater (-1000) (smaller b 1000) - greater (-1000) (smaller c 1000) = y
  split
  · have := fdiv_rng (p := 2 ^ (smaller (0 - y) 62).toNat) (pow2_le _ _ (Nat.le_refl _)).1 (by omega) (by omega) h.1 h.2
    omega
  · split
    · split
      · omega
      · split <;> omega
    · exact gs_rng _ _ _ (by omega)
theorem al_v {a b c : Int} {Q : Int → Prop} (h : Q (alF a b c)) : round_Align a b c Q := by
  refine ⟨?_⟩
  unfold round_Align_t
  refine val_v (btw_v (btw_v ?_))
  unfold alF at h
  simp only at h
  have hb := gs_rng b (-1000) 1000 (by omega)
  have hc := gs_rng c (-1000) 1000 (by omega)
  generalize greater (-1000) (smaller b 1000) = x at *
  generalize greater (-1000) (smaller c 1000) = y at *
  rw [wrap_i64 (x - y) (by omega) (by omega)]
  by_cases h1 : x - y < 0
  · rw [if_pos h1] at h
    rw [if_pos (by simpa using h1), wrap_i64 (0 - (x - y)) (by omega) (by omega)]
    have hs : 0 ≤ smaller (0 - (x - y)) 62 ∧ smaller (0 - (x - y)) 62 ≤ 62 := by unfold smaller; split <;> omega
    refine ⟨hs.1, ?_⟩
    rw [show min (smaller (0 - (x - y)) 62).toNat (IntKind.i64).bits = (smaller (0 - (x - y)) 62).toNat from Nat.min_eq_left (by show _ ≤ 64; omega)]
    exact h
  · rw [if_neg h1] at h
    rw [if_neg (by simpa using h1)]
    by_cases h2 : 20 < x - y
    · rw [if_pos h2] at h
      by_cases h3 : 0 < valF a
      · rw [if_pos h3] at h
        rw [if_pos (by simp [h2, h3])]
        exact h
      · rw [if_neg h3] at h
        rw [if_neg (by simp; omega)]
        by_cases h4 : valF a < 0
        · rw [if_pos h4] at h
          rw [if_pos (by simp [h2, h4])]
          exact h
        · rw [if_neg h4] at h
          rw [if_neg (by simp; omega), if_pos (by simp [h2])]
          exact h
    · rw [if_neg h2] at h
      rw [if_neg (by simp; omega), if_neg (by simp; omega), if_neg (by simp; omega)]
      refine btw64_v ⟨by omega, btw64_v ?_⟩
      have hm := gs_rng (valF a) (-1048576) 1048576 (by omega)
      have hp := pow2_le (x - y).toNat 20 (by omega)
      have := mul_bd (greater (-1048576) (smaller (valF a) 1048576)) (2 ^ (x - y).toNat) 1048576 1048576 hm.1 hm.2 (by omega) hp.2 (by omega)
      rw [show min (x - y).toNat (IntKind.i64).bits = (x - y).toNat from Nat.min_eq_left (by show _ ≤ 64; omega)]
      rw [wrap_i64 _ (by omega) (by omega)]
      exact h
theorem alF_same {a e : Int} (h : -128 ≤ a ∧ a ≤ 127) : alF a e e = a := by
  unfold alF
  simp only
  rw [Int.sub_self, if_neg (by omega), if_neg (by omega), valF_id (by omega) (by omega)]
  unfold greater smaller
  simp
  split <;> split <;> omega

/-! ### Is a sum of so many products never too great -/
def fitsF (n : Int) : Bool := (decide (0 ≤ n) && decide (n ≤ 1023)) && decide (n * 16384 + 1048576 < 16777216)
theorem fits_v {n : Int} {Q : Bool → Prop} (h : Q (fitsF n)) : dense_Fits n Q := by
  refine ⟨?_⟩
  unfold dense_Fits_t
  unfold fitsF at h
  by_cases h1 : 0 ≤ n ∧ n ≤ 1023
  · rw [wrap_i64 (n * 16384) (by omega) (by omega), wrap_i64 _ (by omega) (by omega)]
    exact h
  · have e : (decide (0 ≤ n) && decide (n ≤ 1023)) = false := by simp; omega
    rw [e] at h ⊢
    exact h
theorem fitsF_iff {n : Int} : fitsF n = true ↔ 0 ≤ n ∧ n ≤ 959 := by
  unfold fitsF
  simp only [Bool.and_eq_true, decide_eq_true_eq]
  omega
/-- Sums of a shape that are 0. -/
def sumsF (d : List Int) (e n : Int) : T3 × Int :=
  if (!fitsF n) = true then (Z3, 3)
  else if (decide (e < -128) || decide (128 < e)) = true then (Z3, 3)
  else if (!decide (0 < szF d)) = true then (Z3, 1)
  else ((d, (e, List.replicate (szF d).toNat 0)), 0)
theorem fresh_v {n e : Int} {d : List Int} {Q : T3 × Int → Prop} (h : Q (sumsF d e n)) : conv_fresh n e d Q := by
  refine ⟨?_⟩
  unfold conv_fresh_t
  refine fits_v ?_
  unfold sumsF at h
  by_cases h1 : (!fitsF n) = true
  · rw [if_pos h1] at h; rw [if_pos (by rw [h1]; rfl)]; exact h
  · rw [if_neg h1] at h
    by_cases h2 : (decide (e < -128) || decide (128 < e)) = true
    · rw [if_pos h2] at h
      rw [if_pos (by simp only [Bool.or_eq_true, decide_eq_true_eq] at h2 ⊢; rcases h2 with h2 | h2 <;> simp [h2])]
      exact h
    · rw [if_neg h2] at h
      rw [if_neg (by simp only [Bool.or_eq_true, decide_eq_true_eq, not_or] at h1 h2 ⊢; exact ⟨⟨h1, h2.2⟩, h2.1⟩)]
      refine may_v ?_
      by_cases h3 : (!decide (0 < szF d)) = true
      · rw [if_pos h3] at h ⊢; exact h
      · rw [if_neg h3] at h ⊢
        have := szF_le d
        have := szF_nonneg d
        exact size_v ⟨⟨by omega, by omega⟩, h⟩
theorem sumsF_ok {d : List Int} {e n : Int} (h : (sumsF d e n).2 = 0) : fitsF n = true ∧ (-128 ≤ e ∧ e ≤ 128) ∧ 0 < szF d ∧ sumsF d e n = ((d, (e, List.replicate (szF d).toNat 0)), 0) := by
  unfold sumsF at h ⊢
  split at h
  · cases h
  · split at h
    · cases h
    · split at h
      · cases h
      · rename_i h1 h2 h3
        rw [if_neg h1, if_neg h2, if_neg h3]
        simp at h1 h2 h3
        exact ⟨h1, by omega, by omega, rfl⟩
theorem sumsF_of {d : List Int} {e n : Int} (h1 : fitsF n = true) (h2 : -128 ≤ e ∧ e ≤ 128) (h3 : 0 < szF d) : sumsF d e n = ((d, (e, List.replicate (szF d).toNat 0)), 0) := by
  unfold sumsF
  rw [if_neg (by simp [h1]), if_neg (by simp; omega), if_neg (by simp [h3])]

/-! ### May tensors be, of four lengths each -/
def cmayF (l : List T3) : Int := if l.all mayF = true then (if l.all (fun t => (t.1.length : Int) == 4) = true then 0 else 2) else 1
theorem cmay_v {l : List T3} {Q : Int → Prop} (hl : l.length ≤ 1000000) (h : Q (cmayF l)) : conv_may l Q := by
  refine ⟨?_⟩
  unfold conv_may_t
  unfold cmayF at h
  refine ⟨?_⟩
  refine Loop.all (B := conv_may_n0_B l (l.length : Int) _ _) l mayF (K0 := Q (if l.all (fun t => (t.1.length : Int) == 4) = true then 0 else 2)) (K1 := Q 1) ?_ ?_ ?_
  · intro i hi X hX hK
    unfold conv_may_n0_B
    rw [if_pos (by simpa using hi)]
    refine ⟨by omega, mayT_v ?_⟩
    simp only [Int.toNat_natCast]
    have hg : l.getD i ([], 0, []) = l[i] := by rw [List.getD_eq_getElem?_getD, List.getElem?_eq_getElem hi]; rfl
    rw [hg]
    by_cases hm : mayF l[i] = true
    · rw [if_neg (by simp [hm]), wrap_i64 _ (by omega) (by omega)]
      exact hX hm
    · have hm : mayF l[i] = false := by simpa using hm
      rw [if_pos (by simp [hm])]
      exact hK hm
  · intro hK X
    unfold conv_may_n0_B
    rw [if_neg (by simp)]
    refine ⟨?_⟩
    refine Loop.all (B := conv_may_n1_B l (l.length : Int) _ _) l (fun t => (t.1.length : Int) == 4) (K0 := Q 0) (K1 := Q 2) ?_ ?_ ?_
    · intro i hi X hX hK
      unfold conv_may_n1_B
      rw [if_pos (by simpa using hi)]
      refine ⟨by omega, ?_⟩
      simp only [Int.toNat_natCast]
      have hg : l.getD i ([], 0, []) = l[i] := by rw [List.getD_eq_getElem?_getD, List.getElem?_eq_getElem hi]; rfl
      rw [hg]
      unfold bne
      by_cases hm : ((l[i].1.length : Int) == 4) = true
      · rw [if_neg (by simp [hm]), wrap_i64 _ (by omega) (by omega)]
        exact hX hm
      · have hm : ((l[i].1.length : Int) == 4) = false := by simpa using hm
        rw [if_pos (by simp [hm])]
        exact hK hm
    · intro hK X
      unfold conv_may_n1_B
      rw [if_neg (by simp)]
      exact hK
    · split <;> rename_i hh <;> simp only [hh] at hK <;> simpa using hK
  · split <;> rename_i hh <;> simp only [hh] at h <;> simpa using h
theorem over_v {a b k s p : Int} {Q : ((Int × Int × Int × Int × Int × Int × Int) × Bool) → Prop} (h : Q ((a, (b, (k, (s, (p, (outF a k s p, outF b k s p)))))), (decide (0 < outF a k s p)) && (decide (0 < outF b k s p)))) : conv_over a b k s p Q := by
  refine ⟨?_⟩
  unfold conv_over_t
  exact out_v (out_v h)

end Go.Proofs.Yteencpiamangfaa

