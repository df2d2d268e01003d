/- What conv.Weight comes to. Laws; no condition. -/
/- What conv.Bias and place.Lookers come to. Laws; no condition. -/
/- What conv.Input comes to. Laws; no condition. -/
import Derived.Test.YtmleeffinagncaaQ8
import Derived.Test.YtmleeffinagncaaP4
namespace Go.Proofs.Ytmleeffinagncaa
open Go.Mach Go.RowKit
set_option maxRecDepth 100000
set_option linter.unusedVariables false
set_option linter.unusedSimpArgs false

/-- Sums of 32 bits, place by place. -/
def w4 (n O P Q : Nat) (f : Nat → Nat → Nat → Nat → Int) : List Int := lst4 n O P Q fun m o p q => IntKind.i32.wrap (f m o p q)
theorem w4_len (n O P Q : Nat) (f : Nat → Nat → Nat → Nat → Int) : (w4 n O P Q f).length = n * O * P * Q := lst4_len _ _ _ _ _
theorem w4_get {n O P Q m o p q : Nat} {f : Nat → Nat → Nat → Nat → Int} (hm : m < n) (ho : o < O) (hp : p < P) (hq : q < Q) : (w4 n O P Q f).getD (ix4 O P Q m o p q) 0 = IntKind.i32.wrap (f m o p q) := lst4_get hm ho hp hq
theorem w4_congr {n O P Q : Nat} {f g : Nat → Nat → Nat → Nat → Int} (h : ∀ m o p q, m < n → o < O → p < P → q < Q → f m o p q = g m o p q) : w4 n O P Q f = w4 n O P Q g :=
  lst4_congr fun m o p q hm ho hp hq => by rw [h m o p q hm ho hp hq]
theorem w4_add {n O P Q m0 o0 p0 q0 : Nat} {f : Nat → Nat → Nat → Nat → Int} {v : Int} (hm : m0 < n) (ho : o0 < O) (hp : p0 < P) (hq : q0 < Q) :
    (w4 n O P Q f).set (ix4 O P Q m0 o0 p0 q0) (IntKind.i32.wrap ((w4 n O P Q f).getD (ix4 O P Q m0 o0 p0 q0) 0 + v)) = w4 n O P Q fun m o p q => f m o p q + if m = m0 ∧ o = o0 ∧ p = p0 ∧ q = q0 then v else 0 := by
  refine list4_ext (by rw [List.length_set]; exact w4_len _ _ _ _ _) (w4_len _ _ _ _ _) fun m o p q h1 h2 h3 h4 => ?_
  have hl := ix4_lt hm ho hp hq
  rw [getD_set (by rw [w4_len]; exact hl)]
  by_cases e : ix4 O P Q m0 o0 p0 q0 = ix4 O P Q m o p q
  · obtain ⟨e1, e2, e3, e4⟩ := ix4_inj ho hp hq h2 h3 h4 e
    rw [if_pos e, w4_get h1 h2 h3 h4, if_pos ⟨e1.symm, e2.symm, e3.symm, e4.symm⟩, w4_get hm ho hp hq, w32_add_l, e1, e2, e3, e4]
  · rw [if_neg e, w4_get h1 h2 h3 h4, w4_get h1 h2 h3 h4, if_neg, Int.add_zero]
    rintro ⟨rfl, rfl, rfl, rfl⟩
    exact e rfl
theorem zeros4 (n O P Q : Nat) : List.replicate (n * O * P * Q) (0 : Int) = w4 n O P Q fun _ _ _ _ => 0 := by
  refine list4_ext (by simp) (w4_len _ _ _ _ _) fun m o p q h1 h2 h3 h4 => ?_
  rw [getD_repl (ix4_lt h1 h2 h3 h4), w4_get h1 h2 h3 h4]
  show 0 = IntKind.i32.wrap 0
  decide

section
variable {n O C K P Q plane : Nat} {gd xd : List Int}
/-- What Weight is given, where it may be. -/
structure WtIn (n O C K P Q plane : Nat) (gd xd : List Int) : Prop where
  hg : gd.length = n * O * P * Q
  hx : xd.length = n * C * plane
  bg : n * O * P * Q ≤ 8192
  bx : n * C * plane ≤ 8192
  bw : O * C * K * K ≤ 8192
  ag : All8 gd
  ax : All8 xd
  hn : 1 ≤ n
  hO : 1 ≤ O
  hC : 1 ≤ C
  hP : 1 ≤ P
  hQ : 1 ≤ Q
/-- One product of Weight. -/
def wtG (O C P Q plane : Nat) (gd xd : List Int) (i m o c a : Nat) : Int := gd.getD ((m * O + o) * P * Q + i) 0 * xd.getD ((m * C + c) * plane + a) 0
theorem wc_v (h : WtIn n O C K P Q plane gd xd) {f : Nat → Nat → Nat → Nat → Int} {i m o a r q : Nat} {K0 : List Int → Prop} (hi : i < P * Q) (hm : m < n) (ho : o < O) (ha : a < plane) (hr : r < K) (hq : q < K)
    (hk : K0 (w4 O C K K fun o' c' r' q' => f o' c' r' q' + if o' = o ∧ r' = r ∧ q' = q then wtG O C P Q plane gd xd i m o c' a else 0)) :
    conv_Weight_n5 K O C plane i m o C gd xd P Q a r q K0 (0, w4 O C K K f) := by
  refine ⟨?_⟩
  have eg : ((0 : Int), w4 O C K K f) = (fun j : Nat => ((j : Int), w4 O C K K fun o' c' r' q' => f o' c' r' q' + if o' = o ∧ c' < j ∧ r' = r ∧ q' = q then wtG O C P Q plane gd xd i m o c' a else 0)) 0 := by
    dsimp only
    congr 1
    refine w4_congr fun o' c' r' q' _ _ _ _ => ?_
    rw [if_neg (by omega)]; omega
  rw [eg]
  refine Loop.range (B := conv_Weight_n5_B K O C plane i m o C gd xd P Q a r q K0) (f := fun j : Nat => ((j : Int), w4 O C K K fun o' c' r' q' => f o' c' r' q' + if o' = o ∧ c' < j ∧ r' = r ∧ q' = q then wtG O C P Q plane gd xd i m o c' a else 0)) C (fun _ => True) trivial ?_ ?_
  · intro c hc _ X hX
    have hX := hX trivial
    have k1 := h.bg; have k2 := h.bx; have k3 := h.bw
    have i1 := ix4_lt (P := K) (Q := K) ho hc hr hq
    have i2 : (m * C + c) * plane + a < n * C * plane := ix_lt (ix_lt hm hc) ha
    have i3 : (m * O + o) * (P * Q) + i < n * O * (P * Q) := ix_lt (ix_lt hm ho) hi
    rw [← Nat.mul_assoc, ← Nat.mul_assoc] at i3
    have j1 : o * C + c ≤ (o * C + c) * K := Nat.le_mul_of_pos_right _ (by omega)
    have j2 : (o * C + c) * K + r ≤ ((o * C + c) * K + r) * K := Nat.le_mul_of_pos_right _ (by omega)
    have j3 : m * C + c ≤ (m * C + c) * plane := Nat.le_mul_of_pos_right _ (by omega)
    have j4 : m * O + o ≤ (m * O + o) * P := Nat.le_mul_of_pos_right _ h.hP
    have j5 : (m * O + o) * P ≤ (m * O + o) * P * Q := Nat.le_mul_of_pos_right _ h.hQ
    unfold ix4 at i1
    have hc8 : c ≤ 8192 := by omega
    unfold conv_Weight_n5_B
    rw [if_pos (decide_eq_true (show (c : Int) < (C : Int) by omega))]
    dsimp only at hX ⊢
    rw [ix (r := o) (n := C) (i := c) (by omega), ix (r := o * C + c) (n := K) (i := r) (by omega), ix (r := (o * C + c) * K + r) (n := K) (i := q) (by omega)]
    rw [ix (r := m) (n := O) (i := o) (by omega), mulw (r := m * O + o) (n := P) (by omega), ix (r := (m * O + o) * P) (n := Q) (i := i) (by omega)]
    rw [ix (r := m) (n := C) (i := c) (by omega), ix (r := m * C + c) (n := plane) (i := a) (by omega)]
    rw [w4_len]
    refine ⟨by omega, by rw [h.hg]; omega, by rw [h.hx]; omega, by omega, ?_⟩
    simp only [Int.toNat_natCast]
    rw [wrap_i64 ((c : Int) + 1) (by omega) (by omega), w32_add_r]
    have g8 := h.ag.at_ ((m * O + o) * P * Q + i)
    have x8 := h.ax.at_ ((m * C + c) * plane + a)
    rw [wrap_i32 (gd.getD ((m * O + o) * P * Q + i) 0) (by omega) (by omega), wrap_i32 (xd.getD ((m * C + c) * plane + a) 0) (by omega) (by omega)]
    have es := w4_add (n := O) (O := C) (P := K) (Q := K) (m0 := o) (o0 := c) (p0 := r) (q0 := q) (f := fun o' c' r' q' => f o' c' r' q' + if o' = o ∧ c' < c ∧ r' = r ∧ q' = q then wtG O C P Q plane gd xd i m o c' a else 0) (v := gd.getD ((m * O + o) * P * Q + i) 0 * xd.getD ((m * C + c) * plane + a) 0) ho hc hr hq
    unfold ix4 at es
    rw [es]
    have ef : (w4 O C K K fun o' c' r' q' => (f o' c' r' q' + if o' = o ∧ c' < c ∧ r' = r ∧ q' = q then wtG O C P Q plane gd xd i m o c' a else 0) + if o' = o ∧ c' = c ∧ r' = r ∧ q' = q then gd.getD ((m * O + o) * P * Q + i) 0 * xd.getD ((m * C + c) * plane + a) 0 else 0) = w4 O C K K fun o' c' r' q' => f o' c' r' q' + if o' = o ∧ c' < c + 1 ∧ r' = r ∧ q' = q then wtG O C P Q plane gd xd i m o c' a else 0 := by
      refine w4_congr fun o' c' r' q' _ _ _ _ => ?_
      rw [Int.add_assoc]
      congr 1
      by_cases g : o' = o ∧ r' = r ∧ q' = q
      · obtain ⟨g1, g2, g3⟩ := g
        subst g1 g2 g3
        by_cases g4 : c' = c
        · subst g4
          rw [if_neg (by omega), if_pos ⟨rfl, rfl, rfl, rfl⟩, if_pos ⟨rfl, by omega, rfl, rfl⟩]
          unfold wtG; omega
        · rw [if_neg (c := _ ∧ c' = c ∧ _) (by omega)]
          by_cases g5 : c' < c
          · rw [if_pos ⟨rfl, g5, rfl, rfl⟩, if_pos ⟨rfl, by omega, rfl, rfl⟩]; omega
          · rw [if_neg (by omega), if_neg (by omega)]; omega
      · rw [if_neg (fun hh => g ⟨hh.1, hh.2.2⟩), if_neg (fun hh => g ⟨hh.1, hh.2.2⟩), if_neg (fun hh => g ⟨hh.1, hh.2.2⟩)]; omega
    rw [ef]
    exact hX
  · intro _ X
    unfold conv_Weight_n5_B
    rw [if_neg (by simp)]
    have : (w4 O C K K fun o' c' r' q' => f o' c' r' q' + if o' = o ∧ c' < C ∧ r' = r ∧ q' = q then wtG O C P Q plane gd xd i m o c' a else 0) = w4 O C K K fun o' c' r' q' => f o' c' r' q' + if o' = o ∧ r' = r ∧ q' = q then wtG O C P Q plane gd xd i m o c' a else 0 := by
      refine w4_congr fun o' c' r' q' _ h2 _ _ => ?_
      congr 1
      by_cases g : o' = o ∧ r' = r ∧ q' = q
      · rw [if_pos g, if_pos ⟨g.1, h2, g.2⟩]
      · rw [if_neg g, if_neg (fun hh => g ⟨hh.1, hh.2.2⟩)]
    dsimp only
    rw [this]
    exact hk
theorem wo_v (h : WtIn n O C K P Q plane gd xd) {f : Nat → Nat → Nat → Nat → Int} {i m a r q : Nat} {K0 : List Int → Prop} (hi : i < P * Q) (hm : m < n) (ha : a < plane) (hr : r < K) (hq : q < K)
    (hk : K0 (w4 O C K K fun o' c' r' q' => f o' c' r' q' + if r' = r ∧ q' = q then wtG O C P Q plane gd xd i m o' c' a else 0)) :
    conv_Weight_n4 K O C plane i m O gd xd P Q a r q K0 (0, w4 O C K K f) := by
  refine ⟨?_⟩
  have hO : O ≤ 8192 := by
    have := h.bg
    have := h.hn; have := h.hP; have := h.hQ
    have : O ≤ n * O := Nat.le_mul_of_pos_left _ (by omega)
    have : n * O ≤ n * O * P := Nat.le_mul_of_pos_right _ (by omega)
    have : n * O * P ≤ n * O * P * Q := Nat.le_mul_of_pos_right _ (by omega)
    omega
  have eg : ((0 : Int), w4 O C K K f) = (fun j : Nat => ((j : Int), w4 O C K K fun o' c' r' q' => f o' c' r' q' + if o' < j ∧ r' = r ∧ q' = q then wtG O C P Q plane gd xd i m o' c' a else 0)) 0 := by
    dsimp only
    congr 1
    refine w4_congr fun o' c' r' q' _ _ _ _ => ?_
    rw [if_neg (by omega)]; omega
  rw [eg]
  refine Loop.range (B := conv_Weight_n4_B K O C plane i m O gd xd P Q a r q K0) (f := fun j : Nat => ((j : Int), w4 O C K K fun o' c' r' q' => f o' c' r' q' + if o' < j ∧ r' = r ∧ q' = q then wtG O C P Q plane gd xd i m o' c' a else 0)) O (fun _ => True) trivial ?_ ?_
  · intro o ho _ X hX
    have hX := hX trivial
    unfold conv_Weight_n4_B
    rw [if_pos (decide_eq_true (show (o : Int) < (O : Int) by omega))]
    dsimp only at hX ⊢
    refine wc_v h hi hm ho ha hr hq ?_
    rw [wrap_i64 ((o : Int) + 1) (by omega) (by omega)]
    have ef : (w4 O C K K fun o' c' r' q' => (f o' c' r' q' + if o' < o ∧ r' = r ∧ q' = q then wtG O C P Q plane gd xd i m o' c' a else 0) + if o' = o ∧ r' = r ∧ q' = q then wtG O C P Q plane gd xd i m o c' a else 0) = w4 O C K K fun o' c' r' q' => f o' c' r' q' + if o' < o + 1 ∧ r' = r ∧ q' = q then wtG O C P Q plane gd xd i m o' c' a else 0 := by
      refine w4_congr fun o' c' r' q' _ _ _ _ => ?_
      rw [Int.add_assoc]
      congr 1
      by_cases g : r' = r ∧ q' = q
      · by_cases g4 : o' = o
        · subst g4
          rw [if_neg (by omega), if_pos ⟨rfl, g⟩, if_pos ⟨by omega, g⟩]; omega
        · rw [if_neg (c := o' = o ∧ _) (by omega)]
          by_cases g5 : o' < o
          · rw [if_pos ⟨g5, g⟩, if_pos ⟨by omega, g⟩]; omega
          · rw [if_neg (by omega), if_neg (by omega)]; omega
      · rw [if_neg (fun hh => g hh.2), if_neg (fun hh => g hh.2), if_neg (fun hh => g hh.2)]; omega
    rw [ef]
    exact hX
  · intro _ X
    unfold conv_Weight_n4_B
    rw [if_neg (by simp)]
    have : (w4 O C K K fun o' c' r' q' => f o' c' r' q' + if o' < O ∧ r' = r ∧ q' = q then wtG O C P Q plane gd xd i m o' c' a else 0) = w4 O C K K fun o' c' r' q' => f o' c' r' q' + if r' = r ∧ q' = q then wtG O C P Q plane gd xd i m o' c' a else 0 := by
      refine w4_congr fun o' c' r' q' h2 _ _ _ => ?_
      congr 1
      by_cases g : r' = r ∧ q' = q
      · rw [if_pos g, if_pos ⟨h2, g⟩]
      · rw [if_neg g, if_neg (fun hh => g hh.2)]
    dsimp only
    rw [this]
    exact hk
/-- A row of products, added for all examples. -/
def wtM (n O C P Q plane : Nat) (gd xd : List Int) (i o c a : Nat) : Int := sumTo (fun m => wtG O C P Q plane gd xd i m o c a) n
theorem wm_v (h : WtIn n O C K P Q plane gd xd) {f : Nat → Nat → Nat → Nat → Int} {i a r q : Nat} {K0 : List Int → Prop} (hi : i < P * Q) (ha : a < plane) (hr : r < K) (hq : q < K)
    (hk : K0 (w4 O C K K fun o' c' r' q' => f o' c' r' q' + if r' = r ∧ q' = q then wtM n O C P Q plane gd xd i o' c' a else 0)) :
    conv_Weight_n3 K O C plane i n gd xd P Q a r q K0 (0, w4 O C K K f) := by
  refine ⟨?_⟩
  have hn : n ≤ 8192 := by
    have := h.bg
    have := h.hO; have := h.hP; have := h.hQ
    have : n ≤ n * O := Nat.le_mul_of_pos_right _ (by omega)
    have : n * O ≤ n * O * P := Nat.le_mul_of_pos_right _ (by omega)
    have : n * O * P ≤ n * O * P * Q := Nat.le_mul_of_pos_right _ (by omega)
    omega
  have eg : ((0 : Int), w4 O C K K f) = (fun j : Nat => ((j : Int), w4 O C K K fun o' c' r' q' => f o' c' r' q' + if r' = r ∧ q' = q then sumTo (fun m => wtG O C P Q plane gd xd i m o' c' a) j else 0)) 0 := by
    dsimp only
    congr 1
    refine w4_congr fun o' c' r' q' _ _ _ _ => ?_
    simp [sumTo]
  rw [eg]
  refine Loop.range (B := conv_Weight_n3_B K O C plane i n gd xd P Q a r q K0) (f := fun j : Nat => ((j : Int), w4 O C K K fun o' c' r' q' => f o' c' r' q' + if r' = r ∧ q' = q then sumTo (fun m => wtG O C P Q plane gd xd i m o' c' a) j else 0)) n (fun _ => True) trivial ?_ ?_
  · intro m hm _ X hX
    have hX := hX trivial
    unfold conv_Weight_n3_B
    rw [if_pos (decide_eq_true (show (m : Int) < (n : Int) by omega))]
    dsimp only at hX ⊢
    refine wo_v h hi hm ha hr hq ?_
    rw [wrap_i64 ((m : Int) + 1) (by omega) (by omega)]
    have ef : (w4 O C K K fun o' c' r' q' => (f o' c' r' q' + if r' = r ∧ q' = q then sumTo (fun m => wtG O C P Q plane gd xd i m o' c' a) m else 0) + if r' = r ∧ q' = q then wtG O C P Q plane gd xd i m o' c' a else 0) = w4 O C K K fun o' c' r' q' => f o' c' r' q' + if r' = r ∧ q' = q then sumTo (fun m => wtG O C P Q plane gd xd i m o' c' a) (m + 1) else 0 := by
      refine w4_congr fun o' c' r' q' _ _ _ _ => ?_
      rw [Int.add_assoc]
      congr 1
      by_cases g : r' = r ∧ q' = q
      · rw [if_pos g, if_pos g, if_pos g]; rfl
      · rw [if_neg g, if_neg g, if_neg g]; rfl
    rw [ef]
    exact hX
  · intro _ X
    unfold conv_Weight_n3_B
    rw [if_neg (by simp)]
    exact hk
/-- What a window's place adds. -/
def wtZ (n O C P Q plane : Nat) (gd xd : List Int) (i o c r q : Nat) (z : Int × Int × Int) : Int := if z.2.1 = (r : Int) ∧ z.2.2 = (q : Int) then wtM n O C P Q plane gd xd i o c z.1.toNat else 0
theorem wz_v (h : WtIn n O C K P Q plane gd xd) {f : Nat → Nat → Nat → Nat → Int} {i : Nat} {l : List (Int × Int × Int)} {K0 : List Int → Prop} (hi : i < P * Q) (hl : InP K plane l) (hll : l.length ≤ 1000000)
    (hk : K0 (w4 O C K K fun o' c' r' q' => f o' c' r' q' + lsum l (wtZ n O C P Q plane gd xd i o' c' r' q'))) :
    conv_Weight_n2 K n O C plane i (l.length : Int) gd xd P Q l K0 (0, w4 O C K K f) := by
  refine ⟨?_⟩
  have eg : ((0 : Int), w4 O C K K f) = (fun j : Nat => ((j : Int), w4 O C K K fun o' c' r' q' => f o' c' r' q' + sumTo (fun t => wtZ n O C P Q plane gd xd i o' c' r' q' (l.getD t (0, 0, 0))) j)) 0 := by
    dsimp only
    congr 1
    refine w4_congr fun o' c' r' q' _ _ _ _ => ?_
    simp [sumTo]
  rw [eg]
  refine Loop.range (B := conv_Weight_n2_B K n O C plane i (l.length : Int) gd xd P Q l K0) (f := fun j : Nat => ((j : Int), w4 O C K K fun o' c' r' q' => f o' c' r' q' + sumTo (fun t => wtZ n O C P Q plane gd xd i o' c' r' q' (l.getD t (0, 0, 0))) j)) l.length (fun _ => True) trivial ?_ ?_
  · intro t ht _ X hX
    have hX := hX trivial
    unfold conv_Weight_n2_B
    rw [if_pos (decide_eq_true (show (t : Int) < (l.length : Int) by omega))]
    dsimp only at hX ⊢
    refine ⟨by omega, ?_⟩
    rw [Int.toNat_natCast]
    obtain ⟨a, r, q, ez, ha, hr, hq⟩ := hl (l.getD t (0, 0, 0)) (by rw [List.getD_eq_getElem?_getD, List.getElem?_eq_getElem ht]; exact List.getElem_mem ht)
    simp only [sumTo, ez] at hX
    rw [ez]
    refine wm_v h hi ha hr hq ?_
    rw [wrap_i64 ((t : Int) + 1) (by omega) (by omega)]
    have ef : (w4 O C K K fun o' c' r' q' => (f o' c' r' q' + sumTo (fun t => wtZ n O C P Q plane gd xd i o' c' r' q' (l.getD t (0, 0, 0))) t) + if r' = r ∧ q' = q then wtM n O C P Q plane gd xd i o' c' a else 0) = w4 O C K K fun o' c' r' q' => f o' c' r' q' + (sumTo (fun t => wtZ n O C P Q plane gd xd i o' c' r' q' (l.getD t (0, 0, 0))) t + wtZ n O C P Q plane gd xd i o' c' r' q' (↑a, ↑r, ↑q)) := by
      refine w4_congr fun o' c' r' q' _ _ _ _ => ?_
      rw [Int.add_assoc]
      congr 2
      unfold wtZ
      dsimp only
      rw [Int.toNat_natCast]
      by_cases g : r' = r ∧ q' = q
      · rw [if_pos g, if_pos (by omega)]
      · rw [if_neg g, if_neg (by omega)]
    rw [ef]
    exact hX
  · intro _ X
    unfold conv_Weight_n2_B
    rw [if_neg (by simp)]
    dsimp only
    have : (w4 O C K K fun o' c' r' q' => f o' c' r' q' + sumTo (fun t => wtZ n O C P Q plane gd xd i o' c' r' q' (l.getD t (0, 0, 0))) l.length) = w4 O C K K fun o' c' r' q' => f o' c' r' q' + lsum l (wtZ n O C P Q plane gd xd i o' c' r' q') :=
      w4_congr fun o' c' r' q' _ _ _ _ => by rw [lsum_getD l _ (0, 0, 0)]
    rw [this]
    exact hk
end
/-- One sum of Weight. -/
def wtCell (n O C K P Q H V : Nat) (s p : Int) (gd xd : List Int) (o c r q : Nat) : Int :=
  sumTo (fun i => lsum (windowF H V ((i / Q : Nat) : Int) ((i % Q : Nat) : Int) K s p) (wtZ n O C P Q (H * V) gd xd i o c r q)) (P * Q)
theorem wi_v {n O C K P Q H V : Nat} {gd xd : List Int} {s p : Int} (h : WtIn n O C K P Q (H * V) gd xd) (hK : K ≤ 5) {K0 : List Int → Prop}
    (hk : K0 (w4 O C K K (wtCell n O C K P Q H V s p gd xd))) :
    conv_Weight_n1 K n O C ((H * V : Nat) : Int) ((P * Q : Nat) : Int) gd xd H V K s p P Q K0 (0, w4 O C K K fun _ _ _ _ => 0) := by
  have hPQ : P * Q ≤ 8192 := by
    have := h.bg
    have := h.hn; have := h.hO
    have e : n * O * P * Q = n * O * (P * Q) := Nat.mul_assoc _ _ _
    have : P * Q ≤ n * O * (P * Q) := Nat.le_mul_of_pos_left _ (Nat.mul_pos (by omega) (by omega))
    omega
  have hQ := h.hQ
  have hKK : K * K ≤ 5 * 5 := Nat.mul_le_mul hK hK
  refine ⟨?_⟩
  refine Loop.range (B := conv_Weight_n1_B K n O C ((H * V : Nat) : Int) ((P * Q : Nat) : Int) gd xd H V K s p P Q K0) (f := fun j : Nat => ((j : Int), w4 O C K K fun o c r q => sumTo (fun i => lsum (windowF H V ((i / Q : Nat) : Int) ((i % Q : Nat) : Int) K s p) (wtZ n O C P Q (H * V) gd xd i o c r q)) j)) (P * Q) (fun _ => True) trivial ?_ ?_
  · intro i hi _ X hX
    have hX := hX trivial
    unfold conv_Weight_n1_B
    rw [if_pos (decide_eq_true (show (i : Int) < ((P * Q : Nat) : Int) by omega))]
    dsimp only at hX ⊢
    obtain ⟨c1, c2, c3⟩ := ix_cover hi
    have l1 : i / Q ≤ i := Nat.div_le_self _ _
    have et : IntKind.i64.wrap ((i : Int).tdiv (Q : Int)) = ((i / Q : Nat) : Int) := by
      obtain ⟨y, ey⟩ : ∃ y, i / Q = y := ⟨_, rfl⟩
      rw [Int.tdiv_eq_ediv_of_nonneg (by omega), ← Int.natCast_ediv, ey]
      rw [ey] at l1
      rw [wrap_i64 _ (by omega) (by omega)]
    have em : (i : Int).tmod (Q : Int) = ((i % Q : Nat) : Int) := by
      rw [Int.tmod_eq_emod_of_nonneg (by omega), ← Int.natCast_emod]
    rw [et, em]
    refine ⟨by omega, by omega, ⟨?_⟩⟩
    unfold conv_windows_at_t
    refine Window_v ?_
    dsimp only
    have hwl := windowF_len (rows := H) (cols := V) (r := ((i / Q : Nat) : Int)) (c := ((i % Q : Nat) : Int)) (s := s) (p := p) (K := K)
    refine wz_v h hi windowF_in (by omega) ?_
    rw [wrap_i64 ((i : Int) + 1) (by omega) (by omega)]
    exact hX
  · intro _ X
    unfold conv_Weight_n1_B
    rw [if_neg (by simp)]
    exact hk

/-! ### What Weight answers -/
def wtBad (g x : T3) (k s p : Int) : Bool :=
  ((!(decide (0 < outF (x.1.getD 2 0) k s p) && decide (0 < outF (x.1.getD 3 0) k s p)) || (x.1.getD 0 0 != g.1.getD 0 0)) || (g.1.getD 2 0 != outF (x.1.getD 2 0) k s p)) || (g.1.getD 3 0 != outF (x.1.getD 3 0) k s p)
def wtDims (g x : T3) (k : Int) : List Int := [g.1.getD 1 0, x.1.getD 1 0, k, k]
def wtN (g : T3) : Int := g.1.getD 0 0 * g.1.getD 2 0 * g.1.getD 3 0
def wtE (g x : T3) (k s p : Int) : Int :=
  if (cmayF [g, x] != 0) = true then cmayF [g, x]
  else if wtBad g x k s p = true then 2
  else (sumsF (wtDims g x k) (g.2.1 + x.2.1) (wtN g)).2
def wtData (g x : T3) (k s p : Int) : List Int :=
  w4 (g.1.getD 1 0).toNat (x.1.getD 1 0).toNat k.toNat k.toNat
    (wtCell (g.1.getD 0 0).toNat (g.1.getD 1 0).toNat (x.1.getD 1 0).toNat k.toNat (g.1.getD 2 0).toNat (g.1.getD 3 0).toNat (x.1.getD 2 0).toNat (x.1.getD 3 0).toNat s p g.2.2 x.2.2)
def weightF (g x : T3) (k s p : Int) : T3 × Int := if (wtE g x k s p != 0) = true then (Z3, wtE g x k s p) else ((wtDims g x k, (g.2.1 + x.2.1, wtData g x k s p)), 0)
theorem sumsF_err {d : List Int} {e n : Int} (h : (sumsF d e n).2 ≠ 0) : (sumsF d e n).1 = Z3 := by
  unfold sumsF at h ⊢
  split
  · rfl
  · split
    · rfl
    · split
      · rfl
      · rename_i g1 g2 g3
        rw [if_neg g1, if_neg g2, if_neg g3] at h
        exact absurd rfl h
theorem weight_v {g x : T3} {k s p : Int} {Q : T3 × Int → Prop} (ag : All8 g.2.2) (ax : All8 x.2.2) (hq : Q (weightF g x k s p)) : conv_Weight g x k s p Q := by
  refine ⟨?_⟩
  unfold conv_Weight_t
  unfold weightF wtE at hq
  refine cmay_v (by simp) ?_
  show (if (cmayF [g, x] != 0) = true then _ else _)
  by_cases h2 : (cmayF [g, x] != 0) = true
  · rw [if_pos h2]
    simp only [h2, if_true] at hq
    exact hq
  · rw [if_neg h2]
    simp only [h2, Bool.false_eq_true, if_false] at hq
    have hz : cmayF [g, x] = 0 := by simpa using h2
    have hzz := cmayF_zero hz
    obtain ⟨mg, lg⟩ := hzz g (by simp)
    obtain ⟨mx, lx⟩ := hzz x (by simp)
    obtain ⟨n, O, P, R, eg, g1, g2, g3, g4, g5, g6, g7, g8⟩ := may4 mg lg
    obtain ⟨n', C, H, V, ex, x1, x2, x3, x4, x5, x6, x7, x8⟩ := may4 mx lx
    refine ⟨by omega, by omega, by omega, by omega, by omega, over_v ?_⟩
    refine orb_v (b := !(decide (0 < outF (x.1.getD 2 0) k s p) && decide (0 < outF (x.1.getD 3 0) k s p))) (c := x.1.getD 0 0 != g.1.getD 0 0) (fun _ P hp => ⟨by omega, hp⟩) (fun v3 e3 => ?_) rfl
    refine orb_v (c := g.1.getD 2 0 != outF (x.1.getD 2 0) k s p) (fun _ P hp => ⟨by omega, hp⟩) (fun v5 e5 => ?_) rfl
    refine orb_v (c := g.1.getD 3 0 != outF (x.1.getD 3 0) k s p) (fun _ P hp => ⟨by omega, hp⟩) (fun v7 e7 => ?_) rfl
    have hv : v7 = wtBad g x k s p := by rw [e7, e5, e3]; rfl
    rw [← hv] at hq
    cases v7 with
    | true => exact hq
    | false =>
      rw [if_neg (by simp)]
      simp only [Bool.false_eq_true, if_false] at hq
      have hv2 := hv.symm
      unfold wtBad at hv2
      simp only [Bool.or_eq_false_iff, bne_f, Bool.not_eq_false', Bool.and_eq_true, decide_eq_true_eq] at hv2
      obtain ⟨⟨⟨⟨o1, o2⟩, c1⟩, c2⟩, c3⟩ := hv2
      simp only [eg, ex, List.getD_cons_zero, List.getD_cons_succ] at o1 o2 c1 c2 c3
      have en : n' = n := by omega
      subst en
      obtain ⟨a1, a2, a3, a4, a5, a6⟩ := out_ok o1
      obtain ⟨d1, _⟩ := out_ok o2
      obtain ⟨K, rfl⟩ := Int.eq_ofNat_of_zero_le (show 0 ≤ k by omega)
      unfold wtN wtDims wtData at hq
      simp only [eg, ex, List.getD_cons_zero, List.getD_cons_succ, ← c2, ← c3] at hq ⊢
      have k0 : n' * O * P * R ≤ 8192 := g5
      have k1 : n' ≤ n' * O := Nat.le_mul_of_pos_right _ (by omega)
      have k2 : n' * P * R ≤ 8192 := by
        have e1 : n' * P * R ≤ n' * O * P * R := Nat.mul_le_mul_right _ (Nat.mul_le_mul_right _ k1)
        omega
      have k3 : n' * P ≤ n' * P * R := Nat.le_mul_of_pos_right _ (by omega)
      have k4 : H * V ≤ 16 * 16 := Nat.mul_le_mul (by omega) (by omega)
      have k5 : P * R ≤ n' * (P * R) := Nat.le_mul_of_pos_left _ (by omega)
      rw [← Nat.mul_assoc] at k5
      rw [mulw (r := n') (n := P) (by omega), mulw (r := n' * P) (n := R) (by omega), wrap_i64 (g.2.1 + x.2.1) (by omega) (by omega)]
      rw [← Int.natCast_mul, ← Int.natCast_mul] at hq
      refine fresh_v ⟨?_⟩
      unfold conv_Weight_n0_t
      by_cases h9 : (sumsF [(O : Int), (C : Int), (K : Int), (K : Int)] (g.2.1 + x.2.1) ((n' * P * R : Nat) : Int)).2 = 0
      · obtain ⟨f1, f2, f3, f4⟩ := sumsF_ok h9
        rw [f4] at hq ⊢
        simp only [bne_self_eq_false, Bool.false_eq_true, if_false] at hq ⊢
        obtain ⟨q1, q2, q3, q4, e1, e2, e3, e4, _, _, _, _, s5, s6⟩ := szF4 f3
        have r1 : q1 = O := by omega
        have r2 : q2 = C := by omega
        have r3 : q3 = K := by omega
        have r4 : q4 = K := by omega
        subst r1 r2 r3 r4
        rw [s6]
        have w : WtIn n' q1 q2 q4 P R (H * V) g.2.2 x.2.2 := ⟨by omega, by rw [x6]; exact Nat.mul_assoc _ _ _, k0, by rw [← Nat.mul_assoc]; exact x5, s5, ag, ax, by omega, by omega, by omega, by omega, by omega⟩
        rw [mulw (r := H) (n := V) (by omega), mulw (r := P) (n := R) (by omega), Int.toNat_natCast, zeros4]
        refine wi_v w (by omega) ?_
        simp only [Int.toNat_natCast] at hq
        exact hq
      · rw [if_pos (by simpa using h9)]
        rw [if_pos (by simpa using h9)] at hq
        rw [sumsF_err h9]
        exact hq

end Go.Proofs.Ytmleeffinagncaa

namespace Go.Proofs.Ytmleeffinagncaa
open Go.Mach Go.RowKit
set_option maxRecDepth 100000
set_option linter.unusedVariables false
set_option linter.unusedSimpArgs false

/-! ### Bias -/
theorem tab_set {n i : Nat} {f : Nat → Int} {v : Int} (h : i < n) : (tab n f).set i v = tab n fun j => if j = i then v else f j := by
  refine tab_of (by simp) fun j hj => ?_
  rw [getD_set (by simpa using h)]
  by_cases e : i = j
  · rw [if_pos e, if_pos e.symm]
  · rw [if_neg e, if_neg (fun hh => e hh.symm), tab_getD _ hj]
/-- One sum of Bias, over so many numbers. -/
def bsSum (plane O : Nat) (gd : List Int) (o j : Nat) : Int := sumTo (fun i => if i / plane % O = o then gd.getD i 0 else 0) j
theorem bs_v {plane O : Nat} {gd : List Int} {K0 : List Int → Prop} (h8 : All8 gd) (hl : gd.length ≤ 8192) (hp : 1 ≤ plane) (hO : 1 ≤ O) (hO2 : O ≤ 8192) (hp2 : plane ≤ 8192)
    (hk : K0 (tab O fun o => IntKind.i32.wrap (bsSum plane O gd o gd.length))) : conv_Bias_n0 O plane gd (gd.length : Int) K0 (0, List.replicate O 0) := by
  refine ⟨?_⟩
  have eg : ((0 : Int), List.replicate O (0 : Int)) = (fun j : Nat => ((j : Int), tab O fun o => IntKind.i32.wrap (bsSum plane O gd o j))) 0 := by
    dsimp only
    congr 1
    refine tab_of (by simp) fun i hi => ?_
    rw [getD_repl hi]
    show 0 = IntKind.i32.wrap 0
    decide
  rw [eg]
  refine Loop.range (B := conv_Bias_n0_B O plane gd (gd.length : Int) K0) (f := fun j : Nat => ((j : Int), tab O fun o => IntKind.i32.wrap (bsSum plane O gd o j))) gd.length (fun _ => True) trivial ?_ ?_
  · intro i hi _ X hX
    have hX := hX trivial
    unfold conv_Bias_n0_B
    rw [if_pos (decide_eq_true (show (i : Int) < (gd.length : Int) by omega))]
    dsimp only at hX ⊢
    have l1 : i / plane ≤ i := Nat.div_le_self _ _
    obtain ⟨y, ey⟩ : ∃ y, i / plane = y := ⟨_, rfl⟩
    have et : IntKind.i64.wrap ((i : Int).tdiv (plane : Int)) = (y : Int) := by
      rw [Int.tdiv_eq_ediv_of_nonneg (by omega), ← Int.natCast_ediv, ey]
      rw [ey] at l1
      rw [wrap_i64 _ (by omega) (by omega)]
    have hm := Nat.mod_lt y (show 0 < O by omega)
    obtain ⟨o, eo⟩ : ∃ o, y % O = o := ⟨_, rfl⟩
    have em : (y : Int).tmod (O : Int) = (o : Int) := by
      rw [Int.tmod_eq_emod_of_nonneg (by omega), ← Int.natCast_emod, eo]
    rw [et, em, tab_len]
    refine ⟨by omega, by omega, by omega, by omega, by omega, ?_⟩
    rw [Int.toNat_natCast, Int.toNat_natCast, tab_getD _ (by omega), tab_set (by omega), wrap_i64 ((i : Int) + 1) (by omega) (by omega), w32_add_l, w32_add_r]
    have : (tab O fun j => if j = o then IntKind.i32.wrap (bsSum plane O gd o i + gd.getD i 0) else IntKind.i32.wrap (bsSum plane O gd j i)) = tab O fun o => IntKind.i32.wrap (bsSum plane O gd o (i + 1)) := by
      refine tab_congr fun j hj => ?_
      unfold bsSum
      simp only [sumTo]
      by_cases e : j = o
      · subst e
        rw [if_pos rfl, if_pos (by rw [ey, eo])]
      · rw [if_neg e, if_neg (by rw [ey, eo]; exact fun hh => e hh.symm), Int.add_zero]
    rw [this]
    exact hX
  · intro _ X
    unfold conv_Bias_n0_B
    rw [if_neg (by simp)]
    exact hk
def bsE (g : T3) : Int := if (cmayF [g] != 0) = true then cmayF [g] else (sumsF [g.1.getD 1 0] g.2.1 (g.1.getD 0 0 * (g.1.getD 2 0 * g.1.getD 3 0))).2
def bsData (g : T3) : List Int := tab (g.1.getD 1 0).toNat fun o => IntKind.i32.wrap (bsSum (g.1.getD 2 0 * g.1.getD 3 0).toNat (g.1.getD 1 0).toNat g.2.2 o g.2.2.length)
def biasF (g : T3) : T3 × Int := if (bsE g != 0) = true then (Z3, bsE g) else (([g.1.getD 1 0], (g.2.1, bsData g)), 0)
theorem bias_v {g : T3} {Q : T3 × Int → Prop} (ag : All8 g.2.2) (hq : Q (biasF g)) : conv_Bias g Q := by
  refine ⟨?_⟩
  unfold conv_Bias_t
  unfold biasF bsE at hq
  refine cmay_v (by simp) ?_
  show (if (cmayF [g] != 0) = true then _ else _)
  by_cases h2 : (cmayF [g] != 0) = true
  · rw [if_pos h2]
    simp only [h2, if_true] at hq
    exact hq
  · rw [if_neg h2]
    simp only [h2, Bool.false_eq_true, if_false] at hq
    have hz : cmayF [g] = 0 := by simpa using h2
    obtain ⟨mg, lg⟩ := cmayF_zero hz g (by simp)
    obtain ⟨n, O, P, R, eg, g1, g2, g3, g4, g5, g6, g7, g8⟩ := may4 mg lg
    refine ⟨by omega, by omega, by omega, by omega, ?_⟩
    unfold bsData at hq
    simp only [eg, List.getD_cons_zero, List.getD_cons_succ] at hq ⊢
    have k1 : P * R ≤ n * O * (P * R) := Nat.le_mul_of_pos_left _ (Nat.mul_pos (by omega) (by omega))
    rw [← Nat.mul_assoc] at k1
    have k2 : n ≤ n * O := Nat.le_mul_of_pos_right _ (by omega)
    have k3 : n * P * R ≤ n * O * P * R := Nat.mul_le_mul_right _ (Nat.mul_le_mul_right _ k2)
    have k4 : O ≤ n * O := Nat.le_mul_of_pos_left _ (by omega)
    have k5 : n * O ≤ n * O * P := Nat.le_mul_of_pos_right _ (by omega)
    have k6 : n * O * P ≤ n * O * P * R := Nat.le_mul_of_pos_right _ (by omega)
    have k7 : n * P * R = n * (P * R) := Nat.mul_assoc _ _ _
    rw [mulw (r := P) (n := R) (by omega), mulw (r := n) (n := P * R) (by omega)]
    rw [← Int.natCast_mul, ← Int.natCast_mul] at hq
    refine fresh_v ?_
    by_cases h9 : (sumsF [(O : Int)] g.2.1 ((n * (P * R) : Nat) : Int)).2 = 0
    · obtain ⟨f1, f2, f3, f4⟩ := sumsF_ok h9
      rw [f4] at hq ⊢
      simp only [bne_self_eq_false, Bool.false_eq_true, if_false] at hq ⊢
      rw [(szF1 f3).2.2, Int.toNat_natCast]
      refine bs_v ag (by omega) (Nat.mul_pos (by omega) (by omega)) (by omega) (by omega) (by omega) ?_
      simp only [Int.toNat_natCast] at hq
      exact hq
    · rw [if_pos (by simpa using h9)]
      rw [if_pos (by simpa using h9)] at hq
      rw [sumsF_err h9]
      exact hq

/-! ### Who looks at a place -/
/-- Whether the window of y, x looks at r, c, and as which. -/
def lookCell (s p r c k Q : Int) (y x : Nat) : List (Int × Int × Int) :=
  if (inP (r - (s * y - p)) 0 (k - 1) && inP (c - (s * x - p)) 0 (k - 1)) = true then [((y : Int) * Q + x, r - (s * y - p), c - (s * x - p))] else []
def lookRow (s p r c k Q : Int) (y m : Nat) : List (Int × Int × Int) := (List.range m).flatMap (lookCell s p r c k Q y)
def lookP (s p r c k Q : Int) (P m : Nat) : List (Int × Int × Int) := (List.range P).flatMap fun y => lookRow s p r c k Q y m
theorem lookRow_succ {s p r c k Q : Int} {y m : Nat} : lookRow s p r c k Q y (m + 1) = lookRow s p r c k Q y m ++ lookCell s p r c k Q y m := by
  unfold lookRow; rw [List.range_succ, List.flatMap_append]; simp
theorem lookP_succ {s p r c k Q : Int} {P m : Nat} : lookP s p r c k Q (P + 1) m = lookP s p r c k Q P m ++ lookRow s p r c k Q P m := by
  unfold lookP; rw [List.range_succ, List.flatMap_append]; simp
theorem lookCell_len {s p r c k Q : Int} {y x : Nat} : (lookCell s p r c k Q y x).length ≤ 1 := by
  unfold lookCell; split <;> simp
theorem lookRow_len {s p r c k Q : Int} {y : Nat} : ∀ m, (lookRow s p r c k Q y m).length ≤ m
  | 0 => by simp [lookRow]
  | m + 1 => by
    rw [lookRow_succ, List.length_append]
    have := lookRow_len (s := s) (p := p) (r := r) (c := c) (k := k) (Q := Q) (y := y) m
    have := lookCell_len (s := s) (p := p) (r := r) (c := c) (k := k) (Q := Q) (y := y) (x := m)
    omega
theorem lookP_len {s p r c k Q : Int} {m : Nat} : ∀ P, (lookP s p r c k Q P m).length ≤ P * m
  | 0 => by simp [lookP]
  | P + 1 => by
    rw [lookP_succ, List.length_append, Nat.succ_mul]
    have := lookP_len (s := s) (p := p) (r := r) (c := c) (k := k) (Q := Q) (m := m) P
    have := lookRow_len (s := s) (p := p) (r := r) (c := c) (k := k) (Q := Q) (y := P) m
    omega
theorem flat_one {α : Type} {n k : Nat} {f : Nat → List α} (hk : k < n) (h : ∀ i, i < n → i ≠ k → f i = []) : (List.range n).flatMap f = f k := by
  induction n with
  | zero => omega
  | succ n ih =>
    rw [List.range_succ, List.flatMap_append]
    simp only [List.flatMap_cons, List.flatMap_nil, List.append_nil]
    by_cases e : k = n
    · subst e
      have : (List.range k).flatMap f = [] := by
        rw [List.flatMap_eq_nil_iff]
        intro i hi
        have := List.mem_range.1 hi
        exact h i (by omega) (by omega)
      rw [this, List.nil_append]
    · rw [ih (by omega) fun i hi => h i (by omega), h n (by omega) (by omega), List.append_nil]
theorem flat_none {α : Type} {n : Nat} {f : Nat → List α} (h : ∀ i, i < n → f i = []) : (List.range n).flatMap f = [] := by
  rw [List.flatMap_eq_nil_iff]
  exact fun i hi => h i (List.mem_range.1 hi)
theorem row_eq {a b r c V : Int} (h1 : 0 ≤ b) (h2 : b < V) (h3 : 0 ≤ c) (h4 : c < V) (e : a * V + b = r * V + c) : a = r ∧ b = c := by
  have h5 : (a - r) * V = c - b := by rw [Int.sub_mul]; omega
  have h6 : a - r = 0 := by
    rcases Int.lt_trichotomy (a - r) 0 with h | h | h
    · have := Int.mul_le_mul_of_nonneg_right (show a - r ≤ -1 by omega) (show 0 ≤ V by omega)
      omega
    · exact h
    · have := Int.mul_le_mul_of_nonneg_right (show 1 ≤ a - r by omega) (show 0 ≤ V by omega)
      omega
  rw [h6] at h5
  omega
/-- The one place of a window that lies at r, c. -/
theorem sel_win {rows cols cr cc r c : Int} {k : Nat} (hr : 0 ≤ r ∧ r ≤ rows - 1) (hc : 0 ≤ c ∧ c ≤ cols - 1) (u : Int → Int → List (Int × Int × Int)) :
    ((winF rows cols cr cc k k).flatMap fun w => if w.1 = r * cols + c then u w.2.1 w.2.2 else []) = if (inP (r - cr) 0 ((k : Int) - 1) && inP (c - cc) 0 ((k : Int) - 1)) = true then u (r - cr) (c - cc) else [] := by
  have key : ∀ i j : Nat, ((winCell rows cols cr cc i j).flatMap fun w => if w.1 = r * cols + c then u w.2.1 w.2.2 else []) = if (i : Int) = r - cr ∧ (j : Int) = c - cc then u (r - cr) (c - cc) else [] := by
    intro i j
    unfold winCell
    split
    · rename_i hin
      simp only [Bool.and_eq_true] at hin
      have b1 : 0 ≤ cr + i ∧ cr + i ≤ rows - 1 := by simpa [inP] using hin.1
      have b2 : 0 ≤ cc + j ∧ cc + j ≤ cols - 1 := by simpa [inP] using hin.2
      simp only [List.flatMap_cons, List.flatMap_nil, List.append_nil]
      by_cases e : (i : Int) = r - cr ∧ (j : Int) = c - cc
      · rw [if_pos e, if_pos (by rw [show cr + i = r by omega, show cc + j = c by omega]), e.1, e.2]
      · rw [if_neg e, if_neg]
        intro hh
        obtain ⟨g1, g2⟩ := row_eq b2.1 (by omega) hc.1 (by omega) hh
        exact e ⟨by omega, by omega⟩
    · rename_i hin
      rw [List.flatMap_nil, if_neg]
      rintro ⟨e1, e2⟩
      apply hin
      rw [inP_of (by omega) (by omega), inP_of (by omega) (by omega)]; rfl
  unfold winF winRow
  rw [List.flatMap_assoc]
  have : (fun i => ((List.range k).flatMap (winCell rows cols cr cc i)).flatMap fun w => if w.1 = r * cols + c then u w.2.1 w.2.2 else []) = fun (i : Nat) => (List.range k).flatMap fun (j : Nat) => if (i : Int) = r - cr ∧ (j : Int) = c - cc then u (r - cr) (c - cc) else [] := by
    funext i
    rw [List.flatMap_assoc]
    congr 1
    funext j
    exact key i j
  rw [this]
  by_cases g : (inP (r - cr) 0 ((k : Int) - 1) && inP (c - cc) 0 ((k : Int) - 1)) = true
  · rw [if_pos g]
    simp only [Bool.and_eq_true] at g
    have b1 : 0 ≤ r - cr ∧ r - cr ≤ k - 1 := by simpa [inP] using g.1
    have b2 : 0 ≤ c - cc ∧ c - cc ≤ k - 1 := by simpa [inP] using g.2
    obtain ⟨a, ea⟩ := Int.eq_ofNat_of_zero_le b1.1
    obtain ⟨b, eb⟩ := Int.eq_ofNat_of_zero_le b2.1
    rw [flat_one (k := a) (by omega) (fun i hi hia => flat_none fun j hj => by rw [if_neg (by omega)]), flat_one (k := b) (by omega) (fun j hj hjb => by rw [if_neg (by omega)]), if_pos (by omega)]
  · rw [if_neg g]
    refine flat_none fun i hi => flat_none fun j hj => ?_
    rw [if_neg]
    rintro ⟨e1, e2⟩
    apply g
    rw [inP_of (by omega) (by omega), inP_of (by omega) (by omega)]; rfl

theorem flat_len {α β : Type} {m : List α} {f : α → List β} (h : ∀ a, (f a).length ≤ 1) : (m.flatMap f).length ≤ m.length := by
  induction m with
  | nil => simp
  | cons a m ih =>
    rw [List.flatMap_cons, List.length_append, List.length_cons]
    have := h a
    omega
theorem lsel_v {V r c Q : Int} {y x : Nat} {l acc : List (Int × Int × Int)} {K0 : List (Int × Int × Int) → Prop} (hV : 0 ≤ V ∧ V ≤ 1000) (hr : 0 ≤ r ∧ r ≤ 1000) (hc : 0 ≤ c ∧ c ≤ 1000) (hQ : 0 ≤ Q ∧ Q ≤ 1000) (hy : y ≤ 1000) (hx : x ≤ 1000) (hl : l.length ≤ 1000000) (ha : acc.length ≤ 1000000)
    (hk : K0 (acc ++ l.flatMap fun w => if w.1 = r * V + c then [((y : Int) * Q + x, w.2.1, w.2.2)] else [])) :
    place_Lookers_n2 V r c Q y x (l.length : Int) l K0 (0, acc) := by
  refine ⟨?_⟩
  have m1 : 0 ≤ r * V := Int.mul_nonneg hr.1 hV.1
  have m2 : r * V ≤ 1000 * 1000 := Int.mul_le_mul hr.2 hV.2 hV.1 (by omega)
  have m3 : 0 ≤ (y : Int) * Q := Int.mul_nonneg (by omega) hQ.1
  have m4 : (y : Int) * Q ≤ 1000 * 1000 := Int.mul_le_mul (by omega) hQ.2 hQ.1 (by omega)
  have eg : ((0 : Int), acc) = (fun j : Nat => ((j : Int), acc ++ (l.take j).flatMap fun w => if w.1 = r * V + c then [((y : Int) * Q + x, w.2.1, w.2.2)] else [])) 0 := by simp
  rw [eg]
  refine Loop.range (B := place_Lookers_n2_B V r c Q y x (l.length : Int) l K0) (f := fun j : Nat => ((j : Int), acc ++ (l.take j).flatMap fun w => if w.1 = r * V + c then [((y : Int) * Q + x, w.2.1, w.2.2)] else [])) l.length (fun _ => True) trivial ?_ ?_
  · intro i hi _ X hX
    have hX := hX trivial
    unfold place_Lookers_n2_B
    rw [if_pos (decide_eq_true (show (i : Int) < (l.length : Int) by omega))]
    dsimp only at hX ⊢
    refine ⟨by omega, ?_⟩
    rw [Int.toNat_natCast]
    have hg : l.getD i (0, 0, 0) = l[i] := by rw [List.getD_eq_getElem?_getD, List.getElem?_eq_getElem hi]; rfl
    rw [hg, wrap_i64 (r * V) (by omega) (by omega), wrap_i64 (r * V + c) (by omega) (by omega), wrap_i64 ((y : Int) * Q) (by omega) (by omega), wrap_i64 ((y : Int) * Q + x) (by omega) (by omega)]
    rw [List.take_add_one, List.getElem?_eq_getElem hi, List.flatMap_append, ← List.append_assoc] at hX
    simp only [Option.toList_some, List.flatMap_cons, List.flatMap_nil, List.append_nil] at hX
    by_cases g : l[i].1 = r * V + c
    · rw [if_pos (by simpa using g)]
      rw [if_pos g] at hX
      refine ⟨?_, ⟨?_⟩⟩
      · have hfl : ((l.take i).flatMap fun w => if w.1 = r * V + c then [((y : Int) * Q + x, w.2.1, w.2.2)] else []).length ≤ 1000000 := by
          have h1 := flat_len (m := l.take i) (f := fun w => if w.1 = r * V + c then [((y : Int) * Q + x, w.2.1, w.2.2)] else []) fun w => by split <;> simp
          rw [List.length_take] at h1
          omega
        rw [List.length_append]
        simp only [List.length_singleton]
        omega
      · unfold place_Lookers_n3_t
        rw [wrap_i64 ((i : Int) + 1) (by omega) (by omega)]
        exact hX
    · rw [if_neg (by simpa using g)]
      rw [if_neg g, List.append_nil] at hX
      refine ⟨?_⟩
      unfold place_Lookers_n3_t
      rw [wrap_i64 ((i : Int) + 1) (by omega) (by omega)]
      exact hX
  · intro _ X
    unfold place_Lookers_n2_B
    rw [if_neg (by simp)]
    dsimp only
    rw [List.take_length]
    exact hk
theorem lrow_v {H V r c s p : Int} {k Q y : Nat} {acc : List (Int × Int × Int)} {K0 : List (Int × Int × Int) → Prop} (hH : H ≤ 16) (hV : V ≤ 16) (hr : 0 ≤ r ∧ r ≤ H - 1) (hc : 0 ≤ c ∧ c ≤ V - 1) (hk5 : k ≤ 5) (hs : 1 ≤ s ∧ s ≤ 4) (hp : 0 ≤ p ∧ p ≤ 5) (hQ : Q ≤ 25) (hy : y ≤ 25) (ha : acc.length ≤ 10000)
    (hk : K0 (acc ++ lookRow s p r c k Q y Q)) : place_Lookers_n1 V r c Q y Q H V k s p K0 (0, acc) := by
  refine ⟨?_⟩
  have eg : ((0 : Int), acc) = (fun j : Nat => ((j : Int), acc ++ lookRow s p r c k Q y j)) 0 := by simp [lookRow]
  rw [eg]
  refine Loop.range (B := place_Lookers_n1_B V r c Q y Q H V k s p K0) (f := fun j : Nat => ((j : Int), acc ++ lookRow s p r c k Q y j)) Q (fun _ => True) trivial ?_ ?_
  · intro x hx _ X hX
    have hX := hX trivial
    unfold place_Lookers_n1_B
    rw [if_pos (decide_eq_true (show (x : Int) < (Q : Int) by omega))]
    dsimp only at hX ⊢
    refine window_v (by omega) (by omega) (by omega) (by omega) (by omega) (by omega) (by omega) ?_
    have hl := winF_len (rows := H) (cols := V) (cr := s * y - p) (cc := s * x - p) (k := k) k
    have hkk : k * k ≤ 5 * 5 := Nat.mul_le_mul hk5 hk5
    have hll := lookRow_len (s := s) (p := p) (r := r) (c := c) (k := k) (Q := Q) (y := y) x
    refine lsel_v (by omega) (by omega) (by omega) (by omega) (by omega) (by omega) (by omega) (by rw [List.length_append]; omega) ?_
    rw [wrap_i64 ((x : Int) + 1) (by omega) (by omega), sel_win hr hc fun a b => [((y : Int) * Q + x, a, b)], List.append_assoc]
    rw [lookRow_succ] at hX
    exact hX
  · intro _ X
    unfold place_Lookers_n1_B
    rw [if_neg (by simp)]
    exact hk
/-- Whether there are no windows, or no such place. -/
def noLook (rows cols r c k s p : Int) : Bool := ((decide (outF rows k s p < 1) || decide (outF cols k s p < 1)) || !inP r 0 (rows - 1)) || !inP c 0 (cols - 1)
def lookF (rows cols r c k s p : Int) : List (Int × Int × Int) := if noLook rows cols r c k s p = true then [] else lookP s p r c k (outF cols k s p) (outF rows k s p).toNat (outF cols k s p).toNat
theorem lookers_v {rows cols r c k s p : Int} {Q : List (Int × Int × Int) → Prop} (hrc : -1000000 ≤ rows ∧ rows ≤ 1000000 ∧ -1000000 ≤ cols ∧ cols ≤ 1000000) (h : Q (lookF rows cols r c k s p)) : place_Lookers rows cols r c k s p Q := by
  refine ⟨?_⟩
  unfold place_Lookers_t
  refine ⟨?_⟩
  unfold place_plane_out_t
  refine out_v (out_v ?_)
  unfold lookF noLook at h
  dsimp only
  rw [wrap_i64 (rows - 1) (by omega) (by omega), wrap_i64 (cols - 1) (by omega) (by omega)]
  refine or_v (b := decide (outF rows k s p < 1) || decide (outF cols k s p < 1)) (c := !inP r 0 (rows - 1)) (fun P hp => pin_v hp) (fun v2 e2 => ?_) rfl
  refine or_v (c := !inP c 0 (cols - 1)) (fun P hp => pin_v hp) (fun v5 e5 => ?_) rfl
  rw [← e2, ← e5] at h
  cases hv : v5 with
  | true => rw [hv, if_pos rfl] at h; rw [if_pos (by rfl)]; exact h
  | false =>
    rw [hv, if_neg (by simp)] at h
    rw [if_neg (by simp)]
    rw [hv, e2] at e5
    have := e5.symm
    simp only [Bool.or_eq_false_iff, Bool.not_eq_false', decide_eq_false_iff_not] at this
    obtain ⟨⟨⟨g1, g2⟩, g3⟩, g4⟩ := this
    obtain ⟨b1, b2, b3, b4, b5, _⟩ := out_ok (n := rows) (k := k) (s := s) (p := p) (by omega)
    obtain ⟨c1, _⟩ := out_ok (n := cols) (k := k) (s := s) (p := p) (by omega)
    have r1 : 0 ≤ r ∧ r ≤ rows - 1 := by simpa [inP] using g3
    have r2 : 0 ≤ c ∧ c ≤ cols - 1 := by simpa [inP] using g4
    obtain ⟨P, eP, hP⟩ := out_nat (n := rows) (k := k) (s := s) (p := p)
    obtain ⟨R, eR, hR⟩ := out_nat (n := cols) (k := k) (s := s) (p := p)
    obtain ⟨K, rfl⟩ := Int.eq_ofNat_of_zero_le (show 0 ≤ k by omega)
    rw [eP, eR, Int.toNat_natCast, Int.toNat_natCast] at h
    rw [eP, eR]
    refine ⟨?_⟩
    refine Loop.range (B := place_Lookers_n0_B cols r c R P rows cols K s p _) (f := fun y : Nat => ((y : Int), lookP s p r c K R y R)) P (fun _ => True) trivial ?_ ?_
    · intro y hy _ X hX
      have hX := hX trivial
      unfold place_Lookers_n0_B
      rw [if_pos (decide_eq_true (show (y : Int) < (P : Int) by omega))]
      dsimp only at hX ⊢
      have hl := lookP_len (s := s) (p := p) (r := r) (c := c) (k := K) (Q := R) (m := R) y
      have hl2 : y * R ≤ 25 * 25 := Nat.mul_le_mul (by omega) hR
      refine lrow_v (by omega) (by omega) r1 r2 (by omega) b3 (by omega) hR (by omega) (by omega) ?_
      rw [wrap_i64 ((y : Int) + 1) (by omega) (by omega)]
      rw [lookP_succ] at hX
      exact hX
    · intro _ X
      unfold place_Lookers_n0_B
      rw [if_neg (by simp)]
      exact h

end Go.Proofs.Ytmleeffinagncaa

namespace Go.Proofs.Ytmleeffinagncaa
open Go.Mach Go.RowKit
set_option maxRecDepth 100000
set_option linter.unusedVariables false
set_option linter.unusedSimpArgs false

theorem lookF_in {rows cols r c s p : Int} {K P Q : Nat} (eP : outF rows K s p = P) (eQ : outF cols K s p = Q) : InP K (P * Q) (lookF rows cols r c K s p) := by
  unfold lookF
  split
  · intro z hz; simp at hz
  · rw [eP, eQ, Int.toNat_natCast, Int.toNat_natCast]
    intro z hz
    unfold lookP lookRow at hz
    simp only [List.mem_flatMap, List.mem_range] at hz
    obtain ⟨y, hy, x, hx, hz⟩ := hz
    unfold lookCell at hz
    split at hz
    · rename_i g
      simp only [Bool.and_eq_true] at g
      have b1 : 0 ≤ r - (s * y - p) ∧ r - (s * y - p) ≤ K - 1 := by simpa [inP] using g.1
      have b2 : 0 ≤ c - (s * x - p) ∧ c - (s * x - p) ≤ K - 1 := by simpa [inP] using g.2
      obtain ⟨a, ea⟩ := Int.eq_ofNat_of_zero_le b1.1
      obtain ⟨b, eb⟩ := Int.eq_ofNat_of_zero_le b2.1
      refine ⟨y * Q + x, a, b, ?_, ix_lt hy hx, by omega, by omega⟩
      rw [ea, eb, ← Int.natCast_mul, ← Int.natCast_add] at hz
      simpa using hz
    · simp at hz
theorem lookF_len {rows cols r c k s p : Int} : (lookF rows cols r c k s p).length ≤ 625 := by
  unfold lookF
  split
  · simp
  · obtain ⟨P, eP, hP⟩ := out_nat (n := rows) (k := k) (s := s) (p := p)
    obtain ⟨Q, eQ, hQ⟩ := out_nat (n := cols) (k := k) (s := s) (p := p)
    rw [eP, eQ, Int.toNat_natCast, Int.toNat_natCast]
    have h1 := lookP_len (s := s) (p := p) (r := r) (c := c) (k := k) (Q := Q) (m := Q) P
    have h2 : P * Q ≤ 25 * 25 := Nat.mul_le_mul hP hQ
    omega

/-- One product of Input. -/
def inG (gd wd : List Int) (O C plane K m c o : Nat) (z : Int × Int × Int) : Int := gd.getD ((m * O + o) * plane + z.1.toNat) 0 * wd.getD (((o * C + c) * K + z.2.1.toNat) * K + z.2.2.toNat) 0
theorem iz_v {C K plane m o c n O : Nat} {gd wd : List Int} {l : List (Int × Int × Int)} {t : Int} {K0 : Int → Prop} (hx : gd.length = n * O * plane) (hw : wd.length = O * C * K * K) (bx : n * O * plane ≤ 8192) (bw : O * C * K * K ≤ 8192) (ax : All8 gd) (aw : All8 wd) (hm : m < n) (ho : o < O) (hc : c < C) (hl : InP K plane l) (hll : l.length ≤ 1000000)
    (h : K0 (IntKind.i64.wrap (t + lsum l (inG gd wd O C plane K m c o)))) : conv_Input_n5 O C K plane m c o (l.length : Int) gd wd l K0 (IntKind.i64.wrap t, 0) := by
  refine ⟨?_⟩
  have eg : (IntKind.i64.wrap t, (0 : Int)) = (fun i : Nat => (IntKind.i64.wrap (t + sumTo (fun i => inG gd wd O C plane K m c o (l.getD i (0, 0, 0))) i), (i : Int))) 0 := by simp [sumTo]
  rw [eg]
  refine Loop.range (B := conv_Input_n5_B O C K plane m c o (l.length : Int) gd wd l K0) (f := fun i : Nat => (IntKind.i64.wrap (t + sumTo (fun i => inG gd wd O C plane K m c o (l.getD i (0, 0, 0))) i), (i : Int))) l.length (fun _ => True) trivial ?_ ?_
  · intro i hi _ X hX
    have hX := hX trivial
    unfold conv_Input_n5_B
    rw [if_pos (decide_eq_true (show (i : Int) < (l.length : Int) by omega))]
    dsimp only at hX ⊢
    refine ⟨by omega, ?_⟩
    rw [Int.toNat_natCast]
    obtain ⟨a, r, q, ez, ha, hr, hq⟩ := hl (l.getD i (0, 0, 0)) (by rw [List.getD_eq_getElem?_getD, List.getElem?_eq_getElem hi]; exact List.getElem_mem hi)
    have g1 : (m * O + o) * plane + a < n * O * plane := ix_lt (ix_lt hm ho) ha
    have g2 : ((o * C + c) * K + r) * K + q < O * C * K * K := ix_lt (ix_lt (ix_lt ho hc) hr) hq
    have g3 : m * O + o ≤ (m * O + o) * plane := Nat.le_mul_of_pos_right _ (by omega)
    have g5 : (o * C + c) * K + r ≤ ((o * C + c) * K + r) * K := Nat.le_mul_of_pos_right _ (by omega)
    have g7 : o * C + c ≤ (o * C + c) * K := Nat.le_mul_of_pos_right _ (by omega)
    have ef : inG gd wd O C plane K m c o (l.getD i (0, 0, 0)) = gd.getD ((m * O + o) * plane + a) 0 * wd.getD (((o * C + c) * K + r) * K + q) 0 := by
      unfold inG; rw [ez]; simp only [Int.toNat_natCast]
    simp only [sumTo, ef] at hX
    rw [ez]
    dsimp only
    rw [ix (r := m) (n := O) (i := o) (by omega), ix (r := m * O + o) (n := plane) (i := a) (by omega), ix (r := o) (n := C) (i := c) (by omega), ix (r := o * C + c) (n := K) (i := r) (by omega), ix (r := (o * C + c) * K + r) (n := K) (i := q) (by omega)]
    refine ⟨by omega, by omega, ?_⟩
    simp only [Int.toNat_natCast]
    have b1 := ax.at_ ((m * O + o) * plane + a)
    have b2 := aw.at_ (((o * C + c) * K + r) * K + q)
    have b3 := mul8 b1 b2
    rw [wrap_i64 (gd.getD ((m * O + o) * plane + a) 0) (by omega) (by omega), wrap_i64 (wd.getD (((o * C + c) * K + r) * K + q) 0) (by omega) (by omega), wrap_i64 (_ * _) (by omega) (by omega), wrap_i64 ((i : Int) + 1) (by omega) (by omega), w64_add_l, Int.add_assoc]
    exact hX
  · intro _ X
    unfold conv_Input_n5_B
    rw [if_neg (by simp)]
    rw [lsum_getD l _ (0, 0, 0)] at h
    exact h
theorem io_v {C K plane m c n O : Nat} {gd wd : List Int} {l : List (Int × Int × Int)} {t : Int} {K0 : Int → Prop} (hx : gd.length = n * O * plane) (hw : wd.length = O * C * K * K) (bx : n * O * plane ≤ 8192) (bw : O * C * K * K ≤ 8192) (ax : All8 gd) (aw : All8 wd) (hm : m < n) (hc : c < C) (hl : InP K plane l) (hll : l.length ≤ 1000000) (hO : O ≤ 10000)
    (h : K0 (IntKind.i64.wrap (t + sumTo (fun o => lsum l (inG gd wd O C plane K m c o)) O))) : conv_Input_n4 O C K plane m c O gd wd l K0 (IntKind.i64.wrap t, 0) := by
  refine ⟨?_⟩
  have eg : (IntKind.i64.wrap t, (0 : Int)) = (fun i : Nat => (IntKind.i64.wrap (t + sumTo (fun o => lsum l (inG gd wd O C plane K m c o)) i), (i : Int))) 0 := by simp [sumTo]
  rw [eg]
  refine Loop.range (B := conv_Input_n4_B O C K plane m c O gd wd l K0) (f := fun i : Nat => (IntKind.i64.wrap (t + sumTo (fun o => lsum l (inG gd wd O C plane K m c o)) i), (i : Int))) O (fun _ => True) trivial ?_ ?_
  · intro o ho _ X hX
    have hX := hX trivial
    unfold conv_Input_n4_B
    rw [if_pos (decide_eq_true (show (o : Int) < (O : Int) by omega))]
    dsimp only at hX ⊢
    refine iz_v hx hw bx bw ax aw hm ho hc hl hll ?_
    rw [wrap_i64 ((o : Int) + 1) (by omega) (by omega), Int.add_assoc]
    exact hX
  · intro _ X
    unfold conv_Input_n4_B
    rw [if_neg (by simp)]
    exact h

section
variable {n C O K H V P Q : Nat} {s p : Int} {gd wd : List Int}
/-- One sum of Input. -/
def inCell (H V C O K P Q : Nat) (s p : Int) (gd wd : List Int) (m c y x : Nat) : Int := IntKind.i32.wrap (sumTo (fun o => lsum (lookF H V y x K s p) (inG gd wd O C (P * Q) K m c o)) O)
/-- What Input is given, where it may be. -/
structure InIn (n C O K H V P Q : Nat) (s p : Int) (gd wd : List Int) : Prop where
  hg : gd.length = n * O * (P * Q)
  hw : wd.length = O * C * K * K
  bg : n * O * (P * Q) ≤ 8192
  bw : O * C * K * K ≤ 8192
  ag : All8 gd
  aw : All8 wd
  eP : outF H K s p = P
  eQ : outF V K s p = Q
  hH : 1 ≤ H ∧ H ≤ 16
  hV : 1 ≤ V ∧ V ≤ 16
  bo : n * C * H * V ≤ 8192
  hC : C ≤ 8192
  hO : O ≤ 8192
  hn : n ≤ 8192
theorem ic_v (g : InIn n C O K H V P Q s p gd wd) {C0 : Nat → Nat → Nat → Nat → Prop} {L : List Int} {m y x : Nat} {K0 : List Int → Prop} (hm : m < n) (hy : y < H) (hx : x < V) (hL : Fill n C H V (inCell H V C O K P Q s p gd wd) C0 L)
    (h : ∀ L', Fill n C H V (inCell H V C O K P Q s p gd wd) (fun m' c' y' x' => C0 m' c' y' x' ∨ (m' = m ∧ y' = y ∧ x' = x)) L' → K0 L') :
    conv_Input_n3 H V O C K ((P * Q : Nat) : Int) ((y * V + x : Nat) : Int) m C gd wd (lookF H V y x K s p) K0 (0, L) := by
  refine ⟨?_⟩
  have hbo := g.bo; have hC := g.hC
  refine Loop.rangeI (B := conv_Input_n3_B H V O C K ((P * Q : Nat) : Int) ((y * V + x : Nat) : Int) m C gd wd (lookF H V y x K s p) K0) C (fun i st => st.1 = (i : Int) ∧ Fill n C H V (inCell H V C O K P Q s p gd wd) (fun m' c' y' x' => C0 m' c' y' x' ∨ (m' = m ∧ y' = y ∧ x' = x ∧ c' < i)) st.2) ⟨rfl, hL.mono fun m' c' y' x' _ _ _ _ hc => hc.elim id fun h => absurd h.2.2.2 (by omega)⟩ ?_ ?_
  · rintro c hc ⟨c', M⟩ ⟨e1, hM⟩ X hX
    simp only at e1 hM
    subst e1
    unfold conv_Input_n3_B
    rw [if_pos (decide_eq_true (show (c : Int) < (C : Int) by omega))]
    dsimp only
    have e0 : ((0 : Int), (0 : Int)) = (IntKind.i64.wrap 0, (0 : Int)) := by decide
    rw [e0]
    have hll := lookF_len (rows := H) (cols := V) (r := y) (c := x) (k := K) (s := s) (p := p)
    refine io_v g.hg g.hw g.bg g.bw g.ag g.aw hm hc (lookF_in g.eP g.eQ) (by omega) (by have := g.hO; omega) ?_
    have g1 := ix4_lt (P := H) (Q := V) hm hc hy hx
    have ei : ix4 C H V m c y x = (m * C + c) * H * V + (y * V + x) := by unfold ix4; rw [Nat.add_mul, Nat.add_assoc]
    rw [ei] at g1
    have g2 : m * C + c ≤ (m * C + c) * H := Nat.le_mul_of_pos_right _ (by omega)
    have g3 : (m * C + c) * H ≤ (m * C + c) * H * V := Nat.le_mul_of_pos_right _ (by omega)
    rw [ix (r := m) (n := C) (i := c) (by omega), mulw (r := m * C + c) (n := H) (by omega), ix (r := (m * C + c) * H) (n := V) (i := y * V + x) (by omega)]
    refine ⟨by rw [hM.len]; omega, ?_⟩
    rw [Int.toNat_natCast, wrap_i64 ((c : Int) + 1) (by omega) (by omega), w32_w64, ← ei, Int.zero_add]
    refine hX _ ⟨by simp, ?_⟩
    refine hM.set hm hc hy hx rfl fun m' c' y' x' _ _ _ _ hc => ?_
    rcases hc with hc | ⟨c1, c2, c3, c4⟩
    · exact .inl (.inl hc)
    · rcases Nat.lt_or_ge c' c with c5 | c5
      · exact .inl (.inr ⟨c1, c2, c3, c5⟩)
      · exact .inr ⟨c1, by omega, c2, c3⟩
  · rintro ⟨c', M⟩ ⟨e1, hM⟩ X
    simp only at e1 hM
    subst e1
    unfold conv_Input_n3_B
    rw [if_neg (by simp)]
    exact h _ (hM.mono fun m' c' y' x' _ h2 _ _ hc => hc.elim .inl fun ⟨a, b, c⟩ => .inr ⟨a, b, c, h2⟩)
theorem im_v (g : InIn n C O K H V P Q s p gd wd) {C0 : Nat → Nat → Nat → Nat → Prop} {L : List Int} {y x : Nat} {K0 : List Int → Prop} (hy : y < H) (hx : x < V) (hL : Fill n C H V (inCell H V C O K P Q s p gd wd) C0 L)
    (h : ∀ L', Fill n C H V (inCell H V C O K P Q s p gd wd) (fun m' c' y' x' => C0 m' c' y' x' ∨ (y' = y ∧ x' = x)) L' → K0 L') :
    conv_Input_n2 H V O C K ((P * Q : Nat) : Int) ((y * V + x : Nat) : Int) n gd wd (lookF H V y x K s p) K0 (0, L) := by
  refine ⟨?_⟩
  have hn := g.hn
  refine Loop.rangeI (B := conv_Input_n2_B H V O C K ((P * Q : Nat) : Int) ((y * V + x : Nat) : Int) n gd wd (lookF H V y x K s p) K0) n (fun i st => st.1 = (i : Int) ∧ Fill n C H V (inCell H V C O K P Q s p gd wd) (fun m' c' y' x' => C0 m' c' y' x' ∨ (y' = y ∧ x' = x ∧ m' < i)) st.2) ⟨rfl, hL.mono fun m' c' y' x' _ _ _ _ hc => hc.elim id fun h => absurd h.2.2 (by omega)⟩ ?_ ?_
  · rintro m hm ⟨m', M⟩ ⟨e1, hM⟩ X hX
    simp only at e1 hM
    subst e1
    unfold conv_Input_n2_B
    rw [if_pos (decide_eq_true (show (m : Int) < (n : Int) by omega))]
    dsimp only
    refine ic_v g hm hy hx hM fun L' hL' => ?_
    rw [wrap_i64 ((m : Int) + 1) (by omega) (by omega)]
    refine hX _ ⟨by simp, hL'.mono fun m' c' y' x' _ _ _ _ hc => ?_⟩
    rcases hc with hc | ⟨c1, c2, c3⟩
    · exact .inl (.inl hc)
    · rcases Nat.lt_or_ge m' m with c5 | c5
      · exact .inl (.inr ⟨c1, c2, c5⟩)
      · exact .inr ⟨by omega, c1, c2⟩
  · rintro ⟨m', M⟩ ⟨e1, hM⟩ X
    simp only at e1 hM
    subst e1
    unfold conv_Input_n2_B
    rw [if_neg (by simp)]
    exact h _ (hM.mono fun m' c' y' x' h2 _ _ _ hc => hc.elim .inl fun ⟨a, b⟩ => .inr ⟨a, b, h2⟩)
theorem ii_v (g : InIn n C O K H V P Q s p gd wd) {L : List Int} {K0 : List Int → Prop} (hL : L.length = n * C * H * V)
    (h : K0 (lst4 n C H V (inCell H V C O K P Q s p gd wd))) :
    conv_Input_n1 H V n O C K ((P * Q : Nat) : Int) ((H * V : Nat) : Int) gd wd H V K s p P Q K0 (0, L) := by
  refine ⟨?_⟩
  have hH := g.hH; have hV := g.hV
  have hHV : H * V ≤ 16 * 16 := Nat.mul_le_mul hH.2 hV.2
  refine Loop.rangeI (B := conv_Input_n1_B H V n O C K ((P * Q : Nat) : Int) ((H * V : Nat) : Int) gd wd H V K s p P Q K0) (H * V) (fun i st => st.1 = (i : Int) ∧ Fill n C H V (inCell H V C O K P Q s p gd wd) (fun m' c' y' x' => y' * V + x' < i) st.2) ⟨rfl, hL, fun m' c' y' x' _ _ _ _ hc => absurd hc (by omega)⟩ ?_ ?_
  · rintro i hi ⟨i', M⟩ ⟨e1, hM⟩ X hX
    simp only at e1 hM
    subst e1
    unfold conv_Input_n1_B
    rw [if_pos (decide_eq_true (show (i : Int) < ((H * V : Nat) : Int) by omega))]
    obtain ⟨c1, c2, c3⟩ := ix_cover hi
    obtain ⟨y, ey⟩ : ∃ y, i / V = y := ⟨_, rfl⟩
    obtain ⟨x, ex⟩ : ∃ x, i % V = x := ⟨_, rfl⟩
    rw [ey, ex] at c3
    rw [ey] at c1
    rw [ex] at c2
    dsimp only
    have et : IntKind.i64.wrap ((i : Int).tdiv (V : Int)) = (y : Int) := by
      rw [Int.tdiv_eq_ediv_of_nonneg (by omega), ← Int.natCast_ediv, ey, wrap_i64 _ (by omega) (by omega)]
    have em : (i : Int).tmod (V : Int) = (x : Int) := by
      rw [Int.tmod_eq_emod_of_nonneg (by omega), ← Int.natCast_emod, ex]
    rw [et, em, wrap_i64 ((i : Int) + 1) (by omega) (by omega)]
    refine ⟨by omega, by omega, ⟨?_⟩⟩
    unfold conv_windows_lookers_t
    refine lookers_v (by show -1000000 ≤ (H : Int) ∧ (H : Int) ≤ 1000000 ∧ -1000000 ≤ (V : Int) ∧ (V : Int) ≤ 1000000; omega) ?_
    dsimp only
    have ei : (i : Int) = ((y * V + x : Nat) : Int) := by omega
    have key := im_v g c1 c2 hM (K0 := fun L' => X ((i : Int) + 1, L')) fun L' hL' => hX _ ⟨by simp, hL'.mono fun m' c' y' x' _ _ hy' hx' hc => ?_⟩
    · rw [← ei] at key
      exact key
    · rcases Nat.lt_or_ge (y' * V + x') i with c5 | c5
      · exact .inl c5
      · refine .inr ?_
        have : y' * V + x' = y * V + x := by omega
        exact ix_inj hx' c2 this
  · rintro ⟨i', M⟩ ⟨e1, hM⟩ X
    simp only at e1 hM
    subst e1
    unfold conv_Input_n1_B
    rw [if_neg (by simp)]
    rw [hM.all fun _ _ y' x' _ _ hy hx => ix_lt hy hx]
    exact h
end

/-! ### What Input answers -/
def inBad (g w : T3) (h v s p : Int) : Bool :=
  (((!(decide (0 < outF h (w.1.getD 2 0) s p) && decide (0 < outF v (w.1.getD 2 0) s p)) || (w.1.getD 0 0 != g.1.getD 1 0)) || (w.1.getD 3 0 != w.1.getD 2 0)) || (g.1.getD 2 0 != outF h (w.1.getD 2 0) s p)) || (g.1.getD 3 0 != outF v (w.1.getD 2 0) s p)
def inDims (g w : T3) (h v : Int) : List Int := [g.1.getD 0 0, w.1.getD 1 0, h, v]
def inN (g w : T3) : Int := g.1.getD 1 0 * w.1.getD 2 0 * w.1.getD 2 0
def inE (g w : T3) (h v s p : Int) : Int :=
  if (cmayF [g, w] != 0) = true then cmayF [g, w]
  else if inBad g w h v s p = true then 2
  else (sumsF (inDims g w h v) (g.2.1 + w.2.1) (inN g w)).2
def inData (g w : T3) (h v s p : Int) : List Int :=
  lst4 (g.1.getD 0 0).toNat (w.1.getD 1 0).toNat h.toNat v.toNat
    (inCell h.toNat v.toNat (w.1.getD 1 0).toNat (g.1.getD 1 0).toNat (w.1.getD 2 0).toNat (g.1.getD 2 0).toNat (g.1.getD 3 0).toNat s p g.2.2 w.2.2)
def inputF (g w : T3) (h v s p : Int) : T3 × Int := if (inE g w h v s p != 0) = true then (Z3, inE g w h v s p) else ((inDims g w h v, (g.2.1 + w.2.1, inData g w h v s p)), 0)
theorem input_v {g w : T3} {h v s p : Int} {Q : T3 × Int → Prop} (ag : All8 g.2.2) (aw : All8 w.2.2) (hq : Q (inputF g w h v s p)) : conv_Input g w h v s p Q := by
  refine ⟨?_⟩
  unfold conv_Input_t
  unfold inputF inE at hq
  refine cmay_v (by simp) ?_
  show (if (cmayF [g, w] != 0) = true then _ else _)
  by_cases h2 : (cmayF [g, w] != 0) = true
  · rw [if_pos h2]
    simp only [h2, if_true] at hq
    exact hq
  · rw [if_neg h2]
    simp only [h2, Bool.false_eq_true, if_false] at hq
    have hz : cmayF [g, w] = 0 := by simpa using h2
    have hzz := cmayF_zero hz
    obtain ⟨mg, lg⟩ := hzz g (by simp)
    obtain ⟨mw, lw⟩ := hzz w (by simp)
    obtain ⟨n, O, P, R, eg, g1, g2, g3, g4, g5, g6, g7, g8⟩ := may4 mg lg
    obtain ⟨O', C, K, K', ew, w1, w2, w3, w4, w5, w6, w7, w8⟩ := may4 mw lw
    refine ⟨by omega, by omega, by omega, by omega, over_v ?_⟩
    refine orb_v (b := !(decide (0 < outF h (w.1.getD 2 0) s p) && decide (0 < outF v (w.1.getD 2 0) s p))) (c := w.1.getD 0 0 != g.1.getD 1 0) (fun _ P hp => ⟨by omega, hp⟩) (fun v3 e3 => ?_) rfl
    refine orb_v (c := w.1.getD 3 0 != w.1.getD 2 0) (fun _ P hp => ⟨by omega, hp⟩) (fun v5 e5 => ?_) rfl
    refine orb_v (c := g.1.getD 2 0 != outF h (w.1.getD 2 0) s p) (fun _ P hp => ⟨by omega, hp⟩) (fun v7 e7 => ?_) rfl
    refine orb_v (c := g.1.getD 3 0 != outF v (w.1.getD 2 0) s p) (fun _ P hp => ⟨by omega, hp⟩) (fun v9 e9 => ?_) rfl
    have hv : v9 = inBad g w h v s p := by rw [e9, e7, e5, e3]; rfl
    rw [← hv] at hq
    cases v9 with
    | true => exact hq
    | false =>
      rw [if_neg (by simp)]
      simp only [Bool.false_eq_true, if_false] at hq
      have hv2 := hv.symm
      unfold inBad at hv2
      simp only [Bool.or_eq_false_iff, bne_f, Bool.not_eq_false', Bool.and_eq_true, decide_eq_true_eq] at hv2
      obtain ⟨⟨⟨⟨⟨o1, o2⟩, c1⟩, c2⟩, c3⟩, c4⟩ := hv2
      simp only [eg, ew, List.getD_cons_zero, List.getD_cons_succ] at o1 o2 c1 c2 c3 c4
      have eo : O' = O := by omega
      have ek : K' = K := by omega
      subst eo ek
      obtain ⟨a1, a2, a3, a4, a5, a6⟩ := out_ok o1
      obtain ⟨d1, _⟩ := out_ok o2
      obtain ⟨H, rfl⟩ := Int.eq_ofNat_of_zero_le (show 0 ≤ h by omega)
      obtain ⟨V, rfl⟩ := Int.eq_ofNat_of_zero_le (show 0 ≤ v by omega)
      unfold inN inDims inData at hq
      simp only [eg, ew, List.getD_cons_zero, List.getD_cons_succ, ← c3, ← c4] at hq ⊢
      have k1 : O' ≤ O' * C := Nat.le_mul_of_pos_right _ (by omega)
      have k2 : O' * C ≤ O' * C * K' := Nat.le_mul_of_pos_right _ (by omega)
      have k3 : O' * C * K' ≤ O' * C * K' * K' := Nat.le_mul_of_pos_right _ (by omega)
      have k4 : O' * K' ≤ 8192 * 5 := Nat.mul_le_mul (by omega) (by omega)
      have k5 : O' * K' * K' ≤ 8192 * 5 * 5 := Nat.mul_le_mul k4 (by omega)
      have k6 : C ≤ O' * C := Nat.le_mul_of_pos_left _ (by omega)
      have k7 : n ≤ n * O' := Nat.le_mul_of_pos_right _ (by omega)
      have k8 : n * O' ≤ n * O' * P := Nat.le_mul_of_pos_right _ (by omega)
      have k9 : n * O' * P ≤ n * O' * P * R := Nat.le_mul_of_pos_right _ (by omega)
      have ka : H * V ≤ 16 * 16 := Nat.mul_le_mul (by omega) (by omega)
      have kb : P * R ≤ n * O' * (P * R) := Nat.le_mul_of_pos_left _ (Nat.mul_pos (by omega) (by omega))
      rw [← Nat.mul_assoc] at kb
      rw [mulw (r := O') (n := K') (by omega), mulw (r := O' * K') (n := K') (by omega), wrap_i64 (g.2.1 + w.2.1) (by omega) (by omega)]
      rw [← Int.natCast_mul, ← Int.natCast_mul] at hq
      refine fresh_v ⟨?_⟩
      unfold conv_Input_n0_t
      by_cases h9 : (sumsF [(n : Int), (C : Int), (H : Int), (V : Int)] (g.2.1 + w.2.1) ((O' * K' * K' : Nat) : Int)).2 = 0
      · obtain ⟨f1, f2, f3, f4⟩ := sumsF_ok h9
        rw [f4] at hq ⊢
        simp only [bne_self_eq_false, Bool.false_eq_true, if_false] at hq ⊢
        obtain ⟨q1, q2, q3, q4, e1, e2, e3, e4, _, _, _, _, s5, s6⟩ := szF4 f3
        have r1 : q1 = n := by omega
        have r2 : q2 = C := by omega
        have r3 : q3 = H := by omega
        have r4 : q4 = V := by omega
        subst r1 r2 r3 r4
        rw [s6]
        have gg : InIn q1 q2 O' K' q3 q4 P R s p g.2.2 w.2.2 := ⟨by rw [g6]; exact Nat.mul_assoc _ _ _, w6, by rw [← Nat.mul_assoc]; exact g5, w5, ag, aw, c3.symm, c4.symm, by omega, by omega, s5, by omega, by omega, by omega⟩
        rw [mulw (r := P) (n := R) (by omega), mulw (r := q3) (n := q4) (by omega), Int.toNat_natCast]
        refine ii_v gg (by simp) ?_
        simp only [Int.toNat_natCast] at hq
        exact hq
      · rw [if_pos (by simpa using h9)]
        rw [if_pos (by simpa using h9)] at hq
        rw [sumsF_err h9]
        exact hq

theorem weightF_ok {n O C H V P R K : Nat} {g x : T3} {s p : Int} (mg : mayF g = true) (mx : mayF x = true) (eg : g.1 = [(n : Int), O, P, R]) (ex : x.1 = [(n : Int), C, H, V])
    (eP : outF H K s p = P) (eR : outF V K s p = R) (hP : 0 < P) (hR : 0 < R) (hf : n * P * R ≤ 959) (hs : 0 < szF [(O : Int), C, K, K]) :
    weightF g x K s p = (([(O : Int), C, K, K], (g.2.1 + x.2.1, w4 O C K K (wtCell n O C K P R H V s p g.2.2 x.2.2))), 0) := by
  have hc : cmayF [g, x] = 0 := cmayF_of fun t ht => by
    rcases List.mem_cons.1 ht with e | e
    · subst e; exact ⟨mg, by rw [eg]; rfl⟩
    · rcases List.mem_singleton.1 e with rfl
      exact ⟨mx, by rw [ex]; rfl⟩
  have x2 := (mayF_iff.1 mg).2.2.1
  have w2 := (mayF_iff.1 mx).2.2.1
  have hb : wtBad g x K s p = false := by
    unfold wtBad
    simp only [eg, ex, List.getD_cons_zero, List.getD_cons_succ, eP, eR]
    simp
    omega
  have hE : wtE g x K s p = 0 := by
    unfold wtE
    rw [hc, hb]
    simp only [Bool.false_eq_true, if_false, bne_self_eq_false]
    unfold wtDims wtN
    simp only [eg, ex, List.getD_cons_zero, List.getD_cons_succ]
    rw [sumsF_of (fitsF_iff.2 ⟨by rw [← Int.natCast_mul, ← Int.natCast_mul]; omega, by rw [← Int.natCast_mul, ← Int.natCast_mul]; omega⟩) (by omega) hs]
  unfold weightF
  rw [hE, if_neg (by simp)]
  unfold wtDims wtData
  simp only [eg, ex, List.getD_cons_zero, List.getD_cons_succ, Int.toNat_natCast]
theorem biasF_ok {n O P R : Nat} {g : T3} (mg : mayF g = true) (eg : g.1 = [(n : Int), O, P, R]) (hf : n * (P * R) ≤ 959) (hs : 0 < szF [(O : Int)]) :
    biasF g = (([(O : Int)], (g.2.1, tab O fun o => IntKind.i32.wrap (bsSum (P * R) O g.2.2 o g.2.2.length))), 0) := by
  have hc : cmayF [g] = 0 := cmayF_of fun t ht => by
    rcases List.mem_singleton.1 ht with rfl
    exact ⟨mg, by rw [eg]; rfl⟩
  have x2 := (mayF_iff.1 mg).2.2.1
  have hE : bsE g = 0 := by
    unfold bsE
    rw [hc]
    simp only [Bool.false_eq_true, if_false, bne_self_eq_false]
    simp only [eg, List.getD_cons_zero, List.getD_cons_succ]
    rw [sumsF_of (fitsF_iff.2 ⟨by rw [← Int.natCast_mul, ← Int.natCast_mul]; omega, by rw [← Int.natCast_mul, ← Int.natCast_mul]; omega⟩) (by omega) hs]
  unfold biasF
  rw [hE, if_neg (by simp)]
  unfold bsData
  simp only [eg, List.getD_cons_zero, List.getD_cons_succ, ← Int.natCast_mul, Int.toNat_natCast]


end Go.Proofs.Ytmleeffinagncaa
