/- What conv.Weight comes to. Laws; no condition. -/
import Derived.Test.YtmleeffinagncaaQ9
namespace Go.Proofs.Ytmleeffinagncaa
open Go.Mach Go.RowKit
set_option maxRecDepth 100000
set_option linter.unusedVariables false
set_option linter.unusedSimpArgs false

/-- Sums of 32 bits, place by place. -/
def w4 (n O P Q : Nat) (f : Nat → Nat → Nat → Nat → Int) : List Int := lst4 n O P Q fun m o p q => IntKind.i32.wrap (f m o p q)
theorem w4_len (n O P Q : Nat) (f : Nat → Nat → Nat → Nat → Int) : (w4 n O P Q f).length = n * O * P * Q := lst4_len _ _ _ _ _
theorem w4_get {n O P Q m o p q : Nat} {f : Nat → Nat → Nat → Nat → Int} (hm : m < n) (ho : o < O) (hp : p < P) (hq : q < Q) : (w4 n O P Q f).getD (ix4 O P Q m o p q) 0 = IntKind.i32.wrap (f m o p q) := lst4_get hm ho hp hq
theorem w4_congr {n O P Q : Nat} {f g : Nat → Nat → Nat → Nat → Int} (h : ∀ m o p q, m < n → o < O → p < P → q < Q → f m o p q = g m o p q) : w4 n O P Q f = w4 n O P Q g :=
  lst4_congr fun m o p q hm ho hp hq => by rw [h m o p q hm ho hp hq]
theorem w4_add {n O P Q m0 o0 p0 q0 : Nat} {f : Nat → Nat → Nat → Nat → Int} {v : Int} (hm : m0 < n) (ho : o0 < O) (hp : p0 < P) (hq : q0 < Q) :
    (w4 n O P Q f).set (ix4 O P Q m0 o0 p0 q0) (IntKind.i32.wrap ((w4 n O P Q f).getD (ix4 O P Q m0 o0 p0 q0) 0 + v)) = w4 n O P Q fun m o p q => f m o p q + if m = m0 ∧ o = o0 ∧ p = p0 ∧ q = q0 then v else 0 := by
  refine list4_ext (by rw [List.length_set]; exact w4_len _ _ _ _ _) (w4_len _ _ _ _ _) fun m o p q h1 h2 h3 h4 => ?_
  have hl := ix4_lt hm ho hp hq
  rw [getD_set (by rw [w4_len]; exact hl)]
  by_cases e : ix4 O P Q m0 o0 p0 q0 = ix4 O P Q m o p q
  · obtain ⟨e1, e2, e3, e4⟩ := ix4_inj ho hp hq h2 h3 h4 e
    rw [if_pos e, w4_get h1 h2 h3 h4, if_pos ⟨e1.symm, e2.symm, e3.symm, e4.symm⟩, w4_get hm ho hp hq, w32_add_l, e1, e2, e3, e4]
  · rw [if_neg e, w4_get h1 h2 h3 h4, w4_get h1 h2 h3 h4, if_neg, Int.add_zero]
    rintro ⟨rfl, rfl, rfl, rfl⟩
    exact e rfl
theorem zeros4 (n O P Q : Nat) : List.replicate (n * O * P * Q) (0 : Int) = w4 n O P Q fun _ _ _ _ => 0 := by
  refine list4_ext (by simp) (w4_len _ _ _ _ _) fun m o p q h1 h2 h3 h4 => ?_
  rw [getD_repl (ix4_lt h1 h2 h3 h4), w4_get h1 h2 h3 h4]
  show 0 = IntKind.i32.wrap 0
  decide

section
variable {n O C K P Q plane : Nat} {gd xd : List Int}
/-- What Weight is given, where it may be. -/
structure WtIn (n O C K P Q plane : Nat) (gd xd : List Int) : Prop where
  hg : gd.length = n * O * P * Q
  hx : xd.length = n * C * plane
  bg : n * O * P * Q ≤ 8192
  bx : n * C * plane ≤ 8192
  bw : O * C * K * K ≤ 8192
  ag : All8 gd
  ax : All8 xd
  hn : 1 ≤ n
  hO : 1 ≤ O
  hC : 1 ≤ C
  hP : 1 ≤ P
  hQ : 1 ≤ Q
/-- One product of Weight. -/
def wtG (O C P Q plane : Nat) (gd xd : List Int) (i m o c a : Nat) : Int := gd.getD ((m * O + o) * P * Q + i) 0 * xd.getD ((m * C + c) * plane + a) 0
theorem wc_v (h : WtIn n O C K P Q plane gd xd) {f : Nat → Nat → Nat → Nat → Int} {i m o a r q : Nat} {K0 : List Int → Prop} (hi : i < P * Q) (hm : m < n) (ho : o < O) (ha : a < plane) (hr : r < K) (hq : q < K)
    (hk : K0 (w4 O C K K fun o' c' r' q' => f o' c' r' q' + if o' = o ∧ r' = r ∧ q' = q then wtG O C P Q plane gd xd i m o c' a else 0)) :
    conv_Weight_n5 K O C plane i m o C gd xd P Q a r q K0 (0, w4 O C K K f) := by
  refine ⟨?_⟩
  have eg : ((0 : Int), w4 O C K K f) = (fun j : Nat => ((j : Int), w4 O C K K fun o' c' r' q' => f o' c' r' q' + if o' = o ∧ c' < j ∧ r' = r ∧ q' = q then wtG O C P Q plane gd xd i m o c' a else 0)) 0 := by
    dsimp only
    congr 1
    refine w4_congr fun o' c' r' q' _ _ _ _ => ?_
    rw [if_neg (by omega)]; omega
  rw [eg]
  refine Loop.range (B := conv_Weight_n5_B K O C plane i m o C gd xd P Q a r q K0) (f := fun j : Nat => ((j : Int), w4 O C K K fun o' c' r' q' => f o' c' r' q' + if o' = o ∧ c' < j ∧ r' = r ∧ q' = q then wtG O C P Q plane gd xd i m o c' a else 0)) C (fun _ => True) trivial ?_ ?_
  · intro c hc _ X hX
    have hX := hX trivial
    have k1 := h.bg; have k2 := h.bx; have k3 := h.bw
    have i1 := ix4_lt (P := K) (Q := K) ho hc hr hq
    have i2 : (m * C + c) * plane + a < n * C * plane := ix_lt (ix_lt hm hc) ha
    have i3 : (m * O + o) * (P * Q) + i < n * O * (P * Q) := ix_lt (ix_lt hm ho) hi
    rw [← Nat.mul_assoc, ← Nat.mul_assoc] at i3
    have j1 : o * C + c ≤ (o * C + c) * K := Nat.le_mul_of_pos_right _ (by omega)
    have j2 : (o * C + c) * K + r ≤ ((o * C + c) * K + r) * K := Nat.le_mul_of_pos_right _ (by omega)
    have j3 : m * C + c ≤ (m * C + c) * plane := Nat.le_mul_of_pos_right _ (by omega)
    have j4 : m * O + o ≤ (m * O + o) * P := Nat.le_mul_of_pos_right _ h.hP
    have j5 : (m * O + o) * P ≤ (m * O + o) * P * Q := Nat.le_mul_of_pos_right _ h.hQ
    unfold ix4 at i1
    have hc8 : c ≤ 8192 := by omega
    unfold conv_Weight_n5_B
    rw [if_pos (decide_eq_true (show (c : Int) < (C : Int) by omega))]
    dsimp only at hX ⊢
    rw [ix (r := o) (n := C) (i := c) (by omega), ix (r := o * C + c) (n := K) (i := r) (by omega), ix (r := (o * C + c) * K + r) (n := K) (i := q) (by omega)]
    rw [ix (r := m) (n := O) (i := o) (by omega), mulw (r := m * O + o) (n := P) (by omega), ix (r := (m * O + o) * P) (n := Q) (i := i) (by omega)]
    rw [ix (r := m) (n := C) (i := c) (by omega), ix (r := m * C + c) (n := plane) (i := a) (by omega)]
    rw [w4_len]
    refine ⟨by omega, by rw [h.hg]; omega, by rw [h.hx]; omega, by omega, ?_⟩
    simp only [Int.toNat_natCast]
    rw [wrap_i64 ((c : Int) + 1) (by omega) (by omega), w32_add_r]
    have g8 := h.ag.at_ ((m * O + o) * P * Q + i)
    have x8 := h.ax.at_ ((m * C + c) * plane + a)
    rw [wrap_i32 (gd.getD ((m * O + o) * P * Q + i) 0) (by omega) (by omega), wrap_i32 (xd.getD ((m * C + c) * plane + a) 0) (by omega) (by omega)]
    have es := w4_add (n := O) (O := C) (P := K) (Q := K) (m0 := o) (o0 := c) (p0 := r) (q0 := q) (f := fun o' c' r' q' => f o' c' r' q' + if o' = o ∧ c' < c ∧ r' = r ∧ q' = q then wtG O C P Q plane gd xd i m o c' a else 0) (v := gd.getD ((m * O + o) * P * Q + i) 0 * xd.getD ((m * C + c) * plane + a) 0) ho hc hr hq
    unfold ix4 at es
    rw [es]
    have ef : (w4 O C K K fun o' c' r' q' => (f o' c' r' q' + if o' = o ∧ c' < c ∧ r' = r ∧ q' = q then wtG O C P Q plane gd xd i m o c' a else 0) + if o' = o ∧ c' = c ∧ r' = r ∧ q' = q then gd.getD ((m * O + o) * P * Q + i) 0 * xd.getD ((m * C + c) * plane + a) 0 else 0) = w4 O C K K fun o' c' r' q' => f o' c' r' q' + if o' = o ∧ c' < c + 1 ∧ r' = r ∧ q' = q then wtG O C P Q plane gd xd i m o c' a else 0 := by
      refine w4_congr fun o' c' r' q' _ _ _ _ => ?_
      rw [Int.add_assoc]
      congr 1
      by_cases g : o' = o ∧ r' = r ∧ q' = q
      · obtain ⟨g1, g2, g3⟩ := g
        subst g1 g2 g3
        by_cases g4 : c' = c
        · subst g4
          rw [if_neg (by omega), if_pos ⟨rfl, rfl, rfl, rfl⟩, if_pos ⟨rfl, by omega, rfl, rfl⟩]
          unfold wtG; omega
        · rw [if_neg (c := _ ∧ c' = c ∧ _) (by omega)]
          by_cases g5 : c' < c
          · rw [if_pos ⟨rfl, g5, rfl, rfl⟩, if_pos ⟨rfl, by omega, rfl, rfl⟩]; omega
          · rw [if_neg (by omega), if_neg (by omega)]; omega
      · rw [if_neg (fun hh => g ⟨hh.1, hh.2.2⟩), if_neg (fun hh => g ⟨hh.1, hh.2.2⟩), if_neg (fun hh => g ⟨hh.1, hh.2.2⟩)]; omega
    rw [ef]
    exact hX
  · intro _ X
    unfold conv_Weight_n5_B
    rw [if_neg (by simp)]
    have : (w4 O C K K fun o' c' r' q' => f o' c' r' q' + if o' = o ∧ c' < C ∧ r' = r ∧ q' = q then wtG O C P Q plane gd xd i m o c' a else 0) = w4 O C K K fun o' c' r' q' => f o' c' r' q' + if o' = o ∧ r' = r ∧ q' = q then wtG O C P Q plane gd xd i m o c' a else 0 := by
      refine w4_congr fun o' c' r' q' _ h2 _ _ => ?_
      congr 1
      by_cases g : o' = o ∧ r' = r ∧ q' = q
      · rw [if_pos g, if_pos ⟨g.1, h2, g.2⟩]
      · rw [if_neg g, if_neg (fun hh => g ⟨hh.1, hh.2.2⟩)]
    dsimp only
    rw [this]
    exact hk
theorem wo_v (h : WtIn n O C K P Q plane gd xd) {f : Nat → Nat → Nat → Nat → Int} {i m a r q : Nat} {K0 : List Int → Prop} (hi : i < P * Q) (hm : m < n) (ha : a < plane) (hr : r < K) (hq : q < K)
    (hk : K0 (w4 O C K K fun o' c' r' q' => f o' c' r' q' + if r' = r ∧ q' = q then wtG O C P Q plane gd xd i m o' c' a else 0)) :
    conv_Weight_n4 K O C plane i m O gd xd P Q a r q K0 (0, w4 O C K K f) := by
  refine ⟨?_⟩
  have hO : O ≤ 8192 := by
    have := h.bg
    have := h.hn; have := h.hP; have := h.hQ
    have : O ≤ n * O := Nat.le_mul_of_pos_left _ (by omega)
    have : n * O ≤ n * O * P := Nat.le_mul_of_pos_right _ (by omega)
    have : n * O * P ≤ n * O * P * Q := Nat.le_mul_of_pos_right _ (by omega)
    omega
  have eg : ((0 : Int), w4 O C K K f) = (fun j : Nat => ((j : Int), w4 O C K K fun o' c' r' q' => f o' c' r' q' + if o' < j ∧ r' = r ∧ q' = q then wtG O C P Q plane gd xd i m o' c' a else 0)) 0 := by
    dsimp only
    congr 1
    refine w4_congr fun o' c' r' q' _ _ _ _ => ?_
    rw [if_neg (by omega)]; omega
  rw [eg]
  refine Loop.range (B := conv_Weight_n4_B K O C plane i m O gd xd P Q a r q K0) (f := fun j : Nat => ((j : Int), w4 O C K K fun o' c' r' q' => f o' c' r' q' + if o' < j ∧ r' = r ∧ q' = q then wtG O C P Q plane gd xd i m o' c' a else 0)) O (fun _ => True) trivial ?_ ?_
  · intro o ho _ X hX
    have hX := hX trivial
    unfold conv_Weight_n4_B
    rw [if_pos (decide_eq_true (show (o : Int) < (O : Int) by omega))]
    dsimp only at hX ⊢
    refine wc_v h hi hm ho ha hr hq ?_
    rw [wrap_i64 ((o : Int) + 1) (by omega) (by omega)]
    have ef : (w4 O C K K fun o' c' r' q' => (f o' c' r' q' + if o' < o ∧ r' = r ∧ q' = q then wtG O C P Q plane gd xd i m o' c' a else 0) + if o' = o ∧ r' = r ∧ q' = q then wtG O C P Q plane gd xd i m o c' a else 0) = w4 O C K K fun o' c' r' q' => f o' c' r' q' + if o' < o + 1 ∧ r' = r ∧ q' = q then wtG O C P Q plane gd xd i m o' c' a else 0 := by
      refine w4_congr fun o' c' r' q' _ _ _ _ => ?_
      rw [Int.add_assoc]
      congr 1
      by_cases g : r' = r ∧ q' = q
      · by_cases g4 : o' = o
        · subst g4
          rw [if_neg (by omega), if_pos ⟨rfl, g⟩, if_pos ⟨by omega, g⟩]; omega
        · rw [if_neg (c := o' = o ∧ _) (by omega)]
          by_cases g5 : o' < o
          · rw [if_pos ⟨g5, g⟩, if_pos ⟨by omega, g⟩]; omega
          · rw [if_neg (by omega), if_neg (by omega)]; omega
      · rw [if_neg (fun hh => g hh.2), if_neg (fun hh => g hh.2), if_neg (fun hh => g hh.2)]; omega
    rw [ef]
    exact hX
  · intro _ X
    unfold conv_Weight_n4_B
    rw [if_neg (by simp)]
    have : (w4 O C K K fun o' c' r' q' => f o' c' r' q' + if o' < O ∧ r' = r ∧ q' = q then wtG O C P Q plane gd xd i m o' c' a else 0) = w4 O C K K fun o' c' r' q' => f o' c' r' q' + if r' = r ∧ q' = q then wtG O C P Q plane gd xd i m o' c' a else 0 := by
      refine w4_congr fun o' c' r' q' h2 _ _ _ => ?_
      congr 1
      by_cases g : r' = r ∧ q' = q
      · rw [if_pos g, if_pos ⟨h2, g⟩]
      · rw [if_neg g, if_neg (fun hh => g hh.2)]
    dsimp only
    rw [this]
    exact hk
/-- A row of products, added for all examples. -/
def wtM (n O C P Q plane : Nat) (gd xd : List Int) (i o c a : Nat) : Int := sumTo (fun m => wtG O C P Q plane gd xd i m o c a) n
theorem wm_v (h : WtIn n O C K P Q plane gd xd) {f : Nat → Nat → Nat → Nat → Int} {i a r q : Nat} {K0 : List Int → Prop} (hi : i < P * Q) (ha : a < plane) (hr : r < K) (hq : q < K)
    (hk : K0 (w4 O C K K fun o' c' r' q' => f o' c' r' q' + if r' = r ∧ q' = q then wtM n O C P Q plane gd xd i o' c' a else 0)) :
    conv_Weight_n3 K O C plane i n gd xd P Q a r q K0 (0, w4 O C K K f) := by
  refine ⟨?_⟩
  have hn : n ≤ 8192 := by
    have := h.bg
    have := h.hO; have := h.hP; have := h.hQ
    have : n ≤ n * O := Nat.le_mul_of_pos_right _ (by omega)
    have : n * O ≤ n * O * P := Nat.le_mul_of_pos_right _ (by omega)
    have : n * O * P ≤ n * O * P * Q := Nat.le_mul_of_pos_right _ (by omega)
    omega
  have eg : ((0 : Int), w4 O C K K f) = (fun j : Nat => ((j : Int), w4 O C K K fun o' c' r' q' => f o' c' r' q' + if r' = r ∧ q' = q then sumTo (fun m => wtG O C P Q plane gd xd i m o' c' a) j else 0)) 0 := by
    dsimp only
    congr 1
    refine w4_congr fun o' c' r' q' _ _ _ _ => ?_
    simp [sumTo]
  rw [eg]
  refine Loop.range (B := conv_Weight_n3_B K O C plane i n gd xd P Q a r q K0) (f := fun j : Nat => ((j : Int), w4 O C K K fun o' c' r' q' => f o' c' r' q' + if r' = r ∧ q' = q then sumTo (fun m => wtG O C P Q plane gd xd i m o' c' a) j else 0)) n (fun _ => True) trivial ?_ ?_
  · intro m hm _ X hX
    have hX := hX trivial
    unfold conv_Weight_n3_B
    rw [if_pos (decide_eq_true (show (m : Int) < (n : Int) by omega))]
    dsimp only at hX ⊢
    refine wo_v h hi hm ha hr hq ?_
    rw [wrap_i64 ((m : Int) + 1) (by omega) (by omega)]
    have ef : (w4 O C K K fun o' c' r' q' => (f o' c' r' q' + if r' = r ∧ q' = q then sumTo (fun m => wtG O C P Q plane gd xd i m o' c' a) m else 0) + if r' = r ∧ q' = q then wtG O C P Q plane gd xd i m o' c' a else 0) = w4 O C K K fun o' c' r' q' => f o' c' r' q' + if r' = r ∧ q' = q then sumTo (fun m => wtG O C P Q plane gd xd i m o' c' a) (m + 1) else 0 := by
      refine w4_congr fun o' c' r' q' _ _ _ _ => ?_
      rw [Int.add_assoc]
      congr 1
      by_cases g : r' = r ∧ q' = q
      · rw [if_pos g, if_pos g, if_pos g]; rfl
      · rw [if_neg g, if_neg g, if_neg g]; rfl
    rw [ef]
    exact hX
  · intro _ X
    unfold conv_Weight_n3_B
    rw [if_neg (by simp)]
    exact hk
/-- What a window's place adds. -/
def wtZ (n O C P Q plane : Nat) (gd xd : List Int) (i o c r q : Nat) (z : Int × Int × Int) : Int := if z.2.1 = (r : Int) ∧ z.2.2 = (q : Int) then wtM n O C P Q plane gd xd i o c z.1.toNat else 0
theorem wz_v (h : WtIn n O C K P Q plane gd xd) {f : Nat → Nat → Nat → Nat → Int} {i : Nat} {l : List (Int × Int × Int)} {K0 : List Int → Prop} (hi : i < P * Q) (hl : InP K plane l) (hll : l.length ≤ 1000000)
    (hk : K0 (w4 O C K K fun o' c' r' q' => f o' c' r' q' + lsum l (wtZ n O C P Q plane gd xd i o' c' r' q'))) :
    conv_Weight_n2 K n O C plane i (l.length : Int) gd xd P Q l K0 (0, w4 O C K K f) := by
  refine ⟨?_⟩
  have eg : ((0 : Int), w4 O C K K f) = (fun j : Nat => ((j : Int), w4 O C K K fun o' c' r' q' => f o' c' r' q' + sumTo (fun t => wtZ n O C P Q plane gd xd i o' c' r' q' (l.getD t (0, 0, 0))) j)) 0 := by
    dsimp only
    congr 1
    refine w4_congr fun o' c' r' q' _ _ _ _ => ?_
    simp [sumTo]
  rw [eg]
  refine Loop.range (B := conv_Weight_n2_B K n O C plane i (l.length : Int) gd xd P Q l K0) (f := fun j : Nat => ((j : Int), w4 O C K K fun o' c' r' q' => f o' c' r' q' + sumTo (fun t => wtZ n O C P Q plane gd xd i o' c' r' q' (l.getD t (0, 0, 0))) j)) l.length (fun _ => True) trivial ?_ ?_
  · intro t ht _ X hX
    have hX := hX trivial
    unfold conv_Weight_n2_B
    rw [if_pos (decide_eq_true (show (t : Int) < (l.length : Int) by omega))]
    dsimp only at hX ⊢
    refine ⟨by omega, ?_⟩
    rw [Int.toNat_natCast]
    obtain ⟨a, r, q, ez, ha, hr, hq⟩ := hl (l.getD t (0, 0, 0)) (by rw [List.getD_eq_getElem?_getD, List.getElem?_eq_getElem ht]; exact List.getElem_mem ht)
    simp only [sumTo, ez] at hX
    rw [ez]
    refine wm_v h hi ha hr hq ?_
    rw [wrap_i64 ((t : Int) + 1) (by omega) (by omega)]
    have ef : (w4 O C K K fun o' c' r' q' => (f o' c' r' q' + sumTo (fun t => wtZ n O C P Q plane gd xd i o' c' r' q' (l.getD t (0, 0, 0))) t) + if r' = r ∧ q' = q then wtM n O C P Q plane gd xd i o' c' a else 0) = w4 O C K K fun o' c' r' q' => f o' c' r' q' + (sumTo (fun t => wtZ n O C P Q plane gd xd i o' c' r' q' (l.getD t (0, 0, 0))) t + wtZ n O C P Q plane gd xd i o' c' r' q' (↑a, ↑r, ↑q)) := by
      refine w4_congr fun o' c' r' q' _ _ _ _ => ?_
      rw [Int.add_assoc]
      congr 2
      unfold wtZ
      dsimp only
      rw [Int.toNat_natCast]
      by_cases g : r' = r ∧ q' = q
      · rw [if_pos g, if_pos (by omega)]
      · rw [if_neg g, if_neg (by omega)]
    rw [ef]
    exact hX
  · intro _ X
    unfold conv_Weight_n2_B
    rw [if_neg (by simp)]
    dsimp only
    have : (w4 O C K K fun o' c' r' q' => f o' c' r' q' + sumTo (fun t => wtZ n O C P Q plane gd xd i o' c' r' q' (l.getD t (0, 0, 0))) l.length) = w4 O C K K fun o' c' r' q' => f o' c' r' q' + lsum l (wtZ n O C P Q plane gd xd i o' c' r' q') :=
      w4_congr fun o' c' r' q' _ _ _ _ => by rw [lsum_getD l _ (0, 0, 0)]
    rw [this]
    exact hk
end
/-- One sum of Weight. -/
def wtCell (n O C K P Q H V : Nat) (s p : Int) (gd xd : List Int) (o c r q : Nat) : Int :=
  sumTo (fun i => lsum (windowF H V ((i / Q : Nat) : Int) ((i % Q : Nat) : Int) K s p) (wtZ n O C P Q (H * V) gd xd i o c r q)) (P * Q)
theorem wi_v {n O C K P Q H V : Nat} {gd xd : List Int} {s p : Int} (h : WtIn n O C K P Q (H * V) gd xd) (hK : K ≤ 5) {K0 : List Int → Prop}
    (hk : K0 (w4 O C K K (wtCell n O C K P Q H V s p gd xd))) :
    conv_Weight_n1 K n O C ((H * V : Nat) : Int) ((P * Q : Nat) : Int) gd xd H V K s p P Q K0 (0, w4 O C K K fun _ _ _ _ => 0) := by
  have hPQ : P * Q ≤ 8192 := by
    have := h.bg
    have := h.hn; have := h.hO
    have e : n * O * P * Q = n * O * (P * Q) := Nat.mul_assoc _ _ _
    have : P * Q ≤ n * O * (P * Q) := Nat.le_mul_of_pos_left _ (Nat.mul_pos (by omega) (by omega))
    omega
  have hQ := h.hQ
  have hKK : K * K ≤ 5 * 5 := Nat.mul_le_mul hK hK
  refine ⟨?_⟩
  refine Loop.range (B := conv_Weight_n1_B K n O C ((H * V : Nat) : Int) ((P * Q : Nat) : Int) gd xd H V K s p P Q K0) (f := fun j : Nat => ((j : Int), w4 O C K K fun o c r q => sumTo (fun i => lsum (windowF H V ((i / Q : Nat) : Int) ((i % Q : Nat) : Int) K s p) (wtZ n O C P Q (H * V) gd xd i o c r q)) j)) (P * Q) (fun _ => True) trivial ?_ ?_
  · intro i hi _ X hX
    have hX := hX trivial
    unfold conv_Weight_n1_B
    rw [if_pos (decide_eq_true (show (i : Int) < ((P * Q : Nat) : Int) by omega))]
    dsimp only at hX ⊢
    obtain ⟨c1, c2, c3⟩ := ix_cover hi
    have l1 : i / Q ≤ i := Nat.div_le_self _ _
    have et : IntKind.i64.wrap ((i : Int).tdiv (Q : Int)) = ((i / Q : Nat) : Int) := by
      obtain ⟨y, ey⟩ : ∃ y, i / Q = y := ⟨_, rfl⟩
      rw [Int.tdiv_eq_ediv_of_nonneg (by omega), ← Int.natCast_ediv, ey]
      rw [ey] at l1
      rw [wrap_i64 _ (by omega) (by omega)]
    have em : (i : Int).tmod (Q : Int) = ((i % Q : Nat) : Int) := by
      rw [Int.tmod_eq_emod_of_nonneg (by omega), ← Int.natCast_emod]
    rw [et, em]
    refine ⟨by omega, by omega, ⟨?_⟩⟩
    unfold conv_windows_at_t
    refine Window_v ?_
    dsimp only
    have hwl := windowF_len (rows := H) (cols := V) (r := ((i / Q : Nat) : Int)) (c := ((i % Q : Nat) : Int)) (s := s) (p := p) (K := K)
    refine wz_v h hi windowF_in (by omega) ?_
    rw [wrap_i64 ((i : Int) + 1) (by omega) (by omega)]
    exact hX
  · intro _ X
    unfold conv_Weight_n1_B
    rw [if_neg (by simp)]
    exact hk

/-! ### What Weight answers -/
def wtBad (g x : T3) (k s p : Int) : Bool :=
  ((!(decide (0 < outF (x.1.getD 2 0) k s p) && decide (0 < outF (x.1.getD 3 0) k s p)) || (x.1.getD 0 0 != g.1.getD 0 0)) || (g.1.getD 2 0 != outF (x.1.getD 2 0) k s p)) || (g.1.getD 3 0 != outF (x.1.getD 3 0) k s p)
def wtDims (g x : T3) (k : Int) : List Int := [g.1.getD 1 0, x.1.getD 1 0, k, k]
def wtN (g : T3) : Int := g.1.getD 0 0 * g.1.getD 2 0 * g.1.getD 3 0
def wtE (g x : T3) (k s p : Int) : Int :=
  if (cmayF [g, x] != 0) = true then cmayF [g, x]
  else if wtBad g x k s p = true then 2
  else (sumsF (wtDims g x k) (g.2.1 + x.2.1) (wtN g)).2
def wtData (g x : T3) (k s p : Int) : List Int :=
  w4 (g.1.getD 1 0).toNat (x.1.getD 1 0).toNat k.toNat k.toNat
    (wtCell (g.1.getD 0 0).toNat (g.1.getD 1 0).toNat (x.1.getD 1 0).toNat k.toNat (g.1.getD 2 0).toNat (g.1.getD 3 0).toNat (x.1.getD 2 0).toNat (x.1.getD 3 0).toNat s p g.2.2 x.2.2)
def weightF (g x : T3) (k s p : Int) : T3 × Int := if (wtE g x k s p != 0) = true then (Z3, wtE g x k s p) else ((wtDims g x k, (g.2.1 + x.2.1, wtData g x k s p)), 0)
theorem sumsF_err {d : List Int} {e n : Int} (h : (sumsF d e n).2 ≠ 0) : (sumsF d e n).1 = Z3 := by
  unfold sumsF at h ⊢
  split
  · rfl
  · split
    · rfl
    · split
      · rfl
      · rename_i g1 g2 g3
        rw [if_neg g1, if_neg g2, if_neg g3] at h
        exact absurd rfl h
theorem weight_v {g x : T3} {k s p : Int} {Q : T3 × Int → Prop} (ag : All8 g.2.2) (ax : All8 x.2.2) (hq : Q (weightF g x k s p)) : conv_Weight g x k s p Q := by
  refine ⟨?_⟩
  unfold conv_Weight_t
  unfold weightF wtE at hq
  refine cmay_v (by simp) ?_
  show (if (cmayF [g, x] != 0) = true then _ else _)
  by_cases h2 : (cmayF [g, x] != 0) = true
  · rw [if_pos h2]
    simp only [h2, if_true] at hq
    exact hq
  · rw [if_neg h2]
    simp only [h2, Bool.false_eq_true, if_false] at hq
    have hz : cmayF [g, x] = 0 := by simpa using h2
    have hzz := cmayF_zero hz
    obtain ⟨mg, lg⟩ := hzz g (by simp)
    obtain ⟨mx, lx⟩ := hzz x (by simp)
    obtain ⟨n, O, P, R, eg, g1, g2, g3, g4, g5, g6, g7, g8⟩ := may4 mg lg
    obtain ⟨n', C, H, V, ex, x1, x2, x3, x4, x5, x6, x7, x8⟩ := may4 mx lx
    refine ⟨by omega, by omega, by omega, by omega, by omega, over_v ?_⟩
    refine orb_v (b := !(decide (0 < outF (x.1.getD 2 0) k s p) && decide (0 < outF (x.1.getD 3 0) k s p))) (c := x.1.getD 0 0 != g.1.getD 0 0) (fun _ P hp => ⟨by omega, hp⟩) (fun v3 e3 => ?_) rfl
    refine orb_v (c := g.1.getD 2 0 != outF (x.1.getD 2 0) k s p) (fun _ P hp => ⟨by omega, hp⟩) (fun v5 e5 => ?_) rfl
    refine orb_v (c := g.1.getD 3 0 != outF (x.1.getD 3 0) k s p) (fun _ P hp => ⟨by omega, hp⟩) (fun v7 e7 => ?_) rfl
    have hv : v7 = wtBad g x k s p := by rw [e7, e5, e3]; rfl
    rw [← hv] at hq
    cases v7 with
    | true => exact hq
    | false =>
      rw [if_neg (by simp)]
      simp only [Bool.false_eq_true, if_false] at hq
      have hv2 := hv.symm
      unfold wtBad at hv2
      simp only [Bool.or_eq_false_iff, bne_f, Bool.not_eq_false', Bool.and_eq_true, decide_eq_true_eq] at hv2
      obtain ⟨⟨⟨⟨o1, o2⟩, c1⟩, c2⟩, c3⟩ := hv2
      simp only [eg, ex, List.getD_cons_zero, List.getD_cons_succ] at o1 o2 c1 c2 c3
      have en : n' = n := by omega
      subst en
      obtain ⟨a1, a2, a3, a4, a5, a6⟩ := out_ok o1
      obtain ⟨d1, _⟩ := out_ok o2
      obtain ⟨K, rfl⟩ := Int.eq_ofNat_of_zero_le (show 0 ≤ k by omega)
      unfold wtN wtDims wtData at hq
      simp only [eg, ex, List.getD_cons_zero, List.getD_cons_succ, ← c2, ← c3] at hq ⊢
      have k0 : n' * O * P * R ≤ 8192 := g5
      have k1 : n' ≤ n' * O := Nat.le_mul_of_pos_right _ (by omega)
      have k2 : n' * P * R ≤ 8192 := by
        have e1 : n' * P * R ≤ n' * O * P * R := Nat.mul_le_mul_right _ (Nat.mul_le_mul_right _ k1)
        omega
      have k3 : n' * P ≤ n' * P * R := Nat.le_mul_of_pos_right _ (by omega)
      have k4 : H * V ≤ 16 * 16 := Nat.mul_le_mul (by omega) (by omega)
      have k5 : P * R ≤ n' * (P * R) := Nat.le_mul_of_pos_left _ (by omega)
      rw [← Nat.mul_assoc] at k5
      rw [mulw (r := n') (n := P) (by omega), mulw (r := n' * P) (n := R) (by omega), wrap_i64 (g.2.1 + x.2.1) (by omega) (by omega)]
      rw [← Int.natCast_mul, ← Int.natCast_mul] at hq
      refine fresh_v ⟨?_⟩
      unfold conv_Weight_n0_t
      by_cases h9 : (sumsF [(O : Int), (C : Int), (K : Int), (K : Int)] (g.2.1 + x.2.1) ((n' * P * R : Nat) : Int)).2 = 0
      · obtain ⟨f1, f2, f3, f4⟩ := sumsF_ok h9
        rw [f4] at hq ⊢
        simp only [bne_self_eq_false, Bool.false_eq_true, if_false] at hq ⊢
        obtain ⟨q1, q2, q3, q4, e1, e2, e3, e4, _, _, _, _, s5, s6⟩ := szF4 f3
        have r1 : q1 = O := by omega
        have r2 : q2 = C := by omega
        have r3 : q3 = K := by omega
        have r4 : q4 = K := by omega
        subst r1 r2 r3 r4
        rw [s6]
        have w : WtIn n' q1 q2 q4 P R (H * V) g.2.2 x.2.2 := ⟨by omega, by rw [x6]; exact Nat.mul_assoc _ _ _, k0, by rw [← Nat.mul_assoc]; exact x5, s5, ag, ax, by omega, by omega, by omega, by omega, by omega⟩
        rw [mulw (r := H) (n := V) (by omega), mulw (r := P) (n := R) (by omega), Int.toNat_natCast, zeros4]
        refine wi_v w (by omega) ?_
        simp only [Int.toNat_natCast] at hq
        exact hq
      · rw [if_pos (by simpa using h9)]
        rw [if_pos (by simpa using h9)] at hq
        rw [sumsF_err h9]
        exact hq

end Go.Proofs.Ytmleeffinagncaa
