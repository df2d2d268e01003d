/- Values of dense.Forward, Input, Weight, Bias. Laws; no condition. -/
import Derived.Test.YtlbapaelkdpjcaaD1
namespace Go.Proofs.Ytlbapaelkdpjcaa
open Go.Mach Go.RowKit
set_option maxRecDepth 100000
set_option linter.unusedVariables false
set_option linter.unusedSimpArgs false

/-- A sum, from a number on. -/
def sumFr (s : Int) (g : Nat → Int) : Nat → Int
  | 0 => s
  | n + 1 => sumFr s g n + g n
theorem sumFr_eq (s : Int) (g : Nat → Int) (n : Nat) : sumFr s g n = s + sumTo g n := by
  induction n with
  | zero => simp [sumFr, sumTo]
  | succ n ih => simp only [sumFr, sumTo]; rw [ih, Int.add_assoc]
theorem sumFr_bd {s : Int} {g : Nat → Int} {n : Nat} (hs : -1048576 ≤ s ∧ s ≤ 1048576) (hn : n ≤ 1000000) (h : ∀ i, -16384 ≤ g i ∧ g i ≤ 16384) : -17432576000 ≤ sumFr s g n ∧ sumFr s g n ≤ 17432576000 := by
  have := sumTo_bd g 16384 n fun i _ => h i
  rw [sumFr_eq]
  omega
theorem sumFr_bd2 {s : Int} {g : Nat → Int} {n : Nat} (hs : -1048576 ≤ s ∧ s ≤ 1048576) (hn : n ≤ 959) (h : ∀ i, -16384 ≤ g i ∧ g i ≤ 16384) : -16760832 ≤ sumFr s g n ∧ sumFr s g n ≤ 16760832 := by
  have := sumTo_bd g 16384 n fun i _ => h i
  rw [sumFr_eq]
  omega
theorem mac {s a b : Int} (hs : -17432576000 ≤ s ∧ s ≤ 17432576000) (ha : -128 ≤ a ∧ a ≤ 127) (hb : -128 ≤ b ∧ b ≤ 127) : IntKind.i64.wrap (s + IntKind.i64.wrap (IntKind.i64.wrap a * IntKind.i64.wrap b)) = s + a * b := by
  have := mul8 ha hb
  rw [wrap_i64 a (by omega) (by omega), wrap_i64 b (by omega) (by omega), wrap_i64 (a * b) (by omega) (by omega), wrap_i64 _ (by omega) (by omega)]
theorem mac1 {s a : Int} (hs : -17432576000 ≤ s ∧ s ≤ 17432576000) (ha : -128 ≤ a ∧ a ≤ 127) : IntKind.i64.wrap (s + IntKind.i64.wrap a) = s + a := by
  rw [wrap_i64 a (by omega) (by omega), wrap_i64 _ (by omega) (by omega)]


def fwC (n : Nat) (e be : Int) (b x w : List Int) (r o : Nat) : Int := sumFr (alF (b.getD o 0) be e) (fun i => x.getD (r * n + i) 0 * w.getD (o * n + i) 0) n
theorem fw1_v {r o n : Nat} {bd b xd x wd w : List Int} {be e xe we : Int} (ho : o < b.length) (hx : r * n + n ≤ x.length) (hw : o * n + n ≤ w.length) (lx : x.length ≤ 8192) (lw : w.length ≤ 8192) (hn : n ≤ 959) (bx : All8 x) (bw : All8 w) (bb : All8 b) {Q : Int → Prop} (h : Q (fwC n e be b x w r o)) : dense_Forward_1 (r : Int) (o : Int) bd be b e (n : Int) xd xe x wd we w Q := by
  refine ⟨?_⟩
  unfold dense_Forward_1_t
  refine ⟨by omega, ?_⟩
  have hb := bb.at_ o
  simp only [Int.toNat_natCast]
  rw [wrap_i64 (b.getD o 0) (by omega) (by omega)]
  refine al_v ⟨?_⟩
  refine Loop.range (B := dense_Forward_1_n58_B (r : Int) (o : Int) (n : Int) x w (n : Int) _) (f := fun i => (sumFr (alF (b.getD o 0) be e) (fun i => x.getD (r * n + i) 0 * w.getD (o * n + i) 0) i, (i : Int))) n (fun _ => True) trivial ?_ ?_
  · intro i hi _ X hX
    unfold dense_Forward_1_n58_B
    rw [if_pos (by simpa using hi)]
    dsimp only
    have hs := sumFr_bd (s := alF (b.getD o 0) be e) (g := fun i => x.getD (r * n + i) 0 * w.getD (o * n + i) 0) (n := i) (alF_rng (bb.at_ o)) (by omega) (fun i => mul8 (bx.at_ _) (bw.at_ _))
    rw [ix (r := r) (n := n) (i := i) (by omega)]
    rw [ix (r := o) (n := n) (i := i) (by omega)]
    refine ⟨⟨by omega, by omega⟩, ⟨by omega, by omega⟩, ?_⟩
    simp only [Int.toNat_natCast]
    rw [mac hs (bx.at_ _) (bw.at_ _), wrap_i64 ((i : Int) + 1) (by omega) (by omega)]
    exact hX trivial
  · intro _ X
    unfold dense_Forward_1_n58_B
    rw [if_neg (by simp)]
    exact h
theorem fwC_bd {n : Nat} {e be : Int} {b x w : List Int} {r o : Nat} (hn : n ≤ 959) (bx : All8 x) (bw : All8 w) (bb : All8 b) : -16760832 ≤ fwC n e be b x w r o ∧ fwC n e be b x w r o ≤ 16760832 := sumFr_bd2 (alF_rng (bb.at_ o)) hn (fun i => mul8 (bx.at_ _) (bw.at_ _))
def inC (n c : Nat) (g w : List Int) (r o : Nat) : Int := sumFr (0) (fun i => g.getD (r * n + i) 0 * w.getD (i * c + o) 0) n
theorem in1_v {r o n c : Nat} {gd g wd w : List Int} {ge we : Int} (hg : r * n + n ≤ g.length) (hw : w.length = n * c) (ho : o < c) (lg : g.length ≤ 8192) (lw : w.length ≤ 8192) (hn : n ≤ 959) (bg : All8 g) (bw : All8 w) {Q : Int → Prop} (h : Q (inC n c g w r o)) : dense_Input_1 (r : Int) (o : Int) (n : Int) gd ge g wd we w (c : Int) Q := by
  refine ⟨?_⟩
  unfold dense_Input_1_t
  refine ⟨?_⟩
  refine Loop.range (B := dense_Input_1_n58_B (r : Int) (o : Int) (n : Int) g w (c : Int) (n : Int) _) (f := fun i => (sumFr (0) (fun i => g.getD (r * n + i) 0 * w.getD (i * c + o) 0) i, (i : Int))) n (fun _ => True) trivial ?_ ?_
  · intro i hi _ X hX
    unfold dense_Input_1_n58_B
    rw [if_pos (by simpa using hi)]
    dsimp only
    have hq := ix_lt (R := n) (n := c) hi ho
    have hs := sumFr_bd (s := 0) (g := fun i => g.getD (r * n + i) 0 * w.getD (i * c + o) 0) (n := i) (⟨by omega, by omega⟩) (by omega) (fun i => mul8 (bg.at_ _) (bw.at_ _))
    rw [ix (r := r) (n := n) (i := i) (by omega)]
    rw [ix (r := i) (n := c) (i := o) (by omega)]
    refine ⟨⟨by omega, by omega⟩, ⟨by omega, by omega⟩, ?_⟩
    simp only [Int.toNat_natCast]
    rw [mac hs (bg.at_ _) (bw.at_ _), wrap_i64 ((i : Int) + 1) (by omega) (by omega)]
    exact hX trivial
  · intro _ X
    unfold dense_Input_1_n58_B
    rw [if_neg (by simp)]
    exact h
theorem inC_bd {n c : Nat} {g w : List Int} {r o : Nat} (hn : n ≤ 959) (bg : All8 g) (bw : All8 w) : -16760832 ≤ inC n c g w r o ∧ inC n c g w r o ≤ 16760832 := sumFr_bd2 (⟨by omega, by omega⟩) hn (fun i => mul8 (bg.at_ _) (bw.at_ _))
def wtC (n R c : Nat) (g x : List Int) (r o : Nat) : Int := sumFr (0) (fun i => g.getD (i * R + r) 0 * x.getD (i * c + o) 0) n
theorem wt1_v {r o n R c : Nat} {gd g xd x : List Int} {ge xe : Int} (hg : g.length = n * R) (hr : r < R) (hx : x.length = n * c) (ho : o < c) (lg : g.length ≤ 8192) (lx : x.length ≤ 8192) (hn : n ≤ 959) (bg : All8 g) (bx : All8 x) {Q : Int → Prop} (h : Q (wtC n R c g x r o)) : dense_Weight_1 (r : Int) (o : Int) (n : Int) gd ge g (R : Int) xd xe x (c : Int) Q := by
  refine ⟨?_⟩
  unfold dense_Weight_1_t
  refine ⟨?_⟩
  refine Loop.range (B := dense_Weight_1_n58_B (r : Int) (o : Int) g (R : Int) x (c : Int) (n : Int) _) (f := fun i => (sumFr (0) (fun i => g.getD (i * R + r) 0 * x.getD (i * c + o) 0) i, (i : Int))) n (fun _ => True) trivial ?_ ?_
  · intro i hi _ X hX
    unfold dense_Weight_1_n58_B
    rw [if_pos (by simpa using hi)]
    dsimp only
    have hq := ix_lt (R := n) (n := c) hi ho
    have hp := ix_lt (R := n) (n := R) hi hr
    have hs := sumFr_bd (s := 0) (g := fun i => g.getD (i * R + r) 0 * x.getD (i * c + o) 0) (n := i) (⟨by omega, by omega⟩) (by omega) (fun i => mul8 (bg.at_ _) (bx.at_ _))
    rw [ix (r := i) (n := R) (i := r) (by omega)]
    rw [ix (r := i) (n := c) (i := o) (by omega)]
    refine ⟨⟨by omega, by omega⟩, ⟨by omega, by omega⟩, ?_⟩
    simp only [Int.toNat_natCast]
    rw [mac hs (bg.at_ _) (bx.at_ _), wrap_i64 ((i : Int) + 1) (by omega) (by omega)]
    exact hX trivial
  · intro _ X
    unfold dense_Weight_1_n58_B
    rw [if_neg (by simp)]
    exact h
theorem wtC_bd {n R c : Nat} {g x : List Int} {r o : Nat} (hn : n ≤ 959) (bg : All8 g) (bx : All8 x) : -16760832 ≤ wtC n R c g x r o ∧ wtC n R c g x r o ≤ 16760832 := sumFr_bd2 (⟨by omega, by omega⟩) hn (fun i => mul8 (bg.at_ _) (bx.at_ _))
def bsC (n c : Nat) (g : List Int) (r o : Nat) : Int := sumFr (0) (fun i => g.getD (i * c + o) 0) n
theorem bs1_v {r o n c : Nat} {gd g : List Int} {ge : Int} (hg : g.length = n * c) (ho : o < c) (lg : g.length ≤ 8192) (hn : n ≤ 959) (bg : All8 g) {Q : Int → Prop} (h : Q (bsC n c g r o)) : dense_Bias_1 (r : Int) (o : Int) (n : Int) gd ge g (c : Int) Q := by
  refine ⟨?_⟩
  unfold dense_Bias_1_t
  refine ⟨?_⟩
  refine Loop.range (B := dense_Bias_1_n58_B (o : Int) g (c : Int) (n : Int) _) (f := fun i => (sumFr (0) (fun i => g.getD (i * c + o) 0) i, (i : Int))) n (fun _ => True) trivial ?_ ?_
  · intro i hi _ X hX
    unfold dense_Bias_1_n58_B
    rw [if_pos (by simpa using hi)]
    dsimp only
    have hq := ix_lt (R := n) (n := c) hi ho
    have hs := sumFr_bd (s := 0) (g := fun i => g.getD (i * c + o) 0) (n := i) (⟨by omega, by omega⟩) (by omega) (fun i => by have := bg.at_ (i * c + o); omega)
    rw [ix (r := i) (n := c) (i := o) (by omega)]
    refine ⟨⟨by omega, by omega⟩, ?_⟩
    simp only [Int.toNat_natCast]
    rw [mac1 hs (bg.at_ _), wrap_i64 ((i : Int) + 1) (by omega) (by omega)]
    exact hX trivial
  · intro _ X
    unfold dense_Bias_1_n58_B
    rw [if_neg (by simp)]
    exact h
theorem bsC_bd {n c : Nat} {g : List Int} {r o : Nat} (hn : n ≤ 959) (bg : All8 g) : -16760832 ≤ bsC n c g r o ∧ bsC n c g r o ≤ 16760832 := sumFr_bd2 (⟨by omega, by omega⟩) hn (fun i => by have := bg.at_ (i * c + o); omega)

/-! ### dense.made -/
abbrev Z3 : T3 := ([], 0, [])
def madeF (R C n e : Int) (f : Nat → Nat → Int) : T3 × Int :=
  if ((!fitsF n || decide (128 < e)) || decide (e < -128)) = true then (Z3, 3)
  else if (!decide (0 < szF [R, C])) = true then (Z3, 1)
  else (([R, C], (e, rowsF R.toNat C.toNat f)), 0)

theorem mdForward_v {b bd x xd w wd : List Int} {be e2 n2 xe we : Int} {R C n e : Int} {f : Nat → Nat → Int} {Q : T3 × Int → Prop}
    (hc : fitsF n = true → 0 < szF [R, C] → ∀ r q : Nat, r < R.toNat → q < C.toNat → -2147483648 ≤ f r q ∧ f r q ≤ 2147483647 ∧ ∀ K : Int → Prop, K (f r q) → dense_Forward_1 (r : Int) (q : Int) bd be b e2 n2 xd xe x wd we w K)
    (h : Q (madeF R C n e f)) : dense_made__dense_Forward_1 R C n e bd be b e2 n2 xd xe x wd we w Q := by
  refine ⟨?_⟩
  unfold dense_made__dense_Forward_1_t
  refine fits_v ?_
  unfold madeF at h
  by_cases h1 : ((!fitsF n || decide (128 < e)) || decide (e < -128)) = true
  · rw [if_pos h1] at h ⊢; exact h
  · rw [if_neg h1] at h ⊢
    refine may_v ?_
    by_cases h2 : (!decide (0 < szF [R, C])) = true
    · rw [if_pos h2] at h ⊢; exact h
    · rw [if_neg h2] at h ⊢
      have hfit : fitsF n = true := by
        simp only [Bool.or_eq_true, not_or] at h1
        have := h1.1.1
        cases hq : fitsF n with
        | true => rfl
        | false => rw [hq] at this; exact absurd rfl this
      have hsz : 0 < szF [R, C] := by simpa using h2
      have hc := hc hfit hsz
      obtain ⟨k1, k2, k3, k4, k5, _⟩ := szF2 R C hsz
      obtain ⟨R, rfl⟩ := Int.eq_ofNat_of_zero_le (show 0 ≤ R by omega)
      obtain ⟨C, rfl⟩ := Int.eq_ofNat_of_zero_le (show 0 ≤ C by omega)
      have hRC : R * C ≤ 8192 := by rw [← Int.natCast_mul] at k5; omega
      simp only [Int.toNat_natCast] at hc h
      refine ⟨?_⟩
      refine Loop.range (B := dense_made__dense_Forward_1_n122_B (C : Int) bd be b e2 n2 xd xe x wd we w (R : Int) _) (f := fun r => ((r : Int), rowsF r C f)) R (fun _ => True) trivial ?_ ?_
      · intro r hr _ X hX
        unfold dense_made__dense_Forward_1_n122_B
        rw [if_pos (by simpa using hr)]
        refine ⟨?_⟩
        dsimp only
        have hl := rowsF_len r C f
        have hrc : (r + 1) * C ≤ R * C := Nat.mul_le_mul_right C hr
        rw [Nat.add_mul, Nat.one_mul] at hrc
        rw [show (0, rowsF r C f) = ((fun q : Nat => ((q : Int), rowsF r C f ++ (List.range q).map (f r))) 0) by simp]
        refine Loop.range (f := fun q => ((q : Int), rowsF r C f ++ (List.range q).map (f r))) C (fun _ => True) trivial ?_ ?_
        · intro q hcc _ Y hY
          unfold dense_made__dense_Forward_1_n31334_B
          rw [if_pos (by simpa using hcc)]
          obtain ⟨m1, m2, m3⟩ := hc r q hr hcc
          refine m3 _ ?_
          refine ⟨?_, ?_⟩
          · simp only [List.length_append, List.length_map, List.length_range, List.length_singleton, hl]
            omega
          · have := hY trivial
            simp only [List.range_succ, List.map_append, List.map_cons, List.map_nil, ← List.append_assoc] at this
            rw [wrap_i32 _ m1 m2, wrap_i64 ((q : Int) + 1) (by omega) (by omega)]
            exact this
        · intro _ Y
          unfold dense_made__dense_Forward_1_n31334_B
          rw [if_neg (by simp)]
          have := hX trivial
          simp only [rowsF_succ] at this
          dsimp only
          rw [wrap_i64 ((r : Int) + 1) (by omega) (by omega)]
          exact this
      · intro _ X
        unfold dense_made__dense_Forward_1_n122_B
        rw [if_neg (by simp)]
        exact h

theorem mdInput_v {gd g wd w : List Int} {ge we n2 c : Int} {R C n e : Int} {f : Nat → Nat → Int} {Q : T3 × Int → Prop}
    (hc : fitsF n = true → 0 < szF [R, C] → ∀ r q : Nat, r < R.toNat → q < C.toNat → -2147483648 ≤ f r q ∧ f r q ≤ 2147483647 ∧ ∀ K : Int → Prop, K (f r q) → dense_Input_1 (r : Int) (q : Int) n2 gd ge g wd we w c K)
    (h : Q (madeF R C n e f)) : dense_made__dense_Input_1 R C n e n2 gd ge g wd we w c Q := by
  refine ⟨?_⟩
  unfold dense_made__dense_Input_1_t
  refine fits_v ?_
  unfold madeF at h
  by_cases h1 : ((!fitsF n || decide (128 < e)) || decide (e < -128)) = true
  · rw [if_pos h1] at h ⊢; exact h
  · rw [if_neg h1] at h ⊢
    refine may_v ?_
    by_cases h2 : (!decide (0 < szF [R, C])) = true
    · rw [if_pos h2] at h ⊢; exact h
    · rw [if_neg h2] at h ⊢
      have hfit : fitsF n = true := by
        simp only [Bool.or_eq_true, not_or] at h1
        have := h1.1.1
        cases hq : fitsF n with
        | true => rfl
        | false => rw [hq] at this; exact absurd rfl this
      have hsz : 0 < szF [R, C] := by simpa using h2
      have hc := hc hfit hsz
      obtain ⟨k1, k2, k3, k4, k5, _⟩ := szF2 R C hsz
      obtain ⟨R, rfl⟩ := Int.eq_ofNat_of_zero_le (show 0 ≤ R by omega)
      obtain ⟨C, rfl⟩ := Int.eq_ofNat_of_zero_le (show 0 ≤ C by omega)
      have hRC : R * C ≤ 8192 := by rw [← Int.natCast_mul] at k5; omega
      simp only [Int.toNat_natCast] at hc h
      refine ⟨?_⟩
      refine Loop.range (B := dense_made__dense_Input_1_n122_B (C : Int) n2 gd ge g wd we w c (R : Int) _) (f := fun r => ((r : Int), rowsF r C f)) R (fun _ => True) trivial ?_ ?_
      · intro r hr _ X hX
        unfold dense_made__dense_Input_1_n122_B
        rw [if_pos (by simpa using hr)]
        refine ⟨?_⟩
        dsimp only
        have hl := rowsF_len r C f
        have hrc : (r + 1) * C ≤ R * C := Nat.mul_le_mul_right C hr
        rw [Nat.add_mul, Nat.one_mul] at hrc
        rw [show (0, rowsF r C f) = ((fun q : Nat => ((q : Int), rowsF r C f ++ (List.range q).map (f r))) 0) by simp]
        refine Loop.range (f := fun q => ((q : Int), rowsF r C f ++ (List.range q).map (f r))) C (fun _ => True) trivial ?_ ?_
        · intro q hcc _ Y hY
          unfold dense_made__dense_Input_1_n31334_B
          rw [if_pos (by simpa using hcc)]
          obtain ⟨m1, m2, m3⟩ := hc r q hr hcc
          refine m3 _ ?_
          refine ⟨?_, ?_⟩
          · simp only [List.length_append, List.length_map, List.length_range, List.length_singleton, hl]
            omega
          · have := hY trivial
            simp only [List.range_succ, List.map_append, List.map_cons, List.map_nil, ← List.append_assoc] at this
            rw [wrap_i32 _ m1 m2, wrap_i64 ((q : Int) + 1) (by omega) (by omega)]
            exact this
        · intro _ Y
          unfold dense_made__dense_Input_1_n31334_B
          rw [if_neg (by simp)]
          have := hX trivial
          simp only [rowsF_succ] at this
          dsimp only
          rw [wrap_i64 ((r : Int) + 1) (by omega) (by omega)]
          exact this
      · intro _ X
        unfold dense_made__dense_Input_1_n122_B
        rw [if_neg (by simp)]
        exact h

theorem mdWeight_v {gd g xd x : List Int} {ge xe n2 R2 c : Int} {R C n e : Int} {f : Nat → Nat → Int} {Q : T3 × Int → Prop}
    (hc : fitsF n = true → 0 < szF [R, C] → ∀ r q : Nat, r < R.toNat → q < C.toNat → -2147483648 ≤ f r q ∧ f r q ≤ 2147483647 ∧ ∀ K : Int → Prop, K (f r q) → dense_Weight_1 (r : Int) (q : Int) n2 gd ge g R2 xd xe x c K)
    (h : Q (madeF R C n e f)) : dense_made__dense_Weight_1 R C n e n2 gd ge g R2 xd xe x c Q := by
  refine ⟨?_⟩
  unfold dense_made__dense_Weight_1_t
  refine fits_v ?_
  unfold madeF at h
  by_cases h1 : ((!fitsF n || decide (128 < e)) || decide (e < -128)) = true
  · rw [if_pos h1] at h ⊢; exact h
  · rw [if_neg h1] at h ⊢
    refine may_v ?_
    by_cases h2 : (!decide (0 < szF [R, C])) = true
    · rw [if_pos h2] at h ⊢; exact h
    · rw [if_neg h2] at h ⊢
      have hfit : fitsF n = true := by
        simp only [Bool.or_eq_true, not_or] at h1
        have := h1.1.1
        cases hq : fitsF n with
        | true => rfl
        | false => rw [hq] at this; exact absurd rfl this
      have hsz : 0 < szF [R, C] := by simpa using h2
      have hc := hc hfit hsz
      obtain ⟨k1, k2, k3, k4, k5, _⟩ := szF2 R C hsz
      obtain ⟨R, rfl⟩ := Int.eq_ofNat_of_zero_le (show 0 ≤ R by omega)
      obtain ⟨C, rfl⟩ := Int.eq_ofNat_of_zero_le (show 0 ≤ C by omega)
      have hRC : R * C ≤ 8192 := by rw [← Int.natCast_mul] at k5; omega
      simp only [Int.toNat_natCast] at hc h
      refine ⟨?_⟩
      refine Loop.range (B := dense_made__dense_Weight_1_n122_B (C : Int) n2 gd ge g R2 xd xe x c (R : Int) _) (f := fun r => ((r : Int), rowsF r C f)) R (fun _ => True) trivial ?_ ?_
      · intro r hr _ X hX
        unfold dense_made__dense_Weight_1_n122_B
        rw [if_pos (by simpa using hr)]
        refine ⟨?_⟩
        dsimp only
        have hl := rowsF_len r C f
        have hrc : (r + 1) * C ≤ R * C := Nat.mul_le_mul_right C hr
        rw [Nat.add_mul, Nat.one_mul] at hrc
        rw [show (0, rowsF r C f) = ((fun q : Nat => ((q : Int), rowsF r C f ++ (List.range q).map (f r))) 0) by simp]
        refine Loop.range (f := fun q => ((q : Int), rowsF r C f ++ (List.range q).map (f r))) C (fun _ => True) trivial ?_ ?_
        · intro q hcc _ Y hY
          unfold dense_made__dense_Weight_1_n31334_B
          rw [if_pos (by simpa using hcc)]
          obtain ⟨m1, m2, m3⟩ := hc r q hr hcc
          refine m3 _ ?_
          refine ⟨?_, ?_⟩
          · simp only [List.length_append, List.length_map, List.length_range, List.length_singleton, hl]
            omega
          · have := hY trivial
            simp only [List.range_succ, List.map_append, List.map_cons, List.map_nil, ← List.append_assoc] at this
            rw [wrap_i32 _ m1 m2, wrap_i64 ((q : Int) + 1) (by omega) (by omega)]
            exact this
        · intro _ Y
          unfold dense_made__dense_Weight_1_n31334_B
          rw [if_neg (by simp)]
          have := hX trivial
          simp only [rowsF_succ] at this
          dsimp only
          rw [wrap_i64 ((r : Int) + 1) (by omega) (by omega)]
          exact this
      · intro _ X
        unfold dense_made__dense_Weight_1_n122_B
        rw [if_neg (by simp)]
        exact h

theorem mdBias_v {gd g : List Int} {ge n2 c : Int} {R C n e : Int} {f : Nat → Nat → Int} {Q : T3 × Int → Prop}
    (hc : fitsF n = true → 0 < szF [R, C] → ∀ r q : Nat, r < R.toNat → q < C.toNat → -2147483648 ≤ f r q ∧ f r q ≤ 2147483647 ∧ ∀ K : Int → Prop, K (f r q) → dense_Bias_1 (r : Int) (q : Int) n2 gd ge g c K)
    (h : Q (madeF R C n e f)) : dense_made__dense_Bias_1 R C n e n2 gd ge g c Q := by
  refine ⟨?_⟩
  unfold dense_made__dense_Bias_1_t
  refine fits_v ?_
  unfold madeF at h
  by_cases h1 : ((!fitsF n || decide (128 < e)) || decide (e < -128)) = true
  · rw [if_pos h1] at h ⊢; exact h
  · rw [if_neg h1] at h ⊢
    refine may_v ?_
    by_cases h2 : (!decide (0 < szF [R, C])) = true
    · rw [if_pos h2] at h ⊢; exact h
    · rw [if_neg h2] at h ⊢
      have hfit : fitsF n = true := by
        simp only [Bool.or_eq_true, not_or] at h1
        have := h1.1.1
        cases hq : fitsF n with
        | true => rfl
        | false => rw [hq] at this; exact absurd rfl this
      have hsz : 0 < szF [R, C] := by simpa using h2
      have hc := hc hfit hsz
      obtain ⟨k1, k2, k3, k4, k5, _⟩ := szF2 R C hsz
      obtain ⟨R, rfl⟩ := Int.eq_ofNat_of_zero_le (show 0 ≤ R by omega)
      obtain ⟨C, rfl⟩ := Int.eq_ofNat_of_zero_le (show 0 ≤ C by omega)
      have hRC : R * C ≤ 8192 := by rw [← Int.natCast_mul] at k5; omega
      simp only [Int.toNat_natCast] at hc h
      refine ⟨?_⟩
      refine Loop.range (B := dense_made__dense_Bias_1_n122_B (C : Int) n2 gd ge g c (R : Int) _) (f := fun r => ((r : Int), rowsF r C f)) R (fun _ => True) trivial ?_ ?_
      · intro r hr _ X hX
        unfold dense_made__dense_Bias_1_n122_B
        rw [if_pos (by simpa using hr)]
        refine ⟨?_⟩
        dsimp only
        have hl := rowsF_len r C f
        have hrc : (r + 1) * C ≤ R * C := Nat.mul_le_mul_right C hr
        rw [Nat.add_mul, Nat.one_mul] at hrc
        rw [show (0, rowsF r C f) = ((fun q : Nat => ((q : Int), rowsF r C f ++ (List.range q).map (f r))) 0) by simp]
        refine Loop.range (f := fun q => ((q : Int), rowsF r C f ++ (List.range q).map (f r))) C (fun _ => True) trivial ?_ ?_
        · intro q hcc _ Y hY
          unfold dense_made__dense_Bias_1_n31334_B
          rw [if_pos (by simpa using hcc)]
          obtain ⟨m1, m2, m3⟩ := hc r q hr hcc
          refine m3 _ ?_
          refine ⟨?_, ?_⟩
          · simp only [List.length_append, List.length_map, List.length_range, List.length_singleton, hl]
            omega
          · have := hY trivial
            simp only [List.range_succ, List.map_append, List.map_cons, List.map_nil, ← List.append_assoc] at this
            rw [wrap_i32 _ m1 m2, wrap_i64 ((q : Int) + 1) (by omega) (by omega)]
            exact this
        · intro _ Y
          unfold dense_made__dense_Bias_1_n31334_B
          rw [if_neg (by simp)]
          have := hX trivial
          simp only [rowsF_succ] at this
          dsimp only
          rw [wrap_i64 ((r : Int) + 1) (by omega) (by omega)]
          exact this
      · intro _ X
        unfold dense_made__dense_Bias_1_n122_B
        rw [if_neg (by simp)]
        exact h


/-- A tensor of two lengths. -/
theorem ten2 {t : T3} (h : mayF t = true) (h2 : t.1.length = 2) : ∃ R C : Nat, t.1 = [(R : Int), (C : Int)] ∧ 1 ≤ R ∧ R ≤ 4096 ∧ 1 ≤ C ∧ C ≤ 4096 ∧ R * C ≤ 8192 ∧ t.2.2.length = R * C ∧ -64 ≤ t.2.1 ∧ t.2.1 ≤ 64 := by
  obtain ⟨m1, m2, m3, _⟩ := mayF_inv h
  obtain ⟨l1, l2, _, _, _⟩ := mayAccF_len m1
  obtain ⟨d, e, v⟩ := t
  match d, h2 with
  | [r, c], _ =>
    obtain ⟨k1, k2, k3, k4, k5, k6⟩ := szF2 r c l1
    obtain ⟨R, rfl⟩ := Int.eq_ofNat_of_zero_le (show 0 ≤ r by omega)
    obtain ⟨C, rfl⟩ := Int.eq_ofNat_of_zero_le (show 0 ≤ c by omega)
    simp only at l2
    have l2' : (v.length : Int) = ((R * C : Nat) : Int) := by rw [l2, k6, Int.natCast_mul]
    rw [← Int.natCast_mul] at k5
    exact ⟨R, C, rfl, by omega, by omega, by omega, by omega, by omega, by show v.length = _; omega, m2, m3⟩
theorem ten1 {t : T3} (h : mayF t = true) (h2 : t.1.length = 1) : ∃ C : Nat, t.1 = [(C : Int)] ∧ 1 ≤ C ∧ C ≤ 4096 ∧ t.2.2.length = C := by
  obtain ⟨m1, m2, m3, _⟩ := mayF_inv h
  obtain ⟨l1, l2, _, _, _⟩ := mayAccF_len m1
  obtain ⟨d, e, v⟩ := t
  match d, h2 with
  | [c], _ =>
    obtain ⟨k1, k2, k3⟩ := szF1 c l1
    obtain ⟨C, rfl⟩ := Int.eq_ofNat_of_zero_le (show 0 ≤ c by omega)
    simp only at l2
    exact ⟨C, rfl, by omega, by omega, by show v.length = _; omega⟩
theorem dmayF2 {n : Int} {x w : T3} (h : dmayF n [x, w] = 0) : mayF x = true ∧ mayF w = true ∧ (x.1.length : Int) = n ∧ (w.1.length : Int) = n := by
  unfold dmayF at h
  split at h
  · rename_i h1
    split at h
    · rename_i h2
      simp only [List.all_cons, List.all_nil, Bool.and_true, Bool.and_eq_true, beq_iff_eq] at h1 h2
      exact ⟨h1.1, h1.2, h2.1, h2.2⟩
    · omega
  · omega
theorem dmayF1 {n : Int} {x : T3} (h : dmayF n [x] = 0) : mayF x = true ∧ (x.1.length : Int) = n := by
  unfold dmayF at h
  split at h
  · rename_i h1
    split at h
    · rename_i h2
      simp only [List.all_cons, List.all_nil, Bool.and_true, beq_iff_eq] at h1 h2
      exact ⟨h1, h2⟩
    · omega
  · omega

def fwdF (x w b : T3) : T3 × Int :=
  if (!mayF b) = true then (Z3, 1)
  else if (dmayF 2 [x, w] != 0) = true then (Z3, dmayF 2 [x, w])
  else if (((w.1.getD 1 0 != x.1.getD 1 0) || ((b.1.length : Int) != 1)) || (b.1.getD 0 0 != w.1.getD 0 0)) = true then (Z3, 2)
  else madeF (x.1.getD 0 0) (w.1.getD 0 0) (x.1.getD 1 0) (x.2.1 + w.2.1) (fwC (x.1.getD 1 0).toNat (x.2.1 + w.2.1) b.2.1 b.2.2 x.2.2 w.2.2)
theorem fwd_v {x w b : T3} {Q : T3 × Int → Prop} (bx : All8 x.2.2) (bw : All8 w.2.2) (bb : All8 b.2.2) (h : Q (fwdF x w b)) : dense_Forward x w b Q := by
  refine ⟨?_⟩
  unfold dense_Forward_t
  refine mayT_v ?_
  unfold fwdF at h
  by_cases h1 : (!mayF b) = true
  · rw [if_pos h1] at h
    rw [if_pos h1]; exact h
  · rw [if_neg h1] at h
    rw [if_neg h1]
    refine dmay_v (by simp) ?_
    by_cases h2 : (dmayF 2 [x, w] != 0) = true
    · rw [if_pos h2] at h ⊢; exact h
    · rw [if_neg h2] at h ⊢
      obtain ⟨mx, mw, lx, lw⟩ := dmayF2 (by simpa using h2)
      have mb : mayF b = true := by simpa using h1
      obtain ⟨R, n, ex, x1, x2, x3, x4, x5, x6, x7, x8⟩ := ten2 mx (by omega)
      obtain ⟨C, m, ew, w1, w2, w3, w4, w5, w6, w7, w8⟩ := ten2 mw (by omega)
      rw [ex, ew] at h ⊢
      refine ⟨by simp, by simp, by simp, by simp, ?_⟩
      have key : ∀ v : Bool, (((((m : Int) != (n : Int)) || ((b.1.length : Int) != 1)) || (b.1.getD 0 0 != (C : Int))) = v) → (if v = true then Q (Z3, 2) else dense_made__dense_Forward_1 (R : Int) (C : Int) (n : Int) (IntKind.i64.wrap (x.2.1 + w.2.1)) b.1 b.2.1 b.2.2 (IntKind.i64.wrap (x.2.1 + w.2.1)) (n : Int) [(R : Int), (n : Int)] x.2.1 x.2.2 [(C : Int), (m : Int)] w.2.1 w.2.2 (fun r5 => Q ((r5.1.1, (r5.1.2.1, r5.1.2.2)), r5.2))) := by
        intro v hv
        cases v with
        | true =>
          rw [if_pos rfl]
          rw [if_pos (by simpa using hv)] at h
          exact h
        | false =>
          rw [if_neg (by simp)]
          rw [if_neg (by show ¬ _ = true; rw [show ((((([(C : Int), (m : Int)].getD 1 0) != ([(R : Int), (n : Int)].getD 1 0)) || ((b.1.length : Int) != 1)) || (b.1.getD 0 0 != [(C : Int), (m : Int)].getD 0 0))) = false from hv]; simp)] at h
          simp only [Bool.or_eq_false_iff, bne_eq_false_iff_eq] at hv
          obtain ⟨⟨h3, h4⟩, h5⟩ := hv
          obtain ⟨D, eb, b1, b2, b3⟩ := ten1 mb (by omega)
          have hD : D = C := by
            have : (D : Int) = (C : Int) := by rw [eb] at h5; simpa using h5
            omega
          have hmn : m = n := by omega
          subst hD; subst hmn
          rw [wrap_i64 (x.2.1 + w.2.1) (by omega) (by omega)]
          refine mdForward_v (f := fwC m (x.2.1 + w.2.1) b.2.1 b.2.2 x.2.2 w.2.2) ?_ h
          intro hfit hsz r c hr hcc
          have hn := fitsF_le hfit
          have := fwC_bd (n := m) (e := x.2.1 + w.2.1) (be := b.2.1) (r := r) (o := c) (by omega) bx bw bb
          refine ⟨by omega, by omega, fun K hK => ?_⟩
          simp only [Int.toNat_natCast] at hr hcc
          have k1 : (r + 1) * m ≤ R * m := Nat.mul_le_mul_right m hr
          have k2 : (c + 1) * m ≤ D * m := Nat.mul_le_mul_right m hcc
          rw [Nat.add_mul, Nat.one_mul] at k1 k2
          exact fw1_v (by omega) (by omega) (by omega) (by omega) (by omega) (by omega) bx bw bb hK
      show (if (((m : Int) != (n : Int)) || ((b.1.length : Int) != 1)) = true then _ else _)
      by_cases h3 : (((m : Int) != (n : Int)) || ((b.1.length : Int) != 1)) = true
      · rw [if_pos h3]
        exact key true (by rw [h3]; rfl)
      · rw [if_neg h3]
        have h4 : b.1.length = 1 := by
          simp only [Bool.or_eq_true, not_or, bne_iff_ne, ne_eq, Classical.not_not] at h3
          omega
        refine ⟨⟨by omega, by omega⟩, key _ ?_⟩
        have h3' : (((m : Int) != (n : Int)) || ((b.1.length : Int) != 1)) = false := by simpa using h3
        rw [h3']
        rfl


def inpF (x w : T3) : T3 × Int :=
  if (dmayF 2 [x, w] != 0) = true then (Z3, dmayF 2 [x, w])
  else if (w.1.getD 0 0 != x.1.getD 1 0) = true then (Z3, 2)
  else madeF (x.1.getD 0 0) (w.1.getD 1 0) (x.1.getD 1 0) (x.2.1 + w.2.1) (inC (x.1.getD 1 0).toNat (w.1.getD 1 0).toNat x.2.2 w.2.2)
theorem inp_v {x w : T3} {Q : T3 × Int → Prop} (bx : All8 x.2.2) (bw : All8 w.2.2) (h : Q (inpF x w)) : dense_Input x w Q := by
  refine ⟨?_⟩
  unfold dense_Input_t
  unfold inpF at h
  refine dmay_v (by simp) ?_
  by_cases h2 : (dmayF 2 [x, w] != 0) = true
  · rw [if_pos h2] at h ⊢; exact h
  · rw [if_neg h2] at h ⊢
    obtain ⟨mx, mw, lx, lw⟩ := dmayF2 (by simpa using h2)
    obtain ⟨R, n, ex, x1, x2, x3, x4, x5, x6, x7, x8⟩ := ten2 mx (by omega)
    obtain ⟨C, m, ew, w1, w2, w3, w4, w5, w6, w7, w8⟩ := ten2 mw (by omega)
    rw [ex, ew] at h ⊢
    refine ⟨by simp, by simp, by simp, by simp, ?_⟩
    by_cases h3 : ([(C : Int), (m : Int)].getD 0 0 != [(R : Int), (n : Int)].getD 1 0) = true
    · rw [if_pos h3] at h ⊢; exact h
    · rw [if_neg h3] at h ⊢
      have h3' : C = n := by
        have : (C : Int) = (n : Int) := by simpa using h3
        omega
      subst h3'
      rw [wrap_i64 (x.2.1 + w.2.1) (by omega) (by omega)]
      refine mdInput_v (f := inC C m x.2.2 w.2.2) ?_ h
      intro hfit hsz r c hr hcc
      have hn := fitsF_le hfit
      have := inC_bd (n := C) (c := m) (g := x.2.2) (w := w.2.2) (r := r) (o := c) (by have : (C : Int) ≤ 959 := hn.2; omega) bx bw
      refine ⟨by omega, by omega, fun K hK => ?_⟩
      have hr : r < R := by simpa using hr
      have hcc : c < m := by simpa using hcc
      have k1 : (r + 1) * C ≤ R * C := Nat.mul_le_mul_right C hr
      rw [Nat.add_mul, Nat.one_mul] at k1
      exact in1_v (by omega) (by omega) hcc (by omega) (by omega) (by have : (C : Int) ≤ 959 := hn.2; omega) bx bw hK


def wgtF (x w : T3) : T3 × Int :=
  if (dmayF 2 [x, w] != 0) = true then (Z3, dmayF 2 [x, w])
  else if (w.1.getD 0 0 != x.1.getD 0 0) = true then (Z3, 2)
  else madeF (x.1.getD 1 0) (w.1.getD 1 0) (x.1.getD 0 0) (x.2.1 + w.2.1) (wtC (x.1.getD 0 0).toNat (x.1.getD 1 0).toNat (w.1.getD 1 0).toNat x.2.2 w.2.2)
theorem wgt_v {x w : T3} {Q : T3 × Int → Prop} (bx : All8 x.2.2) (bw : All8 w.2.2) (h : Q (wgtF x w)) : dense_Weight x w Q := by
  refine ⟨?_⟩
  unfold dense_Weight_t
  unfold wgtF at h
  refine dmay_v (by simp) ?_
  by_cases h2 : (dmayF 2 [x, w] != 0) = true
  · rw [if_pos h2] at h ⊢; exact h
  · rw [if_neg h2] at h ⊢
    obtain ⟨mx, mw, lx, lw⟩ := dmayF2 (by simpa using h2)
    obtain ⟨R, n, ex, x1, x2, x3, x4, x5, x6, x7, x8⟩ := ten2 mx (by omega)
    obtain ⟨C, m, ew, w1, w2, w3, w4, w5, w6, w7, w8⟩ := ten2 mw (by omega)
    rw [ex, ew] at h ⊢
    refine ⟨by simp, by simp, by simp, by simp, ?_⟩
    by_cases h3 : ([(C : Int), (m : Int)].getD 0 0 != [(R : Int), (n : Int)].getD 0 0) = true
    · rw [if_pos h3] at h ⊢; exact h
    · rw [if_neg h3] at h ⊢
      have h3' : C = R := by
        have : (C : Int) = (R : Int) := by simpa using h3
        omega
      subst h3'
      rw [wrap_i64 (x.2.1 + w.2.1) (by omega) (by omega)]
      refine mdWeight_v (f := wtC C n m x.2.2 w.2.2) ?_ h
      intro hfit hsz r c hr hcc
      have hn := fitsF_le hfit
      have := wtC_bd (n := C) (R := n) (c := m) (g := x.2.2) (x := w.2.2) (r := r) (o := c) (by have : (C : Int) ≤ 959 := hn.2; omega) bx bw
      refine ⟨by omega, by omega, fun K hK => ?_⟩
      have hr : r < n := by simpa using hr
      have hcc : c < m := by simpa using hcc
      exact wt1_v (by omega) hr (by omega) hcc (by omega) (by omega) (by have : (C : Int) ≤ 959 := hn.2; omega) bx bw hK


def biaF (g : T3) : T3 × Int :=
  if (dmayF 2 [g] != 0) = true then (Z3, dmayF 2 [g])
  else
    let a := madeF 1 (g.1.getD 1 0) (g.1.getD 0 0) g.2.1 (bsC (g.1.getD 0 0).toNat (g.1.getD 1 0).toNat g.2.2)
    if (a.2 == 0) = true then (([g.1.getD 1 0], (a.1.2.1, a.1.2.2)), a.2) else a
theorem bia_v {g : T3} {Q : T3 × Int → Prop} (bg : All8 g.2.2) (h : Q (biaF g)) : dense_Bias g Q := by
  refine ⟨?_⟩
  unfold dense_Bias_t
  unfold biaF at h
  refine dmay_v (by simp) ?_
  by_cases h2 : (dmayF 2 [g] != 0) = true
  · rw [if_pos h2] at h ⊢; exact h
  · rw [if_neg h2] at h ⊢
    obtain ⟨mg, lg⟩ := dmayF1 (by simpa using h2)
    obtain ⟨n, m, eg, x1, x2, x3, x4, x5, x6, x7, x8⟩ := ten2 mg (by omega)
    rw [eg] at h ⊢
    refine ⟨by simp, by simp, ?_⟩
    refine mdBias_v (f := bsC n m g.2.2) ?_ ?_
    · intro hfit hsz r c hr hcc
      have hn := fitsF_le hfit
      have hn' : (n : Int) ≤ 959 := hn.2
      have := bsC_bd (n := n) (c := m) (g := g.2.2) (r := r) (o := c) (by omega) bg
      refine ⟨by omega, by omega, fun K hK => ?_⟩
      have hcc : c < m := by simpa using hcc
      exact bs1_v (r := r) (by omega) hcc (by omega) (by omega) bg hK
    · dsimp only at h
      have h : Q (if ((madeF 1 ([(n : Int), (m : Int)].getD 1 0) ([(n : Int), (m : Int)].getD 0 0) g.2.1 (bsC n m g.2.2)).2 == 0) = true then (([[(n : Int), (m : Int)].getD 1 0], ((madeF 1 ([(n : Int), (m : Int)].getD 1 0) ([(n : Int), (m : Int)].getD 0 0) g.2.1 (bsC n m g.2.2)).1.2.1, (madeF 1 ([(n : Int), (m : Int)].getD 1 0) ([(n : Int), (m : Int)].getD 0 0) g.2.1 (bsC n m g.2.2)).1.2.2)), (madeF 1 ([(n : Int), (m : Int)].getD 1 0) ([(n : Int), (m : Int)].getD 0 0) g.2.1 (bsC n m g.2.2)).2) else madeF 1 ([(n : Int), (m : Int)].getD 1 0) ([(n : Int), (m : Int)].getD 0 0) g.2.1 (bsC n m g.2.2)) := h
      by_cases h4 : ((madeF 1 ([(n : Int), (m : Int)].getD 1 0) ([(n : Int), (m : Int)].getD 0 0) g.2.1 (bsC n m g.2.2)).2 == 0) = true
      · rw [if_pos h4]
        rw [if_pos h4] at h
        refine ⟨?_⟩
        exact h
      · rw [if_neg h4]
        rw [if_neg h4] at h
        refine ⟨?_⟩
        exact h

end Go.Proofs.Ytlbapaelkdpjcaa
