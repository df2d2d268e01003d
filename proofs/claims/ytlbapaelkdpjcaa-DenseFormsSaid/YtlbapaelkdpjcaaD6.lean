/- The document's sums, and the law DenseForms. No condition. -/
import Derived.Test.YtlbapaelkdpjcaaD5
namespace Go.Proofs.Ytlbapaelkdpjcaa
open Go.Mach Go.RowKit
set_option maxRecDepth 100000
set_option linter.unusedVariables false
set_option linter.unusedSimpArgs false

theorem divC {i C o : Nat} (h : o < C) : (i * C + o) / C = i ∧ (i * C + o) % C = o := by
  constructor
  · rw [Nat.mul_comm, Nat.mul_add_div (by omega), Nat.div_eq_of_lt h, Nat.add_zero]
  · rw [Nat.mul_comm, Nat.mul_add_mod, Nat.mod_eq_of_lt h]
theorem rowsF_map (R C : Nat) (f : Nat → Nat → Int) : (List.range (R * C)).map (fun p => f (p / C) (p % C)) = rowsF R C f := by
  refine rowsF_ext (by simp) fun r hr c hc => ?_
  rw [map_get (ix_lt hr hc), (divC hc).1, (divC hc).2]

theorem rd_v {n C R : Nat} {x w b : List Int} {be e : Int} {K : List Int → Prop} (hx : x.length = R * n) (hw : w.length = C * n) (hb : b.length = C) (lx : x.length ≤ 8192) (lw : w.length ≤ 8192) (hn : n ≤ 959) (lr : R * C ≤ 8192) (hR : R ≤ 8192) (bx : All8 x) (bw : All8 w) (bb : All8 b) (h : K (rowsF R C (fwC n e be b x w))) : pedagogueref10_Dense_n1018 (n : Int) (C : Int) (R : Int) x w be b e K (0, List.replicate (R * C) 0) := by
  refine ⟨?_⟩
  have hA : (List.replicate (R * C) (0 : Int)).length = R * C := by simp
  generalize List.replicate (R * C) (0 : Int) = A at hA
  rw [show ((0 : Int), A) = ((fun i : Nat => ((i : Int), upTo (fun p => fwC n e be b x w (p / C) (p % C)) A (i * C))) 0) from by show _ = (((0 : Nat) : Int), upTo _ A (0 * C)); rw [Nat.zero_mul, upTo_zero]; rfl]
  refine Loop.range (B := pedagogueref10_Dense_n1018_B (n : Int) (C : Int) (R : Int) x w be b e _) (f := fun i : Nat => ((i : Int), upTo (fun p => fwC n e be b x w (p / C) (p % C)) A (i * C))) R (fun _ => True) trivial ?_ ?_
  · intro i hi _ X hX
    have hX := hX trivial
    unfold pedagogueref10_Dense_n1018_B
    rw [if_pos (decide_eq_true (show (i : Int) < (R : Int) by omega))]
    refine ⟨?_⟩
    dsimp only at hX ⊢
    have hrow : (i + 1) * C ≤ R * C := Nat.mul_le_mul_right C hi
    have hrow2 : (i + 1) * C = i * C + C := by rw [Nat.add_mul, Nat.one_mul]
    rw [show ((0 : Int), upTo (fun p => fwC n e be b x w (p / C) (p % C)) A (i * C)) = ((fun o : Nat => ((o : Int), upTo (fun p => fwC n e be b x w (p / C) (p % C)) A (i * C + o))) 0) from rfl]
    refine Loop.range (B := pedagogueref10_Dense_n260710_B (n : Int) (C : Int) (i : Int) (C : Int) x w be b e _) (f := fun o : Nat => ((o : Int), upTo (fun p => fwC n e be b x w (p / C) (p % C)) A (i * C + o))) C (fun _ => True) trivial ?_ ?_
    · intro o ho _ Y hY
      have hY := hY trivial
      unfold pedagogueref10_Dense_n260710_B
      rw [if_pos (decide_eq_true (show (o : Int) < (C : Int) by omega))]
      dsimp only at hY ⊢
      have k1 : (i + 1) * n ≤ R * n := Nat.mul_le_mul_right n hi
      have k2 : (o + 1) * n ≤ C * n := Nat.mul_le_mul_right n ho
      rw [Nat.add_mul, Nat.one_mul] at k1 k2
      refine ⟨by omega, ?_⟩
      have hb8 := bb.at_ o
      simp only [Int.toNat_natCast]
      rw [wrap_i64 (b.getD o 0) (by omega) (by omega)]
      refine ral_v ⟨?_⟩
      refine Loop.range (B := pedagogueref10_Dense_n266967450_B (n : Int) (i : Int) (o : Int) (n : Int) x w _) (f := fun j => (sumFr (alF (b.getD o 0) be e) (fun j => x.getD (i * n + j) 0 * w.getD (o * n + j) 0) j, (j : Int))) n (fun _ => True) trivial ?_ ?_
      · intro j hj _ Z hZ
        have hZ := hZ trivial
        unfold pedagogueref10_Dense_n266967450_B
        rw [if_pos (decide_eq_true (show (j : Int) < (n : Int) by omega))]
        dsimp only at hZ ⊢
        have hs := sumFr_bd (s := alF (b.getD o 0) be e) (g := fun j => x.getD (i * n + j) 0 * w.getD (o * n + j) 0) (n := j) (alF_rng (bb.at_ o)) (by omega) (fun j => mul8 (bx.at_ _) (bw.at_ _))

        rw [ix (r := i) (n := n) (i := j) (by omega)]
        rw [ix (r := o) (n := n) (i := j) (by omega)]
        refine ⟨⟨by omega, by omega⟩, ⟨by omega, by omega⟩, ?_⟩
        simp only [Int.toNat_natCast]
        rw [mac hs (bx.at_ _) (bw.at_ _), wrap_i64 ((j : Int) + 1) (by omega) (by omega)]
        exact hZ
      · intro _ Z
        unfold pedagogueref10_Dense_n266967450_B
        rw [if_neg (by simp)]
        dsimp only
        have hbd := fwC_bd (n := n) (e := e) (be := be) (b := b) (x := x) (w := w) (r := i) (o := o) hn bx bw bb
        have ee : sumFr (alF (b.getD o 0) be e) (fun j => x.getD (i * n + j) 0 * w.getD (o * n + j) 0) n = fwC n e be b x w i o := rfl
        rw [ee, ix (r := i) (n := C) (i := o) (by omega), upTo_len (by omega)]
        refine ⟨⟨by omega, by omega⟩, ?_⟩
        rw [Int.toNat_natCast, wrap_i32 _ (by omega) (by omega), wrap_i64 ((o : Int) + 1) (by omega) (by omega)]
        have es := upTo_set (h := fun p => fwC n e be b x w (p / C) (p % C)) (A := A) (j := i * C + o) (by omega)
        rw [(divC ho).1, (divC ho).2] at es
        rw [es]
        exact hY
    · intro _ Y
      unfold pedagogueref10_Dense_n260710_B
      rw [if_neg (by simp)]
      dsimp only
      rw [← hrow2, wrap_i64 ((i : Int) + 1) (by omega) (by omega)]
      exact hX
  · intro _ X
    unfold pedagogueref10_Dense_n1018_B
    rw [if_neg (by simp)]
    dsimp only
    rw [← hA, upTo_all, hA, rowsF_map]
    exact h

theorem ri_v {n C R : Nat} {g w : List Int} {K : List Int → Prop} (hg : g.length = R * n) (hw : w.length = n * C) (lg : g.length ≤ 8192) (lw : w.length ≤ 8192) (hn : n ≤ 959) (lr : R * C ≤ 8192) (hR : R ≤ 8192) (bg : All8 g) (bw : All8 w) (h : K (rowsF R C (inC n C g w))) : pedagogueref10_DenseInput_n1018 (n : Int) (C : Int) (R : Int) g w K (0, List.replicate (R * C) 0) := by
  refine ⟨?_⟩
  have hA : (List.replicate (R * C) (0 : Int)).length = R * C := by simp
  generalize List.replicate (R * C) (0 : Int) = A at hA
  rw [show ((0 : Int), A) = ((fun i : Nat => ((i : Int), upTo (fun p => inC n C g w (p / C) (p % C)) A (i * C))) 0) from by show _ = (((0 : Nat) : Int), upTo _ A (0 * C)); rw [Nat.zero_mul, upTo_zero]; rfl]
  refine Loop.range (B := pedagogueref10_DenseInput_n1018_B (n : Int) (C : Int) (R : Int) g w _) (f := fun i : Nat => ((i : Int), upTo (fun p => inC n C g w (p / C) (p % C)) A (i * C))) R (fun _ => True) trivial ?_ ?_
  · intro i hi _ X hX
    have hX := hX trivial
    unfold pedagogueref10_DenseInput_n1018_B
    rw [if_pos (decide_eq_true (show (i : Int) < (R : Int) by omega))]
    refine ⟨?_⟩
    dsimp only at hX ⊢
    have hrow : (i + 1) * C ≤ R * C := Nat.mul_le_mul_right C hi
    have hrow2 : (i + 1) * C = i * C + C := by rw [Nat.add_mul, Nat.one_mul]
    rw [show ((0 : Int), upTo (fun p => inC n C g w (p / C) (p % C)) A (i * C)) = ((fun o : Nat => ((o : Int), upTo (fun p => inC n C g w (p / C) (p % C)) A (i * C + o))) 0) from rfl]
    refine Loop.range (B := pedagogueref10_DenseInput_n260710_B (n : Int) (C : Int) (i : Int) (C : Int) g w _) (f := fun o : Nat => ((o : Int), upTo (fun p => inC n C g w (p / C) (p % C)) A (i * C + o))) C (fun _ => True) trivial ?_ ?_
    · intro o ho _ Y hY
      have hY := hY trivial
      unfold pedagogueref10_DenseInput_n260710_B
      rw [if_pos (decide_eq_true (show (o : Int) < (C : Int) by omega))]
      dsimp only at hY ⊢
      have k1 : (i + 1) * n ≤ R * n := Nat.mul_le_mul_right n hi
      rw [Nat.add_mul, Nat.one_mul] at k1
      refine ⟨?_⟩
      refine Loop.range (B := pedagogueref10_DenseInput_n266967450_B (n : Int) (C : Int) (i : Int) (o : Int) (n : Int) g w _) (f := fun j => (sumFr (0) (fun j => g.getD (i * n + j) 0 * w.getD (j * C + o) 0) j, (j : Int))) n (fun _ => True) trivial ?_ ?_
      · intro j hj _ Z hZ
        have hZ := hZ trivial
        unfold pedagogueref10_DenseInput_n266967450_B
        rw [if_pos (decide_eq_true (show (j : Int) < (n : Int) by omega))]
        dsimp only at hZ ⊢
        have hq := ix_lt (R := n) (n := C) hj ho
        have hs := sumFr_bd (s := 0) (g := fun j => g.getD (i * n + j) 0 * w.getD (j * C + o) 0) (n := j) (⟨by omega, by omega⟩) (by omega) (fun j => mul8 (bg.at_ _) (bw.at_ _))

        rw [ix (r := i) (n := n) (i := j) (by omega)]
        rw [ix (r := j) (n := C) (i := o) (by omega)]
        refine ⟨⟨by omega, by omega⟩, ⟨by omega, by omega⟩, ?_⟩
        simp only [Int.toNat_natCast]
        rw [mac hs (bg.at_ _) (bw.at_ _), wrap_i64 ((j : Int) + 1) (by omega) (by omega)]
        exact hZ
      · intro _ Z
        unfold pedagogueref10_DenseInput_n266967450_B
        rw [if_neg (by simp)]
        dsimp only
        have hbd := inC_bd (n := n) (c := C) (g := g) (w := w) (r := i) (o := o) hn bg bw
        have ee : sumFr (0) (fun j => g.getD (i * n + j) 0 * w.getD (j * C + o) 0) n = inC n C g w i o := rfl
        rw [ee, ix (r := i) (n := C) (i := o) (by omega), upTo_len (by omega)]
        refine ⟨⟨by omega, by omega⟩, ?_⟩
        rw [Int.toNat_natCast, wrap_i32 _ (by omega) (by omega), wrap_i64 ((o : Int) + 1) (by omega) (by omega)]
        have es := upTo_set (h := fun p => inC n C g w (p / C) (p % C)) (A := A) (j := i * C + o) (by omega)
        rw [(divC ho).1, (divC ho).2] at es
        rw [es]
        exact hY
    · intro _ Y
      unfold pedagogueref10_DenseInput_n260710_B
      rw [if_neg (by simp)]
      dsimp only
      rw [← hrow2, wrap_i64 ((i : Int) + 1) (by omega) (by omega)]
      exact hX
  · intro _ X
    unfold pedagogueref10_DenseInput_n1018_B
    rw [if_neg (by simp)]
    dsimp only
    rw [← hA, upTo_all, hA, rowsF_map]
    exact h

theorem rw_v {n C R : Nat} {g x : List Int} {K : List Int → Prop} (hg : g.length = n * R) (hx : x.length = n * C) (lg : g.length ≤ 8192) (lx : x.length ≤ 8192) (hn : n ≤ 959) (lr : R * C ≤ 8192) (hR : R ≤ 8192) (bg : All8 g) (bx : All8 x) (h : K (rowsF R C (wtC n R C g x))) : pedagogueref10_DenseWeight_n1018 (n : Int) (R : Int) (C : Int) (R : Int) g x K (0, List.replicate (R * C) 0) := by
  refine ⟨?_⟩
  have hA : (List.replicate (R * C) (0 : Int)).length = R * C := by simp
  generalize List.replicate (R * C) (0 : Int) = A at hA
  rw [show ((0 : Int), A) = ((fun i : Nat => ((i : Int), upTo (fun p => wtC n R C g x (p / C) (p % C)) A (i * C))) 0) from by show _ = (((0 : Nat) : Int), upTo _ A (0 * C)); rw [Nat.zero_mul, upTo_zero]; rfl]
  refine Loop.range (B := pedagogueref10_DenseWeight_n1018_B (n : Int) (R : Int) (C : Int) (R : Int) g x _) (f := fun i : Nat => ((i : Int), upTo (fun p => wtC n R C g x (p / C) (p % C)) A (i * C))) R (fun _ => True) trivial ?_ ?_
  · intro i hi _ X hX
    have hX := hX trivial
    unfold pedagogueref10_DenseWeight_n1018_B
    rw [if_pos (decide_eq_true (show (i : Int) < (R : Int) by omega))]
    refine ⟨?_⟩
    dsimp only at hX ⊢
    have hrow : (i + 1) * C ≤ R * C := Nat.mul_le_mul_right C hi
    have hrow2 : (i + 1) * C = i * C + C := by rw [Nat.add_mul, Nat.one_mul]
    rw [show ((0 : Int), upTo (fun p => wtC n R C g x (p / C) (p % C)) A (i * C)) = ((fun o : Nat => ((o : Int), upTo (fun p => wtC n R C g x (p / C) (p % C)) A (i * C + o))) 0) from rfl]
    refine Loop.range (B := pedagogueref10_DenseWeight_n260710_B (n : Int) (R : Int) (C : Int) (i : Int) (C : Int) g x _) (f := fun o : Nat => ((o : Int), upTo (fun p => wtC n R C g x (p / C) (p % C)) A (i * C + o))) C (fun _ => True) trivial ?_ ?_
    · intro o ho _ Y hY
      have hY := hY trivial
      unfold pedagogueref10_DenseWeight_n260710_B
      rw [if_pos (decide_eq_true (show (o : Int) < (C : Int) by omega))]
      dsimp only at hY ⊢
      refine ⟨?_⟩
      refine Loop.range (B := pedagogueref10_DenseWeight_n266967450_B (R : Int) (C : Int) (i : Int) (o : Int) (n : Int) g x _) (f := fun j => (sumFr (0) (fun j => g.getD (j * R + i) 0 * x.getD (j * C + o) 0) j, (j : Int))) n (fun _ => True) trivial ?_ ?_
      · intro j hj _ Z hZ
        have hZ := hZ trivial
        unfold pedagogueref10_DenseWeight_n266967450_B
        rw [if_pos (decide_eq_true (show (j : Int) < (n : Int) by omega))]
        dsimp only at hZ ⊢
        have hq := ix_lt (R := n) (n := C) hj ho
        have hp := ix_lt (R := n) (n := R) hj hi
        have hs := sumFr_bd (s := 0) (g := fun j => g.getD (j * R + i) 0 * x.getD (j * C + o) 0) (n := j) (⟨by omega, by omega⟩) (by omega) (fun j => mul8 (bg.at_ _) (bx.at_ _))

        rw [ix (r := j) (n := R) (i := i) (by omega)]
        rw [ix (r := j) (n := C) (i := o) (by omega)]
        refine ⟨⟨by omega, by omega⟩, ⟨by omega, by omega⟩, ?_⟩
        simp only [Int.toNat_natCast]
        rw [mac hs (bg.at_ _) (bx.at_ _), wrap_i64 ((j : Int) + 1) (by omega) (by omega)]
        exact hZ
      · intro _ Z
        unfold pedagogueref10_DenseWeight_n266967450_B
        rw [if_neg (by simp)]
        dsimp only
        have hbd := wtC_bd (n := n) (R := R) (c := C) (g := g) (x := x) (r := i) (o := o) hn bg bx
        have ee : sumFr (0) (fun j => g.getD (j * R + i) 0 * x.getD (j * C + o) 0) n = wtC n R C g x i o := rfl
        rw [ee, ix (r := i) (n := C) (i := o) (by omega), upTo_len (by omega)]
        refine ⟨⟨by omega, by omega⟩, ?_⟩
        rw [Int.toNat_natCast, wrap_i32 _ (by omega) (by omega), wrap_i64 ((o : Int) + 1) (by omega) (by omega)]
        have es := upTo_set (h := fun p => wtC n R C g x (p / C) (p % C)) (A := A) (j := i * C + o) (by omega)
        rw [(divC ho).1, (divC ho).2] at es
        rw [es]
        exact hY
    · intro _ Y
      unfold pedagogueref10_DenseWeight_n260710_B
      rw [if_neg (by simp)]
      dsimp only
      rw [← hrow2, wrap_i64 ((i : Int) + 1) (by omega) (by omega)]
      exact hX
  · intro _ X
    unfold pedagogueref10_DenseWeight_n1018_B
    rw [if_neg (by simp)]
    dsimp only
    rw [← hA, upTo_all, hA, rowsF_map]
    exact h


/-! ### The bias -/
theorem sumTo_upd {f f' : Nat → Int} {v : Int} {n r0 : Nat} (h0 : r0 < n) (h1 : ∀ r, r < n → r ≠ r0 → f' r = f r) (h2 : f' r0 = f r0 + v) : sumTo f' n = sumTo f n + v := by
  induction n with
  | zero => omega
  | succ n ih =>
    simp only [sumTo]
    by_cases h : r0 = n
    · subst h
      rw [h2, sumTo_congr (f := f') (g := f) fun i hi => h1 i (by omega) (by omega)]
      omega
    · rw [ih (by omega) (fun r hr => h1 r (by omega)), h1 n (by omega) (by omega)]
      omega
/-- A column's sum, of the first p numbers. -/
def bsP (n C : Nat) (g : List Int) (p o : Nat) : Int := sumTo (fun r => if r * C + o < p then g.getD (r * C + o) 0 else 0) n
theorem bsP_bd {n C p o : Nat} {g : List Int} (hn : n ≤ 959) (bg : All8 g) : -16760832 ≤ bsP n C g p o ∧ bsP n C g p o ≤ 16760832 := by
  have := sumTo_bd (fun r => if r * C + o < p then g.getD (r * C + o) 0 else 0) 16384 n fun i _ => by
    have := bg.at_ (i * C + o)
    split <;> omega
  unfold bsP
  omega
theorem bsP_step {n C p o : Nat} {g : List Int} (hp : p < n * C) (ho : o < C) : bsP n C g (p + 1) o = bsP n C g p o + (if p % C = o then g.getD p 0 else 0) := by
  obtain ⟨e, hm⟩ := divmod (p := p) (C := C) (by omega)
  unfold bsP
  by_cases h : p % C = o
  · rw [if_pos h]
    have hr : p / C < n := by rw [Nat.div_lt_iff_lt_mul (by omega)]; exact hp
    have ep : p / C * C + o = p := by omega
    refine sumTo_upd hr (fun r hr hne => ?_) ?_
    · have : r * C + o ≠ p := fun hh => hne (by
        have := divC (i := r) ho
        rw [hh] at this; exact this.1.symm)
      by_cases h3 : r * C + o < p
      · rw [if_pos (by omega), if_pos h3]
      · rw [if_neg (by omega), if_neg h3]
    · rw [ep, if_pos (by omega), if_neg (by omega), Int.zero_add]
  · rw [if_neg h, Int.add_zero]
    refine sumTo_congr fun r hr => ?_
    have : r * C + o ≠ p := fun hh => h (by
      have := divC (i := r) ho
      rw [hh] at this; exact this.2)
    by_cases h3 : r * C + o < p
    · rw [if_pos (by omega), if_pos h3]
    · rw [if_neg (by omega), if_neg h3]
theorem bsP_all {n C o : Nat} {g : List Int} (ho : o < C) : bsP n C g (n * C) o = bsC n C g 0 o := by
  unfold bsP bsC
  rw [sumFr_eq, Int.zero_add]
  exact sumTo_congr fun r hr => if_pos (ix_lt hr ho)
theorem rb_v {n C : Nat} {g : List Int} {K : List Int → Prop} (hg : g.length = n * C) (hC : 0 < C) (lg : g.length ≤ 8192) (hn : n ≤ 959) (bg : All8 g) (h : K ((List.range C).map (bsC n C g 0))) :
    pedagogueref10_DenseBias_n506 g (g.length : Int) [(n : Int), (C : Int)] K (0, List.replicate C 0) := by
  refine ⟨?_⟩
  rw [show ((0 : Int), List.replicate C (0 : Int)) = ((fun p : Nat => ((p : Int), (List.range C).map (bsP n C g p))) 0) from by
    show _ = (((0 : Nat) : Int), (List.range C).map (bsP n C g 0))
    congr 1
    refine List.ext_getElem (by simp) fun i h1 h2 => ?_
    simp only [List.getElem_replicate, List.getElem_map]
    unfold bsP
    rw [sumTo_zero]
    intro r hr
    rw [if_neg (by omega)]]
  refine Loop.range (B := pedagogueref10_DenseBias_n506_B g (g.length : Int) [(n : Int), (C : Int)] K) (f := fun p : Nat => ((p : Int), (List.range C).map (bsP n C g p))) g.length (fun _ => True) trivial ?_ ?_
  · intro p hp _ X hX
    have hX := hX trivial
    unfold pedagogueref10_DenseBias_n506_B
    rw [if_pos (decide_eq_true (show (p : Int) < (g.length : Int) by omega))]
    dsimp only at hX ⊢
    rw [show [(n : Int), (C : Int)].getD 1 0 = (C : Int) from rfl]
    have hmod : (p : Int).tmod (C : Int) = ((p % C : Nat) : Int) := by rw [Int.ofNat_tmod]
    have hlt : p % C < C := Nat.mod_lt _ hC
    rw [hmod]
    simp only [Int.toNat_natCast, List.length_map, List.length_range]
    refine ⟨by omega, by simp, by omega, by omega, by omega, ?_⟩
    have h8 := bg.at_ p
    have hb1 := bsP_bd (n := n) (C := C) (p := p) (o := p % C) hn bg
    rw [map_get hlt, wrap_i32 (g.getD p 0) (by omega) (by omega), wrap_i32 _ (by omega) (by omega), wrap_i64 ((p : Int) + 1) (by omega) (by omega)]
    have es : ((List.range C).map (bsP n C g p)).set (p % C) (bsP n C g p (p % C) + g.getD p 0) = (List.range C).map (bsP n C g (p + 1)) := by
      refine List.ext_getElem (by simp) fun i h1 h2 => ?_
      have hi : i < C := by simpa using h2
      rw [List.getElem_set]
      simp only [List.getElem_map, List.getElem_range]
      rw [bsP_step (by omega) hi]
      by_cases hm : p % C = i
      · rw [if_pos hm, if_pos hm, hm]
      · rw [if_neg hm, if_neg hm, Int.add_zero]
    rw [es]
    exact hX
  · intro _ X
    unfold pedagogueref10_DenseBias_n506_B
    rw [if_neg (by simp)]
    rw [hg, List.map_congr_left (fun o ho => bsP_all (List.mem_range.1 ho))]
    exact h

/-! ### The document's answers -/
theorem szF_mul {R C : Nat} (h : 0 < szF [(R : Int), (C : Int)]) : (szF [(R : Int), (C : Int)]).toNat = R * C := by
  have := (szF2 _ _ h).2.2.2.2.2
  rw [this, ← Int.natCast_mul, Int.toNat_natCast]
theorem sumsF_ok {d : List Int} {e n : Int} (h : ¬ ((sumsF d e n).2 != 0) = true) : fitsF n = true ∧ 0 < szF d ∧ sumsF d e n = ((d, (e, List.replicate (szF d).toNat 0)), 0) := by
  unfold sumsF at h ⊢
  by_cases h1 : (!fitsF n) = true
  · rw [if_pos h1] at h; exact absurd rfl h
  · rw [if_neg h1] at h ⊢
    by_cases h2 : (decide (e < -128) || decide (128 < e)) = true
    · rw [if_pos h2] at h; exact absurd rfl h
    · rw [if_neg h2] at h ⊢
      by_cases h3 : (!decide (0 < szF d)) = true
      · rw [if_pos h3] at h; exact absurd rfl h
      · rw [if_neg h3]
        exact ⟨by simpa using h1, by simpa using h3, rfl⟩
theorem dmayF_two {x w : T3} (h : (mayF x && mayF w) = true) : dmayF 2 [x, w] = if (((x.1.length : Int) != 2) || ((w.1.length : Int) != 2)) = true then 2 else 0 := by
  simp only [Bool.and_eq_true] at h
  unfold dmayF
  rw [if_pos (by simp [h.1, h.2])]
  by_cases h1 : (x.1.length : Int) = 2 ∧ (w.1.length : Int) = 2
  · rw [if_pos (by simp [h1.1, h1.2]), if_neg (by simp [h1.1, h1.2])]
  · rw [if_neg (by simpa using h1), if_pos (by simp; omega)]
theorem dmayF_bad {x w : T3} (h : (mayF x && mayF w) = false) : dmayF 2 [x, w] = 1 := by
  unfold dmayF
  rw [if_neg (by simpa using h)]

theorem rdense_v {x w b : T3} {Q : T3 × Int → Prop} (bx : All8 x.2.2) (bw : All8 w.2.2) (bb : All8 b.2.2) (h : Q (fwdF x w b)) : pedagogueref10_Dense x w b Q := by
  refine ⟨?_⟩
  unfold pedagogueref10_Dense_t
  refine rmay_v (by simp) ?_
  have eall : ([(x.1, (x.2.1, x.2.2)), (w.1, (w.2.1, w.2.2)), (b.1, (b.2.1, b.2.2))] : List T3).all mayF = ((mayF x && mayF w) && mayF b) := by
    show (mayF x && (mayF w && (mayF b && true))) = _
    rw [Bool.and_true, Bool.and_assoc]
  rw [eall]
  unfold fwdF at h
  by_cases h0 : ((mayF x && mayF w) && mayF b) = true
  · rw [if_neg (by rw [h0]; simp)]
    simp only [Bool.and_eq_true] at h0
    obtain ⟨⟨mx, mw⟩, mb⟩ := h0
    rw [if_neg (by rw [mb]; simp), dmayF_two (by rw [mx, mw]; rfl)] at h
    show (if ((((x.1.length : Int) != 2) || ((w.1.length : Int) != 2)) || ((b.1.length : Int) != 1)) = true then _ else _)
    by_cases h1 : (((x.1.length : Int) != 2) || ((w.1.length : Int) != 2)) = true
    · rw [if_pos h1] at h
      rw [if_pos (by rw [h1]; rfl)]
      exact h
    · rw [if_neg h1, if_neg (by simp)] at h
      have h1' : (((x.1.length : Int) != 2) || ((w.1.length : Int) != 2)) = false := by simpa using h1
      simp only [Bool.or_eq_true, not_or, bne_iff_ne, ne_eq, Classical.not_not] at h1
      obtain ⟨R, n, ex, x1, x2, x3, x4, x5, x6, x7, x8⟩ := ten2 mx (by omega)
      obtain ⟨C, m, ew, w1, w2, w3, w4, w5, w6, w7, w8⟩ := ten2 mw (by omega)
      rw [h1', Bool.false_or]
      rw [ex, ew] at h ⊢
      by_cases h2 : ((b.1.length : Int) != 1) = true
      · rw [if_pos (by rw [h2]; simp)] at h
        rw [if_pos h2]
        exact h
      · rw [if_neg h2]
        have h2' : ((b.1.length : Int) != 1) = false := by simpa using h2
        obtain ⟨D, eb, b1, b2, b3⟩ := ten1 mb (by simp at h2; omega)
        rw [h2', Bool.or_false] at h
        rw [eb] at h ⊢
        refine ⟨by simp, by simp, ?_⟩
        have key : ∀ v : Bool, (v = (((m : Int) != (n : Int)) || ((D : Int) != (C : Int)))) → (if v = true then Q (Z3, 2) else pedagogueref10_Dense_n15 [(R : Int), (n : Int)] x.2.1 x.2.2 [(C : Int), (m : Int)] w.2.1 w.2.2 b.2.1 b.2.2 (fun (y8 : Int × (List Int) × Int × List Int) => Q ((y8.2.1, (y8.2.2.1, y8.2.2.2)), y8.1))) := by
          intro v hv
          cases v with
          | true =>
            rw [if_pos rfl]
            rw [if_pos (show (([(C : Int), (m : Int)].getD 1 0 != [(R : Int), (n : Int)].getD 1 0) || ([(D : Int)].getD 0 0 != [(C : Int), (m : Int)].getD 0 0)) = true from hv.symm)] at h
            exact h
          | false =>
            rw [if_neg (by simp)]
            rw [if_neg (show ¬ (([(C : Int), (m : Int)].getD 1 0 != [(R : Int), (n : Int)].getD 1 0) || ([(D : Int)].getD 0 0 != [(C : Int), (m : Int)].getD 0 0)) = true from by
              show ¬ (((m : Int) != (n : Int)) || ((D : Int) != (C : Int))) = true
              rw [← hv]; simp)] at h
            have hv := hv.symm
            simp only [Bool.or_eq_false_iff, bne_eq_false_iff_eq] at hv
            have hmn : m = n := by omega
            have hD : D = C := by omega
            subst hmn
            subst hD
            refine ⟨?_⟩
            unfold pedagogueref10_Dense_n15_t
            refine ⟨by simp, by simp, by simp, ?_⟩
            rw [wrap_i64 (x.2.1 + w.2.1) (by omega) (by omega)]
            have h : Q (madeF (R : Int) (D : Int) (m : Int) (x.2.1 + w.2.1) (fwC m (x.2.1 + w.2.1) b.2.1 b.2.2 x.2.2 w.2.2)) := h
            rw [madeF_sums] at h
            refine sums_v ?_
            rw [show ([[(R : Int), (m : Int)].getD 0 0, [(D : Int), (m : Int)].getD 0 0] : List Int) = [(R : Int), (D : Int)] from rfl, show [(R : Int), (m : Int)].getD 1 0 = (m : Int) from rfl, show [(R : Int), (m : Int)].getD 0 0 = (R : Int) from rfl, show [(D : Int), (m : Int)].getD 0 0 = (D : Int) from rfl]
            by_cases h4 : ((sumsF [(R : Int), (D : Int)] (x.2.1 + w.2.1) (m : Int)).2 != 0) = true
            · rw [if_pos h4] at h ⊢
              exact h
            · obtain ⟨k1, k2, k3⟩ := sumsF_ok h4
              rw [if_neg h4] at h ⊢
              rw [k3]
              dsimp only
              rw [szF_mul k2]
              have hn := fitsF_le k1
              have hRD := (szF2 _ _ k2).2.2.2.2.1
              rw [← Int.natCast_mul] at hRD
              exact rd_v x6 w6 b3 (by omega) (by omega) (by omega) (by omega) (by omega) bx bw bb h
        show (if ((n : Int) != (m : Int)) = true then _ else _)
        by_cases h3 : ((n : Int) != (m : Int)) = true
        · rw [if_pos h3]
          refine key true ?_
          have : (m : Int) ≠ (n : Int) := fun e => by rw [e] at h3; simp at h3
          rw [show ((m : Int) != (n : Int)) = true by simpa using this]; rfl
        · rw [if_neg h3]
          refine ⟨by simp, by simp, key _ ?_⟩
          have : (m : Int) = (n : Int) := by simpa using (show (n : Int) = (m : Int) from by simpa using h3).symm
          rw [show ((m : Int) != (n : Int)) = false by simpa using this]
          rfl
  · have h0' : ((mayF x && mayF w) && mayF b) = false := by simpa using h0
    rw [if_pos (by rw [h0']; rfl)]
    by_cases h1 : (!mayF b) = true
    · rw [if_pos h1] at h; exact h
    · rw [if_neg h1] at h
      have mb : mayF b = true := by simpa using h1
      rw [mb, Bool.and_true] at h0'
      rw [dmayF_bad h0', if_pos (by rfl)] at h
      exact h

theorem rinput_v {x w : T3} {Q : T3 × Int → Prop} (bx : All8 x.2.2) (bw : All8 w.2.2) (h : Q (inpF x w)) : pedagogueref10_DenseInput x w Q := by
  refine ⟨?_⟩
  unfold pedagogueref10_DenseInput_t
  refine rmay_v (by simp) ?_
  have eall : ([(x.1, (x.2.1, x.2.2)), (w.1, (w.2.1, w.2.2))] : List T3).all mayF = (mayF x && mayF w) := by
    show (mayF x && (mayF w && true)) = _
    rw [Bool.and_true]
  rw [eall]
  unfold inpF at h
  by_cases h0 : (mayF x && mayF w) = true
  · rw [if_neg (by rw [h0]; simp)]
    rw [dmayF_two h0] at h
    simp only [Bool.and_eq_true] at h0
    obtain ⟨mx, mw⟩ := h0
    show (if (((x.1.length : Int) != 2) || ((w.1.length : Int) != 2)) = true then _ else _)
    by_cases h1 : (((x.1.length : Int) != 2) || ((w.1.length : Int) != 2)) = true
    · rw [if_pos h1] at h
      rw [if_pos h1]
      exact h
    · rw [if_neg h1, if_neg (by simp)] at h
      rw [if_neg h1]
      simp only [Bool.or_eq_true, not_or, bne_iff_ne, ne_eq, Classical.not_not] at h1
      obtain ⟨A, B, ex, x1, x2, x3, x4, x5, x6, x7, x8⟩ := ten2 mx (by omega)
      obtain ⟨C, D, ew, w1, w2, w3, w4, w5, w6, w7, w8⟩ := ten2 mw (by omega)
      rw [ex, ew] at h ⊢
      replace h : Q (if ((C : Int) != ((B : Nat) : Int)) = true then (Z3, 2) else madeF (A : Int) (D : Int) (B : Int) (x.2.1 + w.2.1) (inC B D x.2.2 w.2.2)) := h
      refine ⟨by simp, by simp, ?_⟩
      show (if (((B : Nat) : Int) != (C : Int)) = true then _ else _)
      by_cases h3 : B = C
      · rw [if_neg (by rw [h3]; simp)]
        rw [if_neg (by rw [h3]; simp)] at h
        subst h3
        refine ⟨by simp, by simp, by simp, ⟨?_⟩⟩
        unfold pedagogueref10_DenseInput_n31_t
        rw [wrap_i64 (x.2.1 + w.2.1) (by omega) (by omega)]
        have h : Q (madeF (A : Int) (D : Int) (B : Int) (x.2.1 + w.2.1) (inC B D x.2.2 w.2.2)) := h
        rw [madeF_sums] at h
        refine sums_v ?_
        show (if ((sumsF [(A : Int), (D : Int)] (x.2.1 + w.2.1) (B : Int)).2 != 0) = true then _ else _)
        by_cases h4 : ((sumsF [(A : Int), (D : Int)] (x.2.1 + w.2.1) (B : Int)).2 != 0) = true
        · rw [if_pos h4] at h ⊢
          exact h
        · obtain ⟨k1, k2, k3⟩ := sumsF_ok h4
          rw [if_neg h4] at h ⊢
          have hn := fitsF_le k1
          have hRD := (szF2 _ _ k2).2.2.2.2.1
          rw [← Int.natCast_mul] at hRD
          show pedagogueref10_DenseInput_n1018 (B : Int) (D : Int) (A : Int) x.2.2 w.2.2 (fun y5 => Q (((sumsF [(A : Int), (D : Int)] (x.2.1 + w.2.1) (B : Int)).1.1, ((sumsF [(A : Int), (D : Int)] (x.2.1 + w.2.1) (B : Int)).1.2.1, y5)), 0)) (0, (sumsF [(A : Int), (D : Int)] (x.2.1 + w.2.1) (B : Int)).1.2.2)
          rw [k3]
          dsimp only
          rw [szF_mul k2]
          exact ri_v x6 w6 (by omega) (by omega) (by omega) (by omega) (by omega) bx bw h
      · rw [if_pos (by simp; omega)]
        rw [if_pos (by simp; omega)] at h
        exact h
  · have h0' : (mayF x && mayF w) = false := by simpa using h0
    rw [if_pos (by rw [h0']; rfl)]
    rw [dmayF_bad h0', if_pos (by rfl)] at h
    exact h

theorem rweight_v {x w : T3} {Q : T3 × Int → Prop} (bx : All8 x.2.2) (bw : All8 w.2.2) (h : Q (wgtF x w)) : pedagogueref10_DenseWeight x w Q := by
  refine ⟨?_⟩
  unfold pedagogueref10_DenseWeight_t
  refine rmay_v (by simp) ?_
  have eall : ([(x.1, (x.2.1, x.2.2)), (w.1, (w.2.1, w.2.2))] : List T3).all mayF = (mayF x && mayF w) := by
    show (mayF x && (mayF w && true)) = _
    rw [Bool.and_true]
  rw [eall]
  unfold wgtF at h
  by_cases h0 : (mayF x && mayF w) = true
  · rw [if_neg (by rw [h0]; simp)]
    rw [dmayF_two h0] at h
    simp only [Bool.and_eq_true] at h0
    obtain ⟨mx, mw⟩ := h0
    show (if (((x.1.length : Int) != 2) || ((w.1.length : Int) != 2)) = true then _ else _)
    by_cases h1 : (((x.1.length : Int) != 2) || ((w.1.length : Int) != 2)) = true
    · rw [if_pos h1] at h
      rw [if_pos h1]
      exact h
    · rw [if_neg h1, if_neg (by simp)] at h
      rw [if_neg h1]
      simp only [Bool.or_eq_true, not_or, bne_iff_ne, ne_eq, Classical.not_not] at h1
      obtain ⟨A, B, ex, x1, x2, x3, x4, x5, x6, x7, x8⟩ := ten2 mx (by omega)
      obtain ⟨C, D, ew, w1, w2, w3, w4, w5, w6, w7, w8⟩ := ten2 mw (by omega)
      rw [ex, ew] at h ⊢
      replace h : Q (if ((C : Int) != ((A : Nat) : Int)) = true then (Z3, 2) else madeF (B : Int) (D : Int) (A : Int) (x.2.1 + w.2.1) (wtC A B D x.2.2 w.2.2)) := h
      refine ⟨by simp, by simp, ?_⟩
      show (if (((A : Nat) : Int) != (C : Int)) = true then _ else _)
      by_cases h3 : A = C
      · rw [if_neg (by rw [h3]; simp)]
        rw [if_neg (by rw [h3]; simp)] at h
        subst h3
        refine ⟨by simp, by simp, by simp, ⟨?_⟩⟩
        unfold pedagogueref10_DenseWeight_n31_t
        rw [wrap_i64 (x.2.1 + w.2.1) (by omega) (by omega)]
        have h : Q (madeF (B : Int) (D : Int) (A : Int) (x.2.1 + w.2.1) (wtC A B D x.2.2 w.2.2)) := h
        rw [madeF_sums] at h
        refine sums_v ?_
        show (if ((sumsF [(B : Int), (D : Int)] (x.2.1 + w.2.1) (A : Int)).2 != 0) = true then _ else _)
        by_cases h4 : ((sumsF [(B : Int), (D : Int)] (x.2.1 + w.2.1) (A : Int)).2 != 0) = true
        · rw [if_pos h4] at h ⊢
          exact h
        · obtain ⟨k1, k2, k3⟩ := sumsF_ok h4
          rw [if_neg h4] at h ⊢
          have hn := fitsF_le k1
          have hRD := (szF2 _ _ k2).2.2.2.2.1
          rw [← Int.natCast_mul] at hRD
          show pedagogueref10_DenseWeight_n1018 (A : Int) (B : Int) (D : Int) (B : Int) x.2.2 w.2.2 (fun y5 => Q (((sumsF [(B : Int), (D : Int)] (x.2.1 + w.2.1) (A : Int)).1.1, ((sumsF [(B : Int), (D : Int)] (x.2.1 + w.2.1) (A : Int)).1.2.1, y5)), 0)) (0, (sumsF [(B : Int), (D : Int)] (x.2.1 + w.2.1) (A : Int)).1.2.2)
          rw [k3]
          dsimp only
          rw [szF_mul k2]
          exact rw_v x6 w6 (by omega) (by omega) (by omega) (by omega) (by omega) bx bw h
      · rw [if_pos (by simp; omega)]
        rw [if_pos (by simp; omega)] at h
        exact h
  · have h0' : (mayF x && mayF w) = false := by simpa using h0
    rw [if_pos (by rw [h0']; rfl)]
    rw [dmayF_bad h0', if_pos (by rfl)] at h
    exact h

theorem rbias_v {g : T3} {Q : T3 × Int → Prop} (bg : All8 g.2.2) (h : Q (biaF g)) : pedagogueref10_DenseBias g Q := by
  refine ⟨?_⟩
  unfold pedagogueref10_DenseBias_t
  refine rmay_v (by simp) ?_
  have eall : ([(g.1, (g.2.1, g.2.2))] : List T3).all mayF = mayF g := by
    show (mayF g && true) = _
    rw [Bool.and_true]
  rw [eall]
  unfold biaF at h
  have ed : dmayF 2 [g] = if mayF g = true then (if ((g.1.length : Int) != 2) = true then 2 else 0) else 1 := by
    unfold dmayF
    by_cases hm : mayF g = true
    · rw [if_pos hm, if_pos (by simp [hm])]
      by_cases hl : (g.1.length : Int) = 2
      · rw [if_pos (by simp [hl]), if_neg (by simp [hl])]
      · rw [if_neg (by simpa using hl), if_pos (by simpa using hl)]
    · rw [if_neg hm, if_neg (by simpa using hm)]
  rw [ed] at h
  by_cases hm : mayF g = true
  · rw [if_pos hm] at h
    rw [if_neg (by rw [hm]; simp)]
    by_cases hl : ((g.1.length : Int) != 2) = true
    · rw [if_pos hl, if_pos (by rfl)] at h
      rw [if_pos hl]
      exact h
    · rw [if_neg hl, if_neg (by simp)] at h
      rw [if_neg hl]
      obtain ⟨n, m, eg, x1, x2, x3, x4, x5, x6, x7, x8⟩ := ten2 hm (by simp at hl; omega)
      rw [eg] at h ⊢
      refine ⟨by simp, by simp, sums_v ?_⟩
      dsimp only at h
      rw [show [(n : Int), (m : Int)].getD 1 0 = (m : Int) from rfl, show [(n : Int), (m : Int)].getD 0 0 = (n : Int) from rfl] at h ⊢
      rw [Int.toNat_natCast, Int.toNat_natCast] at h
      have e1 : szF [1, (m : Int)] = (m : Int) := by rw [szF2_of (by omega) (by omega) (by omega) (by omega) (by omega), Int.one_mul]
      have e2 : szF [(m : Int)] = (m : Int) := szF1_of (by omega) (by omega)
      by_cases hf : fitsF (n : Int) = true
      · have k3 : sumsF [(m : Int)] g.2.1 (n : Int) = (([(m : Int)], (g.2.1, List.replicate m 0)), 0) := by
          unfold sumsF
          rw [if_neg (by rw [hf]; simp), if_neg (by simp; omega), e2, if_neg (by simp; omega), Int.toNat_natCast]
        have k4 := madeF_ok (R := 1) (C := (m : Int)) (n := (n : Int)) (e := g.2.1) (f := bsC n m g.2.2) hf (by omega) (by omega) (by rw [e1]; omega)
        rw [k4, if_pos (by rfl)] at h
        rw [k3, if_neg (by simp)]
        have hn := fitsF_le hf
        refine rb_v x6 (by omega) (by omega) (by omega) bg ?_
        have er : rowsF (1 : Int).toNat ((m : Int)).toNat (bsC n m g.2.2) = (List.range m).map (bsC n m g.2.2 0) := by
          rw [Int.toNat_natCast]
          show (List.range 1).flatMap _ = _
          simp [List.range_succ]
        rw [er] at h
        exact h
      · have hf' : fitsF (n : Int) = false := by simpa using hf
        have k3 : sumsF [(m : Int)] g.2.1 (n : Int) = (Z3, 3) := by
          unfold sumsF
          rw [if_pos (by rw [hf']; rfl)]
        have k4 : madeF 1 (m : Int) (n : Int) g.2.1 (bsC n m g.2.2) = (Z3, 3) := by
          unfold madeF
          rw [if_pos (by rw [hf']; rfl)]
        rw [k4, if_neg (by simp)] at h
        rw [k3, if_pos (by rfl)]
        exact h
  · rw [if_neg hm, if_pos (by rfl)] at h
    have hm' : mayF g = false := by simpa using hm
    rw [if_pos (by rw [hm']; rfl)]
    exact h

/-! ### The same? -/
theorem sints_v {a b : List Int} {Q : Bool → Prop} (hl : a.length ≤ 1000000) (h : Q (decide (a = b))) : pedagogueref1_SameInts a b Q := by
  refine ⟨?_⟩
  unfold pedagogueref1_SameInts_t
  by_cases e : a.length = b.length
  · rw [if_neg (by simp [e])]
    refine ⟨?_⟩
    refine Loop.range (B := pedagogueref1_SameInts_n58_B a b (a.length : Int) (fun _ => Q true) (fun _ => Q false)) a.length (fun i => (i : Int)) (fun i => ∀ j, j < i → a.getD j 0 = b.getD j 0) (fun j hj => absurd hj (by omega)) ?_ ?_
    · intro i hi hI X hX
      unfold pedagogueref1_SameInts_n58_B
      rw [if_pos (decide_eq_true (show (i : Int) < (a.length : Int) by omega))]
      refine ⟨by omega, by omega, ?_⟩
      simp only [Int.toNat_natCast]
      by_cases hd : a.getD i 0 = b.getD i 0
      · rw [if_neg (by simpa using hd), wrap_i64 _ (by omega) (by omega)]
        refine hX fun j hj => ?_
        by_cases hji : j = i
        · subst hji; exact hd
        · exact hI j (by omega)
      · rw [if_pos (by simpa using hd)]
        have : decide (a = b) = false := by
          simp only [decide_eq_false_iff_not]
          intro hab; exact hd (by rw [hab])
        rw [this] at h; exact h
    · intro hI X
      unfold pedagogueref1_SameInts_n58_B
      rw [if_neg (by simp)]
      have : decide (a = b) = true := by
        simp only [decide_eq_true_eq]
        refine List.ext_getElem e fun i h1 h2 => ?_
        have := hI i h1
        rw [List.getD_eq_getElem?_getD, List.getD_eq_getElem?_getD, List.getElem?_eq_getElem h1, List.getElem?_eq_getElem h2] at this
        exact this
      rw [this] at h; exact h
  · rw [if_pos (by simp; omega)]
    have : decide (a = b) = false := by
      simp only [decide_eq_false_iff_not]
      intro hab; exact e (by rw [hab])
    rw [this] at h; exact h
theorem sacc_refl {a : T3} {Q : Bool → Prop} (h1 : a.1.length ≤ 1000000) (h2 : a.2.2.length ≤ 1000000) (h : Q true) : pedagogueref1_SameAcc a a Q := by
  refine ⟨?_⟩
  unfold pedagogueref1_SameAcc_t
  refine sints_v h1 ?_
  rw [decide_eq_true rfl, if_neg (by simp)]
  refine ⟨?_⟩
  refine Loop.range (B := pedagogueref1_SameAcc_n58_B (a.2.2.length : Int) a.2.2 a.2.2 (fun _ => Q true) (fun _ => Q false)) a.2.2.length (fun i => (i : Int)) (fun _ => True) trivial ?_ ?_
  · intro i hi _ X hX
    unfold pedagogueref1_SameAcc_n58_B
    rw [if_pos (decide_eq_true (show (i : Int) < (a.2.2.length : Int) by omega))]
    refine ⟨by omega, by omega, ?_⟩
    rw [if_neg (by simp), wrap_i64 _ (by omega) (by omega)]
    exact hX trivial
  · intro _ X
    unfold pedagogueref1_SameAcc_n58_B
    rw [if_neg (by simp)]
    exact h
theorem light10_v {l : List T3} {Q : Bool → Prop} (hl : l.length ≤ 1000000) (h : ∀ b, Q b) : pedagoguelaw10_light l Q := by
  refine ⟨?_⟩
  unfold pedagoguelaw10_light_t
  refine ⟨?_⟩
  refine Loop.inv (n := l.length) (fun m s => ∃ i : Nat, i + m = l.length ∧ s.2 = (i : Int)) ⟨0, by omega, rfl⟩ ?_
  rintro m ⟨acc, i'⟩ X ⟨i, hi, he⟩ hX
  simp only at he
  subst he
  unfold pedagoguelaw10_light_n58_B
  by_cases hlt : i < l.length
  · rw [if_pos (decide_eq_true (show (i : Int) < (l.length : Int) by omega))]
    refine ⟨by dsimp only; omega, ?_⟩
    refine hX (m - 1) _ (by omega) ⟨i + 1, by omega, ?_⟩
    show IntKind.i64.wrap ((i : Int) + 1) = _
    rw [wrap_i64 _ (by omega) (by omega)]; rfl
  · rw [if_neg (by simp; omega)]
    exact h _

/-! ### How long the results are -/
def Short (r : T3 × Int) : Prop := r.1.1.length ≤ 1000000 ∧ r.1.2.2.length ≤ 1000000
theorem short_z (e : Int) : Short (Z3, e) := ⟨by simp, by simp⟩
theorem made_short (R C n e : Int) (f : Nat → Nat → Int) : Short (madeF R C n e f) := by
  unfold madeF
  split
  · exact short_z 3
  · split
    · exact short_z 1
    · rename_i h
      obtain ⟨k1, k2, k3, k4, k5, _⟩ := szF2 R C (by simpa using h)
      refine ⟨by simp, ?_⟩
      show (rowsF _ _ _).length ≤ _
      rw [rowsF_len]
      obtain ⟨R, rfl⟩ := Int.eq_ofNat_of_zero_le (show 0 ≤ R by omega)
      obtain ⟨C, rfl⟩ := Int.eq_ofNat_of_zero_le (show 0 ≤ C by omega)
      rw [← Int.natCast_mul] at k5
      simp only [Int.toNat_natCast]
      omega
theorem fwd_short (x w b : T3) : Short (fwdF x w b) := by
  unfold fwdF
  split
  · exact short_z 1
  · split
    · exact short_z _
    · split
      · exact short_z 2
      · exact made_short _ _ _ _ _
theorem inp_short (x w : T3) : Short (inpF x w) := by
  unfold inpF
  split
  · exact short_z _
  · split
    · exact short_z 2
    · exact made_short _ _ _ _ _
theorem wgt_short (x w : T3) : Short (wgtF x w) := by
  unfold wgtF
  split
  · exact short_z _
  · split
    · exact short_z 2
    · exact made_short _ _ _ _ _
theorem bia_short (g : T3) : Short (biaF g) := by
  unfold biaF
  split
  · exact short_z _
  · dsimp only
    have := made_short 1 (g.1.getD 1 0) (g.1.getD 0 0) g.2.1 (bsC (g.1.getD 0 0).toNat (g.1.getD 1 0).toNat g.2.2)
    split
    · exact ⟨by simp, this.2⟩
    · exact this

/-! ### DenseForms -/
theorem forms_law {x w b g : T3} {n : Int} {Q : Bool → Prop} (bx : All8 x.2.2) (bw : All8 w.2.2) (bb : All8 b.2.2) (bg : All8 g.2.2) (h : Q true) : pedagoguelaw10_DenseForms x w b g n Q := by
  refine ⟨?_⟩
  unfold pedagoguelaw10_DenseForms_t
  refine light10_v (by simp) fun lt => ?_
  cases lt with
  | false => exact awake10_v h
  | true =>
    refine fwd_v bx bw bb (rdense_v bx bw bb (inp_v bg bw ⟨?_⟩))
    unfold pedagoguelaw10_DenseForms_n63_t
    refine rinput_v bg bw (wgt_v bg bx (rweight_v bg bx (bia_v bg (rbias_v bg ⟨?_⟩))))
    unfold pedagoguelaw10_DenseForms_n2047_t
    refine sacc_refl (a := (fwdF x w b).1) (fwd_short x w b).1 (fwd_short x w b).2 ?_
    show (if (true && ((fwdF x w b).2 == (fwdF x w b).2)) = true then _ else _)
    rw [if_pos (by simp)]
    refine sacc_refl (a := (inpF g w).1) (inp_short g w).1 (inp_short g w).2 ?_
    show (if (true && ((inpF g w).2 == (inpF g w).2)) = true then _ else _)
    rw [if_pos (by simp)]
    refine sacc_refl (a := (wgtF g x).1) (wgt_short g x).1 (wgt_short g x).2 ?_
    show (if (true && ((wgtF g x).2 == (wgtF g x).2)) = true then _ else _)
    rw [if_pos (by simp)]
    refine sacc_refl (a := (biaF g).1) (bia_short g).1 (bia_short g).2 ?_
    show (if (true && ((biaF g).2 == (biaF g).2)) = true then _ else _)
    rw [if_pos (by simp)]
    refine fits_v (rfits_v ?_)
    show (if (fitsF n == fitsF n) = true then _ else _)
    rw [if_pos (by simp)]
    exact awake10_v h

theorem forms_walk {a0 a2 b0 b2 c0 c2 d0 d2 : Option Addr} {la0 ka0 la2 ka2 lb0 kb0 lb2 kb2 lc0 kc0 lc2 kc2 ld0 kd0 ld2 kd2 : Nat} {za0 za2 zb0 zb2 zc0 zc2 zd0 zd2 : List Int} {na nb nc nd n : Int} {w : World}
    (ta0 : RowH .i64 w a0 la0 ka0 za0) (ta2 : RowH .i8 w a2 la2 ka2 za2) (tb0 : RowH .i64 w b0 lb0 kb0 zb0) (tb2 : RowH .i8 w b2 lb2 kb2 zb2) (tc0 : RowH .i64 w c0 lc0 kc0 zc0) (tc2 : RowH .i8 w c2 lc2 kc2 zc2) (td0 : RowH .i64 w d0 ld0 kd0 zd0) (td2 : RowH .i8 w d2 ld2 kd2 zd2) :
    Calls Try.prog 8 #[.agg #[.slice a0 la0 ka0, .int .i64 na, .slice a2 la2 ka2], .agg #[.slice b0 lb0 kb0, .int .i64 nb, .slice b2 lb2 kb2], .agg #[.slice c0 lc0 kc0, .int .i64 nc, .slice c2 lc2 kc2], .agg #[.slice d0 ld0 kd0, .int .i64 nd, .slice d2 ld2 kd2], .int .i64 n] w fun e w' => e = .returned (.bool true) ∧ Below w.heap.size w w' :=
  law_calls (azz := [.agg #[.slice a0 la0 ka0, .int .i64 na, .slice a2 la2 ka2], .agg #[.slice b0 lb0 kb0, .int .i64 nb, .slice b2 lb2 kb2], .agg #[.slice c0 lc0 kc0, .int .i64 nc, .slice c2 lc2 kc2], .agg #[.slice d0 ld0 kd0, .int .i64 nd, .slice d2 ld2 kd2], .int .i64 n]) (by kernel_rfl)
    (pedagoguelaw10_DenseForms_snd ((za0.take la0, na, za2.take la2, ()), (zb0.take lb0, nb, zb2.take lb2, ()), (zc0.take lc0, nc, zc2.take lc2, ()), (zd0.take ld0, nd, zd2.take ld2, ()), n, ()) _ (forms_law (fun x hx => i8_rng ((row_RSl ta2).2.2.2.1 x hx)) (fun x hx => i8_rng ((row_RSl tb2).2.2.2.1 x hx)) (fun x hx => i8_rng ((row_RSl tc2).2.2.2.1 x hx)) (fun x hx => i8_rng ((row_RSl td2).2.2.2.1 x hx)) (law_true rfl)))
    (.cons (ten_R2 ta0 ta2) (.cons (ten_R2 tb0 tb2) (.cons (ten_R2 tc0 tc2) (.cons (ten_R2 td0 td2) (.cons int_R2 .nil)))))
    (by
      intro x hx
      simp only [List.mem_cons, List.not_mem_nil, or_false] at hx
      rcases hx with rfl | rfl | rfl | rfl | rfl
      · exact ten_VRel ta0 ta2
      · exact ten_VRel tb0 tb2
      · exact ten_VRel tc0 tc2
      · exact ten_VRel td0 td2
      · exact .int _ _)

end Go.Proofs.Ytlbapaelkdpjcaa

