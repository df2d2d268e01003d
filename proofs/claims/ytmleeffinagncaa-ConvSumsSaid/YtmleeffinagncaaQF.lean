/- ConvOne: with windows of one place it is dense at each place. Laws; no condition. -/
import Derived.Test.YtmleeffinagncaaQE
namespace Go.Proofs.Ytmleeffinagncaa
open Go.Mach Go.RowKit
set_option maxRecDepth 100000
set_option linter.unusedVariables false
set_option linter.unusedSimpArgs false

theorem one_win {h C m o y x : Nat} {pd wd : List Int} (hh : 1 ≤ h) (h5 : h ≤ 16) (hy : y < h) (hx : x < h) {c : Nat} :
    lsum (windowF h h y x ((1 : Nat) : Int) 1 0) (fwdG pd wd C (h * h) 1 m o c) = pd.getD ((m * C + c) * (h * h) + (y * h + x)) 0 * wd.getD (o * C + c) 0 := by
  have eo : outF h ((1 : Nat) : Int) 1 0 = h := by
    have := outF_plain (n := h) (k := 1) hh h5 (by omega) (by omega) hh
    rw [show h - 1 + 1 = h by omega] at this
    exact this
  rw [windowF_ok eo eo hy hx, lsum_winF]
  simp only [sumTo, Int.zero_add]
  have hc : (inP ((1 : Int) * (y : Int) - 0 + ((0 : Nat) : Int)) 0 ((h : Int) - 1) && inP ((1 : Int) * (x : Int) - 0 + ((0 : Nat) : Int)) 0 ((h : Int) - 1)) = true := by rw [inP_of (by omega) (by omega), inP_of (by omega) (by omega)]; rfl
  rw [if_pos hc]
  unfold fwdG
  dsimp only
  have e3 : ((1 : Int) * (y : Int) - 0 + ((0 : Nat) : Int)) * (h : Int) + ((1 : Int) * (x : Int) - 0 + ((0 : Nat) : Int)) = ((y * h + x : Nat) : Int) := by
    rw [Int.natCast_add, Int.natCast_mul]; simp
  rw [e3]
  simp only [Int.toNat_natCast]
  simp
theorem oneLoop_v {h c at_ : Nat} {pd : List Int} {K0 : List Int → Prop} (hh : h ≤ 5) (hc : c ≤ 4) (hat : at_ < h * h) (hp : pd.length = c * (h * h))
    (hk : K0 (tab c fun j => pd.getD (j * (h * h) + at_) 0)) : pedagoguelaw11_ConvOne_n2 h at_ c pd K0 (0, List.replicate c 0) := by
  have hhh : h * h ≤ 5 * 5 := Nat.mul_le_mul hh hh
  refine ⟨?_⟩
  refine Loop.rangeI (B := pedagoguelaw11_ConvOne_n2_B h at_ c pd K0) c (fun i st => st.1 = (i : Int) ∧ st.2.length = c ∧ ∀ j, j < i → st.2.getD j 0 = pd.getD (j * (h * h) + at_) 0) ⟨rfl, by simp, fun j hj => absurd hj (by omega)⟩ ?_ ?_
  · rintro i hi ⟨i', M⟩ ⟨e1, e2, e3⟩ X hX
    simp only at e1 e2 e3
    subst e1
    unfold pedagoguelaw11_ConvOne_n2_B
    rw [if_pos (decide_eq_true (show (i : Int) < (c : Int) by omega))]
    dsimp only
    have g1 : i * (h * h) + at_ < c * (h * h) := ix_lt hi hat
    have g0 : i * (h * h) + at_ = i * h * h + at_ := by rw [Nat.mul_assoc]
    have g2 : c * (h * h) ≤ 4 * (5 * 5) := Nat.mul_le_mul hc hhh
    have g3 : i * h ≤ 4 * 5 := Nat.mul_le_mul (by omega) hh
    rw [mulw (r := i) (n := h) (by omega), ix (r := i * h) (n := h) (i := at_) (by omega)]
    refine ⟨by omega, by omega, ?_⟩
    rw [Int.toNat_natCast, Int.toNat_natCast, wrap_i64 ((i : Int) + 1) (by omega) (by omega), ← g0]
    refine hX _ ⟨by simp, by simp [e2], fun j hj => ?_⟩
    dsimp only
    rw [getD_set (by omega)]
    by_cases e : i = j
    · subst e; rw [if_pos rfl]
    · rw [if_neg e, e3 j (by omega)]
  · rintro ⟨i', M⟩ ⟨e1, e2, e3⟩ X
    simp only at e1 e2 e3
    subst e1
    unfold pedagoguelaw11_ConvOne_n2_B
    rw [if_neg (by simp)]
    dsimp only
    rw [tab_of e2 e3]
    exact hk
theorem szF_nat4 {n m p q : Nat} (h1 : 1 ≤ n ∧ n ≤ 16) (h2 : 1 ≤ m ∧ m ≤ 16) (h3 : 1 ≤ p ∧ p ≤ 5) (h4 : 1 ≤ q ∧ q ≤ 5) : szF [(n : Int), m, p, q] = ((n * m * p * q : Nat) : Int) := by
  have k1 : n * m ≤ 16 * 16 := Nat.mul_le_mul h1.2 h2.2
  have k2 : n * m * p ≤ 16 * 16 * 5 := Nat.mul_le_mul k1 h3.2
  have k3 : n * m * p * q ≤ 16 * 16 * 5 * 5 := Nat.mul_le_mul k2 h4.2
  exact szF4_of (by omega) (by omega) (by omega) (by omega) (by omega)
theorem fwdF_ok {n c m : Nat} {x w b : T3} (mx : mayF x = true) (mw : mayF w = true) (mb : mayF b = true) (ex : x.1 = [(n : Int), c]) (ew : w.1 = [(m : Int), c]) (eb : b.1 = [(m : Int)]) (hf : c ≤ 959) (hs : 0 < szF [(n : Int), m]) :
    fwdF x w b = (([(n : Int), m], (x.2.1 + w.2.1, rowsF n m (fwC c (x.2.1 + w.2.1) b.2.1 b.2.2 x.2.2 w.2.2))), 0) := by
  have x2 := (mayF_iff.1 mx).2.2.1
  have w2 := (mayF_iff.1 mw).2.2.1
  have hd : dmayF 2 [x, w] = 0 := by
    unfold dmayF
    simp [mx, mw, ex, ew]
  unfold fwdF
  rw [mb, hd]
  simp only [ex, ew, eb, List.getD_cons_zero, List.getD_cons_succ]
  unfold madeF
  rw [(fitsF_iff (n := (c : Int))).2 (by omega)]
  rw [if_neg (by simp), if_neg (by simp), if_neg (by simp), if_neg (by simp; omega), if_neg (by simpa using hs)]
  simp only [Int.toNat_natCast]

theorem one_v {a0 a1 a2 : List Int} {a3 a4 a5 : Int} {Q : Bool → Prop} (ha : All8 a0) (hb : All8 a1) (hc : All8 a2) (hq : Q true) : pedagoguelaw11_ConvOne a0 a1 a2 a3 a4 a5 Q := by
  refine ⟨?_⟩
  unfold pedagoguelaw11_ConvOne_t
  obtain ⟨c', ec, hc'⟩ := umod a3 4 (by omega) (by omega)
  obtain ⟨h', eh, hh'⟩ := umod a4 5 (by omega) (by omega)
  obtain ⟨m', em, hm'⟩ := umod a5 4 (by omega) (by omega)
  rw [ec, eh, em]
  have e1 : IntKind.i64.wrap (1 + (c' : Int)) = ((1 + c' : Nat) : Int) := by rw [wrap_i64 _ (by omega) (by omega)]; omega
  have e2 : IntKind.i64.wrap (1 + (h' : Int)) = ((1 + h' : Nat) : Int) := by rw [wrap_i64 _ (by omega) (by omega)]; omega
  have e3 : IntKind.i64.wrap (1 + (m' : Int)) = ((1 + m' : Nat) : Int) := by rw [wrap_i64 _ (by omega) (by omega)]; omega
  rw [e1, e2, e3]
  obtain ⟨c, kc⟩ : ∃ c, 1 + c' = c := ⟨_, rfl⟩
  obtain ⟨h, kh⟩ : ∃ h, 1 + h' = h := ⟨_, rfl⟩
  obtain ⟨m, km⟩ : ∃ m, 1 + m' = m := ⟨_, rfl⟩
  rw [kc, kh, km]
  refine ⟨by omega, by omega, by omega, ?_⟩
  refine tn_v (by simp) (tn_v (by simp) (tn_v (by simp) ?_))
  have sp : szF [1, (c : Int), h, h] = ((1 * c * h * h : Nat) : Int) := szF_nat4 (n := 1) (by omega) (by omega) (by omega) (by omega)
  have sv : szF [(m : Int), c, 1, 1] = ((m * c * 1 * 1 : Nat) : Int) := szF_nat4 (p := 1) (q := 1) (by omega) (by omega) (by omega) (by omega)
  have so : szF [((1 : Nat) : Int), (m : Int), h, h] = ((1 * m * h * h : Nat) : Int) := szF_nat4 (by omega) (by omega) (by omega) (by omega)
  have k1 : h * h ≤ 5 * 5 := Nat.mul_le_mul (by omega) (by omega)
  have k1' : 1 * 1 ≤ h * h := Nat.mul_le_mul (by omega) (by omega)
  have k2 : c * (h * h) ≤ 4 * (5 * 5) := Nat.mul_le_mul (by omega) k1
  have k3 : m * c ≤ 4 * 4 := Nat.mul_le_mul (by omega) (by omega)
  have k4 : 1 * 1 ≤ m * c := Nat.mul_le_mul (by omega) (by omega)
  have k5 : m * (h * h) ≤ 4 * (5 * 5) := Nat.mul_le_mul (by omega) k1
  have k6 : 1 * (1 * 1) ≤ c * (h * h) := Nat.mul_le_mul (by omega) k1'
  have k7 : 1 * (1 * 1) ≤ m * (h * h) := Nat.mul_le_mul (by omega) k1'
  have sz : szF [(m : Int)] = (m : Int) := szF1_of (by omega) (by omega)
  have sf : szF [(m : Int), (c : Int)] = ((m * c : Nat) : Int) := by rw [szF2_of (by omega) (by omega) (by omega) (by omega) (by rw [← Int.natCast_mul]; omega), Int.natCast_mul]
  simp only [Nat.one_mul, Nat.mul_one] at sp sv so
  have es : c * h * h = c * (h * h) := Nat.mul_assoc _ _ _
  have em' : m * h * h = m * (h * h) := Nat.mul_assoc _ _ _
  rw [es] at sp
  rw [em'] at so
  have pm := tnF_may (d := [1, (c : Int), h, h]) ha (by rw [sp]; omega)
  have vm := tnF_may (d := [(m : Int), c, 1, 1]) hb (by rw [sv]; omega)
  have zm := tnF_may (d := [(m : Int)]) hc (by rw [sz]; omega)
  have fm := tnF_may (d := [(m : Int), (c : Int)]) hb (by rw [sf]; omega)
  have eo : outF h ((1 : Nat) : Int) 1 0 = h := by
    have := outF_plain (n := h) (k := 1) (by omega) (by omega) (by omega) (by omega) (by omega)
    rw [show h - 1 + 1 = h by omega] at this
    exact this
  refine conv_v (tnF_8 ha _) (tnF_8 hb _) (tnF_8 hc _) ?_
  rw [convF_ok (n := 1) (C := c) (H := h) (V := h) (O := m) (K := 1) (P := h) (R := h) pm vm zm rfl rfl rfl eo eo (by omega) (by omega) (by omega) (by rw [so]; omega)]
  refine ⟨?_⟩
  unfold pedagoguelaw11_ConvOne_n0_t
  rw [lst4_len, mulw (r := m) (n := h) (by have : m * h ≤ 4 * 5 := Nat.mul_le_mul (by omega) (by omega); omega), mulw (r := m * h) (n := h) (by omega), Nat.one_mul, if_neg (by simp)]
  refine tn_v (by simp) ?_
  rw [mulw (r := h) (n := h) (by omega)]
  obtain ⟨pd, hpd⟩ : ∃ pd, (tnF a0 [1, (c : Int), h, h]).2.2 = pd := ⟨_, rfl⟩
  obtain ⟨fd, hfd⟩ : ∃ fd, (tnF a1 [(m : Int), (c : Int)]).2.2 = fd := ⟨_, rfl⟩
  obtain ⟨zd, hzd⟩ : ∃ zd, (tnF a2 [(m : Int)]).2.2 = zd := ⟨_, rfl⟩
  have hvd : (tnF a1 [(m : Int), c, 1, 1]).2.2 = fd := by
    rw [← hfd]
    unfold tnF
    rw [sv, sf]
  have p8 := tnF_8 ha [1, (c : Int), h, h]
  have f8 := tnF_8 hb [(m : Int), (c : Int)]
  have z8 := tnF_8 hc [(m : Int)]
  have lp : pd.length = c * (h * h) := by rw [← hpd]; show (tab (szF [1, (c : Int), h, h]).toNat (tnC a0)).length = _; rw [tab_len, sp, Int.toNat_natCast]
  have pne : ∀ i, pd.getD i 0 ≠ -128 := by
    intro i
    rw [← hpd]
    show (tab (szF [1, (c : Int), h, h]).toNat (tnC a0)).getD i 0 ≠ -128
    rcases Nat.lt_or_ge i (szF [1, (c : Int), h, h]).toNat with g | g
    · rw [tab_getD _ g]; have := tnC_rng ha i; omega
    · rw [List.getD_eq_getElem?_getD, List.getElem?_eq_none (by rw [tab_len]; exact g)]; simp
  rw [hpd] at p8
  rw [hfd] at f8
  rw [hzd] at z8
  rw [hvd, hpd, hzd, hfd]
  have x0 : (tnF a0 [1, (c : Int), h, h]).2.1 = 0 := rfl
  have x1 : (tnF a1 [(m : Int), c, 1, 1]).2.1 = 0 := rfl
  have x2 : (tnF a2 [(m : Int)]).2.1 = 0 := rfl
  have x3 : (tnF a1 [(m : Int), (c : Int)]).2.1 = 0 := rfl
  have x4 : (tnF a1 [(m : Int), (c : Int)]).1 = [(m : Int), (c : Int)] := rfl
  have x5 : (tnF a2 [(m : Int)]).1 = [(m : Int)] := rfl
  rw [x0, x1, x2, x3, x4, x5]
  obtain ⟨D, hD⟩ : ∃ D, lst4 1 m h h (fwdCell h h c 1 1 0 pd fd zd 0 (0 + 0)) = D := ⟨_, rfl⟩
  rw [hD]
  have hDl : D.length = m * (h * h) := by rw [← hD, lst4_len, Nat.one_mul, em']
  have hDg : ∀ o t, o < m → t < h * h → D.getD (o * (h * h) + t) 0 = IntKind.i32.wrap (fwC c 0 0 zd (tab c fun j => pd.getD (j * (h * h) + t) 0) fd 0 o) := by
    intro o t ho ht
    obtain ⟨c1, c2, c3⟩ := ix_cover ht
    have g := lst4_get (n := 1) (m := 0) (cell := fwdCell h h c 1 1 0 pd fd zd 0 (0 + 0)) (by omega) ho c1 c2
    rw [hD] at g
    unfold ix4 at g
    rw [Nat.zero_mul, Nat.zero_add, Nat.add_mul, Nat.add_assoc, ← c3, Nat.mul_assoc] at g
    rw [g]
    unfold fwdCell fwC
    rw [sumFr_eq]
    congr 2
    refine sumTo_congr fun j hj => ?_
    rw [one_win (by omega) (by omega) c1 c2, ← c3]
    simp only [Nat.zero_mul, Nat.zero_add]
    rw [tab_getD _ hj]
  refine ⟨?_⟩
  refine Loop.range (B := pedagoguelaw11_ConvOne_n1_B c h m ((h * h : Nat) : Int) 0 0 pd [(m : Int)] zd D [(m : Int), (c : Int)] fd _ _) (f := fun i : Nat => (i : Int)) (h * h) (fun _ => True) trivial ?_ ?_
  · intro t ht _ X hX
    have hX := hX trivial
    unfold pedagoguelaw11_ConvOne_n1_B
    rw [if_pos (decide_eq_true (show (t : Int) < ((h * h : Nat) : Int) by omega))]
    refine ⟨by omega, ?_⟩
    rw [Int.toNat_natCast]
    refine oneLoop_v (by omega) (by omega) ht lp ?_
    have o8 : All8 (tab c fun j => pd.getD (j * (h * h) + t) 0) := tab8 fun i => p8.at_ _
    have om : mayF ([1, (c : Int)], (0, tab c fun j => pd.getD (j * (h * h) + t) 0)) = true := by
      have s1 : szF [1, (c : Int)] = (c : Int) := by rw [szF2_of (by omega) (by omega) (by omega) (by omega) (by omega), Int.one_mul]
      refine mayF_iff.2 ⟨by show 0 < szF [1, (c : Int)]; rw [s1]; omega, ?_, ⟨by show (-64 : Int) ≤ 0; omega, by show (0 : Int) ≤ 64; omega⟩, ?_⟩
      · show ((tab c fun j => pd.getD (j * (h * h) + t) 0).length : Int) = szF [1, (c : Int)]
        rw [tab_len, s1]
      · intro hmm
        obtain ⟨i, _, e⟩ := mem_tab hmm
        exact pne _ e
    rw [show tnF a1 [(m : Int), (c : Int)] = ([(m : Int), (c : Int)], (0, fd)) by rw [← hfd]; rfl] at fm
    rw [show tnF a2 [(m : Int)] = ([(m : Int)], (0, zd)) by rw [← hzd]; rfl] at zm
    refine fwd_v o8 f8 z8 ?_
    have sm : szF [((1 : Nat) : Int), (m : Int)] = (m : Int) := by rw [szF2_of (by omega) (by omega) (by omega) (by omega) (by omega)]; simp
    rw [fwdF_ok (n := 1) (c := c) (m := m) om fm zm rfl rfl rfl (by omega) (by rw [sm]; omega)]
    dsimp only
    rw [rowsF_len, Nat.one_mul, if_neg (by simp)]
    refine ⟨?_⟩
    refine Loop.range (B := pedagoguelaw11_ConvOne_n3_B h t m D _ _ _) (f := fun i : Nat => (i : Int)) m (fun _ => True) trivial ?_ ?_
    · intro o ho _ Y hY
      have hY := hY trivial
      unfold pedagoguelaw11_ConvOne_n3_B
      rw [if_pos (decide_eq_true (show (o : Int) < (m : Int) by omega))]
      have g1 : o * (h * h) + t < m * (h * h) := ix_lt ho ht
      have g0 : o * (h * h) + t = o * h * h + t := by rw [Nat.mul_assoc]
      have g3 : o * h ≤ 4 * 5 := Nat.mul_le_mul (by omega) (by omega)
      rw [mulw (r := o) (n := h) (by omega), ix (r := o * h) (n := h) (i := t) (by omega), rowsF_len, Nat.one_mul, ← g0]
      refine ⟨by omega, by omega, ?_⟩
      rw [Int.toNat_natCast, Int.toNat_natCast, hDg o t ho ht]
      have gr := rowsF_get (R := 1) (C := m) (f := fwC c (0 + 0) 0 zd (tab c fun j => pd.getD (j * (h * h) + t) 0) fd) (r := 0) (by omega) ho
      rw [Nat.zero_mul, Nat.zero_add] at gr
      have hbd := fwC_bd (n := c) (e := 0) (be := 0) (r := 0) (o := o) (by omega) o8 f8 z8
      rw [wrap_i32 _ (by omega) (by omega)]
      rw [if_neg (by rw [gr]; simp), wrap_i64 ((o : Int) + 1) (by omega) (by omega)]
      exact hY
    · intro _ Y
      unfold pedagoguelaw11_ConvOne_n3_B
      rw [if_neg (by simp), wrap_i64 ((t : Int) + 1) (by omega) (by omega)]
      exact hX
  · intro _ X
    unfold pedagoguelaw11_ConvOne_n1_B
    rw [if_neg (by simp)]
    exact awake_v hq

end Go.Proofs.Ytmleeffinagncaa
