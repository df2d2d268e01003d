/- ConvSlope: the law. Laws; no condition. -/
import Derived.Test.YtmleeffinagncaaQS
namespace Go.Proofs.Ytmleeffinagncaa
open Go.Mach Go.RowKit
set_option maxRecDepth 100000
set_option linter.unusedVariables false
set_option linter.unusedSimpArgs false

theorem err_loop {K0 K1 : Unit → Prop} (hk : K0 ()) : pedagoguelaw11_ConvSlope_n5 0 0 0 0 0 K0 K1 0 := by
  refine ⟨?_⟩
  refine Loop.range (B := pedagoguelaw11_ConvSlope_n5_B 0 0 0 0 0 K0 K1) (f := fun i : Nat => (i : Int)) 5 (fun _ => True) trivial ?_ ?_
  · intro i hi _ X hX
    unfold pedagoguelaw11_ConvSlope_n5_B
    rw [if_pos (decide_eq_true (show (i : Int) < 5 by omega))]
    refine ⟨by omega, ?_⟩
    have e : ([0, 0, 0, 0, 0] : List Int).getD ((i : Int)).toNat 0 = 0 := by
      rw [Int.toNat_natCast]
      match i, hi with
      | 0, _ => rfl
      | 1, _ => rfl
      | 2, _ => rfl
      | 3, _ => rfl
      | 4, _ => rfl
    rw [e, if_neg (by simp), wrap_i64 _ (by omega) (by omega)]
    exact hX trivial
  · intro _ X
    unfold pedagoguelaw11_ConvSlope_n5_B
    rw [if_neg (by simp)]
    exact hk
theorem dot_loop {N : Nat} {qd a b d : List Int} {fa fb fd : Nat → Int} {K0 : Int × Int → Prop} (q8 : All8 qd) (hN : N ≤ 8192) (lq : qd.length = N) (la : a.length = N) (lb : b.length = N) (ld : d.length = N)
    (ha : ∀ t, t < N → a.getD t 0 = fa t ∧ -1000000 ≤ fa t ∧ fa t ≤ 1000000) (hb : ∀ t, t < N → b.getD t 0 = fb t ∧ -1000000 ≤ fb t ∧ fb t ≤ 1000000) (hd : ∀ t, t < N → d.getD t 0 = fd t ∧ -1000000 ≤ fd t ∧ fd t ≤ 1000000)
    (hk : K0 (IntKind.i64.wrap (sumTo (fun t => qd.getD t 0 * (fb t - fa t)) N), IntKind.i64.wrap (sumTo (fun t => qd.getD t 0 * (fd t - fa t)) N))) :
    pedagoguelaw11_ConvSlope_n6 (N : Int) qd a b d K0 (0, 0, 0) := by
  refine ⟨?_⟩
  have eg : ((0 : Int), (0 : Int), (0 : Int)) = (fun t : Nat => (IntKind.i64.wrap (sumTo (fun t => qd.getD t 0 * (fb t - fa t)) t), IntKind.i64.wrap (sumTo (fun t => qd.getD t 0 * (fd t - fa t)) t), (t : Int))) 0 := by
    simp only [sumTo]; decide
  rw [eg]
  refine Loop.range (B := pedagoguelaw11_ConvSlope_n6_B (N : Int) qd a b d K0) (f := fun t : Nat => (IntKind.i64.wrap (sumTo (fun t => qd.getD t 0 * (fb t - fa t)) t), IntKind.i64.wrap (sumTo (fun t => qd.getD t 0 * (fd t - fa t)) t), (t : Int))) N (fun _ => True) trivial ?_ ?_
  · intro t ht _ X hX
    have hX := hX trivial
    unfold pedagoguelaw11_ConvSlope_n6_B
    rw [if_pos (decide_eq_true (show (t : Int) < (N : Int) by omega))]
    dsimp only at hX ⊢
    rw [lq, la, lb, ld]
    refine ⟨by omega, by omega, by omega, by omega, by omega, by omega, ?_⟩
    rw [Int.toNat_natCast]
    obtain ⟨a1, a2, a3⟩ := ha t ht
    obtain ⟨b1, b2, b3⟩ := hb t ht
    obtain ⟨d1, d2, d3⟩ := hd t ht
    have q1 := q8.at_ t
    rw [a1, b1, d1, wrap_i64 (qd.getD t 0) (by omega) (by omega), wrap_i32 (fb t - fa t) (by omega) (by omega), wrap_i32 (fd t - fa t) (by omega) (by omega), wrap_i64 (fb t - fa t) (by omega) (by omega), wrap_i64 (fd t - fa t) (by omega) (by omega), wrap_i64 ((t : Int) + 1) (by omega) (by omega), w64_add_l, w64_add_l, w64_add_r, w64_add_r]
    exact hX
  · intro _ X
    unfold pedagoguelaw11_ConvSlope_n6_B
    rw [if_neg (by simp)]
    exact hk
theorem may_set {d : List Int} {l : List Int} {i : Nat} {v : Int} (h : mayF (d, (0, l)) = true) (hv : v ≠ -128) : mayF (d, (0, l.set i v)) = true := by
  obtain ⟨h1, h2, h3, h4⟩ := mayF_iff.1 h
  refine mayF_iff.2 ⟨h1, ?_, h3, ?_⟩
  · show ((l.set i v).length : Int) = _
    rw [List.length_set]; exact h2
  · intro hm
    rcases List.mem_or_eq_of_mem_set hm with e | e
    · exact h4 e
    · exact hv e.symm
theorem set_8 {l : List Int} {i : Nat} {v : Int} (h : All8 l) (hv : -128 ≤ v ∧ v ≤ 127) : All8 (l.set i v) := fun y hy => by
  rcases List.mem_or_eq_of_mem_set hy with e | e
  · exact h y e
  · subst e; exact hv
theorem tab_no {l d : List Int} (h : All8 l) (j : Nat) : (tnF l d).2.2.getD j 0 ≠ -128 := by
  unfold tnF
  dsimp only
  rcases Nat.lt_or_ge j (szF d).toNat with g | g
  · rw [tab_getD _ g]; have := tnC_rng h j; omega
  · rw [List.getD_eq_getElem?_getD, List.getElem?_eq_none (by rw [tab_len]; exact g)]; simp
theorem umodlen (a : Int) (N : Nat) (h : 0 < N) (h2 : N ≤ 1000000) : ∃ i : Nat, IntKind.i64.wrap ((IntKind.u64.wrap a).tmod (IntKind.u64.wrap (N : Int))) = i ∧ i < N := by
  rw [wrap_u64 (N : Int) (by omega) (by omega)]
  obtain ⟨i, e, hi⟩ := umod a (N : Int) (by omega) (by omega)
  exact ⟨i, e, by omega⟩

/-- A cell of Forward without a bias. -/
theorem cell_fwdS {H V C K O P Q n : Nat} {s p : Int} {xd wd zd : List Int} (ax : All8 xd) (aw : All8 wd) (hC : C ≤ 2) (hK : K ≤ 3) (hz : ∀ o, zd.getD o 0 = 0) :
    lst4 n O P Q (fwdCell H V C K s p xd wd zd 0 (0 + 0)) = lst4 n O P Q (fwdS H V C K s p xd wd) := by
  refine lst4_congr fun m o y x _ _ _ _ => ?_
  have hb := fwdS_bd (H := H) (V := V) (s := s) (p := p) (m := m) (o := o) (y := y) (x := x) ax aw hC hK
  unfold fwdS at hb ⊢
  unfold fwdCell
  rw [hz, show alF 0 0 (0 + 0) = 0 by decide, Int.zero_add, wrap_i32 _ (by omega) (by omega)]

theorem slope_v {a0 a1 a2 : List Int} {a3 a4 a5 a6 a7 a8 a9 a10 : Int} {Q : Bool → Prop} (h0 : All8 a0) (h1 : All8 a1) (h2 : All8 a2) (hq : Q true) : pedagoguelaw11_ConvSlope a0 a1 a2 a3 a4 a5 a6 a7 a8 a9 a10 Q := by
  refine ⟨?_⟩
  unfold pedagoguelaw11_ConvSlope_t
  obtain ⟨n', en, hn'⟩ := umod a3 2 (by omega) (by omega)
  obtain ⟨c', ec, hc'⟩ := umod a4 2 (by omega) (by omega)
  obtain ⟨h', eh, hh'⟩ := umod a5 5 (by omega) (by omega)
  obtain ⟨m', em, hm'⟩ := umod a6 3 (by omega) (by omega)
  obtain ⟨k', ek, hk'⟩ := umod a7 3 (by omega) (by omega)
  obtain ⟨s', es, hs'⟩ := umod a8 3 (by omega) (by omega)
  rw [en, ec, eh, em, ek, es]
  have e1 : IntKind.i64.wrap (1 + (n' : Int)) = ((1 + n' : Nat) : Int) := by rw [wrap_i64 _ (by omega) (by omega)]; omega
  have e2 : IntKind.i64.wrap (1 + (c' : Int)) = ((1 + c' : Nat) : Int) := by rw [wrap_i64 _ (by omega) (by omega)]; omega
  have e3 : IntKind.i64.wrap (2 + (h' : Int)) = ((2 + h' : Nat) : Int) := by rw [wrap_i64 _ (by omega) (by omega)]; omega
  have e4 : IntKind.i64.wrap (1 + (m' : Int)) = ((1 + m' : Nat) : Int) := by rw [wrap_i64 _ (by omega) (by omega)]; omega
  have e5 : IntKind.i64.wrap (1 + (k' : Int)) = ((1 + k' : Nat) : Int) := by rw [wrap_i64 _ (by omega) (by omega)]; omega
  have e6 : IntKind.i64.wrap (1 + (s' : Int)) = ((1 + s' : Nat) : Int) := by rw [wrap_i64 _ (by omega) (by omega)]; omega
  rw [e1, e2, e3, e4, e5, e6]
  obtain ⟨n, kn⟩ : ∃ n, 1 + n' = n := ⟨_, rfl⟩
  obtain ⟨c, kc⟩ : ∃ c, 1 + c' = c := ⟨_, rfl⟩
  obtain ⟨h, kh⟩ : ∃ h, 2 + h' = h := ⟨_, rfl⟩
  obtain ⟨m, km⟩ : ∃ m, 1 + m' = m := ⟨_, rfl⟩
  obtain ⟨k, kk⟩ : ∃ k, 1 + k' = k := ⟨_, rfl⟩
  obtain ⟨s, ks⟩ : ∃ s, 1 + s' = s := ⟨_, rfl⟩
  rw [kn, kc, kh, km, kk, ks, wrap_u64 (k : Int) (by omega) (by omega)]
  obtain ⟨p, ep, hp⟩ := umod a9 (k : Int) (by omega) (by omega)
  rw [ep]
  refine ⟨by omega, by omega, by omega, by omega, by omega, by omega, by omega, ⟨?_⟩⟩
  unfold pedagoguelaw11_ConvSlope_n0_t
  refine rout_v (by omega) ?_
  obtain ⟨o, eo, ho⟩ := out_nat (n := h) (k := k) (s := s) (p := p)
  rw [eo]
  by_cases hz : o = 0
  · rw [if_pos (by simp [hz])]
    exact awake_v hq
  · rw [if_neg (by simpa using hz)]
    obtain ⟨b1, b2, b3, b4, b5, b6⟩ := out_ok (n := h) (k := k) (s := s) (p := p) (by omega)
    have ho8 : o ≤ 8 := by
      have := Int.ediv_le_self (a := (h : Int) + 2 * p - k) (s : Int) (by omega)
      omega
    refine tn_v (by simp) (tn_v (by simp) (tn_v (by simp) (tn_v (by simp) ⟨?_⟩)))
    unfold pedagoguelaw11_ConvSlope_n1_t
    have c1 : h * h ≤ 6 * 6 := Nat.mul_le_mul (by omega) (by omega)
    have c2 : k * k ≤ 3 * 3 := Nat.mul_le_mul (by omega) (by omega)
    have c3 : o * o ≤ 8 * 8 := Nat.mul_le_mul ho8 ho8
    have c4 : n * c ≤ 2 * 2 := Nat.mul_le_mul (by omega) (by omega)
    have c5 : n * c * (h * h) ≤ 2 * 2 * (6 * 6) := Nat.mul_le_mul c4 c1
    have c6 : m * c ≤ 3 * 2 := Nat.mul_le_mul (by omega) (by omega)
    have c7 : m * c * (k * k) ≤ 3 * 2 * (3 * 3) := Nat.mul_le_mul c6 c2
    have c8 : n * m ≤ 2 * 3 := Nat.mul_le_mul (by omega) (by omega)
    have c9 : n * m * (o * o) ≤ 2 * 3 * (8 * 8) := Nat.mul_le_mul c8 c3
    have d1 : 0 < h * h := Nat.mul_pos (by omega) (by omega)
    have d2 : 0 < k * k := Nat.mul_pos (by omega) (by omega)
    have d3 : 0 < o * o := Nat.mul_pos (by omega) (by omega)
    have d5 : 0 < n * c * (h * h) := Nat.mul_pos (Nat.mul_pos (by omega) (by omega)) d1
    have d7 : 0 < m * c * (k * k) := Nat.mul_pos (Nat.mul_pos (by omega) (by omega)) d2
    have d9 : 0 < n * m * (o * o) := Nat.mul_pos (Nat.mul_pos (by omega) (by omega)) d3
    have f5 : n * c * h * h = n * c * (h * h) := Nat.mul_assoc _ _ _
    have f7 : m * c * k * k = m * c * (k * k) := Nat.mul_assoc _ _ _
    have f9 : n * m * o * o = n * m * (o * o) := Nat.mul_assoc _ _ _
    have sp : szF [(n : Int), c, h, h] = ((n * c * (h * h) : Nat) : Int) := by rw [szF4_of (by omega) (by omega) (by omega) (by omega) (by omega), f5]
    have sv : szF [(m : Int), c, k, k] = ((m * c * (k * k) : Nat) : Int) := by rw [szF4_of (by omega) (by omega) (by omega) (by omega) (by omega), f7]
    have sq : szF [(n : Int), m, o, o] = ((n * m * (o * o) : Nat) : Int) := by rw [szF4_of (by omega) (by omega) (by omega) (by omega) (by omega), f9]
    have sz : szF [(m : Int)] = (m : Int) := szF1_of (by omega) (by omega)
    have pm := tnF_may (d := [(n : Int), c, h, h]) h0 (by rw [sp]; omega)
    have vm := tnF_may (d := [(m : Int), c, k, k]) h1 (by rw [sv]; omega)
    have zm := tnF_may (l := []) (d := [(m : Int)]) all8_nil (by rw [sz]; omega)
    have qm := tnF_may (d := [(n : Int), m, o, o]) h2 (by rw [sq]; omega)
    have p8 := tnF_8 h0 [(n : Int), c, h, h]
    have v8 := tnF_8 h1 [(m : Int), c, k, k]
    have z8 := tnF_8 all8_nil [(m : Int)]
    have q8 := tnF_8 h2 [(n : Int), m, o, o]
    obtain ⟨pd, hpd⟩ : ∃ pd, (tnF a0 [(n : Int), c, h, h]).2.2 = pd := ⟨_, rfl⟩
    obtain ⟨vd, hvd⟩ : ∃ vd, (tnF a1 [(m : Int), c, k, k]).2.2 = vd := ⟨_, rfl⟩
    obtain ⟨zd, hzd⟩ : ∃ zd, (tnF [] [(m : Int)]).2.2 = zd := ⟨_, rfl⟩
    obtain ⟨qd, hqd⟩ : ∃ qd, (tnF a2 [(n : Int), m, o, o]).2.2 = qd := ⟨_, rfl⟩
    have lp : pd.length = n * c * (h * h) := by rw [← hpd]; show (tab (szF _).toNat _).length = _; rw [tab_len, sp, Int.toNat_natCast]
    have lv : vd.length = m * c * (k * k) := by rw [← hvd]; show (tab (szF _).toNat _).length = _; rw [tab_len, sv, Int.toNat_natCast]
    have lq : qd.length = n * m * (o * o) := by rw [← hqd]; show (tab (szF _).toNat _).length = _; rw [tab_len, sq, Int.toNat_natCast]
    have zz : ∀ o, zd.getD o 0 = 0 := by
      intro o
      rw [← hzd]
      show (tab (szF [(m : Int)]).toNat (tnC [])).getD o 0 = 0
      rcases Nat.lt_or_ge o (szF [(m : Int)]).toNat with g | g
      · rw [tab_getD _ g]; simp [tnC]
      · rw [List.getD_eq_getElem?_getD, List.getElem?_eq_none (by rw [tab_len]; exact g)]; rfl
    have tp : tnF a0 [(n : Int), c, h, h] = ([(n : Int), c, h, h], (0, pd)) := by rw [← hpd]; rfl
    have tv : tnF a1 [(m : Int), c, k, k] = ([(m : Int), c, k, k], (0, vd)) := by rw [← hvd]; rfl
    have tz : tnF [] [(m : Int)] = ([(m : Int)], (0, zd)) := by rw [← hzd]; rfl
    have tq : tnF a2 [(n : Int), m, o, o] = ([(n : Int), m, o, o], (0, qd)) := by rw [← hqd]; rfl
    rw [hpd] at p8; rw [hvd] at v8; rw [hzd] at z8; rw [hqd] at q8
    rw [tp] at pm; rw [tv] at vm; rw [tz] at zm; rw [tq] at qm
    rw [tp, tv, tz, tq]
    dsimp only
    rw [lp, lv]
    obtain ⟨i, ei, hi⟩ := umodlen a10 (n * c * (h * h)) d5 (by omega)
    obtain ⟨j, ej, hj⟩ := umodlen a10 (m * c * (k * k)) d7 (by omega)
    rw [ei, ej]
    refine ⟨by rw [wrap_u64 _ (by omega) (by omega)]; omega, by rw [wrap_u64 _ (by omega) (by omega)]; omega, by omega, ?_⟩
    rw [Int.toNat_natCast, Int.toNat_natCast]
    refine orb_v (b := pd.getD i 0 == 127) (c := vd.getD j 0 == 127) (fun _ P hP => ⟨by omega, hP⟩) (fun v7 e7 => ?_) rfl
    cases v7 with
    | true => rw [if_pos rfl]; exact awake_v hq
    | false =>
      rw [if_neg (by simp)]
      have e7 := e7.symm
      simp only [Bool.or_eq_false_iff, beq_eq_false_iff_ne, ne_eq] at e7
      refine tn_v (by simp) (tn_v (by simp) ⟨?_⟩)
      unfold pedagoguelaw11_ConvSlope_n2_t
      rw [tp, tv]
      dsimp only
      have pi8 := p8.at_ i
      have vj8 := v8.at_ j
      have pn : pd.getD i 0 ≠ -128 := by rw [← hpd]; exact tab_no h0 i
      have vn : vd.getD j 0 ≠ -128 := by rw [← hvd]; exact tab_no h1 j
      rw [Int.toNat_natCast, Int.toNat_natCast, wrap_i8 (pd.getD i 0 + 1) (by omega) (by omega), wrap_i8 (vd.getD j 0 + 1) (by omega) (by omega)]
      refine ⟨by omega, by omega, by omega, by omega, ?_⟩
      have pm2 := may_set (i := i) (v := pd.getD i 0 + 1) pm (by omega)
      have vm2 := may_set (i := j) (v := vd.getD j 0 + 1) vm (by omega)
      have p82 := set_8 (i := i) (v := pd.getD i 0 + 1) p8 (by omega)
      have v82 := set_8 (i := j) (v := vd.getD j 0 + 1) v8 (by omega)
      have hf1 : c * k * k ≤ 959 := by
        have g1 : c * k ≤ 2 * 3 := Nat.mul_le_mul (by omega) (by omega)
        have g2 : c * k * k ≤ 2 * 3 * 3 := Nat.mul_le_mul g1 (by omega)
        omega
      have hf2 : m * k * k ≤ 959 := by
        have g1 : m * k ≤ 3 * 3 := Nat.mul_le_mul (by omega) (by omega)
        have g2 : m * k * k ≤ 3 * 3 * 3 := Nat.mul_le_mul g1 (by omega)
        omega
      have hf3 : n * o * o ≤ 959 := by
        have g1 : n * o ≤ 2 * 8 := Nat.mul_le_mul (by omega) (by omega)
        have g2 : n * o * o ≤ 2 * 8 * 8 := Nat.mul_le_mul g1 (by omega)
        omega
      refine conv_v p8 v8 z8 (conv_v p82 v8 z8 (conv_v p8 v82 z8 ?_))
      rw [convF_ok (n := n) (C := c) (H := h) (V := h) (O := m) (K := k) (P := o) (R := o) (s := s) (p := p) pm vm zm rfl rfl rfl eo eo (by omega) (by omega) hf1 (by rw [sq]; omega)]
      rw [convF_ok (n := n) (C := c) (H := h) (V := h) (O := m) (K := k) (P := o) (R := o) (s := s) (p := p) pm2 vm zm rfl rfl rfl eo eo (by omega) (by omega) hf1 (by rw [sq]; omega)]
      rw [convF_ok (n := n) (C := c) (H := h) (V := h) (O := m) (K := k) (P := o) (R := o) (s := s) (p := p) pm vm2 zm rfl rfl rfl eo eo (by omega) (by omega) hf1 (by rw [sq]; omega)]
      dsimp only
      rw [cell_fwdS p8 v8 (by omega) (by omega) zz, cell_fwdS p82 v8 (by omega) (by omega) zz, cell_fwdS p8 v82 (by omega) (by omega) zz]
      refine ⟨?_⟩
      unfold pedagoguelaw11_ConvSlope_n3_t
      refine input_v q8 v8 (weight_v q8 p8 ?_)
      rw [inputF_ok (n := n) (O := m) (C := c) (P := o) (R := o) (K := k) (H := h) (V := h) (s := s) (p := p) qm vm rfl rfl eo eo (by omega) (by omega) hf2 (by rw [sp]; omega)]
      rw [weightF_ok (n := n) (O := m) (C := c) (H := h) (V := h) (P := o) (R := o) (K := k) (s := s) (p := p) qm pm rfl rfl eo eo (by omega) (by omega) hf3 (by rw [sv]; omega)]
      dsimp only
      refine err_loop ?_
      rw [lst4_len, lst4_len, lst4_len, lst4_len, w4_len, lq, lp, lv, f5, f7, f9, if_neg (by simp)]
      refine ⟨?_⟩
      unfold pedagoguelaw11_ConvSlope_n4_t
      obtain ⟨i1, i2, i3⟩ := ix_cover hi
      obtain ⟨i4, i5, i6⟩ := ix_cover i1
      obtain ⟨i7, i8, i9⟩ := ix_cover i2
      obtain ⟨m0, hm0⟩ : ∃ m0, i / (h * h) / c = m0 := ⟨_, rfl⟩
      obtain ⟨c0, hc0⟩ : ∃ c0, i / (h * h) % c = c0 := ⟨_, rfl⟩
      obtain ⟨y0, hy0⟩ : ∃ y0, i % (h * h) / h = y0 := ⟨_, rfl⟩
      obtain ⟨x0, hx0⟩ : ∃ x0, i % (h * h) % h = x0 := ⟨_, rfl⟩
      rw [hm0] at i4 i6; rw [hc0] at i5 i6; rw [hy0] at i7 i9; rw [hx0] at i8 i9
      rw [i6, i9] at i3
      rw [← f7] at hj
      obtain ⟨o0, c1', r0, q0, j1, j2, j3, j4, j5⟩ := ix4_cover hj
      have w1 : pd.length = n * c * (h * h) := lp
      have sx := slope_x (n := n) (O := m) (C := c) (K := k) (H := h) (V := h) (P := o) (Q := o) (s := s) (p := p) (xd := pd) (wd := vd) (gd := qd) lp eo eo (by omega) (by omega) i4 i5 i7 i8
      have sw := slope_w (n := n) (O := m) (C := c) (K := k) (H := h) (V := h) (P := o) (Q := o) (s := s) (p := p) (xd := pd) (wd := vd) (gd := qd) (by rw [lv, f7]) j1 j2 j3 j4
      rw [← i3] at sx
      rw [← j5] at sw
      rw [f9] at sx sw
      have bd : ∀ (xd wd : List Int), All8 xd → All8 wd → ∀ t, t < n * m * (o * o) → (lst4 n m o o (fwdS h h c k s p xd wd)).getD t 0 = (lst4 n m o o (fwdS h h c k s p xd wd)).getD t 0 ∧ -1000000 ≤ (lst4 n m o o (fwdS h h c k s p xd wd)).getD t 0 ∧ (lst4 n m o o (fwdS h h c k s p xd wd)).getD t 0 ≤ 1000000 := by
        intro xd wd hx hw t ht
        rw [← f9] at ht
        obtain ⟨t1, t2, t3, t4, g1, g2, g3, g4, rfl⟩ := ix4_cover ht
        rw [lst4_get g1 g2 g3 g4]
        have := fwdS_bd (H := h) (V := h) (s := s) (p := p) (m := t1) (o := t2) (y := t3) (x := t4) hx hw (show c ≤ 2 by omega) (show k ≤ 3 by omega)
        exact ⟨rfl, by omega, by omega⟩
      rw [lq]
      refine dot_loop (N := n * m * (o * o)) (fa := fun t => (lst4 n m o o (fwdS h h c k s p pd vd)).getD t 0) (fb := fun t => (lst4 n m o o (fwdS h h c k s p (pd.set i (pd.getD i 0 + 1)) vd)).getD t 0) (fd := fun t => (lst4 n m o o (fwdS h h c k s p pd (vd.set j (vd.getD j 0 + 1)))).getD t 0)
        q8 (by omega) lq (by rw [lst4_len, f9]) (by rw [lst4_len, f9]) (by rw [lst4_len, f9]) (bd pd vd p8 v8) (bd _ vd p82 v8) (bd pd _ p8 v82) ?_
      rw [sx, sw, lst4_len, w4_len, Int.toNat_natCast, Int.toNat_natCast]
      -- what goes back, number by number
      have gi : (lst4 n c h h (inCell h h c m k o o s p qd vd)).getD i 0 = IntKind.i32.wrap (sumTo (fun o' => lsum (lookF h h y0 x0 k s p) (inG qd vd m c (o * o) k m0 c0 o')) m) := by
        have := lst4_get (cell := inCell h h c m k o o s p qd vd) i4 i5 i7 i8
        have e : ix4 c h h m0 c0 y0 x0 = i := by rw [i3]; unfold ix4; rw [Nat.add_mul, Nat.mul_assoc, Nat.add_assoc]
        rw [e] at this
        exact this
      have gj : (w4 m c k k (wtCell n m c k o o h h s p qd pd)).getD j 0 = IntKind.i32.wrap (wtCell n m c k o o h h s p qd pd o0 c1' r0 q0) := by
        rw [j5]; exact w4_get j1 j2 j3 j4
      have bi : -100000000 ≤ sumTo (fun o' => lsum (lookF h h y0 x0 k s p) (inG qd vd m c (o * o) k m0 c0 o')) m ∧ sumTo (fun o' => lsum (lookF h h y0 x0 k s p) (inG qd vd m c (o * o) k m0 c0 o')) m ≤ 100000000 := by
        have hl := lookF_len (rows := h) (cols := h) (r := y0) (c := x0) (k := k) (s := s) (p := p)
        have := sumTo_bd (fun o' => lsum (lookF h h y0 x0 k s p) (inG qd vd m c (o * o) k m0 c0 o')) 10240000 m fun o' _ => by
          have := lsum_bd (l := lookF h h y0 x0 k s p) (f := inG qd vd m c (o * o) k m0 c0 o') (B := 16384) fun z _ => mul8 (q8.at_ _) (v8.at_ _)
          omega
        omega
      have bj : -100000000 ≤ wtCell n m c k o o h h s p qd pd o0 c1' r0 q0 ∧ wtCell n m c k o o h h s p qd pd o0 c1' r0 q0 ≤ 100000000 := by
        unfold wtCell
        have := sumTo_bd (fun i => lsum (windowF h h ((i / o : Nat) : Int) ((i % o : Nat) : Int) k s p) (wtZ n m c o o (h * h) qd pd i o0 c1' r0 q0)) 294912 (o * o) fun w _ => by
          have hl := windowF_len (rows := h) (cols := h) (r := ((w / o : Nat) : Int)) (c := ((w % o : Nat) : Int)) (s := s) (p := p) (K := k)
          have := lsum_bd (l := windowF h h ((w / o : Nat) : Int) ((w % o : Nat) : Int) k s p) (f := wtZ n m c o o (h * h) qd pd w o0 c1' r0 q0) (B := 32768) fun z _ => by
            unfold wtZ
            split
            · unfold wtM
              have := sumTo_bd (fun m' => wtG m c o o (h * h) qd pd w m' o0 c1' z.1.toNat) 16384 n fun m' _ => mul8 (q8.at_ _) (p8.at_ _)
              omega
            · omega
          omega
        omega
      refine ⟨by rw [f5]; omega, ?_⟩
      rw [gi, gj]
      rw [wrap_i32 _ (by omega) (by omega), wrap_i32 (wtCell n m c k o o h h s p qd pd o0 c1' r0 q0) (by omega) (by omega)]
      refine and_v (b := IntKind.i64.wrap (sumTo (fun o' => lsum (lookF h h y0 x0 k s p) (inG qd vd m c (o * o) k m0 c0 o')) m) == IntKind.i64.wrap (sumTo (fun o' => lsum (lookF h h y0 x0 k s p) (inG qd vd m c (o * o) k m0 c0 o')) m)) (c := true) (fun _ P hP => ⟨by rw [f7]; omega, by simpa using hP⟩) (fun v19 e19 => ?_) rfl
      refine and_v (b := v19) (c := true) (fun _ P hP => awake_v hP) (fun v21 e21 => ?_) rfl
      rw [e21, e19]
      simpa using hq

end Go.Proofs.Ytmleeffinagncaa
