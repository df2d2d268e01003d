/- ConvSums: the weights' way back of a batch is that of its examples, added. Laws; no condition. -/
import Derived.Test.YtmleeffinagncaaQF
namespace Go.Proofs.Ytmleeffinagncaa
open Go.Mach Go.RowKit
set_option maxRecDepth 100000
set_option linter.unusedVariables false
set_option linter.unusedSimpArgs false

theorem weightF_ok {n O C H V P R K : Nat} {g x : T3} {s p : Int} (mg : mayF g = true) (mx : mayF x = true) (eg : g.1 = [(n : Int), O, P, R]) (ex : x.1 = [(n : Int), C, H, V])
    (eP : outF H K s p = P) (eR : outF V K s p = R) (hP : 0 < P) (hR : 0 < R) (hf : n * P * R ≤ 959) (hs : 0 < szF [(O : Int), C, K, K]) :
    weightF g x K s p = (([(O : Int), C, K, K], (g.2.1 + x.2.1, w4 O C K K (wtCell n O C K P R H V s p g.2.2 x.2.2))), 0) := by
  have hc : cmayF [g, x] = 0 := cmayF_of fun t ht => by
    rcases List.mem_cons.1 ht with e | e
    · subst e; exact ⟨mg, by rw [eg]; rfl⟩
    · rcases List.mem_singleton.1 e with rfl
      exact ⟨mx, by rw [ex]; rfl⟩
  have x2 := (mayF_iff.1 mg).2.2.1
  have w2 := (mayF_iff.1 mx).2.2.1
  have hb : wtBad g x K s p = false := by
    unfold wtBad
    simp only [eg, ex, List.getD_cons_zero, List.getD_cons_succ, eP, eR]
    simp
    omega
  have hE : wtE g x K s p = 0 := by
    unfold wtE
    rw [hc, hb]
    simp only [Bool.false_eq_true, if_false, bne_self_eq_false]
    unfold wtDims wtN
    simp only [eg, ex, List.getD_cons_zero, List.getD_cons_succ]
    rw [sumsF_of (fitsF_iff.2 ⟨by rw [← Int.natCast_mul, ← Int.natCast_mul]; omega, by rw [← Int.natCast_mul, ← Int.natCast_mul]; omega⟩) (by omega) hs]
  unfold weightF
  rw [hE, if_neg (by simp)]
  unfold wtDims wtData
  simp only [eg, ex, List.getD_cons_zero, List.getD_cons_succ, Int.toNat_natCast]
theorem biasF_ok {n O P R : Nat} {g : T3} (mg : mayF g = true) (eg : g.1 = [(n : Int), O, P, R]) (hf : n * (P * R) ≤ 959) (hs : 0 < szF [(O : Int)]) :
    biasF g = (([(O : Int)], (g.2.1, tab O fun o => IntKind.i32.wrap (bsSum (P * R) O g.2.2 o g.2.2.length))), 0) := by
  have hc : cmayF [g] = 0 := cmayF_of fun t ht => by
    rcases List.mem_singleton.1 ht with rfl
    exact ⟨mg, by rw [eg]; rfl⟩
  have x2 := (mayF_iff.1 mg).2.2.1
  have hE : bsE g = 0 := by
    unfold bsE
    rw [hc]
    simp only [Bool.false_eq_true, if_false, bne_self_eq_false]
    simp only [eg, List.getD_cons_zero, List.getD_cons_succ]
    rw [sumsF_of (fitsF_iff.2 ⟨by rw [← Int.natCast_mul, ← Int.natCast_mul]; omega, by rw [← Int.natCast_mul, ← Int.natCast_mul]; omega⟩) (by omega) hs]
  unfold biasF
  rw [hE, if_neg (by simp)]
  unfold bsData
  simp only [eg, List.getD_cons_zero, List.getD_cons_succ, ← Int.natCast_mul, Int.toNat_natCast]

/-- A part of a list. -/
theorem part_get {l : List Int} {d i t : Nat} (h : (i + 1) * d ≤ l.length) (ht : t < d) : ((l.take ((i + 1) * d)).drop (i * d)).getD t 0 = l.getD (i * d + t) 0 := by
  have h2 : i * d + t < (i + 1) * d := by rw [Nat.add_mul, Nat.one_mul]; omega
  rw [List.getD_eq_getElem?_getD, List.getElem?_drop, List.getElem?_take, if_pos h2, List.getD_eq_getElem?_getD]
theorem part_8 {l : List Int} {a b : Nat} (h : All8 l) : All8 ((l.take b).drop a) := fun y hy => h y (List.mem_of_mem_take (List.mem_of_mem_drop hy))
theorem tnF_part {l : List Int} {d i : Nat} {ds : List Int} (h : (i + 1) * d ≤ l.length) (hs : szF ds = (d : Int)) (hn : ∀ j, l.getD j 0 ≠ -128) :
    tnF ((l.take ((i + 1) * d)).drop (i * d)) ds = (ds, (0, tab d fun t => l.getD (i * d + t) 0)) := by
  unfold tnF
  rw [hs, Int.toNat_natCast, tab_congr (g := fun t => l.getD (i * d + t) 0)]
  intro t ht
  unfold tnC
  rw [part_get h ht, if_neg (hn _)]

theorem add_loop {a b : List Int} {K0 : List Int → Prop} (hl : a.length = b.length) (hb : b.length ≤ 1000000) (hk : K0 (tab b.length fun j => IntKind.i32.wrap (a.getD j 0 + b.getD j 0))) :
    pedagoguelaw11_ConvSums_n7 (b.length : Int) b K0 (0, a) := by
  refine ⟨?_⟩
  refine Loop.rangeI (B := pedagoguelaw11_ConvSums_n7_B (b.length : Int) b K0) b.length (fun i st => st.1 = (i : Int) ∧ st.2.length = b.length ∧ ∀ j, j < b.length → st.2.getD j 0 = if j < i then IntKind.i32.wrap (a.getD j 0 + b.getD j 0) else a.getD j 0) ⟨rfl, hl, fun j _ => by rw [if_neg (by omega)]⟩ ?_ ?_
  · rintro i hi ⟨i', M⟩ ⟨e1, e2, e3⟩ X hX
    simp only at e1 e2 e3
    subst e1
    unfold pedagoguelaw11_ConvSums_n7_B
    rw [if_pos (decide_eq_true (show (i : Int) < (b.length : Int) by omega))]
    dsimp only
    refine ⟨by omega, by omega, by omega, ?_⟩
    rw [Int.toNat_natCast, wrap_i64 ((i : Int) + 1) (by omega) (by omega)]
    refine hX _ ⟨by simp, by simp [e2], fun j hj => ?_⟩
    dsimp only
    rw [getD_set (by omega)]
    by_cases e : i = j
    · subst e
      rw [if_pos rfl, if_pos (by omega), e3 i hi, if_neg (by omega)]
    · rw [if_neg e, e3 j hj]
      by_cases g : j < i
      · rw [if_pos g, if_pos (by omega)]
      · rw [if_neg g, if_neg (by omega)]
  · rintro ⟨i', M⟩ ⟨e1, e2, e3⟩ X
    simp only at e1 e2 e3
    subst e1
    unfold pedagoguelaw11_ConvSums_n7_B
    rw [if_neg (by simp)]
    dsimp only
    rw [tab_of (f := fun j => IntKind.i32.wrap (a.getD j 0 + b.getD j 0)) e2 fun j hj => by rw [e3 j hj, if_pos hj]]
    exact hk
theorem w4_plus {n O P Q : Nat} {f g : Nat → Nat → Nat → Nat → Int} : (tab (w4 n O P Q g).length fun j => IntKind.i32.wrap ((w4 n O P Q f).getD j 0 + (w4 n O P Q g).getD j 0)) = w4 n O P Q fun a b c d => f a b c d + g a b c d := by
  refine list4_ext (by rw [tab_len, w4_len]) (w4_len _ _ _ _ _) fun m o p q h1 h2 h3 h4 => ?_
  rw [tab_getD _ (by rw [w4_len]; exact ix4_lt h1 h2 h3 h4), w4_get h1 h2 h3 h4, w4_get h1 h2 h3 h4, w4_get h1 h2 h3 h4, w32_add_l, w32_add_r]
/-- The whole batch's sums are those of its examples, added. -/
theorem wtCell_parts {n O C K P Q H V : Nat} {s p : Int} {gd xd : List Int} {o c r q : Nat} (ho : o < O) (hc : c < C) (hw : ∀ y x : Int, InP K (H * V) (windowF H V y x K s p)) :
    wtCell n O C K P Q H V s p gd xd o c r q = sumTo (fun i => wtCell 1 O C K P Q H V s p (tab (O * (P * Q)) fun t => gd.getD (i * (O * (P * Q)) + t) 0) (tab (C * (H * V)) fun t => xd.getD (i * (C * (H * V)) + t) 0) o c r q) n := by
  unfold wtCell
  rw [sumTo_swap]
  refine sumTo_congr fun w hwq => ?_
  rw [← lsum_sumTo]
  refine lsum_congr fun z hz => ?_
  obtain ⟨a, r', q', rfl, ha, hr, hq⟩ := hw _ _ z hz
  unfold wtZ
  dsimp only
  rw [Int.toNat_natCast]
  by_cases g : (r' : Int) = (r : Int) ∧ (q' : Int) = (q : Int)
  · rw [if_pos g]
    unfold wtM
    refine sumTo_congr fun i _ => ?_
    rw [if_pos g]
    simp only [sumTo, Int.zero_add]
    unfold wtG
    simp only [Nat.zero_mul, Nat.zero_add]
    have g1 : o * P * Q + w < O * (P * Q) := by rw [Nat.mul_assoc]; exact ix_lt ho hwq
    rw [tab_getD _ g1, tab_getD _ (ix_lt hc ha)]
    congr 2
    · rw [Nat.mul_assoc, Nat.mul_assoc, Nat.add_mul, Nat.mul_assoc, Nat.add_assoc]
    · rw [Nat.add_mul, Nat.mul_assoc, Nat.add_assoc]
  · rw [if_neg g]
    refine (sumTo_zero fun i _ => ?_).symm
    rw [if_neg g]
theorem cmp_loop {a b : List Int} {K0 K1 : Unit → Prop} (h : a = b) (hl : a.length ≤ 1000000) (hk : K0 ()) : pedagoguelaw11_ConvSums_n3 (a.length : Int) a b K0 K1 0 := by
  subst h
  refine ⟨?_⟩
  refine Loop.range (B := pedagoguelaw11_ConvSums_n3_B (a.length : Int) a a K0 K1) (f := fun i : Nat => (i : Int)) a.length (fun _ => True) trivial ?_ ?_
  · intro i hi _ X hX
    unfold pedagoguelaw11_ConvSums_n3_B
    rw [if_pos (decide_eq_true (show (i : Int) < (a.length : Int) by omega))]
    refine ⟨by omega, by omega, ?_⟩
    rw [if_neg (by simp), wrap_i64 _ (by omega) (by omega)]
    exact hX trivial
  · intro _ X
    unfold pedagoguelaw11_ConvSums_n3_B
    rw [if_neg (by simp)]
    exact hk
theorem sub_loop {m o : Nat} {gd : List Int} {F : Nat → Int} {K0 : List Int → Prop} (h8 : All8 gd) (hl : gd.length ≤ 8192) (ho : 1 ≤ o) (ho5 : o ≤ 16) (hm : 1 ≤ m) (hm8 : m ≤ 8192)
    (hk : K0 (tab m fun j => IntKind.i32.wrap (F j - bsSum (o * o) m gd j gd.length))) : pedagoguelaw11_ConvSums_n4 m o (gd.length : Int) gd K0 (0, tab m fun j => IntKind.i32.wrap (F j)) := by
  have hoo : o * o ≤ 16 * 16 := Nat.mul_le_mul ho5 ho5
  have hoo1 : 1 * 1 ≤ o * o := Nat.mul_le_mul ho ho
  refine ⟨?_⟩
  have eg : ((0 : Int), tab m fun j => IntKind.i32.wrap (F j)) = (fun i : Nat => ((i : Int), tab m fun j => IntKind.i32.wrap (F j - bsSum (o * o) m gd j i))) 0 := by
    simp [bsSum, sumTo]
  rw [eg]
  refine Loop.range (B := pedagoguelaw11_ConvSums_n4_B m o (gd.length : Int) gd K0) (f := fun i : Nat => ((i : Int), tab m fun j => IntKind.i32.wrap (F j - bsSum (o * o) m gd j i))) gd.length (fun _ => True) trivial ?_ ?_
  · intro i hi _ X hX
    have hX := hX trivial
    unfold pedagoguelaw11_ConvSums_n4_B
    rw [if_pos (decide_eq_true (show (i : Int) < (gd.length : Int) by omega))]
    dsimp only at hX ⊢
    rw [mulw (r := o) (n := o) (by omega)]
    have l1 : i / (o * o) ≤ i := Nat.div_le_self _ _
    obtain ⟨y, ey⟩ : ∃ y, i / (o * o) = y := ⟨_, rfl⟩
    have et : IntKind.i64.wrap ((i : Int).tdiv ((o * o : Nat) : Int)) = (y : Int) := by
      rw [Int.tdiv_eq_ediv_of_nonneg (by omega), ← Int.natCast_ediv, ey]
      rw [ey] at l1
      rw [wrap_i64 _ (by omega) (by omega)]
    have hmm := Nat.mod_lt y (show 0 < m by omega)
    obtain ⟨u, eu⟩ : ∃ u, y % m = u := ⟨_, rfl⟩
    have em : (y : Int).tmod (m : Int) = (u : Int) := by
      rw [Int.tmod_eq_emod_of_nonneg (by omega), ← Int.natCast_emod, eu]
    rw [et, em, tab_len]
    refine ⟨by omega, by omega, by omega, by omega, by omega, ?_⟩
    have b8 := h8.at_ i
    rw [Int.toNat_natCast, Int.toNat_natCast, tab_getD _ (by omega), tab_set (by omega), wrap_i64 ((i : Int) + 1) (by omega) (by omega), wrap_i32 (gd.getD i 0) (by omega) (by omega), Int.sub_eq_add_neg, w32_add_l]
    have : (tab m fun j => if j = u then IntKind.i32.wrap (F u - bsSum (o * o) m gd u i + -gd.getD i 0) else IntKind.i32.wrap (F j - bsSum (o * o) m gd j i)) = tab m fun j => IntKind.i32.wrap (F j - bsSum (o * o) m gd j (i + 1)) := by
      refine tab_congr fun j hj => ?_
      unfold bsSum
      simp only [sumTo]
      by_cases e : j = u
      · subst e
        rw [if_pos rfl, if_pos (by rw [ey, eu])]
        congr 1
        omega
      · rw [if_neg e, if_neg (by rw [ey, eu]; exact fun hh => e hh.symm), Int.add_zero]
    rw [this]
    exact hX
  · intro _ X
    unfold pedagoguelaw11_ConvSums_n4_B
    rw [if_neg (by simp)]
    exact hk
theorem zero_loop {a : List Int} {K0 K1 : Unit → Prop} (h : ∀ i, a.getD i 0 = 0) (hl : a.length ≤ 1000000) (hk : K0 ()) : pedagoguelaw11_ConvSums_n5 (a.length : Int) a K0 K1 0 := by
  refine ⟨?_⟩
  refine Loop.range (B := pedagoguelaw11_ConvSums_n5_B (a.length : Int) a K0 K1) (f := fun i : Nat => (i : Int)) a.length (fun _ => True) trivial ?_ ?_
  · intro i hi _ X hX
    unfold pedagoguelaw11_ConvSums_n5_B
    rw [if_pos (decide_eq_true (show (i : Int) < (a.length : Int) by omega))]
    refine ⟨by omega, ?_⟩
    rw [Int.toNat_natCast, h, if_neg (by simp), wrap_i64 _ (by omega) (by omega)]
    exact hX trivial
  · intro _ X
    unfold pedagoguelaw11_ConvSums_n5_B
    rw [if_neg (by simp)]
    exact hk
theorem tab_no {l d : List Int} (h : All8 l) (j : Nat) : (tnF l d).2.2.getD j 0 ≠ -128 := by
  unfold tnF
  dsimp only
  rcases Nat.lt_or_ge j (szF d).toNat with g | g
  · rw [tab_getD _ g]; have := tnC_rng h j; omega
  · rw [List.getD_eq_getElem?_getD, List.getElem?_eq_none (by rw [tab_len]; exact g)]; simp
theorem may_tab {d : List Int} {N : Nat} {f : Nat → Int} (hs : szF d = (N : Int)) (hN : 0 < N) (hf : ∀ t, f t ≠ -128) : mayF (d, (0, tab N f)) = true := by
  refine mayF_iff.2 ⟨by show 0 < szF d; omega, ?_, ⟨by show (-64 : Int) ≤ 0; omega, by show (0 : Int) ≤ 64; omega⟩, ?_⟩
  · show ((tab N f).length : Int) = szF d
    rw [tab_len, hs]
  · intro hm
    obtain ⟨i, _, e⟩ := mem_tab hm
    exact hf _ e

theorem sums_v {a0 a1 : List Int} {a2 a3 a4 a5 a6 : Int} {Q : Bool → Prop} (ha : All8 a0) (hb : All8 a1) (hq : Q true) : pedagoguelaw11_ConvSums a0 a1 a2 a3 a4 a5 a6 Q := by
  refine ⟨?_⟩
  unfold pedagoguelaw11_ConvSums_t
  obtain ⟨n', en, hn'⟩ := umod a2 3 (by omega) (by omega)
  obtain ⟨c', ec, hc'⟩ := umod a3 2 (by omega) (by omega)
  obtain ⟨h', eh, hh'⟩ := umod a4 4 (by omega) (by omega)
  obtain ⟨m', em, hm'⟩ := umod a5 3 (by omega) (by omega)
  obtain ⟨k', ek, hk'⟩ := umod a6 3 (by omega) (by omega)
  rw [en, ec, eh, em, ek]
  have e1 : IntKind.i64.wrap (1 + (n' : Int)) = ((1 + n' : Nat) : Int) := by rw [wrap_i64 _ (by omega) (by omega)]; omega
  have e2 : IntKind.i64.wrap (1 + (c' : Int)) = ((1 + c' : Nat) : Int) := by rw [wrap_i64 _ (by omega) (by omega)]; omega
  have e3 : IntKind.i64.wrap (3 + (h' : Int)) = ((3 + h' : Nat) : Int) := by rw [wrap_i64 _ (by omega) (by omega)]; omega
  have e4 : IntKind.i64.wrap (1 + (m' : Int)) = ((1 + m' : Nat) : Int) := by rw [wrap_i64 _ (by omega) (by omega)]; omega
  have e5 : IntKind.i64.wrap (1 + (k' : Int)) = ((1 + k' : Nat) : Int) := by rw [wrap_i64 _ (by omega) (by omega)]; omega
  rw [e1, e2, e3, e4, e5]
  obtain ⟨n, kn⟩ : ∃ n, 1 + n' = n := ⟨_, rfl⟩
  obtain ⟨c, kc⟩ : ∃ c, 1 + c' = c := ⟨_, rfl⟩
  obtain ⟨h, kh⟩ : ∃ h, 3 + h' = h := ⟨_, rfl⟩
  obtain ⟨m, km⟩ : ∃ m, 1 + m' = m := ⟨_, rfl⟩
  obtain ⟨k, kk⟩ : ∃ k, 1 + k' = k := ⟨_, rfl⟩
  rw [kn, kc, kh, km, kk]
  refine ⟨by omega, by omega, by omega, by omega, by omega, rout_v (by omega) ?_⟩
  have eo := outF_plain (n := h) (k := k) (by omega) (by omega) (by omega) (by omega) (by omega)
  obtain ⟨o, ho⟩ : ∃ o, h - k + 1 = o := ⟨_, rfl⟩
  rw [ho] at eo
  rw [eo]
  refine tn_v (by simp) (tn_v (by simp) ⟨?_⟩)
  unfold pedagoguelaw11_ConvSums_n0_t
  have b1 : h * h ≤ 6 * 6 := Nat.mul_le_mul (by omega) (by omega)
  have b2 : o * o ≤ 6 * 6 := Nat.mul_le_mul (by omega) (by omega)
  have b3 : k * k ≤ 3 * 3 := Nat.mul_le_mul (by omega) (by omega)
  have b4 : c * (h * h) ≤ 2 * (6 * 6) := Nat.mul_le_mul (by omega) b1
  have b5 : m * (o * o) ≤ 3 * (6 * 6) := Nat.mul_le_mul (by omega) b2
  have b6 : n * (c * (h * h)) ≤ 3 * (2 * (6 * 6)) := Nat.mul_le_mul (by omega) b4
  have b7 : n * (m * (o * o)) ≤ 3 * (3 * (6 * 6)) := Nat.mul_le_mul (by omega) b5
  have b8 : m * c ≤ 3 * 2 := Nat.mul_le_mul (by omega) (by omega)
  have b9 : m * c * (k * k) ≤ 3 * 2 * (3 * 3) := Nat.mul_le_mul b8 b3
  have p1 : 1 ≤ h * h := Nat.mul_pos (by omega) (by omega)
  have p2 : 1 ≤ o * o := Nat.mul_pos (by omega) (by omega)
  have p4 : 1 ≤ c * (h * h) := Nat.mul_pos (by omega) p1
  have p5 : 1 ≤ m * (o * o) := Nat.mul_pos (by omega) p2
  have p6 : 1 ≤ n * (c * (h * h)) := Nat.mul_pos (by omega) p4
  have p7 : 1 ≤ n * (m * (o * o)) := Nat.mul_pos (by omega) p5
  have p9 : 1 ≤ m * c * (k * k) := Nat.mul_pos (Nat.mul_pos (by omega) (by omega)) (Nat.mul_pos (by omega) (by omega))
  have sp : szF [(n : Int), c, h, h] = ((n * (c * (h * h)) : Nat) : Int) := by
    have e : n * c * h * h = n * (c * (h * h)) := by simp only [Nat.mul_assoc]
    rw [szF4_of (by omega) (by omega) (by omega) (by omega) (by omega), e]
  have sq : szF [(n : Int), m, o, o] = ((n * (m * (o * o)) : Nat) : Int) := by
    have e : n * m * o * o = n * (m * (o * o)) := by simp only [Nat.mul_assoc]
    rw [szF4_of (by omega) (by omega) (by omega) (by omega) (by omega), e]
  have sp1 : szF [1, (c : Int), h, h] = ((c * (h * h) : Nat) : Int) := by
    have e : 1 * c * h * h = c * (h * h) := by simp only [Nat.mul_assoc, Nat.one_mul]
    have := szF4_of (n := 1) (m := c) (p := h) (q := h) (by omega) (by omega) (by omega) (by omega) (by omega)
    rw [e] at this
    exact this
  have sq1 : szF [1, (m : Int), o, o] = ((m * (o * o) : Nat) : Int) := by
    have e : 1 * m * o * o = m * (o * o) := by simp only [Nat.mul_assoc, Nat.one_mul]
    have := szF4_of (n := 1) (m := m) (p := o) (q := o) (by omega) (by omega) (by omega) (by omega) (by omega)
    rw [e] at this
    exact this
  have ekk : m * c * k * k = m * c * (k * k) := Nat.mul_assoc _ _ _
  have sw : szF [(m : Int), c, k, k] = ((m * c * k * k : Nat) : Int) := szF4_of (by omega) (by omega) (by omega) (by omega) (by omega)
  have pm := tnF_may (d := [(n : Int), c, h, h]) ha (by rw [sp]; omega)
  have qm := tnF_may (d := [(n : Int), m, o, o]) hb (by rw [sq]; omega)
  refine weight_v (tnF_8 hb _) (tnF_8 ha _) ?_
  have hno : n * o * o ≤ 3 * 36 := by rw [Nat.mul_assoc]; exact Nat.mul_le_mul (by omega) (by omega)
  rw [weightF_ok (n := n) (O := m) (C := c) (H := h) (V := h) (P := o) (R := o) qm pm rfl rfl eo eo (by omega) (by omega) (by omega) (by rw [sw]; omega)]
  refine bias_v (tnF_8 hb _) ?_
  rw [biasF_ok (n := n) (O := m) (P := o) (R := o) qm rfl (by rw [← Nat.mul_assoc]; omega) (by rw [szF1_of (by omega) (by omega)]; omega)]
  dsimp only
  obtain ⟨pd, hpd⟩ : ∃ pd, (tnF a0 [(n : Int), c, h, h]).2.2 = pd := ⟨_, rfl⟩
  obtain ⟨qd, hqd⟩ : ∃ qd, (tnF a1 [(n : Int), m, o, o]).2.2 = qd := ⟨_, rfl⟩
  have p8 := tnF_8 ha [(n : Int), c, h, h]
  have q8 := tnF_8 hb [(n : Int), m, o, o]
  have pn : ∀ j, pd.getD j 0 ≠ -128 := fun j => by rw [← hpd]; exact tab_no ha j
  have qn : ∀ j, qd.getD j 0 ≠ -128 := fun j => by rw [← hqd]; exact tab_no hb j
  have lp : pd.length = n * (c * (h * h)) := by rw [← hpd]; show (tab (szF _).toNat _).length = _; rw [tab_len, sp, Int.toNat_natCast]
  have lq : qd.length = n * (m * (o * o)) := by rw [← hqd]; show (tab (szF _).toNat _).length = _; rw [tab_len, sq, Int.toNat_natCast]
  rw [hpd] at p8 ⊢
  rw [hqd] at q8 ⊢
  rw [w4_len, tab_len, mulw (r := m) (n := c) (by omega), mulw (r := m * c) (n := k) (by have : m * c * k ≤ 6 * 3 := Nat.mul_le_mul (by omega) (by omega); omega), mulw (r := m * c * k) (n := k) (by omega), if_neg (by simp)]
  refine ⟨?_⟩
  unfold pedagoguelaw11_ConvSums_n1_t
  rw [w4_len, Int.toNat_natCast, zeros4]
  refine ⟨by omega, ⟨?_⟩⟩
  have hwin : ∀ y x : Int, InP k (h * h) (windowF h h y x k 1 0) := fun y x => windowF_in
  let G : Nat → Nat → Nat → Nat → Nat → Int := fun i => wtCell 1 m c k o o h h 1 0 (tab (m * (o * o)) fun t => qd.getD (i * (m * (o * o)) + t) 0) (tab (c * (h * h)) fun t => pd.getD (i * (c * (h * h)) + t) 0)
  have e0 : ((0 : Int), w4 m c k k fun _ _ _ _ => 0) = (fun i : Nat => ((i : Int), w4 m c k k fun a b r q => sumTo (fun i => G i a b r q) i)) 0 := by simp [sumTo]
  rw [e0]
  refine Loop.range (B := pedagoguelaw11_ConvSums_n2_B n c h m k o n pd qd _ _) (f := fun i : Nat => ((i : Int), w4 m c k k fun a b r q => sumTo (fun i => G i a b r q) i)) n (fun _ => True) trivial ?_ ?_
  · intro i hi _ X hX
    have hX := hX trivial
    unfold pedagoguelaw11_ConvSums_n2_B
    rw [if_pos (decide_eq_true (show (i : Int) < (n : Int) by omega))]
    dsimp only at hX ⊢
    have dq : IntKind.i64.wrap ((qd.length : Int).tdiv (n : Int)) = ((m * (o * o) : Nat) : Int) := by
      rw [lq, Int.tdiv_eq_ediv_of_nonneg (by omega), ← Int.natCast_ediv, Nat.mul_div_cancel_left _ (by omega), wrap_i64 _ (by omega) (by omega)]
    have dp : IntKind.i64.wrap ((pd.length : Int).tdiv (n : Int)) = ((c * (h * h) : Nat) : Int) := by
      rw [lp, Int.tdiv_eq_ediv_of_nonneg (by omega), ← Int.natCast_ediv, Nat.mul_div_cancel_left _ (by omega), wrap_i64 _ (by omega) (by omega)]
    have ei : IntKind.i64.wrap ((i : Int) + 1) = ((i + 1 : Nat) : Int) := by rw [wrap_i64 _ (by omega) (by omega)]; omega
    have g1 : (i + 1) * (m * (o * o)) ≤ n * (m * (o * o)) := Nat.mul_le_mul_right _ hi
    have g2 : (i + 1) * (c * (h * h)) ≤ n * (c * (h * h)) := Nat.mul_le_mul_right _ hi
    have g3 : i * (m * (o * o)) ≤ (i + 1) * (m * (o * o)) := Nat.mul_le_mul_right _ (by omega)
    have g4 : i * (c * (h * h)) ≤ (i + 1) * (c * (h * h)) := Nat.mul_le_mul_right _ (by omega)
    rw [dq, dp, ei, mulw (r := i) (n := m * (o * o)) (by omega), mulw (r := i + 1) (n := m * (o * o)) (by omega), mulw (r := i) (n := c * (h * h)) (by omega), mulw (r := i + 1) (n := c * (h * h)) (by omega)]
    refine ⟨by omega, by omega, ⟨trivial, by omega, by omega, by omega⟩, ?_⟩
    simp only [Int.toNat_natCast]
    refine tn_v (by simp) ⟨⟨trivial, by omega, by omega, by omega⟩, tn_v (by simp) ?_⟩
    rw [tnF_part (by omega) sq1 qn, tnF_part (by omega) sp1 pn]
    have q8' : All8 (tab (m * (o * o)) fun t => qd.getD (i * (m * (o * o)) + t) 0) := tab8 fun t => q8.at_ _
    have p8' : All8 (tab (c * (h * h)) fun t => pd.getD (i * (c * (h * h)) + t) 0) := tab8 fun t => p8.at_ _
    refine weight_v q8' p8' ?_
    rw [weightF_ok (n := 1) (O := m) (C := c) (H := h) (V := h) (P := o) (R := o) (may_tab sq1 p5 fun t => qn _) (may_tab sp1 p4 fun t => pn _) rfl rfl eo eo (by omega) (by omega) (by rw [Nat.one_mul]; omega) (by rw [sw]; omega)]
    refine ⟨?_⟩
    unfold pedagoguelaw11_ConvSums_n6_t
    dsimp only
    rw [if_neg (by rw [w4_len, w4_len]; simp)]
    refine add_loop (by rw [w4_len, w4_len]) (by rw [w4_len]; omega) ?_
    rw [w4_plus]
    exact hX
  · intro _ X
    unfold pedagoguelaw11_ConvSums_n2_B
    rw [if_neg (by simp)]
    dsimp only
    refine cmp_loop ?_ (by rw [w4_len]; omega) ?_
    · refine w4_congr fun a b r q h1 h2 h3 h4 => ?_
      exact (wtCell_parts h1 h2 hwin).symm
    · refine sub_loop q8 (by omega) (by omega) (by omega) (by omega) (by omega) ?_
      refine zero_loop (fun i => ?_) (by rw [tab_len]; omega) ?_
      · rcases Nat.lt_or_ge i m with g | g
        · rw [tab_getD _ g, Int.sub_self]; decide
        · rw [List.getD_eq_getElem?_getD, List.getElem?_eq_none (by rw [tab_len]; exact g)]; rfl
      · exact awake_v hq

end Go.Proofs.Ytmleeffinagncaa
