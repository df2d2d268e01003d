/- ConvPad: with a pad it is as without one over a plane with noughts around. Laws; no condition. -/
import Derived.Test.YtmleeffinagncaaQ8
import Derived.Test.YtmleeffinagncaaP5
namespace Go.Proofs.Ytmleeffinagncaa
open Go.Mach Go.RowKit
set_option maxRecDepth 100000
set_option linter.unusedVariables false
set_option linter.unusedSimpArgs false

/-- A loop that holds two lists against each other, place by place. -/
theorem loop_same {B : Int → (Int → Prop) → Prop} (a b : List Int) (hl : a.length = b.length) {K0 K1 : Prop} (step : ∀ i : Nat, i < a.length → ∀ X : Int → Prop, (a.getD i 0 = b.getD i 0 → X ((i + 1 : Nat) : Int)) → (a.getD i 0 ≠ b.getD i 0 → K1) → B (i : Int) X) (last : K0 → ∀ X, B (a.length : Int) X) (h : if a = b then K0 else K1) : Go.Mach.Loop B 0 := by
  refine Loop.range (B := B) (f := fun i : Nat => (i : Int)) a.length (fun i => ∀ j, j < i → a.getD j 0 = b.getD j 0) (fun j hj => absurd hj (by omega)) ?_ ?_
  · intro i hi hI X hX
    refine step i hi X (fun e => hX fun j hj => ?_) (fun e => ?_)
    · by_cases g : j = i
      · subst g; exact e
      · exact hI j (by omega)
    · rw [if_neg (fun g => e (by rw [g]))] at h
      exact h
  · intro hI X
    refine last ?_ X
    rw [if_pos (list_of hl hI)] at h
    exact h
theorem sints_v {a b : List Int} {Q : Bool → Prop} (hl : a.length ≤ 1000000) (h : Q (decide (a = b))) : pedagogueref1_SameInts a b Q := by
  refine ⟨?_⟩
  unfold pedagogueref1_SameInts_t
  by_cases e : a.length = b.length
  · rw [if_neg (by simp [e])]
    refine ⟨?_⟩
    refine loop_same (B := pedagogueref1_SameInts_n0_B a b (a.length : Int) _ _) a b e (K0 := Q true) (K1 := Q false) ?_ ?_ ?_
    · intro i hi X hX hK
      unfold pedagogueref1_SameInts_n0_B
      rw [if_pos (by simpa using hi)]
      refine ⟨by omega, by omega, ?_⟩
      simp only [Int.toNat_natCast]
      by_cases g : a.getD i 0 = b.getD i 0
      · rw [if_neg (by simpa using g), wrap_i64 _ (by omega) (by omega)]; exact hX g
      · rw [if_pos (by simpa using g)]; exact hK g
    · intro hK X
      unfold pedagogueref1_SameInts_n0_B
      rw [if_neg (by simp)]
      exact hK
    · by_cases g : a = b
      · rw [if_pos g]; simpa [g] using h
      · rw [if_neg g]; simpa [g] using h
  · rw [if_pos (by simp; omega)]
    rw [decide_eq_false (fun g => e (by rw [g]))] at h
    exact h
theorem sacc_v {a b : T3} {Q : Bool → Prop} (h1 : a.1.length ≤ 1000000) (h2 : a.2.2.length ≤ 1000000) (h : Q (decide (a = b))) : pedagogueref1_SameAcc a b Q := by
  refine ⟨?_⟩
  unfold pedagogueref1_SameAcc_t
  refine sints_v h1 ?_
  obtain ⟨d, e, l⟩ := a
  obtain ⟨d', e', l'⟩ := b
  simp only at h1 h2 ⊢
  by_cases g : d = d' ∧ e = e' ∧ l.length = l'.length
  · obtain ⟨g1, g2, g3⟩ := g
    rw [if_neg (by simp [g1, g2, g3])]
    refine ⟨?_⟩
    refine loop_same (B := pedagogueref1_SameAcc_n0_B (l.length : Int) l l' _ _) l l' g3 (K0 := Q true) (K1 := Q false) ?_ ?_ ?_
    · intro i hi X hX hK
      unfold pedagogueref1_SameAcc_n0_B
      rw [if_pos (by simpa using hi)]
      refine ⟨by omega, by omega, ?_⟩
      simp only [Int.toNat_natCast]
      by_cases g : l.getD i 0 = l'.getD i 0
      · rw [if_neg (by simpa using g), wrap_i64 _ (by omega) (by omega)]; exact hX g
      · rw [if_pos (by simpa using g)]; exact hK g
    · intro hK X
      unfold pedagogueref1_SameAcc_n0_B
      rw [if_neg (by simp)]
      exact hK
    · subst g1 g2
      by_cases g : l = l'
      · rw [if_pos g]; simpa [g] using h
      · rw [if_neg g]; simpa [g] using h
  · rw [if_pos (by
      simp only [Bool.or_eq_true, Bool.not_eq_true', decide_eq_false_iff_not, bne_iff_ne, ne_eq]
      by_cases g1 : d = d'
      · by_cases g2 : e = e'
        · right; intro g3; exact g ⟨g1, g2, by omega⟩
        · left; right; exact g2
      · left; left; exact g1)]
    have : ¬ ((d, e, l) = (d', e', l')) := fun hh => by
      simp only [Prod.mk.injEq] at hh
      exact g ⟨hh.1, hh.2.1, by rw [hh.2.2]⟩
    rw [decide_eq_false this] at h
    exact h

theorem out_fit {h k s p P : Int} (e : outF h k s p = P) {y : Int} (hy : y < P) (h0 : 0 ≤ y) : s * y + k ≤ h + 2 * p := by
  obtain ⟨b1, b2, b3, b4, b5, b6⟩ := out_ok (n := h) (k := k) (s := s) (p := p) (by omega)
  have h1 : y ≤ (h + 2 * p - k) / s := by omega
  have h2 : s * y ≤ s * ((h + 2 * p - k) / s) := Int.mul_le_mul_of_nonneg_left h1 (by omega)
  have h3 := Int.mul_ediv_self_le (x := h + 2 * p - k) (k := s) (by omega)
  omega
theorem outF_zero {n k s p : Int} (h : outF n k s p = 0) : badOut n k s p = true := by
  unfold outF at h
  split at h
  · assumption
  · rename_i hb
    obtain ⟨b1, b2, b3, b4, b5⟩ := badOut_inv (by simpa using hb)
    have := Int.ediv_nonneg (a := n + 2 * p - k) (b := s) (by omega) (by omega)
    omega
theorem outF_pad {h k s p : Int} (h1 : h + 2 * p ≤ 16) (h0 : 0 < outF h k s p) : outF (h + 2 * p) k s 0 = outF h k s p := by
  obtain ⟨b1, b2, b3, b4, b5, b6⟩ := out_ok h0
  rw [b6]
  unfold outF badOut inP
  rw [if_neg (by simp; omega)]
  simp
/-- The plane with noughts around. -/
def padC (p : List Int) (h pad n : Nat) (t : Nat) : Int := if pad ≤ t / n ∧ t / n < pad + h ∧ pad ≤ t % n ∧ t % n < pad + h then p.getD ((t / n - pad) * h + (t % n - pad)) 0 else 0
theorem pad_loop {p q : List Int} {h pad n : Nat} {K0 : List Int → Prop} (hh : 1 ≤ h) (hb : h ≤ 16) (hn : n = h + 2 * pad) (hn2 : n ≤ 16) (hp : p.length = h * h) (hq : q = tab (n * n) (fun _ => 0)) (hk : K0 (tab (n * n) (padC p h pad n))) :
    pedagoguelaw11_ConvPad_n1 h pad n (p.length : Int) p K0 (0, q) := by
  have hhh : h * h ≤ 16 * 16 := Nat.mul_le_mul hb hb
  have hnn : n * n ≤ 16 * 16 := Nat.mul_le_mul hn2 hn2
  refine ⟨?_⟩
  refine Loop.rangeI (B := pedagoguelaw11_ConvPad_n1_B h pad n (p.length : Int) p K0) (h * h) (fun i st => st.1 = (i : Int) ∧ st.2.length = n * n ∧ ∀ y x, y < n → x < n → st.2.getD (y * n + x) 0 = if pad ≤ y ∧ y < pad + h ∧ pad ≤ x ∧ x < pad + h ∧ (y - pad) * h + (x - pad) < i then p.getD ((y - pad) * h + (x - pad)) 0 else 0)
    ⟨rfl, by rw [hq, tab_len], fun y x hy hx => by rw [hq, tab_getD _ (ix_lt hy hx), if_neg (by omega)]⟩ ?_ ?_
  · rintro i hi ⟨i', M⟩ ⟨e1, e2, e3⟩ X hX
    simp only at e1 e2 e3
    subst e1
    unfold pedagoguelaw11_ConvPad_n1_B
    rw [if_pos (decide_eq_true (show (i : Int) < (p.length : Int) by omega))]
    obtain ⟨c1, c2, c3⟩ := ix_cover hi
    obtain ⟨y, ey⟩ : ∃ y, i / h = y := ⟨_, rfl⟩
    obtain ⟨x, ex⟩ : ∃ x, i % h = x := ⟨_, rfl⟩
    rw [ey, ex] at c3
    rw [ey] at c1
    rw [ex] at c2
    dsimp only
    have et : IntKind.i64.wrap ((i : Int).tdiv (h : Int)) = (y : Int) := by
      rw [Int.tdiv_eq_ediv_of_nonneg (by omega), ← Int.natCast_ediv, ey, wrap_i64 _ (by omega) (by omega)]
    have em : (i : Int).tmod (h : Int) = (x : Int) := by
      rw [Int.tmod_eq_emod_of_nonneg (by omega), ← Int.natCast_emod, ex]
    have eyr : IntKind.i64.wrap ((y : Int) + (pad : Int)) = ((y + pad : Nat) : Int) := by
      rw [wrap_i64 _ (by omega) (by omega)]; omega
    rw [et, em, eyr]
    have l1 : (y + pad) * n + (x + pad) < n * n := ix_lt (by omega) (by omega)
    rw [ix (r := y + pad) (n := n) (i := x) (by omega)]
    have e5 : IntKind.i64.wrap ((((y + pad) * n + x : Nat) : Int) + (pad : Int)) = (((y + pad) * n + (x + pad) : Nat) : Int) := by
      rw [wrap_i64 _ (by omega) (by omega)]; omega
    rw [e5]
    refine ⟨by omega, by omega, by omega, by omega, ?_⟩
    rw [Int.toNat_natCast, Int.toNat_natCast, wrap_i64 _ (by omega) (by omega)]
    refine hX _ ⟨by simp, by simp [e2], fun y' x' hy' hx' => ?_⟩
    dsimp only
    rw [getD_set (by omega)]
    by_cases g : (y + pad) * n + (x + pad) = y' * n + x'
    · obtain ⟨g1, g2⟩ := ix_inj (by omega) hx' g
      rw [if_pos g, ← g1, ← g2, if_pos]
      · congr 1; rw [Nat.add_sub_cancel, Nat.add_sub_cancel]; exact c3
      · rw [Nat.add_sub_cancel, Nat.add_sub_cancel]; omega
    · rw [if_neg g, e3 y' x' hy' hx']
      by_cases g3 : pad ≤ y' ∧ y' < pad + h ∧ pad ≤ x' ∧ x' < pad + h
      · obtain ⟨g4, g5, g6, g7⟩ := g3
        by_cases g8 : (y' - pad) * h + (x' - pad) < i
        · rw [if_pos ⟨g4, g5, g6, g7, g8⟩, if_pos ⟨g4, g5, g6, g7, by omega⟩]
        · rw [if_neg (fun hh => g8 hh.2.2.2.2), if_neg]
          intro hh
          have : (y' - pad) * h + (x' - pad) = y * h + x := by omega
          obtain ⟨k1, k2⟩ := ix_inj (by omega) c2 this
          exact g (by rw [show y' = y + pad by omega, show x' = x + pad by omega])
      · rw [if_neg (fun hh => g3 ⟨hh.1, hh.2.1, hh.2.2.1, hh.2.2.2.1⟩), if_neg (fun hh => g3 ⟨hh.1, hh.2.1, hh.2.2.1, hh.2.2.2.1⟩)]
  · rintro ⟨i', M⟩ ⟨e1, e2, e3⟩ X
    simp only at e1 e2 e3
    subst e1
    unfold pedagoguelaw11_ConvPad_n1_B
    rw [if_neg (by simp [hp])]
    have : M = tab (n * n) (padC p h pad n) := by
      refine tab_of e2 fun t ht => ?_
      obtain ⟨c1, c2, c3⟩ := ix_cover ht
      have := e3 _ _ c1 c2
      rw [← c3] at this
      rw [this]
      unfold padC
      by_cases g3 : pad ≤ t / n ∧ t / n < pad + h ∧ pad ≤ t % n ∧ t % n < pad + h
      · rw [if_pos g3, if_pos ⟨g3.1, g3.2.1, g3.2.2.1, g3.2.2.2, ix_lt (by omega) (by omega)⟩]
      · rw [if_neg g3, if_neg (fun hh => g3 ⟨hh.1, hh.2.1, hh.2.2.1, hh.2.2.2.1⟩)]
    dsimp only
    rw [this]
    exact hk

theorem pad_cell {h k pad n P : Nat} {s : Int} {p w : List Int} (hn : n = h + 2 * pad) (hn2 : n ≤ 16) (eP : outF h k s pad = P) (hs : 1 ≤ s) {y x : Nat} (hy : y < P) (hx : x < P) :
    lsum (windowF h h y x k s pad) (fwdG p w 1 (h * h) k 0 0 0) = lsum (windowF n n y x k s 0) (fwdG (tab (n * n) (padC p h pad n)) w 1 (n * n) k 0 0 0) := by
  have eQ : outF n k s 0 = P := by
    rw [hn, Int.natCast_add, Int.natCast_mul]
    rw [← eP]
    exact outF_pad (by omega) (by omega)
  have f1 := out_fit eP (y := y) (by omega) (by omega)
  have f2 := out_fit eP (y := x) (by omega) (by omega)
  have m1 : 0 ≤ s * (y : Int) := Int.mul_nonneg (by omega) (by omega)
  have m2 : 0 ≤ s * (x : Int) := Int.mul_nonneg (by omega) (by omega)
  rw [windowF_ok eP eP hy hx]
  have e0 := windowF_ok (p := 0) eQ eQ hy hx
  rw [e0]
  rw [lsum_winF, lsum_winF]
  refine sumTo_congr fun i hi => sumTo_congr fun j hj => ?_
  obtain ⟨Y, eY⟩ := Int.eq_ofNat_of_zero_le (show 0 ≤ s * (y : Int) + i by omega)
  obtain ⟨Z, eZ⟩ := Int.eq_ofNat_of_zero_le (show 0 ≤ s * (x : Int) + j by omega)
  have hY : Y < n := by omega
  have hZ : Z < n := by omega
  rw [show s * (y : Int) - 0 + i = Y by omega, show s * (x : Int) - 0 + j = Z by omega]
  have hc : (inP (Y : Int) 0 ((n : Int) - 1) && inP (Z : Int) 0 ((n : Int) - 1)) = true := by rw [inP_of (by omega) (by omega), inP_of (by omega) (by omega)]; rfl
  simp only [hc, if_true]
  unfold fwdG
  dsimp only
  simp only [Nat.zero_mul, Nat.zero_add, Int.toNat_natCast]
  have eYZ : ((Y : Int) * (n : Int) + (Z : Int)).toNat = Y * n + Z := by rw [← Int.natCast_mul, ← Int.natCast_add, Int.toNat_natCast]
  rw [eYZ, tab_getD _ (ix_lt hY hZ)]
  unfold padC
  rw [ix_div hZ, ix_mod hZ]
  by_cases g : pad ≤ Y ∧ Y < pad + h ∧ pad ≤ Z ∧ Z < pad + h
  · rw [if_pos g]
    obtain ⟨g1, g2, g3, g4⟩ := g
    rw [if_pos (by rw [inP_of (by omega) (by omega), inP_of (by omega) (by omega)]; rfl)]
    congr 2
    rw [show s * (y : Int) - pad + i = ((Y - pad : Nat) : Int) by omega, show s * (x : Int) - pad + j = ((Z - pad : Nat) : Int) by omega, ← Int.natCast_mul, ← Int.natCast_add, Int.toNat_natCast]
  · rw [if_neg g, Int.zero_mul]
    rw [if_neg]
    unfold inP
    simp
    omega

theorem pad_v {a0 a1 : List Int} {a2 a3 a4 a5 : Int} {Q : Bool → Prop} (ha : All8 a0) (hb : All8 a1) (hq : Q true) : pedagoguelaw11_ConvPad a0 a1 a2 a3 a4 a5 Q := by
  refine ⟨?_⟩
  unfold pedagoguelaw11_ConvPad_t
  obtain ⟨h', eh, hh⟩ := umod a2 5 (by omega) (by omega)
  obtain ⟨k', ek, hk⟩ := umod a3 2 (by omega) (by omega)
  obtain ⟨s', es, hs⟩ := umod a5 2 (by omega) (by omega)
  rw [eh, ek, es]
  have e1 : IntKind.i64.wrap (2 + (h' : Int)) = ((2 + h' : Nat) : Int) := by rw [wrap_i64 _ (by omega) (by omega)]; omega
  have e2 : IntKind.i64.wrap (2 + (k' : Int)) = ((2 + k' : Nat) : Int) := by rw [wrap_i64 _ (by omega) (by omega)]; omega
  have e3 : IntKind.i64.wrap (1 + (s' : Int)) = ((1 + s' : Nat) : Int) := by rw [wrap_i64 _ (by omega) (by omega)]; omega
  rw [e1, e2, e3]
  obtain ⟨h, hh'⟩ : ∃ h, 2 + h' = h := ⟨_, rfl⟩
  obtain ⟨k, hk'⟩ : ∃ k, 2 + k' = k := ⟨_, rfl⟩
  obtain ⟨s, hs'⟩ : ∃ s, 1 + s' = s := ⟨_, rfl⟩
  rw [hh', hk', hs']
  rw [wrap_u64 (k : Int) (by omega) (by omega)]
  obtain ⟨pad, er, hr⟩ := umod a4 (k : Int) (by omega) (by omega)
  rw [er]
  refine ⟨by omega, by omega, by omega, by omega, ?_⟩
  refine tn_v (by simp) (tn_v (by simp) (tn_v (by simp) ⟨?_⟩))
  unfold pedagoguelaw11_ConvPad_n0_t
  have en : IntKind.i64.wrap ((h : Int) + IntKind.i64.wrap (2 * (pad : Int))) = ((h + 2 * pad : Nat) : Int) := by
    rw [wrap_i64 (2 * (pad : Int)) (by omega) (by omega), wrap_i64 _ (by omega) (by omega)]; omega
  rw [en]
  obtain ⟨n, hn⟩ : ∃ n, h + 2 * pad = n := ⟨_, rfl⟩
  rw [hn]
  have sh := szF4_one (h := h) (by omega) (by omega)
  have sk := szF4_one (h := k) (by omega) (by omega)
  have sn := szF4_one (h := n) (by omega) (by omega)
  refine tn_v (by simp) ?_
  have p8 := tnF_8 ha [1, 1, (h : Int), (h : Int)]
  have w8 := tnF_8 hb [1, 1, (k : Int), (k : Int)]
  have hhh : 1 * 1 ≤ h * h := Nat.mul_le_mul (by omega) (by omega)
  have hkk : 1 * 1 ≤ k * k := Nat.mul_le_mul (by omega) (by omega)
  have hnn : 1 * 1 ≤ n * n := Nat.mul_le_mul (by omega) (by omega)
  have hhh2 : h * h ≤ 6 * 6 := Nat.mul_le_mul (by omega) (by omega)
  have hkk2 : k * k ≤ 3 * 3 := Nat.mul_le_mul (by omega) (by omega)
  have hnn2 : n * n ≤ 10 * 10 := Nat.mul_le_mul (by omega) (by omega)
  have pm := tnF_may (d := [1, 1, (h : Int), (h : Int)]) ha (by rw [sh]; omega)
  have wm := tnF_may (d := [1, 1, (k : Int), (k : Int)]) hb (by rw [sk]; omega)
  unfold tnF at *
  rw [sh, Int.toNat_natCast] at p8 pm ⊢
  rw [sk, Int.toNat_natCast] at w8 wm ⊢
  rw [sn, Int.toNat_natCast]
  dsimp only at *
  refine pad_loop (by omega) (by omega) hn.symm (by omega) (by rw [tab_len]) (tab_congr fun i _ => by simp [tnC]) ?_
  obtain ⟨q, eq⟩ : ∃ q, tab (n * n) (padC (tab (h * h) (tnC a0)) h pad n) = q := ⟨_, rfl⟩
  rw [eq]
  have q8r : ∀ i, -127 ≤ padC (tab (h * h) (tnC a0)) h pad n i ∧ padC (tab (h * h) (tnC a0)) h pad n i ≤ 127 := by
    intro i
    unfold padC
    split
    · rename_i g
      rw [tab_getD _ (ix_lt (by omega) (by omega))]
      exact tnC_rng ha _
    · omega
  have q8 : All8 q := by rw [← eq]; exact tab8 fun i => by have := q8r i; omega
  have qm : mayF ([1, 1, (n : Int), (n : Int)], (0, q)) = true := by
    refine mayF_iff.2 ⟨by show 0 < szF [1, 1, (n : Int), (n : Int)]; rw [sn]; omega, ?_, ⟨by show (-64 : Int) ≤ 0; omega, by show (0 : Int) ≤ 64; omega⟩, ?_⟩
    · show (q.length : Int) = _
      rw [← eq, tab_len, sn]
    · intro hm
      have hm : (-128 : Int) ∈ q := hm
      rw [← eq] at hm
      obtain ⟨i, _, e⟩ := mem_tab hm
      have := q8r i
      rw [e] at this
      omega
  have b8 : All8 (tab (szF [1]).toNat (tnC [])) := by intro y hy; rw [show tab (szF [1]).toNat (tnC []) = [0] by decide +kernel] at hy; simp at hy; omega
  have bm : mayF ([1], (0, tab (szF [1]).toNat (tnC []))) = true := by decide +kernel
  refine conv_v p8 w8 b8 (conv_v q8 w8 b8 (rout_v (by omega) ?_))
  obtain ⟨P, eP, hP⟩ := out_nat (n := h) (k := k) (s := s) (p := pad)
  rw [eP]
  by_cases hz : P = 0
  · rw [if_pos (by simp [hz])]
    have hc : convF ([1, 1, (h : Int), (h : Int)], 0, tab (h * h) (tnC a0)) ([1, 1, (k : Int), (k : Int)], 0, tab (k * k) (tnC a1)) ([1], 0, tab (szF [1]).toNat (tnC [])) s pad = (Z3, 2) := by
      have hE : convE ([1, 1, (h : Int), (h : Int)], 0, tab (h * h) (tnC a0)) ([1, 1, (k : Int), (k : Int)], 0, tab (k * k) (tnC a1)) ([1], 0, tab (szF [1]).toNat (tnC [])) s pad = 2 := by
        unfold convE
        rw [bm, cmayF_of (fun t ht => by
          rcases List.mem_cons.1 ht with e | e
          · subst e; exact ⟨pm, rfl⟩
          · rcases List.mem_singleton.1 e with rfl
            exact ⟨wm, rfl⟩)]
        have : convBad ([1, 1, (h : Int), (h : Int)], 0, tab (h * h) (tnC a0)) ([1, 1, (k : Int), (k : Int)], 0, tab (k * k) (tnC a1)) ([1], 0, tab (szF [1]).toNat (tnC [])) s pad = true := by
          unfold convBad
          simp only [List.getD_cons_zero, List.getD_cons_succ, eP, hz]
          simp
        rw [this]
        rfl
      unfold convF
      rw [hE]
      rfl
    rw [hc]
    exact awake_v hq
  · rw [if_neg (by simpa using hz)]
    have hP1 : 1 * 1 ≤ P * P := Nat.mul_le_mul (by omega) (by omega)
    have hP2 : P ≤ 16 := by
      obtain ⟨b1, b2, b3, b4, b5, b6⟩ := out_ok (n := h) (k := k) (s := s) (p := pad) (by omega)
      have := Int.ediv_le_self (a := (h : Int) + 2 * pad - k) (s : Int) (by omega)
      omega
    have sP := szF4_one (h := P) (by omega) hP2
    have eQ : outF n k s 0 = P := by
      rw [← hn, Int.natCast_add, Int.natCast_mul, ← eP]
      exact outF_pad (by omega) (by omega)
    have s0 : 0 < szF [((1 : Nat) : Int), ((1 : Nat) : Int), (P : Int), (P : Int)] := by rw [show szF [((1 : Nat) : Int), ((1 : Nat) : Int), (P : Int), (P : Int)] = szF [1, 1, (P : Int), (P : Int)] from rfl, sP]; omega
    rw [convF_ok (n := 1) (C := 1) (H := h) (V := h) (O := 1) (K := k) (P := P) (R := P) (s := s) (p := pad) pm wm bm rfl rfl rfl eP eP (by omega) (by omega) (by simp only [Nat.one_mul]; omega) s0]
    rw [convF_ok (n := 1) (C := 1) (H := n) (V := n) (O := 1) (K := k) (P := P) (R := P) (s := s) (p := 0) qm wm bm rfl rfl rfl eQ eQ (by omega) (by omega) (by simp only [Nat.one_mul]; omega) s0]
    dsimp only
    have hd : lst4 1 1 P P (fwdCell h h 1 k s pad (tab (h * h) (tnC a0)) (tab (k * k) (tnC a1)) (tab (szF [1]).toNat (tnC [])) 0 (0 + 0)) = lst4 1 1 P P (fwdCell n n 1 k s 0 q (tab (k * k) (tnC a1)) (tab (szF [1]).toNat (tnC [])) 0 (0 + 0)) := by
      refine lst4_congr fun m o y x hm ho hy hx => ?_
      unfold fwdCell
      congr 2
      have hm : m = 0 := by omega
      have ho : o = 0 := by omega
      subst hm ho
      simp only [sumTo]
      rw [pad_cell hn.symm (by omega) eP (by omega) hy hx, eq]
    rw [hd]
    have hPP : P * P ≤ 16 * 16 := Nat.mul_le_mul hP2 hP2
    refine and_v (b := true) (c := true) (fun _ R hR => sacc_v (by simp) (by rw [lst4_len]; simp only [Nat.one_mul]; omega) ?_) (fun v1 e4 => ?_) rfl
    · rw [decide_eq_true rfl]; exact hR
    · refine and_v (b := v1) (c := true) (fun _ R hR => awake_v hR) (fun v2 e5 => ?_) rfl
      rw [e5, e4]
      exact hq

end Go.Proofs.Ytmleeffinagncaa
