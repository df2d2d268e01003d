/- ConvSlope: the way back is the slope. Laws; no condition. -/
import Derived.Test.YtmleeffinagncaaQD
import Derived.Test.YtmleeffinagncaaPL
namespace Go.Proofs.Ytmleeffinagncaa
open Go.Mach Go.RowKit
set_option maxRecDepth 100000
set_option linter.unusedVariables false
set_option linter.unusedSimpArgs false

theorem lsum_sub {α : Type} (l : List α) (f g : α → Int) : lsum l (fun a => f a - g a) = lsum l f - lsum l g := by
  induction l with
  | nil => rfl
  | cons a l ih => rw [lsum_cons, lsum_cons, lsum_cons, ih]; omega
theorem lsum_bd {α : Type} {l : List α} {f : α → Int} {B : Int} (h : ∀ a ∈ l, -B ≤ f a ∧ f a ≤ B) : -(B * l.length) ≤ lsum l f ∧ lsum l f ≤ B * l.length := by
  induction l with
  | nil => simp [lsum]
  | cons a l ih =>
    have h1 := ih fun b hb => h b (by simp [hb])
    have h2 := h a (by simp)
    rw [lsum_cons, List.length_cons]
    have e : B * ((l.length + 1 : Nat) : Int) = B * l.length + B := by rw [Int.natCast_add, Int.mul_add]; simp
    omega
/-- The sum of Forward at a place, without its bias. -/
def fwdS (H V C K : Nat) (s p : Int) (xd wd : List Int) (m o y x : Nat) : Int := sumTo (fun c => lsum (windowF H V y x K s p) (fwdG xd wd C (H * V) K m o c)) C
theorem fwdG_bd {xd wd : List Int} (ax : All8 xd) (aw : All8 wd) {C plane K m o c : Nat} {z : Int × Int × Int} : -16384 ≤ fwdG xd wd C plane K m o c z ∧ fwdG xd wd C plane K m o c z ≤ 16384 := mul8 (ax.at_ _) (aw.at_ _)
theorem fwdS_bd {H V C K : Nat} {s p : Int} {xd wd : List Int} {m o y x : Nat} (ax : All8 xd) (aw : All8 wd) (hC : C ≤ 2) (hK : K ≤ 3) : -294912 ≤ fwdS H V C K s p xd wd m o y x ∧ fwdS H V C K s p xd wd m o y x ≤ 294912 := by
  have hl := windowF_len (rows := H) (cols := V) (r := y) (c := x) (s := s) (p := p) (K := K)
  have hKK : K * K ≤ 3 * 3 := Nat.mul_le_mul hK hK
  have h := sumTo_bd (fun c => lsum (windowF H V y x K s p) (fwdG xd wd C (H * V) K m o c)) 147456 C fun c _ => by
    have := lsum_bd (l := windowF H V y x K s p) (f := fwdG xd wd C (H * V) K m o c) (B := 16384) fun z _ => fwdG_bd ax aw
    omega
  unfold fwdS
  omega
/-- Where a number that goes in is one more. -/
theorem fwd_dx {n C O H V K m0 c0 t0 m o y x : Nat} {s p : Int} {xd wd : List Int} (hx : xd.length = n * C * (H * V)) (hm0 : m0 < n) (hc0 : c0 < C) (ht0 : t0 < H * V) (hm : m < n) :
    fwdS H V C K s p (xd.set ((m0 * C + c0) * (H * V) + t0) (xd.getD ((m0 * C + c0) * (H * V) + t0) 0 + 1)) wd m o y x - fwdS H V C K s p xd wd m o y x
      = if m = m0 then lsum (windowF H V y x K s p) (fun z => if z.1.toNat = t0 then wd.getD (((o * C + c0) * K + z.2.1.toNat) * K + z.2.2.toNat) 0 else 0) else 0 := by
  have hi : (m0 * C + c0) * (H * V) + t0 < xd.length := by rw [hx]; exact ix_lt (ix_lt hm0 hc0) ht0
  unfold fwdS
  rw [← sumTo_sub]
  have key : ∀ c, c < C → lsum (windowF H V y x K s p) (fwdG (xd.set ((m0 * C + c0) * (H * V) + t0) (xd.getD ((m0 * C + c0) * (H * V) + t0) 0 + 1)) wd C (H * V) K m o c) - lsum (windowF H V y x K s p) (fwdG xd wd C (H * V) K m o c)
      = if m = m0 ∧ c = c0 then lsum (windowF H V y x K s p) (fun z => if z.1.toNat = t0 then wd.getD (((o * C + c0) * K + z.2.1.toNat) * K + z.2.2.toNat) 0 else 0) else 0 := by
    intro c hc
    rw [← lsum_sub]
    by_cases g : m = m0 ∧ c = c0
    · obtain ⟨rfl, rfl⟩ := g
      rw [if_pos ⟨rfl, rfl⟩]
      refine lsum_congr fun z hz => ?_
      obtain ⟨a, r, q, rfl, ha, hr, hq⟩ := windowF_in z hz
      unfold fwdG
      dsimp only
      simp only [Int.toNat_natCast]
      rw [getD_set hi]
      by_cases e : a = t0
      · subst e
        rw [if_pos rfl, if_pos rfl, Int.add_mul, Int.one_mul]; omega
      · rw [if_neg e, if_neg (by omega)]; omega
    · rw [if_neg g]
      refine lsum_zero fun z hz => ?_
      obtain ⟨a, r, q, rfl, ha, hr, hq⟩ := windowF_in z hz
      unfold fwdG
      dsimp only
      simp only [Int.toNat_natCast]
      rw [getD_set hi, if_neg, Int.sub_self]
      intro e
      obtain ⟨e1, _⟩ := ix_inj ht0 ha e
      obtain ⟨e2, e3⟩ := ix_inj hc0 hc e1
      exact g ⟨e2.symm, e3.symm⟩
  rw [sumTo_congr key]
  by_cases g : m = m0
  · rw [if_pos g, sumTo_one hc0 (fun c hc hcc => by rw [if_neg (fun h => hcc h.2)]), if_pos ⟨g, rfl⟩]
  · rw [if_neg g]
    exact sumTo_zero fun c _ => by rw [if_neg (fun h => g h.1)]
/-- Where a weight is one more. -/
theorem fwd_dw {n C O H V K o0 c0 r0 q0 m o y x : Nat} {s p : Int} {xd wd : List Int} (hw : wd.length = O * C * K * K) (ho0 : o0 < O) (hc0 : c0 < C) (hr0 : r0 < K) (hq0 : q0 < K) (ho : o < O) :
    fwdS H V C K s p xd (wd.set (ix4 C K K o0 c0 r0 q0) (wd.getD (ix4 C K K o0 c0 r0 q0) 0 + 1)) m o y x - fwdS H V C K s p xd wd m o y x
      = if o = o0 then lsum (windowF H V y x K s p) (fun z => if z.2.1 = (r0 : Int) ∧ z.2.2 = (q0 : Int) then xd.getD ((m * C + c0) * (H * V) + z.1.toNat) 0 else 0) else 0 := by
  have hi : ix4 C K K o0 c0 r0 q0 < wd.length := by rw [hw]; exact ix4_lt ho0 hc0 hr0 hq0
  unfold fwdS
  rw [← sumTo_sub]
  have key : ∀ c, c < C → lsum (windowF H V y x K s p) (fwdG xd (wd.set (ix4 C K K o0 c0 r0 q0) (wd.getD (ix4 C K K o0 c0 r0 q0) 0 + 1)) C (H * V) K m o c) - lsum (windowF H V y x K s p) (fwdG xd wd C (H * V) K m o c)
      = if o = o0 ∧ c = c0 then lsum (windowF H V y x K s p) (fun z => if z.2.1 = (r0 : Int) ∧ z.2.2 = (q0 : Int) then xd.getD ((m * C + c0) * (H * V) + z.1.toNat) 0 else 0) else 0 := by
    intro c hc
    rw [← lsum_sub]
    by_cases g : o = o0 ∧ c = c0
    · obtain ⟨rfl, rfl⟩ := g
      rw [if_pos ⟨rfl, rfl⟩]
      refine lsum_congr fun z hz => ?_
      obtain ⟨a, r, q, rfl, ha, hr, hq⟩ := windowF_in z hz
      unfold fwdG
      dsimp only
      simp only [Int.toNat_natCast]
      rw [getD_set hi]
      by_cases e : r = r0 ∧ q = q0
      · obtain ⟨rfl, rfl⟩ := e
        unfold ix4
        rw [if_pos rfl, if_pos ⟨rfl, rfl⟩, Int.mul_add, Int.mul_one]; omega
      · rw [if_neg, if_neg (by omega), Int.sub_self]
        intro h
        obtain ⟨_, _, e1, e2⟩ := ix4_inj (m := o) (m' := o) (o := c) (o' := c) (p := r0) (p' := r) (q := q0) (q' := q) hc hr0 hq0 hc hr hq h
        exact e ⟨e1.symm, e2.symm⟩
    · rw [if_neg g]
      refine lsum_zero fun z hz => ?_
      obtain ⟨a, r, q, rfl, ha, hr, hq⟩ := windowF_in z hz
      unfold fwdG
      dsimp only
      simp only [Int.toNat_natCast]
      rw [getD_set hi, if_neg, Int.sub_self]
      intro h
      obtain ⟨e1, e2, _, _⟩ := ix4_inj (m := o0) (m' := o) (o := c0) (o' := c) (p := r0) (p' := r) (q := q0) (q' := q) hc0 hr0 hq0 hc hr hq h
      exact g ⟨e1.symm, e2.symm⟩
  rw [sumTo_congr key]
  by_cases g : o = o0
  · rw [if_pos g, sumTo_one hc0 (fun c hc hcc => by rw [if_neg (fun h => hcc h.2)]), if_pos ⟨g, rfl⟩]
  · rw [if_neg g]
    exact sumTo_zero fun c _ => by rw [if_neg (fun h => g h.1)]
theorem sum4 (F : Nat → Int) (n O P Q : Nat) : sumTo F (n * O * P * Q) = sumTo (fun m => sumTo (fun o => sumTo (fun y => sumTo (fun x => F (ix4 O P Q m o y x)) Q) P) O) n := by
  rw [← sumTo_rows F (n * O * P) Q, ← sumTo_rows (fun i => sumTo (fun j => F (i * Q + j)) Q) (n * O) P, ← sumTo_rows (fun i => sumTo (fun y => sumTo (fun j => F ((i * P + y) * Q + j)) Q) P) n O]
  rfl
/-- All that comes of a number that goes in is what goes back to it. -/
theorem slope_x {n O C K H V P Q m0 c0 y0 x0 : Nat} {s p : Int} {xd wd gd : List Int} (hx : xd.length = n * C * (H * V)) (eP : outF H K s p = P) (eQ : outF V K s p = Q) (hP : 0 < P) (hQ : 0 < Q) (hm0 : m0 < n) (hc0 : c0 < C) (hy0 : y0 < H) (hx0 : x0 < V) :
    sumTo (fun t => gd.getD t 0 * ((lst4 n O P Q (fwdS H V C K s p (xd.set ((m0 * C + c0) * (H * V) + (y0 * V + x0)) (xd.getD ((m0 * C + c0) * (H * V) + (y0 * V + x0)) 0 + 1)) wd)).getD t 0 - (lst4 n O P Q (fwdS H V C K s p xd wd)).getD t 0)) (n * O * P * Q)
      = sumTo (fun o => lsum (lookF H V y0 x0 K s p) (inG gd wd O C (P * Q) K m0 c0 o)) O := by
  have ht0 : y0 * V + x0 < H * V := ix_lt hy0 hx0
  rw [sum4]
  rw [sumTo_one hm0]
  · refine sumTo_congr fun o ho => ?_
    have hlook : lookF H V y0 x0 K s p = lookP s p y0 x0 K Q P Q := by
      unfold lookF
      rw [if_neg, eP, eQ, Int.toNat_natCast, Int.toNat_natCast]
      unfold noLook inP
      rw [eP, eQ]
      simp
      omega
    rw [hlook]
    unfold lookP
    rw [lsum_flatMap, lsum_range]
    refine sumTo_congr fun y hy => ?_
    unfold lookRow
    rw [lsum_flatMap, lsum_range]
    refine sumTo_congr fun x hxx => ?_
    rw [lst4_get hm0 ho hy hxx, lst4_get hm0 ho hy hxx, fwd_dx (O := O) hx hm0 hc0 ht0 hm0, if_pos rfl]
    have hsel := sel_win (rows := H) (cols := V) (cr := s * y - p) (cc := s * x - p) (r := y0) (c := x0) (k := K) (by omega) (by omega) fun a b => [((y : Int) * Q + x, a, b)]
    have hcell : lookCell s p y0 x0 K Q y x = ((winF H V (s * y - p) (s * x - p) K K).flatMap fun w => if w.1 = (y0 : Int) * V + x0 then [((y : Int) * Q + x, w.2.1, w.2.2)] else []) := by
      rw [hsel]; rfl
    rw [hcell, lsum_flatMap, windowF_ok eP eQ hy hxx, ← lsum_mul]
    refine lsum_congr fun z hz => ?_
    obtain ⟨a, r, q, rfl, ha, hr, hq⟩ := winF_in (rows := H) (cols := V) (K := K) (Nat.le_refl _) (Nat.le_refl _) z hz
    dsimp only
    simp only [Int.toNat_natCast]
    have et : (y0 : Int) * V + x0 = ((y0 * V + x0 : Nat) : Int) := by rw [Int.natCast_add, Int.natCast_mul]
    have ey : (y : Int) * Q + x = ((y * Q + x : Nat) : Int) := by rw [Int.natCast_add, Int.natCast_mul]
    rw [et, ey]
    by_cases e : a = y0 * V + x0
    · rw [if_pos e, if_pos (by omega), lsum_cons, lsum_nil]
      unfold inG ix4
      dsimp only
      simp only [Int.toNat_natCast]
      have ei : ((m0 * O + o) * P + y) * Q + x = (m0 * O + o) * (P * Q) + (y * Q + x) := by
        rw [Nat.add_mul, Nat.mul_assoc, Nat.add_assoc]
      rw [ei, Int.add_zero]
    · rw [if_neg e, if_neg (by omega), lsum_nil, Int.mul_zero]
  · intro m hm hmm
    refine sumTo_zero fun o ho => sumTo_zero fun y hy => sumTo_zero fun x hxx => ?_
    rw [lst4_get hm ho hy hxx, lst4_get hm ho hy hxx, fwd_dx (O := O) hx hm0 hc0 ht0 hm, if_neg hmm, Int.mul_zero]
/-- All that comes of a weight is what goes back to it. -/
theorem slope_w {n O C K H V P Q o0 c0 r0 q0 : Nat} {s p : Int} {xd wd gd : List Int} (hw : wd.length = O * C * K * K) (ho0 : o0 < O) (hc0 : c0 < C) (hr0 : r0 < K) (hq0 : q0 < K) :
    sumTo (fun t => gd.getD t 0 * ((lst4 n O P Q (fwdS H V C K s p xd (wd.set (ix4 C K K o0 c0 r0 q0) (wd.getD (ix4 C K K o0 c0 r0 q0) 0 + 1)))).getD t 0 - (lst4 n O P Q (fwdS H V C K s p xd wd)).getD t 0)) (n * O * P * Q)
      = wtCell n O C K P Q H V s p gd xd o0 c0 r0 q0 := by
  rw [sum4]
  unfold wtCell
  rw [← sumTo_rows]
  have e1 : ∀ m, m < n → sumTo (fun o => sumTo (fun y => sumTo (fun x => gd.getD (ix4 O P Q m o y x) 0 * ((lst4 n O P Q (fwdS H V C K s p xd (wd.set (ix4 C K K o0 c0 r0 q0) (wd.getD (ix4 C K K o0 c0 r0 q0) 0 + 1)))).getD (ix4 O P Q m o y x) 0 - (lst4 n O P Q (fwdS H V C K s p xd wd)).getD (ix4 O P Q m o y x) 0)) Q) P) O
      = sumTo (fun y => sumTo (fun x => lsum (windowF H V y x K s p) (fun z => if z.2.1 = (r0 : Int) ∧ z.2.2 = (q0 : Int) then wtG O C P Q (H * V) gd xd (y * Q + x) m o0 c0 z.1.toNat else 0)) Q) P := by
    intro m hm
    rw [sumTo_one ho0]
    · refine sumTo_congr fun y hy => sumTo_congr fun x hxx => ?_
      rw [lst4_get hm ho0 hy hxx, lst4_get hm ho0 hy hxx, fwd_dw (n := n) hw ho0 hc0 hr0 hq0 ho0, if_pos rfl, ← lsum_mul]
      refine lsum_congr fun z hz => ?_
      by_cases g : z.2.1 = (r0 : Int) ∧ z.2.2 = (q0 : Int)
      · rw [if_pos g, if_pos g]
        unfold wtG ix4
        congr 2
        rw [Nat.add_mul, Nat.add_assoc]
      · rw [if_neg g, if_neg g, Int.mul_zero]
    · intro o ho hoo
      refine sumTo_zero fun y hy => sumTo_zero fun x hxx => ?_
      rw [lst4_get hm ho hy hxx, lst4_get hm ho hy hxx, fwd_dw (n := n) hw ho0 hc0 hr0 hq0 ho, if_neg hoo, Int.mul_zero]
  rw [sumTo_congr e1, sumTo_swap]
  refine sumTo_congr fun y hy => ?_
  rw [sumTo_swap]
  refine sumTo_congr fun x hxx => ?_
  rw [← lsum_sumTo, ix_div hxx, ix_mod hxx]
  refine lsum_congr fun z hz => ?_
  unfold wtZ wtM
  by_cases g : z.2.1 = (r0 : Int) ∧ z.2.2 = (q0 : Int)
  · rw [if_pos g]
    exact sumTo_congr fun m _ => by rw [if_pos g]
  · rw [if_neg g]
    exact sumTo_zero fun m _ => by rw [if_neg g]

theorem inputF_ok {n O C P R K H V : Nat} {g w : T3} {s p : Int} (mg : mayF g = true) (mw : mayF w = true) (eg : g.1 = [(n : Int), O, P, R]) (ew : w.1 = [(O : Int), C, K, K])
    (eP : outF H K s p = P) (eR : outF V K s p = R) (hP : 0 < P) (hR : 0 < R) (hf : O * K * K ≤ 959) (hs : 0 < szF [(n : Int), C, H, V]) :
    inputF g w H V s p = (([(n : Int), C, H, V], (g.2.1 + w.2.1, lst4 n C H V (inCell H V C O K P R s p g.2.2 w.2.2))), 0) := by
  have hc : cmayF [g, w] = 0 := cmayF_of fun t ht => by
    rcases List.mem_cons.1 ht with e | e
    · subst e; exact ⟨mg, by rw [eg]; rfl⟩
    · rcases List.mem_singleton.1 e with rfl
      exact ⟨mw, by rw [ew]; rfl⟩
  have x2 := (mayF_iff.1 mg).2.2.1
  have w2 := (mayF_iff.1 mw).2.2.1
  have hb : inBad g w H V s p = false := by
    unfold inBad
    simp only [eg, ew, List.getD_cons_zero, List.getD_cons_succ, eP, eR]
    simp
    omega
  have hE : inE g w H V s p = 0 := by
    unfold inE
    rw [hc, hb]
    simp only [Bool.false_eq_true, if_false, bne_self_eq_false]
    unfold inDims inN
    simp only [eg, ew, List.getD_cons_zero, List.getD_cons_succ]
    rw [sumsF_of (fitsF_iff.2 ⟨by rw [← Int.natCast_mul, ← Int.natCast_mul]; omega, by rw [← Int.natCast_mul, ← Int.natCast_mul]; omega⟩) (by omega) hs]
  unfold inputF
  rw [hE, if_neg (by simp)]
  unfold inDims inData
  simp only [eg, ew, List.getD_cons_zero, List.getD_cons_succ, Int.toNat_natCast]

end Go.Proofs.Ytmleeffinagncaa
