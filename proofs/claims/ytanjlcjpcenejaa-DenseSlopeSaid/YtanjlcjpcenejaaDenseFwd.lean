/- Walks of package dense: Forward. -/
import Derived.Test.YtanjlcjpcenejaaDenseSum
import Derived.Test.YtanjlcjpcenejaaFrame
namespace Go.Proofs.Ytanjlcjpcenejaa
open Go.RowKit
attribute [local go_sem] drewN_alloc drewN_setCell

theorem MadePost.sums {w : World} {rows cols n exp : Int} {f : Nat → Nat → Int} {e : Ending} {w' : World} (h : MadePost w rows cols n exp f e w') :
    SumsPost w (Pl.madeErr rows cols n exp) ⟨[rows, cols], exp, Pl.madeTo cols.toNat (rows.toNat * cols.toNat) f⟩ e w' := by
  refine ⟨h.1, ?_⟩
  rcases h.2 with h | ⟨h0, a, g, d, ha, hg, he, hs⟩
  · exact .inl h
  · refine .inr ⟨h0, a, g, 2, d, ha, hg, ?_, ?_⟩
    · simp only [Pl.madeTo_length]; exact he
    · simp only [Pl.madeTo_length]; exact hs

theorem Pl.mayErr_ok (L : Int) (l : List Pl.Ten) (h : Pl.mayErr L l = 0) : Pl.allMay l = true ∧ Pl.allLen L l = true := by
  unfold Pl.mayErr at h
  cases h1 : Pl.allMay l
  · rw [if_pos h1] at h; omega
  · cases h2 : Pl.allLen L l
    · rw [if_neg (by simp [h1]), if_pos h2] at h; omega
    · exact ⟨rfl, rfl⟩
theorem Pl.mayErr_ok2 (L : Int) (x u : Pl.Ten) (h : Pl.mayErr L [x, u] = 0) : Pl.mayT x = true ∧ Pl.mayT u = true ∧ (x.dims.length : Int) = L ∧ (u.dims.length : Int) = L := by
  have h := Pl.mayErr_ok L _ h
  simp [Pl.allMay, Pl.allLen] at h
  exact ⟨h.1.1, h.1.2, h.2.1, h.2.2⟩
theorem Pl.mayErr_ok1 (L : Int) (x : Pl.Ten) (h : Pl.mayErr L [x] = 0) : Pl.mayT x = true ∧ (x.dims.length : Int) = L := by
  have h := Pl.mayErr_ok L _ h
  simp [Pl.allMay, Pl.allLen] at h
  exact ⟨h.1, h.2⟩
theorem Pl.mayT_parts (t : Pl.Ten) (h : Pl.mayT t = true) : 0 < Pl.size t.dims ∧ (t.data.length : Int) = Pl.size t.dims ∧ -64 ≤ t.exp ∧ t.exp ≤ 64 ∧ Pl.has (-128) t.data = false := by
  simp [Pl.mayT, Pl.expOk] at h
  exact ⟨h.1.1.1, h.1.1.2, h.1.2.1, h.1.2.2, h.2⟩
/-- The lengths of a tensor that has two (one), as cells. -/
theorem TenAt.two {w : World} {B : Nat} {A D : Option Addr} {n m : Nat} {t : Pl.Ten} (h : TenAt w B A n D m t) (hl : t.dims.length = 2) :
    ∃ ad, A = some ad ∧ n = 2 ∧ ad.block < B ∧ w.cell? ad = some (.int .i64 (t.dims.getD 0 0)) ∧ w.cell? ⟨ad.block, ad.off + 1, none⟩ = some (.int .i64 (t.dims.getD 1 0)) := by
  have h1 := h.dims.1
  rw [List.length_map, hl] at h1
  obtain ⟨ad, e, hb, hc⟩ := h.dims.2 (by omega)
  refine ⟨ad, e, h1.symm, hb, ?_, ?_⟩
  · have := hc 0 (.int .i64 (t.dims.getD 0 0)) (by simp [List.getElem?_eq_getElem (show 0 < t.dims.length by omega)])
    simpa [Addr.add] using this
  · exact hc 1 _ (by simp [List.getElem?_eq_getElem (show 1 < t.dims.length by omega)])
theorem TenAt.one {w : World} {B : Nat} {A D : Option Addr} {n m : Nat} {t : Pl.Ten} (h : TenAt w B A n D m t) (hl : t.dims.length = 1) :
    ∃ ad, A = some ad ∧ n = 1 ∧ ad.block < B ∧ w.cell? ad = some (.int .i64 (t.dims.getD 0 0)) := by
  have h1 := h.dims.1
  rw [List.length_map, hl] at h1
  obtain ⟨ad, e, hb, hc⟩ := h.dims.2 (by omega)
  refine ⟨ad, e, h1.symm, hb, ?_⟩
  have := hc 0 (.int .i64 (t.dims.getD 0 0)) (by simp [List.getElem?_eq_getElem (show 0 < t.dims.length by omega)])
  simpa [Addr.add] using this

theorem TenAt.row {w : World} {B : Nat} {A D : Option Addr} {n m : Nat} {t : Pl.Ten} (h : TenAt w B A n D m t) (hp : 0 < m) :
    ∃ ad, D = some ad ∧ ∀ j, j < m → w.cell? (ad.add j) = some (.int .i8 (t.data.getD j 0)) := by
  have hl : t.data.length = m := by simpa using h.data.1
  obtain ⟨ad, e, hb, hc⟩ := h.data.2 hp
  exact ⟨ad, e, fun j hj => hc j _ (by simp [List.getElem?_eq_getElem (show j < t.data.length by omega)])⟩
theorem Pl.dims2 (t : Pl.Ten) (h : Pl.mayT t = true) (hl : t.dims.length = 2) :
    1 ≤ t.dims.getD 0 0 ∧ t.dims.getD 0 0 ≤ 4096 ∧ 1 ≤ t.dims.getD 1 0 ∧ t.dims.getD 1 0 ≤ 4096 ∧ t.data.length = (t.dims.getD 0 0).toNat * (t.dims.getD 1 0).toNat ∧ t.data.length ≤ 8192 := by
  obtain ⟨h1, h2, _⟩ := Pl.mayT_parts t h
  match hd : t.dims, hl with
  | [r, c], _ =>
    rw [hd] at h1 h2
    have h3 := Pl.size2 r c h1
    simp only [List.getD_cons_zero, List.getD_cons_succ]
    refine ⟨h3.1, h3.2.1, h3.2.2.1, h3.2.2.2.1, ?_, by omega⟩
    rw [h3.2.2.2.2.2] at h2
    have : ((r.toNat * c.toNat : Nat) : Int) = r * c := by rw [Int.natCast_mul, Int.toNat_of_nonneg (by omega), Int.toNat_of_nonneg (by omega)]
    omega
theorem Pl.dims1 (t : Pl.Ten) (h : Pl.mayT t = true) (hl : t.dims.length = 1) :
    1 ≤ t.dims.getD 0 0 ∧ t.dims.getD 0 0 ≤ 4096 ∧ (t.data.length : Int) = t.dims.getD 0 0 := by
  obtain ⟨h1, h2, _⟩ := Pl.mayT_parts t h
  match hd : t.dims, hl with
  | [r], _ =>
    rw [hd] at h1 h2
    have e : Pl.size [r] = if r < 1 ∨ 4096 < r ∨ 8192 < 1 * r then 0 else 1 * r := rfl
    rw [e] at h1 h2
    simp only [List.getD_cons_zero]
    by_cases hq : r < 1 ∨ 4096 < r ∨ 8192 < 1 * r
    · rw [if_pos hq] at h1; omega
    · rw [if_neg hq] at h1 h2; omega
theorem Pl.madeErr_ok (rows cols n exp : Int) (h : Pl.madeErr rows cols n exp = 0) : Pl.fits n = true ∧ -128 ≤ exp ∧ exp ≤ 128 ∧ 0 < Pl.size [rows, cols] := by
  unfold Pl.madeErr at h
  by_cases h1 : Pl.fits n = false ∨ 128 < exp ∨ exp < -128
  · rw [if_pos h1] at h; omega
  · rw [if_neg h1] at h
    by_cases h2 : Pl.size [rows, cols] ≤ 0
    · rw [if_pos h2] at h; omega
    · refine ⟨?_, by omega, by omega, by omega⟩
      cases hq : Pl.fits n
      · exact absurd (.inl hq) h1
      · rfl
theorem Pl.fits_bd (n : Int) (h : Pl.fits n = true) : 0 ≤ n ∧ n ≤ 959 := by
  unfold Pl.fits at h
  simp only [decide_eq_true_eq] at h
  omega

/-- dense.Forward. -/
def Pl.fwdErr (x w b : Pl.Ten) : Int :=
  if Pl.mayT b = false then 1 else if Pl.mayErr 2 [x, w] ≠ 0 then Pl.mayErr 2 [x, w]
  else if w.dims.getD 1 0 ≠ x.dims.getD 1 0 ∨ b.dims.length ≠ 1 ∨ b.dims.getD 0 0 ≠ w.dims.getD 0 0 then 2
  else Pl.madeErr (x.dims.getD 0 0) (w.dims.getD 0 0) (x.dims.getD 1 0) (x.exp + w.exp)
def Pl.fwdSums (x w b : Pl.Ten) : Pl.Sums :=
  ⟨[x.dims.getD 0 0, w.dims.getD 0 0], x.exp + w.exp, Pl.madeTo (w.dims.getD 0 0).toNat ((x.dims.getD 0 0).toNat * (w.dims.getD 0 0).toNat) (Pl.fwdAt (x.dims.getD 1 0).toNat (x.exp + w.exp) x.data w.data b.data b.exp)⟩

set_option maxRecDepth 100000 in
set_option maxHeartbeats 1000000 in
theorem forward_any (vx vw vb : TV) (x u b : Pl.Ten) (w : World) (hx : vx.At w w.heap.size x) (hu : vw.At w w.heap.size u) (hb : vb.At w w.heap.size b)
    (wx : Pl.All8 x.data) (wu : Pl.All8 u.data) (wb : Pl.All8 b.data) :
    Calls Try.prog 12 #[vx.val, vw.val, vb.val] w (SumsPost w (Pl.fwdErr x u b) (Pl.fwdSums x u b)) := by
  obtain ⟨xA, xn, xc, xe, xD, xm, xd⟩ := vx
  obtain ⟨uA, un, uc, ue, uD, um, ud⟩ := vw
  obtain ⟨bA, bn, bc, be, bD, bm, bd⟩ := vb
  obtain ⟨ex, hx⟩ := hx
  obtain ⟨eu, hu⟩ := hu
  obtain ⟨eb, hb⟩ := hb
  simp only at ex eu eb hx hu hb
  subst ex eu eb
  have HX := Lib.hid hx
  have HU := Lib.hid hu
  have HB := Lib.hid hb
  clear hx hu hb
  have HF := Lib.hid (Fr.four w (.cells #[.slice xA xn xc, .int .i64 x.exp, .slice xD xm xd] 26) (.cells #[.slice uA un uc, .int .i64 u.exp, .slice uD um ud] 26) (.cells #[.slice bA bn bc, .int .i64 b.exp, .slice bD bm bd] 26) (.cells #[.slice none 0 0, .int .i64 0, .slice none 0 0] 31))
  simp only [TV.val]
  go_enter Try.func12, Try.ntmps12
  go_wp2_with fail
  refine (mayT_any _ _ _ _ _ _ b _ ((HB.out.below HF.out.bel).more HF.out.size)).mono ?_
  rintro e w1 ⟨rfl, hb1⟩
  have HG := Lib.hid (HF.out.next hb1)
  clear hb1 HF
  have cxs : w.heap.size < w1.heap.size := HG.out.lt (o := .cells #[.slice xA xn xc, .int .i64 x.exp, .slice xD xm xd] 26) (by simp)
  have cx0 : w1.cell? ⟨w.heap.size, 0, none⟩ = some (.slice xA xn xc) := HG.out.cell (cs := #[.slice xA xn xc, .int .i64 x.exp, .slice xD xm xd]) (t := 26) (by simp) 0
  have cx1 : w1.cell? ⟨w.heap.size, 1, none⟩ = some (.int .i64 x.exp) := HG.out.cell (cs := #[.slice xA xn xc, .int .i64 x.exp, .slice xD xm xd]) (t := 26) (by simp) 1
  have cx2 : w1.cell? ⟨w.heap.size, 2, none⟩ = some (.slice xD xm xd) := HG.out.cell (cs := #[.slice xA xn xc, .int .i64 x.exp, .slice xD xm xd]) (t := 26) (by simp) 2
  have cus : w.heap.size + 1 < w1.heap.size := HG.out.lt (o := .cells #[.slice uA un uc, .int .i64 u.exp, .slice uD um ud] 26) (by simp)
  have cu0 : w1.cell? ⟨w.heap.size + 1, 0, none⟩ = some (.slice uA un uc) := HG.out.cell (cs := #[.slice uA un uc, .int .i64 u.exp, .slice uD um ud]) (t := 26) (by simp) 0
  have cu1 : w1.cell? ⟨w.heap.size + 1, 1, none⟩ = some (.int .i64 u.exp) := HG.out.cell (cs := #[.slice uA un uc, .int .i64 u.exp, .slice uD um ud]) (t := 26) (by simp) 1
  have cu2 : w1.cell? ⟨w.heap.size + 1, 2, none⟩ = some (.slice uD um ud) := HG.out.cell (cs := #[.slice uA un uc, .int .i64 u.exp, .slice uD um ud]) (t := 26) (by simp) 2
  have cbs : w.heap.size + 1 + 1 < w1.heap.size := HG.out.lt (o := .cells #[.slice bA bn bc, .int .i64 b.exp, .slice bD bm bd] 26) (by simp)
  have cb0 : w1.cell? ⟨w.heap.size + 1 + 1, 0, none⟩ = some (.slice bA bn bc) := HG.out.cell (cs := #[.slice bA bn bc, .int .i64 b.exp, .slice bD bm bd]) (t := 26) (by simp) 0
  have cb1 : w1.cell? ⟨w.heap.size + 1 + 1, 1, none⟩ = some (.int .i64 b.exp) := HG.out.cell (cs := #[.slice bA bn bc, .int .i64 b.exp, .slice bD bm bd]) (t := 26) (by simp) 1
  have cb2 : w1.cell? ⟨w.heap.size + 1 + 1, 2, none⟩ = some (.slice bD bm bd) := HG.out.cell (cs := #[.slice bA bn bc, .int .i64 b.exp, .slice bD bm bd]) (t := 26) (by simp) 2
  have crs : w.heap.size + 1 + 1 + 1 < w1.heap.size := HG.out.lt (o := .cells #[.slice none 0 0, .int .i64 0, .slice none 0 0] 31) (by simp)
  have cr0 : w1.cell? ⟨w.heap.size + 1 + 1 + 1, 0, none⟩ = some (.slice none 0 0) := HG.out.cell (cs := #[.slice none 0 0, .int .i64 0, .slice none 0 0]) (t := 31) (by simp) 0
  have cr0f : w1.frozen? ⟨w.heap.size + 1 + 1 + 1, 0, none⟩ = false := HG.out.frozen (cs := #[.slice none 0 0, .int .i64 0, .slice none 0 0]) (t := 31) (by simp) 0
  have cr1 : w1.cell? ⟨w.heap.size + 1 + 1 + 1, 1, none⟩ = some (.int .i64 0) := HG.out.cell (cs := #[.slice none 0 0, .int .i64 0, .slice none 0 0]) (t := 31) (by simp) 1
  have cr1f : w1.frozen? ⟨w.heap.size + 1 + 1 + 1, 1, none⟩ = false := HG.out.frozen (cs := #[.slice none 0 0, .int .i64 0, .slice none 0 0]) (t := 31) (by simp) 1
  have cr2 : w1.cell? ⟨w.heap.size + 1 + 1 + 1, 2, none⟩ = some (.slice none 0 0) := HG.out.cell (cs := #[.slice none 0 0, .int .i64 0, .slice none 0 0]) (t := 31) (by simp) 2
  have cr2f : w1.frozen? ⟨w.heap.size + 1 + 1 + 1, 2, none⟩ = false := HG.out.frozen (cs := #[.slice none 0 0, .int .i64 0, .slice none 0 0]) (t := 31) (by simp) 2
  by_cases hmb : Pl.mayT b = false
  · have HE := Lib.hid (show Pl.fwdErr x u b = 1 by unfold Pl.fwdErr; rw [if_pos hmb])
    go_wp2_with fail
    refine bodyPost_ret (v := .tuple #[.agg #[.slice none 0 0, .int .i64 0, .slice none 0 0], .int .i64 1]) (by simp [results, Try.results12, go_sem, cr0, cr1, cr2]) rfl ?_
    have hbb := HG.out.bel
    exact SumsPost.err (by repeat (first | exact Below.refl _ _ | assumption | (refine below_drewN ?_ _) | (refine Below.alloc ?_ (by simp <;> omega) _) | (refine Below.setCell ?_ (by simp <;> omega) _))) HE.out (by decide)
  have hmb' : Pl.mayT b = true := by simpa using hmb
  clear hmb
  go_wp2_with fail
  have HA := Lib.hid (HG.out.alloc (.cells #[.slice xA xn xc, .int .i64 x.exp, .slice xD xm xd, .slice uA un uc, .int .i64 u.exp, .slice uD um ud] 26))
  refine (denseMay_any w1.heap.size 2 2 _ [x, u] 2 _ (TVs.pair (v0 := ⟨xA, xn, xc, x.exp, xD, xm, xd⟩) (v1 := ⟨uA, un, uc, u.exp, uD, um, ud⟩) (heap_alloc_new w1 _) ⟨rfl, (HX.out.below HA.out.bel).more HA.out.size⟩ ⟨rfl, (HU.out.below HA.out.bel).more HA.out.size⟩) (by omega)).mono ?_
  rintro e w2 ⟨rfl, hb2⟩
  have HB2 := Lib.hid ((HA.out.next hb2).less (l' := [(w.heap.size + 1 + 1 + 1, (.cells #[.slice none 0 0, .int .i64 0, .slice none 0 0] 31)), (w.heap.size + 1 + 1, (.cells #[.slice bA bn bc, .int .i64 b.exp, .slice bD bm bd] 26)), (w.heap.size + 1, (.cells #[.slice uA un uc, .int .i64 u.exp, .slice uD um ud] 26)), (w.heap.size, (.cells #[.slice xA xn xc, .int .i64 x.exp, .slice xD xm xd] 26))]) (by simp))
  clear cxs cus cbs crs cx0 cx1 cx2 cu0 cu1 cu2 cb0 cb1 cb2 cr0 cr0f cr1 cr1f cr2 cr2f hb2 HA HG
  have cxs : w.heap.size < w2.heap.size := HB2.out.lt (o := .cells #[.slice xA xn xc, .int .i64 x.exp, .slice xD xm xd] 26) (by simp)
  have cx0 : w2.cell? ⟨w.heap.size, 0, none⟩ = some (.slice xA xn xc) := HB2.out.cell (cs := #[.slice xA xn xc, .int .i64 x.exp, .slice xD xm xd]) (t := 26) (by simp) 0
  have cx1 : w2.cell? ⟨w.heap.size, 1, none⟩ = some (.int .i64 x.exp) := HB2.out.cell (cs := #[.slice xA xn xc, .int .i64 x.exp, .slice xD xm xd]) (t := 26) (by simp) 1
  have cx2 : w2.cell? ⟨w.heap.size, 2, none⟩ = some (.slice xD xm xd) := HB2.out.cell (cs := #[.slice xA xn xc, .int .i64 x.exp, .slice xD xm xd]) (t := 26) (by simp) 2
  have cus : w.heap.size + 1 < w2.heap.size := HB2.out.lt (o := .cells #[.slice uA un uc, .int .i64 u.exp, .slice uD um ud] 26) (by simp)
  have cu0 : w2.cell? ⟨w.heap.size + 1, 0, none⟩ = some (.slice uA un uc) := HB2.out.cell (cs := #[.slice uA un uc, .int .i64 u.exp, .slice uD um ud]) (t := 26) (by simp) 0
  have cu1 : w2.cell? ⟨w.heap.size + 1, 1, none⟩ = some (.int .i64 u.exp) := HB2.out.cell (cs := #[.slice uA un uc, .int .i64 u.exp, .slice uD um ud]) (t := 26) (by simp) 1
  have cu2 : w2.cell? ⟨w.heap.size + 1, 2, none⟩ = some (.slice uD um ud) := HB2.out.cell (cs := #[.slice uA un uc, .int .i64 u.exp, .slice uD um ud]) (t := 26) (by simp) 2
  have cbs : w.heap.size + 1 + 1 < w2.heap.size := HB2.out.lt (o := .cells #[.slice bA bn bc, .int .i64 b.exp, .slice bD bm bd] 26) (by simp)
  have cb0 : w2.cell? ⟨w.heap.size + 1 + 1, 0, none⟩ = some (.slice bA bn bc) := HB2.out.cell (cs := #[.slice bA bn bc, .int .i64 b.exp, .slice bD bm bd]) (t := 26) (by simp) 0
  have cb1 : w2.cell? ⟨w.heap.size + 1 + 1, 1, none⟩ = some (.int .i64 b.exp) := HB2.out.cell (cs := #[.slice bA bn bc, .int .i64 b.exp, .slice bD bm bd]) (t := 26) (by simp) 1
  have cb2 : w2.cell? ⟨w.heap.size + 1 + 1, 2, none⟩ = some (.slice bD bm bd) := HB2.out.cell (cs := #[.slice bA bn bc, .int .i64 b.exp, .slice bD bm bd]) (t := 26) (by simp) 2
  have crs : w.heap.size + 1 + 1 + 1 < w2.heap.size := HB2.out.lt (o := .cells #[.slice none 0 0, .int .i64 0, .slice none 0 0] 31) (by simp)
  have cr0 : w2.cell? ⟨w.heap.size + 1 + 1 + 1, 0, none⟩ = some (.slice none 0 0) := HB2.out.cell (cs := #[.slice none 0 0, .int .i64 0, .slice none 0 0]) (t := 31) (by simp) 0
  have cr0f : w2.frozen? ⟨w.heap.size + 1 + 1 + 1, 0, none⟩ = false := HB2.out.frozen (cs := #[.slice none 0 0, .int .i64 0, .slice none 0 0]) (t := 31) (by simp) 0
  have cr1 : w2.cell? ⟨w.heap.size + 1 + 1 + 1, 1, none⟩ = some (.int .i64 0) := HB2.out.cell (cs := #[.slice none 0 0, .int .i64 0, .slice none 0 0]) (t := 31) (by simp) 1
  have cr1f : w2.frozen? ⟨w.heap.size + 1 + 1 + 1, 1, none⟩ = false := HB2.out.frozen (cs := #[.slice none 0 0, .int .i64 0, .slice none 0 0]) (t := 31) (by simp) 1
  have cr2 : w2.cell? ⟨w.heap.size + 1 + 1 + 1, 2, none⟩ = some (.slice none 0 0) := HB2.out.cell (cs := #[.slice none 0 0, .int .i64 0, .slice none 0 0]) (t := 31) (by simp) 2
  have cr2f : w2.frozen? ⟨w.heap.size + 1 + 1 + 1, 2, none⟩ = false := HB2.out.frozen (cs := #[.slice none 0 0, .int .i64 0, .slice none 0 0]) (t := 31) (by simp) 2

  by_cases hme : Pl.mayErr 2 [x, u] = 0
  rotate_left
  · have HE := Lib.hid (show Pl.fwdErr x u b = Pl.mayErr 2 [x, u] by unfold Pl.fwdErr; rw [if_neg (by simp [hmb']), if_pos hme])
    have HN := Lib.hid hme
    have hne : (Pl.mayErr 2 [x, u] != 0) = true := by rw [bne_iff_ne]; exact hme
    clear hme
    go_wp2_with fail
    refine bodyPost_ret (v := .tuple #[.agg #[.slice none 0 0, .int .i64 0, .slice none 0 0], .int .i64 (Pl.mayErr 2 [x, u])]) (by simp [results, Try.results12, go_sem, cr0, cr1, cr2]) rfl ?_
    have hbb := HB2.out.bel
    exact SumsPost.err (by repeat (first | exact Below.refl _ _ | assumption | (refine below_drewN ?_ _) | (refine Below.alloc ?_ (by simp <;> omega) _) | (refine Below.setCell ?_ (by simp <;> omega) _))) HE.out HN.out
  have hne : (Pl.mayErr 2 [x, u] != 0) = false := by rw [hme]; rfl
  have HME := Lib.hid hme
  clear hme
  obtain ⟨mx, mu, lx, lu⟩ := Pl.mayErr_ok2 2 x u HME.out
  have HLX := Lib.hid (show x.dims.length = 2 by omega)
  have HLU := Lib.hid (show u.dims.length = 2 by omega)
  obtain ⟨ax, rfl, rfl, bx, dx0, dx1⟩ := (HX.out.below HB2.out.bel).two (by omega)
  obtain ⟨au, rfl, rfl, bu, du0, du1⟩ := (HU.out.below HB2.out.bel).two (by omega)
  clear lx lu
  obtain ⟨xr, hxr⟩ : ∃ v, v = x.dims.getD 0 0 := ⟨_, rfl⟩
  obtain ⟨xn, hxn⟩ : ∃ v, v = x.dims.getD 1 0 := ⟨_, rfl⟩
  obtain ⟨ur, hur⟩ : ∃ v, v = u.dims.getD 0 0 := ⟨_, rfl⟩
  obtain ⟨un, hun⟩ : ∃ v, v = u.dims.getD 1 0 := ⟨_, rfl⟩
  rw [← hxr] at dx0
  rw [← hxn] at dx1
  rw [← hur] at du0
  rw [← hun] at du1
  have HXR := Lib.hid hxr
  have HXN := Lib.hid hxn
  have HUR := Lib.hid hur
  have HUN := Lib.hid hun
  clear hxr hxn hur hun
  go_wp2_with fail
  go_region_held3 (fun w' => w'.cell? ⟨w.heap.size, 0, none⟩ = some (.slice (some ax) 2 xc) ∧ w'.cell? ⟨w.heap.size + 1, 0, none⟩ = some (.slice (some au) 2 uc) ∧
      w'.cell? ax = some (.int .i64 xr) ∧ w'.cell? ⟨ax.block, ax.off + 1, none⟩ = some (.int .i64 xn) ∧ w'.cell? au = some (.int .i64 ur)) (go_keep) (fail)
  rename_i hheld
  clear hheld
  obtain ⟨w3, hw3⟩ : ∃ w3, w3 = (w2.alloc (.cells #[.int .i64 xn] 3)).drew := ⟨_, rfl⟩
  rw [← hw3]
  have HC := Lib.hid (show Fr w w3 _ from by rw [hw3]; exact (HB2.out.alloc (.cells #[.int .i64 xn] 3)).drew)
  clear hw3 dx0 dx1 du0 du1 cxs cus cbs crs cx0 cx1 cx2 cu0 cu1 cu2 cb0 cb1 cb2 cr0 cr0f cr1 cr1f cr2 cr2f
  have cxs : w.heap.size < w3.heap.size := HC.out.lt (o := .cells #[.slice (some ax) 2 xc, .int .i64 x.exp, .slice xD xm xd] 26) (by simp)
  have cx0 : w3.cell? ⟨w.heap.size, 0, none⟩ = some (.slice (some ax) 2 xc) := HC.out.cell (cs := #[.slice (some ax) 2 xc, .int .i64 x.exp, .slice xD xm xd]) (t := 26) (by simp) 0
  have cx1 : w3.cell? ⟨w.heap.size, 1, none⟩ = some (.int .i64 x.exp) := HC.out.cell (cs := #[.slice (some ax) 2 xc, .int .i64 x.exp, .slice xD xm xd]) (t := 26) (by simp) 1
  have cx2 : w3.cell? ⟨w.heap.size, 2, none⟩ = some (.slice xD xm xd) := HC.out.cell (cs := #[.slice (some ax) 2 xc, .int .i64 x.exp, .slice xD xm xd]) (t := 26) (by simp) 2
  have cus : w.heap.size + 1 < w3.heap.size := HC.out.lt (o := .cells #[.slice (some au) 2 uc, .int .i64 u.exp, .slice uD um ud] 26) (by simp)
  have cu0 : w3.cell? ⟨w.heap.size + 1, 0, none⟩ = some (.slice (some au) 2 uc) := HC.out.cell (cs := #[.slice (some au) 2 uc, .int .i64 u.exp, .slice uD um ud]) (t := 26) (by simp) 0
  have cu1 : w3.cell? ⟨w.heap.size + 1, 1, none⟩ = some (.int .i64 u.exp) := HC.out.cell (cs := #[.slice (some au) 2 uc, .int .i64 u.exp, .slice uD um ud]) (t := 26) (by simp) 1
  have cu2 : w3.cell? ⟨w.heap.size + 1, 2, none⟩ = some (.slice uD um ud) := HC.out.cell (cs := #[.slice (some au) 2 uc, .int .i64 u.exp, .slice uD um ud]) (t := 26) (by simp) 2
  have cbs : w.heap.size + 1 + 1 < w3.heap.size := HC.out.lt (o := .cells #[.slice bA bn bc, .int .i64 b.exp, .slice bD bm bd] 26) (by simp)
  have cb0 : w3.cell? ⟨w.heap.size + 1 + 1, 0, none⟩ = some (.slice bA bn bc) := HC.out.cell (cs := #[.slice bA bn bc, .int .i64 b.exp, .slice bD bm bd]) (t := 26) (by simp) 0
  have cb1 : w3.cell? ⟨w.heap.size + 1 + 1, 1, none⟩ = some (.int .i64 b.exp) := HC.out.cell (cs := #[.slice bA bn bc, .int .i64 b.exp, .slice bD bm bd]) (t := 26) (by simp) 1
  have cb2 : w3.cell? ⟨w.heap.size + 1 + 1, 2, none⟩ = some (.slice bD bm bd) := HC.out.cell (cs := #[.slice bA bn bc, .int .i64 b.exp, .slice bD bm bd]) (t := 26) (by simp) 2
  have crs : w.heap.size + 1 + 1 + 1 < w3.heap.size := HC.out.lt (o := .cells #[.slice none 0 0, .int .i64 0, .slice none 0 0] 31) (by simp)
  have cr0 : w3.cell? ⟨w.heap.size + 1 + 1 + 1, 0, none⟩ = some (.slice none 0 0) := HC.out.cell (cs := #[.slice none 0 0, .int .i64 0, .slice none 0 0]) (t := 31) (by simp) 0
  have cr0f : w3.frozen? ⟨w.heap.size + 1 + 1 + 1, 0, none⟩ = false := HC.out.frozen (cs := #[.slice none 0 0, .int .i64 0, .slice none 0 0]) (t := 31) (by simp) 0
  have cr1 : w3.cell? ⟨w.heap.size + 1 + 1 + 1, 1, none⟩ = some (.int .i64 0) := HC.out.cell (cs := #[.slice none 0 0, .int .i64 0, .slice none 0 0]) (t := 31) (by simp) 1
  have cr1f : w3.frozen? ⟨w.heap.size + 1 + 1 + 1, 1, none⟩ = false := HC.out.frozen (cs := #[.slice none 0 0, .int .i64 0, .slice none 0 0]) (t := 31) (by simp) 1
  have cr2 : w3.cell? ⟨w.heap.size + 1 + 1 + 1, 2, none⟩ = some (.slice none 0 0) := HC.out.cell (cs := #[.slice none 0 0, .int .i64 0, .slice none 0 0]) (t := 31) (by simp) 2
  have cr2f : w3.frozen? ⟨w.heap.size + 1 + 1 + 1, 2, none⟩ = false := HC.out.frozen (cs := #[.slice none 0 0, .int .i64 0, .slice none 0 0]) (t := 31) (by simp) 2
  have cns : w2.heap.size < w3.heap.size := HC.out.lt (o := .cells #[.int .i64 xn] 3) (by simp)
  have cn0 : w3.cell? ⟨w2.heap.size, 0, none⟩ = some (.int .i64 xn) := HC.out.cell (cs := #[.int .i64 xn]) (t := 3) (by simp) 0

  obtain ⟨ax', eax, _, _, dx0, dx1⟩ := (HX.out.below HC.out.bel).two HLX.out
  injection eax with eax
  subst eax
  obtain ⟨au', eau, _, _, du0, du1⟩ := (HU.out.below HC.out.bel).two HLU.out
  injection eau with eau
  subst eau
  rw [← HXR.out] at dx0
  rw [← HXN.out] at dx1
  rw [← HUR.out] at du0
  rw [← HUN.out] at du1
  by_cases q1 : un = xn
  rotate_left
  · have HE := Lib.hid (show Pl.fwdErr x u b = 2 by unfold Pl.fwdErr; rw [if_neg (by simp [hmb']), if_neg (by rw [HME.out]; simp), if_pos (.inl (by rw [← HUN.out, ← HXN.out]; exact q1))])
    have hq : (un != xn) = true := by rw [bne_iff_ne]; exact q1
    clear q1
    go_wp2_with fail
    go_quiet (fail)
    go_wp2_with fail
    refine bodyPost_ret (v := .tuple #[.agg #[.slice none 0 0, .int .i64 0, .slice none 0 0], .int .i64 2]) (by simp [results, Try.results12, go_sem, cr0, cr1, cr2]) rfl ?_
    have hbb := HC.out.bel
    exact SumsPost.err (by repeat (first | exact Below.refl _ _ | assumption | (refine below_drewN ?_ _) | (refine Below.alloc ?_ (by simp <;> omega) _) | (refine Below.setCell ?_ (by simp <;> omega) _))) HE.out (by decide)
  have hq : (un != xn) = false := by rw [q1]; simp
  have HQ1 := Lib.hid q1
  clear q1
  have hbl : b.dims.length = bn := by simpa using HB.out.dims.1
  by_cases q2 : bn = 1
  rotate_left
  · have HE := Lib.hid (show Pl.fwdErr x u b = 2 by unfold Pl.fwdErr; rw [if_neg (by simp [hmb']), if_neg (by rw [HME.out]; simp), if_pos (.inr (.inl (by rw [hbl]; exact q2)))])
    have hq2 : ((bn : Int) != 1) = true := by rw [bne_iff_ne]; omega
    clear q2 hbl
    go_wp2_with fail
    go_quiet (fail)
    go_wp2_with fail
    refine bodyPost_ret (v := .tuple #[.agg #[.slice none 0 0, .int .i64 0, .slice none 0 0], .int .i64 2]) (by simp [results, Try.results12, go_sem, cr0, cr1, cr2]) rfl ?_
    have hbb := HC.out.bel
    exact SumsPost.err (by repeat (first | exact Below.refl _ _ | assumption | (refine below_drewN ?_ _) | (refine Below.alloc ?_ (by simp <;> omega) _) | (refine Below.setCell ?_ (by simp <;> omega) _))) HE.out (by decide)
  subst q2
  have HBL := Lib.hid hbl
  clear hbl
  obtain ⟨ab, rfl, _, bb, db0⟩ := (HB.out.below HC.out.bel).one HBL.out
  obtain ⟨br, hbr⟩ : ∃ v, v = b.dims.getD 0 0 := ⟨_, rfl⟩
  rw [← hbr] at db0
  have HBR := Lib.hid hbr
  clear hbr
  by_cases q3 : br = ur
  rotate_left
  · have HE := Lib.hid (show Pl.fwdErr x u b = 2 by unfold Pl.fwdErr; rw [if_neg (by simp [hmb']), if_neg (by rw [HME.out]; simp), if_pos (.inr (.inr (by rw [← HBR.out, ← HUR.out]; exact q3)))])
    have hq3 : (br != ur) = true := by rw [bne_iff_ne]; exact q3
    clear q3
    go_wp2_with fail
    go_quiet (fail)
    go_wp2_with fail
    refine bodyPost_ret (v := .tuple #[.agg #[.slice none 0 0, .int .i64 0, .slice none 0 0], .int .i64 2]) (by simp [results, Try.results12, go_sem, cr0, cr1, cr2]) rfl ?_
    have hbb := HC.out.bel
    exact SumsPost.err (by repeat (first | exact Below.refl _ _ | assumption | (refine below_drewN ?_ _) | (refine Below.alloc ?_ (by simp <;> omega) _) | (refine Below.setCell ?_ (by simp <;> omega) _))) HE.out (by decide)
  have hq3 : (br != ur) = false := by rw [q3]; simp
  have HQ3 := Lib.hid q3
  clear q3
  obtain ⟨_, _, ex1, ex2, _⟩ := Pl.mayT_parts x mx
  obtain ⟨_, _, eu1, eu2, _⟩ := Pl.mayT_parts u mu
  go_wp2_with fail
  go_quiet (fail)
  go_wp2_with fail
  have HD := Lib.hid ((HC.out.alloc (.cells #[.int .i64 (x.exp + u.exp)] 3)).drewN nq)
  have hcl : Pl.madeErr xr ur xn (x.exp + u.exp) = 0 → ∀ (r o : Nat) (W : World), r < xr.toNat → o < ur.toNat → Below ((w3.alloc (.cells #[.int .i64 (x.exp + u.exp)] 3)).drewN nq).heap.size ((w3.alloc (.cells #[.int .i64 (x.exp + u.exp)] 3)).drewN nq) W →
      Calls Try.prog 28 (#[.int .i64 r, .int .i64 o] ++ #[.pointer (some ⟨w.heap.size + 1 + 1, 0, none⟩), .pointer (some ⟨w3.heap.size, 0, none⟩), .pointer (some ⟨w2.heap.size, 0, none⟩), .pointer (some ⟨w.heap.size, 0, none⟩), .pointer (some ⟨w.heap.size + 1, 0, none⟩)]) W
        fun e W' => e = .returned (.int .i64 (Pl.fwdAt xn.toNat (x.exp + u.exp) x.data u.data b.data b.exp r o)) ∧ ∃ k, W' = W.drewN k := by
    intro h0 r o W hr ho hbW
    obtain ⟨h1, _, _, h2⟩ := Pl.madeErr_ok _ _ _ _ h0
    have h3 := Pl.fits_bd _ h1
    have HW := HD.out.next hbW
    obtain ⟨x1, x2, x3, x4, x5, x6⟩ := Pl.dims2 x mx HLX.out
    obtain ⟨u1, u2, u3, u4, u5, u6⟩ := Pl.dims2 u mu HLU.out
    obtain ⟨b1, b2, b3⟩ := Pl.dims1 b hmb' HBL.out
    rw [← HXR.out, ← HXN.out] at x5
    rw [← HUR.out, ← HUN.out, HQ1.out] at u5
    rw [← HBR.out, HQ3.out] at b3
    rw [← HXN.out] at x3
    have lx : x.data.length = xm := by simpa using HX.out.data.1
    have lu : u.data.length = um := by simpa using HU.out.data.1
    have lb : b.data.length = bm := by simpa using HB.out.data.1
    have px : 0 < xm := by
      have : 0 < xr.toNat * xn.toNat := Nat.mul_pos (by omega) (by omega)
      omega
    have pu : 0 < um := by
      have : 0 < ur.toNat * xn.toNat := Nat.mul_pos (by omega) (by omega)
      omega
    obtain ⟨ad1, rfl, r1⟩ := (HX.out.below HW.bel).row px
    obtain ⟨ad2, rfl, r2⟩ := (HU.out.below HW.bel).row pu
    obtain ⟨ad3, rfl, r3⟩ := (HB.out.below HW.bel).row (show 0 < bm by omega)
    have e1 : (r + 1) * xn.toNat ≤ xr.toNat * xn.toNat := Nat.mul_le_mul_right _ hr
    have e2 : (o + 1) * xn.toNat ≤ ur.toNat * xn.toNat := Nat.mul_le_mul_right _ ho
    rw [Nat.add_mul, Nat.one_mul] at e1 e2
    have hN : (xn.toNat : Int) = xn := Int.toNat_of_nonneg (by omega)
    exact fwd1_any r o xn.toNat (x.exp + u.exp) b.exp x.data u.data b.data _ _ _ _ _ ad1 ad2 ad3 xm xd um ud bm bd W
      (HW.cell (cs := #[.slice (some ab) 1 bc, .int .i64 b.exp, .slice (some ad3) bm bd]) (t := 26) (by simp) 2) (HW.cell (cs := #[.slice (some ab) 1 bc, .int .i64 b.exp, .slice (some ad3) bm bd]) (t := 26) (by simp) 1)
      (HW.cell (cs := #[.int .i64 (x.exp + u.exp)]) (t := 3) (by simp) 0) (by rw [hN]; exact HW.cell (cs := #[.int .i64 xn]) (t := 3) (by simp) 0)
      (HW.cell (cs := #[.slice (some ax) 2 xc, .int .i64 x.exp, .slice (some ad1) xm xd]) (t := 26) (by simp) 2) (HW.cell (cs := #[.slice (some au) 2 uc, .int .i64 u.exp, .slice (some ad2) um ud]) (t := 26) (by simp) 2)
      r1 r2 r3 wx wu wb (by omega) (by omega) (by omega) (by omega) (by omega)
  have HCL := Lib.hid hcl
  clear hcl
  refine (made_any xr ur xn (x.exp + u.exp) (Pl.fwdAt xn.toNat (x.exp + u.exp) x.data u.data b.data b.exp) 28 _ _ (fun _ _ => by kernel_rfl) HCL.out).mono ?_
  intro e w5 hm5
  have HS := Lib.hid hm5.sums
  have HE5 := Lib.hid (HD.out.next hm5.1)
  have HZ := Lib.hid (show w.heap.size + 1 + 1 + 1 < ((w3.alloc (.cells #[.int .i64 (x.exp + u.exp)] 3)).drewN nq).heap.size from HD.out.lt (o := (.cells #[.slice none 0 0, .int .i64 0, .slice none 0 0] 31)) (by simp))
  have HFE := Lib.hid (show Pl.fwdErr x u b = Pl.madeErr xr ur xn (x.exp + u.exp) by
    unfold Pl.fwdErr
    rw [if_neg (by simp [hmb']), if_neg (by rw [HME.out]; simp), if_neg (by rw [← HUN.out, ← HXN.out, ← HBR.out, ← HUR.out]; simp [HQ1.out, HQ3.out, HBL.out]), ← HXR.out, ← HUR.out, ← HXN.out])
  have HFS := Lib.hid (show Pl.fwdSums x u b = ⟨[xr, ur], x.exp + u.exp, Pl.madeTo ur.toNat (xr.toNat * ur.toNat) (Pl.fwdAt xn.toNat (x.exp + u.exp) x.data u.data b.data b.exp)⟩ by
    unfold Pl.fwdSums
    rw [← HXR.out, ← HUR.out, ← HXN.out])
  have HBD := Lib.hid HD.out.bel
  clear cxs cus cbs crs cx0 cx1 cx2 cu0 cu1 cu2 cb0 cb1 cb2 cr0 cr0f cr1 cr1f cr2 cr2f cns cn0 dx0 dx1 du0 du1 db0 HCL HD HC HB2
  have crs : w.heap.size + 1 + 1 + 1 < w5.heap.size := HE5.out.lt (o := .cells #[.slice none 0 0, .int .i64 0, .slice none 0 0] 31) (by simp)
  have cr0 : w5.cell? ⟨w.heap.size + 1 + 1 + 1, 0, none⟩ = some (.slice none 0 0) := HE5.out.cell (cs := #[.slice none 0 0, .int .i64 0, .slice none 0 0]) (t := 31) (by simp) 0
  have cr0f : w5.frozen? ⟨w.heap.size + 1 + 1 + 1, 0, none⟩ = false := HE5.out.frozen (cs := #[.slice none 0 0, .int .i64 0, .slice none 0 0]) (t := 31) (by simp) 0
  have cr1 : w5.cell? ⟨w.heap.size + 1 + 1 + 1, 1, none⟩ = some (.int .i64 0) := HE5.out.cell (cs := #[.slice none 0 0, .int .i64 0, .slice none 0 0]) (t := 31) (by simp) 1
  have cr1f : w5.frozen? ⟨w.heap.size + 1 + 1 + 1, 1, none⟩ = false := HE5.out.frozen (cs := #[.slice none 0 0, .int .i64 0, .slice none 0 0]) (t := 31) (by simp) 1
  have cr2 : w5.cell? ⟨w.heap.size + 1 + 1 + 1, 2, none⟩ = some (.slice none 0 0) := HE5.out.cell (cs := #[.slice none 0 0, .int .i64 0, .slice none 0 0]) (t := 31) (by simp) 2
  have cr2f : w5.frozen? ⟨w.heap.size + 1 + 1 + 1, 2, none⟩ = false := HE5.out.frozen (cs := #[.slice none 0 0, .int .i64 0, .slice none 0 0]) (t := 31) (by simp) 2
  rcases hm5.2 with ⟨_, rfl⟩ | ⟨_, a, g, d, _, _, rfl, _⟩
  · clear hm5
    go_wp2_with fail
    refine bodyPost_ret (v := .tuple #[.agg #[.slice none 0 0, .int .i64 0, .slice none 0 0], .int .i64 (Pl.madeErr xr ur xn (x.exp + u.exp))]) (by simp [results, Try.results12, go_sem, cr0, cr1, cr2]) rfl ?_
    rw [HFE.out, HFS.out]
    exact HS.out.stored HBD.out (by omega) HZ.out _ _ _
  · clear hm5
    go_wp2_with fail
    refine bodyPost_ret (v := .tuple #[.agg #[.slice (some ⟨a, 0, none⟩) 2 2, .int .i64 (x.exp + u.exp), .slice (some ⟨g, 0, none⟩) (xr.toNat * ur.toNat) d], .int .i64 0]) (by simp [results, Try.results12, go_sem, cr0, cr1, cr2]) rfl ?_
    rw [HFE.out, HFS.out]
    exact HS.out.stored HBD.out (by omega) HZ.out _ _ _

end Go.Proofs.Ytanjlcjpcenejaa
