/- Walks of package dense: Bias. -/
import Derived.Test.YtanjlcjpcenejaaDenseFwd
namespace Go.Proofs.Ytanjlcjpcenejaa
open Go.RowKit
attribute [local go_sem] drewN_alloc drewN_setCell

/-- dense.Bias. -/
def Pl.dbsErr (x : Pl.Ten) : Int :=
  if Pl.mayErr 2 [x] ≠ 0 then Pl.mayErr 2 [x] else Pl.madeErr 1 (x.dims.getD 1 0) (x.dims.getD 0 0) x.exp
def Pl.dbsSums (x : Pl.Ten) : Pl.Sums :=
  ⟨[x.dims.getD 1 0], x.exp, Pl.madeTo (x.dims.getD 1 0).toNat (x.dims.getD 1 0).toNat (fun _ o => Pl.bsAt (x.dims.getD 0 0).toNat (x.dims.getD 1 0).toNat x.data o)⟩

set_option maxRecDepth 100000 in
set_option maxHeartbeats 1000000 in
theorem dbs_any (vx : TV) (x : Pl.Ten) (w : World) (hx : vx.At w w.heap.size x) (wx : Pl.All8 x.data) :
    Calls Try.prog 17 #[vx.val] w (SumsPost w (Pl.dbsErr x) (Pl.dbsSums x)) := by
  obtain ⟨xA, xn, xc, xe, xD, xm, xd⟩ := vx
  obtain ⟨ex, hx⟩ := hx
  simp only at ex hx
  subst ex
  have HX := Lib.hid hx
  clear hx
  have HF := Lib.hid (Fr.two w (.cells #[.slice xA xn xc, .int .i64 x.exp, .slice xD xm xd] 26) (.cells #[.slice none 0 0, .int .i64 0, .slice none 0 0] 31))
  simp only [TV.val]
  go_enter Try.func17, Try.ntmps17
  go_wp2_with fail
  have HA := Lib.hid (HF.out.alloc (.cells #[.slice xA xn xc, .int .i64 x.exp, .slice xD xm xd] 26))
  refine (denseMay_any (w.heap.size + 1 + 1) 1 1 _ [x] 2 _ (TVs.one (v0 := ⟨xA, xn, xc, x.exp, xD, xm, xd⟩) (heap_at_new _ _ _ (by simp)) ⟨rfl, (HX.out.below HA.out.bel).more HA.out.size⟩) (by omega)).mono ?_
  rintro e w2 ⟨rfl, hb2⟩
  have HB2 := Lib.hid ((HA.out.next hb2).less (l' := [(w.heap.size + 1, (.cells #[.slice none 0 0, .int .i64 0, .slice none 0 0] 31)), (w.heap.size, (.cells #[.slice xA xn xc, .int .i64 x.exp, .slice xD xm xd] 26))]) (by simp))
  clear hb2 HA HF
  have cxs : w.heap.size < w2.heap.size := HB2.out.lt (o := .cells #[.slice xA xn xc, .int .i64 x.exp, .slice xD xm xd] 26) (by simp)
  have cx0 : w2.cell? ⟨w.heap.size, 0, none⟩ = some (.slice xA xn xc) := HB2.out.cell (cs := #[.slice xA xn xc, .int .i64 x.exp, .slice xD xm xd]) (t := 26) (by simp) 0
  have cx1 : w2.cell? ⟨w.heap.size, 1, none⟩ = some (.int .i64 x.exp) := HB2.out.cell (cs := #[.slice xA xn xc, .int .i64 x.exp, .slice xD xm xd]) (t := 26) (by simp) 1
  have cx2 : w2.cell? ⟨w.heap.size, 2, none⟩ = some (.slice xD xm xd) := HB2.out.cell (cs := #[.slice xA xn xc, .int .i64 x.exp, .slice xD xm xd]) (t := 26) (by simp) 2
  have crs : w.heap.size + 1 < w2.heap.size := HB2.out.lt (o := .cells #[.slice none 0 0, .int .i64 0, .slice none 0 0] 31) (by simp)
  have cr0 : w2.cell? ⟨w.heap.size + 1, 0, none⟩ = some (.slice none 0 0) := HB2.out.cell (cs := #[.slice none 0 0, .int .i64 0, .slice none 0 0]) (t := 31) (by simp) 0
  have cr0f : w2.frozen? ⟨w.heap.size + 1, 0, none⟩ = false := HB2.out.frozen (cs := #[.slice none 0 0, .int .i64 0, .slice none 0 0]) (t := 31) (by simp) 0
  have cr1 : w2.cell? ⟨w.heap.size + 1, 1, none⟩ = some (.int .i64 0) := HB2.out.cell (cs := #[.slice none 0 0, .int .i64 0, .slice none 0 0]) (t := 31) (by simp) 1
  have cr1f : w2.frozen? ⟨w.heap.size + 1, 1, none⟩ = false := HB2.out.frozen (cs := #[.slice none 0 0, .int .i64 0, .slice none 0 0]) (t := 31) (by simp) 1
  have cr2 : w2.cell? ⟨w.heap.size + 1, 2, none⟩ = some (.slice none 0 0) := HB2.out.cell (cs := #[.slice none 0 0, .int .i64 0, .slice none 0 0]) (t := 31) (by simp) 2
  have cr2f : w2.frozen? ⟨w.heap.size + 1, 2, none⟩ = false := HB2.out.frozen (cs := #[.slice none 0 0, .int .i64 0, .slice none 0 0]) (t := 31) (by simp) 2
  by_cases hme : Pl.mayErr 2 [x] = 0
  rotate_left
  · have HE := Lib.hid (show Pl.dbsErr x = Pl.mayErr 2 [x] by unfold Pl.dbsErr; rw [if_pos hme])
    have HN := Lib.hid hme
    have hne : (Pl.mayErr 2 [x] != 0) = true := by rw [bne_iff_ne]; exact hme
    clear hme
    go_wp2_with fail
    refine bodyPost_ret (v := .tuple #[.agg #[.slice none 0 0, .int .i64 0, .slice none 0 0], .int .i64 (Pl.mayErr 2 [x])]) (by simp [results, Try.results17, go_sem, cr0, cr1, cr2]) rfl ?_
    have hbb := HB2.out.bel
    exact SumsPost.err (by repeat (first | exact Below.refl _ _ | assumption | (refine below_drewN ?_ _) | (refine Below.alloc ?_ (by simp <;> omega) _) | (refine Below.setCell ?_ (by simp <;> omega) _))) HE.out HN.out
  have hne : (Pl.mayErr 2 [x] != 0) = false := by rw [hme]; rfl
  have HME := Lib.hid hme
  clear hme
  obtain ⟨mx, lx⟩ := Pl.mayErr_ok1 2 x HME.out
  have HLX := Lib.hid (show x.dims.length = 2 by omega)
  obtain ⟨ax, rfl, rfl, bx, dx0, dx1⟩ := (HX.out.below HB2.out.bel).two (by omega)
  clear lx
  obtain ⟨xr, hxr⟩ : ∃ v, v = x.dims.getD 0 0 := ⟨_, rfl⟩
  obtain ⟨xn, hxn⟩ : ∃ v, v = x.dims.getD 1 0 := ⟨_, rfl⟩
  rw [← hxr] at dx0
  rw [← hxn] at dx1
  have HXR := Lib.hid hxr
  have HXN := Lib.hid hxn
  clear hxr hxn
  have bx2 : ax.block < w2.heap.size := by omega
  go_upto_region 4 with fail
  go_cut [5, 6] (fun s5 s6 wr => ∃ b5 b6 : Nat, s5 = .pointer (some ⟨b5, 0, none⟩) ∧ s6 = .pointer (some ⟨b6, 0, none⟩) ∧ Fr w wr [(b5, (.cells #[.int .i64 xr] 3)), (b6, (.cells #[.int .i64 xn] 3)), (w.heap.size + 1, (.cells #[.slice none 0 0, .int .i64 0, .slice none 0 0] 31)), (w.heap.size, (.cells #[.slice (some ax) 2 xc, .int .i64 x.exp, .slice xD xm xd] 26))])
  case first =>
    go_region_held3 (fun w' => w'.cell? ⟨w.heap.size, 0, none⟩ = some (.slice (some ax) 2 xc) ∧ w'.cell? ax = some (.int .i64 xr) ∧ w'.cell? ⟨ax.block, ax.off + 1, none⟩ = some (.int .i64 xn)) (go_keep) (fail)
    all_goals
      go_wp2_with fail
      go_meet
      first | exact ⟨w2.heap.size, w2.heap.size + 1, rfl, rfl, ((HB2.out.alloc2 (.cells #[.int .i64 xr] 3) (.cells #[.int .i64 xn] 3)).drewN 1).less (by simp)⟩ | exact ⟨w2.heap.size + 1, w2.heap.size, rfl, rfl, ((HB2.out.alloc2 (.cells #[.int .i64 xn] 3) (.cells #[.int .i64 xr] 3)).drewN 1).less (by simp)⟩
  case rest =>
    obtain ⟨b5, b6, rfl, rfl, hfc⟩ := hcut
    have HC := Lib.hid hfc
    clear hfc HB2 dx0 dx1 cxs crs cx0 cx1 cx2 cr0 cr0f cr1 cr1f cr2 cr2f
    have cxs : w.heap.size < wc.heap.size := HC.out.lt (o := .cells #[.slice (some ax) 2 xc, .int .i64 x.exp, .slice xD xm xd] 26) (by simp)
    have cx0 : wc.cell? ⟨w.heap.size, 0, none⟩ = some (.slice (some ax) 2 xc) := HC.out.cell (cs := #[.slice (some ax) 2 xc, .int .i64 x.exp, .slice xD xm xd]) (t := 26) (by simp) 0
    have cx1 : wc.cell? ⟨w.heap.size, 1, none⟩ = some (.int .i64 x.exp) := HC.out.cell (cs := #[.slice (some ax) 2 xc, .int .i64 x.exp, .slice xD xm xd]) (t := 26) (by simp) 1
    have cx2 : wc.cell? ⟨w.heap.size, 2, none⟩ = some (.slice xD xm xd) := HC.out.cell (cs := #[.slice (some ax) 2 xc, .int .i64 x.exp, .slice xD xm xd]) (t := 26) (by simp) 2
    have crs : w.heap.size + 1 < wc.heap.size := HC.out.lt (o := .cells #[.slice none 0 0, .int .i64 0, .slice none 0 0] 31) (by simp)
    have cr0 : wc.cell? ⟨w.heap.size + 1, 0, none⟩ = some (.slice none 0 0) := HC.out.cell (cs := #[.slice none 0 0, .int .i64 0, .slice none 0 0]) (t := 31) (by simp) 0
    have cr0f : wc.frozen? ⟨w.heap.size + 1, 0, none⟩ = false := HC.out.frozen (cs := #[.slice none 0 0, .int .i64 0, .slice none 0 0]) (t := 31) (by simp) 0
    have cr1 : wc.cell? ⟨w.heap.size + 1, 1, none⟩ = some (.int .i64 0) := HC.out.cell (cs := #[.slice none 0 0, .int .i64 0, .slice none 0 0]) (t := 31) (by simp) 1
    have cr1f : wc.frozen? ⟨w.heap.size + 1, 1, none⟩ = false := HC.out.frozen (cs := #[.slice none 0 0, .int .i64 0, .slice none 0 0]) (t := 31) (by simp) 1
    have cr2 : wc.cell? ⟨w.heap.size + 1, 2, none⟩ = some (.slice none 0 0) := HC.out.cell (cs := #[.slice none 0 0, .int .i64 0, .slice none 0 0]) (t := 31) (by simp) 2
    have cr2f : wc.frozen? ⟨w.heap.size + 1, 2, none⟩ = false := HC.out.frozen (cs := #[.slice none 0 0, .int .i64 0, .slice none 0 0]) (t := 31) (by simp) 2
    have cn5s : b5 < wc.heap.size := HC.out.lt (o := .cells #[.int .i64 xr] 3) (by simp)
    have cn50 : wc.cell? ⟨b5, 0, none⟩ = some (.int .i64 xr) := HC.out.cell (cs := #[.int .i64 xr]) (t := 3) (by simp) 0
    have cn6s : b6 < wc.heap.size := HC.out.lt (o := .cells #[.int .i64 xn] 3) (by simp)
    have cn60 : wc.cell? ⟨b6, 0, none⟩ = some (.int .i64 xn) := HC.out.cell (cs := #[.int .i64 xn]) (t := 3) (by simp) 0
    obtain ⟨_, _, ex1, ex2, _⟩ := Pl.mayT_parts x mx
    go_wp2_with fail
    have hcl : Pl.madeErr 1 xn xr x.exp = 0 → ∀ (r o : Nat) (W : World), r < (1 : Int).toNat → o < xn.toNat → Below wc.heap.size wc W →
        Calls Try.prog 32 (#[.int .i64 r, .int .i64 o] ++ #[.pointer (some ⟨b5, 0, none⟩), .pointer (some ⟨w.heap.size, 0, none⟩), .pointer (some ⟨b6, 0, none⟩)]) W
          fun e W' => e = .returned (.int .i64 ((fun _ o => Pl.bsAt xr.toNat xn.toNat x.data o) r o)) ∧ ∃ k, W' = W.drewN k := by
      intro h0 r o W hr ho hbW
      obtain ⟨h1, _, _, h2⟩ := Pl.madeErr_ok _ _ _ _ h0
      have h3 := Pl.fits_bd _ h1
      have HW := HC.out.next hbW
      obtain ⟨x1, x2, x3, x4, x5, x6⟩ := Pl.dims2 x mx HLX.out
      rw [← HXR.out, ← HXN.out] at x5
      rw [← HXN.out] at x3
      rw [← HXR.out] at x1
      have lx : x.data.length = xm := by simpa using HX.out.data.1
      have px : 0 < xm := by
        have : 0 < xr.toNat * xn.toNat := Nat.mul_pos (by omega) (by omega)
        omega
      obtain ⟨ad1, rfl, r1⟩ := (HX.out.below HW.bel).row px
      have hN : (xr.toNat : Int) = xr := Int.toNat_of_nonneg (by omega)
      have hC : (xn.toNat : Int) = xn := Int.toNat_of_nonneg (by omega)
      have g5 := HW.cell (g := w.heap.size) (cs := #[.slice (some ax) 2 xc, .int .i64 x.exp, .slice (some ad1) xm xd]) (t := 26) (by simp) 2
      have gn5 : W.cell? ⟨b5, 0, none⟩ = some (.int .i64 xr) := HW.cell (cs := #[.int .i64 xr]) (t := 3) (by simp) 0
      have gn6 : W.cell? ⟨b6, 0, none⟩ = some (.int .i64 xn) := HW.cell (cs := #[.int .i64 xn]) (t := 3) (by simp) 0
      exact bs1_any r o xn.toNat xr.toNat x.data _ _ _ ad1 xm xd W (by rw [hN]; exact gn5) (by rw [hC]; exact gn6) g5 r1 wx (by omega) ho (by omega) (by omega)
    have HCL := Lib.hid hcl
    clear hcl
    refine (made_any 1 xn xr x.exp (fun _ o => Pl.bsAt xr.toNat xn.toNat x.data o) 32 _ _ (fun _ _ => by kernel_rfl) HCL.out).mono ?_
    intro e w5 hm5
    have HE5 := Lib.hid (HC.out.next hm5.1)
    have hz5 := hm5.1.size
    have HZ := Lib.hid (show w.heap.size + 1 < wc.heap.size from HC.out.lt (o := (.cells #[.slice none 0 0, .int .i64 0, .slice none 0 0] 31)) (by simp))
    have HFE := Lib.hid (show Pl.dbsErr x = Pl.madeErr 1 xn xr x.exp by
      unfold Pl.dbsErr
      rw [if_neg (by rw [HME.out]; simp), ← HXR.out, ← HXN.out])
    have HFS := Lib.hid (show Pl.dbsSums x = ⟨[xn], x.exp, Pl.madeTo xn.toNat xn.toNat (fun _ o => Pl.bsAt xr.toNat xn.toNat x.data o)⟩ by
      unfold Pl.dbsSums
      rw [← HXR.out, ← HXN.out])
    clear cxs crs cx0 cx1 cx2 cr0 cr0f cr1 cr1f cr2 cr2f cn5s cn50 HCL HC cn6s cn60
    have crs : w.heap.size + 1 < w5.heap.size := HE5.out.lt (o := .cells #[.slice none 0 0, .int .i64 0, .slice none 0 0] 31) (by simp)
    have cr0 : w5.cell? ⟨w.heap.size + 1, 0, none⟩ = some (.slice none 0 0) := HE5.out.cell (cs := #[.slice none 0 0, .int .i64 0, .slice none 0 0]) (t := 31) (by simp) 0
    have cr0f : w5.frozen? ⟨w.heap.size + 1, 0, none⟩ = false := HE5.out.frozen (cs := #[.slice none 0 0, .int .i64 0, .slice none 0 0]) (t := 31) (by simp) 0
    have cr1 : w5.cell? ⟨w.heap.size + 1, 1, none⟩ = some (.int .i64 0) := HE5.out.cell (cs := #[.slice none 0 0, .int .i64 0, .slice none 0 0]) (t := 31) (by simp) 1
    have cr1f : w5.frozen? ⟨w.heap.size + 1, 1, none⟩ = false := HE5.out.frozen (cs := #[.slice none 0 0, .int .i64 0, .slice none 0 0]) (t := 31) (by simp) 1
    have cr2 : w5.cell? ⟨w.heap.size + 1, 2, none⟩ = some (.slice none 0 0) := HE5.out.cell (cs := #[.slice none 0 0, .int .i64 0, .slice none 0 0]) (t := 31) (by simp) 2
    have cr2f : w5.frozen? ⟨w.heap.size + 1, 2, none⟩ = false := HE5.out.frozen (cs := #[.slice none 0 0, .int .i64 0, .slice none 0 0]) (t := 31) (by simp) 2
    have cn6s : b6 < w5.heap.size := HE5.out.lt (o := .cells #[.int .i64 xn] 3) (by simp)
    have cn60 : w5.cell? ⟨b6, 0, none⟩ = some (.int .i64 xn) := HE5.out.cell (cs := #[.int .i64 xn]) (t := 3) (by simp) 0
    rcases hm5.2 with ⟨hne5, rfl⟩ | ⟨h05, a, g, d, ha5, hg5, rfl, hs5⟩
    · have hq5 : (Pl.madeErr 1 xn xr x.exp == 0) = false := by simp [hne5]
      have HN5 := Lib.hid hne5
      clear hm5 hne5
      go_wp2_with fail
      have hk := (((((HE5.out.less (l' := [(w.heap.size + 1, (.cells #[.slice none 0 0, .int .i64 0, .slice none 0 0] 31))]) (by simp)).set (by simp) (by omega) 0 (.slice none 0 0)).set (by simp) (by omega) 1 (.int .i64 0)).set (by simp) (by omega) 2 (.slice none 0 0)).alloc (.cells #[.slice none 0 0, .int .i64 0, .slice none 0 0] 31))
      have r0 := hk.cell (g := w.heap.size + 1) (cs := #[.slice none 0 0, .int .i64 0, .slice none 0 0]) (t := 31) (by simp) 0
      have r1 := hk.cell (g := w.heap.size + 1) (cs := #[.slice none 0 0, .int .i64 0, .slice none 0 0]) (t := 31) (by simp) 1
      have r2 := hk.cell (g := w.heap.size + 1) (cs := #[.slice none 0 0, .int .i64 0, .slice none 0 0]) (t := 31) (by simp) 2
      refine bodyPost_ret (v := .tuple #[.agg #[.slice none 0 0, .int .i64 0, .slice none 0 0], .int .i64 (Pl.madeErr 1 xn xr x.exp)]) (by simp [results, Try.results17, go_sem, r0, r1, r2]) rfl ?_
      exact SumsPost.err hk.bel HFE.out HN5.out
    · have HS5 := Lib.hid hs5
      have H05 := Lib.hid h05
      have crs2 : w.heap.size + 1 < w5.heap.size + 1 := by omega
      have cn6s2 : b6 < w5.heap.size + 1 := by omega
      clear hm5 hs5 h05
      go_wp2_with fail
      have hk := (((((HE5.out.less (l' := [(w.heap.size + 1, (.cells #[.slice none 0 0, .int .i64 0, .slice none 0 0] 31))]) (by simp)).set (by simp) (by omega) 0 (.slice (some ⟨w5.heap.size + 1, 0, none⟩) 1 1)).set (by simp) (by omega) 1 (.int .i64 x.exp)).set (by simp) (by omega) 2 (.slice (some ⟨g, 0, none⟩) xn.toNat d)).alloc2 (.cells #[.slice (some ⟨w5.heap.size + 1, 0, none⟩) 1 1, .int .i64 x.exp, .slice (some ⟨g, 0, none⟩) xn.toNat d] 31) (.cells #[.int .i64 xn] 3))
      have r0 := hk.cell (g := w.heap.size + 1) (cs := #[.slice (some ⟨w5.heap.size + 1, 0, none⟩) 1 1, .int .i64 x.exp, .slice (some ⟨g, 0, none⟩) xn.toNat d]) (t := 31) (by simp) 0
      have r1 := hk.cell (g := w.heap.size + 1) (cs := #[.slice (some ⟨w5.heap.size + 1, 0, none⟩) 1 1, .int .i64 x.exp, .slice (some ⟨g, 0, none⟩) xn.toNat d]) (t := 31) (by simp) 1
      have r2 := hk.cell (g := w.heap.size + 1) (cs := #[.slice (some ⟨w5.heap.size + 1, 0, none⟩) 1 1, .int .i64 x.exp, .slice (some ⟨g, 0, none⟩) xn.toNat d]) (t := 31) (by simp) 2
      refine bodyPost_ret (v := .tuple #[.agg #[.slice (some ⟨w5.heap.size + 1, 0, none⟩) 1 1, .int .i64 x.exp, .slice (some ⟨g, 0, none⟩) xn.toNat d], .int .i64 0]) (by simp [results, Try.results17, go_sem, r0, r1, r2]) rfl ?_
      have hz1 := HZ.out
      have hlen : (Pl.madeTo xn.toNat xn.toNat (fun _ o => Pl.bsAt xr.toNat xn.toNat x.data o)).length = xn.toNat := Pl.madeTo_length _ _ _
      have hd := HS5.out.data
      rw [show (1 : Int).toNat * xn.toNat = xn.toNat from Nat.one_mul _] at hd
      have hg6 : g ≠ w.heap.size + 1 := by omega
      have hd2 := (((((hd.setOther (p := ⟨w.heap.size + 1, 0, none⟩) hg6 (.slice (some ⟨w5.heap.size + 1, 0, none⟩) 1 1)).setOther (p := ⟨w.heap.size + 1, 1, none⟩) hg6 (.int .i64 x.exp)).setOther (p := ⟨w.heap.size + 1, 2, none⟩) hg6 (.slice (some ⟨g, 0, none⟩) xn.toNat d)).alloc (by simp [World.setCell]) (.cells #[.slice (some ⟨w5.heap.size + 1, 0, none⟩) 1 1, .int .i64 x.exp, .slice (some ⟨g, 0, none⟩) xn.toNat d] 31)).alloc (by simp [World.setCell]) (.cells #[.int .i64 xn] 3))
      have hdim := reads_blk (t := 3) (cs := #[.int .i64 xn]) [.int .i64 xn] (hk.at_ (w5.heap.size + 1) (.cells #[.int .i64 xn] 3) (by simp [World.setCell])) rfl
      have hmx : xn.toNat ≤ maxLen := by
        obtain ⟨x1, x2, x3, x4, x5, x6⟩ := Pl.dims2 x mx HLX.out
        rw [← HXN.out] at x4
        simp only [maxLen]
        omega
      rw [HFE.out, HFS.out, H05.out]
      refine ⟨hk.bel, .inr ⟨rfl, w5.heap.size + 1, g, 1, d, by omega, by omega, by simp only [hlen]; rfl, ?_⟩⟩
      simp only [hlen]
      exact ⟨hdim, hd2.more (by simp [World.setCell]; omega), show 1 ≤ maxLen by decide, hmx⟩

end Go.Proofs.Ytanjlcjpcenejaa
