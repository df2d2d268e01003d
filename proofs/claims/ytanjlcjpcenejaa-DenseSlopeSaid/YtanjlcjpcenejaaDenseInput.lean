/- Walks of package dense: Input. -/
import Derived.Test.YtanjlcjpcenejaaDenseFwd
namespace Go.Proofs.Ytanjlcjpcenejaa
open Go.RowKit
attribute [local go_sem] drewN_alloc drewN_setCell

/-- dense.Input. -/
def Pl.dinErr (x u : Pl.Ten) : Int :=
  if Pl.mayErr 2 [x, u] ≠ 0 then Pl.mayErr 2 [x, u] else if u.dims.getD 0 0 ≠ x.dims.getD 1 0 then 2
  else Pl.madeErr (x.dims.getD 0 0) (u.dims.getD 1 0) (x.dims.getD 1 0) (x.exp + u.exp)
def Pl.dinSums (x u : Pl.Ten) : Pl.Sums :=
  ⟨[x.dims.getD 0 0, u.dims.getD 1 0], x.exp + u.exp, Pl.madeTo (u.dims.getD 1 0).toNat ((x.dims.getD 0 0).toNat * (u.dims.getD 1 0).toNat) (Pl.inAt (x.dims.getD 1 0).toNat (u.dims.getD 1 0).toNat x.data u.data)⟩

set_option maxRecDepth 100000 in
set_option maxHeartbeats 1000000 in
theorem din_any (vx vw : TV) (x u : Pl.Ten) (w : World) (hx : vx.At w w.heap.size x) (hu : vw.At w w.heap.size u) (wx : Pl.All8 x.data) (wu : Pl.All8 u.data) :
    Calls Try.prog 15 #[vx.val, vw.val] w (SumsPost w (Pl.dinErr x u) (Pl.dinSums x u)) := by
  obtain ⟨xA, xn, xc, xe, xD, xm, xd⟩ := vx
  obtain ⟨uA, un, uc, ue, uD, um, ud⟩ := vw
  obtain ⟨ex, hx⟩ := hx
  obtain ⟨eu, hu⟩ := hu
  simp only at ex eu hx hu
  subst ex eu
  have HX := Lib.hid hx
  have HU := Lib.hid hu
  clear hx hu
  have HF := Lib.hid (Fr.three w (.cells #[.slice xA xn xc, .int .i64 x.exp, .slice xD xm xd] 26) (.cells #[.slice uA un uc, .int .i64 u.exp, .slice uD um ud] 26) (.cells #[.slice none 0 0, .int .i64 0, .slice none 0 0] 31))
  simp only [TV.val]
  go_enter Try.func15, Try.ntmps15
  go_wp2_with fail
  have HA := Lib.hid (HF.out.alloc (.cells #[.slice xA xn xc, .int .i64 x.exp, .slice xD xm xd, .slice uA un uc, .int .i64 u.exp, .slice uD um ud] 26))
  refine (denseMay_any (w.heap.size + 1 + 1 + 1) 2 2 _ [x, u] 2 _ (TVs.pair (v0 := ⟨xA, xn, xc, x.exp, xD, xm, xd⟩) (v1 := ⟨uA, un, uc, u.exp, uD, um, ud⟩) (heap_at_new _ _ _ (by simp)) ⟨rfl, (HX.out.below HA.out.bel).more HA.out.size⟩ ⟨rfl, (HU.out.below HA.out.bel).more HA.out.size⟩) (by omega)).mono ?_
  rintro e w2 ⟨rfl, hb2⟩
  have HB2 := Lib.hid ((HA.out.next hb2).less (l' := [(w.heap.size + 1 + 1, (.cells #[.slice none 0 0, .int .i64 0, .slice none 0 0] 31)), (w.heap.size + 1, (.cells #[.slice uA un uc, .int .i64 u.exp, .slice uD um ud] 26)), (w.heap.size, (.cells #[.slice xA xn xc, .int .i64 x.exp, .slice xD xm xd] 26))]) (by simp))
  clear hb2 HA HF
  have cxs : w.heap.size < w2.heap.size := HB2.out.lt (o := .cells #[.slice xA xn xc, .int .i64 x.exp, .slice xD xm xd] 26) (by simp)
  have cx0 : w2.cell? ⟨w.heap.size, 0, none⟩ = some (.slice xA xn xc) := HB2.out.cell (cs := #[.slice xA xn xc, .int .i64 x.exp, .slice xD xm xd]) (t := 26) (by simp) 0
  have cx1 : w2.cell? ⟨w.heap.size, 1, none⟩ = some (.int .i64 x.exp) := HB2.out.cell (cs := #[.slice xA xn xc, .int .i64 x.exp, .slice xD xm xd]) (t := 26) (by simp) 1
  have cx2 : w2.cell? ⟨w.heap.size, 2, none⟩ = some (.slice xD xm xd) := HB2.out.cell (cs := #[.slice xA xn xc, .int .i64 x.exp, .slice xD xm xd]) (t := 26) (by simp) 2
  have cus : w.heap.size + 1 < w2.heap.size := HB2.out.lt (o := .cells #[.slice uA un uc, .int .i64 u.exp, .slice uD um ud] 26) (by simp)
  have cu0 : w2.cell? ⟨w.heap.size + 1, 0, none⟩ = some (.slice uA un uc) := HB2.out.cell (cs := #[.slice uA un uc, .int .i64 u.exp, .slice uD um ud]) (t := 26) (by simp) 0
  have cu1 : w2.cell? ⟨w.heap.size + 1, 1, none⟩ = some (.int .i64 u.exp) := HB2.out.cell (cs := #[.slice uA un uc, .int .i64 u.exp, .slice uD um ud]) (t := 26) (by simp) 1
  have cu2 : w2.cell? ⟨w.heap.size + 1, 2, none⟩ = some (.slice uD um ud) := HB2.out.cell (cs := #[.slice uA un uc, .int .i64 u.exp, .slice uD um ud]) (t := 26) (by simp) 2
  have crs : w.heap.size + 1 + 1 < w2.heap.size := HB2.out.lt (o := .cells #[.slice none 0 0, .int .i64 0, .slice none 0 0] 31) (by simp)
  have cr0 : w2.cell? ⟨w.heap.size + 1 + 1, 0, none⟩ = some (.slice none 0 0) := HB2.out.cell (cs := #[.slice none 0 0, .int .i64 0, .slice none 0 0]) (t := 31) (by simp) 0
  have cr0f : w2.frozen? ⟨w.heap.size + 1 + 1, 0, none⟩ = false := HB2.out.frozen (cs := #[.slice none 0 0, .int .i64 0, .slice none 0 0]) (t := 31) (by simp) 0
  have cr1 : w2.cell? ⟨w.heap.size + 1 + 1, 1, none⟩ = some (.int .i64 0) := HB2.out.cell (cs := #[.slice none 0 0, .int .i64 0, .slice none 0 0]) (t := 31) (by simp) 1
  have cr1f : w2.frozen? ⟨w.heap.size + 1 + 1, 1, none⟩ = false := HB2.out.frozen (cs := #[.slice none 0 0, .int .i64 0, .slice none 0 0]) (t := 31) (by simp) 1
  have cr2 : w2.cell? ⟨w.heap.size + 1 + 1, 2, none⟩ = some (.slice none 0 0) := HB2.out.cell (cs := #[.slice none 0 0, .int .i64 0, .slice none 0 0]) (t := 31) (by simp) 2
  have cr2f : w2.frozen? ⟨w.heap.size + 1 + 1, 2, none⟩ = false := HB2.out.frozen (cs := #[.slice none 0 0, .int .i64 0, .slice none 0 0]) (t := 31) (by simp) 2
  by_cases hme : Pl.mayErr 2 [x, u] = 0
  rotate_left
  · have HE := Lib.hid (show Pl.dinErr x u = Pl.mayErr 2 [x, u] by unfold Pl.dinErr; rw [if_pos hme])
    have HN := Lib.hid hme
    have hne : (Pl.mayErr 2 [x, u] != 0) = true := by rw [bne_iff_ne]; exact hme
    clear hme
    go_wp2_with fail
    refine bodyPost_ret (v := .tuple #[.agg #[.slice none 0 0, .int .i64 0, .slice none 0 0], .int .i64 (Pl.mayErr 2 [x, u])]) (by simp [results, Try.results15, go_sem, cr0, cr1, cr2]) rfl ?_
    have hbb := HB2.out.bel
    exact SumsPost.err (by repeat (first | exact Below.refl _ _ | assumption | (refine below_drewN ?_ _) | (refine Below.alloc ?_ (by simp <;> omega) _) | (refine Below.setCell ?_ (by simp <;> omega) _))) HE.out HN.out
  have hne : (Pl.mayErr 2 [x, u] != 0) = false := by rw [hme]; rfl
  have HME := Lib.hid hme
  clear hme
  obtain ⟨mx, mu, lx, lu⟩ := Pl.mayErr_ok2 2 x u HME.out
  have HLX := Lib.hid (show x.dims.length = 2 by omega)
  have HLU := Lib.hid (show u.dims.length = 2 by omega)
  obtain ⟨ax, rfl, rfl, bx, dx0, dx1⟩ := (HX.out.below HB2.out.bel).two (by omega)
  obtain ⟨au, rfl, rfl, bu, du0, du1⟩ := (HU.out.below HB2.out.bel).two (by omega)
  clear lx lu
  obtain ⟨xr, hxr⟩ : ∃ v, v = x.dims.getD 0 0 := ⟨_, rfl⟩
  obtain ⟨xn, hxn⟩ : ∃ v, v = x.dims.getD 1 0 := ⟨_, rfl⟩
  obtain ⟨ur, hur⟩ : ∃ v, v = u.dims.getD 0 0 := ⟨_, rfl⟩
  obtain ⟨un, hun⟩ : ∃ v, v = u.dims.getD 1 0 := ⟨_, rfl⟩
  rw [← hxr] at dx0
  rw [← hxn] at dx1
  rw [← hur] at du0
  rw [← hun] at du1
  have HXR := Lib.hid hxr
  have HXN := Lib.hid hxn
  have HUR := Lib.hid hur
  have HUN := Lib.hid hun
  clear hxr hxn hur hun
  go_upto_region 4 with fail
  go_cut [7, 8, 9] (fun s7 s8 s9 wr => ∃ b8 b9 : Nat, s7 = .int .i64 xr ∧ s8 = .pointer (some ⟨b8, 0, none⟩) ∧ s9 = .pointer (some ⟨b9, 0, none⟩) ∧ Fr w wr [(b8, (.cells #[.int .i64 xn] 3)), (b9, (.cells #[.int .i64 un] 3)), (w.heap.size + 1 + 1, (.cells #[.slice none 0 0, .int .i64 0, .slice none 0 0] 31)), (w.heap.size + 1, (.cells #[.slice (some au) 2 uc, .int .i64 u.exp, .slice uD um ud] 26)), (w.heap.size, (.cells #[.slice (some ax) 2 xc, .int .i64 x.exp, .slice xD xm xd] 26))])
  case first =>
    go_region_held3 (fun w' => w'.cell? ⟨w.heap.size, 0, none⟩ = some (.slice (some ax) 2 xc) ∧ w'.cell? ⟨w.heap.size + 1, 0, none⟩ = some (.slice (some au) 2 uc) ∧
        w'.cell? ax = some (.int .i64 xr) ∧ w'.cell? ⟨ax.block, ax.off + 1, none⟩ = some (.int .i64 xn) ∧ w'.cell? ⟨au.block, au.off + 1, none⟩ = some (.int .i64 un)) (go_keep) (fail)
    all_goals
      go_wp2_with fail
      go_meet
      first | exact ⟨w2.heap.size, w2.heap.size + 1, rfl, rfl, rfl, ((HB2.out.alloc2 (.cells #[.int .i64 xn] 3) (.cells #[.int .i64 un] 3)).drewN 1).less (by simp)⟩ | exact ⟨w2.heap.size + 1, w2.heap.size, rfl, rfl, rfl, ((HB2.out.alloc2 (.cells #[.int .i64 un] 3) (.cells #[.int .i64 xn] 3)).drewN 1).less (by simp)⟩
  case rest =>
    obtain ⟨b8, b9, rfl, rfl, rfl, hfc⟩ := hcut
    have HC := Lib.hid hfc
    clear hfc HB2 dx0 dx1 du0 du1 cxs cus crs cx0 cx1 cx2 cu0 cu1 cu2 cr0 cr0f cr1 cr1f cr2 cr2f
    have cxs : w.heap.size < wc.heap.size := HC.out.lt (o := .cells #[.slice (some ax) 2 xc, .int .i64 x.exp, .slice xD xm xd] 26) (by simp)
    have cx0 : wc.cell? ⟨w.heap.size, 0, none⟩ = some (.slice (some ax) 2 xc) := HC.out.cell (cs := #[.slice (some ax) 2 xc, .int .i64 x.exp, .slice xD xm xd]) (t := 26) (by simp) 0
    have cx1 : wc.cell? ⟨w.heap.size, 1, none⟩ = some (.int .i64 x.exp) := HC.out.cell (cs := #[.slice (some ax) 2 xc, .int .i64 x.exp, .slice xD xm xd]) (t := 26) (by simp) 1
    have cx2 : wc.cell? ⟨w.heap.size, 2, none⟩ = some (.slice xD xm xd) := HC.out.cell (cs := #[.slice (some ax) 2 xc, .int .i64 x.exp, .slice xD xm xd]) (t := 26) (by simp) 2
    have cus : w.heap.size + 1 < wc.heap.size := HC.out.lt (o := .cells #[.slice (some au) 2 uc, .int .i64 u.exp, .slice uD um ud] 26) (by simp)
    have cu0 : wc.cell? ⟨w.heap.size + 1, 0, none⟩ = some (.slice (some au) 2 uc) := HC.out.cell (cs := #[.slice (some au) 2 uc, .int .i64 u.exp, .slice uD um ud]) (t := 26) (by simp) 0
    have cu1 : wc.cell? ⟨w.heap.size + 1, 1, none⟩ = some (.int .i64 u.exp) := HC.out.cell (cs := #[.slice (some au) 2 uc, .int .i64 u.exp, .slice uD um ud]) (t := 26) (by simp) 1
    have cu2 : wc.cell? ⟨w.heap.size + 1, 2, none⟩ = some (.slice uD um ud) := HC.out.cell (cs := #[.slice (some au) 2 uc, .int .i64 u.exp, .slice uD um ud]) (t := 26) (by simp) 2
    have crs : w.heap.size + 1 + 1 < wc.heap.size := HC.out.lt (o := .cells #[.slice none 0 0, .int .i64 0, .slice none 0 0] 31) (by simp)
    have cr0 : wc.cell? ⟨w.heap.size + 1 + 1, 0, none⟩ = some (.slice none 0 0) := HC.out.cell (cs := #[.slice none 0 0, .int .i64 0, .slice none 0 0]) (t := 31) (by simp) 0
    have cr0f : wc.frozen? ⟨w.heap.size + 1 + 1, 0, none⟩ = false := HC.out.frozen (cs := #[.slice none 0 0, .int .i64 0, .slice none 0 0]) (t := 31) (by simp) 0
    have cr1 : wc.cell? ⟨w.heap.size + 1 + 1, 1, none⟩ = some (.int .i64 0) := HC.out.cell (cs := #[.slice none 0 0, .int .i64 0, .slice none 0 0]) (t := 31) (by simp) 1
    have cr1f : wc.frozen? ⟨w.heap.size + 1 + 1, 1, none⟩ = false := HC.out.frozen (cs := #[.slice none 0 0, .int .i64 0, .slice none 0 0]) (t := 31) (by simp) 1
    have cr2 : wc.cell? ⟨w.heap.size + 1 + 1, 2, none⟩ = some (.slice none 0 0) := HC.out.cell (cs := #[.slice none 0 0, .int .i64 0, .slice none 0 0]) (t := 31) (by simp) 2
    have cr2f : wc.frozen? ⟨w.heap.size + 1 + 1, 2, none⟩ = false := HC.out.frozen (cs := #[.slice none 0 0, .int .i64 0, .slice none 0 0]) (t := 31) (by simp) 2
    have cn8s : b8 < wc.heap.size := HC.out.lt (o := .cells #[.int .i64 xn] 3) (by simp)
    have cn80 : wc.cell? ⟨b8, 0, none⟩ = some (.int .i64 xn) := HC.out.cell (cs := #[.int .i64 xn]) (t := 3) (by simp) 0
    have cn9s : b9 < wc.heap.size := HC.out.lt (o := .cells #[.int .i64 un] 3) (by simp)
    have cn90 : wc.cell? ⟨b9, 0, none⟩ = some (.int .i64 un) := HC.out.cell (cs := #[.int .i64 un]) (t := 3) (by simp) 0
    obtain ⟨ax', eax, _, _, dx0, dx1⟩ := (HX.out.below HC.out.bel).two HLX.out
    injection eax with eax
    subst eax
    obtain ⟨au', eau, _, _, du0, du1⟩ := (HU.out.below HC.out.bel).two HLU.out
    injection eau with eau
    subst eau
    rw [← HXR.out] at dx0
    rw [← HXN.out] at dx1
    rw [← HUR.out] at du0
    rw [← HUN.out] at du1
    by_cases q1 : ur = xn
    rotate_left
    · have HE := Lib.hid (show Pl.dinErr x u = 2 by unfold Pl.dinErr; rw [if_neg (by rw [HME.out]; simp), ← HXR.out, ← HXN.out, ← HUR.out, if_pos q1])
      have hq : (ur != xn) = true := by rw [bne_iff_ne]; exact q1
      clear q1
      go_wp2_with fail
      go_quiet (fail)
      go_wp2_with fail
      refine bodyPost_ret (v := .tuple #[.agg #[.slice none 0 0, .int .i64 0, .slice none 0 0], .int .i64 2]) (by simp [results, Try.results15, go_sem, cr0, cr1, cr2]) rfl ?_
      have hbb := HC.out.bel
      exact SumsPost.err (by repeat (first | exact Below.refl _ _ | assumption | (refine below_drewN ?_ _) | (refine Below.alloc ?_ (by simp <;> omega) _) | (refine Below.setCell ?_ (by simp <;> omega) _))) HE.out (by decide)
    have hq : (ur != xn) = false := by rw [q1]; simp
    have HQ1 := Lib.hid q1
    clear q1
    obtain ⟨_, _, ex1, ex2, _⟩ := Pl.mayT_parts x mx
    obtain ⟨_, _, eu1, eu2, _⟩ := Pl.mayT_parts u mu
    go_wp2_with fail
    go_quiet (fail)
    go_wp2_with fail
    have HD := Lib.hid (HC.out.drewN nq)
    have hcl : Pl.madeErr xr un xn (x.exp + u.exp) = 0 → ∀ (r o : Nat) (W : World), r < xr.toNat → o < un.toNat → Below (wc.drewN nq).heap.size (wc.drewN nq) W →
        Calls Try.prog 30 (#[.int .i64 r, .int .i64 o] ++ #[.pointer (some ⟨b8, 0, none⟩), .pointer (some ⟨w.heap.size, 0, none⟩), .pointer (some ⟨w.heap.size + 1, 0, none⟩), .pointer (some ⟨b9, 0, none⟩)]) W
          fun e W' => e = .returned (.int .i64 (Pl.inAt (xn).toNat (un).toNat x.data u.data r o)) ∧ ∃ k, W' = W.drewN k := by
      intro h0 r o W hr ho hbW
      obtain ⟨h1, _, _, h2⟩ := Pl.madeErr_ok _ _ _ _ h0
      have h3 := Pl.fits_bd _ h1
      have HW := HD.out.next hbW
      obtain ⟨x1, x2, x3, x4, x5, x6⟩ := Pl.dims2 x mx HLX.out
      obtain ⟨u1, u2, u3, u4, u5, u6⟩ := Pl.dims2 u mu HLU.out
      rw [← HXR.out, ← HXN.out] at x5
      rw [← HUR.out, ← HUN.out, HQ1.out] at u5
      rw [← HXN.out] at x3
      rw [← HXR.out] at x1
      rw [← HUN.out] at u3
      have lx : x.data.length = xm := by simpa using HX.out.data.1
      have lu : u.data.length = um := by simpa using HU.out.data.1
      have px : 0 < xm := by
        have : 0 < xr.toNat * xn.toNat := Nat.mul_pos (by omega) (by omega)
        omega
      have pu : 0 < um := by
        have : 0 < xn.toNat * un.toNat := Nat.mul_pos (by omega) (by omega)
        omega
      obtain ⟨ad1, rfl, r1⟩ := (HX.out.below HW.bel).row px
      obtain ⟨ad2, rfl, r2⟩ := (HU.out.below HW.bel).row pu
      have e1 : (r + 1) * xn.toNat ≤ xr.toNat * xn.toNat := Nat.mul_le_mul_right _ hr
      rw [Nat.add_mul, Nat.one_mul] at e1
      have hN : (xn.toNat : Int) = xn := Int.toNat_of_nonneg (by omega)
      have hC : (un.toNat : Int) = un := Int.toNat_of_nonneg (by omega)
      have hR : (xr.toNat : Int) = xr := Int.toNat_of_nonneg (by omega)
      have g5 := HW.cell (g := w.heap.size) (cs := #[.slice (some ax) 2 xc, .int .i64 x.exp, .slice (some ad1) xm xd]) (t := 26) (by simp) 2
      have g6 := HW.cell (g := w.heap.size + 1) (cs := #[.slice (some au) 2 uc, .int .i64 u.exp, .slice (some ad2) um ud]) (t := 26) (by simp) 2
      have gn8 : W.cell? ⟨b8, 0, none⟩ = some (.int .i64 xn) := HW.cell (cs := #[.int .i64 xn]) (t := 3) (by simp) 0
      have gn9 : W.cell? ⟨b9, 0, none⟩ = some (.int .i64 un) := HW.cell (cs := #[.int .i64 un]) (t := 3) (by simp) 0
      exact in1_any r o un.toNat xn.toNat x.data u.data _ _ _ _ ad1 ad2 xm xd um ud W (by rw [hN]; exact gn8) (by rw [hC]; exact gn9) g5 g6 r1 r2 wx wu (by omega) (by omega) ho (by omega) (by omega)
    have HCL := Lib.hid hcl
    clear hcl
    refine (made_any xr un xn (x.exp + u.exp) (Pl.inAt (xn).toNat (un).toNat x.data u.data) 30 _ _ (fun _ _ => by kernel_rfl) HCL.out).mono ?_
    intro e w5 hm5
    have HS := Lib.hid hm5.sums
    have HE5 := Lib.hid (HD.out.next hm5.1)
    have HZ := Lib.hid (show w.heap.size + 1 + 1 < (wc.drewN nq).heap.size from HD.out.lt (o := (.cells #[.slice none 0 0, .int .i64 0, .slice none 0 0] 31)) (by simp))
    have HFE := Lib.hid (show Pl.dinErr x u = Pl.madeErr xr un xn (x.exp + u.exp) by
      unfold Pl.dinErr
      rw [if_neg (by rw [HME.out]; simp), ← HXR.out, ← HXN.out, ← HUR.out, ← HUN.out, if_neg (by rw [HQ1.out]; simp)])
    have HFS := Lib.hid (show Pl.dinSums x u = ⟨[xr, un], x.exp + u.exp, Pl.madeTo un.toNat (xr.toNat * un.toNat) (Pl.inAt (xn).toNat (un).toNat x.data u.data)⟩ by
      unfold Pl.dinSums
      rw [← HXR.out, ← HXN.out, ← HUN.out])
    have HBD := Lib.hid HD.out.bel
    clear cxs cus crs cx0 cx1 cx2 cu0 cu1 cu2 cr0 cr0f cr1 cr1f cr2 cr2f cn8s cn80 cn9s cn90 dx0 dx1 du0 du1 HCL HD HC
    have crs : w.heap.size + 1 + 1 < w5.heap.size := HE5.out.lt (o := .cells #[.slice none 0 0, .int .i64 0, .slice none 0 0] 31) (by simp)
    have cr0 : w5.cell? ⟨w.heap.size + 1 + 1, 0, none⟩ = some (.slice none 0 0) := HE5.out.cell (cs := #[.slice none 0 0, .int .i64 0, .slice none 0 0]) (t := 31) (by simp) 0
    have cr0f : w5.frozen? ⟨w.heap.size + 1 + 1, 0, none⟩ = false := HE5.out.frozen (cs := #[.slice none 0 0, .int .i64 0, .slice none 0 0]) (t := 31) (by simp) 0
    have cr1 : w5.cell? ⟨w.heap.size + 1 + 1, 1, none⟩ = some (.int .i64 0) := HE5.out.cell (cs := #[.slice none 0 0, .int .i64 0, .slice none 0 0]) (t := 31) (by simp) 1
    have cr1f : w5.frozen? ⟨w.heap.size + 1 + 1, 1, none⟩ = false := HE5.out.frozen (cs := #[.slice none 0 0, .int .i64 0, .slice none 0 0]) (t := 31) (by simp) 1
    have cr2 : w5.cell? ⟨w.heap.size + 1 + 1, 2, none⟩ = some (.slice none 0 0) := HE5.out.cell (cs := #[.slice none 0 0, .int .i64 0, .slice none 0 0]) (t := 31) (by simp) 2
    have cr2f : w5.frozen? ⟨w.heap.size + 1 + 1, 2, none⟩ = false := HE5.out.frozen (cs := #[.slice none 0 0, .int .i64 0, .slice none 0 0]) (t := 31) (by simp) 2
    rcases hm5.2 with ⟨_, rfl⟩ | ⟨_, a, g, d, _, _, rfl, _⟩
    · clear hm5
      go_wp2_with fail
      refine bodyPost_ret (v := .tuple #[.agg #[.slice none 0 0, .int .i64 0, .slice none 0 0], .int .i64 (Pl.madeErr xr un xn (x.exp + u.exp))]) (by simp [results, Try.results15, go_sem, cr0, cr1, cr2]) rfl ?_
      rw [HFE.out, HFS.out]
      exact HS.out.stored HBD.out (by omega) HZ.out _ _ _
    · clear hm5
      go_wp2_with fail
      refine bodyPost_ret (v := .tuple #[.agg #[.slice (some ⟨a, 0, none⟩) 2 2, .int .i64 (x.exp + u.exp), .slice (some ⟨g, 0, none⟩) (xr.toNat * un.toNat) d], .int .i64 0]) (by simp [results, Try.results15, go_sem, cr0, cr1, cr2]) rfl ?_
      rw [HFE.out, HFS.out]
      exact HS.out.stored HBD.out (by omega) HZ.out _ _ _

end Go.Proofs.Ytanjlcjpcenejaa
