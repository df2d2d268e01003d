/- Walk of the statement DenseBounds. -/
import Derived.Test.YtanjlcjpcenejaaAwake
import Derived.Test.YtanjlcjpcenejaaLawKit
import Derived.StillTailTactics
namespace Go.Proofs.Ytanjlcjpcenejaa
open Go.RowKit
attribute [local go_sem] drewN_alloc drewN_setCell

theorem Pl.rep_at (x : Int) (k j : Nat) (h : j < k) (hx : x ≠ -128) : Pl.matAt (List.replicate k x) j = x := by
  unfold Pl.matAt
  simp [h, hx]

set_option maxRecDepth 100000 in
set_option maxHeartbeats 1000000 in
theorem bounds_walk (x0 u0 ki bias ei : Int) (w : World) (hx0 : -128 ≤ x0 ∧ x0 ≤ 127) (hu0 : -128 ≤ u0 ∧ u0 ≤ 127) :
    Calls Try.prog 4 #[.int .i8 x0, .int .i8 u0, .int .i64 ki, .int .i64 bias, .int .i64 ei] w fun e w' => e = .returned (.bool true) ∧ Below w.heap.size w w' := by
  obtain ⟨x, hx⟩ : ∃ x, x = max x0 (-127) := ⟨_, rfl⟩
  obtain ⟨u, hu⟩ : ∃ u, u = max u0 (-127) := ⟨_, rfl⟩
  obtain ⟨k, k1, k2, ek⟩ : ∃ k : Nat, 940 ≤ k ∧ k < 1000 ∧ wrap64 (940 + wrap64 ((IntKind.u64.wrap ki).tmod 60)) = k := by
    obtain ⟨k0, h, e⟩ := mod_arg0 ki 60 (by omega) (by omega)
    rw [e, IntWalk.wrap64_in _ ⟨by omega, by omega⟩]
    exact ⟨940 + k0, by omega, by omega, by omega⟩
  obtain ⟨ex, e2, ee⟩ := mod_arg0 ei 60 (by omega) (by omega)
  have EK := Lib.hid ek
  have EE := Lib.hid ee
  have HX := Lib.hid hx
  have HU := Lib.hid hu
  have bx : -127 ≤ x ∧ x ≤ 127 := by omega
  have bu : -127 ≤ u ∧ u ≤ 127 := by omega
  clear ek ee hx hu
  go_enter Try.func4, Try.ntmps4
  go_upto_region 2 with fail
  go_cut [0, 1] (fun s0 s1 wr => s0 = .int .i8 x ∧ s1 = .int .i8 u ∧ w = wr)
  case first =>
    go_wp2_with fail
    all_goals
      go_meet
      exact ⟨congrArg (Value.int .i8) (by have := HX.out; omega), congrArg (Value.int .i8) (by have := HU.out; omega), rfl⟩
  case rest =>
    obtain ⟨rfl, rfl, rfl⟩ := hcut
    have hmk := fun W : World => make8 (List.replicate k x) k (k : Int) rfl (by omega) W
    have F0 := Lib.hid (((Fr.three w (.cells #[.int .i64 1, .int .i64 k] 3) (.cells (Pl.matTo (List.replicate k x) k 0) 37) (.cells #[.slice (some ⟨w.heap.size, 0, none⟩) 2 2, .int .i64 0, .slice (some ⟨w.heap.size + 1, 0, none⟩) k k] 26)).alloc3 (.cells #[.int .i64 1, .int .i64 k] 3) (.cells (Pl.matTo (List.replicate k x) k 0) 37) (.cells #[.slice (some ⟨w.heap.size + 1 + 1 + 1, 0, none⟩) 2 2, .int .i64 0, .slice (some ⟨w.heap.size + 1 + 1 + 1 + 1, 0, none⟩) k k] 26)))
    have F1 := Lib.hid (show Fr w _ [(w.heap.size + 1, .cells (Pl.matTo (List.replicate k x) k 0) 37), (w.heap.size + 1 + 1 + 1 + 1, .cells (Pl.matTo (List.replicate k u) k 0) 37), (w.heap.size, (.cells #[.int .i64 1, .int .i64 k] 3)), (w.heap.size + 1 + 1, (.cells #[.slice (some ⟨w.heap.size, 0, none⟩) 2 2, .int .i64 0, .slice (some ⟨w.heap.size + 1, 0, none⟩) k k] 26)), (w.heap.size + 1 + 1 + 1, (.cells #[.int .i64 1, .int .i64 k] 3)), (w.heap.size + 1 + 1 + 1 + 1 + 1, (.cells #[.slice (some ⟨w.heap.size + 1 + 1 + 1, 0, none⟩) 2 2, .int .i64 0, .slice (some ⟨w.heap.size + 1 + 1 + 1 + 1, 0, none⟩) k k] 26))] from by
      have h := F0.out
      have e : Pl.matTo (List.replicate k u) k 0 = Pl.matTo (List.replicate k x) k 0 := by rw [Pl.matTo_zero, Pl.matTo_zero]
      rw [e]
      exact h.less (by simp))
    clear F0
    go_upto_region 4 with fail
    rw [EK.out, EE.out]
    go_wp2_with fail
    clear hmk
    go_loopw [40] (fun i wr => ∃ j : Nat, j ≤ k ∧ i = .int .i64 j ∧ Fr w wr [(w.heap.size + 1, .cells (Pl.matTo (List.replicate k x) k j) 37), (w.heap.size + 1 + 1 + 1 + 1, .cells (Pl.matTo (List.replicate k u) k j) 37), (w.heap.size, (.cells #[.int .i64 1, .int .i64 k] 3)), (w.heap.size + 1 + 1, (.cells #[.slice (some ⟨w.heap.size, 0, none⟩) 2 2, .int .i64 0, .slice (some ⟨w.heap.size + 1, 0, none⟩) k k] 26)), (w.heap.size + 1 + 1 + 1, (.cells #[.int .i64 1, .int .i64 k] 3)), (w.heap.size + 1 + 1 + 1 + 1 + 1, (.cells #[.slice (some ⟨w.heap.size + 1 + 1 + 1, 0, none⟩) 2 2, .int .i64 0, .slice (some ⟨w.heap.size + 1 + 1 + 1 + 1, 0, none⟩) k k] 26))]) (fun i _ => k - (intOf i).toNat)
    case atStart => exact ⟨0, Nat.zero_le _, rfl, F1.out⟩
    case round =>
      obtain ⟨j, hj, rfl, hfr⟩ := hrel
      have HG := Lib.hid hfr
      clear hfr F1
      by_cases hlt : j < k
      · 
        have cbs : w.heap.size + 1 + 1 < wr.heap.size := HG.out.lt (o := .cells #[.slice (some ⟨w.heap.size, 0, none⟩) 2 2, .int .i64 0, .slice (some ⟨w.heap.size + 1, 0, none⟩) k k] 26) (by simp)
        have cb0 : wr.cell? ⟨w.heap.size + 1 + 1, 0, none⟩ = some (.slice (some ⟨w.heap.size, 0, none⟩) 2 2) := HG.out.cell (cs := #[.slice (some ⟨w.heap.size, 0, none⟩) 2 2, .int .i64 0, .slice (some ⟨w.heap.size + 1, 0, none⟩) k k]) (t := 26) (by simp) 0
        have cb1 : wr.cell? ⟨w.heap.size + 1 + 1, 1, none⟩ = some (.int .i64 0) := HG.out.cell (cs := #[.slice (some ⟨w.heap.size, 0, none⟩) 2 2, .int .i64 0, .slice (some ⟨w.heap.size + 1, 0, none⟩) k k]) (t := 26) (by simp) 1
        have cb2 : wr.cell? ⟨w.heap.size + 1 + 1, 2, none⟩ = some (.slice (some ⟨w.heap.size + 1, 0, none⟩) k k) := HG.out.cell (cs := #[.slice (some ⟨w.heap.size, 0, none⟩) 2 2, .int .i64 0, .slice (some ⟨w.heap.size + 1, 0, none⟩) k k]) (t := 26) (by simp) 2
        have cds : w.heap.size + 1 + 1 + 1 + 1 + 1 < wr.heap.size := HG.out.lt (o := .cells #[.slice (some ⟨w.heap.size + 1 + 1 + 1, 0, none⟩) 2 2, .int .i64 0, .slice (some ⟨w.heap.size + 1 + 1 + 1 + 1, 0, none⟩) k k] 26) (by simp)
        have cd0 : wr.cell? ⟨w.heap.size + 1 + 1 + 1 + 1 + 1, 0, none⟩ = some (.slice (some ⟨w.heap.size + 1 + 1 + 1, 0, none⟩) 2 2) := HG.out.cell (cs := #[.slice (some ⟨w.heap.size + 1 + 1 + 1, 0, none⟩) 2 2, .int .i64 0, .slice (some ⟨w.heap.size + 1 + 1 + 1 + 1, 0, none⟩) k k]) (t := 26) (by simp) 0
        have cd1 : wr.cell? ⟨w.heap.size + 1 + 1 + 1 + 1 + 1, 1, none⟩ = some (.int .i64 0) := HG.out.cell (cs := #[.slice (some ⟨w.heap.size + 1 + 1 + 1, 0, none⟩) 2 2, .int .i64 0, .slice (some ⟨w.heap.size + 1 + 1 + 1 + 1, 0, none⟩) k k]) (t := 26) (by simp) 1
        have cd2 : wr.cell? ⟨w.heap.size + 1 + 1 + 1 + 1 + 1, 2, none⟩ = some (.slice (some ⟨w.heap.size + 1 + 1 + 1 + 1, 0, none⟩) k k) := HG.out.cell (cs := #[.slice (some ⟨w.heap.size + 1 + 1 + 1, 0, none⟩) 2 2, .int .i64 0, .slice (some ⟨w.heap.size + 1 + 1 + 1 + 1, 0, none⟩) k k]) (t := 26) (by simp) 2
        have d1 : wr.cell? ⟨w.heap.size + 1, j, none⟩ = some (.int .i8 0) := by
          rw [HG.out.cell (cs := Pl.matTo (List.replicate k x) k j) (t := 37) (by simp) j, Array.getElem?_eq_getElem (by rw [Pl.matTo_size]; exact hlt)]
          simp [Pl.matTo]
        have d1f : wr.frozen? ⟨w.heap.size + 1, j, none⟩ = false := HG.out.frozen (cs := Pl.matTo (List.replicate k x) k j) (t := 37) (by simp) j
        have d2 : wr.cell? ⟨w.heap.size + 1 + 1 + 1 + 1, j, none⟩ = some (.int .i8 0) := by
          rw [HG.out.cell (cs := Pl.matTo (List.replicate k u) k j) (t := 37) (by simp) j, Array.getElem?_eq_getElem (by rw [Pl.matTo_size]; exact hlt)]
          simp [Pl.matTo]
        have d2f : wr.frozen? ⟨w.heap.size + 1 + 1 + 1 + 1, j, none⟩ = false := HG.out.frozen (cs := Pl.matTo (List.replicate k u) k j) (t := 37) (by simp) j
        have hjj : (j : Int) < k := by omega
        have K1 := Lib.hid (show (Pl.matTo (List.replicate k x) k j).setIfInBounds j (.int .i8 x) = Pl.matTo (List.replicate k x) k (j + 1) by
          have h := Pl.matTo_set (List.replicate k x) k j hlt
          rwa [Pl.rep_at x k j hlt (by omega)] at h)
        have K2 := Lib.hid (show (Pl.matTo (List.replicate k u) k j).setIfInBounds j (.int .i8 u) = Pl.matTo (List.replicate k u) k (j + 1) by
          have h := Pl.matTo_set (List.replicate k u) k j hlt
          rwa [Pl.rep_at u k j hlt (by omega)] at h)
        have HS := Lib.hid (((HG.out.drew.set (by simp; omega) (by omega) j (.int .i8 x)).less (l' := [(w.heap.size + 1 + 1 + 1 + 1, .cells (Pl.matTo (List.replicate k u) k j) 37), (w.heap.size + 1, .cells ((Pl.matTo (List.replicate k x) k j).setIfInBounds j (.int .i8 x)) 37), (w.heap.size, (.cells #[.int .i64 1, .int .i64 k] 3)), (w.heap.size + 1 + 1, (.cells #[.slice (some ⟨w.heap.size, 0, none⟩) 2 2, .int .i64 0, .slice (some ⟨w.heap.size + 1, 0, none⟩) k k] 26)), (w.heap.size + 1 + 1 + 1, (.cells #[.int .i64 1, .int .i64 k] 3)), (w.heap.size + 1 + 1 + 1 + 1 + 1, (.cells #[.slice (some ⟨w.heap.size + 1 + 1 + 1, 0, none⟩) 2 2, .int .i64 0, .slice (some ⟨w.heap.size + 1 + 1 + 1 + 1, 0, none⟩) k k] 26))]) (by simp)).set (by simp; omega) (by omega) j (.int .i8 u))
        go_wp2_with fail
        go_region
        go_wp2_with fail
        go_roundw
        case rel => exact ⟨j + 1, by omega, by go_num, by
          have h := HS.out
          rw [K1.out, K2.out] at h
          exact (h.less (l' := [(w.heap.size + 1, .cells (Pl.matTo (List.replicate k x) k (j + 1)) 37), (w.heap.size + 1 + 1 + 1 + 1, .cells (Pl.matTo (List.replicate k u) k (j + 1)) 37), (w.heap.size, (.cells #[.int .i64 1, .int .i64 k] 3)), (w.heap.size + 1 + 1, (.cells #[.slice (some ⟨w.heap.size, 0, none⟩) 2 2, .int .i64 0, .slice (some ⟨w.heap.size + 1, 0, none⟩) k k] 26)), (w.heap.size + 1 + 1 + 1, (.cells #[.int .i64 1, .int .i64 k] 3)), (w.heap.size + 1 + 1 + 1 + 1 + 1, (.cells #[.slice (some ⟨w.heap.size + 1 + 1 + 1, 0, none⟩) 2 2, .int .i64 0, .slice (some ⟨w.heap.size + 1 + 1 + 1 + 1, 0, none⟩) k k] 26))]) (by simp)).drewN 0⟩
        case measure => simp [intOf]; omega
      · have hjk : j = k := by omega
        have hdP : dataObj (Pl.matrix (List.replicate k x) 1 k) = Obj.cells (Pl.matTo (List.replicate k x) k k) 37 := by unfold dataObj Pl.matrix; rw [Nat.one_mul, Pl.matTo_all]
        have hdV : dataObj (Pl.matrix (List.replicate k u) 1 k) = Obj.cells (Pl.matTo (List.replicate k u) k k) 37 := by unfold dataObj Pl.matrix; rw [Nat.one_mul, Pl.matTo_all]
        have F2 := Lib.hid (show Fr w wr [(w.heap.size + 1, dataObj (Pl.matrix (List.replicate k x) 1 k)), (w.heap.size + 1 + 1 + 1 + 1, dataObj (Pl.matrix (List.replicate k u) 1 k)), (w.heap.size, (.cells #[.int .i64 1, .int .i64 k] 3)), (w.heap.size + 1 + 1, (.cells #[.slice (some ⟨w.heap.size, 0, none⟩) 2 2, .int .i64 0, .slice (some ⟨w.heap.size + 1, 0, none⟩) k k] 26)), (w.heap.size + 1 + 1 + 1, (.cells #[.int .i64 1, .int .i64 k] 3)), (w.heap.size + 1 + 1 + 1 + 1 + 1, (.cells #[.slice (some ⟨w.heap.size + 1 + 1 + 1, 0, none⟩) 2 2, .int .i64 0, .slice (some ⟨w.heap.size + 1 + 1 + 1 + 1, 0, none⟩) k k] 26))] from by
          have h := HG.out
          rw [hjk] at h
          rw [hdP, hdV]
          exact h)
        clear hjk hdP hdV HG
        have cbs : w.heap.size + 1 + 1 < wr.heap.size := F2.out.lt (o := .cells #[.slice (some ⟨w.heap.size, 0, none⟩) 2 2, .int .i64 0, .slice (some ⟨w.heap.size + 1, 0, none⟩) k k] 26) (by simp)
        have cb0 : wr.cell? ⟨w.heap.size + 1 + 1, 0, none⟩ = some (.slice (some ⟨w.heap.size, 0, none⟩) 2 2) := F2.out.cell (cs := #[.slice (some ⟨w.heap.size, 0, none⟩) 2 2, .int .i64 0, .slice (some ⟨w.heap.size + 1, 0, none⟩) k k]) (t := 26) (by simp) 0
        have cb1 : wr.cell? ⟨w.heap.size + 1 + 1, 1, none⟩ = some (.int .i64 0) := F2.out.cell (cs := #[.slice (some ⟨w.heap.size, 0, none⟩) 2 2, .int .i64 0, .slice (some ⟨w.heap.size + 1, 0, none⟩) k k]) (t := 26) (by simp) 1
        have cb2 : wr.cell? ⟨w.heap.size + 1 + 1, 2, none⟩ = some (.slice (some ⟨w.heap.size + 1, 0, none⟩) k k) := F2.out.cell (cs := #[.slice (some ⟨w.heap.size, 0, none⟩) 2 2, .int .i64 0, .slice (some ⟨w.heap.size + 1, 0, none⟩) k k]) (t := 26) (by simp) 2
        have cds : w.heap.size + 1 + 1 + 1 + 1 + 1 < wr.heap.size := F2.out.lt (o := .cells #[.slice (some ⟨w.heap.size + 1 + 1 + 1, 0, none⟩) 2 2, .int .i64 0, .slice (some ⟨w.heap.size + 1 + 1 + 1 + 1, 0, none⟩) k k] 26) (by simp)
        have cd0 : wr.cell? ⟨w.heap.size + 1 + 1 + 1 + 1 + 1, 0, none⟩ = some (.slice (some ⟨w.heap.size + 1 + 1 + 1, 0, none⟩) 2 2) := F2.out.cell (cs := #[.slice (some ⟨w.heap.size + 1 + 1 + 1, 0, none⟩) 2 2, .int .i64 0, .slice (some ⟨w.heap.size + 1 + 1 + 1 + 1, 0, none⟩) k k]) (t := 26) (by simp) 0
        have cd1 : wr.cell? ⟨w.heap.size + 1 + 1 + 1 + 1 + 1, 1, none⟩ = some (.int .i64 0) := F2.out.cell (cs := #[.slice (some ⟨w.heap.size + 1 + 1 + 1, 0, none⟩) 2 2, .int .i64 0, .slice (some ⟨w.heap.size + 1 + 1 + 1 + 1, 0, none⟩) k k]) (t := 26) (by simp) 1
        have cd2 : wr.cell? ⟨w.heap.size + 1 + 1 + 1 + 1 + 1, 2, none⟩ = some (.slice (some ⟨w.heap.size + 1 + 1 + 1 + 1, 0, none⟩) k k) := F2.out.cell (cs := #[.slice (some ⟨w.heap.size + 1 + 1 + 1, 0, none⟩) 2 2, .int .i64 0, .slice (some ⟨w.heap.size + 1 + 1 + 1 + 1, 0, none⟩) k k]) (t := 26) (by simp) 2
        go_wp2_with fail
        have hbb := tmod_bd bias 128 (by omega)
        rw [wrap8_in (bias.tmod 128) (by omega) (by omega)]
        generalize bias.tmod 128 = bv at *
        have hwx : ∀ y ∈ List.replicate k x, (Lit.int .i8 y).wf = true := fun y hy => by rw [List.eq_of_mem_replicate hy]; exact WalkArith.wf_i8 (by omega)
        have hwu : ∀ y ∈ List.replicate k u, (Lit.int .i8 y).wf = true := fun y hy => by rw [List.eq_of_mem_replicate hy]; exact WalkArith.wf_i8 (by omega)
        have F3 := Lib.hid (F2.out.alloc2 (.cells #[.int .i64 1] 3) (.cells #[.int .i8 bv] 37))
        have hmB : Pl.mayT ⟨[1], ex, [bv]⟩ = true := Pl.may1 1 ex [bv] (by omega) (by omega) rfl (by rw [Pl.has_not]; simp; omega)
        by_cases hfit : k ≤ 959
        · obtain ⟨s, hs⟩ : ∃ s, s = Pl.fwdAt k 0 (Pl.matrix (List.replicate k x) 1 k).data (Pl.matrix (List.replicate k u) 1 k).data [bv] ex 0 0 := ⟨_, rfl⟩
          have hsb := Pl.fwdAt_bd k 0 (Pl.matrix (List.replicate k x) 1 k).data (Pl.matrix (List.replicate k u) 1 k).data [bv] ex 0 0 (Pl.matrix_all8 _ 1 k hwx) (Pl.matrix_all8 _ 1 k hwu) (by simp [Pl.All8]; omega) hfit
          rw [← hs] at hsb
          refine (forward_ok ⟨some ⟨w.heap.size, 0, none⟩, 2, 2, 0, some ⟨w.heap.size + 1, 0, none⟩, k, k⟩ ⟨some ⟨w.heap.size + 1 + 1 + 1, 0, none⟩, 2, 2, 0, some ⟨w.heap.size + 1 + 1 + 1 + 1, 0, none⟩, k, k⟩ ⟨some ⟨wr.heap.size, 0, none⟩, 1, 1, ex, some ⟨wr.heap.size + 1, 0, none⟩, 1, 1⟩ (Pl.matrix (List.replicate k x) 1 k) (Pl.matrix (List.replicate k u) 1 k) ⟨[1], ex, [bv]⟩ 1 k 1 1 (fun _ => s) _
            (TV.own_at F3.out (t := (Pl.matrix (List.replicate k x) 1 k)) (show (w.heap.size, dimsObj (Pl.matrix (List.replicate k x) 1 k)) ∈ _ by simp [dimsObj, Pl.matrix]) (by simp) rfl (by rw [Pl.matrix_dl, Nat.one_mul]) (by omega) (by omega)) (TV.own_at F3.out (t := (Pl.matrix (List.replicate k u) 1 k)) (show (w.heap.size + 1 + 1 + 1, dimsObj (Pl.matrix (List.replicate k u) 1 k)) ∈ _ by simp [dimsObj, Pl.matrix]) (by simp) rfl (by rw [Pl.matrix_dl, Nat.one_mul]) (by omega) (by omega)) (TV.own_at F3.out (t := ⟨[1], ex, [bv]⟩) (by simp [dimsObj]) (by simp [dataObj]) rfl rfl (by omega) (by omega))
            (Pl.matrix_all8 _ 1 k hwx) (Pl.matrix_all8 _ 1 k hwu) (by simp [Pl.All8]; omega) rfl rfl rfl (Pl.matrix_may _ 1 k hwx (by omega) (by omega) (by omega) 0 (by omega)) (Pl.matrix_may _ 1 k hwu (by omega) (by omega) (by omega) 0 (by omega)) hmB hfit (by omega) (by omega) (by omega) rfl 0 rfl (fun j hj => by
              obtain rfl : j = 0 := by omega
              exact hs)).mono ?_
          rintro e w5 ⟨hb5, a5, g5, c5, d5, hg5, rfl, hr5⟩
          have F5 := Lib.hid (F3.out.next hb5)
          obtain ⟨_, e5, l5, q5⟩ := hr5.2 (by omega)
          injection e5 with e5
          subst e5
          have v5 : w5.cell? ⟨g5, 0, none⟩ = some (.int .i32 s) := q5 0 _ rfl
          have HFT := Lib.hid (show Pl.fits k = true by unfold Pl.fits; simp; omega)
          clear q5 hr5 hb5 hs hwx hwu hmB
          have HB := Lib.hid F5.out.bel
          have hz := F5.out.size
          have hf1 : (k : Int) ≤ 959 := by omega
          go_wp2_with fail
          refine (fits_any _ _).mono ?_
          rintro e w6 ⟨rfl, rfl⟩
          rw [HFT.out]
          go_wp2_with (go_at_call 13; refine (awake_any _).mono ?_; rintro e w10 ⟨rfl, hb10⟩)
          go_ret
          exact ⟨rfl, (HB.out.alloc HB.out.size _).trans (hb10.mono (HB.out.alloc HB.out.size _).size)⟩
        · have HE := Lib.hid (Pl.fwdErr_big (Pl.matrix (List.replicate k x) 1 k) (Pl.matrix (List.replicate k u) 1 k) ⟨[1], ex, [bv]⟩ 1 k 1 rfl rfl rfl (Pl.matrix_may _ 1 k hwx (by omega) (by omega) (by omega) 0 (by omega)) (Pl.matrix_may _ 1 k hwu (by omega) (by omega) (by omega) 0 (by omega)) hmB (by omega))
          refine (forward_any ⟨some ⟨w.heap.size, 0, none⟩, 2, 2, 0, some ⟨w.heap.size + 1, 0, none⟩, k, k⟩ ⟨some ⟨w.heap.size + 1 + 1 + 1, 0, none⟩, 2, 2, 0, some ⟨w.heap.size + 1 + 1 + 1 + 1, 0, none⟩, k, k⟩ ⟨some ⟨wr.heap.size, 0, none⟩, 1, 1, ex, some ⟨wr.heap.size + 1, 0, none⟩, 1, 1⟩ (Pl.matrix (List.replicate k x) 1 k) (Pl.matrix (List.replicate k u) 1 k) ⟨[1], ex, [bv]⟩ _
            (TV.own_at F3.out (t := (Pl.matrix (List.replicate k x) 1 k)) (show (w.heap.size, dimsObj (Pl.matrix (List.replicate k x) 1 k)) ∈ _ by simp [dimsObj, Pl.matrix]) (by simp) rfl (by rw [Pl.matrix_dl, Nat.one_mul]) (by omega) (by omega)) (TV.own_at F3.out (t := (Pl.matrix (List.replicate k u) 1 k)) (show (w.heap.size + 1 + 1 + 1, dimsObj (Pl.matrix (List.replicate k u) 1 k)) ∈ _ by simp [dimsObj, Pl.matrix]) (by simp) rfl (by rw [Pl.matrix_dl, Nat.one_mul]) (by omega) (by omega)) (TV.own_at F3.out (t := ⟨[1], ex, [bv]⟩) (by simp [dimsObj]) (by simp [dataObj]) rfl rfl (by omega) (by omega))
            (Pl.matrix_all8 _ 1 k hwx) (Pl.matrix_all8 _ 1 k hwu) (by simp [Pl.All8]; omega)).mono ?_
          rintro e w5 ⟨hb5, hm5⟩
          rw [HE.out] at hm5
          rcases hm5 with ⟨_, rfl⟩ | ⟨h0, _⟩
          rotate_left
          · omega
          have F5 := Lib.hid (F3.out.next hb5)
          have HFT := Lib.hid (show Pl.fits k = false by unfold Pl.fits; simp; omega)
          clear hb5 hwx hwu hmB
          have HB := Lib.hid F5.out.bel
          have hz := F5.out.size
          have hf1 : (959 : Int) < k := by omega
          go_wp2_with fail
          refine (fits_any _ _).mono ?_
          rintro e w6 ⟨rfl, rfl⟩
          rw [HFT.out]
          go_wp2_with (go_at_call 13; refine (awake_any _).mono ?_; rintro e w10 ⟨rfl, hb10⟩)
          go_ret
          exact ⟨rfl, (HB.out.alloc HB.out.size _).trans (hb10.mono (HB.out.alloc HB.out.size _).size)⟩

end Go.Proofs.Ytanjlcjpcenejaa
