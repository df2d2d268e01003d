/- Walk of the statement DenseExps. -/
import Derived.Test.YtanjlcjpcenejaaAwake
import Derived.Test.YtanjlcjpcenejaaFwdOk
import Derived.StillTailTactics
namespace Go.Proofs.Ytanjlcjpcenejaa
open Go.RowKit
attribute [local go_sem] drewN_alloc drewN_setCell

def Pl.withExp (t : Pl.Ten) (e : Int) : Pl.Ten := ⟨t.dims, e, t.data⟩
theorem tmod64 (x : Int) : -63 ≤ x.tmod 64 ∧ x.tmod 64 ≤ 63 := by
  rcases Int.le_total 0 x with h | h
  · rw [Int.tmod_eq_emod_of_nonneg h]; omega
  · have e : x.tmod 64 = -((-x).tmod 64) := by rw [Int.neg_tmod, Int.neg_neg]
    rw [e, Int.tmod_eq_emod_of_nonneg (by omega)]
    omega

set_option maxRecDepth 100000 in
set_option maxHeartbeats 1000000 in
theorem exps_walk (A0 A1 : Option Addr) (n0 c0 n1 c1 : Nat) (l0 l1 : List Int) (ki ex ew : Int) (w : World)
    (h0 : Reads w w.heap.size A0 n0 (l0.map (Value.int .i8))) (h1 : Reads w w.heap.size A1 n1 (l1.map (Value.int .i8)))
    (m0 : n0 ≤ maxLen) (m1 : n1 ≤ maxLen) (f0 : ∀ n ∈ l0, (Lit.int .i8 n).wf = true) (f1 : ∀ n ∈ l1, (Lit.int .i8 n).wf = true) :
    Calls Try.prog 5 #[.slice A0 n0 c0, .slice A1 n1 c1, .int .i64 ki, .int .i64 ex, .int .i64 ew] w fun e w' => e = .returned (.bool true) ∧ Below w.heap.size w w' := by
  have H0 := Lib.hid h0
  have H1 := Lib.hid h1
  have H2 := Lib.hid (show Reads w w.heap.size none 0 (([] : List Int).map (Value.int .i8)) from ⟨rfl, fun h => absurd h (by omega)⟩)
  have M0 := Lib.hid m0
  have M1 := Lib.hid m1
  have W0 := Lib.hid f0
  have W1 := Lib.hid f1
  clear h0 h1 m0 m1 f0 f1
  obtain ⟨k, k1, k2, ek⟩ := mod_arg ki 12 (by omega) (by omega)
  have EK := Lib.hid ek
  clear ek
  have k2' : k ≤ 12 := by omega
  have hex := tmod64 ex
  have hew := tmod64 ew
  have HF := Lib.hid (Fr.nil w)
  go_enter Try.func5, Try.ntmps5
  go_wp2_with fail
  rw [EK.out]
  refine (matrix_any A0 n0 c0 l0 1 k _ ((H0.out.below HF.out.bel).more HF.out.size) M0.out (by omega) (by omega)).mono ?_
  rintro e w1 ⟨a0, g0, rfl, ha0, hg0, hag0, hfr⟩
  have F1 := Lib.hid (HF.out.join hfr)
  clear hfr
  go_wp2_with fail
  refine (matrix_any A1 n1 c1 l1 1 k _ ((H1.out.below F1.out.bel).more F1.out.size) M1.out (by omega) (by omega)).mono ?_
  rintro e w2 ⟨a1, g1, rfl, ha1, hg1, hag1, hfr⟩
  have F2 := Lib.hid (F1.out.join hfr)
  clear hfr
  go_wp2_with fail
  refine (vector_any none 0 0 [] 1 _ ((H2.out.below F2.out.bel).more F2.out.size) (by decide) (by omega) (by omega)).mono ?_
  rintro e w3 ⟨a2, g2, rfl, ha2, hg2, hag2, hfr⟩
  have F3 := Lib.hid (F2.out.join hfr)
  clear hfr
  go_wp2_with fail
  have F4 := Lib.hid (F3.out.alloc3 (.cells #[.slice (some ⟨a0, 0, none⟩) (Pl.matrix l0 1 k).dims.length (Pl.matrix l0 1 k).dims.length, .int .i64 (Pl.matrix l0 1 k).exp, .slice (some ⟨g0, 0, none⟩) (Pl.matrix l0 1 k).data.length (Pl.matrix l0 1 k).data.length] 26) (.cells #[.slice (some ⟨a1, 0, none⟩) (Pl.matrix l1 1 k).dims.length (Pl.matrix l1 1 k).dims.length, .int .i64 (Pl.matrix l1 1 k).exp, .slice (some ⟨g1, 0, none⟩) (Pl.matrix l1 1 k).data.length (Pl.matrix l1 1 k).data.length] 26) (.cells #[.slice (some ⟨a2, 0, none⟩) (Pl.vector [] 1).dims.length (Pl.vector [] 1).dims.length, .int .i64 (Pl.vector [] 1).exp, .slice (some ⟨g2, 0, none⟩) (Pl.vector [] 1).data.length (Pl.vector [] 1).data.length] 26))
  have hz : (Pl.vector [] 1).data.getD 0 0 = 0 := by simp [Pl.vector, Pl.matData, Pl.matAt]
  obtain ⟨s, hs⟩ : ∃ s, s = Pl.sumTo (Pl.fwdG k (Pl.matrix l0 1 k).data (Pl.matrix l1 1 k).data 0 0) k := ⟨_, rfl⟩
  have HS1 := Lib.hid (show ∀ j, j < 1 → s = Pl.fwdAt k 0 (Pl.matrix l0 1 k).data (Pl.matrix l1 1 k).data (Pl.vector [] 1).data (Pl.vector [] 1).exp (j / 1) (j % 1) from fun j hj => by
    obtain rfl : j = 0 := by omega
    unfold Pl.fwdAt
    rw [show 0 % 1 = 0 from rfl, hz, Pl.align_zero, Int.zero_add]
    exact hs)
  have HS2 := Lib.hid (show ∀ j, j < 1 → s = Pl.fwdAt k (ex.tmod 64 + ew.tmod 64) (Pl.matrix l0 1 k).data (Pl.matrix l1 1 k).data (Pl.vector [] 1).data (Pl.vector [] 1).exp (j / 1) (j % 1) from fun j hj => by
    obtain rfl : j = 0 := by omega
    unfold Pl.fwdAt
    rw [show 0 % 1 = 0 from rfl, hz, Pl.align_zero, Int.zero_add]
    exact hs)
  clear hs hz
  refine (forward_ok (ownTV a0 g0 (Pl.matrix l0 1 k)) (ownTV a1 g1 (Pl.matrix l1 1 k)) (ownTV a2 g2 (Pl.vector [] 1)) (Pl.matrix l0 1 k) (Pl.matrix l1 1 k) (Pl.vector [] 1) 1 k 1 1 (fun _ => s) _
    (F4.out.ten (by simp) (by simp) (show 2 ≤ 100 by omega) (by rw [Pl.matrix_dl]; omega)) (F4.out.ten (by simp) (by simp) (show 2 ≤ 100 by omega) (by rw [Pl.matrix_dl]; omega)) (F4.out.ten (by simp) (by simp) (show 1 ≤ 100 by omega) (by rw [Pl.vector_dl]; omega))
    (Pl.matrix_all8 l0 1 k W0.out) (Pl.matrix_all8 l1 1 k W1.out) (Pl.vector_all8 [] 1 (by simp)) rfl rfl rfl (Pl.matrix_may l0 1 k W0.out (by omega) (by omega) (by omega) 0 (by omega)) (Pl.matrix_may l1 1 k W1.out (by omega) (by omega) (by omega) 0 (by omega)) (Pl.vector_may [] 1 (by simp) (by omega)) (by omega) (by omega) (by omega) (by omega) rfl 0 rfl HS1.out).mono ?_
  rintro e w5 ⟨hb5, a5, g5, c5, d5, hg5, rfl, hr5⟩
  have F5 := Lib.hid (F4.out.next hb5)
  have R5 := Lib.hid hr5
  clear hb5 hr5
  have cps : w3.heap.size < w5.heap.size := F5.out.lt (o := .cells #[.slice (some ⟨a0, 0, none⟩) (Pl.matrix l0 1 k).dims.length (Pl.matrix l0 1 k).dims.length, .int .i64 (Pl.matrix l0 1 k).exp, .slice (some ⟨g0, 0, none⟩) (Pl.matrix l0 1 k).data.length (Pl.matrix l0 1 k).data.length] 26) (by simp)
  have cp0 : w5.cell? ⟨w3.heap.size, 0, none⟩ = some (.slice (some ⟨a0, 0, none⟩) (Pl.matrix l0 1 k).dims.length (Pl.matrix l0 1 k).dims.length) := F5.out.cell (cs := #[.slice (some ⟨a0, 0, none⟩) (Pl.matrix l0 1 k).dims.length (Pl.matrix l0 1 k).dims.length, .int .i64 (Pl.matrix l0 1 k).exp, .slice (some ⟨g0, 0, none⟩) (Pl.matrix l0 1 k).data.length (Pl.matrix l0 1 k).data.length]) (t := 26) (by simp) 0
  have cp0f : w5.frozen? ⟨w3.heap.size, 0, none⟩ = false := F5.out.frozen (cs := #[.slice (some ⟨a0, 0, none⟩) (Pl.matrix l0 1 k).dims.length (Pl.matrix l0 1 k).dims.length, .int .i64 (Pl.matrix l0 1 k).exp, .slice (some ⟨g0, 0, none⟩) (Pl.matrix l0 1 k).data.length (Pl.matrix l0 1 k).data.length]) (t := 26) (by simp) 0
  have cp1 : w5.cell? ⟨w3.heap.size, 1, none⟩ = some (.int .i64 (Pl.matrix l0 1 k).exp) := F5.out.cell (cs := #[.slice (some ⟨a0, 0, none⟩) (Pl.matrix l0 1 k).dims.length (Pl.matrix l0 1 k).dims.length, .int .i64 (Pl.matrix l0 1 k).exp, .slice (some ⟨g0, 0, none⟩) (Pl.matrix l0 1 k).data.length (Pl.matrix l0 1 k).data.length]) (t := 26) (by simp) 1
  have cp1f : w5.frozen? ⟨w3.heap.size, 1, none⟩ = false := F5.out.frozen (cs := #[.slice (some ⟨a0, 0, none⟩) (Pl.matrix l0 1 k).dims.length (Pl.matrix l0 1 k).dims.length, .int .i64 (Pl.matrix l0 1 k).exp, .slice (some ⟨g0, 0, none⟩) (Pl.matrix l0 1 k).data.length (Pl.matrix l0 1 k).data.length]) (t := 26) (by simp) 1
  have cp2 : w5.cell? ⟨w3.heap.size, 2, none⟩ = some (.slice (some ⟨g0, 0, none⟩) (Pl.matrix l0 1 k).data.length (Pl.matrix l0 1 k).data.length) := F5.out.cell (cs := #[.slice (some ⟨a0, 0, none⟩) (Pl.matrix l0 1 k).dims.length (Pl.matrix l0 1 k).dims.length, .int .i64 (Pl.matrix l0 1 k).exp, .slice (some ⟨g0, 0, none⟩) (Pl.matrix l0 1 k).data.length (Pl.matrix l0 1 k).data.length]) (t := 26) (by simp) 2
  have cp2f : w5.frozen? ⟨w3.heap.size, 2, none⟩ = false := F5.out.frozen (cs := #[.slice (some ⟨a0, 0, none⟩) (Pl.matrix l0 1 k).dims.length (Pl.matrix l0 1 k).dims.length, .int .i64 (Pl.matrix l0 1 k).exp, .slice (some ⟨g0, 0, none⟩) (Pl.matrix l0 1 k).data.length (Pl.matrix l0 1 k).data.length]) (t := 26) (by simp) 2
  have cvs : w3.heap.size + 1 < w5.heap.size := F5.out.lt (o := .cells #[.slice (some ⟨a1, 0, none⟩) (Pl.matrix l1 1 k).dims.length (Pl.matrix l1 1 k).dims.length, .int .i64 (Pl.matrix l1 1 k).exp, .slice (some ⟨g1, 0, none⟩) (Pl.matrix l1 1 k).data.length (Pl.matrix l1 1 k).data.length] 26) (by simp)
  have cv0 : w5.cell? ⟨w3.heap.size + 1, 0, none⟩ = some (.slice (some ⟨a1, 0, none⟩) (Pl.matrix l1 1 k).dims.length (Pl.matrix l1 1 k).dims.length) := F5.out.cell (cs := #[.slice (some ⟨a1, 0, none⟩) (Pl.matrix l1 1 k).dims.length (Pl.matrix l1 1 k).dims.length, .int .i64 (Pl.matrix l1 1 k).exp, .slice (some ⟨g1, 0, none⟩) (Pl.matrix l1 1 k).data.length (Pl.matrix l1 1 k).data.length]) (t := 26) (by simp) 0
  have cv0f : w5.frozen? ⟨w3.heap.size + 1, 0, none⟩ = false := F5.out.frozen (cs := #[.slice (some ⟨a1, 0, none⟩) (Pl.matrix l1 1 k).dims.length (Pl.matrix l1 1 k).dims.length, .int .i64 (Pl.matrix l1 1 k).exp, .slice (some ⟨g1, 0, none⟩) (Pl.matrix l1 1 k).data.length (Pl.matrix l1 1 k).data.length]) (t := 26) (by simp) 0
  have cv1 : w5.cell? ⟨w3.heap.size + 1, 1, none⟩ = some (.int .i64 (Pl.matrix l1 1 k).exp) := F5.out.cell (cs := #[.slice (some ⟨a1, 0, none⟩) (Pl.matrix l1 1 k).dims.length (Pl.matrix l1 1 k).dims.length, .int .i64 (Pl.matrix l1 1 k).exp, .slice (some ⟨g1, 0, none⟩) (Pl.matrix l1 1 k).data.length (Pl.matrix l1 1 k).data.length]) (t := 26) (by simp) 1
  have cv1f : w5.frozen? ⟨w3.heap.size + 1, 1, none⟩ = false := F5.out.frozen (cs := #[.slice (some ⟨a1, 0, none⟩) (Pl.matrix l1 1 k).dims.length (Pl.matrix l1 1 k).dims.length, .int .i64 (Pl.matrix l1 1 k).exp, .slice (some ⟨g1, 0, none⟩) (Pl.matrix l1 1 k).data.length (Pl.matrix l1 1 k).data.length]) (t := 26) (by simp) 1
  have cv2 : w5.cell? ⟨w3.heap.size + 1, 2, none⟩ = some (.slice (some ⟨g1, 0, none⟩) (Pl.matrix l1 1 k).data.length (Pl.matrix l1 1 k).data.length) := F5.out.cell (cs := #[.slice (some ⟨a1, 0, none⟩) (Pl.matrix l1 1 k).dims.length (Pl.matrix l1 1 k).dims.length, .int .i64 (Pl.matrix l1 1 k).exp, .slice (some ⟨g1, 0, none⟩) (Pl.matrix l1 1 k).data.length (Pl.matrix l1 1 k).data.length]) (t := 26) (by simp) 2
  have cv2f : w5.frozen? ⟨w3.heap.size + 1, 2, none⟩ = false := F5.out.frozen (cs := #[.slice (some ⟨a1, 0, none⟩) (Pl.matrix l1 1 k).dims.length (Pl.matrix l1 1 k).dims.length, .int .i64 (Pl.matrix l1 1 k).exp, .slice (some ⟨g1, 0, none⟩) (Pl.matrix l1 1 k).data.length (Pl.matrix l1 1 k).data.length]) (t := 26) (by simp) 2
  have czs : w3.heap.size + 1 + 1 < w5.heap.size := F5.out.lt (o := .cells #[.slice (some ⟨a2, 0, none⟩) (Pl.vector [] 1).dims.length (Pl.vector [] 1).dims.length, .int .i64 (Pl.vector [] 1).exp, .slice (some ⟨g2, 0, none⟩) (Pl.vector [] 1).data.length (Pl.vector [] 1).data.length] 26) (by simp)
  have cz0 : w5.cell? ⟨w3.heap.size + 1 + 1, 0, none⟩ = some (.slice (some ⟨a2, 0, none⟩) (Pl.vector [] 1).dims.length (Pl.vector [] 1).dims.length) := F5.out.cell (cs := #[.slice (some ⟨a2, 0, none⟩) (Pl.vector [] 1).dims.length (Pl.vector [] 1).dims.length, .int .i64 (Pl.vector [] 1).exp, .slice (some ⟨g2, 0, none⟩) (Pl.vector [] 1).data.length (Pl.vector [] 1).data.length]) (t := 26) (by simp) 0
  have cz1 : w5.cell? ⟨w3.heap.size + 1 + 1, 1, none⟩ = some (.int .i64 (Pl.vector [] 1).exp) := F5.out.cell (cs := #[.slice (some ⟨a2, 0, none⟩) (Pl.vector [] 1).dims.length (Pl.vector [] 1).dims.length, .int .i64 (Pl.vector [] 1).exp, .slice (some ⟨g2, 0, none⟩) (Pl.vector [] 1).data.length (Pl.vector [] 1).data.length]) (t := 26) (by simp) 1
  have cz2 : w5.cell? ⟨w3.heap.size + 1 + 1, 2, none⟩ = some (.slice (some ⟨g2, 0, none⟩) (Pl.vector [] 1).data.length (Pl.vector [] 1).data.length) := F5.out.cell (cs := #[.slice (some ⟨a2, 0, none⟩) (Pl.vector [] 1).dims.length (Pl.vector [] 1).dims.length, .int .i64 (Pl.vector [] 1).exp, .slice (some ⟨g2, 0, none⟩) (Pl.vector [] 1).data.length (Pl.vector [] 1).data.length]) (t := 26) (by simp) 2
  have s1 := F3.out.lt (g := a0) (o := dimsObj (Pl.matrix l0 1 k)) (by simp)
  have s2 := F3.out.lt (g := g0) (o := dataObj (Pl.matrix l0 1 k)) (by simp)
  have s3 := F3.out.lt (g := a1) (o := dimsObj (Pl.matrix l1 1 k)) (by simp)
  have s4 := F3.out.lt (g := g1) (o := dataObj (Pl.matrix l1 1 k)) (by simp)
  have s5 := F3.out.lt (g := a2) (o := dimsObj (Pl.vector [] 1)) (by simp)
  have s6 := F3.out.lt (g := g2) (o := dataObj (Pl.vector [] 1)) (by simp)
  have F6 := Lib.hid ((((F5.out.less (l' := [(w3.heap.size, (.cells #[.slice (some ⟨a0, 0, none⟩) (Pl.matrix l0 1 k).dims.length (Pl.matrix l0 1 k).dims.length, .int .i64 (Pl.matrix l0 1 k).exp, .slice (some ⟨g0, 0, none⟩) (Pl.matrix l0 1 k).data.length (Pl.matrix l0 1 k).data.length] 26)), (w3.heap.size + 1, (.cells #[.slice (some ⟨a1, 0, none⟩) (Pl.matrix l1 1 k).dims.length (Pl.matrix l1 1 k).dims.length, .int .i64 (Pl.matrix l1 1 k).exp, .slice (some ⟨g1, 0, none⟩) (Pl.matrix l1 1 k).data.length (Pl.matrix l1 1 k).data.length] 26)), (w3.heap.size + 1 + 1, (.cells #[.slice (some ⟨a2, 0, none⟩) (Pl.vector [] 1).dims.length (Pl.vector [] 1).dims.length, .int .i64 (Pl.vector [] 1).exp, .slice (some ⟨g2, 0, none⟩) (Pl.vector [] 1).data.length (Pl.vector [] 1).data.length] 26)), (a0, dimsObj (Pl.matrix l0 1 k)), (g0, dataObj (Pl.matrix l0 1 k)), (a1, dimsObj (Pl.matrix l1 1 k)), (g1, dataObj (Pl.matrix l1 1 k)), (a2, dimsObj (Pl.vector [] 1)), (g2, dataObj (Pl.vector [] 1))]) (by simp)).set (by simp; omega) (by have := F3.out.size; omega) 1 (.int .i64 (ex.tmod 64))).less (l' := [(w3.heap.size + 1, (.cells #[.slice (some ⟨a1, 0, none⟩) (Pl.matrix l1 1 k).dims.length (Pl.matrix l1 1 k).dims.length, .int .i64 (Pl.matrix l1 1 k).exp, .slice (some ⟨g1, 0, none⟩) (Pl.matrix l1 1 k).data.length (Pl.matrix l1 1 k).data.length] 26)), (w3.heap.size, (.cells #[.slice (some ⟨a0, 0, none⟩) (Pl.matrix l0 1 k).dims.length (Pl.matrix l0 1 k).dims.length, .int .i64 (ex.tmod 64), .slice (some ⟨g0, 0, none⟩) (Pl.matrix l0 1 k).data.length (Pl.matrix l0 1 k).data.length] 26)), (w3.heap.size + 1 + 1, (.cells #[.slice (some ⟨a2, 0, none⟩) (Pl.vector [] 1).dims.length (Pl.vector [] 1).dims.length, .int .i64 (Pl.vector [] 1).exp, .slice (some ⟨g2, 0, none⟩) (Pl.vector [] 1).data.length (Pl.vector [] 1).data.length] 26)), (a0, dimsObj (Pl.matrix l0 1 k)), (g0, dataObj (Pl.matrix l0 1 k)), (a1, dimsObj (Pl.matrix l1 1 k)), (g1, dataObj (Pl.matrix l1 1 k)), (a2, dimsObj (Pl.vector [] 1)), (g2, dataObj (Pl.vector [] 1))]) (by simp)).set (by simp; omega) (by have := F3.out.size; omega) 1 (.int .i64 (ew.tmod 64)))
  have F7 := Lib.hid (show Fr w _ [(w5.heap.size, (.cells #[.slice (some ⟨a5, 0, none⟩) 2 c5, .int .i64 0, .slice (some ⟨g5, 0, none⟩) 1 d5] 31)), (w3.heap.size + 1, (.cells #[.slice (some ⟨a1, 0, none⟩) (Pl.matrix l1 1 k).dims.length (Pl.matrix l1 1 k).dims.length, .int .i64 (ew.tmod 64), .slice (some ⟨g1, 0, none⟩) (Pl.matrix l1 1 k).data.length (Pl.matrix l1 1 k).data.length] 26)), (w3.heap.size, (.cells #[.slice (some ⟨a0, 0, none⟩) (Pl.matrix l0 1 k).dims.length (Pl.matrix l0 1 k).dims.length, .int .i64 (ex.tmod 64), .slice (some ⟨g0, 0, none⟩) (Pl.matrix l0 1 k).data.length (Pl.matrix l0 1 k).data.length] 26)), (w3.heap.size + 1 + 1, (.cells #[.slice (some ⟨a2, 0, none⟩) (Pl.vector [] 1).dims.length (Pl.vector [] 1).dims.length, .int .i64 (Pl.vector [] 1).exp, .slice (some ⟨g2, 0, none⟩) (Pl.vector [] 1).data.length (Pl.vector [] 1).data.length] 26)), (a0, dimsObj (Pl.matrix l0 1 k)), (g0, dataObj (Pl.matrix l0 1 k)), (a1, dimsObj (Pl.matrix l1 1 k)), (g1, dataObj (Pl.matrix l1 1 k)), (a2, dimsObj (Pl.vector [] 1)), (g2, dataObj (Pl.vector [] 1))] from by simpa [World.setCell] using F6.out.alloc (.cells #[.slice (some ⟨a5, 0, none⟩) 2 c5, .int .i64 0, .slice (some ⟨g5, 0, none⟩) 1 d5] 31))
  go_wp2_with fail
  refine (forward_ok (ownTV a0 g0 (Pl.withExp (Pl.matrix l0 1 k) (ex.tmod 64))) (ownTV a1 g1 (Pl.withExp (Pl.matrix l1 1 k) (ew.tmod 64))) (ownTV a2 g2 (Pl.vector [] 1)) (Pl.withExp (Pl.matrix l0 1 k) (ex.tmod 64)) (Pl.withExp (Pl.matrix l1 1 k) (ew.tmod 64)) (Pl.vector [] 1) 1 k 1 1 (fun _ => s) _
    (F7.out.ten (show (a0, dimsObj (Pl.matrix l0 1 k)) ∈ _ by simp) (show (g0, dataObj (Pl.matrix l0 1 k)) ∈ _ by simp) (show 2 ≤ 100 by omega) (show (Pl.matrix l0 1 k).data.length ≤ 100000 by rw [Pl.matrix_dl]; omega)) (F7.out.ten (show (a1, dimsObj (Pl.matrix l1 1 k)) ∈ _ by simp) (show (g1, dataObj (Pl.matrix l1 1 k)) ∈ _ by simp) (show 2 ≤ 100 by omega) (show (Pl.matrix l1 1 k).data.length ≤ 100000 by rw [Pl.matrix_dl]; omega)) (F7.out.ten (by simp) (by simp) (show 1 ≤ 100 by omega) (by rw [Pl.vector_dl]; omega))
    (Pl.matrix_all8 l0 1 k W0.out) (Pl.matrix_all8 l1 1 k W1.out) (Pl.vector_all8 [] 1 (by simp)) rfl rfl rfl (Pl.matrix_may l0 1 k W0.out (by omega) (by omega) (by omega) _ (by omega)) (Pl.matrix_may l1 1 k W1.out (by omega) (by omega) (by omega) _ (by omega)) (Pl.vector_may [] 1 (by simp) (by omega)) (by omega) (by omega) (by omega) (by omega) rfl (ex.tmod 64 + ew.tmod 64) rfl HS2.out).mono ?_
  rintro e w8 ⟨hb8, a8, g8, c8, d8, hg8, rfl, hr8⟩
  have F8 := Lib.hid (F7.out.next hb8)
  have R8 := Lib.hid hr8
  have hg5' : w3.heap.size + 1 + 1 + 1 ≤ g5 := by simpa using hg5
  have hg8' : w5.heap.size + 1 ≤ g8 := by simpa [World.setCell] using hg8
  have R5' := Lib.hid ((((R5.out.setOther (p := ⟨w3.heap.size, 1, none⟩) (by simp; omega) (.int .i64 (ex.tmod 64))).setOther (p := ⟨w3.heap.size + 1, 1, none⟩) (by simp; omega) (.int .i64 (ew.tmod 64))).alloc (by simp [World.setCell]) (.cells #[.slice (some ⟨a5, 0, none⟩) 2 c5, .int .i64 0, .slice (some ⟨g5, 0, none⟩) 1 d5] 31)).below (hb8.mono (by simp)))
  clear hb8 hr8 hg5 hg8
  obtain ⟨_, e5, _, q5⟩ := R5'.out.2 (by omega)
  injection e5 with e5
  subst e5
  have v5 : w8.cell? ⟨g5, 0, none⟩ = some (.int .i32 s) := q5 0 _ rfl
  obtain ⟨_, e8, b8, q8⟩ := R8.out.2 (by omega)
  injection e8 with e8
  subst e8
  have v8 : w8.cell? ⟨g8, 0, none⟩ = some (.int .i32 s) := q8 0 _ rfl
  clear q5 q8
  have l5 := World.block_lt_of_cell? w8 _ v5
  go_wp2_with fail
  obtain ⟨w9, hw9⟩ : ∃ w9, w9 = w8.alloc (.cells #[.slice (some ⟨a8, 0, none⟩) 2 c8, .int .i64 (ex.tmod 64 + ew.tmod 64), .slice (some ⟨g8, 0, none⟩) 1 d8] 31) := ⟨_, rfl⟩
  rw [← hw9]
  have F9 := Lib.hid (show Fr w w9 _ from by rw [hw9]; exact F8.out.alloc (.cells #[.slice (some ⟨a8, 0, none⟩) 2 c8, .int .i64 (ex.tmod 64 + ew.tmod 64), .slice (some ⟨g8, 0, none⟩) 1 d8] 31))
  have x5 : w9.cell? ⟨g5, 0, none⟩ = some (.int .i32 s) := by rw [hw9, World.cell?_alloc_past _ _ _ l5]; exact v5
  have x8 : w9.cell? ⟨g8, 0, none⟩ = some (.int .i32 s) := by rw [hw9, World.cell?_alloc_past _ _ _ b8]; exact v8
  clear hw9 v5 v8
  have crs : w5.heap.size < w9.heap.size := F9.out.lt (o := .cells #[.slice (some ⟨a5, 0, none⟩) 2 c5, .int .i64 0, .slice (some ⟨g5, 0, none⟩) 1 d5] 31) (by simp)
  have cr0 : w9.cell? ⟨w5.heap.size, 0, none⟩ = some (.slice (some ⟨a5, 0, none⟩) 2 c5) := F9.out.cell (cs := #[.slice (some ⟨a5, 0, none⟩) 2 c5, .int .i64 0, .slice (some ⟨g5, 0, none⟩) 1 d5]) (t := 31) (by simp) 0
  have cr1 : w9.cell? ⟨w5.heap.size, 1, none⟩ = some (.int .i64 0) := F9.out.cell (cs := #[.slice (some ⟨a5, 0, none⟩) 2 c5, .int .i64 0, .slice (some ⟨g5, 0, none⟩) 1 d5]) (t := 31) (by simp) 1
  have cr2 : w9.cell? ⟨w5.heap.size, 2, none⟩ = some (.slice (some ⟨g5, 0, none⟩) 1 d5) := F9.out.cell (cs := #[.slice (some ⟨a5, 0, none⟩) 2 c5, .int .i64 0, .slice (some ⟨g5, 0, none⟩) 1 d5]) (t := 31) (by simp) 2
  have cqs : w8.heap.size < w9.heap.size := F9.out.lt (o := .cells #[.slice (some ⟨a8, 0, none⟩) 2 c8, .int .i64 (ex.tmod 64 + ew.tmod 64), .slice (some ⟨g8, 0, none⟩) 1 d8] 31) (by simp)
  have cq0 : w9.cell? ⟨w8.heap.size, 0, none⟩ = some (.slice (some ⟨a8, 0, none⟩) 2 c8) := F9.out.cell (cs := #[.slice (some ⟨a8, 0, none⟩) 2 c8, .int .i64 (ex.tmod 64 + ew.tmod 64), .slice (some ⟨g8, 0, none⟩) 1 d8]) (t := 31) (by simp) 0
  have cq1 : w9.cell? ⟨w8.heap.size, 1, none⟩ = some (.int .i64 (ex.tmod 64 + ew.tmod 64)) := F9.out.cell (cs := #[.slice (some ⟨a8, 0, none⟩) 2 c8, .int .i64 (ex.tmod 64 + ew.tmod 64), .slice (some ⟨g8, 0, none⟩) 1 d8]) (t := 31) (by simp) 1
  have cq2 : w9.cell? ⟨w8.heap.size, 2, none⟩ = some (.slice (some ⟨g8, 0, none⟩) 1 d8) := F9.out.cell (cs := #[.slice (some ⟨a8, 0, none⟩) 2 c8, .int .i64 (ex.tmod 64 + ew.tmod 64), .slice (some ⟨g8, 0, none⟩) 1 d8]) (t := 31) (by simp) 2
  have hwr : IntKind.i64.wrap (ex.tmod 64 + ew.tmod 64) = ex.tmod 64 + ew.tmod 64 := IntWalk.i64_in _ (by omega)
  go_still_tail 45, (by kernel_rfl)
  clear hwr
  have HB := Lib.hid F9.out.bel
  change wpList _ _ _ _ _ w9.drew
  go_wp2_with (go_at_call 13; refine (awake_any _).mono ?_; rintro e w10 ⟨rfl, hb10⟩)
  go_ret
  exact ⟨rfl, HB.out.drew.trans (hb10.mono HB.out.size)⟩

end Go.Proofs.Ytanjlcjpcenejaa
