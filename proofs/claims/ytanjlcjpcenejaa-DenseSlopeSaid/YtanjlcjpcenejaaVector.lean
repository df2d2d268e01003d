/- Walks of the statements' own helpers: vector. -/
import Derived.Test.YtanjlcjpcenejaaMatrix
namespace Go.Proofs.Ytanjlcjpcenejaa
open Go.RowKit
attribute [local go_sem] drewN_alloc drewN_setCell

set_option maxRecDepth 100000 in
set_option maxHeartbeats 1000000 in
theorem vector_any (A : Option Addr) (m c : Nat) (l : List Int) (n : Nat) (w : World) (h : Reads w w.heap.size A m (l.map (Value.int .i8))) (hm : m ≤ maxLen) (hp : 0 < n) (hN : n ≤ 100000) :
    Calls Try.prog 11 #[.slice A m c, .int .i64 n] w (TenPost w (Pl.vector l n)) := by
  have HR := Lib.hid h
  have HM := Lib.hid hm
  clear h hm
  have HF := Lib.hid ((Fr.nil w).alloc (.cells #[.slice none 0 0, .int .i64 0, .slice none 0 0] 26))
  go_enter Try.func11, Try.ntmps11
  go_wp2_with fail
  refine (matrix_any A m c l 1 n _ ((HR.out.below HF.out.bel).more HF.out.size) HM.out (by omega) (by omega)).mono ?_
  rintro e w1 ⟨a, g, rfl, ha, hg, hag, hfr⟩
  have hdl : (Pl.matrix l 1 n).data.length = n := by simp [Pl.matrix, Pl.matData]
  have HG := Lib.hid (HF.out.join hfr)
  have ha' : w.heap.size + 1 ≤ a := by simpa using ha
  have hg' : w.heap.size + 1 ≤ g := by simpa using hg
  clear hfr HF ha hg
  rw [hdl]
  simp only [show (Pl.matrix l 1 n).dims.length = 2 from rfl, show (Pl.matrix l 1 n).exp = 0 from rfl]
  have HD := Lib.hid hdl
  clear hdl
  have crs : w.heap.size < w1.heap.size := HG.out.lt (o := .cells #[.slice none 0 0, .int .i64 0, .slice none 0 0] 26) (by simp)
  have cr0 : w1.cell? ⟨w.heap.size, 0, none⟩ = some (.slice none 0 0) := HG.out.cell (cs := #[.slice none 0 0, .int .i64 0, .slice none 0 0]) (t := 26) (by simp) 0
  have cr0f : w1.frozen? ⟨w.heap.size, 0, none⟩ = false := HG.out.frozen (cs := #[.slice none 0 0, .int .i64 0, .slice none 0 0]) (t := 26) (by simp) 0
  have cr1 : w1.cell? ⟨w.heap.size, 1, none⟩ = some (.int .i64 0) := HG.out.cell (cs := #[.slice none 0 0, .int .i64 0, .slice none 0 0]) (t := 26) (by simp) 1
  have cr1f : w1.frozen? ⟨w.heap.size, 1, none⟩ = false := HG.out.frozen (cs := #[.slice none 0 0, .int .i64 0, .slice none 0 0]) (t := 26) (by simp) 1
  have cr2 : w1.cell? ⟨w.heap.size, 2, none⟩ = some (.slice none 0 0) := HG.out.cell (cs := #[.slice none 0 0, .int .i64 0, .slice none 0 0]) (t := 26) (by simp) 2
  have cr2f : w1.frozen? ⟨w.heap.size, 2, none⟩ = false := HG.out.frozen (cs := #[.slice none 0 0, .int .i64 0, .slice none 0 0]) (t := 26) (by simp) 2
  go_wp2_with fail
  have hk := (((((HG.out.less (l' := [(w.heap.size, (.cells #[.slice none 0 0, .int .i64 0, .slice none 0 0] 26)), (g, dataObj (Pl.matrix l 1 n))]) (by simp)).set (by simp; omega) (Nat.le_refl _) 0 (.slice (some ⟨w1.heap.size + 1, 0, none⟩) 1 1)).set (by simp; omega) (Nat.le_refl _) 1 (.int .i64 0)).set (by simp; omega) (Nat.le_refl _) 2 (.slice (some ⟨g, 0, none⟩) n n)).alloc (.cells #[.slice (some ⟨w1.heap.size + 1, 0, none⟩) 1 1, .int .i64 0, .slice (some ⟨g, 0, none⟩) n n] 26)).alloc (.cells #[.int .i64 n] 3)
  have r0 := hk.cell (g := w.heap.size) (cs := #[.slice (some ⟨w1.heap.size + 1, 0, none⟩) 1 1, .int .i64 0, .slice (some ⟨g, 0, none⟩) n n]) (t := 26) (by simp) 0
  have r1 := hk.cell (g := w.heap.size) (cs := #[.slice (some ⟨w1.heap.size + 1, 0, none⟩) 1 1, .int .i64 0, .slice (some ⟨g, 0, none⟩) n n]) (t := 26) (by simp) 1
  have r2 := hk.cell (g := w.heap.size) (cs := #[.slice (some ⟨w1.heap.size + 1, 0, none⟩) 1 1, .int .i64 0, .slice (some ⟨g, 0, none⟩) n n]) (t := 26) (by simp) 2
  refine bodyPost_ret (v := .agg #[.slice (some ⟨w1.heap.size + 1, 0, none⟩) 1 1, .int .i64 0, .slice (some ⟨g, 0, none⟩) n n]) (by simp [results, Try.results11, go_sem, r0, r1, r2]) rfl ?_
  have hlen : (Pl.vector l n).data.length = n := by simp [Pl.vector, Pl.matData]
  refine ⟨w1.heap.size + 1, g, by rw [hlen]; rfl, by omega, by omega, by have := HG.out.lt (g := g) (o := dataObj (Pl.matrix l 1 n)) (by simp); omega, ?_⟩
  refine hk.less ?_
  simp [World.setCell, dimsObj, dataObj, Pl.vector, Pl.matrix]

end Go.Proofs.Ytanjlcjpcenejaa
