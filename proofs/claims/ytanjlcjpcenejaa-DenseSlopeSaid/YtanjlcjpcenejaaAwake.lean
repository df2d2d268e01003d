/- awake: a matrix that every program must know. -/
import Derived.Test.YtanjlcjpcenejaaDenseFwd
namespace Go.Proofs.Ytanjlcjpcenejaa
open Go.RowKit
attribute [local go_sem] drewN_alloc drewN_setCell
def aX : Pl.Ten := ⟨[1, 2], 0, [1, 2]⟩
def aW : Pl.Ten := ⟨[1, 2], 0, [3, 4]⟩
def aB : Pl.Ten := ⟨[1], 0, [5]⟩
theorem aErr : Pl.fwdErr aX aW aB = 0 := by decide
theorem aData : (Pl.fwdSums aX aW aB).data = [16] := by decide

set_option maxRecDepth 100000 in
set_option maxHeartbeats 1000000 in
theorem awake_any (w : World) : Calls Try.prog 13 #[] w fun e w' => e = .returned (.bool true) ∧ Below w.heap.size w w' := by
  have HF := Lib.hid (show Fr w _ [(w.heap.size + 1 + 1 + 1 + 1 + 1, (.cells #[.int .i8 5] 37)), (w.heap.size + 1 + 1 + 1 + 1, (.cells #[.int .i64 1] 3)), (w.heap.size + 1 + 1 + 1, (.cells #[.int .i8 3, .int .i8 4] 37)), (w.heap.size + 1 + 1, (.cells #[.int .i64 1, .int .i64 2] 3)), (w.heap.size + 1, (.cells #[.int .i8 1, .int .i8 2] 37)), (w.heap.size, (.cells #[.int .i64 1, .int .i64 2] 3))] from by simpa using (((((((Fr.nil w).alloc (.cells #[.int .i64 1, .int .i64 2] 3)).alloc (.cells #[.int .i8 1, .int .i8 2] 37)).alloc (.cells #[.int .i64 1, .int .i64 2] 3)).alloc (.cells #[.int .i8 3, .int .i8 4] 37)).alloc (.cells #[.int .i64 1] 3)).alloc (.cells #[.int .i8 5] 37)))
  go_enter Try.func13, Try.ntmps13
  go_wp2_with fail
  refine (forward_any (ownTV w.heap.size (w.heap.size + 1) aX) (ownTV (w.heap.size + 1 + 1) (w.heap.size + 1 + 1 + 1) aW) (ownTV (w.heap.size + 1 + 1 + 1 + 1) (w.heap.size + 1 + 1 + 1 + 1 + 1) aB) aX aW aB _
    (HF.out.ten (a := w.heap.size) (g := w.heap.size + 1) (t := aX) (by simp [dimsObj, aX]) (by simp [dataObj, aX]) (by decide) (by decide)) (HF.out.ten (a := w.heap.size + 1 + 1) (g := w.heap.size + 1 + 1 + 1) (t := aW) (by simp [dimsObj, aW]) (by simp [dataObj, aW]) (by decide) (by decide)) (HF.out.ten (a := w.heap.size + 1 + 1 + 1 + 1) (g := w.heap.size + 1 + 1 + 1 + 1 + 1) (t := aB) (by simp [dimsObj, aB]) (by simp [dataObj, aB]) (by decide) (by decide))
    (by simp [Pl.All8, aX]) (by simp [Pl.All8, aW]) (by simp [Pl.All8, aB])).mono ?_
  rintro e w1 ⟨hb1, hm⟩
  have HB := Lib.hid (HF.out.bel.trans (hb1.mono HF.out.size))
  clear hb1 HF
  rw [aErr] at hm
  rcases hm with ⟨hm, _⟩ | ⟨_, a, g, c, d, _, _, rfl, hs⟩
  · exact absurd rfl hm
  rw [aData] at hs ⊢
  have hdat := hs.data
  rw [aData] at hdat
  obtain ⟨ad, he, _, hc⟩ := hdat.2 (by decide)
  injection he with he
  subst he
  have h0 : w1.cell? ⟨g, 0, none⟩ = some (.int .i32 16) := hc 0 _ rfl
  clear hs hdat hc
  go_wp2_with fail
  go_ret
  have h := HB.out
  have hz := h.size
  exact ⟨rfl, h.alloc hz _⟩

end Go.Proofs.Ytanjlcjpcenejaa
