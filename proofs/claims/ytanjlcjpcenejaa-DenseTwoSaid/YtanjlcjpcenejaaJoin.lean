/- A row that came in, for the machine. Laws; no condition. -/
import Derived.Test.YtanjlcjpcenejaaTv
import Derived.Test.YtanjlcjpcenejaaBridge
import Derived.RowKit3
namespace Go.Mach
open Go.RowKit

theorem row_arg {k : IntKind} {w : World} {a : Option Addr} {len cap : Nat} {zs : List Int}
    (h : (a = none ∧ len = 0 ∧ cap = 0 ∧ zs = []) ∨
      ∃ x, a = some x ∧ (x.spot = none ∧ x.block < w.heap.size) ∧ len ≤ cap ∧ cap ≤ maxLen ∧ zs.length = cap ∧ (∀ i, i < zs.length → w.cell? (x.add i) = some (.int k (zs.getD i 0))) ∧ ∀ n ∈ zs, (Lit.int k n).wf = true) :
    RI (heapOf w) k a cap (zs.take len) ∧ (zs.take len).length = len ∧ VRel (ren0 w) (.slice a len cap) (.slice a len cap) ∧ ∀ n ∈ zs.take len, (Lit.int k n).wf = true := by
  rcases h with ⟨rfl, rfl, rfl, rfl⟩ | ⟨x, rfl, hx, hl, hm, hz, hc, hw⟩
  · exact ⟨RI.nil _ _ _, rfl, .nilslice _ _, by simp⟩
  · have hlen : (zs.take len).length = len := by simp; omega
    have key : ∀ i, i < cap → x.spot = none ∧ x.block < w.heap.size ∧ cellAt (heapOf w) ⟨x.block, x.off + i, none⟩ = some (.int k (zs.getD i 0)) := by
      intro i hi
      obtain ⟨h1, h2, h3⟩ := heapOf_cell (hc i (by omega)) (.int _ _) rfl
      obtain ⟨h4, h5, _⟩ := heapOf_cell (hc 0 (by omega)) (.int _ _) rfl
      unfold Addr.add at h1 h2 h3 h4 h5
      simp only [if_true] at h4 h5
      refine ⟨h4, h5, ?_⟩
      by_cases h0 : i = 0
      · subst h0
        simp only [if_true] at h3
        obtain ⟨b, o, s⟩ := x
        simp only at h4
        subst h4
        exact h3
      · rw [if_neg h0] at h3
        exact h3
    refine ⟨⟨by omega, fun i hi => ?_, ?_⟩, hlen, ?_, fun n hn => hw n (List.mem_of_mem_take hn)⟩
    · obtain ⟨h1, h2, h3⟩ := key i (by omega)
      obtain ⟨b, o, s⟩ := x
      simp only at h1
      subst h1
      refine ⟨b, o, rfl, ?_⟩
      rw [h3]
      simp only [List.getD_eq_getElem?_getD, List.getElem?_take]
      rw [if_pos (by omega)]
    · rw [hlen]
      have : maxLen ≤ 9223372036854775807 := by decide
      omega
    · obtain ⟨b, o, sp⟩ := x
      obtain ⟨h1, h2⟩ := hx
      simp only at h1 h2
      subst h1
      exact vrel_slice h2 hl

/-- A slice that came in lies in the world. -/
theorem slice_home {P : Program} {w : World} {r : Reach} {base : Nat} {t e : TypeId} {a : Addr} {len cap : Nat} (ht : P.underlying t = some (.slice e)) (h : Value.okWide P w r base t (.slice (some a) len cap)) :
    a.spot = none ∧ a.block < w.heap.size := by
  simp only [Value.okWide, ht, Cell.okWide, Cell.ok] at h
  obtain ⟨_, _, _, h1, row, cells, h2, _⟩ := h
  refine ⟨h1, ?_⟩
  unfold World.shape? at h2
  cases hg : w.heap[a.block]? with
  | none => simp [hg] at h2
  | some o => exact (Array.getElem?_eq_some_iff.1 hg).1

theorem all8_wf {l : List Int} (h : ∀ n ∈ l, (Lit.int .i8 n).wf = true) : ∀ n ∈ l, -128 ≤ n ∧ n ≤ 127 := fun n hn => by
  have := h n hn
  simp only [Lit.wf, IntKind.min, IntKind.max, IntKind.bits, IntKind.signed, decide_eq_true_eq, Bool.and_eq_true] at this
  simp at this
  omega

end Go.Mach
