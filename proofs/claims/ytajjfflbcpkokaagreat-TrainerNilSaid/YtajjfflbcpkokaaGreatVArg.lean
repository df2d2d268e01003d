/- From a world's arguments to a function told by the value machine: structs. Laws; no condition. -/
import Derived.Test.YtajjfflbcpkokaaGreatVJoin
import Derived.ChangeArms
import Derived.ChangeSlices
import Derived.ChangeShapes
import Derived.WideShapes
namespace Go.Mach
open Go.RowKit Go.ChangeShapes Go.WideShapes
set_option linter.unusedVariables false
set_option linter.unusedSimpArgs false

/-- A row of numbers that came in. -/
def RowH (k : IntKind) (w : World) (a : Option Addr) (len cap : Nat) (zs : List Int) : Prop :=
  (a = none ∧ len = 0 ∧ cap = 0 ∧ zs = []) ∨
  ∃ x, a = some x ∧ (x.spot = none ∧ x.block < w.heap.size) ∧ len ≤ cap ∧ cap ≤ maxLen ∧ zs.length = cap ∧ (∀ i, i < zs.length → w.cell? (x.add i) = some (.int k (zs.getD i 0))) ∧ ∀ n ∈ zs, (Lit.int k n).wf = true

section
variable {H : Type} {enc : TypeId × Value → H} {P : Program} {w : World} {r : Reach} {base : Nat}

theorem cell_home {t e : TypeId} {a : Addr} {len cap : Nat} (ht : P.underlying t = some (.slice e)) (h : Cell.okWide P w r base t (.slice (some a) len cap)) :
    a.spot = none ∧ a.block < w.heap.size := by
  simp only [Cell.okWide, ht, Cell.ok] at h
  obtain ⟨_, _, _, h1, row, cells, h2, _⟩ := h
  refine ⟨h1, ?_⟩
  unfold World.shape? at h2
  cases hg : w.heap[a.block]? with
  | none => simp [hg] at h2
  | some o => exact (Array.getElem?_eq_some_iff.1 hg).1

theorem open_row {t e : TypeId} {k : IntKind} {fuel : Nat} {v : Value} {x : DataW H × List MemPlace} (ht : P.underlying t = some (.slice e)) (he : P.underlying e = some (.int k)) (hc : P.cellsOf e = 1)
    (h : DataW.trod enc P w 0 (fun _ => true) true fuel t [v] = some x) (hok : Cell.okWide P w r base t v) : ∃ a len cap zs, v = .slice a len cap ∧ RowH k w a len cap zs := by
  rcases open_ints ht he hc h with ⟨hcs, _⟩ | ⟨a, l, c, zs, hcs, _, hl, hm, hz, _, hcell, hwz⟩
  · cases hcs
    exact ⟨none, 0, 0, [], rfl, .inl ⟨rfl, rfl, rfl, rfl⟩⟩
  · cases hcs
    exact ⟨some a, l, c, zs, rfl, .inr ⟨a, rfl, cell_home ht hok, hl, hm, by simpa using hz, hcell, hwz⟩⟩

/-- A slice of numbers. -/
theorem open_arg {t e : TypeId} {k : IntKind} {v : Value} {d : DataW H} {ps : List MemPlace} (ht : P.underlying t = some (.slice e)) (he : P.underlying e = some (.int k)) (hc : P.cellsOf e = 1)
    (hok : Value.okWide P w r base t v) (hd : DataW.Trod enc P w 0 (fun _ => true) true t v d ps) : ∃ a len cap zs, v = .slice a len cap ∧ RowH k w a len cap zs := by
  obtain ⟨a, len, cap, rfl⟩ := okWide_slice ht hok
  obtain ⟨fuel, hf⟩ := hd
  have hok' : Cell.okWide P w r base t (.slice a len cap) := by
    simp only [Value.okWide, ht] at hok
    exact hok
  exact open_row ht he hc (fuel := fuel) hf hok'

theorem agg_cell {t : TypeId} {fs : Array Field} {cs : Array Value} {ts : List TypeId} (ht : P.underlying t = some (.struct fs)) (hts : P.cellTypes P.depth t = some ts) (h : Value.okWide P w r base t (.agg cs)) {i : Nat} {u : TypeId} {v : Value}
    (hu : ts[i]? = some u) (hv : cs[i]? = some v) : Cell.okWide P w r base u v := by
  simp only [Value.okWide, ht] at h
  obtain ⟨cs', e, _, ts', h1, _, h2⟩ := h
  cases e
  rw [hts] at h1
  cases h1
  obtain ⟨u', k1, k2⟩ := h2 i v hv
  have : i < ts.length := (List.getElem?_eq_some_iff.1 hu).1
  rw [Nat.mod_eq_of_lt this, hu] at k1
  cases k1
  exact k2

/-- A tensor: a slice of numbers, a number, a slice of numbers. -/
theorem open_ten {t e0 e2 : TypeId} {fs : Array Field} {f0 f1 f2 : Field} {k0 k1 k2 : IntKind} {v : Value} {d : DataW H} {ps : List MemPlace} (ht : P.underlying t = some (.struct fs)) (hc : P.cellsOf t = 3)
    (h0 : fs[0]? = some f0) (h1 : fs[1]? = some f1) (h2 : fs[2]? = some f2) (o0 : f0.offset = 0 ∧ P.cellsOf f0.type = 1) (o1 : f1.offset = 1 ∧ P.cellsOf f1.type = 1) (o2 : f2.offset = 2 ∧ P.cellsOf f2.type = 1)
    (u0 : P.underlying f0.type = some (.slice e0)) (v0 : P.underlying e0 = some (.int k0)) (c0 : P.cellsOf e0 = 1) (u1 : P.underlying f1.type = some (.int k1)) (u2 : P.underlying f2.type = some (.slice e2)) (v2 : P.underlying e2 = some (.int k2)) (c2 : P.cellsOf e2 = 1)
    (hts : P.cellTypes P.depth t = some [f0.type, f1.type, f2.type]) (hok : Value.okWide P w r base t v) (hd : DataW.Trod enc P w 0 (fun _ => true) true t v d ps) :
    ∃ a0 l0 c0 z0 n a2 l2 c2 z2, v = .agg #[.slice a0 l0 c0, .int k1 n, .slice a2 l2 c2] ∧ RowH k0 w a0 l0 c0 z0 ∧ (Lit.int k1 n).wf = true ∧ RowH k2 w a2 l2 c2 z2 := by
  obtain ⟨cs, rfl, hsz⟩ := okWide_struct ht hok
  obtain ⟨fuel, hf⟩ := hd
  obtain ⟨xs, n, _, _, _, hxl, hxs⟩ := DataW.trod_struct ht hf
  rw [hc] at hsz
  obtain ⟨x0, x1, x2, rfl⟩ : ∃ x0 x1 x2, cs = #[x0, x1, x2] := by
    obtain ⟨l⟩ := cs
    match l, hsz with
    | [x0, x1, x2], _ => exact ⟨x0, x1, x2, rfl⟩
  have hfs : 2 < fs.size := (Array.getElem?_eq_some_iff.1 h2).1
  have e0 := hxs 0 f0 h0
  have e1 := hxs 1 f1 h1
  have e2 := hxs 2 f2 h2
  rw [o0.1, o0.2, List.getElem?_eq_getElem (by omega)] at e0
  rw [o1.1, o1.2, List.getElem?_eq_getElem (by omega)] at e1
  rw [o2.1, o2.2, List.getElem?_eq_getElem (by omega)] at e2
  obtain ⟨a0, l0, c0', z0, rfl, r0⟩ := open_row u0 v0 c0 e0 (agg_cell ht hts hok (i := 0) rfl rfl)
  obtain ⟨a2, l2, c2', z2, rfl, r2⟩ := open_row u2 v2 c2 e2 (agg_cell ht hts hok (i := 2) rfl rfl)
  obtain ⟨m, hm, _, hw⟩ := DataW.trod_int u1 e1
  cases hm
  exact ⟨a0, l0, c0', z0, m, a2, l2, c2', z2, rfl, r0, hw, r2⟩

theorem ten_R2 {k0 k1 k2 : IntKind} {a0 a2 : Option Addr} {l0 c0 l2 c2 : Nat} {n : Int} {z0 z2 : List Int} (h0 : RowH k0 w a0 l0 c0 z0) (h2 : RowH k2 w a2 l2 c2 z2) :
    R2 (ctx0 (heapOf w) noHs) (.agg [.fz false (.int k0) (z0.take l0), .pl (.int k1 n), .fz false (.int k2) (z2.take l2)]) (.agg #[.slice a0 l0 c0, .int k1 n, .slice a2 l2 c2]) :=
  ⟨[.slice a0 l0 c0, .int k1 n, .slice a2 l2 c2], rfl, .cons (row_R2 h0) (.cons ⟨rfl, rfl⟩ (.cons (row_R2 h2) .nil))⟩

theorem ten_VRel {k0 k1 k2 : IntKind} {a0 a2 : Option Addr} {l0 c0 l2 c2 : Nat} {n : Int} {z0 z2 : List Int} (h0 : RowH k0 w a0 l0 c0 z0) (h2 : RowH k2 w a2 l2 c2 z2) :
    VRel (ren0 w) (.agg #[.slice a0 l0 c0, .int k1 n, .slice a2 l2 c2]) (.agg #[.slice a0 l0 c0, .int k1 n, .slice a2 l2 c2]) := by
  refine .agg _ _ rfl fun i v v' ha hb => ?_
  rw [ha] at hb; cases hb
  match i, ha with
  | 0, ha => cases ha; exact (row_RSl h0).2.2.1
  | 1, ha => cases ha; exact .int _ _
  | 2, ha => cases ha; exact (row_RSl h2).2.2.1

end
end Go.Mach
