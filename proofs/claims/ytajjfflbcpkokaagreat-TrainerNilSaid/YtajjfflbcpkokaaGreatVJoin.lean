/- From a world's arguments to a function told by the value machine. Laws; no condition. -/
import Derived.Test.YtajjfflbcpkokaaGreatVFun3
import Derived.Test.YtajjfflbcpkokaaGreatBridge
import Derived.RowKit3
namespace Go.Mach
open Go.RowKit

theorem heapOf_exact {w : World} {b : Nat} {B : Blk} (h : blk? (heapOf w) b = some B) : B.exact = true := by
  obtain ⟨h1, h2⟩ := blk?_inv h
  unfold heapOf at h1
  rw [List.getElem?_map, Array.getElem?_toList] at h1
  cases hg : w.heap[b]? with
  | none => rw [hg] at h1; cases h1
  | some o =>
    rw [hg] at h1
    simp only [Option.map_some, Option.some.injEq] at h1
    subst h1
    cases o <;> rfl

theorem inB_one {cells : List Value} {q : Nat} {v : Value} (h : cells[q]? = some v) : InB cells q 1 [v] := by
  obtain ⟨hlt, he⟩ := List.getElem?_eq_some_iff.1 h
  refine ⟨by omega, ?_⟩
  rw [List.drop_eq_getElem_cons hlt, List.take_succ_cons, List.take_zero, he]

theorem cellAt_blk {H : AHeap} {b o : Nat} {v : Value} (h : cellAt H ⟨b, o, none⟩ = some v) : ∃ B, blk? H b = some B ∧ B.cells[o]? = some v := by
  unfold cellAt at h
  split at h
  · rename_i B hB
    split at h
    · rename_i u hu
      split at h
      · cases h
      · cases h; exact ⟨B, hB, hu⟩
    · cases h
  · cases h

theorem cutF_false {n0 : Nat} {F : Fz} : cutF false n0 F = F := by
  funext b
  unfold cutF
  simp

/-- A row of numbers that came in. -/
theorem row_RSl {k : IntKind} {w : World} {a : Option Addr} {len cap : Nat} {zs : List Int}
    (h : (a = none ∧ len = 0 ∧ cap = 0 ∧ zs = []) ∨
      ∃ x, a = some x ∧ (x.spot = none ∧ x.block < w.heap.size) ∧ len ≤ cap ∧ cap ≤ maxLen ∧ zs.length = cap ∧ (∀ i, i < zs.length → w.cell? (x.add i) = some (.int k (zs.getD i 0))) ∧ ∀ n ∈ zs, (Lit.int k n).wf = true) :
    RSl (fun b => blk? (heapOf w) b) (RT (fun b => blk? (heapOf w) b) (.int k)) 1 a cap (zs.take len) ∧ (zs.take len).length = len ∧ VRel (ren0 w) (.slice a len cap) (.slice a len cap) ∧ (∀ n ∈ zs.take len, (Lit.int k n).wf = true) ∧ len ≤ maxLen := by
  rcases h with ⟨rfl, rfl, rfl, rfl⟩ | ⟨x, rfl, hx, hl, hm, hz, hc, hw⟩
  · exact ⟨⟨Nat.le_refl _, .inl rfl⟩, rfl, .nilslice _ _, by simp, by decide⟩
  · have hlen : (zs.take len).length = len := by simp; omega
    refine ⟨⟨by omega, ?_⟩, hlen, ?_, fun n hn => hw n (List.mem_of_mem_take hn), by omega⟩
    · by_cases h0 : zs.take len = []
      · exact .inl h0
      · right
        obtain ⟨b, o, sp⟩ := x
        obtain ⟨hs, hb⟩ := hx
        simp only at hs hb
        subst hs
        have key : ∀ i, i < cap → ∃ B, blk? (heapOf w) b = some B ∧ B.cells[o + i]? = some (.int k (zs.getD i 0)) := by
          intro i hi
          obtain ⟨_, _, h3⟩ := heapOf_cell (hc i (by omega)) (.int _ _) rfl
          refine cellAt_blk ?_
          unfold Addr.add at h3
          by_cases h0 : i = 0
          · subst h0; simpa using h3
          · rw [if_neg h0] at h3; exact h3
        have hc0 : 0 < cap := by
          rcases Nat.eq_zero_or_pos cap with e | e
          · exfalso; apply h0; rw [show len = 0 by omega]; rfl
          · exact e
        obtain ⟨B, hB, _⟩ := key 0 hc0
        refine ⟨b, o, B, rfl, hB, .inl (heapOf_exact hB), fun i y hi => ?_⟩
        rw [List.getElem?_take] at hi
        split at hi
        · rename_i hil
          obtain ⟨B', hB', h5⟩ := key i (by omega)
          rw [hB] at hB'; cases hB'
          rw [Nat.mul_one]
          refine ⟨_, inB_one h5, ?_⟩
          show [Value.int k (zs.getD i 0)] = [.int k y]
          rw [List.getD_eq_getElem?_getD, hi]; rfl
        · cases hi
    · obtain ⟨b, o, sp⟩ := x
      obtain ⟨h1, h2⟩ := hx
      simp only at h1 h2
      subst h1
      exact vrel_slice h2 hl

theorem row_R2 {k : IntKind} {w : World} {a : Option Addr} {len cap : Nat} {zs : List Int}
    (h : (a = none ∧ len = 0 ∧ cap = 0 ∧ zs = []) ∨
      ∃ x, a = some x ∧ (x.spot = none ∧ x.block < w.heap.size) ∧ len ≤ cap ∧ cap ≤ maxLen ∧ zs.length = cap ∧ (∀ i, i < zs.length → w.cell? (x.add i) = some (.int k (zs.getD i 0))) ∧ ∀ n ∈ zs, (Lit.int k n).wf = true) :
    R2 (ctx0 (heapOf w) noHs) (.fz false (.int k) (zs.take len)) (.slice a len cap) := by
  obtain ⟨h1, h2, _⟩ := row_RSl h
  refine ⟨a, cap, by rw [h2], ?_⟩
  rw [cutF_false]
  exact h1

theorem int_R2 {c : Ctx} {k : IntKind} {n : Int} : R2 c (.pl (.int k n)) (.int k n) := ⟨rfl, rfl⟩

/-- A slice that came in lies in the world. -/
theorem slice_home {P : Program} {w : World} {r : Reach} {base : Nat} {t e : TypeId} {a : Addr} {len cap : Nat} (ht : P.underlying t = some (.slice e)) (h : Value.okWide P w r base t (.slice (some a) len cap)) :
    a.spot = none ∧ a.block < w.heap.size := by
  simp only [Value.okWide, ht, Cell.okWide, Cell.ok] at h
  obtain ⟨_, _, _, h1, row, cells, h2, _⟩ := h
  refine ⟨h1, ?_⟩
  unfold World.shape? at h2
  cases hg : w.heap[a.block]? with
  | none => simp [hg] at h2
  | some o => exact (Array.getElem?_eq_some_iff.1 hg).1

/-- A law: the function answers true, and nothing that was there has turned. -/
theorem law_calls {P : Program} {w : World} (hX : CallerSound w.heap.size w P (extF P)) (hm : P.follows .mixedOrders = true) {f : FuncId} {args : List VV} {avs : List Value}
    (h : Sound P f args fun sl => sl = [(false, [.pl (.bool true)])]) (ha : All2 (R2 (ctx0 (heapOf w) noHs)) args avs) (hv : ∀ x ∈ avs, VRel (ren0 w) x x) :
    Calls P f avs.toArray w fun e w' => e = .returned (.bool true) ∧ Below w.heap.size w w' := by
  obtain ⟨N, v, H', h1, sl, rfl, hres⟩ := h (fun b => blk? (heapOf w) b) w.heap.size (heapOf w) avs (fun b B e => e) (by rw [heapOf_length]; exact Nat.le_refl _) ha
  rcases hres with ⟨c, is, vs, _, hx, _, rfl⟩ | ⟨f', l, c, e, _⟩
  case inr => cases e
  have hvs : wrap1 vs = .bool true := by
    cases hx with
    | s h t =>
      cases t
      cases h with
      | one h t =>
        cases h with
        | pl h t => rfl
  rw [hvs] at h1
  exact calls_of_run hX hm (by simpa using hv) h1 rfl

/-- What a bool law answers. -/
theorem law_true {b : Bool} (h : b = true) : slots [(false, .bool)] (b, ()) = [(false, [.pl (.bool true)])] := by subst h; rfl

theorem wf_rng {k : IntKind} {n : Int} (h : (Lit.int k n).wf = true) : k.min ≤ n ∧ n ≤ k.max := by
  simpa [Lit.wf] using h

/-! ### Loops over numbers -/

theorem Loop.range {S : Type} {B : S → (S → Prop) → Prop} (n : Nat) (f : Nat → S) (I : Nat → Prop) (h0 : I 0) (step : ∀ i, i < n → I i → ∀ X, (I (i + 1) → X (f (i + 1))) → B (f i) X) (last : I n → ∀ X, B (f n) X) : Loop B (f 0) := by
  refine Loop.inv (n := n) (fun m s => ∃ i, i + m = n ∧ I i ∧ s = f i) ⟨0, by omega, h0, rfl⟩ ?_
  rintro m s X ⟨i, hi, hI, rfl⟩ hX
  by_cases h : i < n
  · exact step i h hI X fun hI' => hX (m - 1) _ (by omega) ⟨i + 1, by omega, hI', rfl⟩
  · have : i = n := by omega
    subst this
    exact last hI X

end Go.Mach
