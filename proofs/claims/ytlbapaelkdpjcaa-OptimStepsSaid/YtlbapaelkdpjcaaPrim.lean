/- Each operation of the machine is carried out by the model. Laws of the two; no condition. -/
import Derived.Test.YtlbapaelkdpjcaaSim
import Derived.Laws.MakeOwn
import Derived.Laws.CopyRow
import Derived.Laws.IdiomStrings
namespace Go.Mach

/-! ### Types -/

theorem aTy_parts {P : Program} {t : TypeId} (h : aTy P t ≠ .other) : ∃ i d, P.info? t = some i ∧ P.underlying t = some d := by
  unfold aTy at h
  split at h
  · exact ⟨_, _, ‹_›, ‹_›⟩
  · exact absurd rfl h

theorem aTy_struct {P : Program} {t : TypeId} {sz : Nat} {l : List (Nat × Nat × Option Bool)} (h : aTy P t = .struct sz l) :
    ∃ i fs, P.info? t = some i ∧ P.underlying t = some (.struct fs) ∧ sz = i.size ∧ (l = fs.toList.map fun f => (f.offset, P.cellsOf f.type, aggK P f.type)) ∧
      ∀ f ∈ fs.toList, (P.info? f.type).isSome = true := by
  unfold aTy at h
  split at h
  · rename_i i d h1 h2
    cases d <;> simp only at h <;> try (cases h; done)
    case slice e => split at h <;> (try split at h) <;> cases h
    case array n e => split at h <;> (try split at h) <;> cases h
    case struct fs =>
      split at h
      · rename_i ha; cases h; exact ⟨i, fs, h1, h2, rfl, rfl, fun f hf => List.all_eq_true.1 ha f hf⟩
      · cases h
  · cases h

theorem aTy_array {P : Program} {t : TypeId} {n e es sz : Nat} (h : aTy P t = .array n e es sz) :
    ∃ i j, P.info? t = some i ∧ P.underlying t = some (.array n e) ∧ sz = i.size ∧ P.info? e = some j ∧ j.size = es ∧ es ≠ 0 := by
  unfold aTy at h
  split at h
  · rename_i i d h1 h2
    cases d <;> simp only at h <;> try (cases h; done)
    case struct fs => split at h <;> cases h
    case slice e => split at h <;> (try split at h) <;> cases h
    case array n e =>
      split at h
      · split at h
        · cases h
        · rename_i j h3 h4
          cases h
          exact ⟨i, j, h1, h2, rfl, h3, rfl, h4⟩
      · cases h
  · cases h

theorem aTy_slice {P : Program} {t : TypeId} {e es eb : Nat} (h : aTy P t = .slice e es eb) :
    ∃ i j, P.info? t = some i ∧ P.underlying t = some (.slice e) ∧ P.info? e = some j ∧ j.size = es ∧ j.bytes = eb ∧ es ≠ 0 := by
  unfold aTy at h
  split at h
  · rename_i i d h1 h2
    cases d <;> simp only at h <;> try (cases h; done)
    case struct fs => split at h <;> cases h
    case array n e => split at h <;> (try split at h) <;> cases h
    case slice e =>
      split at h
      · split at h
        · cases h
        · rename_i j h3 h4
          cases h
          exact ⟨i, j, h1, h2, h3, rfl, rfl, h4⟩
      · cases h
  · cases h

theorem aTy_str {P : Program} {t : TypeId} (h : aTy P t = .str) : P.underlying t = some .string := by
  unfold aTy at h
  split at h
  · rename_i i d h1 h2
    cases d <;> simp only at h <;> try (cases h; done)
    case struct fs => split at h <;> cases h
    case string => exact h2
    case slice e => split at h <;> (try split at h) <;> cases h
    case array n e => split at h <;> (try split at h) <;> cases h
  · cases h

theorem run_isAgg {P : Program} {t : TypeId} {d : TypeDesc} (h : P.underlying t = some d) (w : World) : (isAgg t).run P w = .ok (isAggB P t) w := by
  unfold isAgg isAggB
  rw [Sem.run_bind, run_underlying h w, h]
  cases d <;> rfl

theorem aTy_isAgg {P : Program} {t : TypeId} (h : aTy P t ≠ .other) :
    isAggB P t = (match aTy P t with | .struct _ _ | .array _ _ _ _ => true | _ => false) := by
  unfold aTy at h ⊢
  unfold isAggB
  split at h
  · rename_i i d h1 h2
    simp only [h2, Option.any_some]
    cases d <;> simp only [aggD] at h ⊢
    case struct fs =>
      by_cases hz : (fs.toList.all fun f => (P.info? f.type).isSome) = true
      · rw [if_pos hz]
      · rw [if_neg hz] at h; exact absurd rfl h
    case slice e =>
      cases P.info? e with
      | none => rfl
      | some j => by_cases hz : j.size = 0 <;> simp [hz]
    case array n e =>
      cases hj : P.info? e with
      | none => simp [hj] at h
      | some j => by_cases hz : j.size = 0 <;> simp [hj, hz] at h ⊢
  · exact absurd rfl h

theorem azero_some {P : Program} {t : TypeId} {cs : List Value} (h : azero P t = some cs) : ∃ i z, P.info? t = some i ∧ i.zero = some z ∧ cs = z.cells.toList ∧ cs.all plainB = true := by
  unfold azero at h
  cases hi : P.info? t with
  | none => simp [hi] at h
  | some i =>
    cases hz : i.zero with
    | none => simp [hi, hz] at h
    | some z =>
      simp only [hi, Option.bind_some, hz] at h
      split at h
      · cases h; exact ⟨i, z, rfl, hz, rfl, ‹_›⟩
      · cases h

theorem run_zeroValue {P : Program} {t : TypeId} {i : TypeInfo} {z : Value} (h : P.info? t = some i) (hz : i.zero = some z) (w : World) : (zeroValue t).run P w = .ok z w := by
  simp [zeroValue, typeInfo, h, hz]

theorem run_sizeOf {P : Program} {t : TypeId} {i : TypeInfo} (h : P.info? t = some i) (w : World) : (sizeOf t).run P w = .ok i.size w := by
  simp [sizeOf, typeInfo, h]

theorem VRel.plain {ρ : Ren} {v : Value} (h : plainB v = true) : VRel ρ v v := by
  cases v <;> simp only [plainB] at h <;> try (cases h; done)
  case pointer a => cases a with
    | none => exact .nilptr
    | some a => cases h
  case slice a n c => cases a with
    | none => exact .nilslice n c
    | some a => cases h
  all_goals constructor

theorem LRel.plain {ρ : Ren} {l : List Value} (h : l.all plainB = true) : LRel ρ l l := by
  refine ⟨rfl, fun i v v' a b => ?_⟩
  rw [a] at b; cases b
  exact VRel.plain (List.all_eq_true.1 h v (List.mem_of_getElem? a))

/-! ### Cells -/

theorem add_none (b o n : Nat) : (⟨b, o, none⟩ : Addr).add n = ⟨b, o + n, none⟩ := by
  unfold Addr.add
  split
  · simp_all
  · rfl

section
variable {base : Nat} {w0 : World} {A : Nat → Prop} {ρ : Ren} {H : AHeap} {w : World}

theorem cell_rel (S : Sim base w0 A ρ H w) {b o : Nat} {L : Loc} {v : Value} (hA : A b) (hL : ρ b = some L) (h : cellAt H ⟨b, o, none⟩ = some v) :
    ∃ v', w.cell? ⟨L.blk, L.off + o, none⟩ = some v' ∧ VRel ρ v v' := by
  unfold cellAt at h
  simp only at h
  cases hB : blk? H b with
  | none => simp [hB] at h
  | some B =>
    simp only [hB] at h
    obtain ⟨cc, e, fz, h1, _, _, h4⟩ := S.cont b L B hA hL hB
    cases hc : B.cells[o]? with
    | none => simp [hc] at h
    | some u =>
      simp only [hc] at h
      split at h
      · cases h
      · rename_i hh
        cases h
        obtain ⟨v', p, q⟩ := h4 o _ hc (by simpa using hh)
        exact ⟨v', by simp [World.cell?, h1, p], q⟩

theorem cells_rel (S : Sim base w0 A ρ H w) {b o n : Nat} {L : Loc} {cs : List Value} (hA : A b) (hL : ρ b = some L) (h : cellsAt H ⟨b, o, none⟩ n = some cs) :
    ∃ cs', LRel ρ cs cs' ∧ cs.length = n ∧ ∀ (j : Nat) v, cs'[j]? = some v → w.cell? ((⟨L.blk, L.off + o, none⟩ : Addr).add j) = some v := by
  unfold cellsAt at h
  simp only at h
  cases hB : blk? H b with
  | none => simp [hB] at h
  | some B =>
    simp only [hB] at h
    split at h
    · rename_i hn
      cases h
      obtain ⟨cc, e, fz, h1, h2, _, h4⟩ := S.cont b L B hA hL hB
      have hst := S.stat b L B hL (blk?_some hB).1
      refine ⟨(cc.toList.drop (L.off + o)).take n, ⟨by simp; omega, fun i v v' hv hv' => ?_⟩, by simp; omega, fun j v hv => ?_⟩
      · by_cases hi : i < n
        · have hm := List.mem_of_getElem? hv
          have hh : holeB v = false := by
            have := List.all_eq_true.1 hn.2 v hm
            simpa using this
          simp only [List.getElem?_take, hi, if_true, List.getElem?_drop] at hv hv'
          obtain ⟨u, p, q⟩ := h4 (o + i) v hv hh
          rw [← Nat.add_assoc] at p
          simp only [Array.getElem?_toList] at hv'
          rw [p] at hv'; cases hv'
          exact q
        · simp [List.getElem?_take, hi] at hv
      · rw [add_none]
        by_cases hi : j < n
        · simp only [List.getElem?_take, hi, if_true, List.getElem?_drop, Array.getElem?_toList] at hv
          simp [World.cell?, h1, hv]
        · simp [List.getElem?_take, hi] at hv
    · cases h

theorem ptr_inv {b o : Nat} {s : Option Nat} {v : Value} (h : VRel ρ (.pointer (some ⟨b, o, s⟩)) v) : s = none ∧ ∃ L, ρ b = some L ∧ v = .pointer (some ⟨L.blk, L.off + o, none⟩) := by
  cases h with
  | ptr h => exact ⟨rfl, _, h, rfl⟩

theorem slice_inv {b o n c : Nat} {s : Option Nat} {v : Value} (h : VRel ρ (.slice (some ⟨b, o, s⟩) n c) v) :
    s = none ∧ ∃ L o' c', ρ b = some L ∧ Fit L o n c o' c' ∧ v = .slice (some ⟨L.blk, o', none⟩) n c' := by
  cases h with
  | slice h hf => exact ⟨rfl, _, _, _, h, hf, rfl⟩

theorem run_loadVar {P : Program} (S : Sim base w0 A ρ H w) {t : TypeId} {b o : Nat} {L : Loc} {v : Value} (hA : A b) (hL : ρ b = some L) (h : loadA P t H ⟨b, o, none⟩ = some v) :
    ∃ v', (loadVar t ⟨L.blk, L.off + o, none⟩).run P w = .ok v' w ∧ VRel ρ v v' := by
  have hne : aTy P t ≠ .other := by intro he; simp [loadA, he] at h
  obtain ⟨i, d, hi, hd⟩ := aTy_parts hne
  have hag := aTy_isAgg hne
  have agg : ∀ sz, sz = i.size → isAggB P t = true → (cellsAt H ⟨b, o, none⟩ sz).map (fun cs => Value.agg cs.toArray) = some v →
      ∃ v', (loadVar t ⟨L.blk, L.off + o, none⟩).run P w = .ok v' w ∧ VRel ρ v v' := by
    intro sz hsz hb hm
    cases hc : cellsAt H ⟨b, o, none⟩ sz with
    | none => simp [hc] at hm
    | some cs =>
      simp [hc] at hm
      obtain ⟨cs', hr, hl, hw⟩ := cells_rel S hA hL hc
      have hlen : cs'.length = i.size := by rw [← hr.1, hl, hsz]
      have := run_loadCells_list (P := P) w ⟨L.blk, L.off + o, none⟩ cs' hw
      rw [hlen] at this
      refine ⟨.agg cs'.toArray, ?_, hm ▸ VRel.agg_of hr⟩
      simp only [loadVar, Sem.run_bind, run_isAgg hd, hb, Result.andThen_ok, if_true, run_sizeOf hi, this, Sem.run_pure]
  have one : isAggB P t = false → cellAt H ⟨b, o, none⟩ = some v → ∃ v', (loadVar t ⟨L.blk, L.off + o, none⟩).run P w = .ok v' w ∧ VRel ρ v v' := by
    intro hb hc
    obtain ⟨v', hv, hr⟩ := cell_rel S hA hL hc
    refine ⟨v', ?_, hr⟩
    simp [loadVar, Sem.run_bind, run_isAgg hd, hb, Result.andThen_ok, hv]
  unfold loadA at h
  cases ht : aTy P t with
  | other => exact absurd ht hne
  | struct sz l =>
    obtain ⟨i', fs, p, q, r, _, _⟩ := aTy_struct ht
    rw [hi] at p; cases p
    exact agg sz r (by rw [hag, ht]) (by simpa [ht] using h)
  | array n e es sz =>
    obtain ⟨i', j, p, q, r, _⟩ := aTy_array ht
    rw [hi] at p; cases p
    exact agg sz r (by rw [hag, ht]) (by simpa [ht] using h)
  | one => exact one (by rw [hag, ht]) (by simpa [ht] using h)
  | str => exact one (by rw [hag, ht]) (by simpa [ht] using h)
  | slice e es eb => exact one (by rw [hag, ht]) (by simpa [ht] using h)

theorem set_toList (cc : Array Value) (i : Nat) (v : Value) : cc.setIfInBounds i v = (cc.toList.set i v).toArray := by
  apply Array.ext'
  simp

theorem run_storeCells_row (P : Program) (g o : Nat) (e : TypeId) (fz : Nat × Nat) : ∀ (vs : List Value) (i : Nat) (cc : Array Value) (w : World), w.heap[g]? = some (.cells cc e fz) →
    o + i + vs.length ≤ cc.size → (∀ j, j < cc.size → ¬ (fz.1 ≤ j ∧ j < fz.2)) → vs.all Value.oneCell' = true →
    ∃ w', (storeCells ⟨g, o, none⟩ vs i).run P w = .ok () w' ∧ HeapTo w w' (w.heap.setIfInBounds g (.cells (setCells cc.toList (o + i) vs).toArray e fz))
  | [], i, cc, w, hg, _, _, _ => by
    refine ⟨w, by simp [storeCells], ?_, rfl, rfl, rfl⟩
    apply Array.ext'
    simp only [setCells, Array.toList_setIfInBounds]
    apply List.ext_getElem?
    intro k
    by_cases hk : g = k
    · subst hk
      have hl := (Array.getElem?_eq_some_iff.1 hg).1
      rw [List.getElem?_set_self (by simpa using hl)]
      simpa using hg
    · rw [List.getElem?_set_ne hk]
  | v :: vs, i, cc, w, hg, hn, hfz, hv => by
    simp only [List.all_cons, Bool.and_eq_true] at hv
    simp only [List.length_cons] at hn
    have hc : w.cell? ⟨g, o + i, none⟩ = some cc[o + i] := by
      rw [cell_of_row w g (o + i) cc e fz hg]
      exact Array.getElem?_eq_getElem (by omega)
    have hf : w.frozen? ⟨g, o + i, none⟩ = false := by
      have := hfz (o + i) (by omega)
      obtain ⟨lo, hi⟩ := fz
      simp only [World.frozen?, hg]
      simp only at this
      cases hx : (decide (lo ≤ o + i) && decide (o + i < hi)) with
      | false => rfl
      | true => simp at hx; exact absurd hx this
    have hs : (w.setCell ⟨g, o + i, none⟩ v).heap = w.heap.setIfInBounds g (.cells (cc.toList.set (o + i) v).toArray e fz) := by
      apply Array.ext_getElem?
      intro k
      by_cases hk : g = k
      · subst hk
        have hl := (Array.getElem?_eq_some_iff.1 hg).1
        rw [Array.getElem?_setIfInBounds_self_of_lt hl]
        simp [World.setCell, Array.getElem?_modify, hg, set_toList]
      · rw [Array.getElem?_setIfInBounds_ne hk]
        simp [World.setCell, Array.getElem?_modify, hk]
    have hl := (Array.getElem?_eq_some_iff.1 hg).1
    have hg' : (w.setCell ⟨g, o + i, none⟩ v).heap[g]? = some (.cells (cc.toList.set (o + i) v).toArray e fz) := by
      rw [hs, Array.getElem?_setIfInBounds_self_of_lt hl]
    obtain ⟨w', h1, h2⟩ := run_storeCells_row P g o e fz vs (i + 1) _ _ hg' (by simp; omega) (by simpa using hfz) hv.2
    refine ⟨w', ?_, ?_, h2.os, h2.tape, h2.output⟩
    · simp only [storeCells, Sem.run_bind, add_none]
      rw [run_store P w _ v _ hv.1]
      simp only [hc, hf, Bool.false_eq_true, if_false, Result.andThen_ok]
      exact h1
    · rw [h2.heap, hs]
      apply Array.ext_getElem?
      intro k
      by_cases hk : g = k
      · subst hk
        rw [Array.getElem?_setIfInBounds_self_of_lt (by simpa using hl), Array.getElem?_setIfInBounds_self_of_lt hl]
        simp [setCells, Nat.add_assoc]
      · rw [Array.getElem?_setIfInBounds_ne hk, Array.getElem?_setIfInBounds_ne hk, Array.getElem?_setIfInBounds_ne hk]

end
end Go.Mach
