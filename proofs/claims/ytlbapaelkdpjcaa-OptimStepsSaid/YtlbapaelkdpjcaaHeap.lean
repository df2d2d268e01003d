/- Each operation of the machine is carried out by the model: the operations that make and write memory. No condition. -/
import Derived.Test.YtlbapaelkdpjcaaOps
namespace Go.Mach

theorem foldl_zipIdx (off : Nat) : ∀ (l : List Value) (k : Nat) (cells : Array Value),
    (l.zipIdx k).foldl (fun cs (p : Value × Nat) => cs.setIfInBounds (off + p.2) p.1) cells = (setCells cells.toList (off + k) l).toArray
  | [], _, cells => by simp [setCells]
  | v :: l, k, cells => by
    rw [List.zipIdx_cons, List.foldl_cons, foldl_zipIdx off l (k + 1)]
    simp [setCells, Nat.add_assoc]

theorem fill_step (off : Nat) (vs : Array Value) (cells : Array Value) :
    (vs.zipIdx.foldl (fun cs (p : Value × Nat) => cs.setIfInBounds (off + p.2) p.1) cells) = (setCells cells.toList off vs.toList).toArray := by
  rw [← Array.foldl_toList, Array.toList_zipIdx, foldl_zipIdx off vs.toList 0 cells]
  simp

theorem fill_sound {ρ : Ren} (place : Nat → Option (Nat × Nat)) : ∀ (parts parts' : List (Nat × Value)) (cs r : List Value) (cs' : Array Value), LRel ρ cs cs'.toList →
    parts.map (·.1) = parts'.map (·.1) → LRel ρ (parts.map (·.2)) (parts'.map (·.2)) → afill place cs parts = some r → ∃ r', Instr.fill place cs' parts' = some r' ∧ LRel ρ r r'.toList
  | [], parts', cs, r, cs', hr, h1, _, h => by
    cases parts' with
    | nil => cases h; exact ⟨cs', rfl, hr⟩
    | cons p l => simp at h1
  | (i, v) :: parts, parts', cs, r, cs', hr, h1, h2, h => by
    cases parts' with
    | nil => simp at h1
    | cons p l =>
      obtain ⟨i', v'⟩ := p
      simp only [List.map_cons, List.cons.injEq] at h1
      obtain ⟨rfl, h1⟩ := h1
      simp only [List.map_cons] at h2
      obtain ⟨y, ys, he, hv, ht⟩ := h2.inv
      simp only [List.cons.injEq] at he
      obtain ⟨rfl, rfl⟩ := he
      simp only [afill] at h
      simp only [Instr.fill]
      cases hp : place i with
      | none => simp [hp] at h
      | some os =>
        obtain ⟨off, size⟩ := os
        simp only [hp] at h
        have hsz : v'.cells.size = v.cells.size := by have := hv.cells.1; simpa using this.symm
        have hl : cs'.size = cs.length := by have := hr.1; simpa using this.symm
        split at h
        · rename_i hc
          have hn : ¬ ((decide (v'.cells.size ≠ size) || decide (off + v'.cells.size > cs'.size)) = true) := by
            simp only [hsz, hl, Bool.or_eq_true, decide_eq_true_eq]
            omega
          simp only [hn]
          rw [if_neg (by simp), fill_step]
          exact fill_sound place parts l _ r _ (by simpa using LRel.setCells _ _ _ _ off hr hv.cells) h1 ht h
        · cases h

theorem rowOf_madeCells (z : Array Value) (n : Nat) : (madeCells z n).toList = rowOf z.toList n := by
  simp only [madeCells, rowOf, Array.toList_map, Array.toList_range, Array.length_toList]
  refine List.map_congr_left fun a _ => ?_
  rw [List.getElem!_eq_getElem?_getD, Array.getElem?_toList]
  cases h : z[a % z.size]? <;> simp [getElem!_def, h]

theorem plain_rowOf {z : List Value} (h : z.all plainB = true) (n : Nat) : (rowOf z n).all plainB = true := by
  simp only [rowOf, List.all_map, List.all_eq_true, List.mem_range, Function.comp]
  intro i _
  cases hz : z[i % z.length]? with
  | none => rw [List.getElem!_eq_getElem?_getD, hz]; rfl
  | some v =>
    rw [List.getElem!_eq_getElem?_getD, hz]
    exact List.all_eq_true.1 h v (List.mem_of_getElem? hz)

theorem length_rowOf (z : List Value) (n : Nat) : (rowOf z n).length = n := by simp [rowOf]

section
variable {P : Program} {base : Nat} {w0 : World} {A W : Nat → Prop} {fl : Nat} {ρ : Ren} {H : AHeap} {w : World}

/-- What an operation that is done comes to. -/
def Done (P : Program) (base : Nat) (w0 : World) (A W : Nat → Prop) (fl : Nat) (ρ : Ren) (H : AHeap) (w : World) (s : Sem Next) (r : ANext) (H' : AHeap) : Prop :=
  ∃ ρ' r' w', s.run P w = .ok r' w' ∧ NRel ρ' r r' ∧ Step base w0 A W fl ρ H w ρ' H' w'

theorem Done.same (S : Sim base w0 A ρ H w) {s : Sem Value} {v v' : Value} (h : s.run P w = .ok v' w) (hr : VRel ρ v v') :
    Done P base w0 A W fl ρ H w (do pure (.value (← s))) (.value v) H :=
  ⟨ρ, .value v', w, by simp [h], hr, Step.same S ⟨rfl, rfl, rfl, rfl⟩⟩

theorem run_newVar (t : TypeId) (v : Value) : (newVar t v).run P w = .ok ⟨w.heap.size, 0, none⟩ { w with heap := w.heap.push (.cells v.cells t) } := by
  simp [newVar, newRow]

theorem alloc_sound (S : Sim base w0 A ρ H w) (hb : base ≤ H.length) (hfr : ρ H.length = none) {t : TypeId} {cs : List Value} (h : azero P t = some cs) :
    Done P base w0 A W fl ρ H w (do pure (.value (← Instr.alloc t true (.tuple #[])))) (.value (.pointer (some ⟨H.length, 0, none⟩))) (H ++ [⟨cs, 0, true, true⟩]) := by
  obtain ⟨i, z, hi, hz, rfl, hp⟩ := azero_some h
  refine ⟨_, .value (.pointer (some ⟨w.heap.size, 0, none⟩)), { w with heap := w.heap.push (.cells z.cells t) }, ?_, ?_,
    Step.new_block S hfr hb z.cells.toList z.cells t (0, 0) 0 true ⟨rfl, rfl, rfl, rfl⟩ (by simp) (by simp) (fun i _ => by simp) fun i v hv => ?_⟩
  · simp [Instr.alloc, run_zeroValue hi hz, run_newVar]
  · have := here_self ρ H.length ⟨w.heap.size, 0, z.cells.size, z.cells.toList.length, 0, true⟩
    exact .ptr (o := 0) this
  · exact ⟨v, by simpa using hv, VRel.plain (List.all_eq_true.1 hp v (List.mem_of_getElem? hv))⟩

theorem box_sound (S : Sim base w0 A ρ H w) (hb : base ≤ H.length) (hfr : ρ H.length = none) {t : TypeId} {v v' : Value} (hv : VRel ρ v v') :
    Done P base w0 A W fl ρ H w (do pure (.value (← Instr.box t v'))) (.value (.pointer (some ⟨H.length, 0, none⟩))) (H ++ [⟨v.cells.toList, 0, true, true⟩]) := by
  have hl := hv.cells.1
  simp only [Array.length_toList] at hl
  refine ⟨_, .value (.pointer (some ⟨w.heap.size, 0, none⟩)), { w with heap := w.heap.push (.cells v'.cells t) }, ?_, ?_,
    Step.new_block S hfr hb v.cells.toList v'.cells t (0, 0) 0 true ⟨rfl, rfl, rfl, rfl⟩ (by simp [hl]) (by simp [hl]) (fun i _ => by simp) fun i u hu => ?_⟩
  · simp [Instr.box, run_newVar]
  · have := here_self ρ H.length ⟨w.heap.size, 0, v'.cells.size, v.cells.toList.length, 0, true⟩
    exact .ptr (o := 0) this
  · obtain ⟨u', p, q⟩ := hv.cells.get hu
    exact ⟨u', by simpa using p, q⟩

theorem parts_map {ev cev : Operand → Value} : ∀ (parts : List (Nat × Operand)), (∀ p ∈ parts, VRel ρ (ev p.2) (cev p.2)) →
    LRel ρ ((parts.map fun p => (p.1, ev p.2)).map (·.2)) ((parts.map fun p => (p.1, cev p.2)).map (·.2))
  | [], _ => LRel.nil ρ
  | p :: l, h => LRel.cons (h p (List.mem_cons_self ..)) (parts_map l fun q hq => h q (List.mem_cons_of_mem _ hq))

theorem parts_fst {ev cev : Operand → Value} (parts : List (Nat × Operand)) : (parts.map fun p => (p.1, ev p.2)).map (·.1) = (parts.map fun p => (p.1, cev p.2)).map (·.1) := by
  simp

theorem run_places : ∀ (fs : List Field), (∀ f ∈ fs, (P.info? f.type).isSome = true) →
    (fs.mapM (m := Sem) fun f => do pure (f.offset, ← sizeOf f.type)).run P w = .ok (fs.map fun f => (f.offset, P.cellsOf f.type)) w
  | [], _ => by simp
  | f :: fs, h => by
    obtain ⟨i, hi⟩ := Option.isSome_iff_exists.1 (h f (List.mem_cons_self ..))
    have := run_places fs fun g hg => h g (List.mem_cons_of_mem _ hg)
    have hs : P.cellsOf f.type = i.size := by simp [Program.cellsOf, hi]
    simp only [List.mapM_cons, Sem.run_bind, run_sizeOf hi, Result.andThen_ok, Sem.run_pure, this, hs, List.map_cons]

theorem build_struct_sound (S : Sim base w0 A ρ H w) {t : TypeId} {sz : Nat} {fs : List (Nat × Nat × Option Bool)} {z cs : List Value} {parts : List (Nat × Operand)} {ev cev : Operand → Value}
    (ht : aTy P t = .struct sz fs) (hz : azero P t = some z) (hp : ∀ p ∈ parts, VRel ρ (ev p.2) (cev p.2))
    (h : afill (fun i => (fs[i]?).map fun f => (f.1, f.2.1)) z (parts.map fun p => (p.1, ev p.2)) = some cs) :
    Done P base w0 A W fl ρ H w (do pure (.value (← Instr.build t (parts.map fun p => (p.1, cev p.2)).toArray))) (.value (.agg cs.toArray)) H := by
  obtain ⟨i, fds, hi, hu, rfl, rfl, hall⟩ := aTy_struct ht
  obtain ⟨i', zv, hi', hzv, rfl, hpl⟩ := azero_some hz
  obtain ⟨r', h1, h2⟩ := fill_sound _ _ _ _ _ zv.cells (LRel.plain hpl) (parts_fst (cev := cev) parts) (parts_map parts hp) h
  refine Done.same S (v' := .agg r') ?_ ?_
  · have hpl := run_places (P := P) (w := w) fds.toList hall
    have hpl' : (fds.mapM (m := Sem) fun f => do pure (f.offset, ← sizeOf f.type)).run P w = .ok (fds.map fun f => (f.offset, P.cellsOf f.type)) w := by
      rw [Array.mapM_eq_mapM_toList, Sem.run_map, hpl]
      simp only [Result.andThen_ok]
      congr 1
      apply Array.ext'
      simp
    have hpe : (fun i : Nat => ((fds.toList.map fun f => (f.offset, P.cellsOf f.type, aggK P f.type))[i]?).map fun (f : Nat × Nat × Option Bool) => (f.1, f.2.1)) = fun i : Nat => (fds.map fun f => (f.offset, P.cellsOf f.type))[i]? := by
      funext i
      simp only [List.getElem?_map, Array.getElem?_map, Array.getElem?_toList]
      cases fds[i]? <;> rfl
    rw [hpe] at h1
    simp only [Instr.build, Sem.run_bind, run_zeroValue hi' hzv, Result.andThen_ok, run_underlying hu, hpl', h1, Sem.run_pure]
  · have := VRel.agg_of h2
    simpa using this

theorem build_array_sound (S : Sim base w0 A ρ H w) {t : TypeId} {n e es sz : Nat} {z cs : List Value} {parts : List (Nat × Operand)} {ev cev : Operand → Value}
    (ht : aTy P t = .array n e es sz) (hz : azero P t = some z) (hp : ∀ p ∈ parts, VRel ρ (ev p.2) (cev p.2))
    (h : afill (fun i => some (i * es, es)) z (parts.map fun p => (p.1, ev p.2)) = some cs) :
    Done P base w0 A W fl ρ H w (do pure (.value (← Instr.build t (parts.map fun p => (p.1, cev p.2)).toArray))) (.value (.agg cs.toArray)) H := by
  obtain ⟨i, j, hi, hu, rfl, hj, rfl, _⟩ := aTy_array ht
  obtain ⟨i', zv, hi', hzv, rfl, hpl⟩ := azero_some hz
  obtain ⟨r', h1, h2⟩ := fill_sound _ _ _ _ _ zv.cells (LRel.plain hpl) (parts_fst (cev := cev) parts) (parts_map parts hp) h
  refine Done.same S (v' := .agg r') ?_ ?_
  · simp only [Instr.build, Sem.run_bind, run_zeroValue hi' hzv, Result.andThen_ok, run_underlying hu, run_sizeOf hj, h1, Sem.run_pure]
  · have := VRel.agg_of h2
    simpa using this

theorem buildSlice_sound (S : Sim base w0 A ρ H w) (hb : base ≤ H.length) (hfr : ρ H.length = none) {t : TypeId} {e es eb len : Nat} {z cs : List Value} {parts : List (Nat × Operand)} {ev cev : Operand → Value}
    (ht : aTy P t = .slice e es eb) (hlen : len * es ≤ 2 ^ 20) (hz : azero P e = some z) (hp : ∀ p ∈ parts, VRel ρ (ev p.2) (cev p.2))
    (h : afill (fun i => some (i * es, es)) (rowOf z (len * es)) (parts.map fun p => (p.1, ev p.2)) = some cs) :
    Done P base w0 A W fl ρ H w (do pure (.value (← Instr.buildSlice t len (parts.map fun p => (p.1, cev p.2)).toArray))) (.value (.slice (some ⟨H.length, 0, none⟩) len len)) (H ++ [⟨cs, es, true, true⟩]) := by
  obtain ⟨i, j, hi, hu, hj, rfl, rfl, _⟩ := aTy_slice ht
  obtain ⟨i', zv, hi', hzv, rfl, hpl⟩ := azero_some hz
  have hn : ¬ len * j.size > 2 ^ 24 := by omega
  obtain ⟨r', h1, h2⟩ := fill_sound _ _ _ _ _ (madeCells zv.cells (len * j.size)) (by rw [rowOf_madeCells]; exact LRel.plain (plain_rowOf hpl _)) (parts_fst (cev := cev) parts) (parts_map parts hp) h
  have hsz := h2.1
  simp only [Array.length_toList] at hsz
  refine ⟨_, .value (.slice (some ⟨w.heap.size, 0, none⟩) len len), { w with heap := w.heap.push (.cells r' e) }, ?_, ?_,
    Step.new_block S hfr hb cs r' e (0, 0) j.size true ⟨rfl, rfl, rfl, rfl⟩ (by omega) (fun _ => hsz) (fun i _ => by simp) fun i u hu => ?_⟩
  · have hcells : ((Array.range (len * j.size)).map fun x => (if len * j.size = 0 then #[] else zv.cells)[x % (if len * j.size = 0 then #[] else zv.cells).size]!) = madeCells zv.cells (len * j.size) := by
      by_cases h0 : len * j.size = 0
      · rw [h0]; simp [madeCells]
      · simp [h0, madeCells]
    by_cases h0 : len * j.size = 0
    · simp only [h0, if_true] at hcells
      simp only [Instr.buildSlice, Sem.run_bind, run_underlying hu, Result.andThen_ok, run_sizeOf hj, Sem.run_ite, h0, if_true, Sem.run_pure]
      rw [if_neg (by simp)]
      rw [hcells]
      rw [h0] at h1
      simp [h1, newRow]
    · simp only [h0, if_false] at hcells
      simp only [Instr.buildSlice, Sem.run_bind, run_underlying hu, Result.andThen_ok, run_sizeOf hj, hn, Sem.run_ite, if_false, h0, Sem.run_pure, run_zeroValue hi' hzv]
      rw [hcells]
      simp [h1, newRow]
  · have := here_self ρ H.length ⟨w.heap.size, 0, r'.size, cs.length, j.size, true⟩
    exact .slice (o := 0) this ⟨Nat.le_refl _, .inl ⟨rfl, rfl⟩⟩
  · obtain ⟨u', p, q⟩ := h2.get hu
    exact ⟨u', by simpa using p, q⟩

theorem makeSlice_sound (S : Sim base w0 A ρ H w) (hb : base ≤ H.length) (hfr : ρ H.length = none) {t : TypeId} {e es eb : Nat} {kl kc : IntKind} {l c : Int} {z : List Value}
    (ht : aTy P t = .slice e es eb) (hlc : 0 ≤ l ∧ l ≤ c ∧ c ≤ 2 ^ 46 ∧ eb * c ≤ 2 ^ 46) (hz : azero P e = some z) :
    Done P base w0 A W fl ρ H w (do pure (.value (← Instr.makeSlice t (.int kl l) (.int kc c)))) (.value (.slice (some ⟨H.length, 0, none⟩) l.toNat c.toNat)) (H ++ [⟨rowOf z (c.toNat * es), es, true, true⟩]) := by
  obtain ⟨i, j, hi, hu, hj, rfl, rfl, _⟩ := aTy_slice ht
  obtain ⟨i', zv, hi', hzv, rfl, hpl⟩ := azero_some hz
  rw [hj] at hi'; cases hi'
  have hr := run_make (P := P) w t e j zv hu hj hzv kl kc l c hlc.1 hlc.2.1 (by omega) (by omega)
  refine ⟨_, .value (.slice (some ⟨w.heap.size, 0, none⟩) l.toNat c.toNat), w.alloc (.cells (madeCells zv.cells (c.toNat * j.size)) e), by simp [hr], ?_,
    Step.new_block S hfr hb _ (madeCells zv.cells (c.toNat * j.size)) e (0, 0) j.size true ⟨rfl, rfl, rfl, rfl⟩ (by simp [length_rowOf, size_madeCells]) (fun _ => by simp [length_rowOf, size_madeCells]) (fun i _ => by simp) fun i u hu => ?_⟩
  · have := here_self ρ H.length ⟨w.heap.size, 0, (madeCells zv.cells (c.toNat * j.size)).size, (rowOf zv.cells.toList (c.toNat * j.size)).length, j.size, true⟩
    exact .slice (o := 0) this ⟨by omega, .inl ⟨rfl, rfl⟩⟩
  · refine ⟨u, ?_, VRel.plain (List.all_eq_true.1 (plain_rowOf hpl _) u (List.mem_of_getElem? hu))⟩
    rw [← Array.getElem?_toList, rowOf_madeCells]
    exact hu

/-- Cells are stored at a place. -/
theorem storeAt_sound (S : Sim base w0 A ρ H w) (hbf : base ≤ fl) {b o : Nat} {L : Loc} {vs vs' : List Value} {H' : AHeap} (hA : vs ≠ [] → A b ∧ W b) (hL : ρ b = some L)
    (hv : LRel ρ vs vs') (h : storeAt fl H ⟨b, o, none⟩ vs = some H') :
    ∃ w', (storeCells ⟨L.blk, L.off + o, none⟩ vs').run P w = .ok () w' ∧ Step base w0 A W fl ρ H w ρ H' w' := by
  cases vs with
  | nil =>
    rw [hv.inv_nil]
    cases h
    exact ⟨w, by simp [storeCells], Step.same S ⟨rfl, rfl, rfl, rfl⟩⟩
  | cons v vs =>
    simp only [storeAt] at h
    obtain ⟨hA, hW⟩ := hA (by simp)
    cases hB : blk? H b with
    | none => simp [hB] at h
    | some B =>
      simp only [hB] at h
      split at h
      · rename_i hc
        cases h
        obtain ⟨cc, e, fz, h1, h2, h3, h4⟩ := S.cont b L B hA hL hB
        have hst := S.stat b L B hL (blk?_some hB).1
        have hlen := hv.1
        have hone : vs'.all Value.oneCell' = true := by
          rw [List.all_eq_true]
          intro x hx
          obtain ⟨i, hi⟩ := List.getElem?_of_mem hx
          have hi' : i < (v :: vs).length := by
            have := (List.getElem?_eq_some_iff.1 hi).1; omega
          have := hv.2 i _ x (List.getElem?_eq_getElem hi') hi
          rw [this.oneCell]
          exact List.all_eq_true.1 hc.2.2 _ (List.getElem_mem hi')
        obtain ⟨w', p, q⟩ := run_storeCells_row P L.blk (L.off + o) e fz vs' 0 cc w h1 (by omega) (h3 (by omega)) hone
        exact ⟨w', p, Step.store S hbf hA hW hc.1 hL hB hv h1 q⟩
      · cases h

end
end Go.Mach
