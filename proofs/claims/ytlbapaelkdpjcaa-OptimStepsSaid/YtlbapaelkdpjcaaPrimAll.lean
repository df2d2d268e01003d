/- Each operation of the machine is carried out by the model: all of them. No condition. -/
import Derived.Test.YtlbapaelkdpjcaaAppend
namespace Go.Mach
section
variable {P : Program} {base : Nat} {w0 : World} {A W : Nat → Prop} {fl : Nat} {ρ : Ren} {H : AHeap} {w : World}

theorem copy_sound (S : Sim base w0 A ρ H w) (hbf : base ≤ fl) {ats : Array TypeId} {args args' : Array Value} {ty : TypeId} {v : Value} {H' : AHeap}
    (hargs : LRel ρ args.toList args'.toList) (hA : ∀ x ∈ args.toList, ∀ b ∈ blkOf x, A b) (hW : ∀ x, args[0]? = some x → ∀ b ∈ blkOf x, W b)
    (h : copyA P fl ats args H = some (v, H')) : Done P base w0 A W fl ρ H w (do pure (.value (← Builtin.copy_ ats ty args'))) (.value v) H' := by
  unfold copyA at h
  split at h
  case h_2 => cases h
  rename_i dt ba n c x hdt hs hx
  split at h
  case h_2 => cases h
  rename_i e es eb m hsty hlen
  obtain ⟨_, j, _, hu, hj, rfl, rfl, hz0⟩ := aTy_slice hsty
  obtain ⟨sv, hs', hsr⟩ := hargs.get (i := 0) (v := .slice ba n c) (by simpa using hs)
  obtain ⟨x', hx', hxr⟩ := hargs.get (i := 1) (v := x) (by simpa using hx)
  have hs' : args'[0]? = some sv := by simpa using hs'
  have hx' : args'[1]? = some x' := by simpa using hx'
  have mems : Value.slice ba n c ∈ args.toList := List.mem_of_getElem? (i := 0) (by simpa using hs)
  have memx : x ∈ args.toList := List.mem_of_getElem? (i := 1) (by simpa using hx)
  have hlen' := lenOf_run (P := P) hxr hlen w
  cases hnew : firstA H j.size (Nat.min m n) x with
  | none => simp [hnew] at h
  | some new =>
  simp only [hnew] at h
  obtain ⟨new', hrn, hnr, hnl⟩ := firstA_sound (P := P) S hxr (fun l hl => by rw [hlen] at hl; cases hl; exact Nat.min_le_left _ _) (hA x memx) hnew
  cases ba with
  | none =>
    cases h
    cases hsr
    refine Done.same S ?_ (.int _ _)
    simp [Builtin.copy_, hdt, hs', hx', Sem.run_bind, run_underlying hu, hlen', run_sizeOf hj, hrn w rfl, goInt]
  | some a =>
    obtain ⟨b, o, s⟩ := a
    obtain ⟨rfl, L, o', c', hL, hf, rfl⟩ := slice_inv hsr
    cases hst2 : storeAt fl H ⟨b, o, none⟩ new with
    | none => simp [hst2] at h
    | some H2 =>
      simp [hst2] at h
      obtain ⟨rfl, rfl⟩ := h
      by_cases hne : new = []
      · subst hne
        have := hnr.inv_nil; subst this
        simp only [storeAt, Option.some.injEq] at hst2
        subst hst2
        refine Done.same S ?_ (.int _ _)
        simp [Builtin.copy_, hdt, hs', hx', Sem.run_bind, run_underlying hu, hlen', run_sizeOf hj, hrn w rfl, goInt, storeCells]
      · have ho : o' = L.off + o := by
          rcases hf.2 with ⟨h1, _⟩ | ⟨_, h1, _⟩ | ⟨_, h1, h2, h3⟩
          · exact h1
          · exact h1
          · exfalso
            subst h1
            exact hne (List.eq_nil_of_length_eq_zero (by simpa using hnl))
        subst ho
        obtain ⟨w', hrun, hstep⟩ := storeAt_sound (P := P) S hbf (fun _ => ⟨hA _ mems b (by simp [blkOf]), hW _ hs b (by simp [blkOf])⟩) hL hnr hst2
        refine ⟨ρ, .value (.int .i64 (Nat.min m n)), w', ?_, .int _ _, hstep⟩
        simp [Builtin.copy_, hdt, hs', hx', Sem.run_bind, run_underlying hu, hlen', run_sizeOf hj, hrn w rfl, goInt, hrun]

theorem len_sound (S : Sim base w0 A ρ H w) {ats : Array TypeId} {args args' : Array Value} {ty : TypeId} {v : Value}
    (hargs : LRel ρ args.toList args'.toList) (h : lenOfA P ats args = some v) : Done P base w0 A W fl ρ H w (do pure (.value (← Builtin.len_ ats ty args'))) (.value v) H := by
  unfold lenOfA at h
  split at h
  case h_2 => cases h
  rename_i t x ht hx
  obtain ⟨x', hx', hxr⟩ := hargs.get (i := 0) (v := x) (by simpa using hx)
  have hx' : args'[0]? = some x' := by simpa using hx'
  split at h
  · rename_i s hty
    cases h; cases hxr
    exact Done.same S (by simp [Builtin.len_, ht, hx', Sem.run_bind, run_underlying (aTy_str hty), goInt]) (.int _ _)
  · rename_i n e es sz hty
    cases h
    obtain ⟨i, j, _, hu, _⟩ := aTy_array hty
    exact Done.same S (by simp [Builtin.len_, ht, hx', Sem.run_bind, run_underlying hu, goInt]) (.int _ _)
  · rename_i e es eb a n c hty
    cases h
    obtain ⟨i, j, _, hu, _⟩ := aTy_slice hty
    have : ∃ a' c', x' = .slice a' n c' := by cases hxr <;> exact ⟨_, _, rfl⟩
    obtain ⟨a', c', rfl⟩ := this
    exact Done.same S (by simp [Builtin.len_, ht, hx', Sem.run_bind, run_underlying hu, goInt]) (.int _ _)
  · cases h

theorem max2_sound {x y z x' y' : Value} (hx : VRel ρ x x') (hy : VRel ρ y y') (h : max2A x y = some z) : (Builtin.max2 x' y').run P w = .ok z w ∧ VRel ρ z z := by
  unfold max2A at h
  split at h
  · cases h; cases hx; cases hy; exact ⟨by simp [Builtin.max2], .int _ _⟩
  · cases h
theorem min2_sound {x y z x' y' : Value} (hx : VRel ρ x x') (hy : VRel ρ y y') (h : min2A x y = some z) : (Builtin.min2 x' y').run P w = .ok z w ∧ VRel ρ z z := by
  unfold min2A at h
  split at h
  · cases h; cases hx; cases hy; exact ⟨by simp [Builtin.min2], .int _ _⟩
  · cases h

theorem fold_sound {f : Value → Value → Option Value} {g : Value → Value → Sem Value}
    (hf : ∀ {x y z x' y' : Value}, VRel ρ x x' → VRel ρ y y' → f x y = some z → (g x' y').run P w = .ok z w ∧ VRel ρ z z) :
    ∀ (l l' : List Value) (x x' v : Value), VRel ρ x x' → LRel ρ l l' → foldA f x l = some v → ∃ v', (l'.foldlM g x').run P w = .ok v' w ∧ VRel ρ v v'
  | [], l', x, x', v, hx, hl, h => by
    rw [hl.inv_nil]; cases h; exact ⟨x', by simp, hx⟩
  | y :: l, l', x, x', v, hx, hl, h => by
    obtain ⟨y', ys, rfl, hy, ht⟩ := hl.inv
    simp only [foldA] at h
    cases hz : f x y with
    | none => simp [hz] at h
    | some z =>
      simp only [hz] at h
      obtain ⟨h1, h2⟩ := hf hx hy hz
      obtain ⟨v', p, q⟩ := fold_sound hf l ys z z v h2 ht h
      exact ⟨v', by simp [List.foldlM_cons, Sem.run_bind, h1, p], q⟩

theorem bytesOfCells_some : ∀ {cs : List Value} {l : List UInt8}, bytesOfCells cs = some l → ∃ ns : List Int, cs = ns.map (Value.int .u8) ∧ l = ns.map fun z => UInt8.ofNat z.toNat
  | [], l, h => by cases h; exact ⟨[], rfl, rfl⟩
  | v :: cs, l, h => by
    unfold bytesOfCells at h
    split at h
    · rename_i he; cases he
    · rename_i z l' he
      cases he
      cases hb : bytesOfCells cs with
      | none => simp [hb] at h
      | some r =>
        simp [hb] at h
        obtain ⟨ns, h1, h2⟩ := bytesOfCells_some hb
        exact ⟨z :: ns, by simp [h1], by simp [← h, h2]⟩
    · cases h

theorem push_bytes : ∀ (ns : List Int) (r : ByteArray), ns.foldl (fun r n => r.push (UInt8.ofNat n.toNat)) r = ⟨r.data ++ (ns.map fun z => UInt8.ofNat z.toNat).toArray⟩
  | [], r => by simp
  | n :: ns, r => by
    rw [List.foldl_cons, push_bytes ns]
    simp [ByteArray.push]

theorem conv_sound (S : Sim base w0 A ρ H w) (hb : base ≤ H.length) {s d : TypeId} {x x' v : Value} {H' : AHeap} (hfr : H.length < H'.length → ρ H.length = none) (hx : VRel ρ x x') (hA : ∀ b ∈ blkOf x, A b)
    (h : convA P s d x H = some (v, H')) : Done P base w0 A W fl ρ H w (do pure (.value (← convert s d x'))) (.value v) H' := by
  unfold convA at h
  split at h
  · rename_i u k k0 n hs hd
    cases h; cases hx
    exact Done.same S (by simp [convert, Sem.run_bind, run_underlying hs, run_underlying hd, Conv.intToInt]) (.int _ _)
  · rename_i u b hs hd
    cases h; cases hx
    exact Done.same S (by simp [convert, Sem.run_bind, run_underlying hs, run_underlying hd]) (.string _)
  · rename_i e b hs hd
    cases hx
    split at h
    · rename_i he
      split at h
      · cases h
        have hfr := hfr (by simp)
        have hr : (convert s d (.string b)).run P w = .ok (.slice (some ⟨w.heap.size, 0, none⟩) b.size (grownCap w b.size 0 e))
            (w.drew.alloc (.cells (bytesRow b (grownCap w b.size 0 e)) e ((bytesRow b (grownCap w b.size 0 e)).size, (bytesRow b (grownCap w b.size 0 e)).size + 1))) := by
          exact run_bytes_of_string (P := P) w s d e b hs hd he
        have hge := grownCap_ge w b.size 0 e
        have hbs : (bytesRow b (grownCap w b.size 0 e)).size = grownCap w b.size 0 e := by
          have : b.data.size = b.size := rfl
          simp only [bytesRow, Array.size_append, Array.size_map, Array.size_replicate, this]; omega
        have hbl : (b.data.toList.map fun c => Value.int .u8 c.toNat).length = b.size := by rw [List.length_map, Array.length_toList]; rfl
        refine ⟨_, .value (.slice (some ⟨w.heap.size, 0, none⟩) b.size (grownCap w b.size 0 e)), w.drew.alloc (.cells (bytesRow b (grownCap w b.size 0 e)) e ((bytesRow b (grownCap w b.size 0 e)).size, (bytesRow b (grownCap w b.size 0 e)).size + 1)), by simp [hr], ?_,
          Step.new_block S hfr hb _ (bytesRow b (grownCap w b.size 0 e)) e
          ((bytesRow b (grownCap w b.size 0 e)).size, (bytesRow b (grownCap w b.size 0 e)).size + 1) 1 false ⟨rfl, rfl, rfl, rfl⟩ (by rw [hbl, hbs]; exact hge) (fun h => by cases h) (fun i hi h => Nat.not_lt.2 h.1 hi) fun i u hu => ?_⟩
        · refine .slice (o := 0) (here_self ρ H.length _) ⟨Nat.le_refl _, .inr (.inl ⟨rfl, rfl, ?_, hge, ?_⟩)⟩
          · rw [hbl]; simp
          · show (b.data.toList.map fun c => Value.int .u8 c.toNat).length + _ ≤ (bytesRow b (grownCap w b.size 0 e)).size
            rw [hbl, hbs, Nat.mul_one]; omega
        · have hi := (List.getElem?_eq_some_iff.1 hu).1
          obtain ⟨x, hx, rfl⟩ := list_map_get hu
          refine ⟨_, ?_, .int _ _⟩
          unfold bytesRow
          rw [Array.getElem?_append_left (by simpa using hi)]
          simp at hx
          simp [hx]
      · cases h
    · cases h
  · rename_i e a n c hs hd
    split at h
    · rename_i he
      cases h; cases hx
      exact Done.same S (by simp [convert, Sem.run_bind, run_underlying hs, run_underlying hd, run_underlying he, Conv.bytesToString]) (.string _)
    · rename_i a he
      split at h
      · rename_i h0
        cases h
        subst h0
        have : ∃ a' c', x' = .slice a' 0 c' := by cases hx; exact ⟨_, _, rfl⟩
        obtain ⟨a', c', rfl⟩ := this
        refine Done.same S ?_ (.string _)
        rw [run_convert_bytes_string w s d e a' 0 c' hs he hd]
        cases a' with
        | none => simp [Conv.bytesToString]
        | some a' =>
          rw [run_bytesToString w a' 0 c' [] (by simp [loadCells, loadCellsFrom])]
          rfl
      · rename_i h0
        obtain ⟨b, o, st⟩ := a
        obtain ⟨rfl, L, o', c', hL, hf, rfl⟩ := slice_inv hx
        have ho : o' = L.off + o := by
          rcases hf.2 with ⟨h1, _⟩ | ⟨_, h1, _⟩ | ⟨_, h1, _⟩
          · exact h1
          · exact h1
          · omega
        subst ho
        cases hc : cellsAt H ⟨b, o, none⟩ n with
        | none => simp [hc] at h
        | some cs =>
          simp only [hc] at h
          cases hbc : bytesOfCells cs with
          | none => simp [hbc] at h
          | some l =>
            simp [hbc] at h
            obtain ⟨rfl, rfl⟩ := h
            obtain ⟨ns, rfl, rfl⟩ := bytesOfCells_some hbc
            obtain ⟨cs', hr, hl, hw⟩ := cells_rel S (hA b (by simp [blkOf])) hL hc
            have hcs : cs' = ns.map (Value.int .u8) := by
              apply List.ext_getElem?
              intro i
              cases hi : (ns.map (Value.int .u8))[i]? with
              | none => rw [List.getElem?_eq_none_iff] at hi ⊢; have := hr.1; omega
              | some u =>
                obtain ⟨z, _, rfl⟩ := list_map_get hi
                obtain ⟨u', p, q⟩ := hr.get hi
                rw [p]; cases q; rfl
            subst hcs
            have hld := run_loadCells_list (P := P) w ⟨L.blk, L.off + o, none⟩ (ns.map (Value.int .u8)) hw
            rw [hl] at hld
            refine Done.same S ?_ (.string _)
            rw [run_convert_bytes_string w s d e _ n c' hs he hd, run_bytesToString w _ n c' ns hld, push_bytes]
            simp
    · cases h
  · cases h

theorem map_rel {ev cev : Operand → Value} (xs : Array Operand) (h : ∀ x ∈ xs, VRel ρ (ev x) (cev x)) : LRel ρ (xs.map ev).toList (xs.map cev).toList := by
  refine ⟨by simp, fun i v v' a b => ?_⟩
  simp only [Array.toList_map, List.getElem?_map, Array.getElem?_toList] at a b
  cases hx : xs[i]? with
  | none => simp [hx] at a
  | some x =>
    simp [hx] at a b
    subst a; subst b
    exact h x (Array.mem_of_getElem? hx)

theorem orel_map {ev cev : Operand → Value} (o : Option Operand) (h : ∀ x ∈ o.toArray, VRel ρ (ev x) (cev x)) : ORelV ρ (o.map ev) (o.map cev) := by
  cases o with
  | none => trivial
  | some x => exact h x (by simp)

theorem call_sound (S : Sim base w0 A ρ H w) (hbf : base ≤ fl) (hb : base ≤ H.length) {o : Oper} {c : Call} (ho : o.op = .call c) {ev cev : Operand → Value} {r : ANext} {H' : AHeap}
    (hfr : ∀ id, H.length ≤ id → id < H'.length → ρ id = none)
    (hv : ∀ x ∈ c.operands, VRel ρ (ev x) (cev x)) (hA : ∀ b ∈ accOf o.op ev, A b) (hW : ∀ b ∈ wrOf o.op ev, W b) (h : callA P fl c ev H = some (r, H')) :
    Done P base w0 A W fl ρ H w (execOp cev o) r H' := by
  have hargs : LRel ρ (c.args.map ev).toList (c.args.map cev).toList := map_rel c.args fun x hx => hv x (by simp [Call.operands, hx])
  obtain ⟨cal, args, ats⟩ := c
  simp only [execOp, ho]
  rw [ho] at hA hW
  unfold callA at h
  cases cal with
  | invoke rv m => simp at h
  | value f =>
    have hf := hv f (by simp [Call.operands])
    simp only at h
    split at h
    · rename_i g first captured hef
      split at h
      · rename_i hg
        cases h
        rw [hef] at hf
        obtain ⟨first', captured', hcf, h1, h2⟩ := hf.func_inv
        refine ⟨ρ, .enter g (first' ++ args.map cev ++ captured'), w, ?_, ⟨rfl, ?_⟩, Step.same S ⟨rfl, rfl, rfl, rfl⟩⟩
        · simp only [resolve, hcf, Deferred.ofValue, Sem.run_bind, Sem.run_pure, Result.andThen_ok, invoke, callFunc, run_program]
          unfold goodFn at hg
          cases hfn : P.funcs[g]? with
          | none => simp [hfn] at hg
          | some fn =>
            simp only [hfn, Bool.and_eq_true, bne_iff_ne, ne_eq] at hg
            have hbn : fn.body.isNone = false := by cases hb : fn.body <;> simp_all
            have hne : (fn.name == "runtime.NumGoroutine") = false := by simpa using hg.1
            simp [hne, hbn]
        · simpa using (h1.append hargs).append h2
      · cases h
    · cases h
  | builtin b =>
    cases b <;> simp only at h <;> try (cases h; done)
    case len =>
      cases hl : lenOfA P ats (args.map ev) with
      | none => simp [hl] at h
      | some v =>
        simp [hl] at h
        obtain ⟨rfl, rfl⟩ := h
        have := len_sound (P := P) (W := W) (fl := fl) (ty := o.type) S hargs hl
        simpa [resolve, invoke, builtin] using this
    case append =>
      cases hl : appendA P fl ats (args.map ev) H with
      | none => simp [hl] at h
      | some v =>
        simp [hl] at h
        obtain ⟨rfl, rfl⟩ := h
        have hA' : ∀ x ∈ (args.map ev).toList, ∀ b ∈ blkOf x, A b := fun x hx b hb => hA b (List.mem_flatMap.2 ⟨x, hx, hb⟩)
        have hW' : ∀ x, (args.map ev)[0]? = some x → ∀ b ∈ blkOf x, W b := fun x hx b hb => hW b (by simp only [wrOf, hx]; exact hb)
        have := append_sound (P := P) (ty := o.type) (v := v.1) (H' := v.2) S hbf hb (fun hlt => hfr _ (Nat.le_refl _) hlt) hargs hA' hW' hl
        simpa [resolve, invoke, builtin] using this
    case copy =>
      cases hl : copyA P fl ats (args.map ev) H with
      | none => simp [hl] at h
      | some v =>
        simp [hl] at h
        obtain ⟨rfl, rfl⟩ := h
        have hA' : ∀ x ∈ (args.map ev).toList, ∀ b ∈ blkOf x, A b := fun x hx b hb => hA b (List.mem_flatMap.2 ⟨x, hx, hb⟩)
        have hW' : ∀ x, (args.map ev)[0]? = some x → ∀ b ∈ blkOf x, W b := fun x hx b hb => hW b (by simp only [wrOf, hx]; exact hb)
        have := copy_sound (P := P) (ty := o.type) (v := v.1) (H' := v.2) S hbf hargs hA' hW' hl
        simpa [resolve, invoke, builtin] using this
    case max =>
      cases hl : (args.map ev).toList with
      | nil => simp only [hl] at h; cases h
      | cons x l =>
        simp only [hl] at h hargs
        cases hz : foldA max2A x l with
        | none => simp [hz] at h
        | some v =>
          simp [hz] at h
          obtain ⟨rfl, rfl⟩ := h
          obtain ⟨x', l', hl', hx, ht⟩ := hargs.inv
          obtain ⟨v', p, q⟩ := fold_sound (P := P) (w := w) max2_sound l l' x x' v hx ht hz
          have := Done.same (P := P) (W := W) (fl := fl) S (s := Builtin.max_ ats o.type (args.map cev)) (v' := v') (by simp only [Builtin.max_, hl', p]) q
          simpa [resolve, invoke, builtin] using this
    case min =>
      cases hl : (args.map ev).toList with
      | nil => simp only [hl] at h; cases h
      | cons x l =>
        simp only [hl] at h hargs
        cases hz : foldA min2A x l with
        | none => simp [hz] at h
        | some v =>
          simp [hz] at h
          obtain ⟨rfl, rfl⟩ := h
          obtain ⟨x', l', hl', hx, ht⟩ := hargs.inv
          obtain ⟨v', p, q⟩ := fold_sound (P := P) (w := w) min2_sound l l' x x' v hx ht hz
          have := Done.same (P := P) (W := W) (fl := fl) S (s := Builtin.min_ ats o.type (args.map cev)) (v' := v') (by simp only [Builtin.min_, hl', p]) q
          simpa [resolve, invoke, builtin] using this

/-- ONE OPERATION OF THE MACHINE IS CARRIED OUT BY THE MODEL. -/
theorem prim_sound (S : Sim base w0 A ρ H w) (hbf : base ≤ fl) (hb : base ≤ H.length) {o : Oper} {ev cev : Operand → Value} {r : ANext} {H' : AHeap}
    (hfr : ∀ id, H.length ≤ id → id < H'.length → ρ id = none)
    (hv : ∀ x ∈ o.op.operands, VRel ρ (ev x) (cev x)) (hA : ∀ b ∈ accOf o.op ev, A b) (hW : ∀ b ∈ wrOf o.op ev, W b) (h : prim P fl o.op ev H = some (r, H')) :
    Done P base w0 A W fl ρ H w (execOp cev o) r H' := by
  obtain ⟨dst, op, type, pos, after, guard⟩ := o
  simp only at h hv hA hW
  cases op <;> simp only [prim] at h <;> try (cases h; done)
  case move x =>
    cases h
    exact ⟨ρ, .value (cev x), w, by simp [execOp], hv x (by simp [Op.operands]), Step.same S ⟨rfl, rfl, rfl, rfl⟩⟩
  case assign x =>
    cases h
    exact ⟨ρ, .value (cev x), w, by simp [execOp], hv x (by simp [Op.operands]), Step.same S ⟨rfl, rfl, rfl, rfl⟩⟩
  case pick c a b =>
    have h1 := hv c (by simp [Op.operands])
    have h2 := hv a (by simp [Op.operands])
    have h3 := hv b (by simp [Op.operands])
    split at h
    · rename_i d hd
      cases h
      rw [hd] at h1
      have h1' : cev c = .bool d := by
        generalize cev c = u at h1
        cases h1; rfl
      cases d
      · exact ⟨ρ, .value (cev b), w, by simp [execOp, h1', asBool], h3, Step.same S ⟨rfl, rfl, rfl, rfl⟩⟩
      · exact ⟨ρ, .value (cev a), w, by simp [execOp, h1', asBool], h2, Step.same S ⟨rfl, rfl, rfl, rfl⟩⟩
    · cases h
  case alloc t =>
    split at h
    · cases h
      exact alloc_sound S hb (hfr _ (Nat.le_refl _) (by simp)) ‹_›
    · cases h
  case box t x =>
    cases h
    exact box_sound S hb (hfr _ (Nat.le_refl _) (by simp)) (hv x (by simp [Op.operands]))
  case build t parts =>
    have hp : ∀ p ∈ parts.toList, VRel ρ (ev p.2) (cev p.2) := fun p hp => hv p.2 (by simp [Op.operands]; exact ⟨_, by simpa using hp⟩)
    have harr : (parts.map fun (p : Nat × Operand) => (p.1, cev p.2)) = (parts.toList.map fun p => (p.1, cev p.2)).toArray := by
      apply Array.ext'; simp
    split at h
    · split at h
      · cases h
        have := build_struct_sound (P := P) (W := W) (fl := fl) S ‹_› ‹_› hp ‹_›
        simp only [execOp]
        rw [show (parts.map fun (x : Nat × Operand) => match x with | (i, x) => (i, cev x)) = (parts.toList.map fun p => (p.1, cev p.2)).toArray from harr]
        exact this
      · cases h
    · split at h
      · cases h
        have := build_array_sound (P := P) (W := W) (fl := fl) S ‹_› ‹_› hp ‹_›
        simp only [execOp]
        rw [show (parts.map fun (x : Nat × Operand) => match x with | (i, x) => (i, cev x)) = (parts.toList.map fun p => (p.1, cev p.2)).toArray from harr]
        exact this
      · cases h
    · cases h
  case buildSlice t len parts =>
    have hp : ∀ p ∈ parts.toList, VRel ρ (ev p.2) (cev p.2) := fun p hp => hv p.2 (by simp [Op.operands]; exact ⟨_, by simpa using hp⟩)
    have harr : (parts.map fun (p : Nat × Operand) => (p.1, cev p.2)) = (parts.toList.map fun p => (p.1, cev p.2)).toArray := by
      apply Array.ext'; simp
    split at h
    · split at h
      · split at h
        · split at h
          · cases h
            have := buildSlice_sound (P := P) (W := W) (fl := fl) S hb (hfr _ (Nat.le_refl _) (by simp)) ‹_› ‹_› ‹_› hp ‹_›
            simp only [execOp]
            rw [show (parts.map fun (x : Nat × Operand) => match x with | (i, x) => (i, cev x)) = (parts.toList.map fun p => (p.1, cev p.2)).toArray from harr]
            exact this
          · cases h
        · cases h
      · cases h
    · cases h
  case load t a =>
    have ha := hv a (by simp [Op.operands])
    split at h
    · rename_i p hp
      obtain ⟨b, o, s⟩ := p
      rw [hp] at ha
      have hAb : A b := hA b (by simp [accOf, hp, blkOf])
      generalize hc : cev a = u at ha
      obtain ⟨rfl, L, hL, rfl⟩ := ptr_inv ha
      cases hl : loadA P t H ⟨b, o, none⟩ with
      | none => simp [hl] at h
      | some v =>
        simp [hl] at h
        obtain ⟨rfl, rfl⟩ := h
        obtain ⟨v', hr, hvr⟩ := run_loadVar S hAb hL hl
        exact ⟨ρ, .value v', w, by simp [execOp, hc, Instr.loadAt, Instr.sureAddr, hr], hvr, Step.same S ⟨rfl, rfl, rfl, rfl⟩⟩
    · cases h
  case store t a x =>
    have ha := hv a (by simp [Op.operands])
    have hx := hv x (by simp [Op.operands])
    split at h
    · rename_i p hp
      obtain ⟨b, o, s⟩ := p
      rw [hp] at ha
      have hAb : A b := hA b (by simp [accOf, hp, blkOf])
      have hWb : W b := hW b (by simp [wrOf, hp, blkOf])
      generalize hc : cev a = u at ha
      obtain ⟨rfl, L, hL, rfl⟩ := ptr_inv ha
      cases hl : storeA P fl t H ⟨b, o, none⟩ (ev x) with
      | none => simp [hl] at h
      | some H2 =>
        simp [hl] at h
        obtain ⟨rfl, rfl⟩ := h
        unfold storeA at hl
        split at hl
        · rename_i hsz
          obtain ⟨w', hr, hst⟩ := storeAt_sound (P := P) S hbf (fun _ => ⟨hAb, hWb⟩) hL hx.cells hl
          refine ⟨ρ, .skip, w', ?_, trivial, hst⟩
          have hs2 : (cev x).cells.size = (ev x).cells.size := by have := hx.cells.1; simpa using this.symm
          have hne : aTy P t ≠ .other := by intro he; simp [sizeA, he] at hsz
          obtain ⟨i, d, hi, hd⟩ := aTy_parts hne
          have his : i.size = (ev x).cells.size := by
            have hcs : P.cellsOf t = i.size := by simp [Program.cellsOf, hi]
            unfold sizeA at hsz
            rw [hcs] at hsz
            split at hsz
            · cases hsz
            · simpa using hsz
          simp [execOp, hc, Instr.storeAt, Instr.sureAddr, storeVar, run_sizeOf hi, hs2, his, hr]
        · cases hl
    · cases h
  case nilCheck x =>
    have hx := hv x (by simp [Op.operands])
    split at h
    · rename_i a ha
      cases h
      rw [ha] at hx
      generalize hc : cev x = u at hx
      obtain ⟨b, o, s⟩ := a
      have hx' := hx
      obtain ⟨rfl, L, hL, rfl⟩ := ptr_inv hx
      exact ⟨ρ, .value (.pointer (some ⟨L.blk, L.off + o, none⟩)), w, by simp [execOp, hc], hx', Step.same S ⟨rfl, rfl, rfl, rfl⟩⟩
    · rename_i f a b ha
      cases h
      rw [ha] at hx
      generalize hc : cev x = u at hx
      obtain ⟨xs, ys, rfl, h1, h2⟩ := hx.func_inv
      exact ⟨ρ, .value (.func (.func f) xs ys), w, by simp [execOp, hc], hx, Step.same S ⟨rfl, rfl, rfl, rfl⟩⟩
    · cases h
  case binOp op t x y yt =>
    have hx := hv x (by simp [Op.operands])
    have hy := hv y (by simp [Op.operands])
    cases hb2 : bin2A P op t (isConst x || isConst y) (ev x) (ev y) with
    | none => simp [hb2] at h
    | some v =>
      simp [hb2] at h
      obtain ⟨rfl, rfl⟩ := h
      obtain ⟨p, q⟩ := bin2_sound (P := P) (ox := x) (oy := y) hx hy hb2 (by simp) w
      exact Done.same S p q
  case unOp op t x =>
    have hx := hv x (by simp [Op.operands])
    cases hu : aUn op (ev x) with
    | none => simp [hu] at h
    | some v =>
      simp [hu] at h
      obtain ⟨rfl, rfl⟩ := h
      obtain ⟨p, q⟩ := aUn_sound (P := P) hx hu w
      exact Done.same S p q
  case convert s d x =>
    have hx := hv x (by simp [Op.operands])
    cases hc : convA P s d (ev x) H with
    | none => simp [hc] at h
    | some v =>
      simp [hc] at h
      obtain ⟨rfl, rfl⟩ := h
      exact conv_sound S hb (v := v.1) (H' := v.2) (fun hlt => hfr _ (Nat.le_refl _) hlt) hx (fun b hb => hA b (by simpa [accOf] using hb)) hc
  case makeFunc fn first captured =>
    cases h
    refine Done.same S (v' := .func fn (first.map cev) (captured.map cev)) (by simp [Instr.makeFunc]) (VRel.func_of fn ?_ ?_)
    · exact map_rel first fun x hx => hv x (by simp [Op.operands, hx])
    · exact map_rel captured fun x hx => hv x (by simp [Op.operands, hx])
  case makeSlice t l c =>
    have hl := hv l (by simp [Op.operands])
    have hc := hv c (by simp [Op.operands])
    split at h
    · rename_i e es eb kl l' kc c' ht h1 h2
      rw [h1] at hl; rw [h2] at hc
      split at h
      · split at h
        · cases h
          have := makeSlice_sound (P := P) (W := W) (fl := fl) (kl := kl) (kc := kc) S hb (hfr _ (Nat.le_refl _) (by simp)) ht ‹_› ‹_›
          have e1 : cev l = .int kl l' := by generalize cev l = u at hl; cases hl; rfl
          have e2 : cev c = .int kc c' := by generalize cev c = u at hc; cases hc; rfl
          simp only [execOp, e1, e2]
          exact this
        · cases h
      · cases h
    · cases h
  case slice t x lo hi mx =>
    have hx := hv x (by simp [Op.operands])
    cases hs : sliceA P t (ev x) (lo.map ev) (hi.map ev) (mx.map ev) H with
    | none => simp [hs] at h
    | some v =>
      simp [hs] at h
      obtain ⟨rfl, rfl⟩ := h
      obtain ⟨v', p, q⟩ := slice_sound (P := P) S hx (orel_map lo fun y hy => hv y (by simp [Op.operands] at hy ⊢; simp [hy])) (orel_map hi fun y hy => hv y (by simp [Op.operands] at hy ⊢; simp [hy]))
        (orel_map mx fun y hy => hv y (by simp [Op.operands] at hy ⊢; simp [hy])) hs
      exact Done.same S p q
  case fieldAddr s x f =>
    have hx := hv x (by simp [Op.operands])
    cases hs : fieldAddrA P s (ev x) f with
    | none => simp [hs] at h
    | some v =>
      simp [hs] at h
      obtain ⟨rfl, rfl⟩ := h
      obtain ⟨v', p, q⟩ := fieldAddr_sound (P := P) hx hs w
      exact Done.same S p q
  case field t x f =>
    have hx := hv x (by simp [Op.operands])
    cases hs : fieldA P t (ev x) f with
    | none => simp [hs] at h
    | some v =>
      simp [hs] at h
      obtain ⟨rfl, rfl⟩ := h
      obtain ⟨v', p, q⟩ := field_sound (P := P) hx hs w
      exact Done.same S p q
  case indexAddr t x ix =>
    have hx := hv x (by simp [Op.operands])
    have hy := hv ix (by simp [Op.operands])
    cases hs : indexAddrA P t (ev x) (ev ix) with
    | none => simp [hs] at h
    | some v =>
      simp [hs] at h
      obtain ⟨rfl, rfl⟩ := h
      obtain ⟨v', p, q⟩ := indexAddr_sound (P := P) hx hy hs w
      exact Done.same S p q
  case index t x ix =>
    have hx := hv x (by simp [Op.operands])
    have hy := hv ix (by simp [Op.operands])
    cases hs : indexA P t (ev x) (ev ix) with
    | none => simp [hs] at h
    | some v =>
      simp [hs] at h
      obtain ⟨rfl, rfl⟩ := h
      obtain ⟨v', p, q⟩ := index_sound (P := P) hx hy hs w
      exact Done.same S p q
  case extract x i =>
    have hx := hv x (by simp [Op.operands])
    split at h
    · rename_i vs hvs
      rw [hvs] at hx
      generalize hc : cev x = u at hx
      obtain ⟨ys, rfl, hr⟩ := hx.tuple_inv
      cases hg : vs[i]? with
      | none => simp [hg] at h
      | some v =>
        simp [hg] at h
        obtain ⟨rfl, rfl⟩ := h
        obtain ⟨v', p, q⟩ := hr.get (i := i) (v := v) (by simpa using hg)
        have p' : ys[i]? = some v' := by simpa using p
        exact Done.same S (v' := v') (by simp [Instr.extract, hc, p']) q
    · cases h
  case makeInterface t x =>
    have hx := hv x (by simp [Op.operands])
    split at h
    · cases h
    · rename_i d hnd hu
      cases h
      refine Done.same S (v' := .iface t (cev x)) ?_ (.iface t hx)
      simp only [Instr.makeInterface, Sem.run_bind, run_underlying hu, Result.andThen_ok]
      cases d <;> first | rfl | exact absurd rfl (hnd _)
    · cases h
  case call c =>
    exact call_sound S hbf hb rfl hfr (fun x hx => hv x (by simpa [Op.operands] using hx)) hA hW h

end
end Go.Mach
