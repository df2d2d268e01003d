/- append and copy of the machine are carried out by the model. No condition. -/
import Derived.Test.YtlbapaelkdpjcaaHeap
namespace Go.Mach
section
variable {P : Program} {base : Nat} {w0 : World} {A W : Nat → Prop} {fl : Nat} {ρ : Ren} {H : AHeap} {w : World}

theorem cell_heap {w w1 : World} (h : w1.heap = w.heap) (a : Addr) : w1.cell? a = w.cell? a := by simp [World.cell?, h]

theorem lenOf_run {x x' : Value} {m : Nat} (hx : VRel ρ x x') (h : lenA x = some m) (w : World) : (Builtin.lenOf x').run P w = .ok m w := by
  cases hx <;> simp only [lenA] at h <;> cases h <;> rfl

theorem firstA_sound (S : Sim base w0 A ρ H w) {x x' : Value} {es m : Nat} {new : List Value} (hx : VRel ρ x x') (hm : ∀ l, lenA x = some l → m ≤ l)
    (hA : ∀ b ∈ blkOf x, A b) (h : firstA H es m x = some new) :
    ∃ new' : List Value, (∀ w1 : World, w1.heap = w.heap → (Builtin.firstCells es m x').run P w1 = .ok new'.toArray w1) ∧ LRel ρ new new' ∧ new.length = m * es := by
  unfold firstA at h
  split at h
  · rename_i a n c
    obtain ⟨b, o, s⟩ := a
    obtain ⟨rfl, L, o', c', hL, hf, rfl⟩ := slice_inv hx
    split at h
    · rename_i h0
      cases h
      refine ⟨[], fun w1 _ => ?_, LRel.nil ρ, by simp [h0]⟩
      simp only [Builtin.firstCells, h0]
      simp [loadCells, loadCellsFrom]
    · rename_i h0
      have hm0 : 0 < m := Nat.pos_of_ne_zero fun e => h0 (by rw [e]; simp)
      have hml := hm n rfl
      have ho : o' = L.off + o := by
        rcases hf.2 with ⟨h1, _⟩ | ⟨_, h1, _⟩ | ⟨_, h1, _⟩
        · exact h1
        · exact h1
        · omega
      subst ho
      obtain ⟨cs', hr, hl, hw⟩ := cells_rel S (hA b (by simp [blkOf])) hL h
      refine ⟨cs', fun w1 hw1 => ?_, hr, hl⟩
      have hlen : cs'.length = m * es := by rw [← hr.1, hl]
      exact run_firstCells_some (P := P) w1 es m _ n c' cs' hlen fun j v hv => by rw [cell_heap hw1]; exact hw j v hv
  · split at h
    · rename_i h0
      cases h
      cases hx
      exact ⟨[], fun w1 _ => by simp [Builtin.firstCells], LRel.nil ρ, by simp [h0]⟩
    · cases h
  · rename_i s
    cases hx
    split at h
    · rename_i he
      subst he
      cases h
      have := hm s.size rfl
      have h2 : (s.extract 0 m).size = m := by rw [ByteArray.size_extract]; omega
      simp only [Builtin.firstCells]
      generalize s.extract 0 m = c at h2 ⊢
      refine ⟨c.data.toList.map fun b => .int .u8 b.toNat, fun w1 _ => ?_, LRel.plain ?_, ?_⟩
      · simp only [Sem.run_pure]
        congr 1
        apply Array.ext'
        simp
      · rw [List.all_eq_true]
        intro v hv
        obtain ⟨b, _, rfl⟩ := List.mem_map.1 hv
        rfl
      · rw [List.length_map, Array.length_toList, Nat.mul_one]; exact h2
    · cases h
  · cases h

theorem kill_sound (S : Sim base w0 A ρ H w) {es : Nat} {ba : Option Addr} {H' : AHeap} (hW : ∀ a, ba = some a → W a.block) (h : killA fl H es ba = some H') :
    Step base w0 A W fl ρ H w ρ H' w ∧ H'.length = H.length := by
  unfold killA at h
  split at h
  · cases h; exact ⟨Step.same S ⟨rfl, rfl, rfl, rfl⟩, rfl⟩
  · rename_i a
    split at h
    · rename_i B hB
      split at h
      · cases h; exact ⟨Step.same S ⟨rfl, rfl, rfl, rfl⟩, rfl⟩
      · split at h
        · rename_i hc
          cases h
          exact ⟨Step.kill S (hW a rfl) hc.2.2 (by simp [blk?, hB, hc.2.1]), by simp⟩
        · cases h
    · cases h

theorem xty_under {xt : TypeId} (h : (aTy P xt = .str) ∨ (∃ e es eb, aTy P xt = .slice e es eb)) : P.underlying xt = some .string ∨ ∃ e, P.underlying xt = some (.slice e) := by
  rcases h with h | ⟨e, es, eb, h⟩
  · exact .inl (aTy_str h)
  · obtain ⟨i, j, _, h2, _⟩ := aTy_slice h; exact .inr ⟨_, h2⟩

/-- append, carried out: there is room. -/
theorem run_append_fit {st xt ty e : TypeId} {j : TypeInfo} {ats : Array TypeId} {args : Array Value} {base' : Option Addr} {n c m : Nat} {x : Value} {new : List Value} {w w' : World}
    (hst : ats[0]? = some st) (hxt : ats[1]? = some xt) (hs : args[0]? = some (.slice base' n c)) (hx : args[1]? = some x) (hu : P.underlying st = some (.slice e)) (hj : P.info? e = some j)
    (hux : (aTy P xt = .str) ∨ (∃ e es eb, aTy P xt = .slice e es eb)) (hl : (Builtin.lenOf x).run P w = .ok m w) (hn : (Builtin.firstCells j.size m x).run P w = .ok new.toArray w)
    (hc : n + m ≤ c) (hstore : ∀ a, base' = some a → (storeCells (a.add (n * j.size)) new).run P w = .ok () w') (hnone : base' = none → w' = w) :
    (Builtin.append_ ats ty args).run P w = .ok (.slice base' (n + m) c) w' := by
  rcases xty_under hux with hd | ⟨e', hd⟩ <;> cases base'
  case inl.none | inr.none =>
    have := hnone rfl; subst this
    simp [Builtin.append_, hst, hs, hx, hxt, Sem.run_bind, run_underlying hu, run_sizeOf hj, run_underlying hd, hl, hc, hn]
  case inl.some a | inr.some a =>
    simp [Builtin.append_, hst, hs, hx, hxt, Sem.run_bind, run_underlying hu, run_sizeOf hj, run_underlying hd, hl, hc, hn, hstore a rfl]

/-- append, carried out: there is none. -/
theorem run_append_new {st xt ty e : TypeId} {j : TypeInfo} {z : Value} {ats : Array TypeId} {args : Array Value} {base' : Option Addr} {n c m : Nat} {x : Value} {old new : List Value} {w : World}
    (hst : ats[0]? = some st) (hxt : ats[1]? = some xt) (hs : args[0]? = some (.slice base' n c)) (hx : args[1]? = some x) (hu : P.underlying st = some (.slice e)) (hj : P.info? e = some j) (hz : j.zero = some z)
    (hux : (aTy P xt = .str) ∨ (∃ e es eb, aTy P xt = .slice e es eb)) (hl : (Builtin.lenOf x).run P w = .ok m w) (hn : (Builtin.firstCells j.size m x).run P w.drew = .ok new.toArray w.drew)
    (ho : (Builtin.firstCells j.size n (.slice base' n c)).run P w.drew = .ok old.toArray w.drew)
    (hc : c < n + m) (h1 : (n + m) * j.bytes ≤ 2 ^ 47) (h2 : n + m ≤ 2 ^ 47) :
    (Builtin.append_ ats ty args).run P w = .ok (.slice (some ⟨w.heap.size, 0, none⟩) (n + m) (grownCap w (n + m) c e))
      { w.drew with heap := w.heap.push (.cells (old.toArray ++ new.toArray ++ Builtin.zeroCells z.cells (grownCap w (n + m) c e - (n + m))) e) } := by
  have n1 : ¬ n + m ≤ c := by omega
  have hmax : IntKind.i64.max = 9223372036854775807 := by decide
  have n2 : ¬ (((n + m : Nat) : Int) > IntKind.i64.max) := by rw [hmax]; omega
  have n3 : ¬ (Builtin.nextslicecap (n + m) c * j.bytes > 2 ^ 48) := by
    have := growslice_fits (bytes := j.bytes) hc (Nat.le_trans h1 (by decide))
    omega
  have hch : (choose (.appendCap (n + m) c e)).run P w = .ok (grownCap w (n + m) c e) w.drew := by
    rw [run_choose]; rfl
  rcases xty_under hux with hd | ⟨e', hd⟩ <;>
    (simp only [Builtin.append_, hst, hs, hx, hxt, Sem.run_bind, run_underlying hu, Result.andThen_ok, run_sizeOf hj, run_underlying hd, Sem.run_pure, Bool.false_eq_true, if_false, hl, n1, Sem.run_ite,
      typeInfo, run_program, hj, n3]
     rw [if_neg (by intro h; exact n2 h.1)]
     simp only [Result.andThen_ok, hch, run_askRoom, ho, if_true, Bool.not_false, hn, run_zeroValue hj hz, newRow, run_newObj, Sem.run_bind, Sem.run_pure]
     rfl)

theorem append_sound (S : Sim base w0 A ρ H w) (hbf : base ≤ fl) (hb : base ≤ H.length) {ats : Array TypeId} {args args' : Array Value} {ty : TypeId} {v : Value} {H' : AHeap}
    (hfr : H.length < H'.length → ρ H.length = none)
    (hargs : LRel ρ args.toList args'.toList) (hA : ∀ x ∈ args.toList, ∀ b ∈ blkOf x, A b) (hW : ∀ x, args[0]? = some x → ∀ b ∈ blkOf x, W b)
    (h : appendA P fl ats args H = some (v, H')) : Done P base w0 A W fl ρ H w (do pure (.value (← Builtin.append_ ats ty args'))) (.value v) H' := by
  unfold appendA at h
  split at h
  case h_2 => cases h
  rename_i st xt bs n c x hst hxt hs hx
  have ⟨e, es, eb, m, hsty, hlen, hux, h⟩ : ∃ e es eb m, aTy P st = .slice e es eb ∧ lenA x = some m ∧ ((aTy P xt = .str) ∨ (∃ e es eb, aTy P xt = .slice e es eb)) ∧ appendTo P fl e es eb bs n c m x H = some (v, H') := by
    split at h
    · exact ⟨_, _, _, _, ‹_›, ‹_›, .inr ⟨_, _, _, ‹_›⟩, h⟩
    · exact ⟨_, _, _, _, ‹_›, ‹_›, .inl ‹_›, h⟩
    · cases h
  obtain ⟨_, j, _, hu, hj, rfl, rfl, hz0⟩ := aTy_slice hsty
  obtain ⟨sv, hs', hsr⟩ := hargs.get (i := 0) (v := .slice bs n c) (by simpa using hs)
  obtain ⟨x', hx', hxr⟩ := hargs.get (i := 1) (v := x) (by simpa using hx)
  have hs' : args'[0]? = some sv := by simpa using hs'
  have hx' : args'[1]? = some x' := by simpa using hx'
  have mems : Value.slice bs n c ∈ args.toList := List.mem_of_getElem? (i := 0) (by simpa using hs)
  have memx : x ∈ args.toList := List.mem_of_getElem? (i := 1) (by simpa using hx)
  have hlen' := lenOf_run (P := P) hxr hlen w
  unfold appendTo at h
  cases hnew : firstA H j.size m x with
  | none => simp [hnew] at h
  | some new =>
  simp only [hnew] at h
  obtain ⟨new', hrn, hnr, hnl⟩ := firstA_sound (P := P) S hxr (fun l hl => by rw [hlen] at hl; cases hl; exact Nat.le_refl _) (hA x memx) hnew
  have hnl' : new'.length = m * j.size := by rw [← hnr.1]; exact hnl
  split at h
  · rename_i hfit
    cases bs with
    | none =>
      cases h
      cases hsr
      have := run_append_fit (ty := ty) hst hxt hs' hx' hu hj hux hlen' (hrn w rfl) hfit (fun a ha => by cases ha) (fun _ => rfl)
      exact Done.same S this (.nilslice _ _)
    | some a =>
      obtain ⟨b, o, s⟩ := a
      obtain ⟨rfl, L, o', c', hL, hf, rfl⟩ := slice_inv hsr
      have hcc : c ≤ c' := by
        rcases hf.2 with ⟨_, h1⟩ | ⟨_, _, _, h1, _⟩ | ⟨_, _, h1, h2⟩ <;> omega
      simp only [add_none] at h
      cases hst2 : storeAt fl H ⟨b, o + n * j.size, none⟩ new with
      | none => simp [hst2] at h
      | some H2 =>
        simp [hst2] at h
        obtain ⟨rfl, rfl⟩ := h
        have hAb : A b := hA _ mems b (by simp [blkOf])
        have hWb : W b := hW _ hs b (by simp [blkOf])
        by_cases hne : new = []
        · subst hne
          have := hnr.inv_nil; subst this
          simp only [storeAt, Option.some.injEq] at hst2
          subst hst2
          have hm0 : m = 0 := by
            have h0 : m * j.size = 0 := by simpa using hnl.symm
            exact (Nat.mul_eq_zero.1 h0).resolve_right hz0
          subst hm0
          have := run_append_fit (ty := ty) (w' := w) hst hxt hs' hx' hu hj hux hlen' (hrn w rfl) (by omega) (fun a ha => by simp [storeCells]) (fun h => by cases h)
          refine Done.same S this (.slice hL ⟨hfit, ?_⟩)
          rcases hf.2 with h1 | h1 | ⟨h1, h2, h3, h4⟩
          · exact .inl h1
          · exact .inr (.inl h1)
          · exact .inr (.inr ⟨h1, by omega, h3, h4⟩)
        · have ho : o' = L.off + o := by
            rcases hf.2 with ⟨h1, _⟩ | ⟨_, h1, _⟩ | ⟨_, h1, h2, h3⟩
            · exact h1
            · exact h1
            · exfalso
              have : m = 0 := by omega
              subst this
              exact hne (List.eq_nil_of_length_eq_zero (by simpa using hnl))
          subst ho
          obtain ⟨w', hrun, hstep⟩ := storeAt_sound (P := P) S hbf (fun _ => ⟨hAb, hWb⟩) hL hnr hst2
          have hrun' : (storeCells (({ block := L.blk, off := L.off + o } : Addr).add (n * j.size)) new').run P w = .ok () w' := by
            rw [add_none, Nat.add_assoc]; exact hrun
          have := run_append_fit (ty := ty) (w' := w') hst hxt hs' hx' hu hj hux hlen' (hrn w rfl) (by omega) (fun a ha => by cases ha; exact hrun') (fun h => by cases h)
          refine ⟨ρ, .value (.slice (some ⟨L.blk, L.off + o, none⟩) (n + m) c'), w', by simp [this], .slice hL ⟨hfit, ?_⟩, hstep⟩
          rcases hf.2 with h1 | h1 | ⟨h1, h2, h3, h4⟩
          · exact .inl h1
          · exact .inr (.inl h1)
          · exfalso
            have : m = 0 := by omega
            subst this
            exact hne (List.eq_nil_of_length_eq_zero (by simpa using hnl))
  · rename_i hfit
    split at h
    · rename_i hc
      obtain ⟨hc1, hc2, hone, hzl⟩ := hc
      cases hold : firstA H j.size n (.slice bs n c) with
      | none => simp [hold] at h
      | some old =>
      cases hkill : killA fl H j.size bs with
      | none => simp [hold, hkill] at h
      | some H2 =>
      simp [hold, hkill] at h
      obtain ⟨rfl, rfl⟩ := h
      obtain ⟨old', hro, hor, hol⟩ := firstA_sound (P := P) S hsr (fun l hl => by cases hl; exact Nat.le_refl _) (hA _ mems) hold
      have hol' : old'.length = n * j.size := by rw [← hor.1]; exact hol
      obtain ⟨hks, hkl⟩ := kill_sound S (H' := H2) (A := A) (W := W) (fun a ha => hW _ hs a.block (by rw [ha]; simp [blkOf])) hkill
      have hfr1 := hfr (by simp [hkl])
      cases hz : azero P e with
      | none => simp [hz] at hzl
      | some z =>
      obtain ⟨i2, zv, hi2, hzv, rfl, _⟩ := azero_some hz
      rw [hj] at hi2; cases hi2
      have hzs : zv.cells.size = j.size := by simpa [hz] using hzl
      have hone' : new'.all Value.oneCell' = true := by
        rw [List.all_eq_true]
        intro y hy
        obtain ⟨i, hi⟩ := List.getElem?_of_mem hy
        have hi' : i < new.length := by
          have := (List.getElem?_eq_some_iff.1 hi).1
          have := hnr.1
          omega
        rw [(hnr.2 i _ y (List.getElem?_eq_getElem hi') hi).oneCell]
        exact List.all_eq_true.1 hone _ (List.getElem_mem hi')
      have hon := hor.append hnr
      -- where there is no room
      have grow : ∀ base' c', args'[0]? = some (.slice base' n c') → sv = .slice base' n c' → c' < n + m →
          Done P base w0 A W fl ρ H w (do pure (.value (← Builtin.append_ ats ty args'))) (.value (.slice (some ⟨H2.length, 0, none⟩) (n + m) (n + m))) (H2 ++ [⟨old ++ new, j.size, false, true⟩]) := by
        intro base' c' hs2 hsv hlt
        subst hsv
        have hr := run_append_new (ty := ty) hst hxt hs2 hx' hu hj hzv hux hlen' (hrn w.drew rfl) (hro w.drew rfl) hlt hc1 hc2
        have hge := grownCap_ge w (n + m) c' e
        have hnb := Step.new_block (A := fun id => A id ∨ H.length ≤ id) (W := W) (fl := fl) hks.sim (by rw [hkl]; exact hfr1) (by omega) (old ++ new)
          (old'.toArray ++ new'.toArray ++ Builtin.zeroCells zv.cells (grownCap w (n + m) c' e - (n + m))) e (0, 0) j.size false
          (w' := { w.drew with heap := w.heap.push (.cells (old'.toArray ++ new'.toArray ++ Builtin.zeroCells zv.cells (grownCap w (n + m) c' e - (n + m))) e) }) ⟨rfl, rfl, rfl, rfl⟩
          (by have := hon.1; simp at this ⊢; omega) (fun h => by cases h) (fun i _ => by simp) (fun i u hu2 => by
            obtain ⟨u', p, q⟩ := hon.get hu2
            refine ⟨u', ?_, q⟩
            rw [← Array.getElem?_toList]
            simp only [Array.toList_append]
            rw [List.getElem?_append_left (by
              have := (List.getElem?_eq_some_iff.1 p).1
              simpa using this)]
            exact p)
        refine ⟨_, .value (.slice (some ⟨w.heap.size, 0, none⟩) (n + m) (grownCap w (n + m) c' e)), _, by simp [hr], ?_, hks.trans hnb (fun id hi => .inl hi) (fun id h1 h2 => ?_)⟩
        · refine .slice (o := 0) (here_self ρ H2.length _) ⟨Nat.le_refl _, .inr (.inl ⟨rfl, rfl, ?_, hge, ?_⟩)⟩
          · simp [hol, hnl, Nat.add_mul]
          · simp [hol, hnl, hol', hnl', size_zeroCells, hzs]
        · simp [hkl] at h2
          have : id = H.length := by omega
          subst this; exact hfr1
      cases bs with
      | none =>
        cases hsr
        exact grow none c hs' rfl (by omega)
      | some a =>
        obtain ⟨b, o, s⟩ := a
        obtain ⟨rfl, L, o', c', hL, hf, rfl⟩ := slice_inv hsr
        by_cases hroom : n + m ≤ c'
        · -- there is room behind what stands: it is written in place
          rcases hf.2 with ⟨_, h1⟩ | ⟨hex, ho, hn, hc, hr⟩ | ⟨_, _, h1, h2⟩
          · omega
          · subst ho
            have hAb : A b := hA _ mems b (by simp [blkOf])
            have hWb : W b := hW _ hs b (by simp [blkOf])
            unfold killA at hkill
            simp only at hkill
            cases hB : H[b]? with
            | none => simp [hB] at hkill
            | some B =>
            have hst2 := S.stat b L B hL hB
            simp only [hB] at hkill
            rw [if_neg (by rw [hst2.2.1, hex]; simp)] at hkill
            split at hkill
            · rename_i hk
              cases hkill
              have hB' : blk? H b = some B := by simp [blk?, hB, hk.2.1]
              have hes : L.es = j.size := by rw [← hst2.2.2.1]; exact hk.1
              rw [hes] at hn hr
              obtain ⟨cc, e2, fz, g1, g2, g3, g4⟩ := S.cont b L B hAb hL hB'
              have hmul : (n + m) * j.size ≤ c' * j.size := Nat.mul_le_mul_right _ hroom
              have hcm : c * j.size ≤ c' * j.size := Nat.mul_le_mul_right _ hc
              rw [Nat.sub_mul] at hr
              rw [Nat.add_mul] at hmul
              obtain ⟨w', p, q⟩ := run_storeCells_row P L.blk (L.off + o + n * j.size) e2 fz new' 0 cc w g1 (by omega) (g3 (by omega)) hone'
              have hrun' : (storeCells (({ block := L.blk, off := L.off + o } : Addr).add (n * j.size)) new').run P w = .ok () w' := by
                rw [add_none]; exact p
              have hap := run_append_fit (ty := ty) (w' := w') hst hxt hs' hx' hu hj hux hlen' (hrn w rfl) hroom (fun a ha => by cases ha; exact hrun') (fun h => by cases h)
              have hlenb : (H.set b { B with alive := false }).length = H.length := by simp
              have hip := Step.inplace (W := W) S hbf hfr1 (cs := old ++ new) (es := j.size) (o := L.off + o) (r := L.room - o) (cc' := (setCells cc.toList (L.off + o + n * j.size + 0) new').toArray) hAb hWb hk.2.2 hL hB' g1
                (by simp [setCells_length]) (by omega) (by simp [hol, hnl]; omega) ⟨by simp [setCells_length, hol, hnl]; omega, (fun i u hi hh => by
                  simp only [Nat.add_zero]
                  by_cases hlt : i < n * j.size
                  · rw [setCells_other _ _ _ _ (.inl (by omega))]
                    rw [List.getElem?_append_left (by omega)] at hi
                    obtain ⟨u2, k1, k2⟩ := g4 (o + i) u (by
                      unfold firstA at hold
                      simp only at hold
                      split at hold
                      · omega
                      · unfold cellsAt at hold
                        simp only [hB'] at hold
                        split at hold
                        · cases hold
                          rw [List.getElem?_take, if_pos hlt, List.getElem?_drop] at hi
                          exact hi
                        · cases hold) hh
                    exact ⟨u2, by rw [Nat.add_assoc]; simpa using k1, k2⟩
                  · rw [List.getElem?_append_right (by omega), hol] at hi
                    obtain ⟨u2, k1, k2⟩ := hnr.get hi
                    have hlt2 := (List.getElem?_eq_some_iff.1 k1).1
                    have := setCells_at new' cc.toList (L.off + o + n * j.size) (i - n * j.size) (by simp; omega) hlt2
                    rw [show L.off + o + n * j.size + (i - n * j.size) = L.off + o + i by omega] at this
                    exact ⟨u2, by rw [this]; exact k1, k2⟩)⟩
                (by simpa using q)
              rw [hlenb]
              refine ⟨_, .value (.slice (some ⟨L.blk, L.off + o, none⟩) (n + m) c'), w', by simp [hap], ?_, hip⟩
              refine .slice (L := ⟨L.blk, L.off + o, L.room - o, (old ++ new).length, j.size, false⟩) (o := 0) (here_self ρ H.length _) ⟨Nat.le_refl _, .inr (.inl ⟨rfl, rfl, ?_, hroom, ?_⟩)⟩
              · simp [hol, hnl, Nat.add_mul]
              · simp only [List.length_append, hol, hnl, Nat.sub_mul, Nat.add_mul]
                omega
            · cases hkill
          · omega
        · exact grow (some ⟨L.blk, o', none⟩) c' hs' rfl (by omega)
    · cases h

end
end Go.Mach
