/- WHAT THE FORMULAS SAY, THE MODEL COMES TO: strconv.Itoa, strconv.Atoi, strings.Cut, strings.Split, by the kit's contracts. Condition: the library's variables lie as it has them. -/
import Derived.Test.YthphkjgkgdjmdaaDoorLib
import Derived.Sort.Grow
import Derived.Below
import Derived.Lib.SplitLaws
import Derived.Test.YthphkjgkgdjmdaaDoorStep
namespace Go.Mach
open Go.RowKit Go.Shelf Go.Proofs Go.Sort

/-- A world in which new blocks lie behind; what was there has not turned. -/
theorem Step.behind {base : Nat} {w0 : World} {A W : Nat → Prop} {fl : Nat} {ρ : Ren} {H : AHeap} {w w' : World} (S : Sim base w0 A ρ H w) (hw : Below w.heap.size w w') :
    Step base w0 A W fl ρ H w ρ H w' where
  sim := by
    refine ⟨by have := S.base_le; have := hw.size; omega, fun b h => ?_, fun id L h => ?_, S.apart, S.stat, fun id L B a hr hb => ?_, fun id id' L L' a a' hr hr' hb hb' => ?_⟩
    · rw [hw.block b (by have := S.base_le; omega)]; exact S.old b h
    · have := S.dom id L h; have := hw.size; exact ⟨by omega, (S.dom id L h).2⟩
    · have := blk?_lt (H := H) (id := id) (by rw [hb]; rfl)
      rw [hw.block _ (S.dom id L hr).1]
      exact S.cont id L B (a.resolve_right (by omega)) hr hb
    · have := blk?_lt hb; have := blk?_lt hb'
      exact S.inj id id' L L' (a.resolve_right (by omega)) (a'.resolve_right (by omega)) hr hr' hb hb'
  ext := Ext.refl ρ
  new := fun id L h h' => by rw [h] at h'; cases h'
  frame := fun b h _ => hw.block b h
  grow := hw.size
  side := ⟨hw.os, hw.tape, hw.output⟩
  len := Nat.le_refl _
  keep := fun _ _ _ => rfl
  dead := fun _ _ h => h

/-- .. and one of the new blocks is the machine's. -/
theorem Step.far {base : Nat} {w0 : World} {A W : Nat → Prop} {fl : Nat} {ρ : Ren} {H : AHeap} {w w' : World} (S : Sim base w0 A ρ H w) (hfr : ρ H.length = none) (hbH : base ≤ H.length)
    (cs : List Value) (cc : Array Value) (e : TypeId) (fz : Nat × Nat) (es : Nat) (exact : Bool) (g : Nat) (hw : Below w.heap.size w w') (hg : w.heap.size ≤ g) (hgb : w'.heap[g]? = some (.cells cc e fz))
    (hn : cs.length ≤ cc.size) (hex : exact = true → cs.length = cc.size) (hfz : ∀ i, i < cc.size → ¬ (fz.1 ≤ i ∧ i < fz.2))
    (hrel : ∀ (i : Nat) v, cs[i]? = some v → ∃ v', cc[i]? = some v' ∧ VRel ρ v v') :
    Step base w0 A W fl ρ H w (here ρ H.length ⟨g, 0, cc.size, cs.length, es, exact⟩) (H ++ [⟨cs, es, exact, true⟩]) w' := by
  have ext := here_ext ⟨g, 0, cc.size, cs.length, es, exact⟩ hfr
  have hgl : g < w'.heap.size := (Array.getElem?_eq_some_iff.1 hgb).1
  have hsz := hw.size
  have hold : ∀ b, b < w.heap.size → w'.heap[b]? = w.heap[b]? := hw.block
  refine ⟨⟨by have := S.base_le; omega, fun b h => ?_, fun id L h => ?_, fun id L h0 h => ?_, fun id L B h hB => ?_, fun id L B a h hB => ?_, fun id id' L L' a a' h h' hl hl' b1 b2 he => ?_⟩, ext, fun id L h h' => ?_, fun b h _ => hold b h, by omega, ⟨hw.os, hw.tape, hw.output⟩, by simp, fun id h _ => ?_, fun id h hl => ?_⟩
  · rw [hold b (by have := S.base_le; omega)]; exact S.old b h
  · by_cases hi : id = H.length
    · subst hi; rw [here_self] at h; cases h; exact ⟨hgl, fun _ => Nat.le_trans S.base_le hg⟩
    · rw [here_ne _ _ hi] at h; exact ⟨by have := (S.dom id L h).1; omega, (S.dom id L h).2⟩
  · rw [here_ne _ _ (by omega)] at h; exact S.apart id L h0 h
  · by_cases hi : id = H.length
    · subst hi; rw [here_self] at h; cases h
      simp at hB; subst hB
      exact ⟨rfl, rfl, rfl, hn, hex⟩
    · rw [here_ne _ _ hi] at h
      have hlt : id < H.length := by
        have := (List.getElem?_eq_some_iff.1 hB).1
        simp at this; omega
      rw [List.getElem?_append_left hlt] at hB
      exact S.stat id L B h hB
  · by_cases hi : id = H.length
    · subst hi; rw [here_self] at h; cases h
      have hB' : B = ⟨cs, es, exact, true⟩ := by simpa [blk?] using hB.symm
      subst hB'
      refine ⟨cc, e, fz, hgb, by simp, fun _ => hfz, fun i v hv _ => ?_⟩
      obtain ⟨v', h1, h2⟩ := hrel i v hv
      exact ⟨v', by simpa using h1, h2.mono ext⟩
    · rw [here_ne _ _ hi] at h
      have hlt : id < H.length := by
        have := blk?_lt (H := H ++ [_]) (id := id) (by rw [hB]; rfl)
        simp at this; omega
      rw [blk?_append_left hlt] at hB
      obtain ⟨c2, e2, f2, h1, h2, h3, h4⟩ := S.cont id L B (a.resolve_right (by omega)) h hB
      refine ⟨c2, e2, f2, by rw [hold _ (S.dom id L h).1]; exact h1, h2, h3, fun i v hv hh => ?_⟩
      obtain ⟨v', p, q⟩ := h4 i v hv hh
      exact ⟨v', p, q.mono ext⟩
  · by_cases hi : id = H.length
    · by_cases hi' : id' = H.length
      · omega
      · subst hi; rw [here_self] at h; cases h
        rw [here_ne _ _ hi'] at h'
        have := (S.dom id' L' h').1
        simp at he; omega
    · by_cases hi' : id' = H.length
      · subst hi'; rw [here_self] at h'; cases h'
        rw [here_ne _ _ hi] at h
        have := (S.dom id L h).1
        simp at he; omega
      · rw [here_ne _ _ hi] at h; rw [here_ne _ _ hi'] at h'
        have k1 := blk?_lt hl; have k2 := blk?_lt hl'
        simp at k1 k2
        rw [blk?_append_left (by omega)] at hl hl'
        exact S.inj id id' L L' (a.resolve_right (by omega)) (a'.resolve_right (by omega)) h h' hl hl' b1 b2 he
  · by_cases hi : id = H.length
    · subst hi; rw [here_self] at h'; cases h'
      exact ⟨Nat.le_refl _, by simp, .inl hg⟩
    · rw [here_ne _ _ hi] at h'; rw [h] at h'; cases h'
  · exact List.getElem?_append_left h
  · rw [blk?_append_left h] at hl; exact hl

theorem extF_kept (P : Program) : CallerKept (extF P) := by
  intro fl f args H v H' h
  simp only [extF] at h
  split at h
  · split at h
    · cases h; exact Kept.refl _ _
    · cases h
  · split at h
    · split at h
      · cases h; exact Kept.refl _ _
      · cases h; exact Kept.push _ _ _
    · cases h
  · split at h
    · cases h; exact Kept.refl _ _
    · split at h
      · cases h; exact Kept.push _ _ _
      · cases h
  · cases h

theorem grow_below (w : World) (k : Nat) (os : Array Obj) : Below w.heap.size w (grow (w.drewN k) os) where
  os := rfl
  tape := rfl
  output := rfl
  size := by simp [grow, World.drewN]
  block := fun i hi => by
    show (w.heap ++ os)[i]? = w.heap[i]?
    rw [Array.getElem?_append_left hi]

/-- The library's variables, as they lie at the beginning. -/
structure LibVars (w : World) : Prop where
  tab : Lib.TabIs Tryd.prog w "internal/strconv.uint64pow10" .u64 Lib.pow10Tab
  max : ∃ m, w.cell? ⟨0, 0, none⟩ = some (.int .i64 m)
  syn : ∃ ev, w.cell? ⟨1, 0, none⟩ = some ev ∧ (ev = .nilIface ∨ ∃ te pe, ev = .iface te pe)
  rng : ∃ ev, w.cell? ⟨2, 0, none⟩ = some ev ∧ (ev = .nilIface ∨ ∃ te pe, ev = .iface te pe)

theorem cell_old {base : Nat} {w0 : World} {ρ : Ren} {H : AHeap} {w : World} (S : Sim base w0 All ρ H w) (hb : w0.heap.size ≤ base) {g : Nat} {v : Value} (h : w0.cell? ⟨g, 0, none⟩ = some v) : w.cell? ⟨g, 0, none⟩ = some v := by
  have hlt : g < w0.heap.size := Lib.lt_of_cell h
  unfold World.cell? at h ⊢
  simp only at h ⊢
  rw [S.old g (by omega)]
  exact h

theorem atoiS_ok {s : ByteArray} {v : Int} (h : atoiS s = (v, true)) : Lib.atoiAll s.data.toList = .ok v := by
  unfold atoiS at h
  split at h <;> cases h
  assumption
theorem atoiS_err {s : ByteArray} {v : Int} (h : atoiS s = (v, false)) : (Lib.atoiAll s.data.toList = .range ∧ v = Lib.atoiSat s.data.toList) ∨ ((∀ u, Lib.atoiAll s.data.toList ≠ .ok u) ∧ Lib.atoiAll s.data.toList ≠ .range ∧ v = 0) := by
  unfold atoiS at h
  split at h <;> cases h
  · exact .inl ⟨by assumption, rfl⟩
  · rename_i h1 h2
    exact .inr ⟨h1, h2, rfl⟩

/-- A new block of which nothing is known. -/
theorem Step.err {base : Nat} {w0 : World} {fl : Nat} {ρ : Ren} {H : AHeap} {w w' : World} (S : Sim base w0 All ρ H w) (hfr : ρ H.length = none) (hbH : base ≤ H.length)
    {N : Nat} {cc : Array Value} {e : TypeId} (hw : Below w.heap.size w w') (hg : w.heap.size ≤ N) (hgb : w'.heap[N]? = some (.cells cc e (0, 0))) (v : Int) (E : TypeId) :
    ∃ v' ρ', Ending.returned (.tuple #[.int .i64 v, .iface E (.pointer (some ⟨N, 0, none⟩))]) = .returned v' ∧ VRel ρ' (.tuple #[.int .i64 v, .iface E (.pointer (some ⟨H.length, 0, none⟩))]) v' ∧
      Step base w0 All All fl ρ H w ρ' (H ++ [⟨[], 0, false, true⟩]) w' := by
  refine ⟨_, here ρ H.length ⟨N, 0, cc.size, 0, 0, false⟩, rfl, ?_, Step.far S hfr hbH [] cc e (0, 0) 0 false N hw hg hgb (by simp) (fun h => by cases h) (fun i _ h => by omega) (fun i v h => by simp at h)⟩
  refine .tuple _ _ rfl fun i a b ha hb => ?_
  match i, ha, hb with
  | 0, ha, hb => cases ha; cases hb; exact .int _ _
  | 1, ha, hb =>
    cases ha; cases hb
    exact .iface _ (VRel.ptr (b := H.length) (o := 0) (here_self _ _ _))
  | i + 2, ha, hb => simp at ha

/-- What the formulas say, the model comes to. -/
theorem extF_sound {base : Nat} {w0 : World} (hL : LibVars w0) (hb : w0.heap.size ≤ base) : CallerSound base w0 Go.Proofs.Tryd.prog (extF Go.Proofs.Tryd.prog) := by
  intro fl f args cargs ρ H H' w v S hbf hfl hfr hargs h
  simp only [extF] at h
  split at h
  · rename_i n hal
    split at h
    case isFalse => cases h
    rename_i hfg
    obtain ⟨rfl, h0, h1⟩ := hfg
    cases h
    rw [hal] at hargs
    obtain ⟨y, ys, e1, hv1, ht⟩ := hargs.inv
    obtain rfl := ht.inv_nil
    cases hv1
    have hcargs : cargs = #[.int .i64 n] := by cases cargs; simp at e1; rw [e1]
    subst hcargs
    have hT := hL.tab
    have hTw : Lib.TabIs Tryd.prog w "internal/strconv.uint64pow10" .u64 Lib.pow10Tab := by
      unfold Lib.TabIs World.var? at hT ⊢
      cases hg : Program.globalNamed Tryd.prog "internal/strconv.uint64pow10" with
      | none => rw [hg] at hT; cases hT
      | some g =>
        rw [hg] at hT
        simp only [Option.bind_some] at hT ⊢
        have hlt : g < w0.heap.size := by
          rcases Nat.lt_or_ge g w0.heap.size with h | h
          · exact h
          · rw [Array.getElem?_eq_none h] at hT; cases hT
        rw [S.old g (by omega)]
        exact hT
    refine (Tryd.strconv_Itoa n h0 h1 w hTw).mono ?_
    rintro e w' ⟨rfl, k, os, rfl⟩
    exact ⟨_, _, rfl, .string _, Step.behind S (grow_below w k os)⟩
  · rename_i s hal
    split at h
    case isFalse => cases h
    rename_i hfg
    obtain ⟨rfl, h0⟩ := hfg
    rw [hal] at hargs
    obtain ⟨y, ys, e1, hv1, ht⟩ := hargs.inv
    obtain rfl := ht.inv_nil
    cases hv1
    have hcargs : cargs = #[.string s] := by cases cargs; simp at e1; rw [e1]
    subst hcargs
    split at h
    · rename_i v hv
      cases h
      refine (Tryd.strconv_Atoi_ok s (by omega) v (atoiS_ok hv) w).mono ?_
      rintro e w' ⟨rfl, hw⟩
      refine ⟨_, ρ, rfl, ?_, Step.behind S ?_⟩
      · refine .tuple _ _ rfl fun i a b ha hb => ?_
        match i, ha, hb with
        | 0, ha, hb => cases ha; cases hb; exact .int _ _
        | 1, ha, hb => cases ha; cases hb; exact .nilIface
        | i + 2, ha, hb => simp at ha
      · rcases hw with rfl | ⟨t, rfl⟩
        · exact Below.refl _ _
        · exact Lib.bytesWorld_below _ _ _
    · rename_i v hv
      cases h
      have hn : ρ H.length = none := hfr _ (Nat.le_refl _) (by simp)
      rcases atoiS_err hv with ⟨k1, rfl⟩ | ⟨k1, k5, rfl⟩
      · obtain ⟨ev, c1, c2⟩ := hL.rng
        refine (Tryd.strconv_Atoi_range s h0 k1 ev w (cell_old S hb c1) c2).mono ?_
        rintro e w' ⟨N, rfl, k2, k3, k4⟩
        exact Step.err S hn (by omega) k4 k2 k3 _ _
      · obtain ⟨ev, c1, c2⟩ := hL.syn
        refine (Tryd.strconv_Atoi_syntax s h0 k1 k5 ev w (cell_old S hb c1) c2).mono ?_
        rintro e w' ⟨N, rfl, k2, k3, k4⟩
        exact Step.err S hn (by omega) k4 k2 k3 _ _
  · rename_i s sep hal
    rw [hal] at hargs
    obtain ⟨y, ys, e1, hv1, ht⟩ := hargs.inv
    obtain ⟨z, zs, rfl, hv2, ht2⟩ := ht.inv
    obtain rfl := ht2.inv_nil
    cases hv1
    cases hv2
    have hcargs : cargs = #[.string s, .string sep] := by cases cargs; simp at e1; rw [e1]
    subst hcargs
    obtain ⟨m, hm⟩ := hL.max
    have hm := cell_old S hb hm
    split at h
    · rename_i hfg
      obtain ⟨rfl, h0⟩ := hfg
      cases h
      refine (Tryd.strings_Cut s sep m w h0 hm).mono ?_
      rintro e w' ⟨rfl, k, rfl⟩
      refine ⟨_, ρ, rfl, ?_, Step.behind S ⟨rfl, rfl, rfl, Nat.le_refl _, fun _ _ => rfl⟩⟩
      refine .tuple _ _ rfl fun i a b ha hb => ?_
      match i, ha, hb with
      | 0, ha, hb => cases ha; cases hb; exact .string _
      | 1, ha, hb => cases ha; cases hb; exact .string _
      | 2, ha, hb => cases ha; cases hb; exact .bool _
      | i + 3, ha, hb => simp at ha
    · split at h
      · rename_i hfg
        obtain ⟨rfl, h0, h1⟩ := hfg
        cases h
        have hn : ρ H.length = none := hfr _ (Nat.le_refl _) (by simp)
        refine (Tryd.strings_Split s sep m w h0 hm h1).mono ?_
        rintro e w' ⟨rfl, rfl⟩
        have hlen : (splitS s sep).length = Lib.countB s sep + 1 := Lib.splitB_all sep h1 0 _ s rfl
        rw [← hlen]
        have hgb : (w.alloc (.cells ((splitS s sep).map Value.string).toArray 9)).heap[w.heap.size]? = some (.cells ((splitS s sep).map Value.string).toArray 9 (0, 0)) := by
          show (w.heap.push _)[w.heap.size]? = _
          rw [Array.getElem?_push, if_pos rfl]
        have hst := Step.far (A := All) (W := All) (fl := fl) S hn (by omega) ((splitS s sep).map Value.string) ((splitS s sep).map Value.string).toArray 9 (0, 0) 1 false w.heap.size
          ((Below.refl _ _).alloc (Nat.le_refl _) _) (Nat.le_refl _) hgb (by simp) (fun h => by cases h) (fun i _ h => by omega) (fun i v h => ⟨v, by simpa using h, by
            rw [List.getElem?_map] at h
            cases hx : (splitS s sep)[i]? with
            | none => rw [hx] at h; cases h
            | some x => rw [hx] at h; cases h; exact .string x⟩)
        refine ⟨_, _, rfl, ?_, hst⟩
        exact VRel.slice (b := H.length) (o := 0) (here_self _ _ _) ⟨Nat.le_refl _, .inl ⟨rfl, rfl⟩⟩
      · cases h
  · cases h

end Go.Mach
