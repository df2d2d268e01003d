/- Blocks of one's own in a reckoning. Laws; no condition. -/
import Derived.Test.YtajjfflbcpkokaaGreatGo
namespace Go.Mach

/-- What was there is there, as it was. -/
structure Pre (H H' : AHeap) : Prop where
  len : H.length ≤ H'.length
  get : ∀ b : Nat, b < H.length → H'[b]? = H[b]?

theorem Pre.refl (H : AHeap) : Pre H H := ⟨Nat.le_refl _, fun _ _ => rfl⟩
theorem Pre.trans {A B C : AHeap} (h : Pre A B) (k : Pre B C) : Pre A C := ⟨Nat.le_trans h.len k.len, fun b hb => (k.get b (Nat.lt_of_lt_of_le hb h.len)).trans (h.get b hb)⟩
theorem Pre.push (H K : AHeap) : Pre H (H ++ K) := ⟨by simp, fun b hb => List.getElem?_append_left hb⟩

theorem blk?_below {H : AHeap} {b : Nat} {B : Blk} (h : blk? H b = some B) : b < H.length := by
  unfold blk? at h
  cases hb : H[b]? with
  | none => simp [hb] at h
  | some C => exact (List.getElem?_eq_some_iff.1 hb).1

theorem Pre.blk {H H' : AHeap} (h : Pre H H') {b : Nat} {B : Blk} (hb : blk? H b = some B) : blk? H' b = some B := by
  have := blk?_below hb
  unfold blk? at hb ⊢
  rw [h.get b this]; exact hb

theorem Pre.cell {H H' : AHeap} (h : Pre H H') {p : Addr} {v : Value} (hc : cellAt H p = some v) : cellAt H' p = some v := by
  unfold cellAt at hc ⊢
  cases hb : blk? H p.block with
  | none => simp [hb] at hc
  | some B => rw [h.blk hb]; rw [hb] at hc; exact hc

theorem RI.pre {H H' : AHeap} {k : IntKind} {a : Option Addr} {c : Nat} {l : List Int} (h : RI H k a c l) (hp : Pre H H') : RI H' k a c l :=
  ⟨h.cap, fun i hi => by obtain ⟨b, o, h1, h2⟩ := h.at_ i hi; exact ⟨b, o, h1, hp.cell h2⟩, h.len⟩

/-- One block has turned. -/
structure Upd (H H' : AHeap) (b : Nat) : Prop where
  len : H'.length = H.length
  get : ∀ i : Nat, i ≠ b → H'[i]? = H[i]?

theorem Pre.upd {H0 H H' : AHeap} {b : Nat} (h : Pre H0 H) (u : Upd H H' b) (hb : H0.length ≤ b) : Pre H0 H' :=
  ⟨by rw [u.len]; exact h.len, fun i hi => (u.get i (by omega)).trans (h.get i hi)⟩
theorem Upd.blk {H H' : AHeap} {b i : Nat} (u : Upd H H' b) (hi : i ≠ b) {B : Blk} (h : blk? H i = some B) : blk? H' i = some B := by
  unfold blk? at h ⊢
  rw [u.get i hi]; exact h

/-- A load out of a block that is known. -/
def loadB (P : Program) (ty : TypeId) (B : Blk) (o : Nat) : Option Value :=
  match aTy P ty with
  | .struct sz _ | .array _ _ _ sz => if o + sz ≤ B.cells.length ∧ ((B.cells.drop o).take sz).all (fun v => !holeB v) = true then some (.agg ((B.cells.drop o).take sz).toArray) else none
  | .other => none
  | _ => match B.cells[o]? with
    | some v => if holeB v then none else some v
    | none => none

theorem load_blk {P : Program} {ty : TypeId} {H : AHeap} {b o : Nat} {B : Blk} {v : Value} (hb : blk? H b = some B) (h : loadB P ty B o = some v) : loadA P ty H ⟨b, o, none⟩ = some v := by
  unfold loadB at h
  unfold loadA cellsAt cellAt
  simp only [hb]
  cases ht : aTy P ty with
  | other => simp [ht] at h
  | struct sz l =>
    simp only [ht] at h ⊢
    split at h
    · rename_i hl; rw [if_pos hl]; simpa using h
    · cases h
  | array n e es sz =>
    simp only [ht] at h ⊢
    split at h
    · rename_i hl; rw [if_pos hl]; simpa using h
    · cases h
  | one =>
    simp only [ht] at h ⊢
    cases hc : B.cells[o]? with
    | none => simp [hc] at h
    | some u => simp only [hc] at h ⊢; exact h
  | str =>
    simp only [ht] at h ⊢
    cases hc : B.cells[o]? with
    | none => simp [hc] at h
    | some u => simp only [hc] at h ⊢; exact h
  | slice e es eb =>
    simp only [ht] at h ⊢
    cases hc : B.cells[o]? with
    | none => simp [hc] at h
    | some u => simp only [hc] at h ⊢; exact h

/-- A store into a block that is known. -/
def storeB (P : Program) (ty : TypeId) (B : Blk) (o : Nat) (v : Value) : Option Blk :=
  if sizeA P ty = some v.cells.size ∧ o + v.cells.toList.length ≤ B.cells.length ∧ v.cells.toList.all Value.oneCell' = true then some { B with cells := setCells B.cells o v.cells.toList } else none

section
variable {P : Program} {fl : Nat} {t : Temps} {H H1 : AHeap} {Q : AExit → Temps → AHeap → Prop} {ops : Array Oper} {g : List Bool} {l : List Oper} {o : Oper} {K : Temps → AHeap → Prop}

theorem store_blk {ty : TypeId} {b off : Nat} {B B' : Blk} {v : Value} (hb : blk? H b = some B) (hf : fl ≤ b) (h : storeB P ty B off v = some B') :
    ∃ H', storeA P fl ty H ⟨b, off, none⟩ v = some H' ∧ blk? H' b = some B' ∧ Upd H H' b := by
  unfold storeB at h
  split at h
  · rename_i hc
    cases h
    obtain ⟨h1, h2⟩ : H[b]? = some B ∧ B.alive = true := by
      unfold blk? at hb
      cases hg : H[b]? with
      | none => simp [hg] at hb
      | some C =>
        simp only [hg] at hb
        split at hb
        · cases hb; exact ⟨rfl, ‹_›⟩
        · cases hb
    have hl := (List.getElem?_eq_some_iff.1 h1).1
    unfold storeA
    rw [if_pos hc.1]
    cases hv : v.cells.toList with
    | nil =>
      refine ⟨H, by simp [storeAt], ?_, rfl, fun _ _ => rfl⟩
      simp only [setCells]
      exact hb
    | cons x xs =>
      rw [hv] at hc
      refine ⟨H.set b { B with cells := setCells B.cells off (x :: xs) }, ?_, ?_, by simp, fun i hi => List.getElem?_set_ne (fun e => hi e.symm)⟩
      · simp only [storeAt, hb]
        rw [if_pos ⟨hf, hc.2.1, hc.2.2⟩]
      · unfold blk?
        rw [List.getElem?_set_self hl]
        simp [h2]
  · cases h

theorem D_load {ty : TypeId} {a : Operand} {b off : Nat} {B : Blk} {v : Value} (ho : o.op = .load ty a) (hw : wantedA ops t o = true) (ha : eval t a = .pointer (some ⟨b, off, none⟩)) (hb : blk? H b = some B) (hl : loadB P ty B off = some v)
    (h : WDrawn P fl ops g.tail l (tput t o.dst v) H K) : WDrawn P fl ops g (o :: l) t H K :=
  D_op hw (by rw [ho]; exact prim_load ha (load_blk hb hl)) h

theorem D_store {ty : TypeId} {a x : Operand} {b off : Nat} {B : Blk} (B' : Blk) {v : Value} (ho : o.op = .store ty a x) (hw : wantedA ops t o = true) (ha : eval t a = .pointer (some ⟨b, off, none⟩)) (hx : eval t x = v) (hb : blk? H b = some B)
    (hf : fl ≤ b) (hs : storeB P ty B off v = some B') (h : ∀ H', Upd H H' b → blk? H' b = some B' → WDrawn P fl ops g.tail l (tput t o.dst undef) H' K) : WDrawn P fl ops g (o :: l) t H K := by
  obtain ⟨H', h1, h2, h3⟩ := store_blk (P := P) (fl := fl) hb hf hs
  refine D_do (H1 := H') hw ?_ (h H' h3 h2)
  rw [ho]
  simp only [prim, ha, hx, h1, Option.map_some]

theorem new_get (H : AHeap) (B : Blk) (hB : B.alive = true) : blk? (H ++ [B]) H.length = some B := by
  simp [blk?, hB]

/-- What an operation that makes memory makes. -/
def makesB (P : Program) (op : Op) (ev : Operand → Value) (n : Nat) : Option (Value × Blk) :=
  match op with
  | .alloc ty => (azero P ty).map fun cs => (.pointer (some ⟨n, 0, none⟩), ⟨cs, 0, true, true⟩)
  | .box _ x => some (.pointer (some ⟨n, 0, none⟩), ⟨(ev x).cells.toList, 0, true, true⟩)
  | .buildSlice ty len parts => match aTy P ty with
    | .slice e es _ =>
      if len * es ≤ 2 ^ 20 then
        match azero P e with
        | some z => match afill (fun i => some (i * es, es)) (rowOf z (len * es)) (parts.toList.map fun p => (p.1, ev p.2)) with
          | some cs => some (.slice (some ⟨n, 0, none⟩) len len, ⟨cs, es, true, true⟩)
          | none => none
        | none => none
      else none
    | _ => none
  | _ => none

theorem makesB_prim {op : Op} {ev : Operand → Value} {v : Value} {B : Blk} (h : makesB P op ev H.length = some (v, B)) : prim P fl op ev H = some (.value v, H ++ [B]) ∧ B.alive = true := by
  unfold makesB at h
  cases op <;> simp only at h <;> try (cases h; done)
  case alloc ty =>
    cases hz : azero P ty with
    | none => simp [hz] at h
    | some cs => simp [hz] at h; obtain ⟨rfl, rfl⟩ := h; simp [prim, hz]
  case box ty x => cases h; simp [prim]
  case buildSlice ty len parts =>
    cases ht : aTy P ty with
    | slice e es eb =>
      simp only [ht] at h
      split at h
      · rename_i hle
        cases hz : azero P e with
        | none => simp [hz] at h
        | some z =>
          simp only [hz] at h
          split at h
          · rename_i cs hc
            cases h
            simp only [prim, ht, hle, if_true, hz, hc]
            exact ⟨trivial, trivial⟩
          · cases h
      · cases h
    | _ => simp [ht] at h

/-- A new block: its number is a letter. -/
theorem D_new {v : Nat → Value} {B : Blk} (hw : wantedA ops t o = true) (hm : ∀ n, makesB P o.op (eval t) n = some (v n, B))
    (h : ∀ b H', Pre H H' → H.length ≤ b → blk? H' b = some B → WDrawn P fl ops g.tail l (tput t o.dst (v b)) H' K) : WDrawn P fl ops g (o :: l) t H K := by
  obtain ⟨h1, h2⟩ := makesB_prim (fl := fl) (hm H.length)
  exact D_op hw h1 (h H.length (H ++ [B]) (Pre.push H [B]) (Nat.le_refl _) (new_get H B h2))

theorem resultAll_cell {d : Tmp} {ty : TypeId} {b off : Nat} {B : Blk} {v : Value} {rs : List ResultVar} {vs : List Value} (ha : t d = .pointer (some ⟨b, off, none⟩)) (hb : blk? H b = some B) (hl : loadB P ty B off = some v)
    (h : resultAll P t H rs = some vs) : resultAll P t H (.cell d ty :: rs) = some (v :: vs) := by
  simp only [resultAll, resultOne, ha, load_blk hb hl, h]
theorem resultAll_tmp {d : Tmp} {v : Value} {rs : List ResultVar} {vs : List Value} (ha : t d = v) (h : resultAll P t H rs = some vs) : resultAll P t H (.tmp d :: rs) = some (v :: vs) := by
  simp only [resultAll, resultOne, ha, h]

end
end Go.Mach
