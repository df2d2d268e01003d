/- Structs that came in, cell by cell. Definitions and laws; no condition. -/
/- Structs that came in, cell by cell, and how long their slices are at most. Definitions and laws; no condition. -/
import Derived.Test.YtajjfflbcpkokaaGreatVArg
import Derived.SizedLaws
namespace Go.Mach
open Go.RowKit Go.ChangeShapes Go.WideShapes
set_option linter.unusedVariables false
set_option linter.unusedSimpArgs false

inductive Ck
  | int (k : IntKind)
  | bool
  | row (k : IntKind)

def flatFs (P : Program) (f : TypeId → Option (List (TypeId × Ck))) : List Field → Nat → Option (List (TypeId × Ck))
  | [], _ => some []
  | fl :: r, off => if fl.offset = off then
      match f fl.type with
      | some a => if a.length = P.cellsOf fl.type then (flatFs P f r (off + a.length)).map (a ++ ·) else none
      | none => none
    else none

/-- A type's cells, told one by one. -/
def flatK (P : Program) : Nat → TypeId → Option (List (TypeId × Ck))
  | 0, _ => none
  | n + 1, t => match P.underlying t with
    | some (.int k) => some [(t, .int k)]
    | some .bool => some [(t, .bool)]
    | some (.slice e) => match P.underlying e with
      | some (.int k) => if P.cellsOf e = 1 then some [(t, .row k)] else none
      | _ => none
    | some (.struct fs) => flatFs P (flatK P n) fs.toList 0
    | _ => none

def CellH (w : World) : Ck → Value → Prop
  | .int k, v => ∃ n, v = .int k n ∧ (Lit.int k n).wf = true
  | .bool, v => ∃ b, v = .bool b
  | .row k, v => ∃ a len cap zs, v = .slice a len cap ∧ RowH k w a len cap zs

theorem All2.of_get {α β : Type} {R : α → β → Prop} : ∀ {l : List α} {m : List β}, l.length = m.length → (∀ (i : Nat) (a : α) (b : β), l[i]? = some a → m[i]? = some b → R a b) → All2 R l m
  | [], [], _, _ => .nil
  | [], _ :: _, h, _ => by simp at h
  | _ :: _, [], h, _ => by simp at h
  | a :: l, b :: m, h, k => .cons (k 0 a b rfl rfl) (All2.of_get (by simpa using h) fun i a b ha hb => k (i + 1) a b (by simpa using ha) (by simpa using hb))

section
variable {H : Type} {enc : TypeId × Value → H} {P : Program} {w : World} {r : Reach} {base : Nat}

theorem flatFs_cells {f : TypeId → Option (List (TypeId × Ck))} {fuel : Nat} {cs : List Value}
    (IH : ∀ (t : TypeId) (ks : List (TypeId × Ck)) (cs : List Value) (x : DataW H × List MemPlace), f t = some ks → DataW.trod enc P w 0 (fun _ => true) true fuel t cs = some x → All2 (fun k v => Cell.okWide P w r base k.1 v) ks cs → All2 (fun k v => CellH w k.2 v) ks cs) :
    ∀ (l : List Field) (off : Nat) (ks : List (TypeId × Ck)), flatFs P f l off = some ks → (∀ fl ∈ l, ∃ x, DataW.trod enc P w 0 (fun _ => true) true fuel fl.type ((cs.drop fl.offset).take (P.cellsOf fl.type)) = some x) →
      All2 (fun k v => Cell.okWide P w r base k.1 v) ks (cs.drop off) → All2 (fun k v => CellH w k.2 v) ks (cs.drop off)
  | [], off, ks, h, _, hok => by
    cases h
    cases e : cs.drop off with
    | nil => exact .nil
    | cons a l => rw [e] at hok; cases hok
  | fl :: l, off, ks, h, hx, hok => by
    unfold flatFs at h
    split at h
    · rename_i e
      split at h
      · rename_i a ha
        split at h
        · rename_i hl
          cases hr : flatFs P f l (off + a.length) with
          | none => rw [hr] at h; cases h
          | some ks' =>
            rw [hr] at h
            have h : a ++ ks' = ks := Option.some.inj h
            subst h
            obtain ⟨m1, m2, em, h1, h2⟩ := hok.split
            have l1 := h1.len
            have e1 : m1 = (cs.drop off).take a.length := by rw [em, l1, List.take_left]
            have e2 : m2 = cs.drop (off + a.length) := by rw [← List.drop_drop, em, l1, List.drop_left]
            obtain ⟨x, hxx⟩ := hx fl List.mem_cons_self
            rw [e, ← hl, ← e1] at hxx
            have k1 := IH _ _ _ _ ha hxx h1
            rw [e2] at h2
            have k2 := flatFs_cells IH l (off + a.length) ks' hr (fun g hg => hx g (List.mem_cons_of_mem _ hg)) h2
            rw [← e2] at k2
            rw [em]
            exact k1.app k2
        · cases h
      · cases h
    · cases h

theorem flat_cells : ∀ (n : Nat) (t : TypeId) (ks : List (TypeId × Ck)) (fuel : Nat) (cs : List Value) (x : DataW H × List MemPlace), flatK P n t = some ks → DataW.trod enc P w 0 (fun _ => true) true fuel t cs = some x → All2 (fun k v => Cell.okWide P w r base k.1 v) ks cs → All2 (fun k v => CellH w k.2 v) ks cs
  | 0, t, ks, fuel, cs, x, h, _, _ => by cases h
  | n + 1, t, ks, fuel, cs, x, h, hx, hok => by
    unfold flatK at h
    split at h
    · rename_i k hk
      cases h
      obtain ⟨m, rfl, _, hw⟩ := DataW.trod_int hk hx
      exact .cons ⟨m, rfl, hw⟩ .nil
    · rename_i hk
      cases h
      obtain ⟨b, rfl, _⟩ := DataW.trod_bool hk hx
      exact .cons ⟨b, rfl⟩ .nil
    · rename_i e hk
      split at h
      · rename_i k he
        split at h
        · rename_i hc
          cases h
          cases hok with
          | cons hv ht =>
            cases ht
            obtain ⟨a, len, cap, zs, rfl, hr⟩ := open_row hk he hc hx hv
            exact .cons ⟨a, len, cap, zs, rfl, hr⟩ .nil
        · cases h
      · cases h
    · rename_i fs hk
      obtain ⟨xs, m, _, _, _, hxl, hxs⟩ := DataW.trod_struct hk hx
      have hd : cs.drop 0 = cs := rfl
      refine flatFs_cells (cs := cs) (fuel := m) (fun t ks cs x h1 h2 h3 => flat_cells n t ks m cs x h1 h2 h3) fs.toList 0 ks h ?_ hok
      intro fl hfl
      obtain ⟨i, hi, e⟩ := List.getElem_of_mem hfl
      have hget : fs[i]? = some fl := by
        rw [← Array.getElem?_toList, List.getElem?_eq_getElem hi, e]
      have := hxs i fl hget
      have hlt : i < xs.length := by rw [hxl]; simpa using hi
      rw [List.getElem?_eq_getElem hlt] at this
      exact ⟨_, this⟩
    · cases h

/-- A struct that came in, cell by cell. -/
theorem open_flat {t : TypeId} {fs : Array Field} {n : Nat} {ks : List (TypeId × Ck)} {v : Value} {d : DataW H} {ps : List MemPlace} (ht : P.underlying t = some (.struct fs)) (hk : flatK P n t = some ks) (hc : P.cellsOf t = ks.length)
    (hts : P.cellTypes P.depth t = some (ks.map (·.1))) (hok : Value.okWide P w r base t v) (hd : DataW.Trod enc P w 0 (fun _ => true) true t v d ps) : ∃ cs : List Value, v = .agg cs.toArray ∧ All2 (fun k v => CellH w k.2 v) ks cs := by
  obtain ⟨cs, rfl, hsz⟩ := okWide_struct ht hok
  obtain ⟨fuel, hf⟩ := hd
  refine ⟨cs.toList, by simp, flat_cells (r := r) (base := base) n t ks fuel cs.toList _ hk hf ?_⟩
  refine All2.of_get (by simp [hsz, hc]) fun i a b ha hb => ?_
  have hb' : cs[i]? = some b := by rw [← Array.getElem?_toList]; exact hb
  refine agg_cell ht hts hok (i := i) ?_ hb'
  rw [List.getElem?_map, ha]
  rfl

theorem flat_cons {k : TypeId × Ck} {ks : List (TypeId × Ck)} {cs : List Value} (h : All2 (fun k v => CellH w k.2 v) (k :: ks) cs) : ∃ v vs, cs = v :: vs ∧ CellH w k.2 v ∧ All2 (fun k v => CellH w k.2 v) ks vs := by
  cases h with
  | cons h t => exact ⟨_, _, rfl, h, t⟩
theorem flat_nil {cs : List Value} (h : All2 (fun (k : TypeId × Ck) v => CellH w k.2 v) [] cs) : cs = [] := by cases h; rfl

theorem row_RL {k : IntKind} {a : Option Addr} {len cap : Nat} {zs : List Int} (h : RowH k w a len cap zs) : RL (ctx0 (heapOf w) noHs) (.fz false (.int k) (zs.take len)) (.slice a len cap) := row_R2 h
theorem agg_VRel {ρ : Ren} {avs : List Value} (h : ∀ x ∈ avs, VRel ρ x x) : VRel ρ (.agg avs.toArray) (.agg avs.toArray) := by
  refine .agg _ _ rfl fun i v v' ha hb => ?_
  rw [ha] at hb
  cases hb
  exact h v (by rw [← Array.getElem?_toList] at ha; exact List.mem_of_getElem? (by simpa using ha))

end
end Go.Mach

namespace Go.Mach
open Go.RowKit Go.ChangeShapes Go.WideShapes
set_option linter.unusedVariables false
set_option linter.unusedSimpArgs false

/-- A slice of numbers that came in, and its bytes. -/
def CellS (P : Program) (w : World) (k : TypeId × Ck) (v : Value) : Prop := CellH w k.2 v ∧ ∀ a len cap e, v = .slice a len cap → P.underlying k.1 = some (.slice e) → len * P.bytesOf e ≤ reachBytes

section
variable {H : Type} {enc : TypeId × Value → H} {P : Program} {w : World} {r : Reach} {base : Nat}

theorem row_sized {t e : TypeId} {k : IntKind} {fuel : Nat} {v : Value} {x : DataW H × List MemPlace} (ht : P.underlying t = some (.slice e)) (he : P.underlying e = some (.int k)) (hc : P.cellsOf e = 1)
    (h : DataW.trod enc P w 0 (fun _ => true) true fuel t [v] = some x) (hs : ∀ n ∈ x.1.weights P t, n ≤ reachBytes) (hok : Cell.okWide P w r base t v) : CellS P w (t, .row k) v := by
  rcases open_ints ht he hc h with ⟨hcs, _⟩ | ⟨a, l, c, zs, hcs, _, hl, hm, hz, hx, hcell, hwz⟩
  · cases hcs
    refine ⟨⟨none, 0, 0, [], rfl, .inl ⟨rfl, rfl, rfl, rfl⟩⟩, fun a len cap e' h1 _ => ?_⟩
    cases h1
    simp
  · cases hcs
    refine ⟨⟨some a, l, c, zs, rfl, .inr ⟨a, rfl, cell_home ht hok, hl, hm, by simpa using hz, hcell, hwz⟩⟩, fun a' len cap e' h1 h2 => ?_⟩
    cases h1
    rw [ht] at h2
    cases h2
    cases hx
    have h := hs (((lits k (zs.take l)).length + (lits k (zs.drop l)).length) * P.bytesOf e) (by simp only [DataW.weights, ht]; exact List.mem_cons_self)
    have hz : zs.length = c := by simpa using hz
    simp only [lits, List.length_map, List.length_take, List.length_drop] at h
    have : l * P.bytesOf e ≤ (min l zs.length + (zs.length - l)) * P.bytesOf e := Nat.mul_le_mul_right _ (by omega)
    omega

theorem flatFs_sized {f : TypeId → Option (List (TypeId × Ck))} {fuel : Nat} {cs : List Value}
    (IH : ∀ (t : TypeId) (ks : List (TypeId × Ck)) (cs : List Value) (x : DataW H × List MemPlace), f t = some ks → DataW.trod enc P w 0 (fun _ => true) true fuel t cs = some x → (∀ n ∈ x.1.weights P t, n ≤ reachBytes) → All2 (fun k v => Cell.okWide P w r base k.1 v) ks cs → All2 (fun k v => CellS P w k v) ks cs) :
    ∀ (l : List Field) (off : Nat) (ks : List (TypeId × Ck)), flatFs P f l off = some ks → (∀ fl ∈ l, ∃ x, DataW.trod enc P w 0 (fun _ => true) true fuel fl.type ((cs.drop fl.offset).take (P.cellsOf fl.type)) = some x ∧ ∀ n ∈ x.1.weights P fl.type, n ≤ reachBytes) →
      All2 (fun k v => Cell.okWide P w r base k.1 v) ks (cs.drop off) → All2 (fun k v => CellS P w k v) ks (cs.drop off)
  | [], off, ks, h, _, hok => by
    cases h
    cases e : cs.drop off with
    | nil => exact .nil
    | cons a l => rw [e] at hok; cases hok
  | fl :: l, off, ks, h, hx, hok => by
    unfold flatFs at h
    split at h
    · rename_i e
      split at h
      · rename_i a ha
        split at h
        · rename_i hl
          cases hr : flatFs P f l (off + a.length) with
          | none => rw [hr] at h; cases h
          | some ks' =>
            rw [hr] at h
            have h : a ++ ks' = ks := Option.some.inj h
            subst h
            obtain ⟨m1, m2, em, h1, h2⟩ := hok.split
            have l1 := h1.len
            have e1 : m1 = (cs.drop off).take a.length := by rw [em, l1, List.take_left]
            have e2 : m2 = cs.drop (off + a.length) := by rw [← List.drop_drop, em, l1, List.drop_left]
            obtain ⟨x, hxx, hxs⟩ := hx fl List.mem_cons_self
            rw [e, ← hl, ← e1] at hxx
            have k1 := IH _ _ _ _ ha hxx hxs h1
            rw [e2] at h2
            have k2 := flatFs_sized IH l (off + a.length) ks' hr (fun g hg => hx g (List.mem_cons_of_mem _ hg)) h2
            rw [← e2] at k2
            rw [em]
            exact k1.app k2
        · cases h
      · cases h
    · cases h

theorem flat_sized : ∀ (n : Nat) (t : TypeId) (ks : List (TypeId × Ck)) (fuel : Nat) (cs : List Value) (x : DataW H × List MemPlace), flatK P n t = some ks → DataW.trod enc P w 0 (fun _ => true) true fuel t cs = some x → (∀ n ∈ x.1.weights P t, n ≤ reachBytes) → All2 (fun k v => Cell.okWide P w r base k.1 v) ks cs → All2 (fun k v => CellS P w k v) ks cs
  | 0, t, ks, fuel, cs, x, h, _, _, _ => by cases h
  | n + 1, t, ks, fuel, cs, x, h, hx, hs, hok => by
    unfold flatK at h
    split at h
    · rename_i k hk
      cases h
      obtain ⟨m, rfl, _, hw⟩ := DataW.trod_int hk hx
      exact .cons ⟨⟨m, rfl, hw⟩, fun a len cap e h1 _ => by cases h1⟩ .nil
    · rename_i hk
      cases h
      obtain ⟨b, rfl, _⟩ := DataW.trod_bool hk hx
      exact .cons ⟨⟨b, rfl⟩, fun a len cap e h1 _ => by cases h1⟩ .nil
    · rename_i e hk
      split at h
      · rename_i k he
        split at h
        · rename_i hc
          cases h
          cases hok with
          | cons hv ht =>
            cases ht
            exact .cons (row_sized hk he hc hx hs hv) .nil
        · cases h
      · cases h
    · rename_i fs hk
      obtain ⟨xs, m, _, ex, _, hxl, hxs⟩ := DataW.trod_struct hk hx
      have hd : cs.drop 0 = cs := rfl
      refine flatFs_sized (cs := cs) (fuel := m) (fun t ks cs x h1 h2 h3 h4 => flat_sized n t ks m cs x h1 h2 h3 h4) fs.toList 0 ks h ?_ hok
      intro fl hfl
      obtain ⟨i, hi, e⟩ := List.getElem_of_mem hfl
      have hget : fs[i]? = some fl := by
        rw [← Array.getElem?_toList, List.getElem?_eq_getElem hi, e]
      have := hxs i fl hget
      have hlt : i < xs.length := by rw [hxl]; simpa using hi
      rw [List.getElem?_eq_getElem hlt] at this
      refine ⟨_, this, fun q hq => hs q ?_⟩
      rw [ex]
      simp only [DataW.weights, hk]
      refine DataW.weights_mem_each (j := i) (t := fl.type) (d := xs[i].1) ?_ ?_ q hq
      · rw [List.getElem?_map, Array.getElem?_toList, hget]; rfl
      · rw [List.getElem?_map, List.getElem?_eq_getElem hlt]; rfl
    · cases h

/-- A struct that came in, cell by cell, each slice no longer than can be. -/
theorem open_flatS {ts : List TypeId} {ds : List (DataW H)} {j : Nat} {t : TypeId} {fs : Array Field} {n : Nat} {ks : List (TypeId × Ck)} {v : Value} {d : DataW H} {ps : List MemPlace} (ht : P.underlying t = some (.struct fs)) (hk : flatK P n t = some ks) (hc : P.cellsOf t = ks.length)
    (hts : P.cellTypes P.depth t = some (ks.map (·.1))) (hok : Value.okWide P w r base t v) (hd : DataW.Trod enc P w 0 (fun _ => true) true t v d ps)
    (hsz : (DataW.weightsEach P ts ds).all (· ≤ reachBytes) = true) (hj : ts[j]? = some t) (hdj : ds[j]? = some d) : ∃ cs : List Value, v = .agg cs.toArray ∧ All2 (fun k v => CellS P w k v) ks cs := by
  obtain ⟨cs, rfl, hsz'⟩ := okWide_struct ht hok
  obtain ⟨fuel, hf⟩ := hd
  have hs : ∀ n ∈ d.weights P t, n ≤ reachBytes := fun n hn => by
    have := List.all_eq_true.1 hsz _ (DataW.weights_mem_each hj hdj n hn)
    simpa using this
  refine ⟨cs.toList, by simp, flat_sized (r := r) (base := base) n t ks fuel cs.toList _ hk hf hs ?_⟩
  refine All2.of_get (by simp [hsz', hc]) fun i a b ha hb => ?_
  have hb' : cs[i]? = some b := by rw [← Array.getElem?_toList]; exact hb
  refine agg_cell ht hts hok (i := i) ?_ hb'
  rw [List.getElem?_map, ha]
  rfl
theorem flatS_cons {k : TypeId × Ck} {ks : List (TypeId × Ck)} {cs : List Value} (h : All2 (fun k v => CellS P w k v) (k :: ks) cs) : ∃ v vs, cs = v :: vs ∧ CellS P w k v ∧ All2 (fun k v => CellS P w k v) ks vs := by
  cases h with
  | cons h t => exact ⟨_, _, rfl, h, t⟩
theorem flatS_nil {cs : List Value} (h : All2 (fun k v => CellS P w k v) [] cs) : cs = [] := by cases h; rfl

end
end Go.Mach
