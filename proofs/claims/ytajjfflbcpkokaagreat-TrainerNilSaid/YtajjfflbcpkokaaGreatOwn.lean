/- The blocks of one's own, all in one list. Laws; no condition. -/
import Derived.Test.YtajjfflbcpkokaaGreatMem
namespace Go.Mach

/-- A block of one's own, or none (a nil slice). -/
abbrev Obj := Option Nat × Blk

def Obj.ok (n : Nat) (H : AHeap) (p : Obj) : Prop :=
  match p.1 with
  | some b => n ≤ b ∧ blk? H b = some p.2
  | none => p.2.cells = []

/-- From H0 on H has come: what was there is as it was, the blocks of the list are new and apart. -/
structure St (H0 H : AHeap) (L : List Obj) : Prop where
  pre : Pre H0 H
  own : ∀ p ∈ L, Obj.ok H0.length H p
  nodup : (L.filterMap (·.1)).Nodup

def sl (a : Option Nat) (n : Nat) : Value := .slice (a.map fun b => ⟨b, 0, none⟩) n n
def ib (k : IntKind) (l : List Int) (ex : Bool) : Blk := ⟨l.map (Value.int k), 1, ex, true⟩

section
variable {H0 H H' H2 : AHeap} {L L2 : List Obj} {i j b b' : Nat} {B B' : Blk} {a : Option Nat} {k : IntKind} {l : List Int} {ex : Bool}

theorem St.refl (H : AHeap) : St H H [] := ⟨Pre.refl H, (fun p hp => by cases hp), List.nodup_nil⟩

theorem St.ok (h : St H0 H L) {p : Obj} (hi : L[i]? = some p) : Obj.ok H0.length H p := h.own p (List.mem_of_getElem? hi)
theorem St.get (h : St H0 H L) (hi : L[i]? = some (some b, B)) : blk? H b = some B := (h.ok hi).2
theorem St.lo (h : St H0 H L) (hi : L[i]? = some (some b, B)) : H0.length ≤ b := (h.ok hi).1
theorem St.hi (h : St H0 H L) (hi : L[i]? = some (some b, B)) : b < H.length := blk?_below (h.get hi)
theorem St.len (h : St H0 H L) : H0.length ≤ H.length := h.pre.len

theorem fm_get : ∀ {L : List Obj} {i : Nat} {b : Nat} {B : Blk}, L[i]? = some (some b, B) → b ∈ L.filterMap (·.1) := by
  intro L i b B h
  exact List.mem_filterMap.2 ⟨_, List.mem_of_getElem? h, rfl⟩

theorem fm_ne : ∀ {L : List Obj}, (L.filterMap (·.1)).Nodup → ∀ {i j : Nat} {b b' : Nat} {B B' : Blk}, i ≠ j → L[i]? = some (some b, B) → L[j]? = some (some b', B') → b ≠ b' := by
  intro L
  induction L with
  | nil => intro _ i j b b' B B' _ h; simp at h
  | cons p L ih =>
    intro hn i j b b' B B' hij hi hj
    obtain ⟨pa, pB⟩ := p
    have hn' : (L.filterMap (·.1)).Nodup := by
      cases pa with
      | none => simpa using hn
      | some c => simp only [List.filterMap_cons] at hn; exact (List.nodup_cons.1 hn).2
    cases i with
    | zero =>
      cases j with
      | zero => exact absurd rfl hij
      | succ j =>
        simp only [List.getElem?_cons_zero, Option.some.injEq, Prod.mk.injEq] at hi
        obtain ⟨rfl, rfl⟩ := hi
        simp only [List.getElem?_cons_succ] at hj
        simp only [List.filterMap_cons] at hn
        intro e
        exact (List.nodup_cons.1 hn).1 (e ▸ fm_get hj)
    | succ i =>
      cases j with
      | zero =>
        simp only [List.getElem?_cons_zero, Option.some.injEq, Prod.mk.injEq] at hj
        obtain ⟨rfl, rfl⟩ := hj
        simp only [List.getElem?_cons_succ] at hi
        simp only [List.filterMap_cons] at hn
        intro e
        exact (List.nodup_cons.1 hn).1 (e ▸ fm_get hi)
      | succ j =>
        simp only [List.getElem?_cons_succ] at hi hj
        exact ih hn' (fun e => hij (by omega)) hi hj

theorem St.ne (h : St H0 H L) (hij : i ≠ j) (hi : L[i]? = some (some b, B)) (hj : L[j]? = some (some b', B')) : b ≠ b' := fm_ne h.nodup hij hi hj

theorem Obj.ok.pre {n : Nat} {p : Obj} (h : Obj.ok n H p) (hp : Pre H H') : Obj.ok n H' p := by
  unfold Obj.ok at h ⊢
  split at h
  · exact ⟨h.1, hp.blk h.2⟩
  · exact h

theorem St.new (h : St H0 H L) (hp : Pre H H') (hb : H.length ≤ b) (hB : blk? H' b = some B) : St H0 H' (L ++ [(some b, B)]) := by
  refine ⟨h.pre.trans hp, ?_, ?_⟩
  · intro p hm
    rcases List.mem_append.1 hm with hm | hm
    · exact (h.own p hm).pre hp
    · cases List.mem_singleton.1 hm
      exact ⟨Nat.le_trans h.pre.len hb, hB⟩
  · rw [List.filterMap_append]
    refine List.nodup_append.2 ⟨h.nodup, by simp, ?_⟩
    intro x hx y hy
    obtain ⟨p, hp1, hp2⟩ := List.mem_filterMap.1 hx
    have := h.own p hp1
    unfold Obj.ok at this
    rw [hp2] at this
    have := blk?_below this.2
    simp at hy
    omega

theorem St.next (h : St H0 H L) (k : St H H' L2) : St H0 H' (L ++ L2) := by
  refine ⟨h.pre.trans k.pre, ?_, ?_⟩
  · intro p hm
    rcases List.mem_append.1 hm with hm | hm
    · exact (h.own p hm).pre k.pre
    · have := k.own p hm
      unfold Obj.ok at this ⊢
      split at this
      · exact ⟨Nat.le_trans h.pre.len this.1, this.2⟩
      · exact this
  · rw [List.filterMap_append]
    refine List.nodup_append.2 ⟨h.nodup, k.nodup, ?_⟩
    intro x hx y hy
    obtain ⟨p, hp1, hp2⟩ := List.mem_filterMap.1 hx
    obtain ⟨q, hq1, hq2⟩ := List.mem_filterMap.1 hy
    have h1 := h.own p hp1
    have h2 := k.own q hq1
    unfold Obj.ok at h1 h2
    rw [hp2] at h1
    rw [hq2] at h2
    have := blk?_below h1.2
    omega

/-- Only some of the list. -/
def keepM : List Bool → List Obj → List Obj
  | true :: m, p :: l => p :: keepM m l
  | false :: m, _ :: l => keepM m l
  | _, _ => []

theorem keepM_sub : ∀ (m : List Bool) (l : List Obj), List.Sublist (keepM m l) l
  | [], l => by unfold keepM; exact List.nil_sublist l
  | m, [] => by cases m with
    | nil => exact List.nil_sublist _
    | cons x m => cases x <;> exact List.nil_sublist _
  | true :: m, p :: l => (keepM_sub m l).cons_cons p
  | false :: m, p :: l => (keepM_sub m l).cons p

theorem St.keep (h : St H0 H L) (m : List Bool) (hL : keepM m L = L2) : St H0 H L2 := by
  subst hL
  have hs := keepM_sub m L
  exact ⟨h.pre, fun p hp => h.own p (hs.subset hp), List.Nodup.sublist (hs.filterMap _) h.nodup⟩

/-- What was there, and the list in another order or shorter. -/
theorem St.upd (h : St H0 H L) (hi : L[i]? = some (some b, B)) (u : Upd H H' b) (hB : blk? H' b = some B') : St H0 H' (L.set i (some b, B')) := by
  have hlo := h.lo hi
  refine ⟨h.pre.upd u hlo, ?_, ?_⟩
  · intro p hm
    obtain ⟨j, hj, he⟩ := List.mem_iff_getElem.1 hm
    have hj' : (L.set i (some b, B'))[j]? = some p := by rw [List.getElem?_eq_getElem hj, he]
    by_cases hij : j = i
    · subst hij
      have hl : j < L.length := by simpa using hj
      rw [List.getElem?_set_self hl] at hj'
      cases hj'
      exact ⟨hlo, hB⟩
    · rw [List.getElem?_set_ne (fun e => hij e.symm)] at hj'
      have h1 := h.ok hj'
      obtain ⟨pa, pB⟩ := p
      cases pa with
      | none => exact h1
      | some c => exact ⟨h1.1, u.blk (h.ne hij hj' hi) h1.2⟩
  · have : (L.set i (some b, B')).filterMap (·.1) = L.filterMap (·.1) := by
      clear hlo hB u h
      induction L generalizing i with
      | nil => rfl
      | cons p L ih =>
        cases i with
        | zero => simp only [List.getElem?_cons_zero, Option.some.injEq] at hi; subst hi; rfl
        | succ i => simp only [List.getElem?_cons_succ] at hi; simp only [List.set_cons_succ, List.filterMap_cons, ih hi]
    rw [this]; exact h.nodup

theorem cells_ib : (ib k l ex).cells = l.map (Value.int k) := rfl

theorem ib_cell {k : IntKind} {l : List Int} {i : Nat} (h : i < l.length) : (l.map (Value.int k))[i]? = some (.int k (l.getD i 0)) := by
  rw [List.getElem?_map, List.getElem?_eq_getElem h]
  simp [List.getD_eq_getElem?_getD, List.getElem?_eq_getElem h]

/-- A slice of one's own reads as its list. -/
theorem St.ri (h : St H0 H L) (hi : L[i]? = some (a, ib k l ex)) (hl : (l.length : Int) ≤ 9223372036854775807) : RI H k (a.map fun b => ⟨b, 0, none⟩) l.length l := by
  refine ⟨Nat.le_refl _, fun j hj => ?_, hl⟩
  cases a with
  | none =>
    have : (ib k l ex).cells = [] := h.ok hi
    have : l = [] := List.map_eq_nil_iff.1 this
    subst this; simp at hj
  | some b =>
    have hg := h.get hi
    refine ⟨b, 0, rfl, ?_⟩
    unfold cellAt
    simp only [hg, Nat.zero_add, cells_ib, ib_cell hj, holeB, Bool.false_eq_true, if_false]

/-- Where there is a number there is a block. -/
theorem St.isOne (h : St H0 H L) (hi : L[i]? = some (a, ib k l ex)) (hl : 0 < l.length) : ∃ b, a = some b := by
  cases a with
  | none =>
    have : (ib k l ex).cells = [] := h.ok hi
    have : l = [] := List.map_eq_nil_iff.1 this
    subst this; simp at hl
  | some b => exact ⟨b, rfl⟩

end

section
variable {P : Program} {fl : Nat} {t : Temps} {H0 H : AHeap} {L : List Obj} {ops : Array Oper} {g : List Bool} {lo : List Oper} {o : Oper} {K : Temps → AHeap → Prop} {i j b : Nat} {B : Blk} {a : Option Nat} {k : IntKind} {l : List Int} {ex : Bool}

/-- A new block in the list. -/
theorem S_new (hS : St H0 H L) {v : Nat → Value} (B : Blk) (L' : Nat → List Obj) (hL : ∀ b, L ++ [(some b, B)] = L' b) (hw : wantedA ops t o = true) (hm : ∀ n, makesB P o.op (eval t) n = some (v n, B))
    (h : ∀ b H', St H0 H' (L' b) → WDrawn P fl ops g.tail lo (tput t o.dst (v b)) H' K) : WDrawn P fl ops g (o :: lo) t H K :=
  D_new hw hm fun b H' hp hb hB => h b H' (by rw [← hL]; exact hS.new hp hb hB)

theorem S_load (hS : St H0 H L) (i : Nat) {ty : TypeId} {x : Operand} {off : Nat} {v : Value} (hi : L[i]? = some (some b, B)) (ho : o.op = .load ty x) (hw : wantedA ops t o = true) (ha : eval t x = .pointer (some ⟨b, off, none⟩))
    (hl : loadB P ty B off = some v) (h : WDrawn P fl ops g.tail lo (tput t o.dst v) H K) : WDrawn P fl ops g (o :: lo) t H K :=
  D_load ho hw ha (hS.get hi) hl h

theorem S_store (hS : St H0 H L) (hfl : fl ≤ H0.length) (i : Nat) {ty : TypeId} {x y : Operand} {off : Nat} {v : Value} (B' : Blk) (L' : List Obj) (hi : L[i]? = some (some b, B)) (hL : L.set i (some b, B') = L') (ho : o.op = .store ty x y) (hw : wantedA ops t o = true)
    (ha : eval t x = .pointer (some ⟨b, off, none⟩)) (hx : eval t y = v) (hs : storeB P ty B off v = some B') (h : ∀ H', St H0 H' L' → WDrawn P fl ops g.tail lo (tput t o.dst undef) H' K) : WDrawn P fl ops g (o :: lo) t H K :=
  D_store B' ho hw ha hx (hS.get hi) (Nat.le_trans hfl (hS.lo hi)) hs fun H' hu hB => h H' (by rw [← hL]; exact hS.upd hi hu hB)

/-- A number of a slice of one's own. -/
theorem loadB_ib {ty : TypeId} {n : Nat} (ht : aTy P ty = .one) (hn : n < l.length) : loadB P ty (ib k l ex) n = some (.int k (l.getD n 0)) := by
  unfold loadB
  rw [ht]
  simp only [cells_ib, ib_cell hn, holeB, Bool.false_eq_true, if_false]

theorem setCells_one (cs : List Value) (n : Nat) (v : Value) : setCells cs n [v] = cs.set n v := rfl

theorem storeB_ib {ty : TypeId} {n : Nat} {x : Int} (ht : aTy P ty = .one) (hc : P.cellsOf ty = 1) (hn : n < l.length) : storeB P ty (ib k l ex) n (.int k x) = some (ib k (l.set n x) ex) := by
  unfold storeB
  rw [if_pos]
  · simp only [ib, Value.cells, setCells, List.map_set]
  · refine ⟨?_, ?_, ?_⟩
    · unfold sizeA; rw [ht, hc]; rfl
    · simp [ib, Value.cells]; omega
    · simp [Value.cells, Value.oneCell']

/-- make: noughts. -/
theorem S_makeSlice (hS : St H0 H L) {ty e eb : TypeId} {x y : Operand} {n : Int} {kx ky : IntKind} (L' : Nat → List Obj) (hL : ∀ b, L ++ [(some b, ib k (List.replicate n.toNat 0) true)] = L' b) (ho : o.op = .makeSlice ty x y) (hw : wantedA ops t o = true)
    (ht : aTy P ty = .slice e 1 eb) (hz : azero P e = some [.int k 0]) (hx : eval t x = .int kx n) (hy : eval t y = .int ky n) (h0 : 0 ≤ n) (h1 : n ≤ 70368744177664) (h2 : (eb : Int) * n ≤ 70368744177664)
    (h : ∀ b H', St H0 H' (L' b) → WDrawn P fl ops g.tail lo (tput t o.dst (sl (some b) n.toNat)) H' K) : WDrawn P fl ops g (o :: lo) t H K := by
  have hr : rowOf [Value.int k 0] (n.toNat * 1) = (List.replicate n.toNat (0 : Int)).map (Value.int k) := by
    unfold rowOf
    apply List.ext_getElem
    · simp
    · intro i h1 h2
      simp [Nat.mod_one]
  have hp : prim P fl o.op (eval t) H = some (.value (sl (some H.length) n.toNat), H ++ [ib k (List.replicate n.toNat 0) true]) := by
    rw [ho]
    have e46 : ((2 : Int) ^ 46) = 70368744177664 := by decide
    simp only [prim, ht, hx, hy, hz]
    rw [if_pos ⟨h0, Int.le_refl _, by rw [e46]; exact h1, by rw [e46]; exact h2⟩, hr]
    rfl
  exact D_op hw hp (h H.length _ (by rw [← hL]; exact hS.new (Pre.push H _) (Nat.le_refl _) (new_get H _ rfl)))

theorem firstA_own (hS : St H0 H L) {es : Nat} {cs : List Value} (hi : L[i]? = some (a, B)) (hc : cs = B.cells) {n c : Nat} (hes : 0 < es) (hn : cs.length = n * es) (hno : cs.all (fun v => !holeB v) = true) : firstA H es n (.slice (a.map fun b => ⟨b, 0, none⟩) n c) = some cs := by
  subst hc
  cases a with
  | none =>
    have h0 : B.cells = [] := hS.ok hi
    rw [h0] at hn ⊢
    simp only [Option.map_none, firstA]
    have hz : n = 0 := by
      have h1 : 0 = n * es := hn
      rcases Nat.mul_eq_zero.1 h1.symm with h | h <;> omega
    rw [if_pos hz]
  | some b =>
    have hg := hS.get hi
    simp only [Option.map_some, firstA]
    split
    · rename_i h0
      rw [h0] at hn
      rw [List.length_eq_zero_iff.1 hn]
    · simp only [cellsAt, hg]
      have ht : (B.cells.drop 0).take (n * es) = B.cells := by rw [← hn]; simp
      rw [ht, if_pos ⟨by omega, hno⟩]

/-- The block is done with. -/
theorem St.kill (hS : St H0 H L) (hfl : fl ≤ H0.length) {cs : List Value} {es : Nat} {ex0 : Bool} (hi : L[i]? = some (a, ⟨cs, es, ex0, true⟩)) :
    ∃ H', killA fl H es (a.map fun b => ⟨b, 0, none⟩) = some H' ∧ Pre H0 H' ∧ H'.length = H.length ∧ ∀ j p, j ≠ i → L[j]? = some p → Obj.ok H0.length H' p := by
  cases a with
  | none => exact ⟨H, rfl, hS.pre, rfl, fun j p _ hj => hS.ok hj⟩
  | some b =>
    have hg := hS.get hi
    have hlo := hS.lo hi
    have h1 : H[b]? = some ⟨cs, es, ex0, true⟩ := by
      unfold blk? at hg
      cases hb : H[b]? with
      | none => simp [hb] at hg
      | some C =>
        simp only [hb] at hg
        split at hg
        · exact hg
        · cases hg
    cases ex0 with
    | true => exact ⟨H, by simp only [killA, Option.map_some, h1, if_true], hS.pre, rfl, fun j p _ hj => hS.ok hj⟩
    | false =>
    have hu : Upd H (H.set b ⟨cs, es, false, false⟩) b := ⟨by simp, fun i hi => List.getElem?_set_ne (fun e => hi e.symm)⟩
    refine ⟨H.set b ⟨cs, es, false, false⟩, ?_, hS.pre.upd hu hlo, by simp, ?_⟩
    · simp only [killA, Option.map_some, h1]
      rw [if_neg (by simp), if_pos ⟨trivial, trivial, by omega⟩]
    · intro j p hj hp
      have h2 := hS.ok hp
      obtain ⟨pa, pB⟩ := p
      cases pa with
      | none => exact h2
      | some c => exact ⟨h2.1, hu.blk (hS.ne hj hp hi) h2.2⟩

theorem filterMap_set_sub {x : Obj} : ∀ {L : List Obj} {i : Nat}, ∀ b ∈ (L.set i x).filterMap (·.1), b ∈ L.filterMap (·.1) ∨ x.1 = some b := by
  intro L i b hb
  obtain ⟨p, hp, he⟩ := List.mem_filterMap.1 hb
  rcases List.mem_or_eq_of_mem_set hp with h | h
  · exact .inl (List.mem_filterMap.2 ⟨p, h, he⟩)
  · subst h; exact .inr he

theorem nodup_set {n : Nat} {B : Blk} : ∀ {L : List Obj}, (L.filterMap (·.1)).Nodup → (∀ b ∈ L.filterMap (·.1), b < n) → ∀ i, ((L.set i (some n, B)).filterMap (·.1)).Nodup
  | [], h, _, i => by simp
  | (pa, pB) :: L, h, hn, 0 => by
    simp only [List.set_cons_zero, List.filterMap_cons]
    refine List.nodup_cons.2 ⟨fun hm => ?_, ?_⟩
    · have : n ∈ List.filterMap (·.1) ((pa, pB) :: L) := by
        cases pa with
        | none => simpa using hm
        | some c => simp only [List.filterMap_cons]; exact List.mem_cons_of_mem _ hm
      exact Nat.lt_irrefl _ (hn n this)
    · cases pa with
      | none => simpa using h
      | some c => simp only [List.filterMap_cons] at h; exact (List.nodup_cons.1 h).2
  | (pa, pB) :: L, h, hn, i + 1 => by
    simp only [List.set_cons_succ]
    cases pa with
    | none =>
      simp only [List.filterMap_cons] at h hn ⊢
      exact nodup_set h hn i
    | some c =>
      simp only [List.filterMap_cons] at h hn ⊢
      obtain ⟨h1, h2⟩ := List.nodup_cons.1 h
      refine List.nodup_cons.2 ⟨fun hm => ?_, nodup_set h2 (fun b hb => hn b (List.mem_cons_of_mem _ hb)) i⟩
      rcases filterMap_set_sub _ hm with h3 | h3
      · exact h1 h3
      · have : n = c := Option.some.inj h3
        exact Nat.lt_irrefl _ (this ▸ hn c List.mem_cons_self)

theorem St.below (hS : St H0 H L) : ∀ b ∈ L.filterMap (·.1), b < H.length := by
  intro b hb
  obtain ⟨p, hp, he⟩ := List.mem_filterMap.1 hb
  have := hS.own p hp
  unfold Obj.ok at this
  rw [he] at this
  exact blk?_below this.2

/-- append to a slice of one's own (grown from nil). -/
theorem St.append (hS : St H0 H L) (hfl : fl ≤ H0.length) {e es eb n m : Nat} {cs new : List Value} {x : Value} {ex0 : Bool} (hm0 : 0 < m ∨ ex0 = false) (hi : L[i]? = some (a, ⟨cs, es, ex0, true⟩)) (hes : 0 < es) (hn : cs.length = n * es) (hno : cs.all (fun v => !holeB v) = true)
    (hx : firstA H es m x = some new) (hm : new.length = m * es) (h1 : new.all Value.oneCell' = true) (hz : (azero P e).map List.length = some es) (h46 : (n + m) * eb ≤ 70368744177664) (h46' : n + m ≤ 70368744177664) :
    ∃ a' H', appendTo P fl e es eb (a.map fun b => ⟨b, 0, none⟩) n n m x H = some (sl a' (n + m), H') ∧ St H0 H' (L.set i (a', ⟨cs ++ new, es, false, true⟩)) := by
  have e46 : 2 ^ 47 = 140737488355328 := by decide
  unfold appendTo
  simp only [hx]
  have hm0' := hm0
  clear hm0
  by_cases hm0 : m = 0
  · subst hm0
    rcases hm0' with h | rfl
    · omega
    have hnew : new = [] := List.length_eq_zero_iff.1 (by simpa using hm)
    subst hnew
    refine ⟨a, H, ?_, ?_⟩
    · rw [if_pos (by omega)]
      cases a with
      | none => rfl
      | some b => simp [storeAt, sl]
    · rw [List.append_nil]
      have : L.set i (a, ⟨cs, es, false, true⟩) = L := by
        apply List.ext_getElem?
        intro j
        by_cases hj : i = j
        · subst hj
          rw [List.getElem?_set_self (List.getElem?_eq_some_iff.1 hi).1, hi]
        · rw [List.getElem?_set_ne hj]
      rw [this]; exact hS
  · rw [if_neg (by omega), if_pos ⟨by rw [e46]; omega, by rw [e46]; omega, h1, hz⟩]
    rw [firstA_own hS hi rfl hes hn hno]
    obtain ⟨H', hk, hp, hl, ho⟩ := hS.kill (fl := fl) hfl hi
    simp only [hk]
    refine ⟨some H'.length, H' ++ [⟨cs ++ new, es, false, true⟩], rfl, hp.trans (Pre.push _ _), ?_, ?_⟩
    · intro p hm
      obtain ⟨j, hj, he⟩ := List.mem_iff_getElem.1 hm
      have hj' : (L.set i (some H'.length, ⟨cs ++ new, es, false, true⟩))[j]? = some p := by rw [List.getElem?_eq_getElem hj, he]
      by_cases hij : j = i
      · subst hij
        have hl : j < L.length := by simpa using hj
        rw [List.getElem?_set_self hl] at hj'
        cases hj'
        exact ⟨hp.len, new_get H' _ rfl⟩
      · rw [List.getElem?_set_ne (fun e => hij e.symm)] at hj'
        exact (ho j p hij hj').pre (Pre.push _ _)
    · refine nodup_set hS.nodup (fun b hb => ?_) i
      rw [hl]; exact hS.below b hb

theorem S_append (hS : St H0 H L) (hfl : fl ≤ H0.length) (i : Nat) {c : Call} {st xt e e' : TypeId} {es eb es' eb' n m : Nat} {cs new : List Value} {x y : Operand} {v : Value} {ex0 : Bool} (L' : Option Nat → List Obj) (hm0 : 0 < m ∨ ex0 = false) (ho : o.op = .call c) (hc : c.callee = .builtin .append)
    (hw : wantedA ops t o = true) (hts : c.argTypes[0]? = some st) (htx : c.argTypes[1]? = some xt) (has : c.args = #[x, y]) (hx : eval t x = sl a n) (hy : eval t y = v) (hty : aTy P st = .slice e es eb) (htx' : aTy P xt = .slice e' es' eb') (hl : lenA v = some m)
    (hi : L[i]? = some (a, ⟨cs, es, ex0, true⟩)) (hL : ∀ a', L.set i (a', ⟨cs ++ new, es, false, true⟩) = L' a') (hes : 0 < es) (hn : cs.length = n * es) (hno : cs.all (fun v => !holeB v) = true)
    (hf : firstA H es m v = some new) (hm : new.length = m * es) (h1 : new.all Value.oneCell' = true) (hz : (azero P e).map List.length = some es) (h46 : (n + m) * eb ≤ 70368744177664) (h46' : n + m ≤ 70368744177664)
    (h : ∀ a' H', St H0 H' (L' a') → WDrawn P fl ops g.tail lo (tput t o.dst (sl a' (n + m))) H' K) : WDrawn P fl ops g (o :: lo) t H K := by
  obtain ⟨a', H', h2, h3⟩ := hS.append (P := P) (fl := fl) (x := v) hfl hm0 hi hes hn hno hf hm h1 hz h46 h46'
  refine D_op hw (v := sl a' (n + m)) (H1 := H') ?_ (h a' H' (by rw [← hL]; exact h3))
  rw [ho]
  have hv : v = v := rfl
  simp only [prim, callA, hc]
  unfold appendA
  simp only [hts, htx, has]
  simp only [List.map_toArray, List.map_cons, List.map_nil, List.getElem?_toArray, List.getElem?_cons_zero, List.getElem?_cons_succ, hx, hy, sl, hty, htx', hl]
  rw [h2]
  rfl

/-- Some of the list, in any order. -/
theorem St.pick (h : St H0 H L) (is : List Nat) (hn : is.Nodup) {L2 : List Obj} (hL : is.filterMap (fun i => L[i]?) = L2) : St H0 H L2 := by
  subst hL
  refine ⟨h.pre, fun p hp => ?_, ?_⟩
  · obtain ⟨i, _, hi⟩ := List.mem_filterMap.1 hp
    exact h.ok hi
  · induction is with
    | nil => simp
    | cons i is ih =>
      obtain ⟨h1, h2⟩ := List.nodup_cons.1 hn
      simp only [List.filterMap_cons]
      cases hi : L[i]? with
      | none => simpa using ih h2
      | some p =>
        obtain ⟨pa, pB⟩ := p
        cases pa with
        | none => simpa using ih h2
        | some b =>
          simp only [List.filterMap_cons]
          refine List.nodup_cons.2 ⟨fun hm => ?_, ih h2⟩
          obtain ⟨q, hq, hqb⟩ := List.mem_filterMap.1 hm
          obtain ⟨j, hj, hjq⟩ := List.mem_filterMap.1 hq
          obtain ⟨qa, qB⟩ := q
          cases hqb
          exact h.ne (fun (e : i = j) => h1 (by rw [e]; exact hj)) hi hjq rfl

theorem St.nil (h : St H0 H L) (es : Nat) (ex al : Bool) : St H0 H (L ++ [(none, ⟨[], es, ex, al⟩)]) := by
  refine ⟨h.pre, fun p hp => ?_, ?_⟩
  · rcases List.mem_append.1 hp with hp | hp
    · exact h.own p hp
    · cases List.mem_singleton.1 hp; exact rfl
  · rw [List.filterMap_append]; simpa using h.nodup

theorem prim_indexO {ty e es eb : TypeId} {x ix : Operand} {b n c : Nat} {k : IntKind} {z : Int} (m : Nat) (hty : aTy P ty = .slice e es eb) (hx : eval t x = .slice (some ⟨b, 0, none⟩) n c) (hi : eval t ix = .int k z)
    (hz : z = (m : Int)) (hn : m < n) : prim P fl (.indexAddr ty x ix) (eval t) H = some (.value (.pointer (some ⟨b, m * es, none⟩)), H) := by
  have := prim_index (P := P) (fl := fl) (H := H) hty hx hi (by omega) (by omega)
  rw [this, hz, Int.toNat_natCast, Nat.zero_add]
theorem prim_index1 {ty e eb : TypeId} {x ix : Operand} {b n c : Nat} {k : IntKind} {z : Int} (m : Nat) (hty : aTy P ty = .slice e 1 eb) (hx : eval t x = .slice (some ⟨b, 0, none⟩) n c) (hi : eval t ix = .int k z)
    (hz : z = (m : Int)) (hn : m < n) : prim P fl (.indexAddr ty x ix) (eval t) H = some (.value (.pointer (some ⟨b, m, none⟩)), H) := by
  have := prim_indexO (P := P) (fl := fl) (H := H) m hty hx hi hz hn
  rwa [Nat.mul_one] at this

theorem prim_indexB {ty e eb : TypeId} {x ix : Operand} {aa : Option Addr} {c : Nat} {k ki : IntKind} {z : Int} {l : List Int} (hs : RI H0 k aa c l) (m : Nat) (hty : aTy P ty = .slice e 1 eb)
    (hx : eval t x = .slice aa l.length c) (hi : eval t ix = .int ki z) (hz : z = (m : Int)) (hn : m < l.length) :
    ∃ p, prim P fl (.indexAddr ty x ix) (eval t) H = some (.value (.pointer (some p)), H) ∧ cellAt H0 p = some (.int k (l.getD m 0)) ∧ p.block < H0.length := by
  obtain ⟨b, o, rfl, hc⟩ := hs.at_ m (by omega)
  subst hz
  refine ⟨⟨b, o + (m : Int).toNat * 1, none⟩, prim_index hty hx hi (by omega) (by omega), ?_, ?_⟩
  · rw [Int.toNat_natCast, Nat.mul_one]; exact hc
  · unfold cellAt at hc
    cases hb : blk? H0 b with
    | none => simp [hb] at hc
    | some B => exact blk?_below hb

theorem D_loadB {ty : TypeId} {x : Operand} {p : Addr} {v : Value} (hp : Pre H0 H) (hc : cellAt H0 p = some v) (ht : aTy P ty = .one) (ho : o.op = .load ty x) (hw : wantedA ops t o = true) (ha : eval t x = .pointer (some p))
    (h : WDrawn P fl ops g.tail lo (tput t o.dst v) H K) : WDrawn P fl ops g (o :: lo) t H K := by
  refine D_op hw ?_ h
  rw [ho]
  refine prim_load ha ?_
  unfold loadA
  rw [ht]
  exact hp.cell hc

theorem clash_cons {p : Nat × Nat} {l : List (Nat × Nat)} (X Y X' Y' : List Nat) (h : clashOk ops t p = (apartB X Y && apartB X' Y')) (h1 : apartB X Y = true) (h2 : apartB X' Y' = true) (hl : l.all (clashOk ops t) = true) : (p :: l).all (clashOk ops t) = true := by
  simp only [List.all_cons, h, h1, h2, hl, Bool.and_self]
theorem apart_one {x y : Nat} (h : x ≠ y) : apartB [x] [y] = true := by simp [apartB, h]

theorem prim_callf {c : Call} {f : Operand} {f' : FuncId} {caps xs : Array Value} (hc : c.callee = .value f) (hf : eval t f = .func (.func f') #[] caps) (hg : goodFn P f' = true) (hx : c.args.map (eval t) = xs) :
    prim P fl (.call c) (eval t) H = some (.enter f' (#[] ++ xs ++ caps), H) := by
  simp only [prim, callA, hc, hf, hg, if_true, hx]

theorem ints_one (k : IntKind) (l : List Int) : (l.map (Value.int k)).all Value.oneCell' = true := by
  simp [Value.oneCell']

theorem ints_no (k : IntKind) (l : List Int) : (l.map (Value.int k)).all (fun v => !holeB v) = true := by
  simp [holeB]

/-- append of numbers to numbers. -/
theorem S_appendI (hS : St H0 H L) (hfl : fl ≤ H0.length) (i : Nat) {c : Call} {st xt e e' : TypeId} {eb es' eb' : Nat} {l2 : List Int} {nn m : Nat} {x y : Operand} {v : Value} {ex0 : Bool} (L' : Option Nat → List Obj) (hnn : nn = l.length) (hmm : m = l2.length) (hm0 : 0 < l2.length ∨ ex0 = false) (ho : o.op = .call c) (hc : c.callee = .builtin .append)
    (hw : wantedA ops t o = true) (hts : c.argTypes[0]? = some st) (htx : c.argTypes[1]? = some xt) (has : c.args = #[x, y]) (hx : eval t x = sl a nn) (hy : eval t y = v) (hty : aTy P st = .slice e 1 eb) (htx' : aTy P xt = .slice e' es' eb') (hl : lenA v = some m)
    (hi : L[i]? = some (a, ib k l ex0)) (hL : ∀ a', L.set i (a', ib k (l ++ l2) false) = L' a')
    (hf : firstA H 1 m v = some (l2.map (Value.int k))) (hz : azero P e = some [.int k 0]) (h46 : (l.length + l2.length) * eb ≤ 70368744177664) (h46' : l.length + l2.length ≤ 70368744177664)
    (h : ∀ a' H', St H0 H' (L' a') → WDrawn P fl ops g.tail lo (tput t o.dst (sl a' (l ++ l2).length)) H' K) : WDrawn P fl ops g (o :: lo) t H K := by
  subst hnn; subst hmm
  refine S_append hS hfl i (n := l.length) (m := l2.length) (cs := l.map (Value.int k)) (new := l2.map (Value.int k)) (ex0 := ex0) L' hm0 ho hc hw hts htx has hx hy hty htx' hl hi ?_ (by decide) (by simp) (ints_no k l) hf (by simp) (ints_one k l2) (by rw [hz]; rfl) h46 h46' ?_
  · intro a'
    rw [← hL a']
    simp only [ib, List.map_append]
  · intro a' H' hS'
    have := h a' H' hS'
    rwa [List.length_append] at this

theorem firstA_ib (hS : St H0 H L) (hi : L[i]? = some (a, ib k l ex)) {c n : Nat} (hn : n = l.length) : firstA H 1 n (.slice (a.map fun b => ⟨b, 0, none⟩) n c) = some (l.map (Value.int k)) := by
  subst hn; exact firstA_own hS hi rfl (by decide) (by simp [ib]) (ints_no k l)

end
end Go.Mach
