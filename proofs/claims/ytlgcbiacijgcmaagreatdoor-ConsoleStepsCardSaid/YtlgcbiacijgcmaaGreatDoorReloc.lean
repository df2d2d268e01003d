/- A CALL CARRIED OUT IN ONE HEAP IS A CALL IN ANOTHER ONE: where the same blocks lie elsewhere. No condition. -/
import Derived.Test.YtlgcbiacijgcmaaGreatDoorSound
namespace Go.Mach

/-! ### Values, blocks, moved -/

def mvC (σ : Nat → Nat) : Value → Value
  | .pointer (some ⟨b, o, none⟩) => .pointer (some ⟨σ b, o, none⟩)
  | .slice (some ⟨b, o, none⟩) n c => .slice (some ⟨σ b, o, none⟩) n c
  | v => v
def mvA (σ : Nat → Nat) : Value → Value
  | .agg xs => .agg (xs.toList.map (mvC σ)).toArray
  | v => mvC σ v
def mvV (σ : Nat → Nat) : Value → Value
  | .tuple xs => .tuple (xs.toList.map (mvA σ)).toArray
  | v => mvA σ v
def mvB (σ : Nat → Nat) (B : Blk) : Blk := ⟨B.cells.map (mvC σ), B.es, B.exact, B.alive⟩

/-- Values whose addresses are these blocks'. -/
def clC (d : Nat → Bool) : Value → Bool
  | .bool _ | .int .. | .float .. | .complex .. | .string _ | .nilFunc | .nilIface => true
  | .pointer none => true
  | .pointer (some ⟨b, _, none⟩) => d b
  | .slice none _ _ => true
  | .slice (some ⟨b, _, none⟩) _ _ => d b
  | _ => false
def clA (d : Nat → Bool) : Value → Bool
  | .agg xs => xs.toList.all (clC d)
  | v => clC d v
def clV (d : Nat → Bool) : Value → Bool
  | .tuple xs => xs.toList.all (clA d)
  | v => clA d v

section
variable {σ : Nat → Nat} {d : Nat → Bool} {ρ ρ' : Ren}

theorem mvC_down (hr : ∀ b, d b = true → ρ' b = ρ (σ b)) {v u : Value} (hc : clC d v = true) (h : VRel ρ (mvC σ v) u) : VRel ρ' v u := by
  unfold clC at hc
  split at hc
  all_goals first
    | (cases hc; done)
    | (unfold mvC at h; cases h; constructor; done)
    | skip
  · rename_i b o
    have h : VRel ρ (.pointer (some ⟨σ b, o, none⟩)) u := h
    cases h with
    | ptr k => exact .ptr (by rw [hr b hc]; exact k)
  · rename_i b o n c
    have h : VRel ρ (.slice (some ⟨σ b, o, none⟩) n c) u := h
    cases h with
    | slice k hf => exact .slice (by rw [hr b hc]; exact k) hf
    | empty a k => exact .empty a (by rw [hr b hc]; exact k)
theorem mvC_up (hr : ∀ b, d b = true → ∀ L, ρ b = some L → ρ' (σ b) = some L) {v u : Value} (hc : clC d v = true) (h : VRel ρ v u) : VRel ρ' (mvC σ v) u := by
  unfold clC at hc
  split at hc
  all_goals first
    | (cases hc; done)
    | (cases h; unfold mvC; constructor; done)
    | skip
  · rename_i b o
    show VRel ρ' (.pointer (some ⟨σ b, o, none⟩)) u
    cases h with
    | ptr h => exact .ptr (hr b hc _ h)
  · rename_i b o n c
    show VRel ρ' (.slice (some ⟨σ b, o, none⟩) n c) u
    cases h with
    | slice h hf => exact .slice (hr b hc _ h) hf
    | empty a h => exact .empty a (hr b hc _ h)
theorem LRel.map_down {f : Value → Value} {p : Value → Bool} (hf : ∀ v u, p v = true → VRel ρ (f v) u → VRel ρ' v u) : ∀ {xs ys : List Value}, xs.all p = true → LRel ρ (xs.map f) ys → LRel ρ' xs ys
  | [], _, _, h => by rw [h.inv_nil]; exact LRel.nil _
  | x :: xs, ys, hp, h => by
    simp only [List.all_cons, Bool.and_eq_true] at hp
    obtain ⟨y, ys', rfl, h1, h2⟩ := LRel.inv (show LRel ρ (f x :: xs.map f) ys from h)
    exact LRel.cons (hf _ _ hp.1 h1) (LRel.map_down hf hp.2 h2)
theorem LRel.map_up {f : Value → Value} {p : Value → Bool} (hf : ∀ v u, p v = true → VRel ρ v u → VRel ρ' (f v) u) : ∀ {xs ys : List Value}, xs.all p = true → LRel ρ xs ys → LRel ρ' (xs.map f) ys
  | [], _, _, h => by rw [h.inv_nil]; exact LRel.nil _
  | x :: xs, ys, hp, h => by
    simp only [List.all_cons, Bool.and_eq_true] at hp
    obtain ⟨y, ys', rfl, h1, h2⟩ := h.inv
    exact LRel.cons (hf _ _ hp.1 h1) (LRel.map_up hf hp.2 h2)
theorem mvA_down (hr : ∀ b, d b = true → ρ' b = ρ (σ b)) {v u : Value} (hc : clA d v = true) (h : VRel ρ (mvA σ v) u) : VRel ρ' v u := by
  unfold clA at hc
  split at hc
  · rename_i xs
    obtain ⟨ys, rfl, h1⟩ := VRel.agg_inv (show VRel ρ (.agg (xs.toList.map (mvC σ)).toArray) u from h)
    have h2 := LRel.map_down (fun v u hp h => mvC_down hr hp h) hc (by simpa using h1)
    exact VRel.agg_of (xs := xs.toList) (ys := ys.toList) h2
  · rename_i hx
    refine mvC_down hr hc ?_
    cases v <;> first | exact h | exact absurd rfl (hx _)
theorem mvA_up (hr : ∀ b, d b = true → ∀ L, ρ b = some L → ρ' (σ b) = some L) {v u : Value} (hc : clA d v = true) (h : VRel ρ v u) : VRel ρ' (mvA σ v) u := by
  unfold clA at hc
  split at hc
  · rename_i xs
    obtain ⟨ys, rfl, h1⟩ := h.agg_inv
    exact VRel.agg_of (ys := ys.toList) (LRel.map_up (fun v u hp h => mvC_up hr hp h) hc h1)
  · rename_i hx
    have h2 := mvC_up hr hc h
    cases v <;> first | exact h2 | exact absurd rfl (hx _)
theorem VRel.tuple_of {xs ys : List Value} (h : LRel ρ xs ys) : VRel ρ (.tuple xs.toArray) (.tuple ys.toArray) :=
  .tuple _ _ (by simp [h.1]) fun i v v' a b => h.2 i v v' (by simpa using a) (by simpa using b)
theorem mvV_up (hr : ∀ b, d b = true → ∀ L, ρ b = some L → ρ' (σ b) = some L) {v u : Value} (hc : clV d v = true) (h : VRel ρ v u) : VRel ρ' (mvV σ v) u := by
  unfold clV at hc
  split at hc
  · rename_i xs
    obtain ⟨ys, rfl, h1⟩ := h.tuple_inv
    exact VRel.tuple_of (ys := ys.toList) (LRel.map_up (fun v u hp h => mvA_up hr hp h) hc h1)
  · rename_i hx
    have h2 := mvA_up hr hc h
    cases v <;> first | exact h2 | exact absurd rfl (hx _)
end

/-! ### What has been carried out -/

abbrev Dom := List (Nat × Blk)
def Dom.has (D : Dom) (b : Nat) : Bool := D.any fun p => Nat.beq p.1 b
def Dom.get (D : Dom) (b : Nat) : Option Blk := match D with
  | [] => none
  | p :: r => match Nat.beq p.1 b with
    | true => some p.2
    | false => Dom.get r b
theorem Dom.get_mem : ∀ {D : Dom} {b : Nat} {B : Blk}, D.get b = some B → (b, B) ∈ D
  | p :: r, b, B, h => by
    unfold Dom.get at h
    split at h
    · rename_i e
      cases h
      rw [← Nat.eq_of_beq_eq_true e]
      exact List.mem_cons_self
    · exact List.mem_cons_of_mem _ (Dom.get_mem h)
theorem Dom.has_get : ∀ {D : Dom} {b : Nat}, D.has b = true → ∃ B, D.get b = some B
  | p :: r, b, h => by
    unfold Dom.get
    split
    · exact ⟨_, rfl⟩
    · rename_i e
      refine Dom.has_get (D := r) (b := b) ?_
      unfold Dom.has at h ⊢
      simpa [List.any_cons, e] using h
theorem Dom.get_has {D : Dom} {b : Nat} {B : Blk} (h : D.get b = some B) : D.has b = true := by
  unfold Dom.has
  rw [List.any_eq_true]
  exact ⟨_, Dom.get_mem h, Nat.beq_refl b⟩

/-- A run: from these blocks, in a heap of so many, to those. -/
structure Entry where
  f : FuncId
  args : List Value
  n : Nat
  D : Dom
  v : Value
  n1 : Nat
  D1 : Dom

def Has (D : Dom) (H : AHeap) : Prop := ∀ b B, D.get b = some B → H[b]? = some B

/-- It is told well. -/
def Entry.wf (e : Entry) : Bool :=
  Nat.ble 5 e.n && e.args.all (clA e.D.has) && clV e.D1.has e.v && Nat.ble e.n e.n1 &&
  e.D.all (fun p => Nat.ble 5 p.1 && Nat.blt p.1 e.n && p.2.alive && p.2.cells.all (clC e.D.has)) &&
  e.D1.all (fun p => Nat.ble 5 p.1 && Nat.blt p.1 e.n1 && p.2.alive && p.2.cells.all (clC e.D1.has) &&
    (Nat.ble e.n p.1 || (match e.D.get p.1 with
      | some B => Nat.beq B.cells.length p.2.cells.length && (B.exact == p.2.exact) && Nat.beq B.es p.2.es
      | none => false)))

structure Entry.Wf (e : Entry) : Prop where
  n5 : 5 ≤ e.n
  args : e.args.all (clA e.D.has) = true
  v : clV e.D1.has e.v = true
  n : e.n ≤ e.n1
  D : ∀ b B, e.D.get b = some B → 5 ≤ b ∧ b < e.n ∧ B.alive = true ∧ B.cells.all (clC e.D.has) = true
  D1 : ∀ b B, e.D1.get b = some B → 5 ≤ b ∧ b < e.n1 ∧ B.alive = true ∧ B.cells.all (clC e.D1.has) = true ∧ (b < e.n → ∃ B0, e.D.get b = some B0 ∧ B0.cells.length = B.cells.length ∧ B0.exact = B.exact ∧ B0.es = B.es)
theorem Entry.wf_ok {e : Entry} (h : e.wf = true) : e.Wf := by
  unfold Entry.wf at h
  simp only [Bool.and_eq_true, List.all_eq_true] at h
  obtain ⟨⟨⟨⟨⟨h0, h1⟩, h2⟩, h3⟩, h4⟩, h5⟩ := h
  refine ⟨Nat.le_of_ble_eq_true h0, List.all_eq_true.2 h1, h2, Nat.le_of_ble_eq_true h3, fun b B hb => ?_, fun b B hb => ?_⟩
  · obtain ⟨⟨⟨k1, k2⟩, k3⟩, k4⟩ := h4 _ (Dom.get_mem hb)
    exact ⟨Nat.le_of_ble_eq_true k1, by simpa [Nat.blt_eq] using k2, k3, List.all_eq_true.2 k4⟩
  · obtain ⟨⟨⟨⟨k1, k2⟩, k3⟩, k4⟩, k5⟩ := h5 _ (Dom.get_mem hb)
    refine ⟨Nat.le_of_ble_eq_true k1, by simpa [Nat.blt_eq] using k2, k3, List.all_eq_true.2 k4, fun hlt => ?_⟩
    simp only [Bool.or_eq_true] at k5
    rcases k5 with k5 | k5
    · have := Nat.le_of_ble_eq_true k5; omega
    · split at k5
      · rename_i B0 hB0
        simp only [Bool.and_eq_true, beq_iff_eq] at k5
        exact ⟨B0, hB0, Nat.eq_of_beq_eq_true k5.1.1, k5.1.2, Nat.eq_of_beq_eq_true k5.2⟩
      · cases k5

/-- It has been carried out. -/
def Entry.Run (call : Caller) (e : Entry) : Prop := ∀ H0 : AHeap, H0.length = e.n → Has e.D H0 → ∃ H1, call 5 e.f ⟨e.args⟩ H0 = some (e.v, H1) ∧ H1.length = e.n1 ∧ Has e.D1 H1

/-- Where the blocks lie behind the call. -/
def sgm (e : Entry) (σ : Nat → Nat) (l : Nat) (b : Nat) : Nat := if b < e.n then σ b else l + (b - e.n)
/-- Which of the entry's blocks lies there. -/
def whoD (σ : Nat → Nat) (id : Nat) : Dom → Option Nat
  | [] => none
  | p :: r => if σ p.1 = id then some p.1 else whoD σ id r
def deadB (B : Blk) : Blk := ⟨B.cells, B.es, B.exact, false⟩
def outOld (e : Entry) (σ : Nat → Nat) (l : Nat) (id : Nat) (B : Blk) : Blk :=
  match whoD σ id e.D with
  | some b => match e.D1.get b with
    | some B1 => mvB (sgm e σ l) B1
    | none => deadB B
  | none => B
def outNew (e : Entry) (σ : Nat → Nat) (l : Nat) (j : Nat) : Blk :=
  match e.D1.get (e.n + j) with
  | some B1 => mvB (sgm e σ l) B1
  | none => ⟨[], 0, false, false⟩
def outH (e : Entry) (σ : Nat → Nat) (H : AHeap) : AHeap := H.mapIdx (outOld e σ H.length) ++ (List.range (e.n1 - e.n)).map (outNew e σ H.length)

/-- The entry's blocks lie there. -/
structure Fits (e : Entry) (σ : Nat → Nat) (fl : Nat) (H : AHeap) : Prop where
  at_ : ∀ b B, e.D.get b = some B → fl ≤ σ b ∧ H[σ b]? = some (mvB σ B)
  inj : ∀ b c, e.D.has b = true → e.D.has c = true → σ b = σ c → b = c

theorem whoD_some {σ : Nat → Nat} {id : Nat} : ∀ {D : Dom} {b : Nat}, whoD σ id D = some b → σ b = id ∧ D.has b = true
  | p :: r, b, h => by
    unfold whoD at h
    split at h
    · rename_i e
      cases h
      exact ⟨e, by simp [Dom.has]⟩
    · obtain ⟨h1, h2⟩ := whoD_some h
      refine ⟨h1, ?_⟩
      unfold Dom.has at h2 ⊢
      simp only [List.any_cons, h2, Bool.or_true]
theorem whoD_none {σ : Nat → Nat} {id : Nat} : ∀ {D : Dom}, whoD σ id D = none → ∀ b, D.has b = true → σ b ≠ id
  | [], _, b, hb => by simp [Dom.has] at hb
  | p :: r, h, b, hb => by
    unfold whoD at h
    split at h
    · cases h
    · rename_i hne
      unfold Dom.has at hb
      simp only [List.any_cons, Bool.or_eq_true] at hb
      rcases hb with hb | hb
      · rw [← Nat.eq_of_beq_eq_true hb]; exact hne
      · exact whoD_none h b hb

theorem clC_hole {d : Nat → Bool} {σ : Nat → Nat} {v : Value} (h : clC d v = true) : holeB v = false ∧ holeB (mvC σ v) = false := by
  unfold clC at h
  split at h <;> first | (cases h; done) | exact ⟨rfl, rfl⟩
theorem all_get {p : Value → Bool} {l : List Value} (h : l.all p = true) {i : Nat} {v : Value} (hv : l[i]? = some v) : p v = true := List.all_eq_true.1 h v (List.mem_of_getElem? hv)
theorem blk?_at {H : AHeap} {b : Nat} {B : Blk} (h : H[b]? = some B) (ha : B.alive = true) : blk? H b = some B := by
  unfold blk?
  rw [h]
  simp only [ha, if_true]
theorem blk?_dead {H : AHeap} {b : Nat} {B : Blk} (h : H[b]? = some B) (ha : B.alive = false) : blk? H b = none := by
  unfold blk?
  rw [h]
  simp only [ha, Bool.false_eq_true, if_false]

section
variable {e : Entry} {σ : Nat → Nat} {H : AHeap} {fl : Nat}

theorem out_len : (outH e σ H).length = H.length + (e.n1 - e.n) := by
  unfold outH
  simp
theorem out_old {id : Nat} {B : Blk} (h : H[id]? = some B) : (outH e σ H)[id]? = some (outOld e σ H.length id B) := by
  unfold outH
  rw [List.getElem?_append_left (by simpa using (List.getElem?_eq_some_iff.1 h).1), List.getElem?_mapIdx, h]
  rfl
theorem out_new {j : Nat} (h : j < e.n1 - e.n) : (outH e σ H)[H.length + j]? = some (outNew e σ H.length j) := by
  unfold outH
  rw [List.getElem?_append_right (by simp)]
  simp [h]

theorem reloc {P : Program} {call : Caller} {base : Nat} {w0 w : World} (hs : CallerSound 5 w0 P call) (hw : e.Wf) (hrun : e.Run call) {ρ : Ren} {cargs : Array Value}
    (S : Sim base w0 All ρ H w) (hb5 : 5 ≤ base) (hbf : base ≤ fl) (hfl : fl ≤ H.length) (hfr : ∀ id, H.length ≤ id → id < (outH e σ H).length → ρ id = none) (hF : Fits e σ fl H)
    (ha : LRel ρ (e.args.map (mvA σ)) cargs.toList) :
    Calls P e.f cargs w fun x w' => ∃ v' ρ', x = .returned v' ∧ VRel ρ' (mvV (sgm e σ H.length) e.v) v' ∧ Step base w0 All All fl ρ H w ρ' (outH e σ H) w' := by
  -- the heap in which it has been carried out
  let d0 : Blk := ⟨[], 0, false, false⟩
  let H0 : AHeap := (List.range e.n).map fun b => (e.D.get b).getD d0
  have hl0 : H0.length = e.n := by simp [H0]
  have hat : ∀ b B, e.D.get b = some B → H0[b]? = some B := fun b B hb => by
    simp only [H0, List.getElem?_map, List.getElem?_range (hw.D b B hb).2.1, Option.map_some, hb, Option.getD_some]
  have hno : ∀ b B, blk? H0 b = some B → e.D.get b = some B := fun b B hb => by
    obtain ⟨h1, h2⟩ := blk?_some hb
    have hlt : b < e.n := by rw [← hl0]; exact (List.getElem?_eq_some_iff.1 h1).1
    simp only [H0, List.getElem?_map, List.getElem?_range hlt, Option.map_some, Option.some.injEq] at h1
    cases hg : e.D.get b with
    | none => rw [hg] at h1; subst h1; cases h2
    | some C => rw [hg] at h1; exact congrArg some h1
  obtain ⟨H1, hc, hl1, hD1⟩ := hrun H0 hl0 hat
  let ρ0 : Ren := fun b => if e.D.has b = true then ρ (σ b) else none
  have r0 : ∀ b, e.D.has b = true → ρ0 b = ρ (σ b) := fun b hb => if_pos hb
  have r0i : ∀ b L, ρ0 b = some L → ∃ B, e.D.get b = some B ∧ ρ (σ b) = some L := fun b L h => by
    by_cases hb : e.D.has b = true
    · obtain ⟨B, hB⟩ := Dom.has_get hb
      exact ⟨B, hB, by rw [← r0 b hb]; exact h⟩
    · have : ρ0 b = none := if_neg hb
      rw [this] at h; cases h
  have hσ : ∀ b B, e.D.get b = some B → blk? H (σ b) = some (mvB σ B) := fun b B hb => blk?_at (hF.at_ b B hb).2 (hw.D b B hb).2.2.1
  have hσl : ∀ b B, e.D.get b = some B → σ b < H.length := fun b B hb => (List.getElem?_eq_some_iff.1 (hF.at_ b B hb).2).1
  have hσb : ∀ b B, e.D.get b = some B → base ≤ σ b := fun b B hb => Nat.le_trans hbf (hF.at_ b B hb).1
  have S0 : Sim 5 w0 All ρ0 H0 w := by
    refine ⟨Nat.le_trans hb5 S.base_le, fun b hb => S.old b (by omega), fun id L h => ?_, fun id L hid h => ?_, fun id L B h hB => ?_, fun id L B _ h hB => ?_, fun id id' L L' _ _ h h' a a' _ _ he => ?_⟩
    · obtain ⟨B, hB, h1⟩ := r0i id L h
      have := S.dom _ L h1
      exact ⟨this.1, fun _ => Nat.le_trans hb5 (this.2 (hσb id B hB))⟩
    · obtain ⟨B, hB, h1⟩ := r0i id L h
      have := (hw.D id B hB).1
      omega
    · obtain ⟨B2, hB2, h1⟩ := r0i id L h
      have hB3 := hat id B2 hB2
      rw [hB3] at hB
      cases hB
      have hB' := hB2
      have := S.stat _ L _ h1 (hF.at_ id _ hB').2
      simpa [mvB] using this
    · obtain ⟨B', hB', h1⟩ := r0i id L h
      have e1 := hno id B hB
      rw [hB'] at e1
      have e2 : B' = B := Option.some.inj e1
      subst e2
      obtain ⟨cc, ty, fz, k1, k2, k3, k4⟩ := S.cont _ L _ trivial h1 (hσ id B' hB')
      refine ⟨cc, ty, fz, k1, k2, fun _ => k3 (hσb id B' hB'), fun i v hv hh => ?_⟩
      have hcl := all_get (hw.D id B' hB').2.2.2 hv
      obtain ⟨v', p, q⟩ := k4 i (mvC σ v) (by simp only [mvB, List.getElem?_map, hv, Option.map_some]) (clC_hole hcl).2
      exact ⟨v', p, mvC_down r0 hcl q⟩
    · obtain ⟨B, hB, h1⟩ := r0i id L h
      obtain ⟨B', hB', h1'⟩ := r0i id' L' h'
      have := S.inj _ _ L L' trivial trivial h1 h1' (by rw [hσ id B hB]; rfl) (by rw [hσ id' B' hB']; rfl) (hσb id B hB) (hσb id' B' hB') he
      exact hF.inj _ _ (Dom.get_has hB) (Dom.get_has hB') this
  have ha0 : LRel ρ0 e.args cargs.toList := LRel.map_down (fun v u hp h => mvA_down r0 hp h) hw.args ha
  have hcalls := hs 5 e.f ⟨e.args⟩ cargs ρ0 H0 H1 w e.v S0 (Nat.le_refl _) (by rw [hl0]; exact hw.n5) (fun id h1 _ => by
    cases hr : ρ0 id with
    | none => rfl
    | some L =>
      obtain ⟨B, hB, _⟩ := r0i id L hr
      have := (hw.D id B hB).2.1
      omega) ha0 hc
  refine hcalls.mono ?_
  rintro x w' ⟨v', ρ1, rfl, hv, st⟩
  have st1 := st.simAll
  let ρ2 : Ren := fun id => if id < H.length then ρ id else if id < H.length + (e.n1 - e.n) then (if e.D1.has (e.n + (id - H.length)) = true then ρ1 (e.n + (id - H.length)) else none) else ρ id
  have hO : (outH e σ H).length = H.length + (e.n1 - e.n) := out_len
  have q1 : ∀ id, id < H.length → ρ2 id = ρ id := fun id h => if_pos h
  have q2 : ∀ id L, H.length ≤ id → id < H.length + (e.n1 - e.n) → ρ2 id = some L → ∃ B, e.D1.get (e.n + (id - H.length)) = some B ∧ ρ1 (e.n + (id - H.length)) = some L := fun id L h h' hr => by
    have e1 : ρ2 id = if e.D1.has (e.n + (id - H.length)) = true then ρ1 (e.n + (id - H.length)) else none := (if_neg (by omega)).trans (if_pos h')
    rw [e1] at hr
    split at hr
    · rename_i hb
      obtain ⟨B, hB⟩ := Dom.has_get hb
      exact ⟨B, hB, hr⟩
    · cases hr
  have q3 : ∀ id, H.length + (e.n1 - e.n) ≤ id → ρ2 id = ρ id := fun id h => (if_neg (by omega)).trans (if_neg (by omega))
  have ext : Ext ρ ρ2 := fun id L h => by
    by_cases h1 : id < H.length
    · rw [q1 id h1]; exact h
    · by_cases h2 : id < H.length + (e.n1 - e.n)
      · rw [hfr id (by omega) (by rw [hO]; exact h2)] at h; cases h
      · rw [q3 id (by omega)]; exact h
  -- of the entry's old blocks
  have old1 : ∀ b B L, e.D.get b = some B → ρ1 b = some L → ρ (σ b) = some L := fun b B L hB h => by
    cases hr : ρ0 b with
    | none =>
      have := (st.new b L hr h).1
      have := (hw.D b B hB).2.1
      omega
    | some L0 =>
      have := st.ext b L0 hr
      rw [this] at h
      cases h
      rw [← r0 b (Dom.get_has hB)]; exact hr
  have up : ∀ b, e.D1.has b = true → ∀ L, ρ1 b = some L → ρ2 (sgm e σ H.length b) = some L := fun b hb L h => by
    obtain ⟨B, hB⟩ := Dom.has_get hb
    have hB1 := hw.D1 b B hB
    by_cases hn : b < e.n
    · obtain ⟨B0, hB0, _⟩ := hB1.2.2.2.2 hn
      have e1 : sgm e σ H.length b = σ b := if_pos hn
      rw [e1, q1 _ (hσl b B0 hB0)]
      exact old1 b B0 L hB0 h
    · have e1 : sgm e σ H.length b = H.length + (b - e.n) := if_neg hn
      have e2 : ρ2 (H.length + (b - e.n)) = if e.D1.has (e.n + (H.length + (b - e.n) - H.length)) = true then ρ1 (e.n + (H.length + (b - e.n) - H.length)) else none :=
        (if_neg (by omega)).trans (if_pos (by have := hB1.2.1; omega))
      rw [e1, e2, show e.n + (H.length + (b - e.n) - H.length) = b by omega, if_pos hb]
      exact h
  have frame : ∀ b, b < w.heap.size → (∀ c B L, e.D.get c = some B → ρ (σ c) = some L → L.blk ≠ b) → w'.heap[b]? = w.heap[b]? := fun b hb hne => st.frame b hb fun id L _ _ _ h _ => by
    obtain ⟨B, hB, h1⟩ := r0i id L h
    exact hne id B L hB h1
  -- what lies there now
  have cls : ∀ id L B, ρ2 id = some L → blk? (outH e σ H) id = some B →
      (∃ b B1, e.D1.get b = some B1 ∧ sgm e σ H.length b = id ∧ B = mvB (sgm e σ H.length) B1 ∧ ρ1 b = some L) ∨
      (id < H.length ∧ blk? H id = some B ∧ ρ id = some L ∧ ∀ c, e.D.has c = true → σ c ≠ id) := fun id L B hr hB => by
    obtain ⟨g1, g2⟩ := blk?_some hB
    have hlt : id < (outH e σ H).length := (List.getElem?_eq_some_iff.1 g1).1
    by_cases h1 : id < H.length
    · have hid : H[id]? = some H[id] := List.getElem?_eq_getElem h1
      rw [out_old hid] at g1
      simp only [Option.some.injEq] at g1
      unfold outOld at g1
      rw [q1 id h1] at hr
      split at g1
      · rename_i b hb
        obtain ⟨h2, h3⟩ := whoD_some hb
        obtain ⟨B0, hB0⟩ := Dom.has_get h3
        split at g1
        · rename_i B1 hB1
          refine .inl ⟨b, B1, hB1, (if_pos (hw.D b B0 hB0).2.1).trans h2, g1.symm, st.ext b L ?_⟩
          rw [r0 b h3, h2]; exact hr
        · subst g1; cases g2
      · rename_i hn
        subst g1
        exact .inr ⟨h1, blk?_at hid g2, hr, whoD_none hn⟩
    · have h2 : id < H.length + (e.n1 - e.n) := by rw [← hO]; exact hlt
      obtain ⟨B1, hB1, h3⟩ := q2 id L (by omega) h2 hr
      have g3 := out_new (e := e) (σ := σ) (H := H) (j := id - H.length) (by omega)
      rw [show H.length + (id - H.length) = id by omega, g1] at g3
      simp only [Option.some.injEq] at g3
      unfold outNew at g3
      rw [hB1] at g3
      refine .inl ⟨_, B1, hB1, ?_, g3, h3⟩
      unfold sgm
      rw [if_neg (by omega)]
      omega
  have hD1' : ∀ b B1, e.D1.get b = some B1 → blk? H1 b = some B1 := fun b B1 h => blk?_at (hD1 b B1 h) (hw.D1 b B1 h).2.2.1
  -- another block than the entry's
  have other : ∀ id L, id < H.length → (blk? H id).isSome = true → ρ id = some L → (∀ c, e.D.has c = true → σ c ≠ id) → ∀ c B Lc, e.D.get c = some B → ρ (σ c) = some Lc → Lc.blk ≠ L.blk := fun id L hid hal hr hne c B Lc hB hc he => by
    by_cases hb : base ≤ id
    · exact hne c (Dom.get_has hB) (S.inj _ _ Lc L trivial trivial hc hr (by rw [hσ c B hB]; rfl) hal (hσb c B hB) hb he)
    · exact S.apart id L (by omega) hr Lc.blk ((S.dom _ Lc hc).2 (hσb c B hB)) he.symm
  have newb : ∀ b B1 L, e.D1.get b = some B1 → e.n ≤ b → ρ1 b = some L → w.heap.size ≤ L.blk ∨ ∃ c B L0, e.D.get c = some B ∧ ρ (σ c) = some L0 ∧ L0.blk = L.blk ∧ blk? H1 c = none := fun b B1 L hB1 hn h => by
    have hr : ρ0 b = none := by
      cases hr : ρ0 b with
      | none => rfl
      | some L0 =>
        obtain ⟨B, hB, _⟩ := r0i b L0 hr
        have := (hw.D b B hB).2.1
        omega
    rcases (st.new b L hr h).2.2 with h1 | ⟨c, L0, _, _, _, h2, h3, h4, h5⟩
    · exact .inl h1
    · obtain ⟨B, hB, h6⟩ := r0i c L0 h2
      exact .inr ⟨c, B, L0, hB, h6, h3, h5⟩
  have simO : Sim base w0 (fun id => All id ∨ H.length ≤ id) ρ2 (outH e σ H) w' := by
    refine ⟨Nat.le_trans S.base_le st.grow, fun b hb => ?_, fun id L h => ?_, fun id L hid h => ?_, fun id L B h hB => ?_, fun id L B _ h hB => ?_, fun id id' L L' _ _ h h' a a' b1 b2 he => ?_⟩
    · rw [frame b (by have := S.base_le; omega) (fun c B L hB h => by have := (S.dom _ L h).2 (hσb c B hB); omega)]
      exact S.old b hb
    · by_cases h1 : id < H.length
      · rw [q1 id h1] at h
        have := S.dom id L h
        exact ⟨Nat.lt_of_lt_of_le this.1 st.grow, this.2⟩
      · by_cases h2 : id < H.length + (e.n1 - e.n)
        · obtain ⟨B1, hB1, h3⟩ := q2 id L (by omega) h2 h
          refine ⟨(st1.dom _ L h3).1, fun _ => ?_⟩
          rcases newb _ B1 L hB1 (by omega) h3 with h4 | ⟨c, B, L0, hB, h4, h5, _⟩
          · exact Nat.le_trans S.base_le h4
          · rw [← h5]; exact (S.dom _ L0 h4).2 (hσb c B hB)
        · rw [q3 id (by omega)] at h
          have := S.dom id L h
          exact ⟨Nat.lt_of_lt_of_le this.1 st.grow, this.2⟩
    · rw [q1 id (by omega)] at h
      exact S.apart id L hid h
    · have hlt : id < (outH e σ H).length := (List.getElem?_eq_some_iff.1 hB).1
      by_cases h1 : id < H.length
      · rw [q1 id h1] at h
        have hid : H[id]? = some H[id] := List.getElem?_eq_getElem h1
        rw [out_old hid] at hB
        simp only [Option.some.injEq] at hB
        have hst := S.stat id L _ h hid
        unfold outOld at hB
        split at hB
        · rename_i b hb
          obtain ⟨h2, h3⟩ := whoD_some hb
          obtain ⟨B0, hB0⟩ := Dom.has_get h3
          split at hB
          · rename_i B1 hB1
            obtain ⟨B0', hB0', k1, k2, k3⟩ := (hw.D1 b B1 hB1).2.2.2.2 (hw.D b B0 hB0).2.1
            have hs2 := S.stat (σ b) L _ (by rw [h2]; exact h) (hF.at_ b B0' hB0').2
            subst hB
            simp only [mvB, List.length_map] at hs2 ⊢
            rw [← k1, ← k2, ← k3]
            exact hs2
          · subst hB
            exact hst
        · subst hB
          exact hst
      · have h2 : id < H.length + (e.n1 - e.n) := by rw [← hO]; exact hlt
        obtain ⟨B1, hB1, h3⟩ := q2 id L (by omega) h2 h
        have g3 := out_new (e := e) (σ := σ) (H := H) (j := id - H.length) (by omega)
        rw [show H.length + (id - H.length) = id by omega, hB] at g3
        simp only [Option.some.injEq] at g3
        unfold outNew at g3
        rw [hB1] at g3
        have := st1.stat _ L B1 h3 (hD1 _ _ hB1)
        rw [g3]
        simpa [mvB] using this
    · rcases cls id L B h hB with ⟨b, B1, hB1, hid, rfl, h1⟩ | ⟨hid, hB', hr, hne⟩
      · have hw1 := hw.D1 b B1 hB1
        obtain ⟨cc, ty, fz, k1, k2, k3, k4⟩ := st1.cont b L B1 trivial h1 (hD1' b B1 hB1)
        refine ⟨cc, ty, fz, k1, k2, fun _ => k3 hw1.1, fun i v hv hh => ?_⟩
        simp only [mvB, List.getElem?_map] at hv
        cases hv0 : B1.cells[i]? with
        | none => rw [hv0] at hv; cases hv
        | some v0 =>
          rw [hv0] at hv
          simp only [Option.map_some, Option.some.injEq] at hv
          subst hv
          have hcl := all_get hw1.2.2.2.1 hv0
          obtain ⟨v', p, q⟩ := k4 i v0 hv0 (clC_hole (σ := σ) hcl).1
          exact ⟨v', p, mvC_up up hcl q⟩
      · obtain ⟨cc, ty, fz, k1, k2, k3, k4⟩ := S.cont id L B trivial hr hB'
        refine ⟨cc, ty, fz, ?_, k2, k3, fun i v hv hh => ?_⟩
        · rw [frame L.blk (S.dom id L hr).1 (other id L hid (by rw [hB']; rfl) hr hne)]
          exact k1
        · obtain ⟨v', p, q⟩ := k4 i v hv hh
          exact ⟨v', p, q.mono ext⟩
    · obtain ⟨BB, hB⟩ := Option.isSome_iff_exists.1 a
      obtain ⟨BC, hB'⟩ := Option.isSome_iff_exists.1 a'
      have mo : ∀ b B1 L id' L', e.D1.get b = some B1 → ρ1 b = some L → id' < H.length → (blk? H id').isSome = true → ρ id' = some L' → (∀ c, e.D.has c = true → σ c ≠ id') → L.blk ≠ L'.blk := fun b B1 L id' L' hB1 h1 hid hal hr hne he => by
        have hw1 := hw.D1 b B1 hB1
        by_cases hn : b < e.n
        · obtain ⟨B0, hB0, _⟩ := hw1.2.2.2.2 hn
          exact other id' L' hid hal hr hne b B0 L hB0 (old1 b B0 L hB0 h1) he
        · rcases newb b B1 L hB1 (by omega) h1 with h4 | ⟨c, B, L0, hB, h4, h5, _⟩
          · have := (S.dom id' L' hr).1
            omega
          · exact other id' L' hid hal hr hne c B L0 hB h4 (h5.trans he)
      rcases cls id L BB h hB with ⟨b, B1, hB1, hid, _, h1⟩ | ⟨hid, hB2, hr, hne⟩
      · rcases cls id' L' BC h' hB' with ⟨b', B1', hB1', hid', _, h1'⟩ | ⟨hid', hB2', hr', hne'⟩
        · have := st1.inj b b' L L' trivial trivial h1 h1' (by rw [hD1' b B1 hB1]; rfl) (by rw [hD1' b' B1' hB1']; rfl) (hw.D1 b B1 hB1).1 (hw.D1 b' B1' hB1').1 he
          rw [← hid, ← hid', this]
        · exact absurd he (mo b B1 L id' L' hB1 h1 hid' (by rw [hB2']; rfl) hr' hne')
      · rcases cls id' L' BC h' hB' with ⟨b', B1', hB1', hid', _, h1'⟩ | ⟨hid', hB2', hr', hne'⟩
        · exact absurd he.symm (mo b' B1' L' id L hB1' h1' hid (by rw [hB2]; rfl) hr hne)
        · exact S.inj id id' L L' trivial trivial hr hr' (by rw [hB2]; rfl) (by rw [hB2']; rfl) b1 b2 he
  refine ⟨v', ρ2, rfl, mvV_up up hw.v hv, simO, ext, fun id L h h' => ?_, fun b hb hno => ?_, st.grow, st.side, by rw [hO]; omega, fun id h hk => ?_, fun id h hl => ?_⟩
  · by_cases h1 : id < H.length
    · rw [q1 id h1, h] at h'; cases h'
    · by_cases h2 : id < H.length + (e.n1 - e.n)
      · obtain ⟨B1, hB1, h3⟩ := q2 id L (by omega) h2 h'
        refine ⟨by omega, by rw [hO]; exact h2, ?_⟩
        rcases newb _ B1 L hB1 (by omega) h3 with h4 | ⟨c, B, L0, hB, h4, h5, h6⟩
        · exact .inl h4
        · refine .inr ⟨σ c, L0, (hF.at_ c B hB).1, trivial, trivial, h4, h5, by rw [hσ c B hB]; rfl, ?_⟩
          have hid := (hF.at_ c B hB).2
          have g1 := out_old (e := e) (σ := σ) hid
          refine blk?_dead g1 ?_
          unfold outOld
          split
          · rename_i b hb
            obtain ⟨h7, h8⟩ := whoD_some hb
            have hbc := hF.inj b c h8 (Dom.get_has hB) h7
            subst hbc
            split
            · rename_i B2 hB2
              rw [hD1' _ _ hB2] at h6; cases h6
            · rfl
          · rename_i hn
            exact absurd rfl (whoD_none hn c (Dom.get_has hB))
      · rw [q3 id (by omega), h] at h'; cases h'
  · exact frame b hb fun c B L hB h => hno (σ c) L (hF.at_ c B hB).1 trivial trivial h (by rw [hσ c B hB]; rfl)
  · have hk : id < fl := by
      rcases hk with hk | hk
      · exact hk
      · exact absurd trivial hk
    have hid : H[id]? = some H[id] := List.getElem?_eq_getElem h
    rw [out_old hid, hid]
    unfold outOld
    split
    · rename_i b hb
      obtain ⟨h7, h8⟩ := whoD_some hb
      obtain ⟨B, hB⟩ := Dom.has_get h8
      have := (hF.at_ b B hB).1
      omega
    · rfl
  · have hid : H[id]? = some H[id] := List.getElem?_eq_getElem h
    obtain ⟨B, hB⟩ := Option.isSome_iff_exists.1 hl
    obtain ⟨g1, g2⟩ := blk?_some hB
    rw [out_old hid] at g1
    simp only [Option.some.injEq] at g1
    unfold outOld at g1
    split at g1
    · rename_i b hb
      obtain ⟨h7, h8⟩ := whoD_some hb
      obtain ⟨B0, hB0⟩ := Dom.has_get h8
      rw [← h7, hσ b B0 hB0]; rfl
    · subst g1
      rw [blk?_at hid g2]; rfl

/-- What it leaves as it was. -/
theorem out_kept (hw : e.Wf) (hF : Fits e σ fl H) : Kept (fun id => fl ≤ id) H (outH e σ H) where
  len := by rw [out_len]; omega
  keep := fun id h hk => by
    have hid : H[id]? = some H[id] := List.getElem?_eq_getElem h
    rw [out_old hid, hid]
    unfold outOld
    split
    · rename_i b hb
      obtain ⟨h7, h8⟩ := whoD_some hb
      obtain ⟨B, hB⟩ := Dom.has_get h8
      have := (hF.at_ b B hB).1
      exact absurd (by omega : fl ≤ id) hk
    · rfl
  stat := fun id B h => by
    refine ⟨_, out_old h, ?_⟩
    unfold outOld
    split
    · rename_i b hb
      obtain ⟨h7, h8⟩ := whoD_some hb
      obtain ⟨B0, hB0⟩ := Dom.has_get h8
      have h9 := (hF.at_ b B0 hB0).2
      rw [h7, h] at h9
      cases h9
      split
      · rename_i B1 hB1
        obtain ⟨B0', hB0', k1, k2, k3⟩ := (hw.D1 b B1 hB1).2.2.2.2 (hw.D b B0 hB0).2.1
        rw [hB0] at hB0'
        cases hB0'
        exact ⟨by simp [mvB, k1], k2.symm, k3.symm, fun _ => (hw.D b B0 hB0).2.2.1⟩
      · exact ⟨rfl, rfl, rfl, fun h => by cases h⟩
    · exact ⟨rfl, rfl, rfl, fun h => h⟩
end
end Go.Mach
