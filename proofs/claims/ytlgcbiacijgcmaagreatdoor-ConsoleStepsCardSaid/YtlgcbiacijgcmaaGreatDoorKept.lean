/- What the machine leaves as it was. Laws; no condition. -/
import Derived.Test.YtlgcbiacijgcmaaGreatDoorRun
namespace Go.Mach

structure Kept (W : Nat → Prop) (H H' : AHeap) : Prop where
  len : H.length ≤ H'.length
  keep : ∀ id : Nat, id < H.length → ¬ W id → H'[id]? = H[id]?
  stat : ∀ (id : Nat) B, H[id]? = some B → ∃ B', H'[id]? = some B' ∧ B'.cells.length = B.cells.length ∧ B'.exact = B.exact ∧ B'.es = B.es ∧ (B'.alive = true → B.alive = true)

theorem Kept.refl (W : Nat → Prop) (H : AHeap) : Kept W H H := ⟨Nat.le_refl _, fun _ _ _ => rfl, fun _ B h => ⟨B, h, rfl, rfl, rfl, fun h => h⟩⟩

theorem Kept.trans {W : Nat → Prop} {H H1 H2 : AHeap} (a : Kept W H H1) (b : Kept W H1 H2) : Kept W H H2 where
  len := Nat.le_trans a.len b.len
  keep := fun id h hw => by rw [b.keep id (Nat.lt_of_lt_of_le h a.len) hw, a.keep id h hw]
  stat := fun id B h => by
    obtain ⟨B1, h1, p1, p2, p3, p4⟩ := a.stat id B h
    obtain ⟨B2, h2, q1, q2, q3, q4⟩ := b.stat id B1 h1
    exact ⟨B2, h2, q1.trans p1, q2.trans p2, q3.trans p3, fun x => p4 (q4 x)⟩

theorem Kept.mono {W W' : Nat → Prop} {H H' : AHeap} (h : Kept W H H') (hw : ∀ id, id < H.length → W id → W' id) : Kept W' H H' :=
  ⟨h.len, fun id hi hn => h.keep id hi fun x => hn (hw id hi x), h.stat⟩

theorem Kept.push (W : Nat → Prop) (H K : AHeap) : Kept W H (H ++ K) :=
  ⟨by simp, fun id h _ => List.getElem?_append_left h, fun id B h => ⟨B, by rw [List.getElem?_append_left (List.getElem?_eq_some_iff.1 h).1]; exact h, rfl, rfl, rfl, fun h => h⟩⟩

theorem Kept.set {W : Nat → Prop} {H : AHeap} {i : Nat} {B B' : Blk} (hi : H[i]? = some B) (hW : W i) (h1 : B'.cells.length = B.cells.length) (h2 : B'.exact = B.exact) (h3 : B'.es = B.es) (h4 : B'.alive = true → B.alive = true) :
    Kept W H (H.set i B') where
  len := by simp
  keep := fun id _ hn => List.getElem?_set_ne fun e => hn (by rw [← e]; exact hW)
  stat := fun id C hC => by
    have hl := (List.getElem?_eq_some_iff.1 hi).1
    by_cases he : i = id
    · subst he
      rw [hi] at hC; cases hC
      exact ⟨B', List.getElem?_set_self hl, h1, h2, h3, h4⟩
    · exact ⟨C, by rw [List.getElem?_set_ne he]; exact hC, rfl, rfl, rfl, fun h => h⟩

theorem blk?_inv {H : AHeap} {id : Nat} {B : Blk} (h : blk? H id = some B) : H[id]? = some B ∧ B.alive = true := by
  unfold blk? at h
  cases hg : H[id]? with
  | none => simp [hg] at h
  | some C =>
    simp only [hg] at h
    split at h
    · cases h; exact ⟨rfl, ‹_›⟩
    · cases h

theorem setCells_len : ∀ (vs a : List Value) (i : Nat), (setCells a i vs).length = a.length
  | [], _, _ => rfl
  | _ :: vs, a, i => by rw [setCells, setCells_len vs]; simp

theorem storeAt_kept {fl : Nat} {H H' : AHeap} {p : Addr} {vs : List Value} (h : storeAt fl H p vs = some H') : Kept (fun id => id = p.block ∧ fl ≤ id) H H' := by
  cases vs with
  | nil => cases h; exact Kept.refl _ _
  | cons v vs =>
    simp only [storeAt] at h
    cases hB : blk? H p.block with
    | none => simp [hB] at h
    | some B =>
      simp only [hB] at h
      split at h
      · rename_i hc
        cases h
        obtain ⟨h1, h2⟩ := blk?_inv hB
        exact Kept.set h1 ⟨rfl, hc.1⟩ (setCells_len _ _ _) rfl rfl fun _ => h2
      · cases h

theorem kill_kept {fl es : Nat} {H H' : AHeap} {ba : Option Addr} (h : killA fl H es ba = some H') : Kept (fun id => ba.any (·.block == id) = true ∧ fl ≤ id) H H' := by
  unfold killA at h
  split at h
  · cases h; exact Kept.refl _ _
  · rename_i a
    split at h
    · rename_i B hB
      split at h
      · cases h; exact Kept.refl _ _
      · split at h
        · rename_i hc
          cases h
          exact Kept.set hB ⟨by simp, hc.2.2⟩ rfl rfl rfl fun h => by cases h
        · cases h
    · cases h

theorem appendNew_kept {P : Program} {fl e es eb n c m : Nat} {bs : Option Addr} {new : List Value} {args : Array Value} {H H' : AHeap} {v : Value} (hs : args[0]? = some (.slice bs n c)) (h : appendNew P fl e es eb bs n c m new H = some (v, H')) :
    Kept (fun id => id ∈ args[0]?.elim [] blkOf ∧ fl ≤ id) H H' := by
  unfold appendNew at h
  split at h
  · split at h
    · split at h
      · cases h
        rename_i a _ hst2
        refine (storeAt_kept hst2).mono fun id _ hi => ⟨?_, hi.2⟩
        simp only [hs, Option.elim, blkOf, List.mem_singleton]
        rw [hi.1]
        unfold Addr.add
        split <;> rfl
      · cases h
    · cases h; exact Kept.refl _ _
  · split at h
    · split at h
      · cases h
        rename_i hk
        refine ((kill_kept hk).mono fun id _ hi => ⟨?_, hi.2⟩).trans (Kept.push _ _ _)
        simp only [hs, Option.elim]
        cases bs with
        | none => simp at hi
        | some a => simp at hi; simp [blkOf, hi.1]
      · cases h
    · cases h

theorem append_kept {P : Program} {fl : Nat} {ats : Array TypeId} {args : Array Value} {H H' : AHeap} {v : Value} (h : appendA P fl ats args H = some (v, H')) :
    Kept (fun id => id ∈ args[0]?.elim [] blkOf ∧ fl ≤ id) H H' := by
  unfold appendA at h
  split at h
  case h_2 => cases h
  rename_i st xt bs n c x hst hxt hs hx
  have hcase : (∃ e es eb m, appendTo P fl e es eb bs n c m x H = some (v, H')) ∨ ∃ e es eb, appendM P fl e es eb bs n c xt x H = some (v, H') := by
    split at h
    · exact .inl ⟨_, _, _, _, h⟩
    · exact .inl ⟨_, _, _, _, h⟩
    · exact .inr ⟨_, _, _, h⟩
    · cases h
  rcases hcase with ⟨e, es, eb, m, h⟩ | ⟨e, es, eb, h⟩
  rotate_left
  · unfold appendM at h
    split at h
    · split at h
      · exact appendNew_kept hs h
      · cases h
    · cases h
  unfold appendTo at h
  split at h
  case h_2 => cases h
  split at h
  · split at h
    · split at h
      · cases h
        rename_i a _ hst2
        refine (storeAt_kept hst2).mono fun id _ hi => ⟨?_, hi.2⟩
        simp only [hs, Option.elim, blkOf, List.mem_singleton]
        rw [hi.1]
        unfold Addr.add
        split <;> rfl
      · cases h
    · cases h; exact Kept.refl _ _
  · split at h
    · split at h
      · cases h
        rename_i hk
        refine ((kill_kept hk).mono fun id _ hi => ⟨?_, hi.2⟩).trans (Kept.push _ _ _)
        simp only [hs, Option.elim]
        cases bs with
        | none => simp at hi
        | some a => simp at hi; simp [blkOf, hi.1]
      · cases h
    · cases h

theorem copy_kept {P : Program} {fl : Nat} {ats : Array TypeId} {args : Array Value} {H H' : AHeap} {v : Value} (h : copyA P fl ats args H = some (v, H')) :
    Kept (fun id => id ∈ args[0]?.elim [] blkOf ∧ fl ≤ id) H H' := by
  unfold copyA at h
  split at h
  case h_2 => cases h
  rename_i dt ba n c x hdt hs hx
  split at h
  case h_2 => cases h
  split at h
  case h_2 => cases h
  split at h
  · split at h
    · cases h
      rename_i a _ hst2
      refine (storeAt_kept hst2).mono fun id _ hi => ⟨?_, hi.2⟩
      simp only [hs, Option.elim, blkOf, List.mem_singleton]
      exact hi.1
    · cases h
  · cases h; exact Kept.refl _ _

theorem conv_kept {P : Program} {s d : TypeId} {x v : Value} {H H' : AHeap} (W : Nat → Prop) (h : convA P s d x H = some (v, H')) : Kept W H H' := by
  unfold convA at h
  (repeat' split at h) <;> first
    | (cases h; done)
    | (cases h; exact Kept.refl _ _)
    | (cases h; exact Kept.push _ _ _)

theorem prim_kept {P : Program} {fl : Nat} {op : Op} {ev : Operand → Value} {H H' : AHeap} {r : ANext} (h : prim P fl op ev H = some (r, H')) :
    Kept (fun id => id ∈ wrOf op ev ∧ fl ≤ id) H H' := by
  have same : ∀ {o : Option Value}, (o.map fun v => (ANext.value v, H)) = some (r, H') → Kept (fun id => id ∈ wrOf op ev ∧ fl ≤ id) H H' := by
    intro o ho
    cases o with
    | none => cases ho
    | some v => cases ho; exact Kept.refl _ _
  cases op <;> simp only [prim] at h <;> try (cases h; done)
  case move x => cases h; exact Kept.refl _ _
  case assign x => cases h; exact Kept.refl _ _
  case pick c a b => split at h <;> cases h; exact Kept.refl _ _
  case alloc t => split at h <;> cases h; exact Kept.push _ _ _
  case box t x => cases h; exact Kept.push _ _ _
  case build t parts =>
    (repeat' split at h) <;> cases h <;> exact Kept.refl _ _
  case buildSlice t n parts =>
    (repeat' split at h) <;> cases h
    exact Kept.push _ _ _
  case load t a =>
    split at h
    · exact same h
    · cases h
  case store t a x =>
    split at h
    · rename_i p hp
      cases hs : storeA P fl t H p (ev x) with
      | none => simp [hs] at h
      | some K =>
        simp [hs] at h
        obtain ⟨rfl, rfl⟩ := h
        unfold storeA at hs
        split at hs
        · refine (storeAt_kept hs).mono fun id _ hi => ⟨?_, hi.2⟩
          simp [wrOf, hp, blkOf, hi.1]
        · cases hs
    · cases h
  case nilCheck x => split at h <;> cases h <;> exact Kept.refl _ _
  case binOp => exact same h
  case unOp => exact same h
  case convert s d x =>
    cases hm : markA P fl s d (ev x) H with
    | some v => simp [hm] at h; obtain ⟨_, rfl⟩ := h; exact Kept.refl _ _
    | none =>
    rw [hm] at h
    cases hc : convA P s d (ev x) H with
    | none => simp [hc] at h
    | some q =>
      simp [hc] at h
      obtain ⟨rfl, rfl⟩ := h
      exact conv_kept _ (v := q.1) (H' := q.2) hc
  case makeFunc => cases h; exact Kept.refl _ _
  case makeSlice t l c =>
    (repeat' split at h) <;> cases h
    exact Kept.push _ _ _
  case slice => exact same h
  case fieldAddr => exact same h
  case field => exact same h
  case indexAddr => exact same h
  case index => exact same h
  case extract x i =>
    split at h
    · exact same h
    · cases h
  case sliceToArrayPointer => exact same h
  case makeInterface t x =>
    split at h <;> cases h
    exact Kept.refl _ _
  case call c =>
    obtain ⟨cal, args, ats⟩ := c
    unfold callA at h
    cases cal with
    | invoke rv m => simp at h
    | value f =>
      simp only at h
      split at h
      · split at h <;> cases h
        exact Kept.refl _ _
      · cases h
    | builtin b =>
      cases b <;> simp only at h <;> try (cases h; done)
      case len => exact same h
      case append =>
        cases hc : appendA P fl ats (args.map ev) H with
        | none => simp [hc] at h
        | some q =>
          simp [hc] at h
          obtain ⟨rfl, rfl⟩ := h
          exact append_kept (v := q.1) (H' := q.2) hc
      case copy =>
        cases hc : copyA P fl ats (args.map ev) H with
        | none => simp [hc] at h
        | some q =>
          simp [hc] at h
          obtain ⟨rfl, rfl⟩ := h
          exact copy_kept (v := q.1) (H' := q.2) hc
      case max =>
        split at h
        · exact same h
        · cases h
      case min =>
        split at h
        · exact same h
        · cases h
      case complex => (repeat' split at h) <;> cases h <;> exact Kept.refl _ _
      case real => (repeat' split at h) <;> cases h <;> exact Kept.refl _ _
      case imag => (repeat' split at h) <;> cases h <;> exact Kept.refl _ _

theorem prim_enter {P : Program} {fl : Nat} {op : Op} {ev : Operand → Value} {H H' : AHeap} {f : FuncId} {args : Array Value} (h : prim P fl op ev H = some (.enter f args, H')) : kindOf op = 4 := by
  have no : ∀ {α : Type} {o : Option α} {g : α → Value × AHeap}, (o.map fun v => (ANext.value (g v).1, (g v).2)) = some (.enter f args, H') → False := by
    intro α o g ho
    cases o with
    | none => cases ho
    | some v => simp at ho
  have no' : ∀ {o : Option Value}, (o.map fun v => (ANext.value v, H)) = some (.enter f args, H') → False := fun {o} ho => no (g := fun v => (v, H)) ho
  cases op <;> simp only [prim] at h
  case convert s d x =>
    exfalso
    split at h
    · cases h
    · exact no (g := fun q => q) h
  case call c =>
    obtain ⟨cal, as, ats⟩ := c
    unfold callA at h
    cases cal with
    | invoke rv m => simp at h
    | value f => rfl
    | builtin b =>
      exfalso
      cases b <;> simp only at h <;> (try (cases h; done))
      case len => exact no' h
      case append => exact no (g := fun q => q) h
      case copy => exact no (g := fun q => q) h
      case max =>
        split at h
        · exact no' h
        · cases h
      case min =>
        split at h
        · exact no' h
        · cases h
      case complex => (repeat' split at h) <;> cases h
      case real => (repeat' split at h) <;> cases h
      case imag => (repeat' split at h) <;> cases h
  all_goals
    exfalso
    first
      | (cases h; done)
      | exact no' h
      | exact no (g := fun q => q) h
      | (split at h <;> first | (cases h; done) | exact no' h)
      | ((repeat' split at h) <;> cases h; done)
      | skip
  case store t a x =>
    split at h
    · rename_i p hp
      cases hs : storeA P fl t H p (ev x) with
      | none => simp [hs] at h
      | some K => simp [hs] at h
    · cases h

def CallerKept (call : Caller) : Prop := ∀ fl f args H v H', call fl f args H = some (v, H') → Kept (fun id => fl ≤ id) H H'

/-- What one operation leaves: 'w': may it write where it wishes from fl on (a call), or only what it names. -/
theorem stepOp_kept {P : Program} {call : Caller} (hc : CallerKept call) {fl flc : Nat} {ops : Array Oper} {o : Oper} {t t' : Temps} {H H' : AHeap} (h : stepOp P call fl flc ops o t H = some (t', H')) :
    Kept (fun id => (id ∈ wrOf o.op (eval t) ∧ fl ≤ id) ∨ (kindOf o.op = 4 ∧ flc ≤ id)) H H' ∧ ∃ v, t' = tput t o.dst v := by
  unfold stepOp at h
  split at h
  · split at h
    · cases h
      exact ⟨(prim_kept ‹_›).mono fun id _ h => .inl h, _, rfl⟩
    · cases h
      exact ⟨(prim_kept ‹_›).mono fun id _ h => .inl h, _, rfl⟩
    · rename_i f args H1 hp
      split at h
      · rename_i v H2 hcall
        cases h
        refine ⟨((prim_kept hp).mono fun id _ h => .inl h).trans ((hc _ _ _ _ _ _ hcall).mono fun id _ h => .inr ⟨?_, h⟩), _, rfl⟩
        exact prim_enter hp
      · cases h
    · cases h
  · cases h
    exact ⟨Kept.refl _ _, _, rfl⟩

/-- What a call leaves. -/
def KeptW (flc : Nat) (W : Nat → Prop) (call : Caller) : Prop := ∀ f args H v H', call flc f args H = some (v, H') → Kept W H H'
theorem stepOp_keptW {P : Program} {call : Caller} {fl flc : Nat} {W : Nat → Prop} (hc : KeptW flc W call) {ops : Array Oper} {o : Oper} {t t' : Temps} {H H' : AHeap} (h : stepOp P call fl flc ops o t H = some (t', H')) :
    Kept (fun id => (id ∈ wrOf o.op (eval t) ∧ fl ≤ id) ∨ (kindOf o.op = 4 ∧ W id)) H H' ∧ ∃ v, t' = tput t o.dst v := by
  unfold stepOp at h
  split at h
  · split at h
    · cases h
      exact ⟨(prim_kept ‹_›).mono fun id _ h => .inl h, _, rfl⟩
    · cases h
      exact ⟨(prim_kept ‹_›).mono fun id _ h => .inl h, _, rfl⟩
    · rename_i f args H1 hp
      split at h
      · rename_i v H2 hcall
        cases h
        refine ⟨((prim_kept hp).mono fun id _ h => .inl h).trans ((hc _ _ _ _ _ hcall).mono fun id _ h => .inr ⟨?_, h⟩), _, rfl⟩
        exact prim_enter hp
      · cases h
    · cases h
  · cases h
    exact ⟨Kept.refl _ _, _, rfl⟩

theorem stepOp_kept' {P : Program} {call : Caller} (hc : CallerKept call) {fl flc : Nat} {ops : Array Oper} {o : Oper} {t t' : Temps} {H H' : AHeap} (hf : fl ≤ flc ∨ H.length ≤ flc)
    (h : stepOp P call fl flc ops o t H = some (t', H')) : Kept (fun id => fl ≤ id) H H' :=
  (stepOp_kept hc h).1.mono fun id hl hi => by
    rcases hi with hi | hi
    · exact hi.2
    · omega

theorem runOps_kept {P : Program} {call : Caller} (hc : CallerKept call) {fl : Nat} {ops : Array Oper} : ∀ (l : List Oper) (t t' : Temps) (H H' : AHeap),
    runOps P call fl ops l t H = some (t', H') → Kept (fun id => fl ≤ id) H H'
  | [], t, t', H, H', h => by cases h; exact Kept.refl _ _
  | o :: l, t, t', H, H', h => by
    simp only [runOps] at h
    split at h
    · exact (stepOp_kept' hc (.inl (Nat.le_refl _)) ‹_›).trans (runOps_kept hc l _ _ _ _ h)
    · cases h

theorem lock1_at (H : AHeap) (x i : Nat) : (lock1 H x)[i]? = if i = x then (H[i]?).map (fun B => { B with alive := false }) else H[i]? := by
  unfold lock1
  cases hx : H[x]? with
  | none =>
    simp only
    split
    · rename_i h; rw [h, hx]; rfl
    · rfl
  | some B =>
    simp only
    have hlt := (List.getElem?_eq_some_iff.1 hx).1
    split
    · rename_i h; subst h; rw [List.getElem?_set_self hlt, hx]; rfl
    · rename_i h; rw [List.getElem?_set_ne (Ne.symm h)]
theorem lock1_len (H : AHeap) (x : Nat) : (lock1 H x).length = H.length := by
  unfold lock1
  split <;> simp
theorem lockH_len : ∀ (X : List Nat) (H : AHeap), (lockH X H).length = H.length
  | [], _ => rfl
  | x :: X, H => (lockH_len X (lock1 H x)).trans (lock1_len H x)
theorem lockH_at : ∀ (X : List Nat) (H : AHeap) (i : Nat), (lockH X H)[i]? = if i ∈ X then (H[i]?).map (fun B => { B with alive := false }) else H[i]?
  | [], H, i => by simp [lockH]
  | x :: X, H, i => by
    show (lockH X (lock1 H x))[i]? = _
    rw [lockH_at X (lock1 H x) i, lock1_at]
    by_cases h1 : i = x
    · subst h1
      simp only [if_true, List.mem_cons, true_or]
      split
      · cases H[i]? <;> rfl
      · rfl
    · simp only [h1, if_false, List.mem_cons, false_or]
theorem unlock1_len (H K : AHeap) (x : Nat) : (unlock1 H K x).length = K.length := by
  unfold unlock1
  split <;> simp
theorem unlockH_len (H : AHeap) : ∀ (X : List Nat) (K : AHeap), (unlockH X H K).length = K.length
  | [], _ => rfl
  | x :: X, K => (unlockH_len H X (unlock1 H K x)).trans (unlock1_len H K x)
theorem unlock1_at (H K : AHeap) (hl : H.length ≤ K.length) (x i : Nat) : (unlock1 H K x)[i]? = if i = x ∧ i < H.length then H[i]? else K[i]? := by
  unfold unlock1
  cases hx : H[x]? with
  | none =>
    simp only
    split
    · rename_i h; obtain ⟨rfl, h⟩ := h
      rw [List.getElem?_eq_none_iff] at hx; omega
    · rfl
  | some B =>
    simp only
    have hlt := (List.getElem?_eq_some_iff.1 hx).1
    split
    · rename_i h; obtain ⟨rfl, h⟩ := h
      rw [List.getElem?_set_self (by omega), hx]
    · rename_i h; rw [List.getElem?_set_ne (fun e => h ⟨e.symm, by omega⟩)]
theorem unlockH_at (H : AHeap) : ∀ (X : List Nat) (K : AHeap), H.length ≤ K.length → ∀ (i : Nat), (unlockH X H K)[i]? = if i ∈ X ∧ i < H.length then H[i]? else K[i]?
  | [], K, _, i => by simp [unlockH]
  | x :: X, K, hl, i => by
    show (unlockH X H (unlock1 H K x))[i]? = _
    rw [unlockH_at H X _ (by rw [unlock1_len]; exact hl) i, unlock1_at H K hl]
    by_cases h1 : i = x
    · subst h1
      simp only [true_and, List.mem_cons, true_or]
      split
      · rename_i h; simp [h.2]
      · rfl
    · simp only [h1, false_and, if_false, List.mem_cons, false_or]

/-- A call that may not touch some blocks leaves these. -/
theorem lock_kept {call : Caller} (hc : CallerKept call) (X : List Nat) (fl : Nat) : KeptW fl (fun id => fl ≤ id ∧ ¬ id ∈ X) (lockCall call X) := by
  intro f args H v H' h
  unfold lockCall at h
  split at h
  case h_2 => cases h
  rename_i v' K hk
  cases h
  have k := hc _ _ _ _ _ _ hk
  have hl : H.length ≤ K.length := by have := k.len; rw [lockH_len] at this; exact this
  refine ⟨by rw [unlockH_len]; exact hl, fun id hid hn => ?_, fun id B hB => ?_⟩
  · rw [unlockH_at H X K hl]
    split
    · rfl
    · rename_i h2
      have hx : id ∉ X := fun h => h2 ⟨h, hid⟩
      rw [k.keep id (by rw [lockH_len]; exact hid) (fun h => hn ⟨h, hx⟩), lockH_at, if_neg hx]
  · rw [unlockH_at H X K hl]
    split
    · exact ⟨B, hB, rfl, rfl, rfl, fun h => h⟩
    · rename_i h2
      have hx : id ∉ X := fun h => h2 ⟨h, (List.getElem?_eq_some_iff.1 hB).1⟩
      exact k.stat id B (by rw [lockH_at, if_neg hx]; exact hB)
theorem lock_callKept {call : Caller} (hc : CallerKept call) (X : List Nat) : CallerKept (lockCall call X) := fun fl f args H v H' h => (lock_kept hc X fl f args H v H' h).mono fun _ _ h => h.1
theorem runSemi_kept {P : Program} {call : Caller} (hc : CallerKept call) {fl : Nat} {ops : Array Oper} {b : Array Nat} : ∀ (l : List Oper) (i : Nat) (X : List Nat) (Z : List (Nat × List Nat × Nat)) (t t' : Temps) (H H' : AHeap),
    runSemi P call fl ops b i X Z l t H = some (t', H') → Kept (fun id => fl ≤ id) H H'
  | [], i, X, Z, t, t', H, H', h => by cases h; exact Kept.refl _ _
  | o :: l, i, X, Z, t, t', H, H', h => by
    simp only [runSemi] at h
    split at h
    case isFalse => cases h
    split at h
    · rename_i t1 H1 hs
      have hc' : CallerKept (if semiAt ops b i o then lockCall call X else call) := by
        split
        · exact lock_callKept hc X
        · exact hc
      exact (stepOp_kept' hc' (by split <;> first | exact .inl (Nat.le_refl _) | exact .inr (Nat.le_refl _)) hs).trans (runSemi_kept hc l _ _ _ _ _ _ _ h)
    · cases h

theorem runDrawn_kept {P : Program} {call : Caller} (hc : CallerKept call) {fl : Nat} {ops : Array Oper} {b : Array Nat} : ∀ (l : List Oper) (i : Nat) (t t' : Temps) (H H' : AHeap),
    runDrawn P call fl ops b i l t H = some (t', H') → Kept (fun id => fl ≤ id) H H'
  | [], i, t, t', H, H', h => by cases h; exact Kept.refl _ _
  | o :: l, i, t, t', H, H', h => by
    simp only [runDrawn] at h
    split at h
    · rename_i t1 H1 hs
      have k := stepOp_kept' hc (by split <;> first | exact .inl (Nat.le_refl _) | exact .inr (Nat.le_refl _)) hs
      exact k.trans (runDrawn_kept hc l _ _ _ _ _ h)
    · cases h

theorem runRegion_kept {P : Program} {call : Caller} (hc : CallerKept call) {fl : Nat} {ops : Array Oper} {draw : Bool} {t t' : Temps} {H H' : AHeap}
    (h : runRegion P call fl ops draw t H = some (t', H')) : Kept (fun id => fl ≤ id) H H' := by
  unfold runRegion at h
  split at h
  · simp only at h
    split at h
    · split at h
      · rename_i t1 H1 hrun
        split at h
        · cases h
          split at hrun
          · exact runSemi_kept hc _ _ _ _ _ _ _ _ hrun
          · exact runDrawn_kept hc _ _ _ _ _ _ hrun
        · cases h
      · cases h
    · cases h
  · exact runOps_kept hc _ _ _ _ _ h

theorem loopN_kept {fl : Nat} {body : Temps → AHeap → Option (AExit × Temps × AHeap)} (hb : ∀ t H e t' H', body t H = some (e, t', H') → Kept (fun id => fl ≤ id) H H') :
    ∀ (n : Nat) (t : Temps) (H : AHeap) (e : AExit) (t' : Temps) (H' : AHeap), loopN body n t H = some (e, t', H') → Kept (fun id => fl ≤ id) H H'
  | 0, _, _, _, _, _, h => by cases h
  | n + 1, t, H, e, t', H', h => by
    simp only [loopN] at h
    split at h
    · rename_i t1 H1 hs
      exact (hb _ _ _ _ _ hs).trans (loopN_kept hb n _ _ _ _ _ h)
    · exact hb _ _ _ _ _ h

theorem exec_kept {P : Program} {call : Caller} (hc : CallerKept call) {m fl : Nat} : ∀ (c : Code) (t : Temps) (H : AHeap) (e : AExit) (t' : Temps) (H' : AHeap),
    exec P call m fl c t H = some (e, t', H') → Kept (fun id => fl ≤ id) H H' := by
  intro c
  induction c with
  | skip => intro t H e t' H' h; cases h; exact Kept.refl _ _
  | label l => intro t H e t' H' h; cases h; exact Kept.refl _ _
  | exit id => intro t H e t' H' h; cases h; exact Kept.refl _ _
  | ret => intro t H e t' H' h; cases h; exact Kept.refl _ _
  | region id ops draw =>
    intro t H e t' H' h
    simp only [exec] at h
    split at h
    · cases h; exact runRegion_kept hc ‹_›
    · cases h
  | seq a b iha ihb =>
    intro t H e t' H' h
    simp only [exec] at h
    split at h
    · rename_i t1 H1 hs
      exact (iha _ _ _ _ _ hs).trans (ihb _ _ _ _ _ h)
    · exact iha _ _ _ _ _ h
  | cond c x y ihx ihy =>
    intro t H e t' H' h
    simp only [exec] at h
    split at h
    · exact ihx _ _ _ _ _ h
    · exact ihy _ _ _ _ _ h
    · cases h
  | block id b ih =>
    intro t H e t' H' h
    simp only [exec] at h
    split at h
    · cases h; exact ih _ _ _ _ _ ‹_›
    · exact ih _ _ _ _ _ h
  | loop b ih =>
    intro t H e t' H' h
    simp only [exec] at h
    exact loopN_kept (fun t H e t' H' h => ih t H e t' H' h) _ _ _ _ _ _ h
  | rangeFunc => intro t H e t' H' h; cases h
  | scope => intro t H e t' H' h; cases h
  | goto l => intro t H e t' H' h; cases h; exact Kept.refl _ _
  | refuse => intro t H e t' H' h; cases h

end Go.Mach
