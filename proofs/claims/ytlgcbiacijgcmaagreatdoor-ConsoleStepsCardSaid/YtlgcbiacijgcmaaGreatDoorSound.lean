/- WHAT THE MACHINE COMES TO, THE MODEL COMES TO: a function's text, its calls, its loops, whatever order the model draws. No condition. -/
import Derived.Test.YtlgcbiacijgcmaaGreatDoorRegion
import Derived.Test.YtlgcbiacijgcmaaGreatDoorExtS
import Derived.LoopN
import Derived.Scope
namespace Go.Mach

inductive ERel : AExit → Exit → Prop
  | normal : ERel .normal .normal
  | exit (id : Nat) : ERel (.exit id) (.exit id)
  | goto (l : Nat) : ERel (.goto l) (.goto l)
  | ret : ERel .ret .ret

section
variable {P : Program} {call : Caller} {base fl n : Nat} {w0 : World}

/-- How a piece of code is carried out. -/
def Out (base : Nat) (w0 : World) (fl n : Nat) (ρ : Ren) (H : AHeap) (w : World) (e : AExit) (t' : Temps) (H' : AHeap) (Q : Exit → Act → World → Prop) : Prop :=
  ∀ e' ρ' a' w', ERel e e' → TRel n ρ' t' a' → Step base w0 All All fl ρ H w ρ' H' w' → Q e' a' w'

theorem allOr {H : AHeap} : (fun id => All id ∨ H.length ≤ id) = All := funext fun _ => propext ⟨fun _ => trivial, fun _ => .inl trivial⟩

theorem Step.simAll {fl : Nat} {ρ ρ' : Ren} {H H' : AHeap} {w w' : World} (s : Step base w0 All All fl ρ H w ρ' H' w') : Sim base w0 All ρ' H' w' := by
  have := s.sim
  rwa [allOr] at this

theorem Step.fresh {fl : Nat} {ρ ρ1 : Ren} {H H1 H2 : AHeap} {w w1 : World} (s : Step base w0 All All fl ρ H w ρ1 H1 w1) (hfr : ∀ id, H.length ≤ id → id < H2.length → ρ id = none) :
    ∀ id, H1.length ≤ id → id < H2.length → ρ1 id = none := fun id h1 h2 => by
  cases h3 : ρ1 id with
  | none => rfl
  | some L =>
    have := s.new id L (hfr id (Nat.le_trans s.len h1) h2) h3
    omega

theorem Step.andThen {fl : Nat} {ρ ρ1 ρ2 : Ren} {H H1 H2 : AHeap} {w w1 w2 : World} (s : Step base w0 All All fl ρ H w ρ1 H1 w1) (s' : Step base w0 All All fl ρ1 H1 w1 ρ2 H2 w2)
    (hfr : ∀ id, H.length ≤ id → id < H2.length → ρ id = none) : Step base w0 All All fl ρ H w ρ2 H2 w2 :=
  s.trans (W1 := All) (by rw [allOr]; exact s') (fun _ _ => .inl trivial) hfr

/-- A piece of code that the machine runs, the model runs. -/
def Runs (P : Program) (base fl n : Nat) (w0 : World) (f : Temps → AHeap → Option (AExit × Temps × AHeap)) (c : Code) : Prop :=
  ∀ (t : Temps) (H : AHeap) e t' H' ρ w a Q, Sim base w0 All ρ H w → fl ≤ H.length → (∀ id, H.length ≤ id → id < H'.length → ρ id = none) → TRel n ρ t a → f t H = some (e, t', H') →
    Out base w0 fl n ρ H w e t' H' Q → c.wp P Q a w

theorem loop_sound {f : Temps → AHeap → Option (AExit × Temps × AHeap)} {c : Code} (hr : Runs P base fl n w0 f c) (hk : ∀ t H e t' H', f t H = some (e, t', H') → Kept (fun id => fl ≤ id) H H') :
    ∀ (m : Nat) (t : Temps) (H : AHeap) e t' H' ρ w a Q, Sim base w0 All ρ H w → fl ≤ H.length → (∀ id, H.length ≤ id → id < H'.length → ρ id = none) → TRel n ρ t a → loopN f m t H = some (e, t', H') →
      Out base w0 fl n ρ H w e t' H' Q → Code.rounds P c Q m a w
  | 0, _, _, _, _, _, _, _, _, _, _, _, _, _, h, _ => by cases h
  | m + 1, t, H, e, t', H', ρ, w, a, Q, S, hfl, hfr, hT, h, hQ => by
    rw [rounds_succ]
    simp only [loopN] at h
    split at h
    · rename_i t1 H1 hf
      have k1 := hk _ _ _ _ _ hf
      have k2 := loopN_kept hk m _ _ _ _ _ h
      refine hr t H _ t1 H1 ρ w a _ S hfl (fun id h1 h2 => hfr id h1 (Nat.lt_of_lt_of_le h2 k2.len)) hT hf ?_
      intro e1 ρ1 a1 w1 he hT1 hs
      cases he
      refine loop_sound hr hk m t1 H1 e t' H' ρ1 w1 a1 Q hs.simAll (Nat.le_trans hfl k1.len) (hs.fresh hfr) hT1 h ?_
      intro e2 ρ2 a2 w2 he2 hT2 hs2
      exact hQ e2 ρ2 a2 w2 he2 hT2 (hs.andThen hs2 hfr)
    · rename_i hne
      refine hr t H e t' H' ρ w a _ S hfl hfr hT h ?_
      intro e1 ρ1 a1 w1 he hT1 hs
      cases he with
      | normal => exact absurd h (hne _ _)
      | exit id => exact hQ _ ρ1 a1 w1 (.exit id) hT1 hs
      | goto l => exact hQ _ ρ1 a1 w1 (.goto l) hT1 hs
      | ret => exact hQ _ ρ1 a1 w1 .ret hT1 hs

theorem exec_sound (hcs : CallerSound base w0 P call) (hck : CallerKept call) (hm : P.follows .mixedOrders = true) (hbf : base ≤ fl) (m : Nat) : ∀ (c : Code), codeOk n c = true → Runs P base fl n w0 (exec P call m fl c) c := by
  intro c
  induction c with
  | skip =>
    intro _ t H e t' H' ρ w a Q S hfl hfr hT h hQ
    cases h
    exact wp_skip (hQ _ ρ a w .normal hT (Step.same S ⟨rfl, rfl, rfl, rfl⟩))
  | label l =>
    intro _ t H e t' H' ρ w a Q S hfl hfr hT h hQ
    cases h
    exact wp_label (hQ _ ρ a w .normal hT (Step.same S ⟨rfl, rfl, rfl, rfl⟩))
  | exit id =>
    intro _ t H e t' H' ρ w a Q S hfl hfr hT h hQ
    cases h
    exact wp_exit (hQ _ ρ a w (.exit id) hT (Step.same S ⟨rfl, rfl, rfl, rfl⟩))
  | ret =>
    intro _ t H e t' H' ρ w a Q S hfl hfr hT h hQ
    cases h
    exact wp_ret (hQ _ ρ a w .ret hT (Step.same S ⟨rfl, rfl, rfl, rfl⟩))
  | region id ops draw =>
    intro hok t H e t' H' ρ w a Q S hfl hfr hT h hQ
    simp only [exec] at h
    split at h
    · rename_i t1 H1 hr
      cases h
      have hok' : ∀ (i : Nat) o, ops[i]? = some o → opOk n ops o = true := fun i o ho => by
        simp only [codeOk, List.all_eq_true] at hok
        exact hok o (by simpa using Array.mem_of_getElem? ho)
      cases draw with
      | true => exact drawn_sound hcs hck hbf hfl hok' S hfr hT hm id hr fun ρ' a' w' hT' hs => hQ _ ρ' a' w' .normal hT' hs
      | false =>
        refine wp_region ?_
        unfold runRegion at hr
        simp only [Bool.false_eq_true, if_false] at hr
        have := runOps_sound (n := n) (Q := Q) hcs hck hbf ops.toList 0 t t' H H' ρ w a (fun k o hk => by
          have : ops[k]? = some o := by simpa using hk
          exact ⟨by rw [Nat.zero_add]; exact this, hok' k o this⟩) S hfl hfr hT hr fun ρ' a' w' hT' hs => hQ _ ρ' a' w' .normal hT' hs
        rw [Array.length_toList] at this
        rw [List.range_eq_range']
        exact this
    · cases h
  | seq x y ihx ihy =>
    intro hok t H e t' H' ρ w a Q S hfl hfr hT h hQ
    simp only [codeOk, Bool.and_eq_true] at hok
    simp only [exec] at h
    refine wp_seq ?_
    split at h
    · rename_i t1 H1 hx
      have k1 := exec_kept hck _ _ _ _ _ _ hx
      have k2 := exec_kept hck _ _ _ _ _ _ h
      refine ihx hok.1 t H _ t1 H1 ρ w a _ S hfl (fun id h1 h2 => hfr id h1 (Nat.lt_of_lt_of_le h2 k2.len)) hT hx ?_
      intro e1 ρ1 a1 w1 he hT1 hs
      cases he
      refine ihy hok.2 t1 H1 e t' H' ρ1 w1 a1 Q hs.simAll (Nat.le_trans hfl k1.len) (hs.fresh hfr) hT1 h ?_
      intro e2 ρ2 a2 w2 he2 hT2 hs2
      exact hQ e2 ρ2 a2 w2 he2 hT2 (hs.andThen hs2 hfr)
    · rename_i hne
      refine ihx hok.1 t H e t' H' ρ w a _ S hfl hfr hT h ?_
      intro e1 ρ1 a1 w1 he hT1 hs
      cases he with
      | normal => exact absurd h (hne _ _)
      | exit id => exact hQ _ ρ1 a1 w1 (.exit id) hT1 hs
      | goto l => exact hQ _ ρ1 a1 w1 (.goto l) hT1 hs
      | ret => exact hQ _ ρ1 a1 w1 .ret hT1 hs
  | cond c x y ihx ihy =>
    intro hok t H e t' H' ρ w a Q S hfl hfr hT h hQ
    simp only [codeOk, Bool.and_eq_true] at hok
    have hc := hT.eval hok.1.1
    simp only [exec] at h
    split at h
    · rename_i he
      rw [he] at hc
      have : a.eval c = .bool true := by
        generalize a.eval c = u at hc
        cases hc; rfl
      exact wp_cond_true this (ihx hok.1.2 t H e t' H' ρ w a Q S hfl hfr hT h hQ)
    · rename_i he
      rw [he] at hc
      have : a.eval c = .bool false := by
        generalize a.eval c = u at hc
        cases hc; rfl
      exact wp_cond_false this (ihy hok.2 t H e t' H' ρ w a Q S hfl hfr hT h hQ)
    · cases h
  | block id c ih =>
    intro hok t H e t' H' ρ w a Q S hfl hfr hT h hQ
    simp only [codeOk] at hok
    simp only [exec] at h
    refine wp_block ?_
    split at h
    · rename_i id' t1 H1 hx
      cases h
      refine ih hok t H _ t' H' ρ w a _ S hfl hfr hT hx ?_
      intro e1 ρ1 a1 w1 he hT1 hs
      cases he
      unfold Exit.inBlock
      by_cases hid : id' = id
      · subst hid
        simp only [if_true] at hQ ⊢
        exact hQ _ ρ1 a1 w1 .normal hT1 hs
      · simp only [hid, if_false] at hQ ⊢
        exact hQ _ ρ1 a1 w1 (.exit id') hT1 hs
    · rename_i hne
      refine ih hok t H e t' H' ρ w a _ S hfl hfr hT h ?_
      intro e1 ρ1 a1 w1 he hT1 hs
      cases he with
      | normal => exact hQ _ ρ1 a1 w1 .normal hT1 hs
      | exit id => exact absurd h (hne _ _ _)
      | goto l => exact hQ _ ρ1 a1 w1 (.goto l) hT1 hs
      | ret => exact hQ _ ρ1 a1 w1 .ret hT1 hs
  | loop c ih =>
    intro hok t H e t' H' ρ w a Q S hfl hfr hT h hQ
    simp only [codeOk] at hok
    simp only [exec] at h
    exact wp_loop_rounds m (loop_sound (ih hok) (fun t H e t' H' h => exec_kept hck c t H e t' H' h) m t H e t' H' ρ w a Q S hfl hfr hT h hQ)
  | rangeFunc => intro hok; cases hok
  | scope => intro hok; cases hok
  | goto l =>
    intro _ t H e t' H' ρ w a Q S hfl hfr hT h hQ
    cases h
    exact wp_goto (hQ _ ρ a w (.goto l) hT (Step.same S ⟨rfl, rfl, rfl, rfl⟩))
  | refuse => intro hok; cases hok

/-! ### A scope, told by blocks and a loop -/

/-- A text, from somewhere in a scope on, jumps and all. -/
inductive SRun (P : Program) (call : Caller) (m fl : Nat) (b : Code) : Code → Temps → AHeap → AExit → Temps → AHeap → Prop
  | stop {c t H e t' H'} (h : exec P call m fl c t H = some (e, t', H')) (he : ∀ l, e ≠ .goto l) : SRun P call m fl b c t H e t' H'
  | jump {c t H l t1 H1 r e t' H'} (h : exec P call m fl c t H = some (.goto l, t1, H1)) (hr : findLabel b l = some r) (k : SRun P call m fl b r t1 H1 e t' H') : SRun P call m fl b c t H e t' H'

def InS (P : Program) (b c : Code) (Q : Exit → Act → World → Prop) (a : Act) (w : World) : Prop :=
  ∀ (f : Frame) (k : List Item) (cs : List Frame), ∃ e a' w', Q e a' w' ∧ Arrives P (lone (f.at a (.code c :: .inScope b :: k)) cs w) f k cs e a' w'

theorem InS.of {b c : Code} {Q : Exit → Act → World → Prop} {a : Act} {w : World}
    (h : c.wp P (fun e a w => match e with
      | .goto l => ∃ r, findLabel b l = some r ∧ InS P b r Q a w
      | e => Q e a w) a w) : InS P b c Q a w := by
  intro f k cs
  obtain ⟨e, a₁, w₁, hq, harr⟩ := h f (.inScope b :: k) cs
  cases e with
  | normal => exact ⟨.normal, a₁, w₁, hq, Steps.trans harr (.one step_inScope)⟩
  | exit id => exact ⟨.exit id, a₁, w₁, hq, fun k' hk => harr k' (by simp [exitTo, hk])⟩
  | goto l =>
    obtain ⟨r, hr, hs⟩ := hq
    obtain ⟨e₂, a₂, w₂, hq₂, harr₂⟩ := hs f k cs
    exact ⟨e₂, a₂, w₂, hq₂, .of_steps (harr _ (by simp [gotoIn, hr])) harr₂⟩
  | ret => exact ⟨_, a₁, w₁, hq, harr⟩
  | panic ch => exact ⟨_, a₁, w₁, hq, harr⟩
  | outgrown => exact ⟨_, a₁, w₁, hq, harr⟩

theorem InS.scope {b : Code} {Q : Exit → Act → World → Prop} {a : Act} {w : World} (h : InS P b b Q a w) : (Code.scope b).wp P Q a w := by
  intro f k cs
  obtain ⟨e, a₁, w₁, hq, harr⟩ := h f k cs
  exact ⟨e, a₁, w₁, hq, .of_steps (.one step_scope) harr⟩

theorem SRun.kept {m : Nat} (hck : CallerKept call) {b c : Code} {t : Temps} {H : AHeap} {e : AExit} {t' : Temps} {H' : AHeap} (h : SRun P call m fl b c t H e t' H') : Kept (fun id => fl ≤ id) H H' := by
  induction h with
  | stop h _ => exact exec_kept hck _ _ _ _ _ _ h
  | jump h _ _ ih => exact (exec_kept hck _ _ _ _ _ _ h).trans ih

theorem findLabel_ok {l : Nat} : ∀ {b r : Code}, codeOk n b = true → findLabel b l = some r → codeOk n r = true
  | .seq x y, r, ho, h => by
    simp only [codeOk, Bool.and_eq_true] at ho
    simp only [findLabel] at h
    split at h
    · rename_i x' hx
      cases h
      simp only [codeOk, Bool.and_eq_true]
      exact ⟨findLabel_ok ho.1 hx, ho.2⟩
    · exact findLabel_ok ho.2 h
  | .label l', r, ho, h => by
    simp only [findLabel] at h
    split at h
    · cases h; rfl
    · cases h
  | .skip, r, ho, h => by cases h
  | .region .., r, ho, h => by cases h
  | .cond .., r, ho, h => by cases h
  | .block .., r, ho, h => by cases h
  | .loop .., r, ho, h => by cases h
  | .rangeFunc .., r, ho, h => by cases h
  | .exit .., r, ho, h => by cases h
  | .scope .., r, ho, h => by cases h
  | .goto .., r, ho, h => by cases h
  | .ret, r, ho, h => by cases h
  | .refuse .., r, ho, h => by cases h

theorem srun_sound (hcs : CallerSound base w0 P call) (hck : CallerKept call) (hm : P.follows .mixedOrders = true) (hbf : base ≤ fl) {m : Nat} {b : Code} (hb : codeOk n b = true) {c : Code} {t : Temps} {H : AHeap} {e : AExit} {t' : Temps} {H' : AHeap}
    (h : SRun P call m fl b c t H e t' H') : codeOk n c = true → ∀ ρ w a Q, Sim base w0 All ρ H w → fl ≤ H.length → (∀ id, H.length ≤ id → id < H'.length → ρ id = none) → TRel n ρ t a →
      Out base w0 fl n ρ H w e t' H' Q → InS P b c Q a w := by
  induction h with
  | stop h he =>
    intro hc ρ w a Q S hfl hfr hT hQ
    refine .of (exec_sound hcs hck hm hbf m _ hc _ _ _ _ _ ρ w a _ S hfl hfr hT h ?_)
    intro e1 ρ1 a1 w1 hee hT1 hs
    cases hee with
    | goto l => exact absurd rfl (he l)
    | normal => exact hQ _ ρ1 a1 w1 .normal hT1 hs
    | exit id => exact hQ _ ρ1 a1 w1 (.exit id) hT1 hs
    | ret => exact hQ _ ρ1 a1 w1 .ret hT1 hs
  | jump h hr k ih =>
    intro hc ρ w a Q S hfl hfr hT hQ
    have k1 := exec_kept hck _ _ _ _ _ _ h
    have k2 := k.kept hck
    refine .of (exec_sound hcs hck hm hbf m _ hc _ _ _ _ _ ρ w a _ S hfl (fun id h1 h2 => hfr id h1 (Nat.lt_of_lt_of_le h2 k2.len)) hT h ?_)
    intro e1 ρ1 a1 w1 hee hT1 hs
    cases hee
    refine ⟨_, hr, ih (findLabel_ok hb hr) ρ1 w1 a1 Q hs.simAll (Nat.le_trans hfl k1.len) (hs.fresh hfr) hT1 ?_⟩
    intro e2 ρ2 a2 w2 he2 hT2 hs2
    exact hQ e2 ρ2 a2 w2 he2 hT2 (hs.andThen hs2 hfr)

def fwd (l1 l2 : Nat) : AExit → AExit
  | .goto l => if l = l1 then .exit xA else if l = l2 then .exit xB else .goto l
  | e => e
def fmap (l1 l2 : Nat) (r : Option (AExit × Temps × AHeap)) : Option (AExit × Temps × AHeap) := r.map fun x => (fwd l1 l2 x.1, x.2)

theorem fwd_normal {l1 l2 : Nat} {e : AExit} (h : e ≠ .normal) : fwd l1 l2 e ≠ .normal := by
  intro k
  cases e with
  | normal => exact h rfl
  | goto l => simp only [fwd] at k; split at k <;> first | cases k | (split at k <;> cases k)
  | exit id => cases k
  | ret => cases k

theorem loopN_fwd {l1 l2 : Nat} {f g : Temps → AHeap → Option (AExit × Temps × AHeap)} (h : ∀ t H, g t H = fmap l1 l2 (f t H)) : ∀ (m : Nat) (t : Temps) (H : AHeap), loopN g m t H = fmap l1 l2 (loopN f m t H)
  | 0, _, _ => rfl
  | m + 1, t, H => by
    simp only [loopN, h]
    cases f t H with
    | none => rfl
    | some r =>
      obtain ⟨e, t1, H1⟩ := r
      cases e with
      | normal => exact loopN_fwd h m t1 H1
      | exit id => rfl
      | ret => rfl
      | goto l =>
        have := fwd_normal (l1 := l1) (l2 := l2) (e := .goto l) (by intro k; cases k)
        simp only [fmap, Option.map_some]
        split
        · rename_i hh; simp only [Option.some.injEq, Prod.mk.injEq] at hh; exact absurd hh.1 this
        · rfl

theorem beq_no {a b : Nat} (h : (!(Nat.beq a b)) = true) : a ≠ b := by
  intro k
  rw [k, Nat.beq_refl] at h
  cases h

theorem gsub_exec {m l1 l2 : Nat} : ∀ (c : Code), freshC c = true → ∀ (t : Temps) (H : AHeap), exec P call m fl (gsub l1 l2 c) t H = fmap l1 l2 (exec P call m fl c t H) := by
  intro c
  induction c with
  | skip => intro _ t H; rfl
  | label l => intro _ t H; rfl
  | exit id => intro _ t H; rfl
  | ret => intro _ t H; rfl
  | rangeFunc => intro _ t H; rfl
  | scope => intro _ t H; rfl
  | refuse => intro _ t H; rfl
  | goto l =>
    intro _ t H
    by_cases h1 : l = l1
    · simp [gsub, exec, fmap, fwd, h1]
    · by_cases h2 : l = l2
      · subst h2; simp [gsub, exec, fmap, fwd, h1]
      · simp [gsub, exec, fmap, fwd, h1, h2]
  | region id ops draw =>
    intro _ t H
    simp only [gsub, exec]
    cases runRegion P call fl ops draw t H with
    | none => rfl
    | some r => rfl
  | seq a b iha ihb =>
    intro hf t H
    simp only [freshC, Bool.and_eq_true] at hf
    simp only [gsub, exec, iha hf.1]
    cases exec P call m fl a t H with
    | none => rfl
    | some r =>
      obtain ⟨e, t1, H1⟩ := r
      cases e with
      | normal => exact ihb hf.2 t1 H1
      | exit id => rfl
      | ret => rfl
      | goto l =>
        have := fwd_normal (l1 := l1) (l2 := l2) (e := .goto l) (by intro k; cases k)
        simp only [fmap, Option.map_some]
        split
        · rename_i hh; simp only [Option.some.injEq, Prod.mk.injEq] at hh; exact absurd hh.1 this
        · rfl
  | cond o x y ihx ihy =>
    intro hf t H
    simp only [freshC, Bool.and_eq_true] at hf
    simp only [gsub, exec]
    split
    · exact ihx hf.1 t H
    · exact ihy hf.2 t H
    · rfl
  | block id b ih =>
    intro hf t H
    simp only [freshC, Bool.and_eq_true] at hf
    have n1 := beq_no hf.1.1
    have n2 := beq_no hf.1.2
    simp only [gsub, exec, ih hf.2]
    cases exec P call m fl b t H with
    | none => rfl
    | some r =>
      obtain ⟨e, t1, H1⟩ := r
      cases e with
      | normal => rfl
      | exit id' =>
        simp only [fmap, Option.map_some, fwd]
        by_cases hi : id' = id
        · simp [hi]
        · simp [hi]
      | ret => rfl
      | goto l =>
        by_cases h1 : l = l1
        · simp [fmap, fwd, h1, Ne.symm n1]
        · by_cases h2 : l = l2
          · subst h2; simp [fmap, fwd, h1, Ne.symm n2]
          · simp [fmap, fwd, h1, h2]
  | loop b ih =>
    intro hf t H
    simp only [gsub, exec]
    exact loopN_fwd (fun t H => ih hf t H) m t H

theorem loopN_exit {f : Temps → AHeap → Option (AExit × Temps × AHeap)} {p : Nat → Prop} (h : ∀ t H id t' H', f t H = some (.exit id, t', H') → p id) : ∀ (m : Nat) (t : Temps) (H : AHeap) id t' H', loopN f m t H = some (.exit id, t', H') → p id
  | 0, _, _, _, _, _, k => by cases k
  | m + 1, t, H, id, t', H', k => by
    simp only [loopN] at k
    split at k
    · exact loopN_exit h m _ _ _ _ _ k
    · exact h _ _ _ _ _ k

theorem exec_fresh {m : Nat} : ∀ (c : Code), freshC c = true → ∀ (t : Temps) (H : AHeap) (id : Nat) (t' : Temps) (H' : AHeap), exec P call m fl c t H = some (.exit id, t', H') → id ≠ xA ∧ id ≠ xB := by
  intro c
  induction c with
  | skip => intro _ t H id t' H' h; cases h
  | label l => intro _ t H id t' H' h; cases h
  | ret => intro _ t H id t' H' h; cases h
  | rangeFunc => intro _ t H id t' H' h; cases h
  | scope => intro _ t H id t' H' h; cases h
  | refuse => intro _ t H id t' H' h; cases h
  | goto l => intro _ t H id t' H' h; cases h
  | exit id0 =>
    intro hf t H id t' H' h
    cases h
    simp only [freshC, Bool.and_eq_true] at hf
    exact ⟨beq_no hf.1, beq_no hf.2⟩
  | region id0 ops draw =>
    intro _ t H id t' H' h
    simp only [exec] at h
    split at h <;> cases h
  | seq a b iha ihb =>
    intro hf t H id t' H' h
    simp only [freshC, Bool.and_eq_true] at hf
    simp only [exec] at h
    split at h
    · exact ihb hf.2 _ _ _ _ _ h
    · exact iha hf.1 _ _ _ _ _ h
  | cond o x y ihx ihy =>
    intro hf t H id t' H' h
    simp only [freshC, Bool.and_eq_true] at hf
    simp only [exec] at h
    split at h
    · exact ihx hf.1 _ _ _ _ _ h
    · exact ihy hf.2 _ _ _ _ _ h
    · cases h
  | block id0 b ih =>
    intro hf t H id t' H' h
    simp only [freshC, Bool.and_eq_true] at hf
    simp only [exec] at h
    split at h
    · rename_i hx
      simp only [Option.some.injEq, Prod.mk.injEq] at h
      obtain ⟨h, rfl, rfl⟩ := h
      split at h
      · cases h
      · cases h; exact ih hf.2 _ _ _ _ _ hx
    · exact ih hf.2 _ _ _ _ _ h
  | loop b ih =>
    intro hf t H id t' H' h
    simp only [exec] at h
    exact loopN_exit (p := fun id => id ≠ xA ∧ id ≠ xB) (fun t H id t' H' k => ih hf t H id t' H' k) m _ _ _ _ _ h

/-- Texts, one behind the other. -/
def execS (P : Program) (call : Caller) (m fl : Nat) : List Code → Temps → AHeap → Option (AExit × Temps × AHeap)
  | [], t, H => some (.normal, t, H)
  | c :: r, t, H => match exec P call m fl c t H with
    | some (.normal, t', H') => execS P call m fl r t' H'
    | r => r

theorem exec_un {m : Nat} : ∀ (l : List Code) (t : Temps) (H : AHeap), exec P call m fl (un l) t H = execS P call m fl l t H
  | [], t, H => rfl
  | c :: r, t, H => by
    simp only [un, exec, execS]
    split
    · rename_i h; rw [h]; exact exec_un r _ _
    · rename_i h
      split
      · rename_i k; exact absurd k (h _ _)
      · rfl

theorem execS_app {m : Nat} : ∀ (l l' : List Code) (t : Temps) (H : AHeap), execS P call m fl (l ++ l') t H = match execS P call m fl l t H with
    | some (.normal, t', H') => execS P call m fl l' t' H'
    | r => r
  | [], l', t, H => rfl
  | c :: r, l', t, H => by
    simp only [List.cons_append, execS]
    cases exec P call m fl c t H with
    | none => rfl
    | some x =>
      obtain ⟨e, t1, H1⟩ := x
      cases e with
      | normal => exact execS_app r l' t1 H1
      | _ => rfl

theorem execS_one {m : Nat} (c : Code) (t : Temps) (H : AHeap) : execS P call m fl [c] t H = exec P call m fl c t H := by
  simp only [execS]
  cases exec P call m fl c t H with
  | none => rfl
  | some x =>
    obtain ⟨e, t1, H1⟩ := x
    cases e <;> rfl

theorem exec_spine {m : Nat} : ∀ (c : Code) (t : Temps) (H : AHeap), exec P call m fl c t H = execS P call m fl (spine c) t H
  | .seq a b, t, H => by
    simp only [spine, exec, execS]
    cases exec P call m fl a t H with
    | none => rfl
    | some x =>
      obtain ⟨e, t1, H1⟩ := x
      cases e with
      | normal => exact exec_spine b t1 H1
      | _ => rfl
  | .skip, t, H => (execS_one _ t H).symm
  | .region .., t, H => (execS_one _ t H).symm
  | .cond .., t, H => (execS_one _ t H).symm
  | .block .., t, H => (execS_one _ t H).symm
  | .loop .., t, H => (execS_one _ t H).symm
  | .rangeFunc .., t, H => (execS_one _ t H).symm
  | .exit .., t, H => (execS_one _ t H).symm
  | .scope .., t, H => (execS_one _ t H).symm
  | .label .., t, H => (execS_one _ t H).symm
  | .goto .., t, H => (execS_one _ t H).symm
  | .ret, t, H => (execS_one _ t H).symm
  | .refuse .., t, H => (execS_one _ t H).symm

theorem cutL_eq : ∀ {l p q : List Code} {n : Nat}, cutL l = some (p, n, q) → l = p ++ .label n :: q
  | [], _, _, _, h => by cases h
  | x :: r, p, q, n, h => by
    unfold cutL at h
    split at h
    · cases h
    · rename_i h1
      simp only [List.cons.injEq] at h1
      obtain ⟨rfl, rfl⟩ := h1
      cases h
      rfl
    · rename_i h1
      simp only [List.cons.injEq] at h1
      obtain ⟨rfl, rfl⟩ := h1
      split at h
      · rename_i h2
        cases h
        rw [cutL_eq h2]
        rfl
      · cases h

/-- A label on the spine is found. -/
theorem find_spine {l : Nat} {m : Nat} : ∀ {c : Code} {p q : List Code}, spine c = p ++ .label l :: q → p.all (noLab l) = true →
    ∃ r, findLabel c l = some r ∧ ∀ t H, exec P call m fl r t H = execS P call m fl q t H
  | .seq a b, p, q, h, hp => by
    simp only [spine] at h
    cases p with
    | nil =>
      simp only [List.nil_append, List.cons.injEq] at h
      obtain ⟨rfl, rfl⟩ := h
      refine ⟨.seq .skip b, by simp [findLabel], fun t H => ?_⟩
      simp only [exec]
      exact exec_spine b t H
    | cons x p =>
      simp only [List.cons_append, List.cons.injEq] at h
      obtain ⟨rfl, h⟩ := h
      simp only [List.all_cons, Bool.and_eq_true] at hp
      obtain ⟨r, h1, h2⟩ := find_spine h hp.2
      have h3 : findLabel a l = none := by
        have := hp.1
        unfold noLab at this
        exact Option.isNone_iff_eq_none.1 this
      exact ⟨r, by simp only [findLabel, h3]; exact h1, h2⟩
  | .label l', p, q, h, hp => by
    cases p with
    | nil =>
      simp only [spine, List.nil_append, List.cons.injEq, Code.label.injEq] at h
      obtain ⟨rfl, rfl⟩ := h
      exact ⟨.skip, by simp [findLabel], fun t H => rfl⟩
    | cons x p => simp [spine] at h
  | .skip, p, q, h, hp => by cases p <;> simp [spine] at h
  | .region .., p, q, h, hp => by cases p <;> simp [spine] at h
  | .cond .., p, q, h, hp => by cases p <;> simp [spine] at h
  | .block .., p, q, h, hp => by cases p <;> simp [spine] at h
  | .loop .., p, q, h, hp => by cases p <;> simp [spine] at h
  | .rangeFunc .., p, q, h, hp => by cases p <;> simp [spine] at h
  | .exit .., p, q, h, hp => by cases p <;> simp [spine] at h
  | .scope .., p, q, h, hp => by cases p <;> simp [spine] at h
  | .goto .., p, q, h, hp => by cases p <;> simp [spine] at h
  | .ret, p, q, h, hp => by cases p <;> simp [spine] at h
  | .refuse .., p, q, h, hp => by cases p <;> simp [spine] at h

theorem SRun.same {m : Nat} {b c c' : Code} {t t1 : Temps} {H H1 : AHeap} {e : AExit} {t' : Temps} {H' : AHeap} (he : exec P call m fl c' t1 H1 = exec P call m fl c t H) (h : SRun P call m fl b c t H e t' H') : SRun P call m fl b c' t1 H1 e t' H' := by
  cases h with
  | stop h k => exact .stop (he.trans h) k
  | jump h hr k => exact .jump (he.trans h) hr k

theorem ex_seq {m : Nat} {a b : Code} {t : Temps} {H : AHeap} : exec P call m fl (.seq a b) t H = (match exec P call m fl a t H with
    | some (.normal, t', H') => exec P call m fl b t' H'
    | r => r) := by simp only [exec]; rfl
theorem ex_blk {m id : Nat} {b : Code} {t : Temps} {H : AHeap} : exec P call m fl (.block id b) t H = (match exec P call m fl b t H with
    | some (.exit id', t', H') => some (if id' = id then .normal else .exit id', t', H')
    | r => r) := by simp only [exec]; rfl
theorem ex_loop {m : Nat} {b : Code} {t : Temps} {H : AHeap} : exec P call m fl (.loop b) t H = loopN (exec P call m fl b) m t H := by simp only [exec]
theorem ex_exit {m id : Nat} {t : Temps} {H : AHeap} : exec P call m fl (.exit id) t H = some (.exit id, t, H) := rfl

/-- The rounds from the first label on. -/
theorem rounds_srun {m l1 l2 : Nat} {b : Code} {B C : List Code} {r1 r2 : Code} (hl : l1 ≠ l2) (hB : freshC (un B) = true) (h1 : findLabel b l1 = some r1) (h2 : findLabel b l2 = some r2)
    (e1 : ∀ t H, exec P call m fl r1 t H = execS P call m fl (B ++ .label l2 :: C) t H) (e2 : ∀ t H, exec P call m fl r2 t H = execS P call m fl C t H) :
    ∀ (k : Nat) (t : Temps) (H : AHeap) (e : AExit) (t1 : Temps) (H1 : AHeap), loopN (exec P call m fl (.block xA (.seq (gsub l1 l2 (un B)) (.exit xB)))) k t H = some (e, t1, H1) →
      (e = .exit xB → ∀ e' t' H', SRun P call m fl b r2 t1 H1 e' t' H' → SRun P call m fl b r1 t H e' t' H') ∧ (e = .ret → SRun P call m fl b r1 t H .ret t1 H1) ∧ e ≠ .normal
  | 0, _, _, _, _, _, h => by cases h
  | k + 1, t, H, e, t1, H1, h => by
    simp only [loopN, ex_blk, ex_seq, ex_exit, gsub_exec _ hB, exec_un] at h
    have hr1 := e1 t H
    rw [execS_app] at hr1
    cases hx : execS P call m fl B t H with
    | none => rw [hx] at h; cases h
    | some x =>
      obtain ⟨ex, tx, Hx⟩ := x
      rw [hx] at h hr1
      cases ex with
      | normal =>
        simp only [fmap, Option.map_some, fwd] at h
        have hd : xB ≠ xA := by decide
        simp only [hd, if_false, Option.some.injEq, Prod.mk.injEq] at h
        obtain ⟨rfl, rfl, rfl⟩ := h
        refine ⟨fun _ e' t' H' hs => hs.same ?_, fun k => (by cases k), fun k => (by cases k)⟩
        rw [hr1, e2]
        rfl
      | ret =>
        simp only [fmap, Option.map_some, fwd, Option.some.injEq, Prod.mk.injEq] at h
        obtain ⟨rfl, rfl, rfl⟩ := h
        exact ⟨fun k => (by cases k), fun _ => .stop hr1 (fun l k => by cases k), fun k => (by cases k)⟩
      | goto l =>
        by_cases hl1 : l = l1
        · subst hl1
          simp only [fmap, Option.map_some, fwd, if_true] at h
          obtain ⟨g1, g2, g3⟩ := rounds_srun hl hB h1 h2 e1 e2 k tx Hx e t1 H1 h
          exact ⟨fun he e' t' H' hs => .jump hr1 h1 (g1 he e' t' H' hs), fun he => .jump hr1 h1 (g2 he), g3⟩
        · by_cases hl2 : l = l2
          · subst hl2
            have hd : xB ≠ xA := by decide
            simp only [fmap, Option.map_some, fwd, if_true, if_neg hl1, if_neg hd, Option.some.injEq, Prod.mk.injEq] at h
            obtain ⟨rfl, rfl, rfl⟩ := h
            exact ⟨fun _ e' t' H' hs => .jump hr1 h2 hs, fun k => (by cases k), fun k => (by cases k)⟩
          · simp only [fmap, Option.map_some, fwd, if_neg hl1, if_neg hl2, Option.some.injEq, Prod.mk.injEq] at h
            obtain ⟨rfl, rfl, rfl⟩ := h
            exact ⟨fun k => (by cases k), fun k => (by cases k), fun k => (by cases k)⟩
      | exit id =>
        have hn := exec_fresh _ hB t H id tx Hx (by rw [exec_un]; exact hx)
        simp only [fmap, Option.map_some, fwd, if_neg hn.1, Option.some.injEq, Prod.mk.injEq] at h
        obtain ⟨rfl, rfl, rfl⟩ := h
        exact ⟨fun k => (by cases k; exact absurd rfl hn.2), fun k => (by cases k), fun k => (by cases k)⟩

theorem rounds1_srun {m l1 : Nat} {b : Code} {B : List Code} {r1 : Code} (hB : freshC (un B) = true) (h1 : findLabel b l1 = some r1)
    (e1 : ∀ t H, exec P call m fl r1 t H = execS P call m fl B t H) :
    ∀ (k : Nat) (t : Temps) (H : AHeap) (e : AExit) (t1 : Temps) (H1 : AHeap), loopN (exec P call m fl (.block xA (.seq (gsub l1 l1 (un B)) (.exit xB)))) k t H = some (e, t1, H1) →
      (e = .exit xB → SRun P call m fl b r1 t H .normal t1 H1) ∧ (e = .ret → SRun P call m fl b r1 t H .ret t1 H1) ∧ e ≠ .normal
  | 0, _, _, _, _, _, h => by cases h
  | k + 1, t, H, e, t1, H1, h => by
    simp only [loopN, ex_blk, ex_seq, ex_exit, gsub_exec _ hB, exec_un] at h
    have hr1 := e1 t H
    cases hx : execS P call m fl B t H with
    | none => rw [hx] at h; cases h
    | some x =>
      obtain ⟨ex, tx, Hx⟩ := x
      rw [hx] at h hr1
      cases ex with
      | normal =>
        simp only [fmap, Option.map_some, fwd] at h
        have hd : xB ≠ xA := by decide
        simp only [hd, if_false, Option.some.injEq, Prod.mk.injEq] at h
        obtain ⟨rfl, rfl, rfl⟩ := h
        exact ⟨fun _ => .stop hr1 (fun l k => by cases k), fun k => (by cases k), fun k => (by cases k)⟩
      | ret =>
        simp only [fmap, Option.map_some, fwd, Option.some.injEq, Prod.mk.injEq] at h
        obtain ⟨rfl, rfl, rfl⟩ := h
        exact ⟨fun k => (by cases k), fun _ => .stop hr1 (fun l k => by cases k), fun k => (by cases k)⟩
      | goto l =>
        by_cases hl1 : l = l1
        · subst hl1
          simp only [fmap, Option.map_some, fwd, if_true] at h
          obtain ⟨g1, g2, g3⟩ := rounds1_srun hB h1 e1 k tx Hx e t1 H1 h
          exact ⟨fun he => .jump hr1 h1 (g1 he), fun he => .jump hr1 h1 (g2 he), g3⟩
        · simp only [fmap, Option.map_some, fwd, if_neg hl1, Option.some.injEq, Prod.mk.injEq] at h
          obtain ⟨rfl, rfl, rfl⟩ := h
          exact ⟨fun k => (by cases k), fun k => (by cases k), fun k => (by cases k)⟩
      | exit id =>
        have hn := exec_fresh _ hB t H id tx Hx (by rw [exec_un]; exact hx)
        simp only [fmap, Option.map_some, fwd, if_neg hn.1, Option.some.injEq, Prod.mk.injEq] at h
        obtain ⟨rfl, rfl, rfl⟩ := h
        exact ⟨fun k => (by cases k; exact absurd rfl hn.2), fun k => (by cases k), fun k => (by cases k)⟩

theorem trS1_srun {m l1 : Nat} {b b' : Code} {A r : List Code} (hc1 : cutL (spine b) = some (A, l1, r))
    (h : (if (freshC (un A) && freshC (un r) && A.all (noLab l1)) = true then some (Code.seq (.block xB (.seq (gsub l1 l1 (un A)) (.loop (.block xA (.seq (gsub l1 l1 (un r)) (.exit xB)))))) .skip) else none) = some b')
    {t : Temps} {H : AHeap} {e : AExit} {t' : Temps} {H' : AHeap} (hx : exec P call m fl b' t H = some (e, t', H')) (he : e = .normal ∨ e = .ret) :
    SRun P call m fl b b t H e t' H' := by
  split at h
  case isFalse => cases h
  rename_i hk
  simp only [Bool.and_eq_true] at hk
  obtain ⟨⟨hA, hB⟩, hA1⟩ := hk
  cases h
  have hsp : spine b = A ++ .label l1 :: r := cutL_eq hc1
  obtain ⟨r1, f1, e1⟩ := find_spine (P := P) (call := call) (fl := fl) (m := m) hsp hA1
  have hng : ∀ l, e ≠ .goto l := fun l k => by rcases he with h | h <;> rw [h] at k <;> cases k
  have hb0 := exec_spine (P := P) (call := call) (fl := fl) (m := m) b t H
  rw [hsp, execS_app] at hb0
  have skp : ∀ t1 H1, exec P call m fl .skip t1 H1 = some (.normal, t1, H1) := fun _ _ => rfl
  simp only [ex_seq, ex_blk, ex_loop, gsub_exec _ hA, exec_un, skp] at hx
  cases hxa : execS P call m fl A t H with
  | none => rw [hxa] at hx; cases hx
  | some x =>
    obtain ⟨ea, ta, Ha⟩ := x
    rw [hxa] at hx hb0
    cases ea with
    | normal =>
      have hb1 : exec P call m fl b t H = exec P call m fl r1 ta Ha := by
        rw [hb0, e1]
        rfl
      simp only [fmap, Option.map_some, fwd] at hx
      cases hlp : loopN (exec P call m fl (.block xA (.seq (gsub l1 l1 (un r)) (.exit xB)))) m ta Ha with
      | none => rw [hlp] at hx; cases hx
      | some y =>
        obtain ⟨el, tl, Hl⟩ := y
        obtain ⟨g1, g2, g3⟩ := rounds1_srun hB f1 e1 m ta Ha el tl Hl hlp
        rw [hlp] at hx
        cases el with
        | normal => exact absurd rfl g3
        | ret =>
          simp only [Option.some.injEq, Prod.mk.injEq] at hx
          obtain ⟨rfl, rfl, rfl⟩ := hx
          exact (g2 rfl).same hb1
        | goto l =>
          simp only [Option.some.injEq, Prod.mk.injEq] at hx
          exact absurd hx.1.symm (hng l)
        | exit id =>
          by_cases hid : id = xB
          · subst hid
            simp only [if_true, Option.some.injEq, Prod.mk.injEq] at hx
            obtain ⟨rfl, rfl, rfl⟩ := hx
            exact (g1 rfl).same hb1
          · simp only [if_neg hid, Option.some.injEq, Prod.mk.injEq] at hx
            rcases he with h | h <;> rw [h] at hx <;> cases hx.1
    | ret =>
      simp only [fmap, Option.map_some, fwd, Option.some.injEq, Prod.mk.injEq] at hx
      obtain ⟨rfl, rfl, rfl⟩ := hx
      exact .stop hb0 hng
    | exit id =>
      have hn := exec_fresh _ hA t H id ta Ha (by rw [exec_un]; exact hxa)
      simp only [fmap, Option.map_some, fwd, if_neg hn.2, Option.some.injEq, Prod.mk.injEq] at hx
      rcases he with h | h <;> rw [h] at hx <;> cases hx.1
    | goto l =>
      by_cases hl1 : l = l1
      · subst hl1
        have hd : xA ≠ xB := by decide
        simp only [fmap, Option.map_some, fwd, if_true, if_neg hd, Option.some.injEq, Prod.mk.injEq] at hx
        rcases he with h | h <;> rw [h] at hx <;> cases hx.1
      · simp only [fmap, Option.map_some, fwd, if_neg hl1, Option.some.injEq, Prod.mk.injEq] at hx
        exact absurd hx.1.symm (hng l)

theorem trS_srun {m : Nat} {b b' : Code} (h : trS b = some b') {t : Temps} {H : AHeap} {e : AExit} {t' : Temps} {H' : AHeap} (hx : exec P call m fl b' t H = some (e, t', H')) (he : e = .normal ∨ e = .ret) :
    SRun P call m fl b b t H e t' H' := by
  unfold trS at h
  split at h
  case h_2 => cases h
  rename_i A l1 r hc1
  split at h
  case h_2 => exact trS1_srun hc1 h hx he
  rename_i B l2 C hc2
  split at h
  case isFalse => cases h
  rename_i hk
  simp only [Bool.and_eq_true] at hk
  obtain ⟨⟨⟨⟨⟨hl, hA⟩, hB⟩, hA1⟩, hA2⟩, hB2⟩ := hk
  cases h
  have hl := beq_no hl
  have hsp : spine b = A ++ .label l1 :: (B ++ .label l2 :: C) := by rw [cutL_eq hc1, cutL_eq hc2]
  obtain ⟨r1, f1, e1⟩ := find_spine (P := P) (call := call) (fl := fl) (m := m) hsp hA1
  obtain ⟨r2, f2, e2⟩ := find_spine (P := P) (call := call) (fl := fl) (m := m) (l := l2) (c := b) (p := A ++ .label l1 :: B) (q := C) (by rw [hsp]; simp) (by
    rw [List.all_append, hA2, List.all_cons, hB2]
    have : noLab l2 (.label l1) = true := by simp [noLab, findLabel, hl]
    rw [this]; rfl)
  have hng : ∀ l, e ≠ .goto l := fun l k => by rcases he with h | h <;> rw [h] at k <;> cases k
  have hb0 := exec_spine (P := P) (call := call) (fl := fl) (m := m) b t H
  rw [hsp, execS_app] at hb0
  have fin : ∀ t1 H1, exec P call m fl (un C) t1 H1 = some (e, t', H') → SRun P call m fl b r2 t1 H1 e t' H' := fun t1 H1 k => .stop ((e2 t1 H1).trans ((exec_un C t1 H1).symm.trans k)) hng
  simp only [ex_seq, ex_blk, ex_loop, gsub_exec _ hA, exec_un] at hx
  cases hxa : execS P call m fl A t H with
  | none => rw [hxa] at hx; cases hx
  | some x =>
    obtain ⟨ea, ta, Ha⟩ := x
    rw [hxa] at hx hb0
    cases ea with
    | normal =>
      have hb1 : exec P call m fl b t H = exec P call m fl r1 ta Ha := by
        rw [hb0, e1]
        rfl
      simp only [fmap, Option.map_some, fwd] at hx
      cases hlp : loopN (exec P call m fl (.block xA (.seq (gsub l1 l2 (un B)) (.exit xB)))) m ta Ha with
      | none => rw [hlp] at hx; cases hx
      | some y =>
        obtain ⟨el, tl, Hl⟩ := y
        obtain ⟨g1, g2, g3⟩ := rounds_srun hl hB f1 f2 e1 e2 m ta Ha el tl Hl hlp
        rw [hlp] at hx
        cases el with
        | normal => exact absurd rfl g3
        | ret =>
          simp only [Option.some.injEq, Prod.mk.injEq] at hx
          obtain ⟨rfl, rfl, rfl⟩ := hx
          exact (g2 rfl).same hb1
        | goto l =>
          simp only [Option.some.injEq, Prod.mk.injEq] at hx
          exact absurd hx.1.symm (hng l)
        | exit id =>
          by_cases hid : id = xB
          · subst hid
            simp only [if_true] at hx
            exact (g1 rfl _ _ _ (fin tl Hl (by rw [exec_un]; exact hx))).same hb1
          · simp only [if_neg hid, Option.some.injEq, Prod.mk.injEq] at hx
            rcases he with h | h <;> rw [h] at hx <;> cases hx.1
    | ret =>
      simp only [fmap, Option.map_some, fwd, Option.some.injEq, Prod.mk.injEq] at hx
      obtain ⟨rfl, rfl, rfl⟩ := hx
      exact .stop hb0 hng
    | exit id =>
      have hn := exec_fresh _ hA t H id ta Ha (by rw [exec_un]; exact hxa)
      simp only [fmap, Option.map_some, fwd, if_neg hn.2, Option.some.injEq, Prod.mk.injEq] at hx
      rcases he with h | h <;> rw [h] at hx <;> cases hx.1
    | goto l =>
      by_cases hl1 : l = l1
      · subst hl1
        have hd : xA ≠ xB := by decide
        simp only [fmap, Option.map_some, fwd, if_true, if_neg hd, Option.some.injEq, Prod.mk.injEq] at hx
        rcases he with h | h <;> rw [h] at hx <;> cases hx.1
      · by_cases hl2 : l = l2
        · subst hl2
          simp only [fmap, Option.map_some, fwd, if_neg hl1, if_true] at hx
          exact .jump hb0 f2 (fin ta Ha (by rw [exec_un]; exact hx))
        · simp only [fmap, Option.map_some, fwd, if_neg hl1, if_neg hl2, Option.some.injEq, Prod.mk.injEq] at hx
          exact absurd hx.1.symm (hng l)

theorem gsub_ok {l1 l2 : Nat} : ∀ (c : Code), codeOk n (gsub l1 l2 c) = codeOk n c
  | .goto l => by
    simp only [gsub]
    split
    · rfl
    · split <;> rfl
  | .seq a b => by simp only [gsub, codeOk, gsub_ok a, gsub_ok b]
  | .cond c a b => by simp only [gsub, codeOk, gsub_ok a, gsub_ok b]
  | .block id b => by simp only [gsub, codeOk, gsub_ok b]
  | .loop b => by simp only [gsub, codeOk, gsub_ok b]
  | .skip => rfl
  | .region .. => rfl
  | .rangeFunc .. => rfl
  | .exit .. => rfl
  | .scope .. => rfl
  | .label .. => rfl
  | .ret => rfl
  | .refuse .. => rfl

theorem un_ok : ∀ (l : List Code), codeOk n (un l) = l.all (codeOk n)
  | [] => rfl
  | c :: r => by simp only [un, codeOk, List.all_cons, un_ok r]

theorem spine_ok : ∀ (c : Code), (spine c).all (codeOk n) = codeOk n c
  | .seq a b => by simp only [spine, codeOk, List.all_cons, spine_ok b]
  | .cond c a b => by simp [spine]
  | .block id b => by simp [spine]
  | .loop b => by simp [spine]
  | .skip => rfl
  | .region .. => by simp [spine]
  | .rangeFunc .. => rfl
  | .exit .. => rfl
  | .scope .. => rfl
  | .label .. => rfl
  | .goto .. => rfl
  | .ret => rfl
  | .refuse .. => rfl

theorem trS_ok {b b' : Code} (h : trS b = some b') (ho : codeOk n b' = true) : codeOk n b = true := by
  unfold trS at h
  split at h
  case h_2 => cases h
  rename_i A l1 r hc1
  split at h
  case h_2 =>
    split at h
    case isFalse => cases h
    cases h
    simp only [codeOk, gsub_ok, un_ok, Bool.and_eq_true] at ho
    rw [← spine_ok, cutL_eq hc1]
    simp only [List.all_append, List.all_cons, codeOk, Bool.and_eq_true, Bool.true_and]
    exact ⟨ho.1.1, ho.1.2.1⟩
  rename_i B l2 C hc2
  split at h
  case isFalse => cases h
  cases h
  simp only [codeOk, gsub_ok, un_ok, Bool.and_eq_true] at ho
  rw [← spine_ok, cutL_eq hc1, cutL_eq hc2]
  simp only [List.all_append, List.all_cons, codeOk, Bool.and_eq_true, Bool.true_and]
  exact ⟨ho.1.1, ho.1.2.1, ho.2⟩

/-- A function's text, as the machine takes it. -/
theorem unsc_sound (hcs : CallerSound base w0 P call) (hck : CallerKept call) (hm : P.follows .mixedOrders = true) (hbf : base ≤ fl) (m : Nat) (c : Code) (hok : codeOk n (unsc c) = true) (t : Temps) (H : AHeap) (e : AExit) (t' : Temps) (H' : AHeap)
    (ρ : Ren) (w : World) (a : Act) (Q : Exit → Act → World → Prop) (S : Sim base w0 All ρ H w) (hfl : fl ≤ H.length) (hfr : ∀ id, H.length ≤ id → id < H'.length → ρ id = none) (hT : TRel n ρ t a)
    (h : exec P call m fl (unsc c) t H = some (e, t', H')) (he : e = .normal ∨ e = .ret) (hQ : Out base w0 fl n ρ H w e t' H' Q) : c.wp P Q a w := by
  have plain : unsc c = c → c.wp P Q a w := fun k => by
    rw [k] at hok h
    exact exec_sound hcs hck hm hbf m c hok t H e t' H' ρ w a Q S hfl hfr hT h hQ
  cases c with
  | seq x y =>
    cases y with
    | scope b =>
      cases hb : trS b with
      | none => exact plain (by simp only [unsc, hb])
      | some b' =>
        simp only [unsc, hb] at hok h
        simp only [codeOk, Bool.and_eq_true] at hok
        simp only [exec] at h
        refine wp_seq ?_
        split at h
        · rename_i t1 H1 hx
          have k1 := exec_kept hck _ _ _ _ _ _ hx
          have k2 := exec_kept hck _ _ _ _ _ _ h
          refine exec_sound hcs hck hm hbf m x hok.1 t H _ t1 H1 ρ w a _ S hfl (fun id h1 h2 => hfr id h1 (Nat.lt_of_lt_of_le h2 k2.len)) hT hx ?_
          intro e1 ρ1 a1 w1 hee hT1 hs
          cases hee
          refine InS.scope (srun_sound hcs hck hm hbf (trS_ok hb hok.2) (trS_srun hb h he) (trS_ok hb hok.2) ρ1 w1 a1 Q hs.simAll (Nat.le_trans hfl k1.len) (hs.fresh hfr) hT1 ?_)
          intro e2 ρ2 a2 w2 he2 hT2 hs2
          exact hQ e2 ρ2 a2 w2 he2 hT2 (hs.andThen hs2 hfr)
        · rename_i hne
          refine exec_sound hcs hck hm hbf m x hok.1 t H e t' H' ρ w a _ S hfl hfr hT h ?_
          intro e1 ρ1 a1 w1 hee hT1 hs
          cases hee with
          | normal => exact absurd h (hne _ _)
          | exit id => exact hQ _ ρ1 a1 w1 (.exit id) hT1 hs
          | goto l => exact hQ _ ρ1 a1 w1 (.goto l) hT1 hs
          | ret => exact hQ _ ρ1 a1 w1 .ret hT1 hs
    | _ => exact plain rfl
  | _ => exact plain rfl

theorem callN_parts {N : Nat} {fl : Nat} {f : FuncId} {args : Array Value} {H H' : AHeap} {v : Value} (h : callN P (N + 1) fl f args H = some (v, H')) :
    (∃ fn c e t' vs, P.funcs[f]? = some fn ∧ bod fn = some c ∧ funcOk fn c = true ∧ args.size ≤ fn.ntmps ∧ exec P (callN P N) N fl c (start args) H = some (e, t', H') ∧ (e = .normal ∨ e = .ret) ∧
      resultAll P t' H' fn.results.toList = some vs ∧ v = wrap1 vs) ∨ extF P fl f args H = some (v, H') := by
  simp only [callN] at h
  cases hf : P.funcs[f]? with
  | none => simp [hf] at h
  | some fn =>
    simp only [hf] at h
    cases hb : bod fn with
    | none => simp [hb] at h
    | some c =>
      simp only [hb] at h
      split at h
      · rename_i hok
        simp only [Bool.and_eq_true, decide_eq_true_eq] at hok
        split at h
        · rename_i t1 H1 hx
          cases hv : resultAll P t1 H1 fn.results.toList with
          | none => simp [hv] at h
          | some vs =>
            simp [hv] at h
            obtain ⟨rfl, rfl⟩ := h
            exact .inl ⟨fn, c, _, t1, vs, rfl, hb, okF_ok hok.1, hok.2, hx, .inl rfl, hv, rfl⟩
        · rename_i t1 H1 hx
          cases hv : resultAll P t1 H1 fn.results.toList with
          | none => simp [hv] at h
          | some vs =>
            simp [hv] at h
            obtain ⟨rfl, rfl⟩ := h
            exact .inl ⟨fn, c, _, t1, vs, rfl, hb, okF_ok hok.1, hok.2, hx, .inr rfl, hv, rfl⟩
        · cases h
      · exact .inr h

theorem callN_kept (P : Program) : ∀ N, CallerKept (callN P N)
  | 0, _, _, _, _, _, _, h => by cases h
  | N + 1, fl, f, args, H, v, H', h => by
    rcases callN_parts h with ⟨fn, c, e, t', vs, _, _, _, _, hx, _⟩ | h
    · exact exec_kept (callN_kept P N) _ _ _ _ _ _ hx
    · exact extF_kept P _ _ _ _ _ _ h

theorem TRel.start {n : Nat} {ρ : Ren} {args cargs : Array Value} (h : LRel ρ args.toList cargs.toList) (hn : args.size ≤ n) :
    TRel n ρ (start args) { tmps := cargs ++ Array.replicate (n - cargs.size) undef, defers := [] } := by
  have hsz : cargs.size = args.size := by have := h.1; simpa using this.symm
  refine ⟨by simp; omega, rfl, fun d hd => ?_⟩
  have := h.getD (VRel.undef ρ) d
  show VRel ρ (args.getD d undef) _
  simp only [Array.getD_eq_getD_getElem?, List.getD, Array.getElem?_toList] at this ⊢
  by_cases hc : d < cargs.size
  · rw [Array.getElem?_append_left hc]; exact this
  · rw [Array.getElem?_append_right (by omega), Array.getElem?_replicate, if_pos (by omega)]
    rw [Array.getElem?_eq_none (by omega)]
    exact VRel.undef ρ

def resOne (tmps : Array Value) : ResultVar → Sem Value
  | .tmp t => pure (tmps.getD t undef)
  | .cell x ty => do loadVar ty (← asAddr (tmps.getD x undef))

theorem resultAll_sound {n : Nat} {ρ : Ren} {t : Temps} {H : AHeap} {w : World} {a : Act} (S : Sim base w0 All ρ H w) (hT : TRel n ρ t a) : ∀ (rs : List ResultVar) (vs : List Value),
    (rs.all fun | .tmp d => decide (d < n) | .cell d _ => decide (d < n)) = true → resultAll P t H rs = some vs →
    ∃ vs', (rs.mapM (resOne a.tmps)).run P w = .ok vs' w ∧ LRel ρ vs vs'
  | [], vs, _, h => by cases h; exact ⟨[], by simp, LRel.nil ρ⟩
  | r :: rs, vs, hok, h => by
    simp only [List.all_cons, Bool.and_eq_true] at hok
    simp only [resultAll] at h
    cases h1 : resultOne P t H r with
    | none => simp [h1] at h
    | some v =>
      cases h2 : resultAll P t H rs with
      | none => simp [h1, h2] at h
      | some us =>
        simp [h1, h2] at h
        subst h
        obtain ⟨us', g1, g2⟩ := resultAll_sound S hT rs us hok.2 h2
        cases r with
        | tmp d =>
          have hd : d < n := by simpa using hok.1
          simp only [resultOne, Option.some.injEq] at h1
          subst h1
          refine ⟨a.tmps.getD d undef :: us', ?_, LRel.cons (hT.rel d hd) g2⟩
          rw [List.mapM_cons]
          simp only [resOne, Sem.run_bind, Sem.run_pure, Result.andThen_ok, g1]
        | cell x ty =>
          have hd : x < n := by simpa using hok.1
          have hx := hT.rel x hd
          simp only [resultOne] at h1
          split at h1
          · rename_i p hp
            obtain ⟨b, o, s⟩ := p
            rw [hp] at hx
            generalize hu : a.tmps.getD x undef = u at hx
            obtain ⟨rfl, L, hL, rfl⟩ := ptr_inv hx
            obtain ⟨v', r1, r2⟩ := run_loadVar (P := P) S trivial hL h1
            refine ⟨v' :: us', ?_, LRel.cons r2 g2⟩
            rw [List.mapM_cons]
            have ha : (asAddr (a.tmps.getD x undef)).run P w = .ok ⟨L.blk, L.off + o, none⟩ w := by rw [hu]; rfl
            simp only [resOne, Sem.run_bind, ha, Result.andThen_ok, r1, g1, Sem.run_pure]
          · cases h1

theorem wrap1_rel {ρ : Ren} {vs vs' : List Value} (h : LRel ρ vs vs') : VRel ρ (wrap1 vs) (wrap1 vs') := by
  cases vs with
  | nil => rw [h.inv_nil]; exact .tuple _ _ rfl fun i v v' hv => by simp at hv
  | cons v l =>
    obtain ⟨y, ys, rfl, hv, ht⟩ := h.inv
    cases l with
    | nil => rw [ht.inv_nil]; exact hv
    | cons u l =>
      obtain ⟨z, zs, rfl, hu, hs⟩ := ht.inv
      have hl := h.1
      exact .tuple _ _ (by simpa using hl) fun i a c ha hc => h.2 i a c (by simpa using ha) (by simpa using hc)

theorem results_run {fn : Func} {tmps : Array Value} {w : World} {vs' : List Value}
    (h : (fn.results.toList.mapM (resOne tmps)).run P w = .ok vs' w) :
    (results fn tmps).run P w = .ok (wrap1 vs') w := by
  have he : results fn tmps = (do
      let vs ← fn.results.mapM (resOne tmps)
      pure (if h : vs.size = 1 then vs[0] else .tuple vs)) := by
    unfold results
    congr 1
  rw [he, Array.mapM_eq_mapM_toList]
  simp only [Sem.run_bind, Sem.run_map]
  rw [h]
  simp only [Result.andThen_ok, Sem.run_pure]
  congr 1
  cases vs' with
  | nil => rfl
  | cons v l => cases l <;> rfl

theorem callN_sound (P : Program) (hX : CallerSound base w0 P (extF P)) (hm : P.follows .mixedOrders = true) : ∀ N, CallerSound base w0 P (callN P N)
  | 0, _, _, _, _, _, _, _, _, _, _, _, _, _, _, h => by cases h
  | N + 1, fl, f, args, cargs, ρ, H, H', w, v, S, hbf, hfl, hfr, hargs, h => by
    rcases callN_parts h with ⟨fn, c, e, t', vs, hf, hb, hok, hsz, hx, he, hr, rfl⟩ | h
    case inr => exact hX fl f args cargs ρ H H' w v S hbf hfl hfr hargs h
    simp only [funcOk, Bool.and_eq_true] at hok
    have hcsz : cargs.size = args.size := by have := hargs.1; simpa using this.symm
    obtain ⟨c0, hb0, rfl⟩ : ∃ c0, fn.body = some c0 ∧ unsc c0 = c := by
      unfold bod at hb
      exact Option.map_eq_some_iff.1 hb
    refine calls_of_wp hf hb0 ?_
    refine unsc_sound (n := fn.ntmps) (w0 := w0) (callN_sound P hX hm N) (callN_kept P N) hm hbf N c0 hok.1.1 (start args) H e t' H' ρ w _ _ S hfl hfr (TRel.start hargs hsz) hx he ?_
    intro e' ρ' a' w' hee hT hs
    obtain ⟨vs', g1, g2⟩ := resultAll_sound (P := P) hs.simAll hT fn.results.toList vs hok.2 hr
    have hres := results_run g1
    rcases he with rfl | rfl
    · cases hee
      exact ⟨hT.defers, _, hres, _, ρ', rfl, wrap1_rel g2, hs⟩
    · cases hee
      exact ⟨hT.defers, _, hres, _, ρ', rfl, wrap1_rel g2, hs⟩

theorem callG_parts {xb : FuncId → Bool} {xf : Caller} {N : Nat} {fl : Nat} {f : FuncId} {args : Array Value} {H H' : AHeap} {v : Value} (h : callG xb xf P (N + 1) fl f args H = some (v, H')) :
    (∃ fn c e t' vs, P.funcs[f]? = some fn ∧ bod fn = some c ∧ funcOk fn c = true ∧ args.size ≤ fn.ntmps ∧ exec P (callG xb xf P N) N fl c (start args) H = some (e, t', H') ∧ (e = .normal ∨ e = .ret) ∧
      resultAll P t' H' fn.results.toList = some vs ∧ v = wrap1 vs) ∨ xf fl f args H = some (v, H') := by
  simp only [callG] at h
  cases hf : P.funcs[f]? with
  | none => simp [hf] at h
  | some fn =>
    simp only [hf] at h
    cases hb : bod fn with
    | none => simp [hb] at h
    | some c =>
      simp only [hb] at h
      split at h
      · rename_i hok
        simp only [Bool.and_eq_true, decide_eq_true_eq] at hok
        split at h
        · rename_i t1 H1 hx
          cases hv : resultAll P t1 H1 fn.results.toList with
          | none => simp [hv] at h
          | some vs =>
            simp [hv] at h
            obtain ⟨rfl, rfl⟩ := h
            exact .inl ⟨fn, c, _, t1, vs, rfl, hb, okG_ok hok.1, hok.2, hx, .inl rfl, hv, rfl⟩
        · rename_i t1 H1 hx
          cases hv : resultAll P t1 H1 fn.results.toList with
          | none => simp [hv] at h
          | some vs =>
            simp [hv] at h
            obtain ⟨rfl, rfl⟩ := h
            exact .inl ⟨fn, c, _, t1, vs, rfl, hb, okG_ok hok.1, hok.2, hx, .inr rfl, hv, rfl⟩
        · cases h
      · exact .inr h

theorem callG_kept (xb : FuncId → Bool) {xf : Caller} (hxk : CallerKept xf) (P : Program) : ∀ N, CallerKept (callG xb xf P N)
  | 0, _, _, _, _, _, _, h => by cases h
  | N + 1, fl, f, args, H, v, H', h => by
    rcases callG_parts h with ⟨fn, c, e, t', vs, _, _, _, _, hx, _⟩ | h
    · exact exec_kept (callG_kept xb hxk P N) _ _ _ _ _ _ hx
    · exact hxk _ _ _ _ _ _ h

theorem callG_sound (xb : FuncId → Bool) {xf : Caller} (hxk : CallerKept xf) (P : Program) (hX : CallerSound base w0 P xf) (hm : P.follows .mixedOrders = true) : ∀ N, CallerSound base w0 P (callG xb xf P N)
  | 0, _, _, _, _, _, _, _, _, _, _, _, _, _, _, h => by cases h
  | N + 1, fl, f, args, cargs, ρ, H, H', w, v, S, hbf, hfl, hfr, hargs, h => by
    rcases callG_parts h with ⟨fn, c, e, t', vs, hf, hb, hok, hsz, hx, he, hr, rfl⟩ | h
    case inr => exact hX fl f args cargs ρ H H' w v S hbf hfl hfr hargs h
    simp only [funcOk, Bool.and_eq_true] at hok
    have hcsz : cargs.size = args.size := by have := hargs.1; simpa using this.symm
    obtain ⟨c0, hb0, rfl⟩ : ∃ c0, fn.body = some c0 ∧ unsc c0 = c := by
      unfold bod at hb
      exact Option.map_eq_some_iff.1 hb
    refine calls_of_wp hf hb0 ?_
    refine unsc_sound (n := fn.ntmps) (w0 := w0) (callG_sound xb hxk P hX hm N) (callG_kept xb hxk P N) hm hbf N c0 hok.1.1 (start args) H e t' H' ρ w _ _ S hfl hfr (TRel.start hargs hsz) hx he ?_
    intro e' ρ' a' w' hee hT hs
    obtain ⟨vs', g1, g2⟩ := resultAll_sound (P := P) hs.simAll hT fn.results.toList vs hok.2 hr
    have hres := results_run g1
    rcases he with rfl | rfl
    · cases hee
      exact ⟨hT.defers, _, hres, _, ρ', rfl, wrap1_rel g2, hs⟩
    · cases hee
      exact ⟨hT.defers, _, hres, _, ρ', rfl, wrap1_rel g2, hs⟩

end
end Go.Mach
