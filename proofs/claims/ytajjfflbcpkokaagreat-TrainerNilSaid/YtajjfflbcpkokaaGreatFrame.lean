/- What a text does hangs on its own slots alone; other slots stay as they are. No condition. -/
import Derived.Test.YtajjfflbcpkokaaGreatW
import Derived.Test.YtajjfflbcpkokaaGreatTrace
namespace Go.Mach
set_option linter.unusedVariables false
set_option linter.unusedSimpArgs false

theorem prim_congr {P : Program} {fl : Nat} {op : Op} {ev ev' : Operand → Value} {H : AHeap} (h : ∀ x ∈ op.operands, ev x = ev' x) : prim P fl op ev H = prim P fl op ev' H := by
  have parts : ∀ ps : Array (Nat × Operand), (∀ x ∈ (ps.toList.map (·.2)).toArray, ev x = ev' x) → (ps.toList.map fun p => (p.1, ev p.2)) = ps.toList.map fun p => (p.1, ev' p.2) := by
    intro ps hp
    apply List.map_congr_left
    intro p hm
    rw [hp p.2 (List.mem_toArray.2 (List.mem_map_of_mem hm))]
  have opt : ∀ o : Option Operand, (∀ x ∈ o, ev x = ev' x) → o.map ev = o.map ev' := by
    intro o ho
    cases o with
    | none => rfl
    | some x => simp only [Option.map_some, ho x rfl]
  cases op <;> try rfl
  case move x => simp only [prim, h x (by simp [Op.operands])]
  case assign x => simp only [prim, h x (by simp [Op.operands])]
  case pick c a b => simp only [prim, h c (by simp [Op.operands]), h a (by simp [Op.operands]), h b (by simp [Op.operands])]
  case box t x => simp only [prim, h x (by simp [Op.operands])]
  case build t ps => simp only [prim, parts ps (fun x hx => h x (by simpa [Op.operands] using hx))]
  case buildSlice t n ps => simp only [prim, parts ps (fun x hx => h x (by simpa [Op.operands] using hx))]
  case load t a => simp only [prim, h a (by simp [Op.operands])]
  case store t a x => simp only [prim, h a (by simp [Op.operands]), h x (by simp [Op.operands])]
  case nilCheck x => simp only [prim, h x (by simp [Op.operands])]
  case binOp o t x y t2 => simp only [prim, h x (by simp [Op.operands]), h y (by simp [Op.operands])]
  case unOp o t x => simp only [prim, h x (by simp [Op.operands])]
  case convert s d x => simp only [prim, h x (by simp [Op.operands])]
  case makeFunc fn first caps =>
    have e1 : first.map ev = first.map ev' := Array.map_congr_left fun x hx => h x (by simp [Op.operands, hx])
    have e2 : caps.map ev = caps.map ev' := Array.map_congr_left fun x hx => h x (by simp [Op.operands, hx])
    simp only [prim, e1, e2]
  case makeSlice t l c => simp only [prim, h l (by simp [Op.operands]), h c (by simp [Op.operands])]
  case slice t x lo hi mx =>
    simp only [prim, h x (by simp [Op.operands]), opt lo (fun y hy => h y (by cases hy; simp [Op.operands])), opt hi (fun y hy => h y (by cases hy; simp [Op.operands])), opt mx (fun y hy => h y (by cases hy; simp [Op.operands]))]
  case fieldAddr s x f => simp only [prim, h x (by simp [Op.operands])]
  case field s x f => simp only [prim, h x (by simp [Op.operands])]
  case indexAddr t x ix => simp only [prim, h x (by simp [Op.operands]), h ix (by simp [Op.operands])]
  case index t x ix => simp only [prim, h x (by simp [Op.operands]), h ix (by simp [Op.operands])]
  case extract x i => simp only [prim, h x (by simp [Op.operands])]
  case sliceToArrayPointer t x => simp only [prim, h x (by simp [Op.operands])]
  case makeInterface t x => simp only [prim, h x (by simp [Op.operands])]
  case call c =>
    have e1 : c.args.map ev = c.args.map ev' := Array.map_congr_left fun x hx => h x (by simp [Op.operands, Call.operands, hx])
    have e2 : ∀ f, c.callee = .value f → ev f = ev' f := fun f hf => h f (by simp [Op.operands, Call.operands, hf])
    simp only [prim]
    unfold callA
    simp only [e1]
    cases hc : c.callee with
    | value f => simp only [e2 f hc]
    | _ => rfl

/-- The slots below n are alike. -/
def Agree (n : Nat) (t t2 : Temps) : Prop := ∀ i, i < n → t i = t2 i
/-- .. the others are as they were. -/
def Above (n : Nat) (t t2 : Temps) : Prop := ∀ i, n ≤ i → t2 i = t i

theorem Agree.eval {n : Nat} {t t2 : Temps} (h : Agree n t t2) {x : Operand} (hx : operandOk n x = true) : eval t x = eval t2 x := by
  cases x with
  | tmp i => exact h i (by simpa [operandOk] using hx)
  | _ => rfl
theorem Agree.put {n : Nat} {t t2 : Temps} (h : Agree n t t2) (d : Option Tmp) (v : Value) : Agree n (tput t d v) (tput t2 d v) := by
  intro i hi
  cases d with
  | none => exact h i hi
  | some x =>
    show tset t x v i = tset t2 x v i
    unfold tset
    split
    · rfl
    · exact h i hi
theorem Above.put {n : Nat} {t t2 : Temps} (h : Above n t t2) {d : Option Tmp} (hd : d.all (· < n) = true) (v : Value) : Above n t (tput t2 d v) := by
  intro i hi
  cases d with
  | none => exact h i hi
  | some x =>
    have : x < n := by simpa using hd
    show tset t2 x v i = t i
    unfold tset
    rw [if_neg (fun e => by subst e; exact absurd this (Nat.not_lt.2 hi))]
    exact h i hi

section
variable {P : Program} {call : Caller} {n : Nat}

theorem opOk_parts {ops : Array Oper} {o : Oper} (h : opOk n ops o = true) : (∀ x ∈ o.op.operands, operandOk n x = true) ∧ o.dst.all (· < n) = true ∧ (match o.guard with
    | some (j, _) => ((ops[j]?).bind (·.dst)).all (· < n)
    | none => true) = true := by
  unfold opOk at h
  simp only [Bool.and_eq_true, List.all_eq_true] at h
  exact ⟨fun x hx => h.1.1 x (by simpa using hx), h.1.2, h.2⟩

theorem wanted_frame {ops : Array Oper} {o : Oper} {t t2 : Temps} (ha : Agree n t t2) (ho : opOk n ops o = true) : wantedA ops t o = wantedA ops t2 o := by
  have hg := (opOk_parts ho).2.2
  unfold wantedA
  split
  · rfl
  · rename_i j w e
    rw [e] at hg
    split
    · rename_i d hd
      simp only [hd, Option.all_some, decide_eq_true_eq] at hg
      rw [ha d hg]
    · rfl

theorem stepOp_frame {fl flc : Nat} {ops : Array Oper} {o : Oper} {t t0 t2 : Temps} {H : AHeap} {t2' : Temps} {H' : AHeap} (ha : Agree n t t2) (hb : Above n t0 t2) (ho : opOk n ops o = true) (h : stepOp P call fl flc ops o t2 H = some (t2', H')) :
    ∃ t', stepOp P call fl flc ops o t H = some (t', H') ∧ Agree n t' t2' ∧ Above n t0 t2' := by
  obtain ⟨h1, h2, h3⟩ := opOk_parts ho
  have hw := wanted_frame ha ho
  have hp : prim P fl o.op (eval t) H = prim P fl o.op (eval t2) H := prim_congr fun x hx => ha.eval (h1 x hx)
  unfold stepOp at h ⊢
  rw [hw]
  by_cases hw2 : wantedA ops t2 o = true
  · rw [if_pos hw2] at h ⊢
    rw [hp]
    cases hpr : prim P fl o.op (eval t2) H with
    | none => rw [hpr] at h; cases h
    | some r =>
      obtain ⟨a, H1⟩ := r
      rw [hpr] at h
      cases a with
      | value v => cases h; exact ⟨_, rfl, ha.put _ _, hb.put h2 _⟩
      | skip => cases h; exact ⟨_, rfl, ha.put _ _, hb.put h2 _⟩
      | enter f args =>
        simp only at h ⊢
        cases hc : call flc f args H1 with
        | none => rw [hc] at h; cases h
        | some q =>
          obtain ⟨v, H2⟩ := q
          rw [hc] at h
          cases h
          exact ⟨_, rfl, ha.put _ _, hb.put h2 _⟩
  · rw [if_neg hw2] at h ⊢
    cases h
    exact ⟨_, rfl, ha.put _ _, hb.put h2 _⟩

theorem runOps_frame {fl : Nat} {ops : Array Oper} : ∀ {l : List Oper} {t t0 t2 : Temps} {H : AHeap} {t2' : Temps} {H' : AHeap}, (∀ o ∈ l, opOk n ops o = true) → Agree n t t2 → Above n t0 t2 → runOps P call fl ops l t2 H = some (t2', H') →
    ∃ t', runOps P call fl ops l t H = some (t', H') ∧ Agree n t' t2' ∧ Above n t0 t2'
  | [], t, t0, t2, H, t2', H', ho, ha, hb, h => by cases h; exact ⟨t, rfl, ha, hb⟩
  | o :: l, t, t0, t2, H, t2', H', ho, ha, hb, h => by
    simp only [runOps] at h ⊢
    cases hs : stepOp P call fl fl ops o t2 H with
    | none => rw [hs] at h; cases h
    | some r =>
      obtain ⟨t3, H3⟩ := r
      rw [hs] at h
      obtain ⟨t4, k1, k2, k3⟩ := stepOp_frame ha hb (ho o List.mem_cons_self) hs
      rw [k1]
      exact runOps_frame (fun o hm => ho o (List.mem_cons_of_mem _ hm)) k2 k3 h

theorem runDrawn_frame {fl : Nat} {ops : Array Oper} {b : Array Nat} : ∀ {l : List Oper} {i : Nat} {t t0 t2 : Temps} {H : AHeap} {t2' : Temps} {H' : AHeap}, (∀ o ∈ l, opOk n ops o = true) → Agree n t t2 → Above n t0 t2 → runDrawn P call fl ops b i l t2 H = some (t2', H') →
    ∃ t', runDrawn P call fl ops b i l t H = some (t', H') ∧ Agree n t' t2' ∧ Above n t0 t2'
  | [], i, t, t0, t2, H, t2', H', ho, ha, hb, h => by cases h; exact ⟨t, rfl, ha, hb⟩
  | o :: l, i, t, t0, t2, H, t2', H', ho, ha, hb, h => by
    simp only [runDrawn] at h ⊢
    cases hs : stepOp P call fl (if kindOf o.op == 4 && apartCall ops b i then fl else H.length) ops o t2 H with
    | none => rw [hs] at h; cases h
    | some r =>
      obtain ⟨t3, H3⟩ := r
      rw [hs] at h
      obtain ⟨t4, k1, k2, k3⟩ := stepOp_frame ha hb (ho o List.mem_cons_self) hs
      rw [k1]
      exact runDrawn_frame (fun o hm => ho o (List.mem_cons_of_mem _ hm)) k2 k3 h

theorem runSemi_frame {fl : Nat} {ops : Array Oper} {b : Array Nat} : ∀ {l : List Oper} {i : Nat} {X : List Nat} {Z : List (Nat × List Nat)} {t t0 t2 : Temps} {H : AHeap} {t2' : Temps} {H' : AHeap}, (∀ o ∈ l, opOk n ops o = true) → Agree n t t2 → Above n t0 t2 → runSemi P call fl ops b i X Z l t2 H = some (t2', H') →
    ∃ t', runSemi P call fl ops b i X Z l t H = some (t', H') ∧ Agree n t' t2' ∧ Above n t0 t2'
  | [], i, X, Z, t, t0, t2, H, t2', H', ho, ha, hb, h => by cases h; exact ⟨t, rfl, ha, hb⟩
  | o :: l, i, X, Z, t, t0, t2, H, t2', H', ho, ha, hb, h => by
    have hac : accOf o.op (eval t) = accOf o.op (eval t2) := accOf_congr fun x hx => ha.eval ((opOk_parts (ho o List.mem_cons_self)).1 x hx)
    simp only [runSemi] at h ⊢
    rw [hac]
    split at h
    · rename_i hk
      rw [if_pos hk]
      cases hs : stepOp P (if semiAt ops b i o then lockCall call X else call) fl (if kindOf o.op == 4 && (apartCall ops b i || semiC ops b i o) then fl else H.length) ops o t2 H with
      | none => rw [hs] at h; cases h
      | some r =>
        obtain ⟨t3, H3⟩ := r
        rw [hs] at h
        obtain ⟨t4, k1, k2, k3⟩ := stepOp_frame ha hb (ho o List.mem_cons_self) hs
        rw [k1]
        exact runSemi_frame (fun o hm => ho o (List.mem_cons_of_mem _ hm)) k2 k3 h
    · cases h

theorem clashOk_frame {ops : Array Oper} {t t2 : Temps} (ho : ∀ o ∈ ops.toList, opOk n ops o = true) (ha : Agree n t t2) (p : Nat × Nat) : clashOk ops t p = clashOk ops t2 p := by
  unfold clashOk
  have key : ∀ (i : Nat) (o : Oper), ops[i]? = some o → accOf o.op (eval t) = accOf o.op (eval t2) ∧ wrOf o.op (eval t) = wrOf o.op (eval t2) := by
    intro i o hi
    have hm : o ∈ ops.toList := by
      rw [← Array.getElem?_toList] at hi
      exact List.mem_of_getElem? hi
    have := (opOk_parts (ho o hm)).1
    exact ⟨accOf_congr fun x hx => ha.eval (this x hx), wrOf_congr fun x hx => ha.eval (this x hx)⟩
  cases h1 : ops[p.1]? with
  | none => rfl
  | some o1 =>
    cases h2 : ops[p.2]? with
    | none => rfl
    | some o2 => simp only [(key _ _ h1).1, (key _ _ h1).2, (key _ _ h2).1, (key _ _ h2).2]

theorem runRegion_frame {fl : Nat} {ops : Array Oper} {draw : Bool} {t t0 t2 : Temps} {H : AHeap} {t2' : Temps} {H' : AHeap} (ho : ∀ o ∈ ops.toList, opOk n ops o = true) (ha : Agree n t t2) (hb : Above n t0 t2) (h : runRegion P call fl ops draw t2 H = some (t2', H')) :
    ∃ t', runRegion P call fl ops draw t H = some (t', H') ∧ Agree n t' t2' ∧ Above n t0 t2' := by
  unfold runRegion at h ⊢
  cases draw with
  | false => exact runOps_frame ho ha hb h
  | true =>
    simp only [if_true] at h ⊢
    split at h
    · rename_i hd
      rw [if_pos hd]
      split at h
      · rename_i t3 H3 hr
        have hr' : ∃ t4, (if hasSemi ops (befores ops.toList #[]) = true then runSemi P call fl ops (befores ops.toList #[]) 0 [] [] ops.toList t H else runDrawn P call fl ops (befores ops.toList #[]) 0 ops.toList t H) = some (t4, H3) ∧ Agree n t4 t3 ∧ Above n t0 t3 := by
          split at hr
          · rename_i hse; rw [if_pos hse]; exact runSemi_frame ho ha hb hr
          · rename_i hse; rw [if_neg hse]; exact runDrawn_frame ho ha hb hr
        obtain ⟨t4, k1, k2, k3⟩ := hr'
        rw [k1]
        split at h
        · rename_i hc
          cases h
          simp only
          rw [if_pos (by
            rw [List.all_eq_true] at hc ⊢
            intro p hp
            rw [clashOk_frame ho k2]
            exact hc p hp)]
          exact ⟨_, rfl, k2, k3⟩
        · cases h
      · cases h
    · cases h

theorem loopN_frame {body : Temps → AHeap → Option (AExit × Temps × AHeap)} (hbody : ∀ (t t0 t2 : Temps) (H : AHeap) (e : AExit) (t2' : Temps) (H' : AHeap), Agree n t t2 → Above n t0 t2 → body t2 H = some (e, t2', H') → ∃ t', body t H = some (e, t', H') ∧ Agree n t' t2' ∧ Above n t0 t2') :
    ∀ {k : Nat} {t t0 t2 : Temps} {H : AHeap} {e : AExit} {t2' : Temps} {H' : AHeap}, Agree n t t2 → Above n t0 t2 → loopN body k t2 H = some (e, t2', H') → ∃ t', loopN body k t H = some (e, t', H') ∧ Agree n t' t2' ∧ Above n t0 t2'
  | 0, t, t0, t2, H, e, t2', H', ha, hb, h => by cases h
  | k + 1, t, t0, t2, H, e, t2', H', ha, hb, h => by
    simp only [loopN] at h ⊢
    cases hs : body t2 H with
    | none => rw [hs] at h; cases h
    | some r =>
      obtain ⟨e3, t3, H3⟩ := r
      rw [hs] at h
      obtain ⟨t4, k1, k2, k3⟩ := hbody _ _ _ _ _ _ _ ha hb hs
      rw [k1]
      cases e3 with
      | normal => exact loopN_frame (body := body) hbody k2 k3 (by simpa using h)
      | _ => cases h; exact ⟨_, rfl, k2, k3⟩

theorem exec_frame {m fl : Nat} : ∀ {c : Code}, codeOk n c = true → ∀ {t t0 t2 : Temps} {H : AHeap} {e : AExit} {t2' : Temps} {H' : AHeap}, Agree n t t2 → Above n t0 t2 → exec P call m fl c t2 H = some (e, t2', H') →
    ∃ t', exec P call m fl c t H = some (e, t', H') ∧ Agree n t' t2' ∧ Above n t0 t2' := by
  intro c
  induction c with
  | skip => intro ho t t0 t2 H e t2' H' ha hb h; cases h; exact ⟨_, rfl, ha, hb⟩
  | label l => intro ho t t0 t2 H e t2' H' ha hb h; cases h; exact ⟨_, rfl, ha, hb⟩
  | exit id => intro ho t t0 t2 H e t2' H' ha hb h; cases h; exact ⟨_, rfl, ha, hb⟩
  | ret => intro ho t t0 t2 H e t2' H' ha hb h; cases h; exact ⟨_, rfl, ha, hb⟩
  | region id ops draw =>
    intro ho t t0 t2 H e t2' H' ha hb h
    simp only [exec] at h ⊢
    cases hs : runRegion P call fl ops draw t2 H with
    | none => rw [hs] at h; cases h
    | some r =>
      obtain ⟨t3, H3⟩ := r
      rw [hs] at h
      cases h
      obtain ⟨t4, k1, k2, k3⟩ := runRegion_frame (fun o hm => List.all_eq_true.1 ho o hm) ha hb hs
      rw [k1]
      exact ⟨_, rfl, k2, k3⟩
  | seq a b iha ihb =>
    intro ho t t0 t2 H e t2' H' ha hb h
    simp only [codeOk, Bool.and_eq_true] at ho
    simp only [exec] at h ⊢
    cases hs : exec P call m fl a t2 H with
    | none => rw [hs] at h; cases h
    | some r =>
      obtain ⟨e3, t3, H3⟩ := r
      rw [hs] at h
      obtain ⟨t4, k1, k2, k3⟩ := iha ho.1 ha hb hs
      rw [k1]
      cases e3 with
      | normal => exact ihb ho.2 k2 k3 h
      | _ => cases h; exact ⟨_, rfl, k2, k3⟩
  | cond o x y ihx ihy =>
    intro ho t t0 t2 H e t2' H' ha hb h
    simp only [codeOk, Bool.and_eq_true] at ho
    simp only [exec] at h ⊢
    rw [ha.eval ho.1.1]
    split at h
    · exact ihx ho.1.2 ha hb h
    · exact ihy ho.2 ha hb h
    · cases h
  | block id b ih =>
    intro ho t t0 t2 H e t2' H' ha hb h
    simp only [exec] at h ⊢
    cases hs : exec P call m fl b t2 H with
    | none => rw [hs] at h; cases h
    | some r =>
      obtain ⟨e3, t3, H3⟩ := r
      rw [hs] at h
      obtain ⟨t4, k1, k2, k3⟩ := ih ho ha hb hs
      rw [k1]
      cases e3 <;> cases h <;> exact ⟨_, rfl, k2, k3⟩
  | loop b ih =>
    intro ho t t0 t2 H e t2' H' ha hb h
    simp only [exec] at h ⊢
    exact loopN_frame (body := exec P call m fl b) (fun t t0 t2 H e t2' H' ha hb h => ih ho ha hb h) ha hb h
  | rangeFunc f ps a b _ _ => intro ho; simp [codeOk] at ho
  | scope b _ => intro ho; simp [codeOk] at ho
  | goto l => intro ho t t0 t2 H e t2' H' ha hb h; cases h; exact ⟨_, rfl, ha, hb⟩
  | refuse w => intro ho; simp [codeOk] at ho

/-- A text carried out with other slots behind its own. -/
theorem W_frame {fl : Nat} {c : Code} {t t2 : Temps} {H : AHeap} {Q : AExit → Temps → AHeap → Prop} (ho : codeOk n c = true) (ha : Agree n t t2) (h : W P fl c t2 H Q) :
    W P fl c t H fun e t' H' => ∃ t2', Agree n t' t2' ∧ Above n t2 t2' ∧ Q e t2' H' := by
  obtain ⟨N, e, t2', H', h1, h2⟩ := h
  obtain ⟨t', k1, k2, k3⟩ := exec_frame ho ha (fun i hi => rfl) h1
  exact ⟨N, e, t', H', k1, t2', k2, k3, h2⟩

end
end Go.Mach
