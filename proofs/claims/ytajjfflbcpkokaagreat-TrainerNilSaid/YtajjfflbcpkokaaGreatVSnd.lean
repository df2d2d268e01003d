/- Regions, all together. Laws; no condition. -/
import Derived.Test.YtajjfflbcpkokaaGreatVReg2
namespace Go.Mach
set_option linter.unusedVariables false
set_option linter.unusedSimpArgs false

def gOk (ops : Array Oper) (g : Option (Nat × Bool)) (ta : Temps) : Prop :=
  match g with
  | none => True
  | some (j, w) => ∃ d, (ops[j]?).bind (·.dst) = some d ∧ ta d = .bool w

/-- A state of the machine, and what the value machine holds of it. -/
def Rel (F0 : Fz) (H0 : AHeap) (c : Ctx) (s : VS) (ta : Temps) (H : AHeap) : Prop := c.h = s.h ∧ Ok F0 H0 c H ∧ Tok c s.t ta

def After (F0 : Fz) (H0 : AHeap) (c : Ctx) (k : VS → Prop) (ta : Temps) (H : AHeap) : Prop := ∃ s' c', Le c c' ∧ Rel F0 H0 c' s' ta H ∧ k s'

section
variable {G : Cfg} {F0 : Fz} {H0 : AHeap} {c c' : Ctx} {H H' : AHeap} {s : VS} {ta : Temps} {n fl : Nat} {k : VS → Prop} {ops : Array Oper}

theorem After.le (hle : Le c c') (h : After F0 H0 c' k ta H) : After F0 H0 c k ta H := let ⟨s', c2, h1, h2⟩ := h; ⟨s', c2, hle.trans h1, h2⟩

theorem wanted_g {g : Option (Nat × Bool)} {o : Oper} (hg : gOk ops g ta) (e : o.guard = g) : wantedA ops ta o = true := by
  unfold wantedA
  rw [e]
  unfold gOk at hg
  cases g with
  | none => rfl
  | some p =>
    obtain ⟨j, w⟩ := p
    obtain ⟨d, h1, h2⟩ := hg
    simp only [h1, h2, beq_self_eq_true]

theorem Tok.put {c : Ctx} {s : VS} {h : List VO} (hle : Le c c') (ht : Tok c s.t ta) {o : Option Nat} {v : VV} {a : Value} (hv : R2 c' v a) : Tok c' (VS.set ⟨s.t, h⟩ o v).t (tput ta o a) := by
  cases o with
  | none => exact ht.mono hle
  | some d => exact (ht.mono hle).set hv d

structure Env (G : Cfg) (H0 : AHeap) (c : Ctx) (fl n : Nat) (ops : Array Oper) : Prop where
  O : ∀ f args Q, G.O f args Q → Sound G.P f args Q
  fl : fl ≤ H0.length

theorem Env.le (h : Env G H0 c fl n ops) (hle : Le c c') : Env G H0 c' fl n ops := ⟨h.O, h.fl⟩

theorem map_same {α β : Type} {f : α → β} {o : Option α} {r : β} (h : o.map f = some r) : ∃ a, r = f a := by
  cases o with
  | none => cases h
  | some a => exact ⟨a, (Option.some.inj h).symm⟩

/-- A quiet operation leaves what was there. -/
theorem prim_pre {P : Program} {op : Op} {ev : Operand → Value} {r : ANext} (hq : quietOp op = true) (h : prim P fl op ev H = some (r, H')) : Pre H H' := by
  have same : H = H' → Pre H H' := fun e => e ▸ Pre.refl H
  cases op <;> try (cases hq; done)
  case alloc t =>
    simp only [prim] at h
    split at h
    · cases h; exact Pre.push _ _
    · cases h
  case box t x =>
    simp only [prim] at h
    cases h; exact Pre.push _ _
  case slice => obtain ⟨a, e⟩ := map_same h; exact same (Prod.mk.inj e).2.symm
  case nilCheck x =>
    simp only [prim] at h
    split at h
    · exact same (Prod.mk.inj (Option.some.inj h)).2
    · exact same (Prod.mk.inj (Option.some.inj h)).2
    · cases h
  case build t parts =>
    simp only [prim] at h
    split at h
    · split at h
      · exact same (Prod.mk.inj (Option.some.inj h)).2
      · cases h
    · split at h
      · exact same (Prod.mk.inj (Option.some.inj h)).2
      · cases h
    · cases h
  case buildSlice t len parts =>
    simp only [prim] at h
    split at h
    · split at h
      · split at h
        · split at h
          · cases h; exact Pre.push _ _
          · cases h
        · cases h
      · cases h
    · cases h
  case makeSlice t l c =>
    simp only [prim] at h
    split at h
    · split at h
      · split at h
        · cases h; exact Pre.push _ _
        · cases h
      · cases h
    · cases h
  case move x => exact same (Prod.mk.inj (Option.some.inj h)).2
  case assign x => exact same (Prod.mk.inj (Option.some.inj h)).2
  case load ty x =>
    simp only [prim] at h
    split at h
    · obtain ⟨a, e⟩ := map_same h; exact same (Prod.mk.inj e).2.symm
    · cases h
  case binOp => obtain ⟨a, e⟩ := map_same h; exact same (Prod.mk.inj e).2.symm
  case unOp => obtain ⟨a, e⟩ := map_same h; exact same (Prod.mk.inj e).2.symm
  case fieldAddr => obtain ⟨a, e⟩ := map_same h; exact same (Prod.mk.inj e).2.symm
  case field => obtain ⟨a, e⟩ := map_same h; exact same (Prod.mk.inj e).2.symm
  case indexAddr => obtain ⟨a, e⟩ := map_same h; exact same (Prod.mk.inj e).2.symm
  case sliceToArrayPointer => obtain ⟨a, e⟩ := map_same h; exact same (Prod.mk.inj e).2.symm
  case index => obtain ⟨a, e⟩ := map_same h; exact same (Prod.mk.inj e).2.symm
  case extract =>
    simp only [prim] at h
    split at h
    · obtain ⟨a, e⟩ := map_same h; exact same (Prod.mk.inj e).2.symm
    · cases h
  case pick =>
    simp only [prim] at h
    split at h
    · exact same (Prod.mk.inj (Option.some.inj h)).2
    · cases h
  case convert s d x =>
    simp only [prim] at h
    cases hm : markA P fl s d (ev x) H with
    | some v => rw [hm] at h; exact same (Prod.mk.inj (Option.some.inj h)).2
    | none =>
    rw [hm] at h
    cases hc : convA P s d (ev x) H with
    | none => rw [hc] at h; cases h
    | some q =>
      rw [hc] at h
      have e : q.2 = H' := (Prod.mk.inj (Option.some.inj h)).2
      subst e
      unfold convA at hc
      split at hc
      · cases hc; exact Pre.refl _
      · cases hc; exact Pre.refl _
      · cases hc; exact Pre.refl _
      · split at hc
        · cases hc; exact Pre.refl _
        · cases hc
      · split at hc
        · split at hc
          · cases hc; exact Pre.push _ _
          · cases hc
        · cases hc
      · split at hc
        · cases hc; exact Pre.refl _
        · split at hc
          · cases hc; exact Pre.refl _
          · split at hc
            · split at hc
              · cases hc; exact Pre.refl _
              · cases hc
            · cases hc
        · cases hc
      · cases hc
  case call cl =>
    simp only [prim, callA] at h
    cases hc : cl.callee with
    | value f =>
      rw [hc] at h
      simp only at h
      split at h
      · split at h
        · exact same (Prod.mk.inj (Option.some.inj h)).2
        · cases h
      · cases h
    | invoke r m => simp [quietOp, hc] at hq
    | builtin b =>
      rw [hc] at h
      cases b <;> try (simp [quietOp, hc] at hq; done)
      all_goals simp only at h
      case len => obtain ⟨a, e⟩ := map_same h; exact same (Prod.mk.inj e).2.symm
      case complex =>
        split at h
        · split at h
          · exact same (Prod.mk.inj (Option.some.inj h)).2
          · cases h
        · cases h
      case real =>
        split at h
        · exact same (Prod.mk.inj (Option.some.inj h)).2
        · cases h
      case imag =>
        split at h
        · exact same (Prod.mk.inj (Option.some.inj h)).2
        · cases h
      all_goals
        split at h
        · obtain ⟨a, e⟩ := map_same h; exact same (Prod.mk.inj e).2.symm
        · cases h

/-- One operation. -/
theorem vstep_sound (he : Env G H0 c fl n ops) (hr : Rel F0 H0 c s ta H) {o : Oper} (hop : opOk n ops o = true) (hw : wantedA ops ta o = true) (hv : vstep G o s k) {flc : Nat} (hflc : flc ≤ H.length) {K : Temps → AHeap → Prop}
    (hK : ∀ ta' H', (∀ d, o.dst ≠ some d → ta' d = ta d) → (quietOp o.op = true → Pre H H') → After F0 H0 c k ta' H' → K ta' H') : WOp G.P fl flc ops o ta H K := by
  obtain ⟨hh, hok, ht⟩ := hr
  have hoth : ∀ (a : Value) d, o.dst ≠ some d → tput ta o.dst a d = ta d := by
    intro a d hd
    cases e : o.dst with
    | none => rfl
    | some x => rw [e] at hd; exact tset_ne _ _ _ _ (fun e' => hd (by rw [e']))
  have hprim : ∀ hv : vprim G o.op s.t s.h (fun v h => k (VS.set ⟨s.t, h⟩ o.dst v)), WOp G.P fl flc ops o ta H K := by
    intro hv
    rw [← hh] at hv
    obtain ⟨v, h', a, H', hk, hp, c', hle, e1, hok', hr'⟩ := vprim_does (fl := fl) he.fl hok ht (operands_ok hop) hv
    have hA : After F0 H0 c k (tput ta o.dst a) H' := ⟨_, c', hle, ⟨by rw [set_h]; exact e1, hok', Tok.put hle ht hr'⟩, hk⟩
    unfold WOp
    rw [if_pos hw]
    rcases hp with hp | ⟨hp, rfl⟩
    · simp only [hp]; exact hK _ _ (hoth a) (fun hq => prim_pre hq hp) hA
    · simp only [hp]; exact hK _ _ (hoth undef) (fun hq => prim_pre hq hp) hA
  unfold vstep at hv
  cases hopc : o.op with
  | call cl =>
    rw [hopc] at hv
    simp only at hv
    cases hc : cl.callee with
    | value f =>
      rw [hc] at hv
      simp only at hv
      have hx := operands_ok hop
      rw [hopc] at hx
      have hfx : operandOk n f = true := hx f (by simp only [Op.operands, Call.operands, hc]; simp)
      have hax : ∀ x ∈ cl.args.toList, operandOk n x = true := fun x h => hx x (by simp only [Op.operands, Call.operands, Array.toList_append]; exact List.mem_append_right _ h)
      rw [← hh] at hv
      obtain ⟨g, first, cp, e1, e2, e3⟩ := vcall_sound he.O hok hflc (ev_rel ht hfx) (args_rel ht hax) hv
      unfold WOp
      rw [if_pos hw]
      have hp : prim G.P fl o.op (eval ta) H = some (.enter g (first ++ (cl.args.toList.map (eval ta)).toArray ++ cp), H) := by
        have : cl.args.map (eval ta) = (cl.args.toList.map (eval ta)).toArray := by apply Array.toList_inj.1; simp
        rw [hopc]
        simp only [prim, callA, hc, e1, e2, if_true, this]
      simp only [hp]
      refine WCall.mono e3 ?_
      rintro v H' ⟨v', c', hk, hle, hok', hr', hpre⟩
      exact hK _ _ (hoth v) (fun _ => hpre) ⟨_, c', hle, ⟨by rw [set_h], hok', Tok.put hle ht hr'⟩, hk⟩
    | builtin b => rw [hc] at hv; simp only at hv; rw [← hopc] at hv; exact hprim hv
    | invoke r m => rw [hc] at hv; simp only at hv; rw [← hopc] at hv; exact hprim hv
  | _ => rw [hopc] at hv; simp only at hv; rw [← hopc] at hv; exact hprim hv

theorem WDrawn_app {P : Program} {K : Temps → AHeap → Prop} : ∀ (a : List Oper) {b : List Oper} {fs : List Bool} {t : Temps} {H : AHeap}, WDrawn P fl ops fs a t H (fun t' H' => WDrawn P fl ops (fs.drop a.length) b t' H' K) → WDrawn P fl ops fs (a ++ b) t H K
  | [], b, fs, t, H, h => by
    have h : WDrawn P fl ops (fs.drop 0) b t H K := by cases fs <;> exact h
    simpa using h
  | o :: a, b, fs, t, H, h => by
    have h : WOp P fl (if fs.headD false then fl else H.length) ops o t H fun t' H' => WDrawn P fl ops fs.tail a t' H' fun t' H' => WDrawn P fl ops (fs.drop (o :: a).length) b t' H' K := h
    show WOp P fl (if fs.headD false then fl else H.length) ops o t H fun t' H' => WDrawn P fl ops fs.tail (a ++ b) t' H' K
    have key : ∀ t' H', (WDrawn P fl ops fs.tail a t' H' fun t' H' => WDrawn P fl ops (fs.drop (o :: a).length) b t' H' K) → WDrawn P fl ops fs.tail (a ++ b) t' H' K := fun t' H' h => WDrawn_app a (by
      have e : fs.tail.drop a.length = fs.drop (o :: a).length := by cases fs <;> simp
      rw [e]; exact h)
    unfold WOp at h ⊢
    split at h
    · rename_i hw
      rw [if_pos hw]
      split at h
      · exact key _ _ h
      · exact key _ _ h
      · exact h.mono fun v H' h => key _ _ h
      · exact h.elim
    · rename_i hw
      rw [if_neg hw]; exact key _ _ h

/-- A group that is left out. -/
theorem off_sound {j : Nat} {w : Bool} {d : Nat} (hj : (ops[j]?).bind (·.dst) = some d) : ∀ (l : List Oper) (known : List Nat) (ta : Temps) (fs : List Bool) (H : AHeap) {K : Temps → AHeap → Prop}, offOk ops j w known l = true → ta d = .bool (!w) → (∀ o ∈ l, o.dst ≠ some d) →
    (∀ x ∈ known, ta x = undef) → (∀ ta', (∀ x, x ∉ dsts l → ta' x = ta x) → (∀ x, x ∈ dsts l → ta' x = undef) → K ta' H) → WDrawn G.P fl ops fs l ta H K
  | [], known, ta, fs, H, K, _, _, _, _, hK => D_nil (hK ta (fun _ _ => rfl) fun _ h => by cases h)
  | o :: l, known, ta, fs, H, K, ho, hd, hnd, hkn, hK => by
    unfold offOk at ho
    simp only [Bool.and_eq_true] at ho
    obtain ⟨h1, h2⟩ := ho
    have hw : wantedA ops ta o = false := by
      unfold wantedA
      split at h1
      · cases h1
      · rename_i j' w' e
        rw [e]
        simp only [Bool.or_eq_true, Bool.and_eq_true, beq_iff_eq] at h1
        rcases h1 with ⟨rfl, rfl⟩ | h1
        · simp only [hj, hd]; cases w' <;> rfl
        · split at h1
          · rename_i x hx
            simp only [hx, hkn x (by simpa using h1)]
            rfl
          · cases h1
    refine D_not hw ?_
    have hne := hnd o List.mem_cons_self
    have hoth : ∀ x, o.dst ≠ some x → tput ta o.dst undef x = ta x := by
      intro x hx
      cases e : o.dst with
      | none => rfl
      | some y => rw [e] at hx; exact tset_ne _ _ _ _ (fun e' => hx (by rw [e']))
    refine off_sound hj l _ _ _ H h2 (by rw [hoth d hne]; exact hd) (fun x hx => hnd x (List.mem_cons_of_mem _ hx)) ?_ fun ta' ht hu => hK ta' (fun x hx => ?_) (fun x hx => ?_)
    · intro x hx
      cases e : o.dst with
      | none => rw [e] at hx; exact hkn x hx
      | some y =>
        rw [e] at hx
        show tset ta y undef x = undef
        by_cases hxy : x = y
        · subst hxy; exact tset_same _ _ _
        · rw [tset_ne _ _ _ _ hxy]
          exact hkn x ((List.mem_cons.1 hx).resolve_left hxy)
    · have h3 : x ∉ dsts l := fun h => hx ((dsts_cons o l x).2 (.inr h))
      rw [ht x h3]
      exact hoth x (fun e => hx ((dsts_cons o l x).2 (.inl e)))
    · by_cases hm : x ∈ dsts l
      · exact hu x hm
      · rw [ht x hm]
        rcases (dsts_cons o l x).1 hx with h | h
        · rw [h]; exact tset_same _ _ _
        · exact absurd h hm

/-- What is mine, where the heap has grown. -/
theorem Ok.grow (h : Ok F0 H0 c H) (hp : Pre H H') : Ok F0 H0 c H' where
  n0 := h.n0
  pre := h.pre.trans hp
  fz := fun b B e => hp.blk (h.fz b B e)
  low := h.low
  obj := fun i o hi => (h.obj i o hi).mono (Le.refl c) rfl (fun _ _ => rfl) (fun b B _ hB => hp.blk hB) hp.len
  inj := h.inj
  bj := h.bj
  dom := h.dom

theorem dsts_mem {d : Nat} : ∀ {l : List Oper}, d ∈ dsts l → ∃ z ∈ l, z.dst = some d
  | [], h => by cases h
  | z :: l, h => by
    rcases (dsts_cons z l d).1 h with h | h
    · exact ⟨z, List.mem_cons_self, h⟩
    · obtain ⟨z', h1, h2⟩ := dsts_mem h; exact ⟨z', List.mem_cons_of_mem _ h1, h2⟩

/-- The operations of a region, one behind the other. -/
theorem vops_sound : ∀ (m : Nat) (g : Option (Nat × Bool)) (l : List Oper) {c : Ctx} {s : VS} {ta : Temps} {H : AHeap} {k : VS → Prop} (fs : List Bool), Env G H0 c fl n ops → Rel F0 H0 c s ta H → gOk ops g ta → (∀ o ∈ l, opOk n ops o = true) →
    (∀ j w d, g = some (j, w) → (ops[j]?).bind (·.dst) = some d → ∀ o ∈ l, o.dst ≠ some d) → vops G ops m g l s k → WDrawn G.P fl ops fs l ta H fun ta' H' => After F0 H0 c k ta' H' ∧ (∀ d, d ∉ dsts l → ta' d = ta d) ∧ ((∀ o ∈ l, quietOp o.op = true) → Pre H H') := by
  intro m
  induction m with
  | zero => intro g l c s ta H k fs _ _ _ _ _ h; exact h.elim
  | succ m ih =>
    intro g l c s ta H k fs he hr hg hop hgd hv
    cases l with
    | nil => exact D_nil ⟨⟨s, c, Le.refl c, hr, hv⟩, fun _ _ => rfl, fun _ => Pre.refl _⟩
    | cons o rest =>
      unfold vops at hv
      split at hv
      · rename_i hge
        have hge := guardEq_eq hge
        show WOp G.P fl (if fs.headD false then fl else H.length) ops o ta H _
        refine vstep_sound he hr (hop o List.mem_cons_self) (wanted_g hg hge) hv (by split; exact Nat.le_trans he.fl hr.2.1.pre.len; exact Nat.le_refl _) ?_
        rintro ta' H' hoth hpre ⟨s', c', hle, hr', hk⟩
        refine D_mono (fun t H h => ⟨After.le hle h.1, fun d hd => (h.2.1 d (fun hm => hd ((dsts_cons o rest d).2 (.inr hm)))).trans (hoth d (fun e => hd ((dsts_cons o rest d).2 (.inl e)))), fun hq => (hpre (hq o List.mem_cons_self)).trans (h.2.2 fun z hz => hq z (List.mem_cons_of_mem _ hz))⟩) (ih g rest fs.tail (he.le hle) hr' ?_ (fun x hx => hop x (List.mem_cons_of_mem _ hx)) (fun j w d e1 e2 x hx => hgd j w d e1 e2 x (List.mem_cons_of_mem _ hx)) hk)
        unfold gOk at hg ⊢
        cases g with
        | none => trivial
        | some p =>
          obtain ⟨d, h1, h2⟩ := hg
          exact ⟨d, h1, by rw [hoth d (hgd _ _ d rfl h1 o List.mem_cons_self)]; exact h2⟩
      · split at hv
        · rename_i body res rest' j w hsp hgo
          have hl : o :: rest = body ++ res :: rest' := by
            have := spanG_eq g (o :: rest)
            rw [hsp] at this; exact this
          have hgres := guardEq_eq (spanG_res g hsp)
          rw [hl] at hop hgd ⊢
          clear hsp hgo
          split at hv
          · rename_i d cc x y r hd hres hrr
            split at hv
            · rename_i b hcond hlook
              simp only [Bool.and_eq_true, beq_iff_eq, bne_iff_ne, List.all_eq_true] at hcond
              obtain ⟨⟨⟨⟨hcd, hrd⟩, hbody⟩, hoff⟩, hconst⟩ := hcond
              subst hcd
              have hapd : ∀ z ∈ body, z.dst ≠ some cc := by
                intro z hz e
                have := (hbody z hz).1
                unfold apartD at this
                rw [e] at this
                simp at this
              have hq : ∀ z ∈ body, quietOp z.op = true := fun z hz => (hbody z hz).2
              have htd : ta cc = .bool b := by
                have := hr.2.2 cc
                rw [hlook] at this
                exact (R2_pl this).1
              have hcd2 : cc ∉ dsts body := fun hm => by obtain ⟨z, hz, e⟩ := dsts_mem hm; exact hapd z hz e
              have hgdb : ∀ p d, g = some p → (ops[p.1]?).bind (·.dst) = some d → d ∉ dsts body := by
                intro p d e1 e2 hm
                obtain ⟨z, hz, e⟩ := dsts_mem hm
                exact hgd p.1 p.2 d e1 e2 z (List.mem_append_left _ hz) e
              have gkeep : ∀ ta3 : Temps, (∀ d, d ∉ dsts body → ta3 d = ta d) → gOk ops g ta3 := by
                intro ta3 h3
                unfold gOk at hg ⊢
                cases g with
                | none => trivial
                | some p =>
                  obtain ⟨d, h1, h2⟩ := hg
                  exact ⟨d, h1, by rw [h3 d (hgdb p d rfl h1)]; exact h2⟩
              have hco : ∀ ta3 : Temps, eval ta3 (if w = true then y else x) = .bool (!w) := by
                intro ta3
                unfold constBool at hconst
                split at hconst
                · rename_i e; rw [e]; simp only [Option.some.injEq] at hconst; rw [hconst]; rfl
                · cases hconst
              -- what stands behind the choice
              have back : ∀ (tt : List (Nat × VV)) (v : Bool) (c3 : Ctx) (ta3 : Temps) (H3 : AHeap) (fs' : List Bool), Pre H H3 → Le c c3 → c3.h = s.h → Ok F0 H0 c3 H3 → Tok c3 tt ta3 → (∀ d, d ∉ dsts body → ta3 d = ta d) → eval ta3 (if b = true then x else y) = .bool v →
                  vops G ops m g rest' ⟨(r, .pl (.bool v)) :: tt, s.h⟩ k → WDrawn G.P fl ops fs' (res :: rest') ta3 H3 fun ta' H' => After F0 H0 c k ta' H' ∧ (∀ d, d ∉ dsts (body ++ res :: rest') → ta' d = ta d) ∧ ((∀ o ∈ body ++ res :: rest', quietOp o.op = true) → Pre H H') := by
                intro tt v c3 ta3 H3 fs' hp3 hle3 hh3 hok3 ht3 hoth hev hk
                have hg3 := gkeep ta3 hoth
                refine D_pure (v := .bool v) (wanted_g hg3 hgres) ?_ ?_
                · rw [hres]
                  have e1 : eval ta3 (.tmp cc) = .bool b := (hoth cc hcd2).trans htd
                  simp only [prim, e1]
                  cases b
                  · have hev : eval ta3 y = .bool v := hev
                    simp [hev]
                  · have hev : eval ta3 x = .bool v := hev
                    simp [hev]
                · rw [hrr]
                  have hset : Tok c3 ((r, .pl (.bool v)) :: tt) (tset ta3 r (.bool v)) := ht3.set (show R2 c3 (.pl (.bool v)) (.bool v) from ⟨rfl, rfl⟩) r
                  have hg4 : gOk ops g (tset ta3 r (.bool v)) := by
                    unfold gOk at hg3 ⊢
                    cases g with
                    | none => trivial
                    | some p =>
                      obtain ⟨d, h1, h2⟩ := hg3
                      refine ⟨d, h1, ?_⟩
                      rw [tset_ne _ _ _ _ (fun e => hgd _ _ d rfl h1 res (List.mem_append_right _ List.mem_cons_self) (by rw [hrr, e]))]
                      exact h2
                  refine D_mono ?_ (ih g rest' (s := ⟨(r, .pl (.bool v)) :: tt, s.h⟩) fs'.tail (he.le hle3) ⟨hh3, hok3, hset⟩ hg4 (fun z hz => hop z (List.mem_append_right _ (List.mem_cons_of_mem _ hz))) (fun j w d e1 e2 z hz => hgd j w d e1 e2 z (List.mem_append_right _ (List.mem_cons_of_mem _ hz))) hk)
                  rintro t4 H4 ⟨hA, hB, hC⟩
                  refine ⟨After.le hle3 hA, fun d hdd => ?_, fun hq4 => hp3.trans (hC fun z hz => hq4 z (List.mem_append_right _ (List.mem_cons_of_mem _ hz)))⟩
                  rw [dsts_app] at hdd
                  have h1 : d ∉ dsts body := fun h => hdd (List.mem_append_left _ h)
                  have h2 : d ∉ dsts rest' := fun h => hdd (List.mem_append_right _ ((dsts_cons res rest' d).2 (.inr h)))
                  have h3 : d ≠ r := fun h => hdd (List.mem_append_right _ ((dsts_cons res rest' d).2 (.inl (by rw [hrr, h]))))
                  rw [hB d h2]
                  show tset ta3 r _ d = _
                  rw [tset_ne _ _ _ _ h3]
                  exact hoth d h1
              have hopb : ∀ z ∈ body, opOk n ops z = true := fun z hz => hop z (List.mem_append_left _ hz)
              -- the group runs
              have run : b = w → ∀ (tt : VS → List (Nat × VV)) (J : VS → Bool → Prop), (∀ s2, tt s2 = undefs body s.t ∨ tt s2 = maybes s.h.length body s2.t s.t) → (∀ s2 v, J s2 v → vops G ops m g rest' ⟨(r, .pl (.bool v)) :: tt s2, s.h⟩ k) →
                  (vops G ops m (some (j, w)) body s fun s2 => boolOf (evV s2.t (if b = true then x else y)) (J s2)) → WDrawn G.P fl ops fs (body ++ res :: rest') ta H fun ta' H' => After F0 H0 c k ta' H' ∧ (∀ d, d ∉ dsts (body ++ res :: rest') → ta' d = ta d) ∧ ((∀ o ∈ body ++ res :: rest', quietOp o.op = true) → Pre H H') := by
                intro hbw tt J htt hJ hrun
                refine WDrawn_app body ?_
                refine D_mono ?_ (ih (some (j, w)) body fs he hr ⟨cc, hd, by rw [htd, hbw]⟩ hopb (fun j' w' d' e1 e2 z hz => by
                  cases e1
                  rw [hd] at e2; cases e2
                  exact hapd z hz) hrun)
                rintro ta2 H2 ⟨⟨s2, c2, hle2, ⟨hh2, hok2, ht2⟩, hk2⟩, hoth, hpre⟩
                have hp2 := hpre hq
                unfold boolOf at hk2
                split at hk2
                · rename_i v hev
                  refine back (tt s2) v c ta2 H2 _ hp2 (Le.refl c) hr.1 (hr.2.1.grow hp2) ?_ hoth ?_ (hJ s2 v hk2)
                  · intro d
                    rcases htt s2 with et | et <;> rw [et]
                    · by_cases hdm : d ∈ dsts body
                      · rw [(undefs_look body s.t d).1 hdm]; trivial
                      · rw [(undefs_look body s.t d).2 hdm, hoth d hdm]
                        exact hr.2.2 d
                    · by_cases hdm : d ∈ dsts body
                      · rw [(maybes_look s.h.length s2.t body s.t d).1 hdm]
                        have h2 := ht2 d
                        unfold maybeV
                        split
                        · rename_i i off e
                          split
                          · rename_i hi
                            rw [e] at h2
                            obtain ⟨b', cs', fr', g1, g2, g3⟩ := h2
                            refine .inr ⟨b', ?_, by rw [hr.1]; exact hi, g3⟩
                            rw [← hle2.ρ i (by rw [hr.1]; exact hi)]
                            exact g2
                          · trivial
                        · trivial
                      · rw [(maybes_look s.h.length s2.t body s.t d).2 hdm, hoth d hdm]
                        exact hr.2.2 d
                  · have hxo : operandOk n (if b = true then x else y) = true := by
                      have := operands_ok (hop res (List.mem_append_right _ List.mem_cons_self))
                      rw [hres] at this
                      split
                      · exact this x (by simp [Op.operands])
                      · exact this y (by simp [Op.operands])
                    have := ev_rel ht2 hxo
                    rw [hev] at this
                    exact (R2_pl this).1
                · exact hk2.elim
              -- the group is left out
              have skip : b = (!w) → ∀ tt : List (Nat × VV), (tt = undefs body s.t ∨ ∃ t2, tt = maybes s.h.length body t2 s.t) → vops G ops m g rest' ⟨(r, .pl (.bool (!w))) :: tt, s.h⟩ k → WDrawn G.P fl ops fs (body ++ res :: rest') ta H fun ta' H' => After F0 H0 c k ta' H' ∧ (∀ d, d ∉ dsts (body ++ res :: rest') → ta' d = ta d) ∧ ((∀ o ∈ body ++ res :: rest', quietOp o.op = true) → Pre H H') := by
                intro hbw tt htt hk
                refine WDrawn_app body ?_
                refine off_sound (j := j) (w := w) (d := cc) hd body [] ta fs H hoff (by rw [htd, hbw]) hapd (fun x hx => by cases hx) fun ta' hoth hund => ?_
                refine back tt (!w) c ta' H _ (Pre.refl H) (Le.refl c) hr.1 hr.2.1 ?_ hoth ?_ hk
                · intro d
                  rcases htt with et | ⟨t2, et⟩ <;> rw [et]
                  · by_cases hdm : d ∈ dsts body
                    · rw [(undefs_look body s.t d).1 hdm]; trivial
                    · rw [(undefs_look body s.t d).2 hdm, hoth d hdm]
                      exact hr.2.2 d
                  · by_cases hdm : d ∈ dsts body
                    · rw [(maybes_look s.h.length t2 body s.t d).1 hdm]
                      unfold maybeV
                      split
                      · split
                        · exact .inl (hund d hdm)
                        · trivial
                      · trivial
                    · rw [(maybes_look s.h.length t2 body s.t d).2 hdm, hoth d hdm]
                      exact hr.2.2 d
                · have := hco ta'
                  rw [hbw]
                  cases w <;> exact this
              split at hv
              · rename_i htot
                have htot' : ∀ z ∈ body, totalOp z.op = true := by simpa [List.all_eq_true] using htot
                by_cases hbw : b = w
                · refine run hbw (fun s2 => maybes s.h.length body s2.t s.t) (fun s2 v => vops G ops m g rest' ⟨(r, .pl (.bool (if w = true then b && v else b || v))) :: maybes s.h.length body s2.t s.t, s.h⟩ k) (fun s2 => .inr rfl) (fun s2 v h => ?_) ?_
                  · rw [hbw] at h
                    cases w <;> simpa using h
                  · rw [hbw] at hv ⊢
                    exact hv
                · have hbw2 : b = (!w) := by cases b <;> cases w <;> simp_all
                  obtain ⟨s2, h2⟩ := vops_total _ _ _ _ _ htot' hv
                  refine skip hbw2 (maybes s.h.length body s2.t s.t) (.inr ⟨_, rfl⟩) ?_
                  unfold boolOf at h2
                  split at h2
                  · rw [hbw2] at h2
                    cases w <;> simpa using h2
                  · exact h2.elim
              · unfold jn at hv
                cases b <;> cases w
                · exact run rfl (fun _ => undefs body s.t) (fun _ => _) (fun _ => .inl rfl) (fun _ v h => h) (by simpa using hv)
                · exact skip rfl _ (.inl rfl) (by simpa using hv)
                · exact skip rfl _ (.inl rfl) (by simpa using hv)
                · exact run rfl (fun _ => undefs body s.t) (fun _ => _) (fun _ => .inl rfl) (fun _ v h => h) (by simpa using hv)
            · exact hv.elim
          · exact hv.elim
        · exact hv.elim

end
end Go.Mach
