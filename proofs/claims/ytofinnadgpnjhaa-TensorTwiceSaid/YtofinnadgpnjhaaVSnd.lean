/- Regions, all together. Laws; no condition. -/
import Derived.Test.YtofinnadgpnjhaaVReg2
namespace Go.Mach
set_option linter.unusedVariables false
set_option linter.unusedSimpArgs false

def gOk (ops : Array Oper) (g : Option (Nat × Bool)) (ta : Temps) : Prop :=
  match g with
  | none => True
  | some (j, w) => ∃ d, (ops[j]?).bind (·.dst) = some d ∧ ta d = .bool w

/-- A state of the machine, and what the value machine holds of it. -/
def Rel (F0 : Fz) (H0 : AHeap) (c : Ctx) (s : VS) (ta : Temps) (H : AHeap) : Prop := c.h = s.h ∧ Ok F0 H0 c H ∧ Tok c s.t ta

def After (F0 : Fz) (H0 : AHeap) (c : Ctx) (k : VS → Prop) (ta : Temps) (H : AHeap) : Prop := ∃ s' c', Le c c' ∧ Rel F0 H0 c' s' ta H ∧ k s'

section
variable {G : Cfg} {F0 : Fz} {H0 : AHeap} {c c' : Ctx} {H H' : AHeap} {s : VS} {ta : Temps} {n fl : Nat} {k : VS → Prop} {ops : Array Oper}

theorem After.le (hle : Le c c') (h : After F0 H0 c' k ta H) : After F0 H0 c k ta H := let ⟨s', c2, h1, h2⟩ := h; ⟨s', c2, hle.trans h1, h2⟩

theorem wanted_g {g : Option (Nat × Bool)} {o : Oper} (hg : gOk ops g ta) (e : o.guard = g) : wantedA ops ta o = true := by
  unfold wantedA
  rw [e]
  unfold gOk at hg
  cases g with
  | none => rfl
  | some p =>
    obtain ⟨j, w⟩ := p
    obtain ⟨d, h1, h2⟩ := hg
    simp only [h1, h2, beq_self_eq_true]

theorem Tok.put {c : Ctx} {s : VS} {h : List VO} (hle : Le c c') (ht : Tok c s.t ta) {o : Option Nat} {v : VV} {a : Value} (hv : R2 c' v a) : Tok c' (VS.set ⟨s.t, h⟩ o v).t (tput ta o a) := by
  cases o with
  | none => exact ht.mono hle
  | some d => exact (ht.mono hle).set hv d

structure Env (G : Cfg) (H0 : AHeap) (c : Ctx) (fl n : Nat) (ops : Array Oper) : Prop where
  O : ∀ f args Q, G.O f args Q → Sound G.P f args Q
  Γ : HsOk G H0 c.hs
  fl : fl ≤ H0.length

theorem Env.le (h : Env G H0 c fl n ops) (hle : Le c c') : Env G H0 c' fl n ops := ⟨h.O, by rw [hle.hs]; exact h.Γ, h.fl⟩

/-- One operation. -/
theorem vstep_sound (he : Env G H0 c fl n ops) (hr : Rel F0 H0 c s ta H) {o : Oper} (hop : opOk n ops o = true) (hw : wantedA ops ta o = true) (hv : vstep G o s k) {flc : Nat} (hflc : flc ≤ H.length) {K : Temps → AHeap → Prop}
    (hK : ∀ ta' H', (∀ d, o.dst ≠ some d → ta' d = ta d) → After F0 H0 c k ta' H' → K ta' H') : WOp G.P fl flc ops o ta H K := by
  obtain ⟨hh, hok, ht⟩ := hr
  have hoth : ∀ (a : Value) d, o.dst ≠ some d → tput ta o.dst a d = ta d := by
    intro a d hd
    cases e : o.dst with
    | none => rfl
    | some x => rw [e] at hd; exact tset_ne _ _ _ _ (fun e' => hd (by rw [e']))
  have hprim : ∀ hv : vprim G o.op s.t s.h (fun v h => k (VS.set ⟨s.t, h⟩ o.dst v)), WOp G.P fl flc ops o ta H K := by
    intro hv
    rw [← hh] at hv
    obtain ⟨v, h', a, H', hk, hp, c', hle, e1, hok', hr'⟩ := vprim_does (fl := fl) he.fl hok ht (operands_ok hop) hv
    have hA : After F0 H0 c k (tput ta o.dst a) H' := ⟨_, c', hle, ⟨by rw [set_h]; exact e1, hok', Tok.put hle ht hr'⟩, hk⟩
    unfold WOp
    rw [if_pos hw]
    rcases hp with hp | ⟨hp, rfl⟩
    · simp only [hp]; exact hK _ _ (hoth a) hA
    · simp only [hp]; exact hK _ _ (hoth undef) hA
  unfold vstep at hv
  cases hopc : o.op with
  | call cl =>
    rw [hopc] at hv
    simp only at hv
    cases hc : cl.callee with
    | value f =>
      rw [hc] at hv
      simp only at hv
      have hx := operands_ok hop
      rw [hopc] at hx
      have hfx : operandOk n f = true := hx f (by simp only [Op.operands, Call.operands, hc]; simp)
      have hax : ∀ x ∈ cl.args.toList, operandOk n x = true := fun x h => hx x (by simp only [Op.operands, Call.operands, Array.toList_append]; exact List.mem_append_right _ h)
      rw [← hh] at hv
      obtain ⟨g, first, cp, e1, e2, e3⟩ := vcall_sound he.O hok he.Γ hflc (ev_rel ht hfx) (args_rel ht hax) hv
      unfold WOp
      rw [if_pos hw]
      have hp : prim G.P fl o.op (eval ta) H = some (.enter g (first ++ (cl.args.toList.map (eval ta)).toArray ++ cp), H) := by
        have : cl.args.map (eval ta) = (cl.args.toList.map (eval ta)).toArray := by apply Array.toList_inj.1; simp
        rw [hopc]
        simp only [prim, callA, hc, e1, e2, if_true, this]
      simp only [hp]
      refine WCall.mono e3 ?_
      rintro v H' ⟨v', c', hk, hle, hok', hr'⟩
      exact hK _ _ (hoth v) ⟨_, c', hle, ⟨by rw [set_h], hok', Tok.put hle ht hr'⟩, hk⟩
    | builtin b => rw [hc] at hv; simp only at hv; rw [← hopc] at hv; exact hprim hv
    | invoke r m => rw [hc] at hv; simp only at hv; rw [← hopc] at hv; exact hprim hv
  | _ => rw [hopc] at hv; simp only at hv; rw [← hopc] at hv; exact hprim hv

theorem WDrawn_app {P : Program} {K : Temps → AHeap → Prop} : ∀ (a : List Oper) {b : List Oper} {fs : List Bool} {t : Temps} {H : AHeap}, WDrawn P fl ops fs a t H (fun t' H' => WDrawn P fl ops (fs.drop a.length) b t' H' K) → WDrawn P fl ops fs (a ++ b) t H K
  | [], b, fs, t, H, h => by
    have h : WDrawn P fl ops (fs.drop 0) b t H K := by cases fs <;> exact h
    simpa using h
  | o :: a, b, fs, t, H, h => by
    have h : WOp P fl (if fs.headD false then fl else H.length) ops o t H fun t' H' => WDrawn P fl ops fs.tail a t' H' fun t' H' => WDrawn P fl ops (fs.drop (o :: a).length) b t' H' K := h
    show WOp P fl (if fs.headD false then fl else H.length) ops o t H fun t' H' => WDrawn P fl ops fs.tail (a ++ b) t' H' K
    have key : ∀ t' H', (WDrawn P fl ops fs.tail a t' H' fun t' H' => WDrawn P fl ops (fs.drop (o :: a).length) b t' H' K) → WDrawn P fl ops fs.tail (a ++ b) t' H' K := fun t' H' h => WDrawn_app a (by
      have e : fs.tail.drop a.length = fs.drop (o :: a).length := by cases fs <;> simp
      rw [e]; exact h)
    unfold WOp at h ⊢
    split at h
    · rename_i hw
      rw [if_pos hw]
      split at h
      · exact key _ _ h
      · exact key _ _ h
      · exact h.mono fun v H' h => key _ _ h
      · exact h.elim
    · rename_i hw
      rw [if_neg hw]; exact key _ _ h

/-- A group that is left out. -/
theorem off_sound {j : Nat} {w : Bool} {d : Nat} (hj : (ops[j]?).bind (·.dst) = some d) : ∀ (l : List Oper) (known : List Nat) (ta : Temps) (fs : List Bool) (H : AHeap) {K : Temps → AHeap → Prop}, offOk ops j w known l = true → ta d = .bool (!w) → (∀ o ∈ l, o.dst ≠ some d) →
    (∀ x ∈ known, ta x = undef) → (∀ ta', (∀ x, x ∉ dsts l → ta' x = ta x) → K ta' H) → WDrawn G.P fl ops fs l ta H K
  | [], known, ta, fs, H, K, _, _, _, _, hK => D_nil (hK ta fun _ _ => rfl)
  | o :: l, known, ta, fs, H, K, ho, hd, hnd, hkn, hK => by
    unfold offOk at ho
    simp only [Bool.and_eq_true] at ho
    obtain ⟨h1, h2⟩ := ho
    have hw : wantedA ops ta o = false := by
      unfold wantedA
      split at h1
      · cases h1
      · rename_i j' w' e
        rw [e]
        simp only [Bool.or_eq_true, Bool.and_eq_true, beq_iff_eq] at h1
        rcases h1 with ⟨rfl, rfl⟩ | h1
        · simp only [hj, hd]; cases w' <;> rfl
        · split at h1
          · rename_i x hx
            simp only [hx, hkn x (by simpa using h1)]
            rfl
          · cases h1
    refine D_not hw ?_
    have hne := hnd o List.mem_cons_self
    have hoth : ∀ x, o.dst ≠ some x → tput ta o.dst undef x = ta x := by
      intro x hx
      cases e : o.dst with
      | none => rfl
      | some y => rw [e] at hx; exact tset_ne _ _ _ _ (fun e' => hx (by rw [e']))
    refine off_sound hj l _ _ _ H h2 (by rw [hoth d hne]; exact hd) (fun x hx => hnd x (List.mem_cons_of_mem _ hx)) ?_ fun ta' ht => hK ta' fun x hx => ?_
    · intro x hx
      cases e : o.dst with
      | none => rw [e] at hx; exact hkn x hx
      | some y =>
        rw [e] at hx
        show tset ta y undef x = undef
        by_cases hxy : x = y
        · subst hxy; exact tset_same _ _ _
        · rw [tset_ne _ _ _ _ hxy]
          exact hkn x ((List.mem_cons.1 hx).resolve_left hxy)
    · have h3 : x ∉ dsts l := fun h => hx ((dsts_cons o l x).2 (.inr h))
      rw [ht x h3]
      exact hoth x (fun e => hx ((dsts_cons o l x).2 (.inl e)))

/-- Only the objects that were there, as they were. -/
def cutC (c2 : Ctx) (h : List VO) : Ctx := ⟨c2.n0, c2.F, fun i => if i < h.length then c2.ρ i else none, h, c2.hs⟩

theorem cut_get {c2 : Ctx} {h x : List VO} (e : c2.h = h ++ x) {i : Nat} (hi : i < h.length) : c2.h[i]? = h[i]? := by rw [e, List.getElem?_append_left hi]

theorem RL_cut {c0 c2 : Ctx} {x : List VO} (e : c2.h = c0.h ++ x) {v : VV} {a0 a : Value} (h0 : RL c0 v a0) (h : RL c2 v a) : RL (cutC c2 c0.h) v a := by
  cases v with
  | pl v => exact h
  | fz o t l => exact h
  | own i =>
    simp only [RL] at h0 h ⊢
    cases hi : c0.h[i]? with
    | none => rw [hi] at h0; exact h0.elim
    | some o =>
      have hlt := ltl_of_get hi
      rw [cut_get e hlt] at h
      show (match c0.h[i]? with | some (.lst _ _ l _) => _ | some (.dead _) => _ | _ => False)
      rw [hi] at h ⊢
      have hρ : (cutC c2 c0.h).ρ i = c2.ρ i := if_pos hlt
      cases o with
      | box _ _ => exact h
      | lst _ _ _ _ => simp only [hρ]; exact h
      | dead _ => simp only [hρ]; exact h
  | ptr i off =>
    obtain ⟨b0, cs0, fr0, k1, _⟩ := h0
    obtain ⟨b, cs, fr, h1, h2, h3⟩ := h
    have hlt := ltl_of_get k1
    rw [cut_get e hlt] at h1
    exact ⟨b, cs, fr, h1, (show (if i < c0.h.length then c2.ρ i else none) = _ by rw [if_pos hlt]; exact h2), h3⟩
  | eptr i ix off =>
    obtain ⟨b0, _, k2⟩ := h0
    obtain ⟨b, h1, h2⟩ := h
    cases hi : c0.h[i]? with
    | none => rw [hi] at k2; exact k2.elim
    | some o =>
      have hlt := ltl_of_get hi
      rw [cut_get e hlt] at h2
      exact ⟨b, (show (if i < c0.h.length then c2.ρ i else none) = _ by rw [if_pos hlt]; exact h1), h2⟩
  | fptr o t l ix off => exact h
  | hof i => exact h
  | undef => trivial
  | agg l => exact h
  | tup l => exact h
  | bx l off => exact h
  | fn f l => exact h
  | nw t l => exact h

theorem All2.two {α β : Type} {R S T : α → β → Prop} (h : ∀ a b b', R a b → S a b' → T a b') : ∀ {l : List α} {m m' : List β}, All2 R l m → All2 S l m' → All2 T l m'
  | _, _, _, .nil, .nil => .nil
  | _, _, _, .cons h1 t1, .cons h2 t2 => .cons (h _ _ _ h1 h2) (All2.two h t1 t2)

theorem R1_cut {c0 c2 : Ctx} {x : List VO} (e : c2.h = c0.h ++ x) {v : VV} {a0 a : Value} (h0 : R1 c0 v a0) (h : R1 c2 v a) : R1 (cutC c2 c0.h) v a := by
  cases v
  case agg l =>
    obtain ⟨as0, _, k⟩ := h0
    obtain ⟨azz, h1, h2⟩ := h
    exact ⟨azz, h1, All2.two (T := RL (cutC c2 c0.h)) (fun _ _ _ a b => RL_cut e a b) k h2⟩
  case bx l off =>
    obtain ⟨b0, B0, _, _, k⟩ := h0
    obtain ⟨b, B, h1, h2, h3⟩ := h
    exact ⟨b, B, h1, h2, All2.two (T := RL (cutC c2 c0.h)) (fun _ _ _ a b => RL_cut e a b) k h3⟩
  all_goals exact RL_R1 (RL_cut e (R1_leaf (fun _ e => by cases e) (fun _ _ e => by cases e) h0) (R1_leaf (fun _ e => by cases e) (fun _ _ e => by cases e) h))

theorem R2_cut {c0 c2 : Ctx} {x : List VO} (e : c2.h = c0.h ++ x) {v : VV} {a0 a : Value} (h0 : R2 c0 v a0) (h : R2 c2 v a) : R2 (cutC c2 c0.h) v a := by
  cases v
  case tup l =>
    obtain ⟨as0, _, k⟩ := h0
    obtain ⟨azz, h1, h2⟩ := h
    exact ⟨azz, h1, All2.two (T := R1 (cutC c2 c0.h)) (fun _ _ _ a b => R1_cut e a b) k h2⟩
  case fn f l =>
    obtain ⟨as0, _, k⟩ := h0
    obtain ⟨azz, h1, h2⟩ := h
    exact ⟨azz, h1, All2.two (T := R1 (cutC c2 c0.h)) (fun _ _ _ a b => R1_cut e a b) k h2⟩
  all_goals exact R1_R2 (R1_cut e (R2_flat (fun _ e => by cases e) (fun _ _ e => by cases e) h0) (R2_flat (fun _ e => by cases e) (fun _ _ e => by cases e) h))

theorem Ok.cut {c0 c2 : Ctx} {x : List VO} {H2 : AHeap} (k0 : Ok F0 H0 c0 H) (k2 : Ok F0 H0 c2 H2) (hle : Le c0 c2) (e : c2.h = c0.h ++ x) : Ok F0 H0 (cutC c2 c0.h) H2 ∧ Le c0 (cutC c2 c0.h) := by
  have hgi : ∀ i o, c0.h[i]? = some o → c2.h[i]? = some o := fun i o h => by rw [cut_get e (ltl_of_get h)]; exact h
  have hρ : ∀ i, i < c0.h.length → (cutC c2 c0.h).ρ i = c2.ρ i := fun i hi => if_pos hi
  refine ⟨{
    n0 := k2.n0, pre := k2.pre, fz := k2.fz, low := k2.low
    obj := fun i o hi => by
      have hi : c0.h[i]? = some o := hi
      have hlt := ltl_of_get hi
      have ok2 := k2.obj i o (hgi i o hi)
      have ok0 := k0.obj i o hi
      exact {
        lo := fun b e' => ok2.lo b (by rw [← hρ i hlt]; exact e')
        box := fun cs fr e' => by
          obtain ⟨b0, as0, _, _, m3, _⟩ := ok0.box cs fr e'
          obtain ⟨b, azz, h1, h2, h3, h4, h5⟩ := ok2.box cs fr e'
          exact ⟨b, azz, (hρ i hlt).trans h1, h2, All2.two (T := RL (cutC c2 c0.h)) (fun _ _ _ a b => RL_cut e a b) m3 h3, h4, h5⟩
        lst := fun q t l fr e' => by
          rw [hρ i hlt]
          exact ok2.lst q t l fr e'
        dead := fun b e' e'' => ok2.dead b e' (by rw [← hρ i hlt]; exact e'') }
    inj := fun i j b hij hi hj => by
      have hi : (if i < c0.h.length then c2.ρ i else none) = some b := hi
      have hj : (if j < c0.h.length then c2.ρ j else none) = some b := hj
      split at hi
      · split at hj
        · rename_i h1 h2
          rcases k2.inj i j b hij hi hj with h | h
          · left; rw [cut_get e h1] at h; exact h
          · right; rw [cut_get e h2] at h; exact h
        · cases hj
      · cases hi
    dom := fun i hi => if_neg (by have : c0.h.length ≤ i := hi; omega) }, {
    n0 := hle.n0, F := hle.F, hs := hle.hs, len := Nat.le_refl _
    ρ := fun i hi => (hρ i hi).trans (hle.ρ i hi)
    h := fun i o ho => ⟨o, ho, VO.le_refl o⟩ }⟩

theorem dsts_mem {d : Nat} : ∀ {l : List Oper}, d ∈ dsts l → ∃ z ∈ l, z.dst = some d
  | [], h => by cases h
  | z :: l, h => by
    rcases (dsts_cons z l d).1 h with h | h
    · exact ⟨z, List.mem_cons_self, h⟩
    · obtain ⟨z', h1, h2⟩ := dsts_mem h; exact ⟨z', List.mem_cons_of_mem _ h1, h2⟩

/-- The operations of a region, one behind the other. -/
theorem vops_sound : ∀ (m : Nat) (g : Option (Nat × Bool)) (l : List Oper) {c : Ctx} {s : VS} {ta : Temps} {H : AHeap} {k : VS → Prop} (fs : List Bool), Env G H0 c fl n ops → Rel F0 H0 c s ta H → gOk ops g ta → (∀ o ∈ l, opOk n ops o = true) →
    (∀ j w d, g = some (j, w) → (ops[j]?).bind (·.dst) = some d → ∀ o ∈ l, o.dst ≠ some d) → vops G ops m g l s k → WDrawn G.P fl ops fs l ta H fun ta' H' => After F0 H0 c k ta' H' ∧ ∀ d, d ∉ dsts l → ta' d = ta d := by
  intro m
  induction m with
  | zero => intro g l c s ta H k fs _ _ _ _ _ h; exact h.elim
  | succ m ih =>
    intro g l c s ta H k fs he hr hg hop hgd hv
    cases l with
    | nil => exact D_nil ⟨⟨s, c, Le.refl c, hr, hv⟩, fun _ _ => rfl⟩
    | cons o rest =>
      unfold vops at hv
      split at hv
      · rename_i hge
        have hge := guardEq_eq hge
        show WOp G.P fl (if fs.headD false then fl else H.length) ops o ta H _
        refine vstep_sound he hr (hop o List.mem_cons_self) (wanted_g hg hge) hv (by split; exact Nat.le_trans he.fl hr.2.1.pre.len; exact Nat.le_refl _) ?_
        rintro ta' H' hoth ⟨s', c', hle, hr', hk⟩
        refine D_mono (fun t H h => ⟨After.le hle h.1, fun d hd => (h.2 d (fun hm => hd ((dsts_cons o rest d).2 (.inr hm)))).trans (hoth d (fun e => hd ((dsts_cons o rest d).2 (.inl e))))⟩) (ih g rest fs.tail (he.le hle) hr' ?_ (fun x hx => hop x (List.mem_cons_of_mem _ hx)) (fun j w d e1 e2 x hx => hgd j w d e1 e2 x (List.mem_cons_of_mem _ hx)) hk)
        unfold gOk at hg ⊢
        cases g with
        | none => trivial
        | some p =>
          obtain ⟨d, h1, h2⟩ := hg
          exact ⟨d, h1, by rw [hoth d (hgd _ _ d rfl h1 o List.mem_cons_self)]; exact h2⟩
      · split at hv
        · rename_i body res rest' j w hsp hgo
          have hl : o :: rest = body ++ res :: rest' := by
            have := spanG_eq g (o :: rest)
            rw [hsp] at this; exact this
          have hgres := guardEq_eq (spanG_res g hsp)
          rw [hl] at hop hgd ⊢
          clear hsp hgo
          split at hv
          · rename_i d cc x y r hd hres hrr
            split at hv
            · rename_i b hcond hlook
              simp only [Bool.and_eq_true, beq_iff_eq, bne_iff_ne, List.all_eq_true] at hcond
              obtain ⟨⟨⟨⟨hcd, hrd⟩, hbody⟩, hoff⟩, hconst⟩ := hcond
              subst hcd
              have hapd : ∀ z ∈ body, z.dst ≠ some cc := by
                intro z hz e
                have := (hbody z hz).1
                unfold apartD at this
                rw [e] at this
                simp at this
              have hq : ∀ z ∈ body, quietOp z.op = true := fun z hz => (hbody z hz).2
              have htd : ta cc = .bool b := by
                have := hr.2.2 cc
                rw [hlook] at this
                exact (R2_pl this).1
              have hcd2 : cc ∉ dsts body := fun hm => by obtain ⟨z, hz, e⟩ := dsts_mem hm; exact hapd z hz e
              have hgdb : ∀ p d, g = some p → (ops[p.1]?).bind (·.dst) = some d → d ∉ dsts body := by
                intro p d e1 e2 hm
                obtain ⟨z, hz, e⟩ := dsts_mem hm
                exact hgd p.1 p.2 d e1 e2 z (List.mem_append_left _ hz) e
              have gkeep : ∀ ta3 : Temps, (∀ d, d ∉ dsts body → ta3 d = ta d) → gOk ops g ta3 := by
                intro ta3 h3
                unfold gOk at hg ⊢
                cases g with
                | none => trivial
                | some p =>
                  obtain ⟨d, h1, h2⟩ := hg
                  exact ⟨d, h1, by rw [h3 d (hgdb p d rfl h1)]; exact h2⟩
              have hco : ∀ ta3 : Temps, eval ta3 (if w = true then y else x) = .bool (!w) := by
                intro ta3
                unfold constBool at hconst
                split at hconst
                · rename_i e; rw [e]; simp only [Option.some.injEq] at hconst; rw [hconst]; rfl
                · cases hconst
              -- what stands behind the choice
              have back : ∀ (v : Bool) (c3 : Ctx) (ta3 : Temps) (H3 : AHeap) (fs' : List Bool), Le c c3 → c3.h = s.h → Ok F0 H0 c3 H3 → Tok c3 (undefs body s.t) ta3 → (∀ d, d ∉ dsts body → ta3 d = ta d) → eval ta3 (if b = true then x else y) = .bool v →
                  vops G ops m g rest' ⟨(r, .pl (.bool v)) :: undefs body s.t, s.h⟩ k → WDrawn G.P fl ops fs' (res :: rest') ta3 H3 fun ta' H' => After F0 H0 c k ta' H' ∧ ∀ d, d ∉ dsts (body ++ res :: rest') → ta' d = ta d := by
                intro v c3 ta3 H3 fs' hle3 hh3 hok3 ht3 hoth hev hk
                have hg3 := gkeep ta3 hoth
                refine D_pure (v := .bool v) (wanted_g hg3 hgres) ?_ ?_
                · rw [hres]
                  have e1 : eval ta3 (.tmp cc) = .bool b := (hoth cc hcd2).trans htd
                  simp only [prim, e1]
                  cases b
                  · have hev : eval ta3 y = .bool v := hev
                    simp [hev]
                  · have hev : eval ta3 x = .bool v := hev
                    simp [hev]
                · rw [hrr]
                  have hset : Tok c3 ((r, .pl (.bool v)) :: undefs body s.t) (tset ta3 r (.bool v)) := ht3.set (show R2 c3 (.pl (.bool v)) (.bool v) from ⟨rfl, rfl⟩) r
                  have hg4 : gOk ops g (tset ta3 r (.bool v)) := by
                    unfold gOk at hg3 ⊢
                    cases g with
                    | none => trivial
                    | some p =>
                      obtain ⟨d, h1, h2⟩ := hg3
                      refine ⟨d, h1, ?_⟩
                      rw [tset_ne _ _ _ _ (fun e => hgd _ _ d rfl h1 res (List.mem_append_right _ List.mem_cons_self) (by rw [hrr, e]))]
                      exact h2
                  refine D_mono ?_ (ih g rest' (s := ⟨(r, .pl (.bool v)) :: undefs body s.t, s.h⟩) fs'.tail (he.le hle3) ⟨hh3, hok3, hset⟩ hg4 (fun z hz => hop z (List.mem_append_right _ (List.mem_cons_of_mem _ hz))) (fun j w d e1 e2 z hz => hgd j w d e1 e2 z (List.mem_append_right _ (List.mem_cons_of_mem _ hz))) hk)
                  rintro t4 H4 ⟨hA, hB⟩
                  refine ⟨After.le hle3 hA, fun d hdd => ?_⟩
                  rw [dsts_app] at hdd
                  have h1 : d ∉ dsts body := fun h => hdd (List.mem_append_left _ h)
                  have h2 : d ∉ dsts rest' := fun h => hdd (List.mem_append_right _ ((dsts_cons res rest' d).2 (.inr h)))
                  have h3 : d ≠ r := fun h => hdd (List.mem_append_right _ ((dsts_cons res rest' d).2 (.inl (by rw [hrr, h]))))
                  rw [hB d h2]
                  show tset ta3 r _ d = _
                  rw [tset_ne _ _ _ _ h3]
                  exact hoth d h1
              have hopb : ∀ z ∈ body, opOk n ops z = true := fun z hz => hop z (List.mem_append_left _ hz)
              -- the group runs
              have run : b = w → ∀ (J : Bool → Prop), (∀ v, J v → vops G ops m g rest' ⟨(r, .pl (.bool v)) :: undefs body s.t, s.h⟩ k) →
                  (vops G ops m (some (j, w)) body s fun s2 => boolOf (evV s2.t (if b = true then x else y)) J) → WDrawn G.P fl ops fs (body ++ res :: rest') ta H fun ta' H' => After F0 H0 c k ta' H' ∧ ∀ d, d ∉ dsts (body ++ res :: rest') → ta' d = ta d := by
                intro hbw J hJ hrun
                rw [vops_quiet m _ body s _ hq] at hrun
                refine WDrawn_app body ?_
                refine D_mono ?_ (ih (some (j, w)) body fs he hr ⟨cc, hd, by rw [htd, hbw]⟩ hopb (fun j' w' d' e1 e2 z hz => by
                  cases e1
                  rw [hd] at e2; cases e2
                  exact hapd z hz) hrun)
                rintro ta2 H2 ⟨⟨s2, c2, hle2, ⟨hh2, hok2, ht2⟩, hk2, ⟨xs, hx2⟩, hlk⟩, hoth⟩
                unfold boolOf at hk2
                split at hk2
                · rename_i v hev
                  have hhx : c2.h = c.h ++ xs := by rw [hh2, hx2, hr.1]
                  obtain ⟨hok3, hle3⟩ := hr.2.1.cut hok2 hle2 hhx
                  refine back v (cutC c2 c.h) ta2 H2 _ hle3 hr.1 hok3 ?_ hoth ?_ (hJ v hk2)
                  · intro d
                    by_cases hdm : d ∈ dsts body
                    · rw [(undefs_look body s.t d).1 hdm]; trivial
                    · rw [(undefs_look body s.t d).2 hdm]
                      have h2 := ht2 d
                      rw [hlk d hdm] at h2
                      exact R2_cut hhx (hr.2.2 d) h2
                  · have hxo : operandOk n (if b = true then x else y) = true := by
                      have := operands_ok (hop res (List.mem_append_right _ List.mem_cons_self))
                      rw [hres] at this
                      split
                      · exact this x (by simp [Op.operands])
                      · exact this y (by simp [Op.operands])
                    have := ev_rel ht2 hxo
                    rw [hev] at this
                    exact (R2_pl this).1
                · exact hk2.elim
              -- the group is left out
              have skip : b = (!w) → vops G ops m g rest' ⟨(r, .pl (.bool (!w))) :: undefs body s.t, s.h⟩ k → WDrawn G.P fl ops fs (body ++ res :: rest') ta H fun ta' H' => After F0 H0 c k ta' H' ∧ ∀ d, d ∉ dsts (body ++ res :: rest') → ta' d = ta d := by
                intro hbw hk
                refine WDrawn_app body ?_
                refine off_sound (j := j) (w := w) (d := cc) hd body [] ta fs H hoff (by rw [htd, hbw]) hapd (fun x hx => by cases hx) fun ta' hoth => ?_
                refine back (!w) c ta' H _ (Le.refl c) hr.1 hr.2.1 ?_ hoth ?_ hk
                · intro d
                  by_cases hdm : d ∈ dsts body
                  · rw [(undefs_look body s.t d).1 hdm]; trivial
                  · rw [(undefs_look body s.t d).2 hdm, hoth d hdm]
                    exact hr.2.2 d
                · have := hco ta'
                  rw [hbw]
                  cases w <;> exact this
              split at hv
              · rename_i htot
                have htot' : ∀ z ∈ body, totalOp z.op = true := by simpa [List.all_eq_true] using htot
                by_cases hbw : b = w
                · refine run hbw (fun v => vops G ops m g rest' ⟨(r, .pl (.bool (if w = true then b && v else b || v))) :: undefs body s.t, s.h⟩ k) (fun v h => ?_) ?_
                  · rw [hbw] at h
                    cases w <;> simpa using h
                  · rw [hbw] at hv ⊢
                    exact hv
                · have hbw2 : b = (!w) := by cases b <;> cases w <;> simp_all
                  refine skip hbw2 ?_
                  obtain ⟨s2, h2⟩ := vops_total _ _ _ _ _ htot' hv
                  unfold boolOf at h2
                  split at h2
                  · rw [hbw2] at h2
                    cases w <;> simpa using h2
                  · exact h2.elim
              · unfold jn at hv
                cases b <;> cases w
                · exact run rfl _ (fun v h => h) (by simpa using hv)
                · exact skip rfl (by simpa using hv)
                · exact skip rfl (by simpa using hv)
                · exact run rfl _ (fun v h => h) (by simpa using hv)
            · exact hv.elim
          · exact hv.elim
        · exact hv.elim

end
end Go.Mach
