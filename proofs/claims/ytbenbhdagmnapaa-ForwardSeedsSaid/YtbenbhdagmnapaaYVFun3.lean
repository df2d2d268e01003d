/- Part of the proof. No condition. -/
import Derived.Test.YtbenbhdagmnapaaYVHav
import Derived.Test.YtbenbhdagmnapaaYFrame
namespace Go.Mach
set_option linter.unusedVariables false
set_option linter.unusedSimpArgs false
section
variable {G : Cfg} {F0 : Fz} {H0 : aA} {c c' : Ctx} {H H' : aA} {s : VS} {ta : aF} {n fl : Nat} {ops : Array Oper}
def RW (c : Ctx) (b : Nat) : Option Nat -> Prop
 | some i => c.ρ i = some b
 | none => ∃ B, c.F b = some B
theorem aOV {v : VV} {a : Value} (h : RL c v a) {locs : List (Option Nat)} (hl : UU v = some locs) : ∀ b ∈ cB a, ∃ x ∈ locs, RW c b x := by
  cases v with
  | pl v =>
    obtain ⟨rfl, hp⟩ := h
    intro b hb
    cases a <;> simp only [cB] at hb <;> try (cases hb; done)
    case pointer x => cases x with
      | none => cases hb
      | some _ => cases hp
    case slice x _ _ => cases x with
      | none => cases hb
      | some _ => cases hp
  | own i =>
    cases hl
    intro b hb
    simp only [RL] at h
    cases hi : c.h[i]? with
    | none => rw [hi] at h; exact h.elim
    | some o =>
      rw [hi] at h
      refine ⟨some i, by simp, ?_⟩
      cases o with
      | box _ _ => exact h.elim
      | lst _ _ _ _ =>
        simp only at h
        subst h
        cases hρ : c.ρ i with
        | none => rw [hρ] at hb; cases hb
        | some b' => rw [hρ] at hb; simp [sl, cB] at hb; subst hb; exact hρ
      | dead _ =>
        obtain ⟨_, _, rfl⟩ := h
        cases hρ : c.ρ i with
        | none => rw [hρ] at hb; cases hb
        | some b' => rw [hρ] at hb; simp [cB] at hb; subst hb; exact hρ
  | ptr i off =>
    cases hl
    intro b hb
    obtain ⟨b', cs, fr, h1, h2, rfl⟩ := h
    simp [cB] at hb
    subst hb
    exact ⟨some i, by simp, h2⟩
  | mptr i off =>
    cases hl
    intro b hb
    rcases h with rfl | ⟨b', h1, h2, rfl⟩
    · cases hb
    · simp [cB] at hb
      subst hb
      exact ⟨some i, by simp, h1⟩
  | eptr i ix off =>
    cases hl
    intro b hb
    obtain ⟨b', h1, h2⟩ := h
    have : b = b' := by
      split at h2
      · obtain ⟨_, rfl⟩ := h2; simpa [cB] using hb
      · obtain ⟨_, rfl⟩ := h2; simpa [cB] using hb
      · exact h2.elim
    subst this
    exact ⟨some i, by simp, h1⟩
  | fptr o t l ix off =>
    cases hl
    intro b hb
    obtain ⟨b', q, B, x, cs, rfl, h2, _⟩ := h
    simp [cB] at hb
    subst hb
    exact ⟨none, by simp, B, D6 _ _ h2⟩
  | hof i => cases hl
  | undef => cases hl
  | fz o t l => cases hl
  | agg l => exact h.elim
  | tup l => exact h.elim
  | bx l off => exact h.elim
  | fn f l => exact h.elim
  | nw t l => exact h.elim
theorem X6 {v : VV} {a : Value} (h : R2 c v a) {locs : List (Option Nat)} (hl : UU v = some locs) : ∀ b ∈ cB a, ∃ x ∈ locs, RW c b x := by
 cases v
 case tup l => obtain ⟨azz, rfl, _⟩ := h; intro b hb; cases hb
 case fn f l => obtain ⟨azz, rfl, _⟩ := h; intro b hb; cases hb
 case agg l => obtain ⟨azz, rfl, _⟩ := h; intro b hb; cases hb
 case bx l off =>
  obtain ⟨b', B, rfl, h2, _⟩ := h
  cases hl
  intro b hb
  simp [cB] at hb
  subst hb
  exact ⟨none, by simp, B, h2⟩
 all_goals exact aOV (aG1 (fun _ e => by cases e) (fun _ _ e => by cases e) (aGI (fun _ e => by cases e) (fun _ _ e => by cases e) h)) hl
theorem aA2 : ∀ {vs : List VV} {azz : List Value}, All2 (R2 c) vs azz -> ∀ {locs : List (Option Nat)}, aBx vs = some locs -> ∀ b ∈ azz.flatMap cB, ∃ x ∈ locs, RW c b x
  | _, _, .nil, locs, h, b, hb => by cases hb
  | v :: vs, a :: azz, .cons h t, locs, hl, b, hb => by
    unfold aBx at hl
    split at hl
    · rename_i x y h1 h2
      cases hl
      rw [List.flatMap_cons, List.mem_append] at hb
      rcases hb with hb | hb
      · obtain ⟨z, h3, h4⟩ := X6 h h1 b hb; exact ⟨z, List.mem_append_left _ h3, h4⟩
      · obtain ⟨z, h3, h4⟩ := aA2 t h2 b hb; exact ⟨z, List.mem_append_right _ h3, h4⟩
    · cases hl
theorem aDM {op : Op} (ht : Tok c s.t ta) (hx : ∀ x ∈ op.operands.toList, aJ n x = true) {locs : List (Option Nat)} (hl : aN3 op s.t = some locs) : ∀ b ∈ j7 op (eval ta), ∃ x ∈ locs, RW c b x := by
  cases op
  case load ty a => exact X6 (cA ht (hx a (by simp [Op.operands]))) hl
  case store ty a y => exact X6 (cA ht (hx a (by simp [Op.operands]))) hl
  case convert p d x => exact X6 (cA ht (hx x (by simp [Op.operands]))) hl
  case call cl =>
    have hargs := vJ ht (l := cl.args.toList) (fun x h => hx x (by simp only [Op.operands, Call.operands, Array.toList_append]; exact List.mem_append_right _ h))
    have e2 : (cl.args.map (eval ta)).toList = cl.args.toList.map (eval ta) := by simp
    simp only [aN3, j7] at hl ⊢
    cases hc : cl.callee with
    | builtin bt =>
      rw [hc] at hl
      cases bt <;> first
        | (simp only [e2]; exact aA2 hargs hl)
        | (intro b hb; cases hb)
    | value f => intro b hb; cases hb
    | invoke f m => intro b hb; cases hb
  all_goals (intro b hb; cases hb)
theorem aFs {op : Op} (ht : Tok c s.t ta) (hx : ∀ x ∈ op.operands.toList, aJ n x = true) {locs : List (Option Nat)} (hl : wrV op s.t = some locs) : ∀ b ∈ tQ op (eval ta), ∃ x ∈ locs, RW c b x := by
  cases op
  case store ty a y => exact X6 (cA ht (hx a (by simp [Op.operands]))) hl
  case call cl =>
    have hax : ∀ x ∈ cl.args.toList, aJ n x = true := fun x h => hx x (by simp only [Op.operands, Call.operands, Array.toList_append]; exact List.mem_append_right _ h)
    have key : ∀ locs, (match cl.args.toList with
        | x :: _ => UU (evV s.t x)
        | [] => some []) = some locs -> ∀ b ∈ (cl.args.map (eval ta))[0]?.elim [] cB, ∃ x ∈ locs, RW c b x := by
      intro locs hl b hb
      have e3 : (cl.args.map (eval ta))[0]? = (cl.args.toList.map (eval ta))[0]? := by
        rw [<- Array.getElem?_toList]; simp
      rw [e3] at hb
      split at hl
      · rename_i x l e4
        rw [e4] at hb
        exact X6 (cA ht (hax x (by rw [e4]; exact List.mem_cons_self))) hl b (by simpa using hb)
      · rename_i e4; rw [e4] at hb; simp at hb
    simp only [wrV, tQ] at hl ⊢
    cases hc : cl.callee with
    | builtin bt =>
      rw [hc] at hl
      cases bt <;> first
        | exact key _ hl
        | (intro b hb; cases hb)
    | value f => intro b hb; cases hb
    | invoke f m => intro b hb; cases hb
  all_goals (intro b hb; cases hb)
theorem aHx (hr : Rel F0 H0 c s ta H) {x y : List (Option Nat)} {xs ys : List Nat} (h : aGq s.h (some x) (some y) = true) (hx : ∀ b ∈ xs, ∃ z ∈ x, RW c b z) (hy : ∀ b ∈ ys, ∃ z ∈ y, RW c b z) : TQ xs ys = true := by
  obtain ⟨hh, hok, ht⟩ := hr
  have h : (x.all fun x => y.all fun y => U7 s.h x y) = true := by
    cases x with
    | nil => rfl
    | cons _ _ =>
      cases y with
      | nil => simp
      | cons _ _ => exact h
  simp only [List.all_eq_true] at h
  unfold TQ
  simp only [List.all_eq_true, bne_iff_ne]
  intro b hb b' hb' e
  subst e
  obtain ⟨z, hz, hz2⟩ := hx b hb
  obtain ⟨w, hw, hw2⟩ := hy b hb'
  have ha := h z hz w hw
  have own : ∀ i, c.ρ i = some b -> U7.ownB (bI s.h i) = true -> c.F b = none /\ c.h[i]? ≠ some (.dead false) := by
    intro i hi ho
    have hlt := hok.lt hi
    have hg : c.h[i]? = some (bI s.h i) := by
      rw [<- hh]
      unfold bI
      rw [List.getD_eq_getElem?_getD, List.getElem?_eq_getElem hlt]; rfl
    have ob := hok.obj i _ hg
    cases e : bI s.h i with
    | box cs fr =>
      rw [e] at ho hg
      obtain ⟨b', azz, k1, _, _, _, k5⟩ := ob.box cs fr e
      rw [hi] at k1; cases k1
      refine ⟨k5 (by cases fr <;> first | rfl | cases ho), by rw [hg]; intro e; cases e⟩
    | lst q t l fr =>
      rw [e] at ho hg
      obtain ⟨azz, ex, _, _, _, k4⟩ := (ob.lst q t l fr e).2 b hi
      refine ⟨k4 (by cases fr <;> first | rfl | cases ho), by rw [hg]; intro e; cases e⟩
    | dead d =>
      rw [e] at ho hg
      have : d = true := ho
      subst this
      exact ⟨ob.dead b e hi, by rw [hg]; intro e; cases e⟩
  cases z with
  | some i =>
    cases w with
    | some j =>
      unfold U7 at ha
      simp only [Bool.and_eq_true, bne_iff_ne] at ha
      rcases hok.inj i j b ha.1.1 hz2 hw2 with e | e
      · exact (own i hz2 ha.1.2).2 e
      · exact (own j hw2 ha.2).2 e
    | none =>
      obtain ⟨B, hB⟩ := hw2
      rw [(own i hz2 ha).1] at hB; cases hB
  | none =>
    cases w with
    | some j =>
      obtain ⟨B, hB⟩ := hz2
      rw [(own j hw2 ha).1] at hB; cases hB
    | none => cases ha
theorem aFp (hr : Rel F0 H0 c s ta H) {X Y : Option (List (Option Nat))} {xs ys : List Nat} (h : aGq s.h X Y = true) (hx : ∀ x, X = some x -> ∀ b ∈ xs, ∃ z ∈ x, RW c b z) (hy : ∀ y, Y = some y -> ∀ b ∈ ys, ∃ z ∈ y, RW c b z) : TQ xs ys = true := by
  cases X with
  | some x =>
    cases Y with
    | some y => exact aHx hr h (hx x rfl) (hy y rfl)
    | none =>
      cases x with
      | nil =>
        have : xs = [] := List.eq_nil_iff_forall_not_mem.2 fun b hb => by obtain ⟨z, hz, _⟩ := hx [] rfl b hb; cases hz
        rw [this]; rfl
      | cons _ _ => cases h
  | none =>
    cases Y with
    | none => cases h
    | some y =>
      cases y with
      | nil =>
        have : ys = [] := List.eq_nil_iff_forall_not_mem.2 fun b hb => by obtain ⟨z, hz, _⟩ := hy [] rfl b hb; cases hz
        rw [this]; unfold TQ; simp
      | cons _ _ => cases h
theorem aIO (hr : Rel F0 H0 c s ta H) (hop : ∀ o ∈ ops.toList, q7 n ops o = true) {p : Nat × Nat} (h : aJh ops s p = true) : i0 ops ta p = true := by
 unfold aJh at h
 unfold i0
 split at h
 ·rename_i oi oj h1 h2
  rw [h1, h2]
  have m1 : oi ∈ ops.toList := by rw [<- Array.getElem?_toList] at h1; exact List.mem_of_getElem? h1
  have m2 : oj ∈ ops.toList := by rw [<- Array.getElem?_toList] at h2; exact List.mem_of_getElem? h2
  simp only [Bool.and_eq_true] at h ⊢
  obtain ⟨ha, hb⟩ := h
  exact ⟨aFp hr ha (fun x e => aFs hr.2.2 (jH (hop oi m1)) e) (fun y e => aDM hr.2.2 (jH (hop oj m2)) e),
   aFp hr hb (fun x e => aDM hr.2.2 (jH (hop oi m1)) e) (fun y e => aFs hr.2.2 (jH (hop oj m2)) e)⟩
 ·cases h
theorem aD1 {id : Nat} {draw : Bool} {k : VS -> Prop} (he : Env G H0 c fl n ops) (hr : Rel F0 H0 c s ta H) (hop : ∀ o ∈ ops.toList, q7 n ops o = true) (hv : NV G ops draw s k) {Q : dY -> aF -> aA -> Prop}
    (hQ : ∀ ta' H', After F0 H0 c k ta' H' -> Q .normal ta' H') : W G.P fl (.region id ops draw) ta H Q := by
  unfold NV at hv
  split at hv
  · refine aJt (ops.toList.map fun _ => true) [] (.inr ⟨rfl, rfl⟩) ?_
    refine T6 ?_ (KJ (ops.size + 1) none ops.toList _ he hr trivial hop (fun j w d e => by cases e) hv)
    rintro t' H' ⟨hA, _⟩
    exact ⟨rfl, hQ t' H' hA⟩
  · split at hv
    · rename_i hd
      refine aJt (HA ops (bU ops.toList #[]) 0 ops.toList) (pG ops (bU ops.toList #[])) (.inl ⟨rfl, ?_⟩) ?_
      · unfold EP
        simp only [hd, Bool.true_and]
        simp
      · refine T6 ?_ (KJ (ops.size + 1) none ops.toList _ he hr trivial hop (fun j w d e => by cases e) hv)
        rintro t' H' ⟨⟨s', c', hle, hr', hk⟩, _⟩
        split at hk
        · rename_i hcl
          refine ⟨?_, hQ t' H' ⟨s', c', hle, hr', hk⟩⟩
          rw [List.all_eq_true] at hcl ⊢
          exact fun p hp => aIO hr' hop (hcl p hp)
        · exact hk.elim
    · exact hv.elim
theorem YY : ∀ {l : List Oper} {p : List Oper} {o : Oper}, aEF l = some (p, o) -> l = p ++ [o]
  | [], p, o, h => by cases h
  | [x], p, o, h => by cases h; rfl
  | x :: y :: l, p, o, h => by
    simp only [aEF] at h
    split at h
    · rename_i e; cases e
    · rename_i q z e
      cases h
      have := YY (l := y :: l) e
      rw [this]; rfl
    · cases h
theorem aCx {b : Array Nat} : ∀ (p : List Oper) (i : Nat) (l : List Oper), (HA ops b i (p ++ l)).drop p.length = HA ops b (i + p.length) l
  | [], i, l => rfl
  | x :: p, i, l => by
    simp only [List.cons_append, HA, List.length_cons, List.drop_succ_cons]
    rw [aCx p (i + 1) l, show i + 1 + p.length = i + (p.length + 1) by omega]
def jN (P : Program) (J : Inl) : Prop := ∀ (g : FuncId) (args : List VV) (s : VS) (k : VV -> VS -> Prop), J.B g = true -> J.run g args s k ->
  ∀ (F0 : Fz) (H0 : aA) (c : Ctx) (H : aA) (fl : Nat) (ta : aF) (az : List Value), Rel F0 H0 c s ta H -> fl <= H0.length -> All2 (R2 c) args az ->
    WCall P fl g az.toArray H fun v H' => ∃ vv s2 c2, c2.hs = c.hs /\ Rel F0 H0 c2 s2 ta H' /\ R2 c2 vv v /\ k vv s2
theorem SD {id : Nat} {draw : Bool} {k : VS -> Prop} (he : Env G H0 c fl n ops) (hI : ∀ J, G.I = some J -> jN G.P J) (hr : Rel F0 H0 c s ta H) (hop : ∀ o ∈ ops.toList, q7 n ops o = true) (hv : aBu G ops draw s k) {Q : dY -> aF -> aA -> Prop}
    (hQ : ∀ ta' H' s' c', c'.hs = c.hs -> Rel F0 H0 c' s' ta' H' -> k s' -> Q .normal ta' H') : W G.P fl (.region id ops draw) ta H Q := by
  have plain : NV G ops draw s k -> W G.P fl (.region id ops draw) ta H Q := fun h0 =>
    aD1 he hr hop h0 fun ta' H' ⟨s', c', hle, hr', hk⟩ => hQ ta' H' s' c' hle.hs hr' hk
  unfold aBu at hv
  split at hv
  · exact plain hv
  rename_i J hJ
  split at hv
  · exact plain hv
  rename_i pre o f args he2
  unfold aJw at he2
  split at he2
  case h_2 => cases he2
  rename_i pre' o' hlast
  have hl := YY hlast
  split at he2
  case h_2 => cases he2
  rename_i cl hg hopc
  split at he2
  case h_2 => cases he2
  rename_i f' hc
  have key : ∃ g : List Bool, ((draw = true /\ EP ops g [] = true) \/ (draw = false /\ g = ops.toList.map fun _ => true)) /\ (g.drop pre'.length).headD false = true /\ some (pre', o', f', cl.args.toList) = some (pre, o, f, args) := by
    split at he2
    · refine ⟨_, .inr ⟨rfl, rfl⟩, ?_, he2⟩
      rw [hl]
      simp
    · split at he2
      · rename_i hd
        simp only [Bool.and_eq_true, List.isEmpty_iff] at hd
        obtain ⟨⟨h1, h2⟩, h3⟩ := hd
        refine ⟨HA ops (bU ops.toList #[]) 0 ops.toList, .inl ⟨rfl, ?_⟩, ?_, he2⟩
        · unfold EP
          simp only [h1, h2, List.all_nil, Bool.true_and, Bool.and_true, beq_self_eq_true, Bool.and_self]
        · have e1 : HA ops (bU ops.toList #[]) 0 ops.toList = HA ops (bU ops.toList #[]) 0 (pre' ++ [o']) := by rw [<- hl]
          rw [e1, aCx pre' 0 [o'], Nat.zero_add]
          have hk : bC o'.op = 4 := by rw [hopc]; simp only [bC, hc]
          simp only [HA, List.headD_cons, hk, h3, beq_self_eq_true, Bool.and_self]
      · cases he2
  obtain ⟨g, hd, hhead, he3⟩ := key
  simp only [Option.some.injEq, Prod.mk.injEq] at he3
  obtain ⟨rfl, rfl, rfl, rfl⟩ := he3
  refine aJt g [] hd ?_
  rw [hl]
  refine CQ pre' ?_
  have hopp : ∀ x ∈ pre', q7 n ops x = true := fun x hx => hop x (by rw [hl]; exact List.mem_append_left _ hx)
  have hopo : q7 n ops o' = true := hop o' (by rw [hl]; simp)
  refine T6 ?_ (KJ (ops.size + 1) none pre' g he hr trivial hopp (fun j w d e => by cases e) hv)
  rintro t1 H1 ⟨⟨s1, c1, hle, hr1, hk⟩, _⟩
  show WOp G.P fl (if (g.drop pre'.length).headD false then fl else H1.length) ops o' t1 H1 fun t' H' => WDrawn G.P fl ops (g.drop pre'.length).tail [] t' H' _
  rw [hhead, if_pos rfl]
  have hw : eG ops t1 o' = true := by unfold eG; rw [hg]
  have fin : ∀ t' H' s' c', c'.hs = c.hs -> Rel F0 H0 c' s' t' H' -> k s' -> WDrawn G.P fl ops (g.drop pre'.length).tail [] t' H' fun t' H' => ([] : List (Nat × Nat)).all (i0 ops t') = true /\ Q .normal t' H' := by
    intro t' H' s' c' h1 h2 h3
    have : ∀ gs : List Bool, WDrawn G.P fl ops gs [] t' H' fun t' H' => ([] : List (Nat × Nat)).all (i0 ops t') = true /\ Q .normal t' H' := by
      intro gs
      cases gs <;> exact ⟨rfl, hQ t' H' s' c' h1 h2 h3⟩
    exact this _
  have hfl1 : fl <= H1.length := Nat.le_trans he.fl hr1.2.1.pre.len
  have one : RR G o' s1 k -> WOp G.P fl fl ops o' t1 H1 fun t' H' => WDrawn G.P fl ops (g.drop pre'.length).tail [] t' H' fun t' H' => ([] : List (Nat × Nat)).all (i0 ops t') = true /\ Q .normal t' H' := fun hv1 =>
    PL (he.le hle) hr1 hopo hw hv1 hfl1 fun t' H' _ _ ⟨s', c', hle', hr', hk'⟩ => fin t' H' s' c' (hle'.hs.trans hle.hs) hr' hk'
  split at hk
  · rename_i g' caps hev
    split at hk
    · rename_i hb
      simp only [Bool.and_eq_true] at hb
      have hx := (jH hopo)
      rw [hopc] at hx
      have hfx : aJ n f' = true := hx f' (by simp only [Op.operands, Call.operands, hc]; simp)
      have hax : ∀ x ∈ cl.args.toList, aJ n x = true := fun x h => hx x (by simp only [Op.operands, Call.operands, Array.toList_append]; exact List.mem_append_right _ h)
      have hf := cA hr1.2.2 hfx
      rw [hev] at hf
      obtain ⟨cp, e1, hcp⟩ := hf
      have hargs : All2 (R2 c1) (cl.args.toList.map (evV s1.t) ++ caps) (cl.args.toList.map (eval t1) ++ cp) := (vJ hr1.2.2 hax).app (hcp.mono fun v a h => HI h)
      unfold WOp
      rw [if_pos hw]
      have hp : aS G.P fl o'.op (eval t1) H1 = some (.enter g' (cl.args.toList.map (eval t1) ++ cp).toArray, H1) := by
        have : cl.args.map (eval t1) = (cl.args.toList.map (eval t1)).toArray := by apply Array.toList_inj.1; simp
        rw [hopc]
        simp only [aS, tG, hc, e1, hb.2, if_true, this]
        simp
      simp only [hp]
      refine WCall.mono (hI J hJ g' _ _ _ hb.1 hk F0 H0 c1 H1 fl t1 _ hr1 he.fl hargs) ?_
      rintro v H' ⟨vv, s2, c2, g1, g2, g3, g4⟩
      exact fin _ _ _ c2 (g1.trans hle.hs) ⟨by rw [aLV]; exact g2.1, g2.2.1, Tok.put (Le.refl c2) g2.2.2 g3⟩ g4
    · exact one hk
  · exact one hk
theorem aOZ {cells : List Value} {q : Nat} {v : Value} (h : InB cells q 1 [v]) : cells[q]? = some v := by
 obtain ⟨h1, h2⟩ := h
 have hlt : q < cells.length := by omega
 rw [List.drop_eq_getElem_cons hlt, List.take_succ_cons, List.take_zero] at h2
 simp only [List.cons.injEq, and_true] at h2
 rw [List.getElem?_eq_getElem hlt, h2]
theorem aCe {id : Nat} {draw : Bool} {live : List Nat} {k : VS -> Prop} (he : Env G H0 c fl n ops) (hI : ∀ J, G.I = some J -> jN G.P J) (hr : Rel F0 H0 c s ta H) (hop : ∀ o ∈ ops.toList, q7 n ops o = true) (hv : aCK G ops draw live s k) {Q : dY -> aF -> aA -> Prop}
    (hQ : ∀ ta' H' s' c', c'.hs = c.hs -> Rel F0 H0 c' s' ta' H' -> k s' -> Q .normal ta' H') : W G.P fl (.region id ops draw) ta H Q := by
  unfold aCK at hv
  split at hv
  · exact SD he hI hr hop hv hQ
  split at hv
  · exact SD he hI hr hop hv hQ
  rename_i pre o ty a x he2
  unfold aIW at he2
  split at he2
  case h_2 => cases he2
  rename_i pre' o' hlast
  have hl := YY hlast
  split at he2
  case h_2 => cases he2
  rename_i ty' a' x' hg hdst hopc
  have key : ∃ g : List Bool, ((draw = true /\ EP ops g [] = true) \/ (draw = false /\ g = ops.toList.map fun _ => true)) /\ some (pre', o', ty', a', x') = some (pre, o, ty, a, x) := by
    split at he2
    · exact ⟨_, .inr ⟨rfl, rfl⟩, he2⟩
    · split at he2
      · rename_i hd
        simp only [Bool.and_eq_true, List.isEmpty_iff] at hd
        obtain ⟨h1, h2⟩ := hd
        refine ⟨HA ops (bU ops.toList #[]) 0 ops.toList, .inl ⟨rfl, ?_⟩, he2⟩
        unfold EP
        simp only [h1, h2, List.all_nil, Bool.true_and, Bool.and_true, beq_self_eq_true, Bool.and_self]
      · cases he2
  obtain ⟨g, hd, he3⟩ := key
  simp only [Option.some.injEq, Prod.mk.injEq] at he3
  obtain ⟨rfl, rfl, rfl, rfl, rfl⟩ := he3
  refine aJt g [] hd ?_
  rw [hl]
  refine CQ pre' ?_
  have hopp : ∀ x ∈ pre', q7 n ops x = true := fun x hx => hop x (by rw [hl]; exact List.mem_append_left _ hx)
  have hopo : q7 n ops o' = true := hop o' (by rw [hl]; simp)
  refine T6 ?_ (KJ (ops.size + 1) none pre' g he hr trivial hopp (fun j w d e => by cases e) hv)
  rintro t1 H1 ⟨⟨s1, c1, hle, hr1, hk⟩, _⟩
  show WOp G.P fl (if (g.drop pre'.length).headD false then fl else H1.length) ops o' t1 H1 fun t' H' => WDrawn G.P fl ops (g.drop pre'.length).tail [] t' H' _
  have hw : eG ops t1 o' = true := by unfold eG; rw [hg]
  have fin : ∀ t' H' s' c', c'.hs = c.hs -> Rel F0 H0 c' s' t' H' -> k s' -> WDrawn G.P fl ops (g.drop pre'.length).tail [] t' H' fun t' H' => ([] : List (Nat × Nat)).all (i0 ops t') = true /\ Q .normal t' H' := by
    intro t' H' s' c' h1 h2 h3
    have : ∀ gs : List Bool, WDrawn G.P fl ops gs [] t' H' fun t' H' => ([] : List (Nat × Nat)).all (i0 ops t') = true /\ Q .normal t' H' := by
      intro gs
      cases gs <;> exact ⟨rfl, hQ t' H' s' c' h1 h2 h3⟩
    exact this _
  have hfl1 : fl <= H1.length := Nat.le_trans he.fl hr1.2.1.pre.len
  have hflc : (if (g.drop pre'.length).headD false then fl else H1.length) <= H1.length := by split <;> omega
  have one : RR G o' s1 k -> WOp G.P fl (if (g.drop pre'.length).headD false then fl else H1.length) ops o' t1 H1 fun t' H' => WDrawn G.P fl ops (g.drop pre'.length).tail [] t' H' fun t' H' => ([] : List (Nat × Nat)).all (i0 ops t') = true /\ Q .normal t' H' := fun hv1 =>
    PL (he.le hle) hr1 hopo hw hv1 hflc fun t' H' _ _ ⟨s', c', hle', hr', hk'⟩ => fin t' H' s' c' (hle'.hs.trans hle.hs) hr' hk'
  split at hk
  · rename_i kd l ix kd' v ha hx
    split at hk
    case isFalse => exact hk.elim
    rename_i hc
    obtain ⟨rfl, hsz⟩ := hc
    have hxs := jH hopo
    rw [hopc] at hxs
    have hax : aJ n a' = true := hxs a' (by simp [Op.operands])
    have hxx : aJ n x' = true := hxs x' (by simp [Op.operands])
    have h1 := cA hr1.2.2 hax
    have h2 := cA hr1.2.2 hxx
    rw [ha] at h1
    rw [hx] at h2
    obtain ⟨b, q, B, y, cs, e1, e2, e3, e4, e5⟩ := aBy h1
    obtain ⟨e6, _⟩ := dQ h2
    have e5 : cs = [.int kd y] := e5
    subst e5
    have hq := aOZ e4
    have hb : c1.n0 <= b := by
      unfold c9 at e2
      split at e2
      · cases e2
      · rename_i hn; simp at hn; exact hn
    have hF : c1.F b = some B := D6 _ _ e2
    have hbk := hr1.2.1.fz b B hF
    have hn0 := hr1.2.1.n0
    have hqlt : q < B.cells.length := (List.getElem?_eq_some_iff.1 hq).1
    have hsb : O8 G.P ty' B (q + 0) (eval t1 x') = some { B with cells := B.cells.set q (.int kd v) } := by
      unfold O8
      rw [e6]
      rw [if_pos ⟨hsz, by show q + 0 + 1 <= _; omega, rfl⟩]
      rfl
    obtain ⟨H', f1, f2, f3⟩ := YF (P := G.P) (fl := fl) hbk (by have := he.fl; omega) hsb
    unfold WOp
    rw [if_pos hw]
    have hp : aS G.P fl o'.op (eval t1) H1 = some (.skip, H') := by
      rw [hopc]
      simp only [aS, e1, f1, Option.map_some]
    simp only [hp]
    rw [hdst]
    show WDrawn G.P fl ops (g.drop pre'.length).tail [] t1 H' _
    obtain ⟨s2, c2, k1, k2, k3⟩ := aK8 hr1 hb hF rfl (.inr ⟨q, y, hq, rfl⟩) f3 f2 hk
    exact fin _ _ _ c2 (k1.trans hle.hs) k2 k3
  · exact one hk
end
end Go.Mach
namespace Go.Mach
set_option linter.unusedVariables false
set_option linter.unusedSimpArgs false
section
variable {G : Cfg} {F0 : Fz} {H0 : aA} {c c' : Ctx} {H H' : aA} {s : VS} {ta : aF} {n fl : Nat} {ops : Array Oper}
theorem JG : ∀ (n : Nat) {h : List VO} {todo acc : List Nat}, acc.Nodup -> (X1 n h todo acc).Nodup
  | 0, h, todo, acc, hn => hn
  | n + 1, h, [], acc, hn => hn
  | n + 1, h, i :: todo, acc, hn => by
    unfold X1
    split
    · exact JG n hn
    · rename_i hc
      refine JG n ?_
      rw [List.nodup_append]
      refine ⟨hn, by simp, ?_⟩
      intro a ha b hb e
      rw [List.mem_singleton] at hb
      subst hb; subst e
      have : acc.contains a = true := by simpa using ha
      rw [this] at hc; cases hc
theorem aAB : ∀ {ids : List Nat} {i n j : Nat}, C5 i ids n = some j -> n <= j /\ ids[j - n]? = some i
  | [], i, n, j, h => by cases h
  | x :: ids, i, n, j, h => by
    unfold C5 at h
    split at h
    · rename_i e; cases h; subst e; exact ⟨Nat.le_refl _, by simp⟩
    · obtain ⟨h1, h2⟩ := aAB h
      refine ⟨by omega, ?_⟩
      rw [show j - n = (j - (n + 1)) + 1 by omega, List.getElem?_cons_succ]
      exact h2
def PX (c : Ctx) (ids : List Nat) : Ctx := ⟨c.n0, c.F, fun j => (ids[j]?).bind c.ρ, ids.map fun i => aHQ ids (bI c.h i), c.hs⟩
theorem X9 {ids : List Nat} {i j : Nat} (h : C5 i ids 0 = some j) : (PX c ids).ρ j = c.ρ i /\ (PX c ids).h[j]? = some (aHQ ids (bI c.h i)) := by
 have := (aAB h).2
 rw [Nat.sub_zero] at this
 refine ⟨?_, ?_⟩
 ·show (ids[j]?).bind c.ρ = _
  rw [this]; rfl
 ·show (ids.map _)[j]? = _
  rw [List.getElem?_map, this]; rfl
theorem WU (ids : List Nat) {v : VV} {a : Value} (h : RL c v a) : RL (PX c ids) (aIf ids v) a := by
  cases v with
  | pl v => exact h
  | fz o t l => exact h
  | fptr o t l ix off => exact h
  | hof i => exact h
  | mptr i off => trivial
  | own i =>
    unfold aIf
    simp only
    split
    · rename_i j hj
      obtain ⟨k1, k2⟩ := X9 (c := c) hj
      simp only [RL] at h ⊢
      rw [k1, k2]
      cases hi : c.h[i]? with
      | none => rw [hi] at h; exact h.elim
      | some o =>
        rw [hi] at h
        rw [rU hi]
        cases o <;> exact h
    · trivial
  | ptr i off =>
    unfold aIf
    simp only
    split
    · rename_i j hj
      obtain ⟨k1, k2⟩ := X9 (c := c) hj
      obtain ⟨b, cs, fr, h1, h2, h3⟩ := h
      rw [rU h1] at k2
      exact ⟨b, _, fr, k2, k1.trans h2, h3⟩
    · trivial
  | eptr i ix off =>
    unfold aIf
    simp only
    split
    · rename_i j hj
      obtain ⟨k1, k2⟩ := X9 (c := c) hj
      obtain ⟨b, h1, h2⟩ := h
      refine ⟨b, k1.trans h1, ?_⟩
      rw [k2]
      cases hi : c.h[i]? with
      | none => rw [hi] at h2; exact h2.elim
      | some o =>
        rw [hi] at h2
        rw [rU hi]
        cases o <;> exact h2
    · trivial
  | undef => trivial
  | agg l => exact h.elim
  | tup l => exact h.elim
  | bx l off => exact h.elim
  | fn f l => exact h.elim
  | nw t l => exact h.elim
theorem aDy (ids : List Nat) {v : VV} {a : Value} (h : R1 c v a) : R1 (PX c ids) (aMm ids v) a := by
 cases v
 case agg l => obtain ⟨azz, h1, h2⟩ := h; exact ⟨azz, h1, h2.mapL fun v a h => WU ids h⟩
 case bx l off => obtain ⟨b, B, h1, h2, h3⟩ := h; exact ⟨b, B, h1, h2, h3.mapL fun v a h => WU ids h⟩
 all_goals exact aHO (WU ids (aG1 (fun _ e => by cases e) (fun _ _ e => by cases e) h))
theorem aMY (ids : List Nat) {v : VV} {a : Value} (h : R2 c v a) : R2 (PX c ids) (aPC ids v) a := by
 cases v
 case tup l => obtain ⟨azz, h1, h2⟩ := h; exact ⟨azz, h1, h2.mapL fun v a h => aDy ids h⟩
 case fn f l => obtain ⟨azz, h1, h2⟩ := h; exact ⟨azz, h1, h2.mapL fun v a h => aDy ids h⟩
 all_goals exact HI (aDy ids (aGI (fun _ e => by cases e) (fun _ _ e => by cases e) h))
theorem Ok.clean (h : Ok F0 H0 c H) {ids : List Nat} (hn : ids.Nodup) : Ok F0 H0 (PX c ids) H where
  n0 := h.n0
  pre := h.pre
  fz := h.fz
  low := h.low
  obj := fun j o hj => by
    have hj : (ids.map fun i => aHQ ids (bI c.h i))[j]? = some o := hj
    rw [List.getElem?_map] at hj
    cases e : ids[j]? with
    | none => rw [e] at hj; cases hj
    | some i =>
      rw [e] at hj
      have hj : aHQ ids (bI c.h i) = o := by simpa using hj
      subst hj
      have hρ : (PX c ids).ρ j = c.ρ i := by show (ids[j]?).bind c.ρ = _; rw [e]; rfl
      cases hi : c.h[i]? with
      | none =>
        have hg : bI c.h i = .dead false := by unfold bI; rw [List.getD_eq_getElem?_getD, hi]; rfl
        have hnone : c.ρ i = none := h.dom i (List.getElem?_eq_none_iff.1 hi)
        rw [hg]
        exact {
          lo := fun b e => by rw [hρ, hnone] at e; cases e
          box := fun _ _ e => (by cases e)
          lst := fun _ _ _ _ e => (by cases e)
          dead := fun _ e => (by cases e) }
      | some o =>
        rw [rU hi]
        have ob := h.obj i o hi
        exact {
          lo := fun b e => ob.lo b (by rw [<- hρ]; exact e)
          box := fun cs fr e => by
            cases o with
            | box cs' fr' =>
              cases e
              obtain ⟨b, azz, k1, k2, k3, k4⟩ := ob.box _ _ rfl
              exact ⟨b, azz, hρ.trans k1, k2, k3.mapL fun v a h => WU ids h, k4⟩
            | lst _ _ _ _ => cases e
            | dead _ => cases e
          lst := fun q t l fr e => by
            cases o with
            | box cs' fr' => cases e
            | dead _ => cases e
            | lst q' t' l' fr' => rw [hρ]; exact ob.lst q t l fr e
          dead := fun b e e' => by
            cases o with
            | box cs' fr' => cases e
            | lst _ _ _ _ => cases e
            | dead x => exact ob.dead b e (by rw [<- hρ]; exact e') }
  inj := fun i j b hij hi hj => by
    have hi : (ids[i]?).bind c.ρ = some b := hi
    have hj : (ids[j]?).bind c.ρ = some b := hj
    show (ids.map fun i => aHQ ids (bI c.h i))[i]? = _ \/ (ids.map fun i => aHQ ids (bI c.h i))[j]? = _
    rw [List.getElem?_map, List.getElem?_map]
    cases e1 : ids[i]? with
    | none => rw [e1] at hi; cases hi
    | some x =>
      cases e2 : ids[j]? with
      | none => rw [e2] at hj; cases hj
      | some y =>
        rw [e1] at hi
        rw [e2] at hj
        have hxy : x ≠ y := by
          intro e
          subst e
          have h1 := List.getElem?_eq_some_iff.1 e1
          have h2 := List.getElem?_eq_some_iff.1 e2
          obtain ⟨l1, g1⟩ := h1
          obtain ⟨l2, g2⟩ := h2
          have hp := List.pairwise_iff_getElem.1 hn
          rcases Nat.lt_trichotomy i j with hlt | he | hlt
          · exact hp i j l1 l2 hlt (g1.trans g2.symm)
          · exact hij he
          · exact hp j i l2 l1 hlt (g2.trans g1.symm)
        rcases h.inj x y b hxy hi hj with e | e
        · left; simp only [Option.map_some, rU e]; rfl
        · right; simp only [Option.map_some, rU e]; rfl
  dom := fun j hj => by
    have hj : (ids.map fun i => aHQ ids (bI c.h i)).length <= j := hj
    rw [List.length_map] at hj
    show (ids[j]?).bind c.ρ = none
    rw [List.getElem?_eq_none_iff.2 hj]; rfl
theorem Y7 {R : VV -> Value -> Prop} (hu : ∀ a, R .undef a) : ∀ (live : List Nat) (vs : List VV) {ta : aF}, All2 R vs (live.map ta) -> ∀ d, R (bL (aBj live vs) d) (ta d)
  | [], vs, ta, h, d => by cases h; exact hu _
  | x :: live, [], ta, h, d => by cases h
  | x :: live, v :: vs, ta, h, d => by
    cases h with
    | cons h t =>
      show R (if x = d then v else bL (aBj live vs) d) (ta d)
      split
      · rename_i e; subst e; exact h
      · exact Y7 hu live vs t d
theorem aHL {R : VV -> Value -> Prop} {f : Nat -> VV} {ta : aF} (h : ∀ d, R (f d) (ta d)) : ∀ live : List Nat, All2 R (live.map f) (live.map ta)
 | [] => .nil
 | x :: l => .cons (h x) (aHL h l)
theorem aAg (hr : Rel F0 H0 c s ta H) (live : List Nat) : ∃ c', c'.hs = c.hs /\ c'.n0 = c.n0 /\ c'.h = (aDH live s).2 /\ Ok F0 H0 c' H /\ All2 (R2 c') (aDH live s).1 (live.map ta) := by
 obtain ⟨hh, hok, ht⟩ := hr
 have hn := JG (2 * s.h.length + 40) (h := s.h) (todo := (live.map (bL s.t)).flatMap aOY) (acc := []) List.nodup_nil
 refine ⟨PX c (X1 (2 * s.h.length + 40) s.h ((live.map (bL s.t)).flatMap aOY) []), rfl, rfl, ?_, hok.clean hn, ?_⟩
 ·show (List.map _ _) = _
  rw [hh]; rfl
 ·show All2 _ ((live.map (bL s.t)).map _) _
  rw [List.map_map]
  exact aHL (fun d => aMY _ (ht d)) live
theorem aH6 {a b : VV} (h : aF7 a b = true) : a = b := by
 unfold aF7 at h
 split at h <;> first
  | (simp only [Bool.and_eq_true, beq_iff_eq, decide_eq_true_eq] at h; first | (obtain ⟨rfl, rfl⟩ := h; rfl) | (subst h; rfl))
  | rfl
  | cases h
theorem aF5 : ∀ {a b : List VV}, aGz a b = true -> a = b
  | [], [], _ => rfl
  | [], _ :: _, h => by cases h
  | _ :: _, [], h => by cases h
  | a :: l, b :: r, h => by
    unfold aGz at h
    simp only [Bool.and_eq_true] at h
    rw [aH6 h.1, aF5 h.2]
theorem aL5 {a b : VV} (h : aI7 a b = true) : a = b := by
 unfold aI7 at h
 split at h
 ·simp only [Bool.and_eq_true, beq_iff_eq] at h
  rw [h.1, aF5 h.2]
 ·exact aH6 h
theorem G3 {x : Lf} {v : VV} {K : x.den -> Prop} (h : unF x v K) : ∃ d, v = aAt x d /\ K d := by
  unfold unF at h
  split at h
  · split at h
    · split at h
      · rename_i e; subst e; exact ⟨_, rfl, h⟩
      · exact h.elim
    · exact h.elim
  · split at h
    · exact ⟨_, rfl, h⟩
    · exact h.elim
  · split at h
    · exact ⟨_, rfl, h⟩
    · exact h.elim
  · split at h
    · rename_i x; exact ⟨x, rfl, h⟩
    · exact h.elim
  · split at h
    · rename_i a b; exact ⟨(a, b), rfl, h⟩
    · exact h.elim
  · split at h
    · split at h
      · rename_i e
        subst e
        obtain ⟨e, h⟩ := Ty.at_inv h
        subst e
        exact ⟨_, rfl, h⟩
      · exact h.elim
    · exact h.elim
  · split at h
    · rename_i e; exact ⟨(), (aL5 e).symm, h⟩
    · exact h.elim
theorem BR : ∀ {l : List Lf} {vs : List VV} {K : aDW l -> Prop}, unL l vs K -> ∃ d, vs = aAU l d /\ K d
  | [], vs, K, h => by
    unfold unL at h
    split at h
    · exact ⟨(), rfl, h⟩
    · exact h.elim
  | x :: l, vs, K, h => by
    unfold unL at h
    split at h
    · obtain ⟨a, rfl, h1⟩ := G3 h
      obtain ⟨b, rfl, h2⟩ := BR h1
      exact ⟨(a, b), rfl, h2⟩
    · exact h.elim
theorem aJC {x : Cp} {v : VV} {K : x.den -> Prop} (h : aO4 x v K) : ∃ d, v = aJ6 x d /\ K d := by
 unfold aO4 at h
 split at h
 ·exact G3 h
 ·split at h
  ·obtain ⟨d, rfl, h1⟩ := BR h; exact ⟨d, rfl, h1⟩
  ·exact h.elim
 ·split at h
  ·obtain ⟨d, rfl, h1⟩ := BR h; exact ⟨d, rfl, h1⟩
  ·exact h.elim
theorem aFy : ∀ {l : List Cp} {vs : List VV} {K : aJ4 l -> Prop}, unC l vs K -> ∃ d, vs = aJs l d /\ K d
  | [], vs, K, h => by
    unfold unC at h
    split at h
    · exact ⟨(), rfl, h⟩
    · exact h.elim
  | x :: l, vs, K, h => by
    unfold unC at h
    split at h
    · obtain ⟨a, rfl, h1⟩ := aJC h
      obtain ⟨b, rfl, h2⟩ := aFy h1
      exact ⟨(a, b), rfl, h2⟩
    · exact h.elim
theorem aIy {x : Sh} {v : VV} {K : x.den -> Prop} (h : aOB x v K) : ∃ d, v = aJe x d /\ K d := by
  unfold aOB at h
  split at h
  · exact G3 h
  · split at h
    · obtain ⟨d, rfl, h1⟩ := BR h; exact ⟨d, rfl, h1⟩
    · exact h.elim
  · split at h
    · obtain ⟨d, rfl, h1⟩ := BR h; exact ⟨d, rfl, h1⟩
    · exact h.elim
  · split at h
    · split at h
      · rename_i e
        subst e
        obtain ⟨d, rfl, h1⟩ := aFy h; exact ⟨d, rfl, h1⟩
      · exact h.elim
    · exact h.elim
theorem aEz : ∀ {l : List Sh} {vs : List VV} {K : aI l -> Prop}, unS l vs K -> ∃ d, vs = aM l d /\ K d
  | [], vs, K, h => by
    unfold unS at h
    split at h
    · exact ⟨(), rfl, h⟩
    · exact h.elim
  | x :: l, vs, K, h => by
    unfold unS at h
    split at h
    · obtain ⟨a, rfl, h1⟩ := aIy h
      obtain ⟨b, rfl, h2⟩ := aEz h1
      exact ⟨(a, b), rfl, h2⟩
    · exact h.elim
theorem aJG {x : OSh} {v : VO} {K : x.den -> Prop} (h : aOX x v K) : ∃ d, v = aMJ x d /\ K d := by
  unfold aOX at h
  split at h
  · split at h
    · split at h
      · rename_i e; subst e; obtain ⟨d, rfl, h1⟩ := BR h; exact ⟨d, rfl, h1⟩
      · exact h.elim
    · exact h.elim
  · split at h
    · split at h
      · rename_i e
        obtain ⟨rfl, rfl⟩ := e
        obtain ⟨e, h⟩ := Ty.at_inv h
        subst e
        exact ⟨_, rfl, h⟩
      · exact h.elim
    · exact h.elim
  · split at h
    · exact ⟨(), rfl, h⟩
    · exact h.elim
theorem aFO : ∀ {l : List OSh} {vs : List VO} {K : aHy l -> Prop}, unO l vs K -> ∃ d, vs = aLU l d /\ K d
  | [], vs, K, h => by
    unfold unO at h
    split at h
    · exact ⟨(), rfl, h⟩
    · exact h.elim
  | x :: l, vs, K, h => by
    unfold unO at h
    split at h
    · obtain ⟨a, rfl, h1⟩ := aJG h
      obtain ⟨b, rfl, h2⟩ := aFO h1
      exact ⟨(a, b), rfl, h2⟩
    · exact h.elim
def HQ (F0 : Fz) (H0 : aA) (hs : Nat -> Value -> Prop) (s : VS) (ta : aF) (H : aA) : Prop := ∃ c, c.hs = hs /\ Rel F0 H0 c s ta H
theorem aJS {hs : Nat -> Value -> Prop} (hr : HQ F0 H0 hs s ta H) (live : List Nat) : HQ F0 H0 hs (aOz live s) ta H := by
 obtain ⟨c, hc, hr⟩ := hr
 obtain ⟨c', h1, h2, h3, h4, h5⟩ := aAg hr live
 exact ⟨c', h1.trans hc, h3, h4, Y7 (fun _ => trivial) live _ h5⟩
theorem aLT {i : Nat} {q : Bool} {T : Ty} {l : List T.den} {fr : Bool} {a : Value} (hok : Ok F0 H0 c H) (hi : bI c.h i = .lst q T l fr) (hr : RL c (.own i) a) :
  ∃ c', Le c c' /\ c'.hs = c.hs /\ c'.h = cZ c.h [i] /\ Ok F0 H0 c' H /\ RL c' (.fz q T l) a := by
 obtain ⟨c1, k1, k2, kn, kρ, k3, k4⟩ := hok.freezes [i]
 refine ⟨c1, k1, k1.hs, k2, k3, ?_⟩
 have hl : RL c1 (f9 c.h (.own i)) a := DZ hok k1 kρ hr fun j hj => k4 j (by simpa [yQ] using hj)
 have hres : f9 c.h (.own i) = .fz q T l := by unfold f9; simp only [hi]
 rw [hres] at hl
 exact hl
theorem aAm {fz : Bool} {T : Ty} {v v' : VV} {h' : List VO} {a : Value} (hok : Ok F0 H0 c H) (hr : RL c v a) (hc : conv fz T c.h v = some (v', h')) : ∃ c', Le c c' /\ c'.h = h' /\ Ok F0 H0 c' H /\ RL c' v' a := by
 unfold conv at hc
 split at hc
 ·cases hc
  obtain ⟨rfl, _⟩ := hr
  exact ⟨_, lS _ _, rfl, hok.addNil true T (Pre.refl H), JN (c := c) (a := none) (q := true) (l := ([] : List T.den)) rfl⟩
 ·cases hc
  obtain ⟨rfl, _⟩ := hr
  exact ⟨c, Le.refl c, rfl, hok, none, _, rfl, ⟨Nat.zero_le _, .inl rfl⟩⟩
 ·split at hc
  ·rename_i hg
   cases hc
   obtain ⟨c', h1, h2, h3, h4, h5⟩ := aLT hok hg hr
   exact ⟨c', h1, h3, h4, h5⟩
  ·cases hc
 ·cases hc
theorem aOu {v : VV} {a : Value} {fz : Bool} {T : Ty} {h : List VO} {r : VV × List VO} (hc : conv fz T h v = some r) (hr : R2 c v a) : RL c v a := by
 unfold conv at hc
 split at hc
 ·exact hr
 ·exact hr
 ·exact hr
 ·cases hc
theorem aLY {fz : Bool} {T : Ty} {h h' : List VO} {v v' : VV} (hc : conv fz T h v = some (v', h')) {i : Nat} {cs : List VV} {fr : Bool} (hi : h[i]? = some (.box cs fr)) (hv : ∀ j, v = .own j -> j ≠ i) : h'[i]? = some (.box cs fr) := by
 unfold conv at hc
 split at hc
 ·cases hc; rw [List.getElem?_append_left (aV hi)]; exact hi
 ·cases hc; exact hi
 ·rename_i j
  split at hc
  ·cases hc
   show (h.set j (gE (bI h j)))[i]? = _
   rw [List.getElem?_set_ne (hv j rfl)]; exact hi
  ·cases hc
 ·cases hc
theorem aKk {hs : Nat -> Value -> Prop} (co : Co) (hr : HQ F0 H0 hs s ta H) : HQ F0 H0 hs (co1 s co) ta H := by
  obtain ⟨c, hc, hh, hok, ht⟩ := hr
  unfold co1
  split
  · split
    · rename_i v h' hcv
      rw [<- hh] at hcv
      have hd := ht co.d
      obtain ⟨c', h1, h2, h3, h4⟩ := aAm hok (aOu hcv hd) hcv
      refine ⟨c', h1.hs.trans hc, h2, h3, ?_⟩
      intro i
      show R2 c' (if co.d = i then v else bL s.t i) _
      split
      · rename_i e; subst e; exact HI (aHO h4)
      · exact R2.mono h1 _ _ (ht i)
    · exact ⟨c, hc, hh, hok, ht⟩
  · rename_i q hq
    split
    · rename_i i off hl
      split
      · rename_i cs fr hg
        split
        · rename_i u hu
          split
          · rename_i v h' hcv
            rw [<- hh] at hcv hg
            have hi := gO hg (by intro e; cases e)
            obtain ⟨b, azz, k1, k2, k3, k4, k5⟩ := (hok.obj i _ hi).box _ _ rfl
            obtain ⟨a, m1, m2⟩ := k3.get hu
            obtain ⟨c', h1, h2, h3, h4⟩ := aAm hok m2 hcv
            have hi' : c'.h[i]? = some (.box cs fr) := by
              rw [h2]
              refine aLY hcv hi fun j e => ?_
              intro e2
              subst e; subst e2
              simp only [RL, hi] at m2
            have hle : Le c' (tP c' i (.box (cs.set q v) fr)) := ED hi' trivial
            have ob := h3.obj i _ hi'
            obtain ⟨b', as', n1, n2, n3, n4, n5⟩ := ob.box _ _ rfl
            have hbb : b' = b := by
              rw [h1.ρ i (aV hi), k1] at n1
              exact (Option.some.inj n1).symm
            subst hbb
            rw [k2] at n2
            cases n2
            refine ⟨tP c' i (.box (cs.set q v) fr), hle.hs.trans (h1.hs.trans hc), ?_, ?_, ?_⟩
            · show c'.h.set i _ = _; rw [h2]
            · exact {
                n0 := h3.n0, pre := h3.pre, fz := h3.fz, low := h3.low
                obj := fun j p hj => by
                  rcases PW hj with ⟨rfl, rfl⟩ | ⟨hne, hj'⟩
                  · exact {
                      lo := fun b e => ob.lo b e
                      box := fun cs2 fr2 e => by
                        cases e
                        refine ⟨b', azz, n1, k2, ?_, n4, n5⟩
                        have hset : azz.set q a = azz := by
                          apply List.ext_getElem?
                          intro x
                          by_cases hx : q = x
                          · subst hx; rw [List.getElem?_set_self (aV m1), m1]
                          · rw [List.getElem?_set_ne hx]
                        have := (n3.mono (RL.mono hle)).set q (RL.mono hle _ _ h4)
                        rw [hset] at this
                        exact this
                      lst := fun _ _ _ _ e => (by cases e)
                      dead := fun _ e => (by cases e) }
                  · exact (h3.obj j p hj').mono hle rfl (fun _ _ => rfl) (fun _ _ _ hB => hB) (Nat.le_refl _)
                inj := fun j k b' hjk hj hk => by
                  show (c'.h.set i _)[j]? = _ \/ (c'.h.set i _)[k]? = _
                  rcases h3.inj j k b' hjk hj hk with e | e
                  · left
                    by_cases hji : i = j
                    · subst hji; rw [hi'] at e; cases e
                    · rw [List.getElem?_set_ne hji]; exact e
                  · right
                    by_cases hki : i = k
                    · subst hki; rw [hi'] at e; cases e
                    · rw [List.getElem?_set_ne hki]; exact e
                dom := fun j hj => h3.dom j (by have : (c'.h.set i (.box (cs.set q v) fr)).length <= j := hj; simpa using this) }
            · exact fun d => R2.mono (h1.trans hle) _ _ (ht d)
          · exact ⟨c, hc, hh, hok, ht⟩
        · exact ⟨c, hc, hh, hok, ht⟩
      · exact ⟨c, hc, hh, hok, ht⟩
    · exact ⟨c, hc, hh, hok, ht⟩
theorem aAv {hs : Nat -> Value -> Prop} : ∀ (cs : List Co) {s : VS}, HQ F0 H0 hs s ta H -> HQ F0 H0 hs (aMC cs s) ta H
 | [], s, h => h
 | c :: cs, s, h => aAv cs (aKk c h)
theorem o8 {hs : Nat -> Value -> Prop} (hr : HQ F0 H0 hs s ta H) (en : Ends) (m : Nat) : HQ F0 H0 hs (HY en m s) ta H := by
 unfold HY
 split
 ·exact aJS (aAv _ hr) _
 ·exact hr
theorem UF {hs : Nat -> Value -> Prop} {live : List Nat} {sh : List Sh} {ob : List OSh} {K : aI sh × aHy ob -> Prop} (hr : HQ F0 H0 hs s ta H) (h : aO7 live sh ob s K) : ∃ x, K x /\ HQ F0 H0 hs (aPD live sh ob x) ta H := by
 obtain ⟨c, hc, hr⟩ := hr
 obtain ⟨c', h1, h2, h3, h4, h5⟩ := aAg hr live
 unfold aO7 at h
 obtain ⟨a, e1, h⟩ := aEz h
 obtain ⟨b, e2, h⟩ := aFO h
 refine ⟨(a, b), h, c', h1.trans hc, ?_, h4, ?_⟩
 ·rw [h3, e2]; rfl
 ·rw [e1] at h5
  exact Y7 (fun _ => trivial) live _ h5
def rW : Nat -> Code -> Nat -> Option Code
  | 0, _, _ => none
  | f + 1, root, n => if n <= 1 then some root else
    match rW f root (n / 2) with
    | some (.seq a b) => if n % 2 = 0 then some a else some b
    | some (.cond _ x y) => if n % 2 = 0 then some x else some y
    | some (.block _ b) => some b
    | some (.loop b) => some b
    | _ => none
theorem aI1 {root : Code} : ∀ {f f' n : Nat} {c c' : Code}, rW f root n = some c -> rW f' root n = some c' -> c = c' := by
  intro f
  induction f with
  | zero => intro f' n c c' h; cases h
  | succ f ih =>
    intro f' n c c' h h'
    cases f' with
    | zero => cases h'
    | succ f' =>
      unfold rW at h h'
      by_cases hn : n <= 1
      · rw [if_pos hn] at h h'; cases h; cases h'; rfl
      · rw [if_neg hn] at h h'
        cases e : rW f root (n / 2) with
        | none => rw [e] at h; cases h
        | some d =>
          cases e' : rW f' root (n / 2) with
          | none => rw [e'] at h'; cases h'
          | some d' =>
            have := ih e e'
            subst this
            rw [e] at h
            rw [e'] at h'
            rw [h] at h'
            exact Option.some.inj h'
theorem aL8 {P : Program} {x : Code} {t : aF} {Q : dY -> aF -> aA -> Prop} (h : W P fl x t H fun e t1 H1 => match e with
    | .normal => W P fl (.loop x) t1 H1 Q
    | e => Q e t1 H1) : W P fl (.loop x) t H Q := by
  obtain ⟨N, e, t1, H1, h1, h2⟩ := h
  cases e with
  | normal =>
    obtain ⟨M, e2, t2, H2, h3, h4⟩ := h2
    simp only [gW] at h3
    refine ⟨max N M + 1, e2, t2, H2, ?_, h4⟩
    simp only [gW, ET]
    rw [BU (jW P (show N <= max N M + 1 by omega)) (show N <= max N M + 1 by omega) _ _ _ _ h1]
    exact T0 (BU (jW P (show M <= max N M + 1 by omega)) (show M <= max N M + 1 by omega) x) (show M <= max N M by omega) _ _ _ h3
  | _ =>
    refine ⟨N + 1, _, t1, H1, ?_, h2⟩
    simp only [gW, ET]
    rw [BU (jW P (Nat.le_succ N)) (Nat.le_succ N) _ _ _ _ h1]
structure Tl (p : Prop) : Prop where
 it : p
def aL (G : Cfg) (ct : Tab) (en : Ends) (root : Code) : Prop :=
 ∀ n E, ct n = some E -> ∀ f c, rW f root n = some c -> ∀ x k, E.P x k -> Tl (vwp G ct en c n (aPD E.live E.sh E.ob x) k)
theorem aL7 {root a b : Code} {f m : Nat} (hm : 1 <= m) (h : rW f root m = some (.seq a b)) : rW (f + 1) root (2 * m) = some a /\ rW (f + 1) root (2 * m + 1) = some b := by
 constructor
 ·unfold rW
  rw [if_neg (by omega), show 2 * m / 2 = m by omega, h]
  simp
 ·unfold rW
  rw [if_neg (by omega), show (2 * m + 1) / 2 = m by omega, h]
  simp only []
  rw [if_neg (by omega)]
theorem aKt {root a b : Code} {o : Operand} {f m : Nat} (hm : 1 <= m) (h : rW f root m = some (.cond o a b)) : rW (f + 1) root (2 * m) = some a /\ rW (f + 1) root (2 * m + 1) = some b := by
 constructor
 ·unfold rW
  rw [if_neg (by omega), show 2 * m / 2 = m by omega, h]
  simp
 ·unfold rW
  rw [if_neg (by omega), show (2 * m + 1) / 2 = m by omega, h]
  simp only []
  rw [if_neg (by omega)]
theorem aJu {root b : Code} {f m : Nat} (hm : 1 <= m) (h : (∃ id, rW f root m = some (.block id b)) \/ rW f root m = some (.loop b)) : rW (f + 1) root (2 * m) = some b := by
 unfold rW
 rw [if_neg (by omega), show 2 * m / 2 = m by omega]
 rcases h with ⟨id, h⟩ | h <;> rw [h]
structure aOR (G : Cfg) (H0 : aA) (hs : Nat -> Value -> Prop) (fl : Nat) : Prop where
 O : ∀ f args Q, G.O f args Q -> aD G.P f args Q
 fl : fl <= H0.length
 I : ∀ J, G.I = some J -> jN G.P J
theorem aF0 {hs : Nat -> Value -> Prop} {ct : Tab} {en : Ends} {root : Code} (he : aOR G H0 hs fl) (htab : aL G ct en root) : ∀ (c : Code) (m : Nat) {s : VS} {k : dY -> VS -> Prop} {ta : aF} {H : aA} {Q : dY -> aF -> aA -> Prop}, 1 <= m -> (∃ f, rW f root m = some c) -> dX n c = true ->
    HQ F0 H0 hs s ta H -> vwp G ct en c m s k -> (∀ e s' ta' H', HQ F0 H0 hs s' ta' H' -> k e s' -> Q e ta' H') -> W G.P fl c ta H Q := by
  intro c
  have cut : ∀ (x : Code) (m : Nat) {s : VS} {k : dY -> VS -> Prop} {ta : aF} {H : aA}, (∃ f, rW f root m = some x) -> HQ F0 H0 hs s ta H -> MS ct m (vwp G ct en x m) s k -> ∃ s', HQ F0 H0 hs s' ta H /\ vwp G ct en x m s' k := by
    intro x m s k ta H hsub hr h
    unfold MS at h
    split at h
    · rename_i E hE
      obtain ⟨y, h1, h2⟩ := UF hr h
      obtain ⟨f, hf⟩ := hsub
      exact ⟨_, h2, (htab m E hE f x hf y k h1).it⟩
    · exact ⟨s, hr, h⟩
  induction c with
  | skip =>
    intro m s k ta H Q hm hsub hco hr hv hQ
    exact aNy (hQ _ _ _ _ (o8 hr en m) hv)
  | label l =>
    intro m s k ta H Q hm hsub hco hr hv hQ
    exact aN5 (hQ _ _ _ _ (o8 hr en m) hv)
  | exit id =>
    intro m s k ta H Q hm hsub hco hr hv hQ
    exact aOS (hQ _ _ _ _ (o8 hr en m) hv)
  | ret =>
    intro m s k ta H Q hm hsub hco hr hv hQ
    exact aOc (hQ _ _ _ _ (o8 hr en m) hv)
  | region id ops draw =>
    intro m s k ta H Q hm hsub hco hr hv hQ
    obtain ⟨c, hc, hr⟩ := hr
    have hop : ∀ o ∈ ops.toList, q7 n ops o = true := by
      unfold dX at hco
      exact fun o ho => List.all_eq_true.1 hco o ho
    refine aCe (n := n) ⟨he.O, he.fl⟩ he.I hr hop hv ?_
    rintro ta' H' s' c' hle hr' hk
    exact hQ _ _ _ _ (o8 ⟨c', hle.trans hc, hr'⟩ en m) hk
  | seq a b iha ihb =>
    intro m s k ta H Q hm hsub hco hr hv hQ
    obtain ⟨f, hf⟩ := hsub
    obtain ⟨ka, kb⟩ := aL7 hm hf
    simp only [dX, Bool.and_eq_true] at hco
    obtain ⟨s1, hr1, hv1⟩ := cut a (2 * m) ⟨_, ka⟩ hr hv
    refine aOn (iha (2 * m) (by omega) ⟨_, ka⟩ hco.1 hr1 hv1 ?_)
    intro e s' ta' H' hr' hk
    cases e with
    | normal =>
      obtain ⟨s2, hr2, hv2⟩ := cut b (2 * m + 1) ⟨_, kb⟩ hr' hk
      exact ihb (2 * m + 1) (by omega) ⟨_, kb⟩ hco.2 hr2 hv2 hQ
    | _ => exact hQ _ _ _ _ hr' hk
  | cond o x y ihx ihy =>
    intro m s k ta H Q hm hsub hco hr hv hQ
    obtain ⟨f, hf⟩ := hsub
    obtain ⟨kx, ky⟩ := aKt hm hf
    simp only [dX, Bool.and_eq_true] at hco
    have hv : (match evV s.t o with
      | .pl (.bool b) => if b = true then MS ct (2 * m) (vwp G ct en x (2 * m)) s k else MS ct (2 * m + 1) (vwp G ct en y (2 * m + 1)) s k
      | _ => False) := hv
    obtain ⟨c, hc, hrc⟩ := hr
    have hev := cA hrc.2.2 hco.1.1
    split at hv
    · rename_i b heq
      rw [heq] at hev
      refine aOD (dQ hev).1 (fun hb => ?_) (fun hb => ?_)
      · rw [if_pos hb] at hv
        obtain ⟨s1, hr1, hv1⟩ := cut x (2 * m) ⟨_, kx⟩ ⟨c, hc, hrc⟩ hv
        exact ihx (2 * m) (by omega) ⟨_, kx⟩ hco.1.2 hr1 hv1 hQ
      · rw [if_neg (by rw [hb]; simp)] at hv
        obtain ⟨s1, hr1, hv1⟩ := cut y (2 * m + 1) ⟨_, ky⟩ ⟨c, hc, hrc⟩ hv
        exact ihy (2 * m + 1) (by omega) ⟨_, ky⟩ hco.2 hr1 hv1 hQ
    · exact hv.elim
  | block id b ih =>
    intro m s k ta H Q hm hsub hco hr hv hQ
    obtain ⟨f, hf⟩ := hsub
    have kb := aJu (b := b) hm (.inl ⟨id, hf⟩)
    obtain ⟨s1, hr1, hv1⟩ := cut b (2 * m) ⟨_, kb⟩ hr hv
    refine aNR (ih (2 * m) (by omega) ⟨_, kb⟩ hco hr1 hv1 ?_)
    intro e s' ta' H' hr' hk
    cases e with
    | exit id' => exact hQ _ _ _ _ hr' hk
    | _ => exact hQ _ _ _ _ hr' hk
  | loop b ih =>
    intro m s k ta H Q hm hsub hco hr hv hQ
    obtain ⟨f, hf⟩ := hsub
    have kb := aJu (b := b) hm (.inr hf)
    have hv : Loop (LB k en m (MS ct (2 * m) (vwp G ct en b (2 * m)))) (HY en m s) := hv
    refine hv (fun s => ∀ ta H, HQ F0 H0 hs s ta H -> W G.P fl (.loop b) ta H Q) ?_ ta H (o8 hr en m)
    intro s hB ta H hr
    refine aL8 ?_
    obtain ⟨s1, hr1, hv1⟩ := cut b (2 * m) ⟨_, kb⟩ hr hB
    refine ih (2 * m) (by omega) ⟨_, kb⟩ hco hr1 hv1 ?_
    intro e s' ta' H' hr' hk
    cases e with
    | normal => exact hk ta' H' (o8 hr' en m)
    | _ => exact hQ _ _ _ _ hr' hk
  | rangeFunc f ps a b _ _ => intro m s k ta H Q hm hsub hco; simp [dX] at hco
  | scope b _ => intro m s k ta H Q hm hsub hco; simp [dX] at hco
  | goto l => intro m s k ta H Q hm hsub hco; simp [dX] at hco
  | refuse w => intro m s k ta H Q hm hsub hco; simp [dX] at hco
end
end Go.Mach
namespace Go.Mach
set_option linter.unusedVariables false
set_option linter.unusedSimpArgs false
section
variable {G : Cfg} {F0 : Fz} {H0 : aA} {c c' : Ctx} {H H' : aA} {s : VS} {ta : aF} {n fl : Nat} {ops : Array Oper}
theorem S4 (hr : Rel F0 H0 c s ta H) : ∀ {rs : List ResultVar} {K : List VV -> Prop}, aIl G s rs K -> ∃ vs azz, K vs /\ All2 (R2 c) vs azz /\ gY G.P ta H rs = some azz
  | [], K, h => ⟨[], [], h, .nil, rfl⟩
  | .tmp d :: rs, K, h => by
    obtain ⟨vs, azz, h1, h2, h3⟩ := S4 hr (rs := rs) h
    exact ⟨_, _, h1, .cons (hr.2.2 d) h2, by simp only [gY, BS, h3]⟩
  | .cell d ty :: rs, K, h => by
    unfold aIl at h
    split at h
    · rename_i i off he
      split at h
      · rename_i cs fr hg
        have hd := hr.2.2 d
        rw [he] at hd
        obtain ⟨b, cs', fr', k1, k2, k3⟩ := SZ hd
        have hi := gO hg (by intro e; cases e)
        rw [hr.1, hi] at k1; cases k1
        obtain ⟨b', azz, m1, m2, m3, _⟩ := (hr.2.1.obj i _ (by rw [hr.1]; exact hi)).box _ _ rfl
        rw [k2] at m1; cases m1
        obtain ⟨v, a, g1, g2, g3⟩ := zQ (es := 0) (ex := true) (al := true) m3 h
        obtain ⟨vs, as', h1, h2, h3⟩ := S4 hr (rs := rs) g1
        exact ⟨_, _, h1, .cons (HI g2) h2, by simp only [gY, BS, k3, OZ m2 g3, h3]⟩
      · exact h.elim
    · exact h.elim
def Left (c : Ctx) (h : List VO) (used : List Nat) : Prop := ∀ i q t l fr, bI h i = .lst q t l fr -> i ∉ used /\ c.h[i]? = some (.lst q t l fr)
theorem Left.use {h : List VO} {used : List Nat} (hl : Left c h used) (i : Nat) : Left c (h.set i (.dead false)) (used ++ [i]) := by
 intro j q t l fr e
 have hji : j ≠ i := by
  intro e2
  subst e2
  unfold bI at e
  rw [List.getD_eq_getElem?_getD] at e
  by_cases hlt : j < h.length
  ·rw [List.getElem?_set_self hlt] at e; cases e
  ·rw [List.getElem?_eq_none (by simp; omega)] at e; cases e
 have e3 : bI h j = .lst q t l fr := by
  rw [<- e]
  unfold bI
  rw [List.getD_eq_getElem?_getD, List.getD_eq_getElem?_getD, List.getElem?_set_ne (fun e => hji e.symm)]
 obtain ⟨h1, h2⟩ := hl j q t l fr e3
 exact ⟨fun hm => (List.mem_append.1 hm).elim h1 (fun hm => hji (List.mem_singleton.1 hm)), h2⟩
theorem XR.app {l : List VV} {is : List Nat} {azz : List Value} (h : XR c l is azz) : ∀ {m : List VV} {js : List Nat} {bs : List Value}, XR c m js bs -> XR c (l ++ m) (is ++ js) (azz ++ bs) := by
 induction h with
 | nil => intro m js bs k; exact k
 | pl h t ih => intro m js bs k; exact .pl h (ih k)
 | nw h t ih => intro m js bs k; exact .nw h (ih k)
 | nl t ih => intro m js bs k; exact .nl (ih k)
 | al h t ih => intro m js bs k; exact .al h (ih k)
theorem VJ : ∀ (T : Ty) {cs : List VV} {azz : List Value} {h : List VO} {used : List Nat} {K : T.den -> List VV -> List VO -> Prop}, All2 (RL c) cs azz -> Left c h used -> used.Nodup -> xp T cs h K ->
    ∃ x r h' is a1 a2, K x r h' /\ azz = a1 ++ a2 /\ XR c (aMk T x) is a1 /\ All2 (RL c) r a2 /\ Left c h' (used ++ is) /\ (used ++ is).Nodup := by
  intro T
  induction T with
  | int k =>
    intro cs azz h used K hr hl hn hx
    unfold xp at hx
    split at hx
    · split at hx
      · rename_i e; subst e
        cases hr with
        | cons hr t => obtain ⟨rfl, hp⟩ := hr; exact ⟨_, _, h, [], [_], _, hx, rfl, .pl hp .nil, t, by rw [List.append_nil]; exact hl, by rw [List.append_nil]; exact hn⟩
      · exact hx.elim
    · exact hx.elim
  | bool =>
    intro cs azz h used K hr hl hn hx
    unfold xp at hx
    split at hx
    · cases hr with
      | cons hr t => obtain ⟨rfl, hp⟩ := hr; exact ⟨_, _, h, [], [_], _, hx, rfl, .pl hp .nil, t, by rw [List.append_nil]; exact hl, by rw [List.append_nil]; exact hn⟩
    · exact hx.elim
  | str =>
    intro cs azz h used K hr hl hn hx
    unfold xp at hx
    split at hx
    · cases hr with
      | cons hr t => obtain ⟨rfl, hp⟩ := hr; exact ⟨_, _, h, [], [_], _, hx, rfl, .pl hp .nil, t, by rw [List.append_nil]; exact hl, by rw [List.append_nil]; exact hn⟩
    · exact hx.elim
  | flt =>
    intro cs azz h used K hr hl hn hx
    unfold xp at hx
    split at hx
    · cases hr with
      | cons hr t => obtain ⟨rfl, hp⟩ := hr; exact ⟨_, _, h, [], [_], _, hx, rfl, .pl hp .nil, t, by rw [List.append_nil]; exact hl, by rw [List.append_nil]; exact hn⟩
    · exact hx.elim
  | cpx =>
    intro cs azz h used K hr hl hn hx
    unfold xp at hx
    split at hx
    · cases hr with
      | cons hr t => obtain ⟨rfl, hp⟩ := hr; exact ⟨_, _, h, [], [_], _, hx, rfl, .pl hp .nil, t, by rw [List.append_nil]; exact hl, by rw [List.append_nil]; exact hn⟩
    · exact hx.elim
  | slc T ih =>
    intro cs azz h used K hr hl hn hx
    unfold xp at hx
    split at hx
    · rename_i i r
      split at hx
      · rename_i t' l hg
        obtain ⟨e, hx⟩ := Ty.at_inv hx
        subst e
        obtain ⟨k1, k2⟩ := hl i _ _ _ _ hg
        cases hr with
        | cons hr t =>
          have ha := C2 (c := c) (show R2 c (.own i) _ from hr) k2
          subst ha
          exact ⟨_, _, _, [i], [_], _, hx, rfl, .nw k2 .nil, t, hl.use i, by
            rw [List.nodup_append]
            exact ⟨hn, by simp, fun a ha b hb e => k1 (by rw [List.mem_singleton] at hb; subst hb; subst e; exact ha)⟩⟩
      · exact hx.elim
    · cases hr with
      | cons hr t => obtain ⟨rfl, hp⟩ := hr; exact ⟨_, _, h, [], [_], _, hx, rfl, .nl .nil, t, by rw [List.append_nil]; exact hl, by rw [List.append_nil]; exact hn⟩
    · exact hx.elim
  | unit =>
    intro cs azz h used K hr hl hn hx
    exact ⟨(), cs, h, [], [], azz, hx, rfl, .nil, hr, by rw [List.append_nil]; exact hl, by rw [List.append_nil]; exact hn⟩
  | pair A B iha ihb =>
    intro cs azz h used K hr hl hn hx
    unfold xp at hx
    obtain ⟨x, r, h1, is, a1, a2, k1, rfl, k3, k4, k5, k6⟩ := iha hr hl hn hx
    obtain ⟨y, r', h2, js, b1, b2, g1, rfl, g3, g4, g5, g6⟩ := ihb k4 k5 k6 k1
    exact ⟨(x, y), r', h2, is ++ js, a1 ++ b1, b2, g1, by rw [List.append_assoc], k3.app g3, g4, by rw [<- List.append_assoc]; exact g5, by rw [<- List.append_assoc]; exact g6⟩
theorem XR.len {l : List VV} {is : List Nat} {azz : List Value} (h : XR c l is azz) : l.length = azz.length := by
 induction h with
 | nil => rfl
 | pl h t ih => simp [ih]
 | nw h t ih => simp [ih]
 | nl t ih => simp [ih]
 | al h t ih => simp [ih]
theorem fzA {q : Bool} {T : Ty} {l : List T.den} {a : Value} (h : RL c (.fz q T l) a) : RL c (.fz false T l) a := by
 obtain ⟨ad, k, h1, h2⟩ := h
 have hext : (c9 q c.n0 c.F).ext (c9 false c.n0 c.F) := EK (fun e => by cases e)
 exact ⟨ad, k, h1, h2.mono hext (RT.mono hext T)⟩
theorem aPI {F0 : Fz} {H0 H : aA} (hok : Ok F0 H0 c H) {i : Nat} {q : Bool} {T : Ty} {l : List T.den} {a : Value} (hi : c.h[i]? = some (.lst q T l true)) (h : RL c (.own i) a) : RL c (.fz false T l) a := by
  have ha : a = sl (c.ρ i) l.length := C2 (c := c) h hi
  refine ⟨_, _, ha, ?_⟩
  have hlst := (hok.obj i _ hi).lst _ _ _ _ rfl
  have hext : (c9 q c.n0 c.F).ext (c9 false c.n0 c.F) := EK (fun e => by cases e)
  cases hb : c.ρ i with
  | none =>
    have := hlst.1 hb
    subst this
    exact ⟨Nat.le_refl _, .inl rfl⟩
  | some b =>
    obtain ⟨azz, ex, k1, k2, k3, _⟩ := hlst.2 b hb
    refine (k2.mono hext).slice (b := b) (B := ⟨azz, T.w, ex, true⟩) rfl ?_ (.inr rfl)
    unfold c9
    rw [if_neg (by simp)]
    exact k3 rfl
theorem aFR (T : Ty) {cs : List VV} {azz : List Value} {h : List VO} {used : List Nat} {K : List T.den -> List VV -> List VO -> Prop} (hr : All2 (RL c) cs azz) (hl : Left c h used) (hn : used.Nodup) (hx : xpA .z (.slc T) cs h K) :
    ∃ x r h' is a a2, K x r h' /\ azz = [a] ++ a2 /\ XR c [.nw T x] is [a] /\ (x = [] -> a = .slice none 0 0) /\ All2 (RL c) r a2 /\ Left c h' (used ++ is) /\ (used ++ is).Nodup := by
  unfold xpA at hx
  split at hx
  · rename_i i r
    split at hx
    · rename_i t' l hg
      obtain ⟨e, hx⟩ := Ty.at_inv hx
      subst e
      obtain ⟨hne, hx⟩ := hx
      obtain ⟨k1, k2⟩ := hl i _ _ _ _ hg
      cases hr with
      | cons hr t =>
        have ha := C2 (c := c) (show R2 c (.own i) _ from hr) k2
        subst ha
        exact ⟨_, _, _, [i], _, _, hx, rfl, .nw k2 .nil, fun e => absurd e hne, t, hl.use i, by
          rw [List.nodup_append]
          exact ⟨hn, by simp, fun a ha b hb e => k1 (by rw [List.mem_singleton] at hb; subst hb; subst e; exact ha)⟩⟩
    · exact hx.elim
  · cases hr with
    | cons hr t => obtain ⟨rfl, hp⟩ := hr; exact ⟨_, _, h, [], _, _, hx, rfl, .nl .nil, fun _ => rfl, t, by rw [List.append_nil]; exact hl, by rw [List.append_nil]; exact hn⟩
  · exact hx.elim
theorem aF6 {F0 : Fz} {H0 H : aA} (hok : Ok F0 H0 c H) : ∀ (al : Al) (T : Ty) {cs : List VV} {azz : List Value} {h : List VO} {used : List Nat} {K : T.den -> List VV -> List VO -> Prop}, All2 (RL c) cs azz -> Left c h used -> used.Nodup -> xpA al T cs h K ->
    ∃ x r h' is a1 a2, K x r h' /\ azz = a1 ++ a2 /\ XR c (aGh al T x) is a1 /\ All2 (RL c) r a2 /\ Left c h' (used ++ is) /\ (used ++ is).Nodup := by
  intro al
  induction al with
  | n => intro T cs azz h used K hr hl hn hx; cases T <;> exact VJ _ hr hl hn hx
  | f =>
    intro T cs azz h used K hr hl hn hx
    cases T with
    | slc T =>
      have fin : ∀ {v : VV} {r : List VV} {l : List T.den}, All2 (RL c) (v :: r) azz -> (∀ a, RL c v a -> RL c (.fz false T l) a) -> K l r h -> ∃ x r h' is a1 a2, K x r h' /\ azz = a1 ++ a2 /\ XR c (aGh .f (.slc T) x) is a1 /\ All2 (RL c) r a2 /\ Left c h' (used ++ is) /\ (used ++ is).Nodup := by
        intro v r l hrr hv hk
        cases hrr with
        | cons h1 t => exact ⟨_, _, h, [], [_], _, hk, rfl, .al (hv _ h1) .nil, t, by rw [List.append_nil]; exact hl, by rw [List.append_nil]; exact hn⟩
      unfold xpA at hx
      split at hx
      · obtain ⟨e, hx⟩ := Ty.at_inv hx
        subst e
        exact fin hr (fun a => fzA) hx
      · split at hx
        · rename_i hg
          obtain ⟨e, hx⟩ := Ty.at_inv hx
          subst e
          cases hr with
          | cons hr t =>
            have hi : c.h[_]? = _ := (hl _ _ _ _ _ hg).2
            exact fin (.cons hr t) (fun a hra => aPI hok hi hra) hx
        · exact hx.elim
      · exact fin hr (fun a ha => by obtain ⟨rfl, _⟩ := ha; exact ⟨none, _, rfl, ⟨Nat.zero_le _, .inl rfl⟩⟩) hx
      · exact hx.elim
    | _ => exact VJ _ hr hl hn hx
  | z =>
    intro T cs azz h used K hr hl hn hx
    cases T with
    | slc T =>
      obtain ⟨x, r, h', is, a, a2, k1, k2, k3, _, k4, k5, k6⟩ := aFR T hr hl hn hx
      exact ⟨x, r, h', is, [a], a2, k1, k2, k3, k4, k5, k6⟩
    | _ => exact VJ _ hr hl hn hx
  | p x y ihx ihy =>
    intro T cs azz h used K hr hl hn hx
    cases T with
    | pair A B =>
      unfold xpA at hx
      obtain ⟨u, r, h1, is, a1, a2, k1, rfl, k3, k4, k5, k6⟩ := ihx A hr hl hn hx
      obtain ⟨v, r', h2, js, b1, b2, g1, rfl, g3, g4, g5, g6⟩ := ihy B k4 k5 k6 k1
      exact ⟨(u, v), r', h2, is ++ js, a1 ++ b1, b2, g1, by rw [List.append_assoc], k3.app g3, g4, by rw [<- List.append_assoc]; exact g5, by rw [<- List.append_assoc]; exact g6⟩
    | _ => exact VJ _ hr hl hn hx
theorem aML {v : VV} {a : Value} (hv : okL v = true) (h : R2 c v a) : RL c v a := by
 cases v <;> first | exact h | cases hv
theorem aIR {F0 : Fz} {H0 H : aA} (hok' : Ok F0 H0 c H) : ∀ (rt : aHu) (al : List Al) {vs : List VV} {azz : List Value} {h : List VO} {used : List Nat} {K : aKf rt -> Prop}, All2 (R2 c) vs azz -> Left c h used -> used.Nodup -> aCt rt al vs h K ->
    ∃ x is, K x /\ XZ c (aH rt al x) is azz /\ (used ++ is).Nodup := by
  intro rt
  induction rt with
  | nil =>
    intro al vs azz h used K hr hl hn hx
    unfold aCt at hx
    split at hx
    · cases hr; exact ⟨(), [], hx, .nil, by rw [List.append_nil]; exact hn⟩
    · exact hx.elim
  | cons p rt ih =>
    obtain ⟨g, T⟩ := p
    intro al vs azz h used K hr hl hn hx
    unfold aCt at hx
    split at hx
    · rename_i v r
      split at hx
      · rename_i hg
        cases hr with
        | cons hv t =>
          rename_i a azz
          cases g with
          | true =>
            cases v with
            | agg l =>
              obtain ⟨bs, rfl, h2⟩ := aCB hv
              obtain ⟨x, left, h1, is, a1, a2, k1, k2, k3, k4, k5, k6⟩ := aF6 hok' (al.headD .n) T h2 hl hn hx
              split at k1
              · cases k4
                rw [List.append_nil] at k2
                subst k2
                obtain ⟨y, js, g1, g2, g3⟩ := ih al.tail t k5 k6 k1
                refine ⟨(x, y), is ++ js, g1, ?_, by rw [<- List.append_assoc]; exact g3⟩
                have e0 : zmk true (al.headD .n) T = [] := by cases al.headD .n <;> rfl
                show XZ c ((true, aGh (al.headD .n) T x ++ zmk true (al.headD .n) T) :: aH rt al.tail y) _ _
                rw [e0, List.append_nil]
                have := XZ.s (XS.agg k3 .nil) g2
                rwa [List.append_nil] at this
              · exact k1.elim
            | _ => cases hg.1
          | false =>
            have hok : okL v = true := hg.2.resolve_left (by simp)
            have hleaf := aML hok hv
            have hvc : cL v = [v] := by cases v <;> first | rfl | cases hok
            rw [hvc] at hx
            by_cases hzz : ∃ T', al.headD .n = .z /\ T = .slc T'
            · obtain ⟨T', e1, rfl⟩ := hzz
              rw [e1] at hx
              obtain ⟨x, left, h1, is, a1, a2, k1, k2, k3, kz, k4, k5, k6⟩ := aFR T' (.cons hleaf .nil) hl hn hx
              split at k1
              · cases k4
                cases k2
                obtain ⟨y, js, g1, g2, g3⟩ := ih al.tail t k5 k6 k1
                refine ⟨(x, y), is ++ js, g1, ?_, by rw [<- List.append_assoc]; exact g3⟩
                show XZ c ((false, aGh (al.headD .n) (.slc T') x ++ zmk false (al.headD .n) (.slc T')) :: aH rt al.tail y) _ _
                rw [e1]
                exact .z k3 kz g2
              · exact k1.elim
            have e0 : zmk false (al.headD .n) T = [] := by
              cases e1 : al.headD .n <;> cases T <;> first | rfl | exact absurd ⟨_, e1, rfl⟩ hzz
            obtain ⟨x, left, h1, is, a1, a2, k1, k2, k3, k4, k5, k6⟩ := aF6 hok' (al.headD .n) T (.cons hleaf .nil) hl hn hx
            split at k1
            · cases k4
              rw [List.append_nil] at k2
              subst k2
              obtain ⟨y, js, g1, g2, g3⟩ := ih al.tail t k5 k6 k1
              have hlen := k3.len
              match he : aGh (al.headD .n) T x with
              | [z] =>
                rw [he] at k3
                refine ⟨(x, y), is ++ js, g1, ?_, by rw [<- List.append_assoc]; exact g3⟩
                show XZ c ((false, aGh (al.headD .n) T x ++ zmk false (al.headD .n) T) :: aH rt al.tail y) _ _
                rw [e0, he, List.append_nil]
                have := XZ.s (XS.one k3 .nil) g2
                rwa [List.append_nil] at this
              | [] => rw [he] at hlen; simp at hlen
              | _ :: _ :: _ => rw [he] at hlen; simp at hlen
            · exact k1.elim
      · exact hx.elim
    · exact hx.elim
theorem aJH (args : List Value) : ∀ d, start args.toArray d = args.getD d undef := by
 intro d
 unfold start
 rw [Array.getD_eq_getD_getElem?, List.getD_eq_getElem?_getD]
 simp
theorem aFj {R : VV -> Value -> Prop} (hu : ∀ a, R .undef a) : ∀ {vs : List VV} {azz : List Value} (k : Nat), All2 R vs azz -> ∀ d, k <= d -> R (bL (aBj (List.range' k vs.length) vs) d) (azz.getD (d - k) undef)
  | [], [], k, .nil, d, _ => hu _
  | v :: vs, a :: azz, k, .cons h t, d, hd => by
    show R (if k = d then v else bL (aBj (List.range' (k + 1) vs.length) vs) d) _
    by_cases e : k = d
    · rw [if_pos e, show d - k = 0 by omega]; exact h
    · rw [if_neg e, show d - k = (d - (k + 1)) + 1 by omega, List.getD_cons_succ]
      exact aFj hu (k + 1) t d (by omega)
theorem aCI {vs : List VV} {azz : List Value} (h : All2 (R2 c) vs azz) : Tok c (OQ vs) (start azz.toArray) := by
 intro d
 rw [aJH]
 unfold OQ
 rw [List.range_eq_range']
 have := aFj (R := R2 c) (fun _ => trivial) 0 h d (Nat.zero_le _)
 rwa [Nat.sub_zero] at this
theorem aNA (F : Fz) (H : aA) (hs : Nat -> Value -> Prop) (hF : ∀ b B, F b = some B -> blk? H b = some B) : Ok F H (VU F H hs) H where
 n0 := rfl
 pre := Pre.refl H
 fz := hF
 low := fun b _ => rfl
 obj := fun i o h => by simp [VU] at h
 inj := fun i j b _ h => by cases h
 dom := fun _ _ => rfl
theorem aJM {ct : Tab} {en : Ends} {f : FuncId} {fn : Func} {cd : Code} {rt : aHu} (al : List Al) {args : List VV} {Q : List (Bool × List VV) -> Prop}
  (hf : G.P.funcs[f]? = some fn) (hb : fn.body = some cd) (hfo : okF f fn cd = true) (hsz : args.length <= fn.ntmps) (htab : aL G ct en cd) (hO : ∀ f args Q, G.O f args Q -> aD G.P f args Q) (hI : ∀ J, G.I = some J -> jN G.P J)
  (hv : aOA G ct en fn cd rt al args fun r => Q (aH rt al r)) : aD G.P f args Q := by
 intro F fl H azz hF hfl ha
 refine aM6 hf hb hfo (by simp; rw [<- ha.len]; exact hsz) ?_
 have hco : dX fn.ntmps cd = true := by
  have hfo := aGl hfo
  unfold YG at hfo
  simp only [Bool.and_eq_true] at hfo
  exact hfo.1.1
 have hr : HQ F H aCm ⟨OQ args, []⟩ (start azz.toArray) H := ⟨VU F H aCm, rfl, rfl, aNA F H aCm hF, aCI ha⟩
 have he : aOR G H aCm fl := ⟨hO, hfl, hI⟩
 unfold aOA at hv
 have key : ∃ s', HQ F H aCm s' (start azz.toArray) H /\ vwp G ct en cd 1 s' (fun e s => match e with
   | .normal | .ret => aIl G s fn.results.toList fun vs => aCt rt al vs s.h fun r => Q (aH rt al r)
   | _ => False) := by
  unfold MS at hv
  split at hv
  ·rename_i E hE
   obtain ⟨y, h1, h2⟩ := UF hr hv
   exact ⟨_, h2, (htab 1 E hE 1 cd rfl y _ h1).it⟩
  ·exact ⟨_, hr, hv⟩
 obtain ⟨s', hr', hv'⟩ := key
 refine aF0 (n := fn.ntmps) he htab cd 1 (Nat.le_refl _) ⟨1, rfl⟩ hco hr' hv' ?_
 intro e s2 ta2 H2 hr2 hk
 have fin : (aIl G s2 fn.results.toList fun vs => aCt rt al vs s2.h fun r => Q (aH rt al r)) -> ∃ vs, gY G.P ta2 H2 fn.results.toList = some vs /\ ∃ sl, Q sl /\ aNk F H H2 sl (HS vs) := by
  intro hk
  obtain ⟨c2, hc2, hrel⟩ := hr2
  obtain ⟨vs, as2, h1, h2, h3⟩ := S4 hrel hk
  obtain ⟨x, is, g1, g2, g3⟩ := aIR hrel.2.1 rt al (h := s2.h) (used := []) h2 (fun i q t l fr e => ⟨by simp, by rw [hrel.1]; exact gO e (by intro e; cases e)⟩) List.nodup_nil h1
  exact ⟨as2, h3, _, g1, .inl ⟨c2, is, as2, hrel.2.1, g2, by simpa using g3, rfl⟩⟩
 cases e with
 | normal => exact fin hk
 | ret => exact fin hk
 | _ => exact hk.elim
theorem aFn : ∀ (a b : List (Nat × VV)) (i : Nat), bL (a ++ b) i = if (a.any fun p => p.1 == i) = true then bL a i else bL b i
  | [], b, i => by simp
  | (d, v) :: a, b, i => by
    show (if d = i then v else bL (a ++ b) i) = _
    by_cases e : d = i
    · rw [if_pos e, if_pos (by simp [e])]
      show v = if d = i then v else bL a i
      rw [if_pos e]
    · rw [if_neg e, aFn a b i]
      have h1 : ((d, v) :: a).any (fun p => p.1 == i) = a.any fun p => p.1 == i := by simp [e]
      rw [h1]
      show _ = if _ then (if d = i then v else bL a i) else _
      rw [if_neg e]
theorem aDR : ∀ (a : List (Nat × VV)) (i : Nat), (a.any fun p => p.1 == i) = false -> bL a i = .undef
  | [], _, _ => rfl
  | (d, v) :: a, i, h => by
    simp only [List.any_cons, Bool.or_eq_false_iff, beq_eq_false_iff_ne] at h
    show (if d = i then v else bL a i) = _
    rw [if_neg h.1]
    exact aDR a i h.2
theorem aAF (n : Nat) : ∀ (a : List (Nat × VV)) (i : Nat), bL (UH n a) (i + n) = bL a i
  | [], _ => rfl
  | (d, v) :: a, i => by
    show (if d + n = i + n then v else bL (UH n a) (i + n)) = if d = i then v else bL a i
    rw [aAF n a i]
    by_cases e : d = i
    · rw [if_pos e, if_pos (by omega)]
    · rw [if_neg e, if_neg (by omega)]
theorem OT (n : Nat) : ∀ (a : List (Nat × VV)) (i : Nat), i < n -> bL (UH n a) i = .undef
  | [], _, _ => rfl
  | (d, v) :: a, i, h => by
    show (if d + n = i then v else bL (UH n a) i) = _
    rw [if_neg (by omega)]
    exact OT n a i h
theorem FL (n : Nat) : ∀ (a : List (Nat × VV)) (i : Nat), bL (qZ n a) i = bL a (i + n)
  | [], _ => rfl
  | (d, v) :: a, i => by
    unfold qZ
    by_cases h : n <= d
    · rw [if_pos h]
      show (if d - n = i then v else bL (qZ n a) i) = if d = i + n then v else bL a (i + n)
      rw [FL n a i]
      by_cases e : d = i + n
      · rw [if_pos e, if_pos (by omega)]
      · rw [if_neg e, if_neg (by omega)]
    · rw [if_neg h, FL n a i]
      show _ = if d = i + n then v else bL a (i + n)
      rw [if_neg (by omega)]
theorem aHN (args : List VV) : ∀ i, ((OQ args).any fun p => p.1 == i) = true -> i < args.length := by
  intro i h
  rw [List.any_eq_true] at h
  obtain ⟨p, hp, hi⟩ := h
  have : ∀ (ks : List Nat) (vs : List VV) (p : Nat × VV), p ∈ aBj ks vs -> p.1 ∈ ks := by
    intro ks
    induction ks with
    | nil => intro vs p hp; cases vs <;> simp [aBj] at hp
    | cons k ks ih =>
      intro vs p hp
      cases vs with
      | nil => simp [aBj] at hp
      | cons v vs =>
        simp only [aBj, List.mem_cons] at hp
        rcases hp with rfl | hp
        · simp
        · exact List.mem_cons_of_mem _ (ih vs p hp)
  have h2 := this _ _ _ hp
  rw [List.mem_range] at h2
  have : p.1 = i := by simpa using hi
  omega
theorem aGY {G1 : Cfg} {ct : Tab} {en : Ends} {F : FuncId} {fn : Func} {cd : Code}
    (hf : G1.P.funcs[F]? = some fn) (hb : fn.body = some cd) (hfo : okF F fn cd = true) (htab : aL G1 ct en cd) (hO : ∀ f args Q, G1.O f args Q -> aD G1.P f args Q) (hI : ∀ J, G1.I = some J -> jN G1.P J) :
    jN G1.P ⟨fun g => g == F, fun _ args s k => TN G1 ct en fn cd args s k⟩ := by
  intro g args s k hB hr F0 H0 c H fl ta az hrel hfl ha
  have hg : g = F := by simpa using hB
  subst hg
  have hr : TN G1 ct en fn cd args s k := hr
  unfold TN at hr
  split at hr
  case h_2 => exact hr.elim
  rename_i hres
  split at hr
  case isFalse => exact hr.elim
  rename_i hlen
  refine aM6 hf hb hfo (by simp; rw [<- ha.len]; exact hlen) ?_
  have hco : dX fn.ntmps cd = true := by
    have hfo := aGl hfo
    unfold YG at hfo
    simp only [Bool.and_eq_true] at hfo
    exact hfo.1.1
  generalize hn : fn.ntmps = n at *
  let t2 : aF := fun i => if i < n then start az.toArray i else ta (i - n)
  have htok : Tok c (OQ args ++ UH n s.t) t2 := by
    intro i
    rw [aFn]
    by_cases hi : i < n
    · have e2 : t2 i = start az.toArray i := if_pos hi
      rw [e2]
      have h1 := aCI ha i
      split
      · exact h1
      · rename_i hk
        rw [OT n s.t i hi]
        rw [aDR _ _ (Bool.eq_false_iff.2 hk)] at h1
        exact h1
    · have e2 : t2 i = ta (i - n) := if_neg hi
      rw [e2]
      split
      · rename_i hk
        have := aHN args i hk
        omega
      · have := aAF n s.t (i - n)
        rw [show i - n + n = i by omega] at this
        rw [this]
        exact hrel.2.2 (i - n)
  have hr0 : HQ F0 H0 c.hs ⟨OQ args ++ UH n s.t, s.h⟩ t2 H := ⟨c, rfl, hrel.1, hrel.2.1, htok⟩
  have he : aOR G1 H0 c.hs fl := ⟨hO, hfl, hI⟩
  have key : ∃ s', HQ F0 H0 c.hs s' t2 H /\ vwp G1 ct en cd 1 s' (fun e s2 => match e with
      | .normal | .ret => k (.tup []) ⟨qZ n s2.t, s2.h⟩
      | _ => False) := by
    unfold MS at hr
    split at hr
    · rename_i E hE
      obtain ⟨y, h1, h2⟩ := UF hr0 hr
      exact ⟨_, h2, (htab 1 E hE 1 cd rfl y _ h1).it⟩
    · exact ⟨_, hr0, hr⟩
  obtain ⟨s', hr', hv'⟩ := key
  have hW : W G1.P fl cd t2 H fun e ta' H' => ∃ s2, HQ F0 H0 c.hs s2 ta' H' /\ (match e with
      | .normal | .ret => k (.tup []) ⟨qZ n s2.t, s2.h⟩
      | _ => False) := aF0 (n := n) he htab cd 1 (Nat.le_refl _) ⟨1, rfl⟩ hco hr' hv' fun e s2 ta' H' h1 h2 => ⟨s2, h1, h2⟩
  have hF := aMr (t := start az.toArray) hco (fun i hi => (if_pos hi).symm) hW
  obtain ⟨N, e, t', H', h1, t2', h2, h3, s2, ⟨c2, q1, q2⟩, h5⟩ := hF
  refine ⟨N, e, t', H', h1, ?_⟩
  have fin : k (.tup []) ⟨qZ n s2.t, s2.h⟩ -> ∃ vs, gY G1.P t' H' fn.results.toList = some vs /\ ∃ vv s2 c2, c2.hs = c.hs /\ Rel F0 H0 c2 s2 ta H' /\ R2 c2 vv (HS vs) /\ k vv s2 := by
    intro hk
    rw [hres]
    refine ⟨[], rfl, .tup [], ⟨qZ n s2.t, s2.h⟩, c2, q1, ⟨q2.1, q2.2.1, fun i => ?_⟩, ⟨[], rfl, .nil⟩, hk⟩
    have h6 := q2.2.2 (i + n)
    rw [h3 (i + n) (by omega)] at h6
    have e2 : t2 (i + n) = ta i := by
      show (if i + n < n then _ else ta (i + n - n)) = ta i
      rw [if_neg (by omega), Nat.add_sub_cancel]
    have h6 : R2 c2 (bL s2.t (i + n)) (t2 (i + n)) := h6
    rw [e2] at h6
    rw [FL]
    exact h6
  cases e with
  | normal => exact fin h5
  | ret => exact fin h5
  | _ => exact h5.elim
theorem aG {G : Cfg} (h : G.I = none) : ∀ J, G.I = some J -> jN G.P J := fun J hJ => by rw [h] at hJ; cases hJ
theorem aBw {G : Cfg} {J : Inl} (h : G.I = some J) (hJ : jN G.P J) : ∀ J', G.I = some J' -> jN G.P J' := fun J' e => by rw [h] at e; cases e; exact hJ
theorem aC {ct : Tab} {en : Ends} {f : FuncId} {fn : Func} {cd : Code} {rt : aHu} (al : List Al) {args : List VV} {Q : List (Bool × List VV) -> Prop} {R : Prop}
  (hf : G.P.funcs[f]? = some fn) (hb : fn.body = some cd) (hfo : okF f fn cd = true) (hsz : args.length <= fn.ntmps) (htab : aL G ct en cd) (hO : ∀ f args Q, G.O f args Q -> aD G.P f args Q) (hI : ∀ J, G.I = some J -> jN G.P J)
  (h : R) (e : (aOA G ct en fn cd rt al args fun r => Q (aH rt al r)) = R) : aD G.P f args Q :=
 aJM al hf hb hfo hsz htab hO hI (e.symm ▸ h)
theorem aLq {ct : Tab} {en : Ends} {cd : Code} {m : Nat} {s : VS} {k : dY -> VS -> Prop} {R : Prop} (h : R) (e : vwp G ct en cd m s k = R) : Tl (vwp G ct en cd m s k) := ⟨e.symm ▸ h⟩
theorem Loop.map {S S' : Type} {σ : S -> S'} {B : S -> (S -> Prop) -> Prop} {B' : S' -> (S' -> Prop) -> Prop} (h : ∀ s X, B s (fun s => X (σ s)) -> B' (σ s) X) {s : S} (hl : Loop B s) : Loop B' (σ s) :=
 fun X hX => hl (fun s => X (σ s)) fun s hs => hX _ (h s X hs)
theorem Loop.inv {S : Type} {B : S -> (S -> Prop) -> Prop} (I : Nat -> S -> Prop) {n : Nat} {s : S} (h0 : I n s) (step : ∀ n s X, I n s -> (∀ m s', m < n -> I m s' -> X s') -> B s X) : Loop B s := by
 intro X hX
 have : ∀ n s, I n s -> X s := by
  intro n
  induction n using Nat.strongRecOn with
  | _ n ih => exact fun s hs => hX s (step n s X hs fun m s' hm hs' => ih m hm s' hs')
 exact this n s h0
theorem aLw {S : Type} {ct : Tab} {en : Ends} {m : Nat} {s : VS} {k : dY -> VS -> Prop} {cd b : Code} (hc : cd = .loop b) (σ : S -> VS) (y0 : S) {B : S -> (S -> Prop) -> Prop} (hs : HY en m s = σ y0)
  (hB : ∀ y X, LB k en m (MS ct (2 * m) (vwp G ct en b (2 * m))) (σ y) X = B y fun y => X (σ y)) (h : Loop B y0) : Tl (vwp G ct en cd m s k) := by
 subst hc
 refine ⟨?_⟩
 show Loop (LB k en m (MS ct (2 * m) (vwp G ct en b (2 * m)))) (HY en m s)
 rw [hs]
 exact Loop.map (fun y X hb => by rw [hB]; exact hb) h
theorem aK {S : Type} {ct : Tab} {en : Ends} {f m : Nat} {s : VS} {k : dY -> VS -> Prop} {root c : Code} (hs : rW f root m = some c) (hc : rW 70 root m = some (.loop ((rW 70 root (2 * m)).getD .skip))) (σ : S -> VS) (y0 : S) {B : S -> (S -> Prop) -> Prop} (h1 : HY en m s = σ y0)
  (h2 : ∀ y X, LB k en m (MS ct (2 * m) (vwp G ct en ((rW 70 root (2 * m)).getD .skip) (2 * m))) (σ y) X = B y fun y => X (σ y)) (h : Loop B y0) : Tl (vwp G ct en c m s k) :=
 aLw (aI1 hs hc) σ y0 h1 h2 h
theorem bS {ct : Tab} {en : Ends} {f m : Nat} {s : VS} {k : dY -> VS -> Prop} {root c : Code} (hs : rW f root m = some c) {R : Prop} (hc : rW 70 root m = some ((rW 70 root m).getD .skip)) (e : vwp G ct en ((rW 70 root m).getD .skip) m s k = R) (h : R) : Tl (vwp G ct en c m s k) := by
 have := aI1 hs hc
 subst this
 exact aLq h e
theorem aJU {c : Ctx} {x : Lf} {v : VV} {a : Value} {K : x.den -> Prop} (hr : R2 c v a) (h : aBT x v K) : ∃ d, K d /\ R2 c (aAt x d) a := by
 unfold aBT at h
 split at h
 ·split at h
  ·obtain ⟨e, h⟩ := Ty.at_inv h
   subst e
   exact ⟨_, h, hr⟩
  ·obtain ⟨rfl, _⟩ := dQ hr
   exact ⟨[], h, none, _, rfl, ⟨Nat.zero_le _, .inl rfl⟩⟩
  ·exact h.elim
 ·obtain ⟨d, rfl, h1⟩ := G3 h
  exact ⟨d, h1, hr⟩
theorem aAO {c : Ctx} {x : Lf} {v : VV} {a : Value} {K : x.den -> Prop} (hr : RL c v a) (h : aBT x v K) : ∃ d, K d /\ RL c (aAt x d) a := by
 unfold aBT at h
 split at h
 ·split at h
  ·obtain ⟨e, h⟩ := Ty.at_inv h
   subst e
   exact ⟨_, h, hr⟩
  ·obtain ⟨rfl, _⟩ := hr
   exact ⟨[], h, none, _, rfl, ⟨Nat.zero_le _, .inl rfl⟩⟩
  ·exact h.elim
 ·obtain ⟨d, rfl, h1⟩ := G3 h
  exact ⟨d, h1, hr⟩
theorem C1 {c : Ctx} : ∀ {l : List Lf} {vs : List VV} {azz : List Value} {K : aDW l -> Prop}, All2 (RL c) vs azz -> aH0 l vs K -> ∃ d, K d /\ All2 (RL c) (aAU l d) azz
  | [], vs, azz, K, hr, h => by
    unfold aH0 at h
    split at h
    · exact ⟨(), h, hr⟩
    · exact h.elim
  | x :: l, vs, azz, K, hr, h => by
    unfold aH0 at h
    split at h
    · cases hr with
      | cons hr t =>
        obtain ⟨a, h1, h2⟩ := aAO hr h
        obtain ⟨b, h3, h4⟩ := C1 t h1
        exact ⟨(a, b), h3, .cons h2 h4⟩
    · exact h.elim
theorem aIB {c : Ctx} {x : Lf} {v : VV} {a : Value} {K : x.den -> Prop} (hr : R1 c v a) (h : aBT x v K) : ∃ d, K d /\ R1 c (aAt x d) a := by
 have : ∃ d, K d /\ RL c (aAt x d) a := by
  refine aAO ?_ h
  cases v <;> first | exact hr | skip
  ·exfalso
   cases x <;> simp [aBT, unF, aI7, aF7] at h
   rename_i o t; cases o <;> simp [aBT, unF] at h
  ·exfalso
   cases x <;> simp [aBT, unF, aI7, aF7] at h
   rename_i o t; cases o <;> simp [aBT, unF] at h
 obtain ⟨d, k1, k2⟩ := this
 exact ⟨d, k1, aHO k2⟩
theorem aIM {c : Ctx} {x : Cp} {v : VV} {a : Value} {K : x.den -> Prop} (hr : R1 c v a) (h : aLf x v K) : ∃ d, K d /\ R1 c (aJ6 x d) a := by
 unfold aLf at h
 split at h
 ·exact aIB hr h
 ·split at h
  ·obtain ⟨azz, h1, h2⟩ := hr
   obtain ⟨d, k1, k2⟩ := C1 h2 h
   exact ⟨d, k1, azz, h1, k2⟩
  ·exact h.elim
 ·split at h
  ·obtain ⟨b, B, h1, h2, h3⟩ := hr
   obtain ⟨d, k1, k2⟩ := C1 h3 h
   exact ⟨d, k1, b, B, h1, h2, k2⟩
  ·exact h.elim
theorem aCg {c : Ctx} : ∀ {l : List Cp} {vs : List VV} {azz : List Value} {K : aJ4 l -> Prop}, All2 (R1 c) vs azz -> aLP l vs K -> ∃ d, K d /\ All2 (R1 c) (aJs l d) azz
  | [], vs, azz, K, hr, h => by
    unfold aLP at h
    split at h
    · exact ⟨(), h, hr⟩
    · exact h.elim
  | x :: l, vs, azz, K, hr, h => by
    unfold aLP at h
    split at h
    · cases hr with
      | cons hr t =>
        obtain ⟨a, h1, h2⟩ := aIM hr h
        obtain ⟨b, h3, h4⟩ := aCg t h1
        exact ⟨(a, b), h3, .cons h2 h4⟩
    · exact h.elim
theorem aID {c : Ctx} {x : Sh} {v : VV} {a : Value} {K : x.den -> Prop} (hr : R2 c v a) (h : aLK x v K) : ∃ d, K d /\ R2 c (aJe x d) a := by
  unfold aLK at h
  split at h
  · exact aJU hr h
  · split at h
    · obtain ⟨azz, rfl, h2⟩ := aCB hr
      obtain ⟨d, k1, k2⟩ := C1 h2 h
      exact ⟨d, k1, azz, rfl, k2⟩
    · exact h.elim
  · split at h
    · obtain ⟨b, B, rfl, h2, h3⟩ := aKO hr
      obtain ⟨d, k1, k2⟩ := C1 h3 h
      exact ⟨d, k1, b, B, rfl, h2, k2⟩
    · exact h.elim
  · split at h
    · split at h
      · rename_i e
        subst e
        obtain ⟨azz, e1, h2⟩ := hr
        obtain ⟨d, k1, k2⟩ := aCg h2 h
        exact ⟨d, k1, azz, e1, k2⟩
      · exact h.elim
    · exact h.elim
theorem aEv {c : Ctx} : ∀ {l : List Sh} {vs : List VV} {azz : List Value} {K : aI l -> Prop}, All2 (R2 c) vs azz -> unA l vs K -> ∃ d, K d /\ All2 (R2 c) (aM l d) azz
  | [], vs, azz, K, hr, h => by
    unfold unA at h
    split at h
    · exact ⟨(), h, hr⟩
    · exact h.elim
  | x :: l, vs, azz, K, hr, h => by
    unfold unA at h
    split at h
    · cases hr with
      | cons hr t =>
        obtain ⟨a, h1, h2⟩ := aID hr h
        obtain ⟨b, h3, h4⟩ := aEv t h1
        exact ⟨(a, b), h3, .cons h2 h4⟩
    · exact h.elim
theorem aE {P : Program} {O : FuncId -> List VV -> (List (Bool × List VV) -> Prop) -> Prop} (hO : ∀ f args Q, O f args Q -> aD P f args Q) {f0 : FuncId} (sh : List Sh) (D : aI sh -> (List (Bool × List VV) -> Prop) -> Prop) (hD : ∀ x Q, D x Q -> aD P f0 (aM sh x) Q) :
  ∀ f args Q, (if f = f0 then unA sh args (fun x => D x Q) else O f args Q) -> aD P f args Q := by
 intro f args Q h
 by_cases e : f = f0
 ·rw [if_pos e] at h
  subst e
  intro F fl H azz hF hfl ha
  obtain ⟨d, h1, h2⟩ := aEv ha h
  exact hD d Q h1 F fl H azz hF hfl h2
 ·rw [if_neg e] at h
  exact hO f args Q h
theorem P9 {P : Program} {O : FuncId -> List VV -> (List (Bool × List VV) -> Prop) -> Prop} (hO : ∀ f args Q, O f args Q -> aD P f args Q) {f0 : FuncId} (gs : List Nat) (sh : List Sh) (D : aI sh -> (List (Bool × List VV) -> Prop) -> Prop) (hD : ∀ x Q, D x Q -> aD P f0 (aM sh x) Q) :
  ∀ f args Q, (if f = f0 then (if aJf (aAo args) gs = true then unA sh args (fun x => D x Q) else O f args Q) else O f args Q) -> aD P f args Q := by
 intro f args Q h
 by_cases e : f = f0
 ·rw [if_pos e] at h
  by_cases e2 : aJf (aAo args) gs = true
  ·rw [if_pos e2] at h
   exact aE hO sh D hD f args Q (by rw [if_pos e]; exact h)
  ·rw [if_neg e2] at h
   exact hO f args Q h
 ·rw [if_neg e] at h
  exact hO f args Q h
end
end Go.Mach
