/- Part of the proof. No condition. -/
import Derived.Test.YtcfpfefadlnmcaaGreatYVHav
import Derived.Test.YtcfpfefadlnmcaaGreatYFrame
import Derived.KernelRfl
namespace Go.Mach
set_option linter.unusedVariables false
set_option linter.unusedSimpArgs false
section
variable {G:Cfg} {F0:Fz} {H0:aB} {c c':Ctx} {H H':aB} {s:VS} {ta:aC} {n fl:Nat} {ops:Array Oper}
def FD (c:Ctx) (b:Nat):Option Nat->Prop
 | some i=>c.ρ i=some b
 | none=>∃ B,c.F b=some B
theorem aGX {v : VV} {a : Value} (h : RL c v a) {locs : List (Option Nat)} (hl : IM v = some locs) : ∀ b ∈ cY a, ∃ x ∈ locs, FD c b x := by
  cases v with
  | pl v =>
    obtain ⟨rfl, hp⟩ := h
    intro b hb
    cases a <;> simp only [cY] at hb <;> try (cases hb; done)
    case pointer x => cases x with
      | none => cases hb
      | some _ => cases hp
    case slice x _ _ => cases x with
      | none => cases hb
      | some _ => cases hp
  | own i =>
    cases hl
    intro b hb
    simp only [RL] at h
    cases hi : c.h[i]? with
    | none => rw [hi] at h; exact h.elim
    | some o =>
      rw [hi] at h
      refine ⟨some i, by simp, ?_⟩
      cases o with
      | box _ _ => exact h.elim
      | lst _ _ _ _ =>
        simp only at h
        subst h
        cases hρ : c.ρ i with
        | none => rw [hρ] at hb; cases hb
        | some b' => rw [hρ] at hb; simp [sl, cY] at hb; subst hb; exact hρ
      | dead _ =>
        obtain ⟨_, _, rfl⟩ := h
        cases hρ : c.ρ i with
        | none => rw [hρ] at hb; cases hb
        | some b' => rw [hρ] at hb; simp [cY] at hb; subst hb; exact hρ
  | ptr i off =>
    cases hl
    intro b hb
    obtain ⟨b', cs, fr, h1, h2, rfl⟩ := h
    simp [cY] at hb
    subst hb
    exact ⟨some i, by simp, h2⟩
  | mptr i off =>
    cases hl
    intro b hb
    rcases h with rfl | ⟨b', h1, h2, rfl⟩
    · cases hb
    · simp [cY] at hb
      subst hb
      exact ⟨some i, by simp, h1⟩
  | eptr i ix off =>
    cases hl
    intro b hb
    obtain ⟨b', h1, h2⟩ := h
    have : b = b' := by
      split at h2
      · obtain ⟨_, rfl⟩ := h2; simpa [cY] using hb
      · obtain ⟨_, rfl⟩ := h2; simpa [cY] using hb
      · exact h2.elim
    subst this
    exact ⟨some i, by simp, h1⟩
  | fptr o t l ix off =>
    cases hl
    intro b hb
    obtain ⟨b', q, B, x, cs, rfl, h2, _⟩ := h
    simp [cY] at hb
    subst hb
    exact ⟨none, by simp, B, wK _ _ h2⟩
  | hof i => cases hl
  | er b => cases hl
  | bs l => exact h.elim
  | undef => cases hl
  | fz o t l => cases hl
  | agg l => exact h.elim
  | tup l => exact h.elim
  | bx l off => exact h.elim
  | fn f l => exact h.elim
  | nw t l => exact h.elim
theorem JD {v:VV} {a:Value} (h:R2 c v a) {locs:List (Option Nat)} (hl:IM v=some locs):∀ b∈cY a,∃ x∈locs,FD c b x:=by
 cases v
 case tup l=>obtain ⟨azz,rfl,_⟩:=h; intro b hb; cases hb
 case fn f l=>obtain ⟨azz,rfl,_⟩:=h; intro b hb; cases hb
 case agg l=>obtain ⟨azz,rfl,_⟩:=h; intro b hb; cases hb
 case bx l off =>
  obtain ⟨b',B,rfl,h2,_⟩:=h
  cases hl
  intro b hb
  simp [cY] at hb
  subst hb
  exact ⟨none,by simp,B,h2⟩
 case bs l=>cases hl
 all_goals exact aGX (V4 (fun _ e=>by cases e) (fun _ _ e=>by cases e) (fun _ e=>by cases e) (UZ (fun _ e=>by cases e) (fun _ _ e=>by cases e) h)) hl
theorem LL : ∀ {vs : List VV} {azz : List Value}, All2 (R2 c) vs azz -> ∀ {locs : List (Option Nat)}, NF vs = some locs -> ∀ b ∈ azz.flatMap cY, ∃ x ∈ locs, FD c b x
  | _, _, .nil, locs, h, b, hb => by cases hb
  | v :: vs, a :: azz, .cons h t, locs, hl, b, hb => by
    unfold NF at hl
    split at hl
    · rename_i x y h1 h2
      cases hl
      rw [List.flatMap_cons, List.mem_append] at hb
      rcases hb with hb | hb
      · obtain ⟨z, h3, h4⟩ := JD h h1 b hb; exact ⟨z, List.mem_append_left _ h3, h4⟩
      · obtain ⟨z, h3, h4⟩ := LL t h2 b hb; exact ⟨z, List.mem_append_right _ h3, h4⟩
    · cases hl
theorem QO {op : Op} (ht : Tok c s.t ta) (hx : ∀ x ∈ op.operands.toList, aE n x = true) {locs : List (Option Nat)} (hl : aE3 op s.t = some locs) : ∀ b ∈ jZ op (eval ta), ∃ x ∈ locs, FD c b x := by
  cases op
  case load ty a => exact JD (cT ht (hx a (by simp [Op.operands]))) hl
  case store ty a y => exact JD (cT ht (hx a (by simp [Op.operands]))) hl
  case convert p d x => exact JD (cT ht (hx x (by simp [Op.operands]))) hl
  case call cl =>
    have hargs := oK ht (l := cl.args.toList) (fun x h => hx x (by simp only [Op.operands, Call.operands, Array.toList_append]; exact List.mem_append_right _ h))
    have e2 : (cl.args.map (eval ta)).toList = cl.args.toList.map (eval ta) := by simp
    simp only [aE3, jZ] at hl ⊢
    cases hc : cl.callee with
    | builtin bt =>
      rw [hc] at hl
      cases bt <;> first
        | (simp only [e2]; exact LL hargs hl)
        | (intro b hb; cases hb)
    | value f => intro b hb; cases hb
    | invoke f m => intro b hb; cases hb
  all_goals (intro b hb; cases hb)
theorem S7 {op : Op} (ht : Tok c s.t ta) (hx : ∀ x ∈ op.operands.toList, aE n x = true) {locs : List (Option Nat)} (hl : wrV op s.t = some locs) : ∀ b ∈ qD op (eval ta), ∃ x ∈ locs, FD c b x := by
  cases op
  case store ty a y => exact JD (cT ht (hx a (by simp [Op.operands]))) hl
  case call cl =>
    have hax : ∀ x ∈ cl.args.toList, aE n x = true := fun x h => hx x (by simp only [Op.operands, Call.operands, Array.toList_append]; exact List.mem_append_right _ h)
    have key : ∀ locs, (match cl.args.toList with
        | x :: _ => IM (evV s.t x)
        | [] => some []) = some locs -> ∀ b ∈ (cl.args.map (eval ta))[0]?.elim [] cY, ∃ x ∈ locs, FD c b x := by
      intro locs hl b hb
      have e3 : (cl.args.map (eval ta))[0]? = (cl.args.toList.map (eval ta))[0]? := by
        rw [<- Array.getElem?_toList]; simp
      rw [e3] at hb
      split at hl
      · rename_i x l e4
        rw [e4] at hb
        exact JD (cT ht (hax x (by rw [e4]; exact List.mem_cons_self))) hl b (by simpa using hb)
      · rename_i e4; rw [e4] at hb; simp at hb
    simp only [wrV, qD] at hl ⊢
    cases hc : cl.callee with
    | builtin bt =>
      rw [hc] at hl
      cases bt <;> first
        | exact key _ hl
        | (intro b hb; cases hb)
    | value f => intro b hb; cases hb
    | invoke f m => intro b hb; cases hb
  all_goals (intro b hb; cases hb)
theorem W9 (hr : Rel F0 H0 c s ta H) {x y : List (Option Nat)} {xs ys : List Nat} (h : VZ s.h (some x) (some y) = true) (hx : ∀ b ∈ xs, ∃ z ∈ x, FD c b z) (hy : ∀ b ∈ ys, ∃ z ∈ y, FD c b z) : GI xs ys = true := by
  obtain ⟨hh, hok, ht⟩ := hr
  have h : (x.all fun x => y.all fun y => DE s.h x y) = true := by
    cases x with
    | nil => rfl
    | cons _ _ =>
      cases y with
      | nil => simp
      | cons _ _ => exact h
  simp only [List.all_eq_true] at h
  unfold GI
  simp only [List.all_eq_true, bne_iff_ne]
  intro b hb b' hb' e
  subst e
  obtain ⟨z, hz, hz2⟩ := hx b hb
  obtain ⟨w, hw, hw2⟩ := hy b hb'
  have ha := h z hz w hw
  have own : ∀ i, c.ρ i = some b -> DE.ownB (bO s.h i) = true -> c.F b = none /\ c.h[i]? ≠ some (.dead false) := by
    intro i hi ho
    have hlt := hok.lt hi
    have hg : c.h[i]? = some (bO s.h i) := by
      rw [<- hh]
      unfold bO
      rw [List.getD_eq_getElem?_getD, List.getElem?_eq_getElem hlt]; rfl
    have ob := hok.obj i _ hg
    cases e : bO s.h i with
    | box cs fr =>
      rw [e] at ho hg
      obtain ⟨b', azz, k1, _, _, _, k5⟩ := ob.box cs fr e
      rw [hi] at k1; cases k1
      refine ⟨k5 (by cases fr <;> first | rfl | cases ho), by rw [hg]; intro e; cases e⟩
    | lst q t l fr =>
      rw [e] at ho hg
      obtain ⟨azz, ex, _, _, _, k4⟩ := (ob.lst q t l fr e).2 b hi
      refine ⟨k4 (by cases fr <;> first | rfl | cases ho), by rw [hg]; intro e; cases e⟩
    | dead d =>
      rw [e] at ho hg
      have : d = true := ho
      subst this
      exact ⟨ob.dead b e hi, by rw [hg]; intro e; cases e⟩
  cases z with
  | some i =>
    cases w with
    | some j =>
      unfold DE at ha
      simp only [Bool.and_eq_true, Bool.or_eq_true, bne_iff_ne] at ha
      have bx : ∀ i j, i ≠ j -> c.ρ i = some b -> c.ρ j = some b -> DE.boxB (bO s.h i) = true -> False := fun i j hij hi hj hb => by
        have hg : c.h[i]? = some (bO s.h i) := by
          rw [<- hh]
          unfold bO
          rw [List.getD_eq_getElem?_getD, List.getElem?_eq_getElem (hok.lt hi)]; rfl
        have := hok.bj i j b _ hij hi hj hg
        cases e : bO s.h i with
        | box cs fr => rw [e] at this; cases this
        | lst _ _ _ _ => rw [e] at hb; cases hb
        | dead _ => rw [e] at hb; cases hb
      rcases ha.2 with ha2 | ha2
      · rcases ha2 with e | e
        · exact bx i j ha.1 hz2 hw2 e
        · exact bx j i (fun e => ha.1 e.symm) hw2 hz2 e
      · rcases hok.inj i j b ha.1 hz2 hw2 with e | e
        · exact (own i hz2 ha2.1).2 e
        · exact (own j hw2 ha2.2).2 e
    | none =>
      obtain ⟨B, hB⟩ := hw2
      rw [(own i hz2 ha).1] at hB; cases hB
  | none =>
    cases w with
    | some j =>
      obtain ⟨B, hB⟩ := hz2
      rw [(own j hw2 ha).1] at hB; cases hB
    | none => cases ha
theorem R8 (hr : Rel F0 H0 c s ta H) {X Y : Option (List (Option Nat))} {xs ys : List Nat} (h : VZ s.h X Y = true) (hx : ∀ x, X = some x -> ∀ b ∈ xs, ∃ z ∈ x, FD c b z) (hy : ∀ y, Y = some y -> ∀ b ∈ ys, ∃ z ∈ y, FD c b z) : GI xs ys = true := by
  cases X with
  | some x =>
    cases Y with
    | some y => exact W9 hr h (hx x rfl) (hy y rfl)
    | none =>
      cases x with
      | nil =>
        have : xs = [] := List.eq_nil_iff_forall_not_mem.2 fun b hb => by obtain ⟨z, hz, _⟩ := hx [] rfl b hb; cases hz
        rw [this]; rfl
      | cons _ _ => cases h
  | none =>
    cases Y with
    | none => cases h
    | some y =>
      cases y with
      | nil =>
        have : ys = [] := List.eq_nil_iff_forall_not_mem.2 fun b hb => by obtain ⟨z, hz, _⟩ := hy [] rfl b hb; cases hz
        rw [this]; unfold GI; simp
      | cons _ _ => cases h
theorem LW (hr:Rel F0 H0 c s ta H) (hop:∀ o∈ops.toList,mQ n ops o=true) {p:Nat×Nat} (h:OV ops s p=true):i9 ops ta p=true:=by
 unfold OV at h
 unfold i9
 split at h
 ·rename_i oi oj h1 h2
  rw [h1,h2]
  have m1:oi∈ops.toList:=by rw [<- Array.getElem?_toList] at h1; exact List.mem_of_getElem? h1
  have m2:oj∈ops.toList:=by rw [<- Array.getElem?_toList] at h2; exact List.mem_of_getElem? h2
  simp only [Bool.and_eq_true] at h ⊢
  obtain ⟨ha,hb⟩:=h
  exact ⟨R8 hr ha (fun x e=>S7 hr.2.2 (iR (hop oi m1)) e) (fun y e=>QO hr.2.2 (iR (hop oj m2)) e),
   R8 hr hb (fun x e=>QO hr.2.2 (iR (hop oi m1)) e) (fun y e=>S7 hr.2.2 (iR (hop oj m2)) e)⟩
 ·cases h
theorem PU {id : Nat} {draw : Bool} {k : VS -> Prop} (he : Env G H0 c fl n ops) (hr : Rel F0 H0 c s ta H) (hop : ∀ o ∈ ops.toList, mQ n ops o = true) (hv : DV G ops draw s k) {Q : dS -> aC -> aB -> Prop}
    (hQ : ∀ ta' H', After F0 H0 c k ta' H' -> Q .normal ta' H') : W G.P fl (.region id ops draw) ta H Q := by
  unfold DV at hv
  split at hv
  · refine YT (ops.toList.map fun _ => true) [] (.inr ⟨rfl, rfl⟩) ?_
    refine AE ?_ (rN (ops.size + 1) none ops.toList _ he hr trivial hop (fun j w d e => by cases e) hv)
    rintro t' H' ⟨hA, _⟩
    exact ⟨rfl, hQ t' H' hA⟩
  · split at hv
    · rename_i hd
      refine YT (tB ops (bK ops.toList #[]) 0 ops.toList) (jA ops (bK ops.toList #[])) (.inl ⟨rfl, ?_⟩) ?_
      · unfold sK
        simp only [hd, Bool.true_and]
        simp
      · refine AE ?_ (rN (ops.size + 1) none ops.toList _ he hr trivial hop (fun j w d e => by cases e) hv)
        rintro t' H' ⟨⟨s', c', hle, hr', hk⟩, _⟩
        split at hk
        · rename_i hcl
          refine ⟨?_, hQ t' H' ⟨s', c', hle, hr', hk⟩⟩
          rw [List.all_eq_true] at hcl ⊢
          exact fun p hp => LW hr' hop (hcl p hp)
        · exact hk.elim
    · exact hv.elim
theorem JO : ∀ {l : List Oper} {p : List Oper} {o : Oper}, NS l = some (p, o) -> l = p ++ [o]
  | [], p, o, h => by cases h
  | [x], p, o, h => by cases h; rfl
  | x :: y :: l, p, o, h => by
    simp only [NS] at h
    split at h
    · rename_i e; cases e
    · rename_i q z e
      cases h
      have := JO (l := y :: l) e
      rw [this]; rfl
    · cases h
theorem GD {b : Array Nat} : ∀ (p : List Oper) (i : Nat) (l : List Oper), (tB ops b i (p ++ l)).drop p.length = tB ops b (i + p.length) l
  | [], i, l => rfl
  | x :: p, i, l => by
    simp only [List.cons_append, tB, List.length_cons, List.drop_succ_cons]
    rw [GD p (i + 1) l, show i + 1 + p.length = i + (p.length + 1) by omega]
def cA (P : Program) (J : Inl) : Prop := ∀ (g : FuncId) (args : List VV) (s : VS) (k : VV -> VS -> Prop), J.B g = true -> J.run g args s k ->
  ∀ (F0 : Fz) (H0 : aB) (c : Ctx) (H : aB) (fl : Nat) (ta : aC) (az : List Value), Rel F0 H0 c s ta H -> fl <= H0.length -> All2 (R2 c) args az ->
    WCall P fl g az.toArray H fun v H' => ∃ vv s2 c2, c2.hs = c.hs /\ Rel F0 H0 c2 s2 ta H' /\ R2 c2 vv v /\ k vv s2
theorem XW {B : FuncId -> Bool} : ∀ {l p : List Oper} {q : List Oper × Oper × FuncId × List Operand × List Oper}, N6 B p l = some q ->
    p ++ l = q.1 ++ q.2.1 :: q.2.2.2.2 /\ q.2.1.guard = none /\ ∃ cl, q.2.1.op = .call cl /\ cl.callee = .value (.func q.2.2.1) /\ q.2.2.2.1 = cl.args.toList /\ B q.2.2.1 = true
  | [], p, q, h => by cases h
  | o :: l, p, q, h => by
    have next : N6 B (p ++ [o]) l = some q -> p ++ o :: l = q.1 ++ q.2.1 :: q.2.2.2.2 /\ q.2.1.guard = none /\ ∃ cl, q.2.1.op = .call cl /\ cl.callee = .value (.func q.2.2.1) /\ q.2.2.2.1 = cl.args.toList /\ B q.2.2.1 = true := fun h => by
      have := XW h
      rw [List.append_assoc] at this
      exact this
    unfold N6 at h
    split at h
    · rename_i cl hg hop
      split at h
      · rename_i g hc
        split at h
        · rename_i hb
          cases h
          exact ⟨rfl, hg, cl, hop, hc, rfl, hb⟩
        · exact next h
      · exact next h
    · exact next h
theorem ZX {id : Nat} {draw : Bool} {k : VS -> Prop} {J : Inl} {pre post : List Oper} {o : Oper} {g' : FuncId} {args : List Operand} (he : Env G H0 c fl n ops) (hI : cA G.P J) (hr : Rel F0 H0 c s ta H) (hop : ∀ o ∈ ops.toList, mQ n ops o = true)
    (hm : U2 J.B ops draw = some (pre, o, g', args, post)) (hv : vS G ops (ops.size + 1) none pre s fun s1 => match GT G.P g' with
        | true => J.run g' (args.map (evV s1.t)) s1 fun v s2 => vS G ops (ops.size + 1) none post (VS.set s2 o.dst v) fun s' => match !draw || (jA ops (bK ops.toList #[])).all (OV ops s') with
          | true => k s'
          | false => False
        | false => False) {Q : dS -> aC -> aB -> Prop}
    (hQ : ∀ ta' H' s' c', c'.hs = c.hs -> Rel F0 H0 c' s' ta' H' -> k s' -> Q .normal ta' H') : W G.P fl (.region id ops draw) ta H Q := by
  unfold U2 at hm
  split at hm
  · cases hm
  rename_i p1 o1 g1 as1 r1 hat
  obtain ⟨hl, hg, cl, hopc, hc, has, hb⟩ := XW hat
  rw [List.nil_append] at hl
  dsimp only at hl hg hopc hc has hb
  have key : ∃ (g : List Bool) (cl : List (Nat × Nat)), ((draw = true /\ sK ops g cl = true) \/ (draw = false /\ g = ops.toList.map fun _ => true)) /\ (g.drop p1.length).headD false = true /\ some (p1, o1, g1, as1, r1) = some (pre, o, g', args, post) /\ ((draw = false /\ cl = []) \/ (draw = true /\ cl = jA ops (bK ops.toList #[]))) := by
    split at hm
    · refine ⟨_, [], .inr ⟨rfl, rfl⟩, ?_, hm, .inl ⟨rfl, rfl⟩⟩
      rw [hl]
      simp
    · split at hm
      · rename_i hd
        simp only [Bool.and_eq_true] at hd
        obtain ⟨⟨h1, h2⟩, h3⟩ := hd
        refine ⟨tB ops (bK ops.toList #[]) 0 ops.toList, jA ops (bK ops.toList #[]), .inl ⟨rfl, ?_⟩, ?_, hm, .inr ⟨rfl, rfl⟩⟩
        · unfold sK
          simp only [h1, h2, Bool.true_and, beq_self_eq_true, Bool.and_self]
        · have e1 : tB ops (bK ops.toList #[]) 0 ops.toList = tB ops (bK ops.toList #[]) 0 (p1 ++ o1 :: r1) := by rw [<- hl]
          rw [e1, GD p1 0 (o1 :: r1), Nat.zero_add]
          have hk : bA o1.op = 4 := by rw [hopc]; simp only [bA, hc]
          simp only [tB, List.headD_cons, hk, h3, beq_self_eq_true, Bool.and_self]
      · cases hm
  obtain ⟨g, ch, hd, hhead, he3, hch⟩ := key
  simp only [Option.some.injEq, Prod.mk.injEq] at he3
  obtain ⟨rfl, rfl, rfl, rfl, rfl⟩ := he3
  refine YT g ch hd ?_
  rw [hl]
  refine sF p1 ?_
  have hopp : ∀ x ∈ p1, mQ n ops x = true := fun x hx => hop x (by rw [hl]; exact List.mem_append_left _ hx)
  have hopo : mQ n ops o1 = true := hop o1 (by rw [hl]; simp)
  have hopr : ∀ x ∈ r1, mQ n ops x = true := fun x hx => hop x (by rw [hl]; exact List.mem_append_right _ (List.mem_cons_of_mem _ hx))
  refine AE ?_ (rN (ops.size + 1) none p1 g he hr trivial hopp (fun j w d e => by cases e) hv)
  rintro t1 H1 ⟨⟨s1, c1, hle, hr1, hk⟩, _⟩
  show WOp G.P fl (if (g.drop p1.length).headD false then fl else H1.length) ops o1 t1 H1 fun t' H' => WDrawn G.P fl ops (g.drop p1.length).tail r1 t' H' _
  rw [hhead, if_pos rfl]
  have hw : dZ ops t1 o1 = true := by unfold dZ; rw [hg]
  split at hk
  case h_2 => exact hk.elim
  rename_i hgood
  have hx := (iR hopo)
  rw [hopc] at hx
  have hax : ∀ x ∈ cl.args.toList, aE n x = true := fun x h => hx x (by simp only [Op.operands, Call.operands, Array.toList_append]; exact List.mem_append_right _ h)
  subst has
  have hargs : All2 (R2 c1) (cl.args.toList.map (evV s1.t)) (cl.args.toList.map (eval t1)) := oK hr1.2.2 hax
  unfold WOp
  rw [if_pos hw]
  have hp : aT G.P fl o1.op (eval t1) H1 = some (.enter g1 (cl.args.toList.map (eval t1)).toArray, H1) := by
    have : cl.args.map (eval t1) = (cl.args.toList.map (eval t1)).toArray := by apply Array.toList_inj.1; simp
    rw [hopc]
    simp only [aT, oW, hc, eval, hgood, if_true, this]
    simp
  simp only [hp]
  refine WCall.mono (hI g1 _ _ _ hb hk F0 H0 c1 H1 fl t1 _ hr1 he.fl hargs) ?_
  rintro v H' ⟨vv, s2, c2, g1, g2, g3, g4⟩
  have hr2 : Rel F0 H0 c2 (VS.set s2 o1.dst vv) _ H' := ⟨by rw [aAs]; exact g2.1, g2.2.1, Tok.put (Le.refl c2) g2.2.2 g3⟩
  refine AE ?_ (rN (ops.size + 1) none r1 (g.drop p1.length).tail (c := c2) ⟨he.O, he.fl⟩ hr2 trivial hopr (fun j w d e => by cases e) g4)
  rintro t3 H3 ⟨⟨s3, c3, hle3, hr3, hk3⟩, _⟩
  split at hk3
  case h_2 => exact hk3.elim
  rename_i hcl
  refine ⟨?_, hQ t3 H3 s3 c3 (hle3.hs.trans (g1.trans hle.hs)) hr3 hk3⟩
  rcases hch with ⟨_, rfl⟩ | ⟨rfl, rfl⟩
  · rfl
  · simp only [Bool.not_true, Bool.false_or] at hcl
    rw [List.all_eq_true] at hcl ⊢
    exact fun p hp => LW hr3 hop (hcl p hp)
theorem FT {id : Nat} {draw : Bool} {k : VS -> Prop} (he : Env G H0 c fl n ops) (hI : ∀ J, G.I = some J -> cA G.P J) (hr : Rel F0 H0 c s ta H) (hop : ∀ o ∈ ops.toList, mQ n ops o = true) (hv : NC G ops draw s k) {Q : dS -> aC -> aB -> Prop}
    (hQ : ∀ ta' H' s' c', c'.hs = c.hs -> Rel F0 H0 c' s' ta' H' -> k s' -> Q .normal ta' H') : W G.P fl (.region id ops draw) ta H Q := by
  have plain : DV G ops draw s k -> W G.P fl (.region id ops draw) ta H Q := fun h0 =>
    PU he hr hop h0 fun ta' H' ⟨s', c', hle, hr', hk⟩ => hQ ta' H' s' c' hle.hs hr' hk
  unfold NC at hv
  split at hv
  · exact plain hv
  rename_i J hJ
  split at hv
  · split at hv
    · exact plain hv
    · rename_i hm
      exact ZX he (hI J hJ) hr hop hm hv hQ
  rename_i pre o f args he2
  unfold aAt at he2
  split at he2
  case h_2 => cases he2
  rename_i pre' o' hlast
  have hl := JO hlast
  split at he2
  case h_2 => cases he2
  rename_i cl hg hopc
  split at he2
  case h_2 => cases he2
  rename_i f' hc
  have key : ∃ g : List Bool, ((draw = true /\ sK ops g [] = true) \/ (draw = false /\ g = ops.toList.map fun _ => true)) /\ (g.drop pre'.length).headD false = true /\ some (pre', o', f', cl.args.toList) = some (pre, o, f, args) := by
    split at he2
    · refine ⟨_, .inr ⟨rfl, rfl⟩, ?_, he2⟩
      rw [hl]
      simp
    · split at he2
      · rename_i hd
        simp only [Bool.and_eq_true, List.isEmpty_iff] at hd
        obtain ⟨⟨h1, h2⟩, h3⟩ := hd
        refine ⟨tB ops (bK ops.toList #[]) 0 ops.toList, .inl ⟨rfl, ?_⟩, ?_, he2⟩
        · unfold sK
          simp only [h1, h2, List.all_nil, Bool.true_and, Bool.and_true, beq_self_eq_true, Bool.and_self]
        · have e1 : tB ops (bK ops.toList #[]) 0 ops.toList = tB ops (bK ops.toList #[]) 0 (pre' ++ [o']) := by rw [<- hl]
          rw [e1, GD pre' 0 [o'], Nat.zero_add]
          have hk : bA o'.op = 4 := by rw [hopc]; simp only [bA, hc]
          simp only [tB, List.headD_cons, hk, h3, beq_self_eq_true, Bool.and_self]
      · cases he2
  obtain ⟨g, hd, hhead, he3⟩ := key
  simp only [Option.some.injEq, Prod.mk.injEq] at he3
  obtain ⟨rfl, rfl, rfl, rfl⟩ := he3
  refine YT g [] hd ?_
  rw [hl]
  refine sF pre' ?_
  have hopp : ∀ x ∈ pre', mQ n ops x = true := fun x hx => hop x (by rw [hl]; exact List.mem_append_left _ hx)
  have hopo : mQ n ops o' = true := hop o' (by rw [hl]; simp)
  refine AE ?_ (rN (ops.size + 1) none pre' g he hr trivial hopp (fun j w d e => by cases e) hv)
  rintro t1 H1 ⟨⟨s1, c1, hle, hr1, hk⟩, _⟩
  show WOp G.P fl (if (g.drop pre'.length).headD false then fl else H1.length) ops o' t1 H1 fun t' H' => WDrawn G.P fl ops (g.drop pre'.length).tail [] t' H' _
  rw [hhead, if_pos rfl]
  have hw : dZ ops t1 o' = true := by unfold dZ; rw [hg]
  have fin : ∀ t' H' s' c', c'.hs = c.hs -> Rel F0 H0 c' s' t' H' -> k s' -> WDrawn G.P fl ops (g.drop pre'.length).tail [] t' H' fun t' H' => ([] : List (Nat × Nat)).all (i9 ops t') = true /\ Q .normal t' H' := by
    intro t' H' s' c' h1 h2 h3
    have : ∀ gs : List Bool, WDrawn G.P fl ops gs [] t' H' fun t' H' => ([] : List (Nat × Nat)).all (i9 ops t') = true /\ Q .normal t' H' := by
      intro gs
      cases gs <;> exact ⟨rfl, hQ t' H' s' c' h1 h2 h3⟩
    exact this _
  have hfl1 : fl <= H1.length := Nat.le_trans he.fl hr1.2.1.pre.len
  have one : FO G o' s1 k -> WOp G.P fl fl ops o' t1 H1 fun t' H' => WDrawn G.P fl ops (g.drop pre'.length).tail [] t' H' fun t' H' => ([] : List (Nat × Nat)).all (i9 ops t') = true /\ Q .normal t' H' := fun hv1 =>
    DX (he.le hle) hr1 hopo hw hv1 hfl1 fun t' H' _ _ ⟨s', c', hle', hr', hk'⟩ => fin t' H' s' c' (hle'.hs.trans hle.hs) hr' hk'
  split at hk
  · rename_i g' caps hev
    split at hk
    · rename_i hb
      simp only [Bool.and_eq_true] at hb
      have hx := (iR hopo)
      rw [hopc] at hx
      have hfx : aE n f' = true := hx f' (by simp only [Op.operands, Call.operands, hc]; simp)
      have hax : ∀ x ∈ cl.args.toList, aE n x = true := fun x h => hx x (by simp only [Op.operands, Call.operands, Array.toList_append]; exact List.mem_append_right _ h)
      have hf := cT hr1.2.2 hfx
      rw [hev] at hf
      obtain ⟨cp, e1, hcp⟩ := hf
      have hargs : All2 (R2 c1) (cl.args.toList.map (evV s1.t) ++ caps) (cl.args.toList.map (eval t1) ++ cp) := (oK hr1.2.2 hax).app (hcp.mono fun v a h => yQ h)
      unfold WOp
      rw [if_pos hw]
      have hp : aT G.P fl o'.op (eval t1) H1 = some (.enter g' (cl.args.toList.map (eval t1) ++ cp).toArray, H1) := by
        have : cl.args.map (eval t1) = (cl.args.toList.map (eval t1)).toArray := by apply Array.toList_inj.1; simp
        rw [hopc]
        simp only [aT, oW, hc, e1, hb.2, if_true, this]
        simp
      simp only [hp]
      refine WCall.mono (hI J hJ g' _ _ _ hb.1 hk F0 H0 c1 H1 fl t1 _ hr1 he.fl hargs) ?_
      rintro v H' ⟨vv, s2, c2, g1, g2, g3, g4⟩
      exact fin _ _ _ c2 (g1.trans hle.hs) ⟨by rw [aAs]; exact g2.1, g2.2.1, Tok.put (Le.refl c2) g2.2.2 g3⟩ g4
    · exact one hk
  · exact one hk
theorem aGP {cells:List Value} {q:Nat} {v:Value} (h:InB cells q 1 [v]):cells[q]? = some v:=by
 obtain ⟨h1,h2⟩:=h
 have hlt:q<cells.length:=by omega
 rw [List.drop_eq_getElem_cons hlt,List.take_succ_cons,List.take_zero] at h2
 simp only [List.cons.injEq,and_true] at h2
 rw [List.getElem?_eq_getElem hlt,h2]
theorem QL {id : Nat} {draw : Bool} {live : List Nat} {k : VS -> Prop} (he : Env G H0 c fl n ops) (hI : ∀ J, G.I = some J -> cA G.P J) (hr : Rel F0 H0 c s ta H) (hop : ∀ o ∈ ops.toList, mQ n ops o = true) (hv : NX G ops draw live s k) {Q : dS -> aC -> aB -> Prop}
    (hQ : ∀ ta' H' s' c', c'.hs = c.hs -> Rel F0 H0 c' s' ta' H' -> k s' -> Q .normal ta' H') : W G.P fl (.region id ops draw) ta H Q := by
  unfold NX at hv
  split at hv
  · exact FT he hI hr hop hv hQ
  split at hv
  · exact FT he hI hr hop hv hQ
  rename_i pre o ty a x he2
  unfold WB at he2
  split at he2
  case h_2 => cases he2
  rename_i pre' o' hlast
  have hl := JO hlast
  split at he2
  case h_2 => cases he2
  rename_i ty' a' x' hg hdst hopc
  have key : ∃ g : List Bool, ((draw = true /\ sK ops g [] = true) \/ (draw = false /\ g = ops.toList.map fun _ => true)) /\ some (pre', o', ty', a', x') = some (pre, o, ty, a, x) := by
    split at he2
    · exact ⟨_, .inr ⟨rfl, rfl⟩, he2⟩
    · split at he2
      · rename_i hd
        simp only [Bool.and_eq_true, List.isEmpty_iff] at hd
        obtain ⟨h1, h2⟩ := hd
        refine ⟨tB ops (bK ops.toList #[]) 0 ops.toList, .inl ⟨rfl, ?_⟩, he2⟩
        unfold sK
        simp only [h1, h2, List.all_nil, Bool.true_and, Bool.and_true, beq_self_eq_true, Bool.and_self]
      · cases he2
  obtain ⟨g, hd, he3⟩ := key
  simp only [Option.some.injEq, Prod.mk.injEq] at he3
  obtain ⟨rfl, rfl, rfl, rfl, rfl⟩ := he3
  refine YT g [] hd ?_
  rw [hl]
  refine sF pre' ?_
  have hopp : ∀ x ∈ pre', mQ n ops x = true := fun x hx => hop x (by rw [hl]; exact List.mem_append_left _ hx)
  have hopo : mQ n ops o' = true := hop o' (by rw [hl]; simp)
  refine AE ?_ (rN (ops.size + 1) none pre' g he hr trivial hopp (fun j w d e => by cases e) hv)
  rintro t1 H1 ⟨⟨s1, c1, hle, hr1, hk⟩, _⟩
  show WOp G.P fl (if (g.drop pre'.length).headD false then fl else H1.length) ops o' t1 H1 fun t' H' => WDrawn G.P fl ops (g.drop pre'.length).tail [] t' H' _
  have hw : dZ ops t1 o' = true := by unfold dZ; rw [hg]
  have fin : ∀ t' H' s' c', c'.hs = c.hs -> Rel F0 H0 c' s' t' H' -> k s' -> WDrawn G.P fl ops (g.drop pre'.length).tail [] t' H' fun t' H' => ([] : List (Nat × Nat)).all (i9 ops t') = true /\ Q .normal t' H' := by
    intro t' H' s' c' h1 h2 h3
    have : ∀ gs : List Bool, WDrawn G.P fl ops gs [] t' H' fun t' H' => ([] : List (Nat × Nat)).all (i9 ops t') = true /\ Q .normal t' H' := by
      intro gs
      cases gs <;> exact ⟨rfl, hQ t' H' s' c' h1 h2 h3⟩
    exact this _
  have hfl1 : fl <= H1.length := Nat.le_trans he.fl hr1.2.1.pre.len
  have hflc : (if (g.drop pre'.length).headD false then fl else H1.length) <= H1.length := by split <;> omega
  have one : FO G o' s1 k -> WOp G.P fl (if (g.drop pre'.length).headD false then fl else H1.length) ops o' t1 H1 fun t' H' => WDrawn G.P fl ops (g.drop pre'.length).tail [] t' H' fun t' H' => ([] : List (Nat × Nat)).all (i9 ops t') = true /\ Q .normal t' H' := fun hv1 =>
    DX (he.le hle) hr1 hopo hw hv1 hflc fun t' H' _ _ ⟨s', c', hle', hr', hk'⟩ => fin t' H' s' c' (hle'.hs.trans hle.hs) hr' hk'
  split at hk
  · rename_i kd l ix kd' v ha hx
    split at hk
    case isFalse => exact hk.elim
    rename_i hc
    obtain ⟨rfl, hsz⟩ := hc
    have hxs := iR hopo
    rw [hopc] at hxs
    have hax : aE n a' = true := hxs a' (by simp [Op.operands])
    have hxx : aE n x' = true := hxs x' (by simp [Op.operands])
    have h1 := cT hr1.2.2 hax
    have h2 := cT hr1.2.2 hxx
    rw [ha] at h1
    rw [hx] at h2
    obtain ⟨b, q, B, y, cs, e1, e2, e3, e4, e5⟩ := HN h1
    obtain ⟨e6, _⟩ := dJ h2
    have e5 : cs = [.int kd y] := e5
    subst e5
    have hq := aGP e4
    have hb : c1.n0 <= b := by
      unfold dO at e2
      split at e2
      · cases e2
      · rename_i hn; simp at hn; exact hn
    have hF : c1.F b = some B := wK _ _ e2
    have hbk := hr1.2.1.fz b B hF
    have hn0 := hr1.2.1.n0
    have hqlt : q < B.cells.length := (List.getElem?_eq_some_iff.1 hq).1
    have hsb : xQ G.P ty' B (q + 0) (eval t1 x') = some { B with cells := B.cells.set q (.int kd v) } := by
      unfold xQ
      rw [e6]
      rw [if_pos ⟨hsz, by show q + 0 + 1 <= _; omega, rfl⟩]
      rfl
    obtain ⟨H', f1, f2, f3⟩ := EZ (P := G.P) (fl := fl) hbk (by have := he.fl; omega) hsb
    unfold WOp
    rw [if_pos hw]
    have hp : aT G.P fl o'.op (eval t1) H1 = some (.skip, H') := by
      rw [hopc]
      simp only [aT, e1, f1, Option.map_some]
    simp only [hp]
    rw [hdst]
    show WDrawn G.P fl ops (g.drop pre'.length).tail [] t1 H' _
    obtain ⟨s2, c2, k1, k2, k3⟩ := aCE hr1 hb hF rfl (.inr ⟨q, y, hq, rfl⟩) f3 f2 hk
    exact fin _ _ _ c2 (k1.trans hle.hs) k2 k3
  · exact one hk
end
end Go.Mach
namespace Go.Mach
set_option linter.unusedVariables false
set_option linter.unusedSimpArgs false
section
variable {G:Cfg} {F0:Fz} {H0:aB} {c c':Ctx} {H H':aB} {s:VS} {ta:aC} {n fl:Nat} {ops:Array Oper}
theorem A6 : ∀ (n : Nat) {h : List VO} {todo acc : List Nat}, acc.Nodup -> (JS n h todo acc).Nodup
  | 0, h, todo, acc, hn => hn
  | n + 1, h, [], acc, hn => hn
  | n + 1, h, i :: todo, acc, hn => by
    unfold JS
    split
    · exact A6 n hn
    · rename_i hc
      refine A6 n ?_
      rw [List.nodup_append]
      refine ⟨hn, by simp, ?_⟩
      intro a ha b hb e
      rw [List.mem_singleton] at hb
      subst hb; subst e
      have : acc.contains a = true := by simpa using ha
      rw [this] at hc; cases hc
theorem LS : ∀ {ids : List Nat} {i n j : Nat}, u7 i ids n = some j -> n <= j /\ ids[j - n]? = some i
  | [], i, n, j, h => by cases h
  | x :: ids, i, n, j, h => by
    unfold u7 at h
    split at h
    · rename_i e; cases h; subst e; exact ⟨Nat.le_refl _, by simp⟩
    · obtain ⟨h1, h2⟩ := LS h
      refine ⟨by omega, ?_⟩
      rw [show j - n = (j - (n + 1)) + 1 by omega, List.getElem?_cons_succ]
      exact h2
def D1 (c:Ctx) (ids:List Nat):Ctx:=⟨c.n0,c.F,fun j=>(ids[j]?).bind c.ρ,ids.map fun i=>UV ids (bO c.h i),c.hs⟩
theorem JQ {ids:List Nat} {i j:Nat} (h:u7 i ids 0=some j):(D1 c ids).ρ j=c.ρ i/\(D1 c ids).h[j]? = some (UV ids (bO c.h i)):=by
 have:=(LS h).2
 rw [Nat.sub_zero] at this
 refine ⟨?_,?_⟩
 ·show (ids[j]?).bind c.ρ=_
  rw [this]; rfl
 ·show (ids.map _)[j]? = _
  rw [List.getElem?_map,this]; rfl
theorem DJ (ids : List Nat) {v : VV} {a : Value} (h : RL c v a) : RL (D1 c ids) (VI ids v) a := by
  cases v with
  | pl v => exact h
  | fz o t l => exact h
  | fptr o t l ix off => exact h
  | hof i => exact h
  | mptr i off => trivial
  | er b => exact h
  | bs l => exact h.elim
  | own i =>
    unfold VI
    simp only
    split
    · rename_i j hj
      obtain ⟨k1, k2⟩ := JQ (c := c) hj
      simp only [RL] at h ⊢
      rw [k1, k2]
      cases hi : c.h[i]? with
      | none => rw [hi] at h; exact h.elim
      | some o =>
        rw [hi] at h
        rw [kW hi]
        cases o <;> exact h
    · trivial
  | ptr i off =>
    unfold VI
    simp only
    split
    · rename_i j hj
      obtain ⟨k1, k2⟩ := JQ (c := c) hj
      obtain ⟨b, cs, fr, h1, h2, h3⟩ := h
      rw [kW h1] at k2
      exact ⟨b, _, fr, k2, k1.trans h2, h3⟩
    · trivial
  | eptr i ix off =>
    unfold VI
    simp only
    split
    · rename_i j hj
      obtain ⟨k1, k2⟩ := JQ (c := c) hj
      obtain ⟨b, h1, h2⟩ := h
      refine ⟨b, k1.trans h1, ?_⟩
      rw [k2]
      cases hi : c.h[i]? with
      | none => rw [hi] at h2; exact h2.elim
      | some o =>
        rw [hi] at h2
        rw [kW hi]
        cases o <;> exact h2
    · trivial
  | undef => trivial
  | agg l => exact h.elim
  | tup l => exact h.elim
  | bx l off => exact h.elim
  | fn f l => exact h.elim
  | nw t l => exact h.elim
theorem NY (ids:List Nat) {v:VV} {a:Value} (h:R1 c v a):R1 (D1 c ids) (aEY ids v) a:=by
 cases v
 case agg l=>obtain ⟨azz,h1,h2⟩:=h; exact ⟨azz,h1,h2.mapL fun v a h=>DJ ids h⟩
 case bx l off=>obtain ⟨b,B,h1,h2,h3⟩:=h; exact ⟨b,B,h1,h2,h3.mapL fun v a h=>DJ ids h⟩
 case bs l=>obtain ⟨b,B,k,h1,h2,h4,h3⟩:=h; exact ⟨b,B,k,by simpa using h1,h2,h4,h3.mapL fun v a h=>DJ ids h⟩
 all_goals exact WC (DJ ids (V4 (fun _ e=>by cases e) (fun _ _ e=>by cases e) (fun _ e=>by cases e) h))
theorem aCj (ids:List Nat) {v:VV} {a:Value} (h:R2 c v a):R2 (D1 c ids) (aGy ids v) a:=by
 cases v
 case tup l=>obtain ⟨azz,h1,h2⟩:=h; exact ⟨azz,h1,h2.mapL fun v a h=>NY ids h⟩
 case fn f l=>obtain ⟨azz,h1,h2⟩:=h; exact ⟨azz,h1,h2.mapL fun v a h=>NY ids h⟩
 all_goals exact yQ (NY ids (UZ (fun _ e=>by cases e) (fun _ _ e=>by cases e) h))
theorem Ok.clean (h : Ok F0 H0 c H) {ids : List Nat} (hn : ids.Nodup) : Ok F0 H0 (D1 c ids) H where
  n0 := h.n0
  pre := h.pre
  fz := h.fz
  low := h.low
  obj := fun j o hj => by
    have hj : (ids.map fun i => UV ids (bO c.h i))[j]? = some o := hj
    rw [List.getElem?_map] at hj
    cases e : ids[j]? with
    | none => rw [e] at hj; cases hj
    | some i =>
      rw [e] at hj
      have hj : UV ids (bO c.h i) = o := by simpa using hj
      subst hj
      have hρ : (D1 c ids).ρ j = c.ρ i := by show (ids[j]?).bind c.ρ = _; rw [e]; rfl
      cases hi : c.h[i]? with
      | none =>
        have hg : bO c.h i = .dead false := by unfold bO; rw [List.getD_eq_getElem?_getD, hi]; rfl
        have hnone : c.ρ i = none := h.dom i (List.getElem?_eq_none_iff.1 hi)
        rw [hg]
        exact {
          lo := fun b e => by rw [hρ, hnone] at e; cases e
          box := fun _ _ e => (by cases e)
          lst := fun _ _ _ _ e => (by cases e)
          dead := fun _ e => (by cases e) }
      | some o =>
        rw [kW hi]
        have ob := h.obj i o hi
        exact {
          lo := fun b e => ob.lo b (by rw [<- hρ]; exact e)
          box := fun cs fr e => by
            cases o with
            | box cs' fr' =>
              cases e
              obtain ⟨b, azz, k1, k2, k3, k4⟩ := ob.box _ _ rfl
              exact ⟨b, azz, hρ.trans k1, k2, k3.mapL fun v a h => DJ ids h, k4⟩
            | lst _ _ _ _ => cases e
            | dead _ => cases e
          lst := fun q t l fr e => by
            cases o with
            | box cs' fr' => cases e
            | dead _ => cases e
            | lst q' t' l' fr' => rw [hρ]; exact ob.lst q t l fr e
          dead := fun b e e' => by
            cases o with
            | box cs' fr' => cases e
            | lst _ _ _ _ => cases e
            | dead x => exact ob.dead b e (by rw [<- hρ]; exact e') }
  inj := fun i j b hij hi hj => by
    have hi : (ids[i]?).bind c.ρ = some b := hi
    have hj : (ids[j]?).bind c.ρ = some b := hj
    show (ids.map fun i => UV ids (bO c.h i))[i]? = _ \/ (ids.map fun i => UV ids (bO c.h i))[j]? = _
    rw [List.getElem?_map, List.getElem?_map]
    cases e1 : ids[i]? with
    | none => rw [e1] at hi; cases hi
    | some x =>
      cases e2 : ids[j]? with
      | none => rw [e2] at hj; cases hj
      | some y =>
        rw [e1] at hi
        rw [e2] at hj
        have hxy : x ≠ y := by
          intro e
          subst e
          have h1 := List.getElem?_eq_some_iff.1 e1
          have h2 := List.getElem?_eq_some_iff.1 e2
          obtain ⟨l1, g1⟩ := h1
          obtain ⟨l2, g2⟩ := h2
          have hp := List.pairwise_iff_getElem.1 hn
          rcases Nat.lt_trichotomy i j with hlt | he | hlt
          · exact hp i j l1 l2 hlt (g1.trans g2.symm)
          · exact hij he
          · exact hp j i l2 l1 hlt (g2.trans g1.symm)
        rcases h.inj x y b hxy hi hj with e | e
        · left; simp only [Option.map_some, kW e]; rfl
        · right; simp only [Option.map_some, kW e]; rfl
  bj := fun i j b o hij hi hj ho => by
    have hi : (ids[i]?).bind c.ρ = some b := hi
    have hj : (ids[j]?).bind c.ρ = some b := hj
    have ho : (ids.map fun i => UV ids (bO c.h i))[i]? = some o := ho
    rw [List.getElem?_map] at ho
    cases e1 : ids[i]? with
    | none => rw [e1] at hi; cases hi
    | some x =>
      cases e2 : ids[j]? with
      | none => rw [e2] at hj; cases hj
      | some y =>
        rw [e1] at hi ho
        rw [e2] at hj
        have hxy : x ≠ y := by
          intro e
          subst e
          obtain ⟨l1, g1⟩ := List.getElem?_eq_some_iff.1 e1
          obtain ⟨l2, g2⟩ := List.getElem?_eq_some_iff.1 e2
          have hp := List.pairwise_iff_getElem.1 hn
          rcases Nat.lt_trichotomy i j with hlt | he | hlt
          · exact hp i j l1 l2 hlt (g1.trans g2.symm)
          · exact hij he
          · exact hp j i l2 l1 hlt (g2.trans g1.symm)
        simp only [Option.map_some, Option.some.injEq] at ho
        subst ho
        cases hx : c.h[x]? with
        | none =>
          have hg : bO c.h x = .dead false := by unfold bO; rw [List.getD_eq_getElem?_getD, hx]; rfl
          rw [hg]; rfl
        | some p =>
          rw [kW hx]
          have := h.bj x y b p hxy hi hj hx
          cases p with
          | box _ _ => cases this
          | lst _ _ _ _ => rfl
          | dead _ => rfl
  dom := fun j hj => by
    have hj : (ids.map fun i => UV ids (bO c.h i)).length <= j := hj
    rw [List.length_map] at hj
    show (ids[j]?).bind c.ρ = none
    rw [List.getElem?_eq_none_iff.2 hj]; rfl
theorem JC {R : VV -> Value -> Prop} (hu : ∀ a, R .undef a) : ∀ (live : List Nat) (vs : List VV) {ta : aC}, All2 R vs (live.map ta) -> ∀ d, R (cO (MR live vs) d) (ta d)
  | [], vs, ta, h, d => by cases h; exact hu _
  | x :: live, [], ta, h, d => by cases h
  | x :: live, v :: vs, ta, h, d => by
    cases h with
    | cons h t =>
      show R (if x = d then v else cO (MR live vs) d) (ta d)
      split
      · rename_i e; subst e; exact h
      · exact JC hu live vs t d
theorem WA {R:VV->Value->Prop} {f:Nat->VV} {ta:aC} (h:∀ d,R (f d) (ta d)):∀ live:List Nat,All2 R (live.map f) (live.map ta)
 | [] => .nil
 | x::l => .cons (h x) (WA h l)
theorem LF (hr:Rel F0 H0 c s ta H) (live:List Nat):∃ c',c'.hs=c.hs/\c'.n0=c.n0/\c'.h=(QR live s).2/\Ok F0 H0 c' H/\All2 (R2 c') (QR live s).1 (live.map ta):=by
 obtain ⟨hh,hok,ht⟩:=hr
 have hn:=A6 (2*s.h.length+40) (h:=s.h) (todo:=(live.map (cO s.t)).flatMap aGV) (acc:=[]) List.nodup_nil
 refine ⟨D1 c (JS (2*s.h.length+40) s.h ((live.map (cO s.t)).flatMap aGV) []),rfl,rfl,?_,hok.clean hn,?_⟩
 ·show (List.map _ _)=_
  rw [hh]; rfl
 ·show All2 _ ((live.map (cO s.t)).map _) _
  rw [List.map_map]
  exact WA (fun d=>aCj _ (ht d)) live
theorem YJ {a b:VV} (h:PO a b=true):a=b:=by
 unfold PO at h
 split at h <;> first
  | (simp only [Bool.and_eq_true,beq_iff_eq,decide_eq_true_eq] at h; first | (obtain ⟨rfl,rfl⟩:=h; rfl) | (subst h; rfl))
  | rfl
  | cases h
theorem TD : ∀ {a b : List VV}, TT a b = true -> a = b
  | [], [], _ => rfl
  | [], _ :: _, h => by cases h
  | _ :: _, [], h => by cases h
  | a :: l, b :: r, h => by
    unfold TT at h
    simp only [Bool.and_eq_true] at h
    rw [YJ h.1, TD h.2]
theorem aCw {a b:VV} (h:S3 a b=true):a=b:=by
 unfold S3 at h
 split at h
 ·simp only [Bool.and_eq_true,beq_iff_eq] at h
  rw [h.1,TD h.2]
 ·exact YJ h
theorem yS {x : Lf} {v : VV} {K : x.den -> Prop} (h : unF x v K) : ∃ d, v = L5 x d /\ K d := by
  unfold unF at h
  split at h
  · split at h
    · split at h
      · rename_i e; subst e; exact ⟨_, rfl, h⟩
      · exact h.elim
    · exact h.elim
  · split at h
    · exact ⟨_, rfl, h⟩
    · exact h.elim
  · split at h
    · exact ⟨_, rfl, h⟩
    · exact h.elim
  · split at h
    · rename_i x; exact ⟨x, rfl, h⟩
    · exact h.elim
  · split at h
    · rename_i a b; exact ⟨(a, b), rfl, h⟩
    · exact h.elim
  · split at h
    · split at h
      · rename_i e
        subst e
        obtain ⟨e, h⟩ := Ty.at_inv h
        subst e
        exact ⟨_, rfl, h⟩
      · exact h.elim
    · exact h.elim
  · split at h
    · rename_i e; exact ⟨(), (aCw e).symm, h⟩
    · exact h.elim
  · split at h
    · split at h
      · rename_i e
        subst e
        obtain ⟨e, h⟩ := Ty.at_inv h
        subst e
        dsimp only at h
        split at h
        · exact ⟨_, rfl, h⟩
        · exact h.elim
      · exact h.elim
    · exact h.elim
theorem uU : ∀ {l : List Lf} {vs : List VV} {K : N7 l -> Prop}, unL l vs K -> ∃ d, vs = LJ l d /\ K d
  | [], vs, K, h => by
    unfold unL at h
    split at h
    · exact ⟨(), rfl, h⟩
    · exact h.elim
  | x :: l, vs, K, h => by
    unfold unL at h
    split at h
    · obtain ⟨a, rfl, h1⟩ := yS h
      obtain ⟨b, rfl, h2⟩ := uU h1
      exact ⟨(a, b), rfl, h2⟩
    · exact h.elim
theorem aAV {x:Cp} {v:VV} {K:x.den->Prop} (h:aFs x v K):∃ d,v=aA3 x d/\K d:=by
 unfold aFs at h
 split at h
 ·exact yS h
 ·split at h
  ·obtain ⟨d,rfl,h1⟩:=uU h; exact ⟨d,rfl,h1⟩
  ·exact h.elim
 ·split at h
  ·obtain ⟨d,rfl,h1⟩:=uU h; exact ⟨d,rfl,h1⟩
  ·exact h.elim
theorem SQ : ∀ {l : List Cp} {vs : List VV} {K : ZZ l -> Prop}, unC l vs K -> ∃ d, vs = aBO l d /\ K d
  | [], vs, K, h => by
    unfold unC at h
    split at h
    · exact ⟨(), rfl, h⟩
    · exact h.elim
  | x :: l, vs, K, h => by
    unfold unC at h
    split at h
    · obtain ⟨a, rfl, h1⟩ := aAV h
      obtain ⟨b, rfl, h2⟩ := SQ h1
      exact ⟨(a, b), rfl, h2⟩
    · exact h.elim
theorem aAD {x : Sh} {v : VV} {K : x.den -> Prop} (h : aGG x v K) : ∃ d, v = aAU x d /\ K d := by
  unfold aGG at h
  split at h
  · exact yS h
  · split at h
    · obtain ⟨d, rfl, h1⟩ := uU h; exact ⟨d, rfl, h1⟩
    · exact h.elim
  · split at h
    · obtain ⟨d, rfl, h1⟩ := uU h; exact ⟨d, rfl, h1⟩
    · exact h.elim
  · split at h
    · split at h
      · rename_i e
        subst e
        obtain ⟨d, rfl, h1⟩ := SQ h; exact ⟨d, rfl, h1⟩
      · exact h.elim
    · exact h.elim
theorem SZ : ∀ {l : List Sh} {vs : List VV} {K : uF l -> Prop}, unS l vs K -> ∃ d, vs = vJ l d /\ K d
  | [], vs, K, h => by
    unfold unS at h
    split at h
    · exact ⟨(), rfl, h⟩
    · exact h.elim
  | x :: l, vs, K, h => by
    unfold unS at h
    split at h
    · obtain ⟨a, rfl, h1⟩ := aAD h
      obtain ⟨b, rfl, h2⟩ := SZ h1
      exact ⟨(a, b), rfl, h2⟩
    · exact h.elim
theorem ZO {x : OSh} {v : VO} {K : x.den -> Prop} (h : aGm x v K) : ∃ d, v = aDV x d /\ K d := by
  unfold aGm at h
  split at h
  · split at h
    · split at h
      · rename_i e; subst e; obtain ⟨d, rfl, h1⟩ := uU h; exact ⟨d, rfl, h1⟩
      · exact h.elim
    · exact h.elim
  · split at h
    · split at h
      · rename_i e
        obtain ⟨rfl, rfl⟩ := e
        obtain ⟨e, h⟩ := Ty.at_inv h
        subst e
        exact ⟨_, rfl, h⟩
      · exact h.elim
    · exact h.elim
  · split at h
    · exact ⟨(), rfl, h⟩
    · exact h.elim
theorem SS : ∀ {l : List OSh} {vs : List VO} {K : Q2 l -> Prop}, unO l vs K -> ∃ d, vs = aDw l d /\ K d
  | [], vs, K, h => by
    unfold unO at h
    split at h
    · exact ⟨(), rfl, h⟩
    · exact h.elim
  | x :: l, vs, K, h => by
    unfold unO at h
    split at h
    · obtain ⟨a, rfl, h1⟩ := ZO h
      obtain ⟨b, rfl, h2⟩ := SS h1
      exact ⟨(a, b), rfl, h2⟩
    · exact h.elim
def vH (F0:Fz) (H0:aB) (hs:Nat->Value->Prop) (s:VS) (ta:aC) (H:aB):Prop:=∃ c,c.hs=hs/\Rel F0 H0 c s ta H
theorem aAR {hs:Nat->Value->Prop} (hr:vH F0 H0 hs s ta H) (live:List Nat):vH F0 H0 hs (aHe live s) ta H:=by
 obtain ⟨c,hc,hr⟩:=hr
 obtain ⟨c',h1,h2,h3,h4,h5⟩:=LF hr live
 exact ⟨c',h1.trans hc,h3,h4,JC (fun _=>trivial) live _ h5⟩
theorem aCu {i:Nat} {q:Bool} {T:Ty} {l:List T.den} {fr:Bool} {a:Value} (hok:Ok F0 H0 c H) (hi:bO c.h i = .lst q T l fr) (hr:RL c (.own i) a) :
  ∃ c',Le c c'/\c'.hs=c.hs/\c'.h=cW c.h [i]/\Ok F0 H0 c' H/\RL c' (.fz q T l) a:=by
 obtain ⟨c1,k1,k2,kn,kρ,k3,k4⟩:=hok.freezes [i]
 refine ⟨c1,k1,k1.hs,k2,k3,?_⟩
 have hl:RL c1 (fE c.h (.own i)) a:=sR hok k1 kρ hr fun j hj=>k4 j (by simpa [nU] using hj)
 have hres:fE c.h (.own i) = .fz q T l:=by unfold fE; simp only [hi]
 rw [hres] at hl
 exact hl
theorem fzA {q:Bool} {T:Ty} {l:List T.den} {a:Value} (h:RL c (.fz q T l) a):RL c (.fz false T l) a:=by
 obtain ⟨ad,k,h1,h2⟩:=h
 have hext:(dO q c.n0 c.F).ext (dO false c.n0 c.F):=q5 (fun e=>by cases e)
 exact ⟨ad,k,h1,h2.mono hext (RT.mono hext T)⟩
theorem LQ {fz:Bool} {T:Ty} {v v':VV} {h':List VO} {a:Value} (hok:Ok F0 H0 c H) (hr:RL c v a) (hc:conv fz T c.h v=some (v',h')):∃ c',Le c c'/\c'.h=h'/\Ok F0 H0 c' H/\RL c' v' a:=by
 unfold conv at hc
 split at hc
 ·cases hc
  obtain ⟨rfl,_⟩:=hr
  exact ⟨_,kV _ _,rfl,hok.addNil true T (Pre.refl H),zF (c:=c) (a:=none) (q:=true) (l:=([]:List T.den)) rfl⟩
 ·cases hc
  obtain ⟨rfl,_⟩:=hr
  exact ⟨c,Le.refl c,rfl,hok,none,_,rfl,⟨Nat.zero_le _,.inl rfl⟩⟩
 ·split at hc
  ·rename_i hg
   cases hc
   obtain ⟨c',h1,h2,h3,h4,h5⟩:=aCu hok hg hr
   exact ⟨c',h1,h3,h4,fzA h5⟩
  ·cases hc
 ·cases hc
  exact ⟨c,Le.refl c,rfl,hok,fzA hr⟩
 ·cases hc
theorem aH9 {v:VV} {a:Value} {fz:Bool} {T:Ty} {h:List VO} {r:VV×List VO} (hc:conv fz T h v=some r) (hr:R2 c v a):RL c v a:=by
 unfold conv at hc
 split at hc
 ·exact hr
 ·exact hr
 ·exact hr
 ·exact hr
 ·cases hc
theorem aDs {fz:Bool} {T:Ty} {h h':List VO} {v v':VV} (hc:conv fz T h v=some (v',h')) {i:Nat} {cs:List VV} {fr:Bool} (hi:h[i]? = some (.box cs fr)) (hv:∀ j,v = .own j->j≠i):h'[i]? = some (.box cs fr):=by
 unfold conv at hc
 split at hc
 ·cases hc; rw [List.getElem?_append_left (aQ hi)]; exact hi
 ·cases hc; exact hi
 ·rename_i j
  split at hc
  ·cases hc
   show (h.set j (gQ (bO h j)))[i]? = _
   rw [List.getElem?_set_ne (hv j rfl)]; exact hi
  ·cases hc
 ·cases hc; exact hi
 ·cases hc
theorem aBp {hs : Nat -> Value -> Prop} (co : Co) (hr : vH F0 H0 hs s ta H) : vH F0 H0 hs (co1 s co) ta H := by
  obtain ⟨c, hc, hh, hok, ht⟩ := hr
  unfold co1
  split
  · split
    · rename_i v h' hcv
      rw [<- hh] at hcv
      have hd := ht co.d
      obtain ⟨c', h1, h2, h3, h4⟩ := LQ hok (aH9 hcv hd) hcv
      refine ⟨c', h1.hs.trans hc, h2, h3, ?_⟩
      intro i
      show R2 c' (if co.d = i then v else cO s.t i) _
      split
      · rename_i e; subst e; exact yQ (WC h4)
      · exact R2.mono h1 _ _ (ht i)
    · exact ⟨c, hc, hh, hok, ht⟩
  · rename_i q hq
    split
    · rename_i i off hl
      split
      · rename_i cs fr hg
        split
        · rename_i u hu
          split
          · rename_i v h' hcv
            rw [<- hh] at hcv hg
            have hi := dW hg (by intro e; cases e)
            obtain ⟨b, azz, k1, k2, k3, k4, k5⟩ := (hok.obj i _ hi).box _ _ rfl
            obtain ⟨a, m1, m2⟩ := k3.get hu
            obtain ⟨c', h1, h2, h3, h4⟩ := LQ hok m2 hcv
            have hi' : c'.h[i]? = some (.box cs fr) := by
              rw [h2]
              refine aDs hcv hi fun j e => ?_
              intro e2
              subst e; subst e2
              simp only [RL, hi] at m2
            have hle : Le c' (oQ c' i (.box (cs.set q v) fr)) := uH hi' trivial
            have ob := h3.obj i _ hi'
            obtain ⟨b', as', n1, n2, n3, n4, n5⟩ := ob.box _ _ rfl
            have hbb : b' = b := by
              rw [h1.ρ i (aQ hi), k1] at n1
              exact (Option.some.inj n1).symm
            subst hbb
            rw [k2] at n2
            cases n2
            refine ⟨oQ c' i (.box (cs.set q v) fr), hle.hs.trans (h1.hs.trans hc), ?_, ?_, ?_⟩
            · show c'.h.set i _ = _; rw [h2]
            · exact {
                n0 := h3.n0, pre := h3.pre, fz := h3.fz, low := h3.low
                obj := fun j p hj => by
                  rcases DW hj with ⟨rfl, rfl⟩ | ⟨hne, hj'⟩
                  · exact {
                      lo := fun b e => ob.lo b e
                      box := fun cs2 fr2 e => by
                        cases e
                        refine ⟨b', azz, n1, k2, ?_, n4, n5⟩
                        have hset : azz.set q a = azz := by
                          apply List.ext_getElem?
                          intro x
                          by_cases hx : q = x
                          · subst hx; rw [List.getElem?_set_self (aQ m1), m1]
                          · rw [List.getElem?_set_ne hx]
                        have := (n3.mono (RL.mono hle)).set q (RL.mono hle _ _ h4)
                        rw [hset] at this
                        exact this
                      lst := fun _ _ _ _ e => (by cases e)
                      dead := fun _ e => (by cases e) }
                  · exact (h3.obj j p hj').mono hle rfl (fun _ _ => rfl) (fun _ _ _ hB => hB) (Nat.le_refl _)
                inj := fun j k b' hjk hj hk => by
                  show (c'.h.set i _)[j]? = _ \/ (c'.h.set i _)[k]? = _
                  rcases h3.inj j k b' hjk hj hk with e | e
                  · left
                    by_cases hji : i = j
                    · subst hji; rw [hi'] at e; cases e
                    · rw [List.getElem?_set_ne hji]; exact e
                  · right
                    by_cases hki : i = k
                    · subst hki; rw [hi'] at e; cases e
                    · rw [List.getElem?_set_ne hki]; exact e
                bj := h3.bj.set hi' (fun _ => rfl)
                dom := fun j hj => h3.dom j (by have : (c'.h.set i (.box (cs.set q v) fr)).length <= j := hj; simpa using this) }
            · exact fun d => R2.mono (h1.trans hle) _ _ (ht d)
          · exact ⟨c, hc, hh, hok, ht⟩
        · exact ⟨c, hc, hh, hok, ht⟩
      · exact ⟨c, hc, hh, hok, ht⟩
    · exact ⟨c, hc, hh, hok, ht⟩
theorem LD {hs:Nat->Value->Prop}:∀ (cs:List Co) {s:VS},vH F0 H0 hs s ta H->vH F0 H0 hs (aEH cs s) ta H
 | [],s,h=>h
 | c::cs,s,h=>LD cs (aBp c h)
theorem kP {hs:Nat->Value->Prop} (hr:vH F0 H0 hs s ta H) (en:tO) (m:Nat):vH F0 H0 hs (wH en m s) ta H:=by
 unfold wH
 split
 ·exact aAR (LD _ hr) _
 ·exact hr
theorem F6 {hs:Nat->Value->Prop} {live:List Nat} {sh:List Sh} {ob:List OSh} {K:uF sh×Q2 ob->Prop} (hr:vH F0 H0 hs s ta H) (h:aGT live sh ob s K):∃ x,K x/\vH F0 H0 hs (TP live sh ob x) ta H:=by
 obtain ⟨c,hc,hr⟩:=hr
 obtain ⟨c',h1,h2,h3,h4,h5⟩:=LF hr live
 unfold aGT at h
 obtain ⟨a,e1,h⟩:=SZ h
 obtain ⟨b,e2,h⟩:=SS h
 refine ⟨(a,b),h,c',h1.trans hc,?_,h4,?_⟩
 ·rw [h3,e2]; rfl
 ·rw [e1] at h5
  exact JC (fun _=>trivial) live _ h5
def jM : Nat -> Code -> Nat -> Option Code
  | 0, _, _ => none
  | f + 1, root, n => if n <= 1 then some root else
    match jM f root (n / 2) with
    | some (.seq a b) => if n % 2 = 0 then some a else some b
    | some (.cond _ x y) => if n % 2 = 0 then some x else some y
    | some (.block _ b) => some b
    | some (.loop b) => some b
    | _ => none
theorem YP {root : Code} : ∀ {f f' n : Nat} {c c' : Code}, jM f root n = some c -> jM f' root n = some c' -> c = c' := by
  intro f
  induction f with
  | zero => intro f' n c c' h; cases h
  | succ f ih =>
    intro f' n c c' h h'
    cases f' with
    | zero => cases h'
    | succ f' =>
      unfold jM at h h'
      by_cases hn : n <= 1
      · rw [if_pos hn] at h h'; cases h; cases h'; rfl
      · rw [if_neg hn] at h h'
        cases e : jM f root (n / 2) with
        | none => rw [e] at h; cases h
        | some d =>
          cases e' : jM f' root (n / 2) with
          | none => rw [e'] at h'; cases h'
          | some d' =>
            have := ih e e'
            subst this
            rw [e] at h
            rw [e'] at h'
            rw [h] at h'
            exact Option.some.inj h'
theorem aCn {P : Program} {x : Code} {t : aC} {Q : dS -> aC -> aB -> Prop} (h : W P fl x t H fun e t1 H1 => match e with
    | .normal => W P fl (.loop x) t1 H1 Q
    | e => Q e t1 H1) : W P fl (.loop x) t H Q := by
  obtain ⟨N, e, t1, H1, h1, h2⟩ := h
  cases e with
  | normal =>
    obtain ⟨M, e2, t2, H2, h3, h4⟩ := h2
    simp only [gT] at h3
    refine ⟨max N M + 1, e2, t2, H2, ?_, h4⟩
    simp only [gT, wV]
    rw [uQ (jV P (show N <= max N M + 1 by omega)) (show N <= max N M + 1 by omega) _ _ _ _ h1]
    exact GO (uQ (jV P (show M <= max N M + 1 by omega)) (show M <= max N M + 1 by omega) x) (show M <= max N M by omega) _ _ _ h3
  | _ =>
    refine ⟨N + 1, _, t1, H1, ?_, h2⟩
    simp only [gT, wV]
    rw [uQ (jV P (Nat.le_succ N)) (Nat.le_succ N) _ _ _ _ h1]
structure Tl (p:Prop):Prop where
 it:p
def TN (G:Cfg) (ct:Tab) (en:tO) (root:Code):Prop :=
 ∀ n E,ct n=some E->∀ f c,jM f root n=some c->∀ x k,E.P x k->Tl (vwp G ct en c n (TP E.live E.sh E.ob x) k)
theorem aCh {root a b:Code} {f m:Nat} (hm:1<=m) (h:jM f root m=some (.seq a b)):jM (f+1) root (2*m)=some a/\jM (f+1) root (2*m+1)=some b:=by
 constructor
 ·unfold jM
  rw [if_neg (by omega),show 2*m / 2=m by omega,h]
  simp
 ·unfold jM
  rw [if_neg (by omega),show (2*m+1) / 2=m by omega,h]
  simp only []
  rw [if_neg (by omega)]
theorem aBf {root a b:Code} {o:Operand} {f m:Nat} (hm:1<=m) (h:jM f root m=some (.cond o a b)):jM (f+1) root (2*m)=some a/\jM (f+1) root (2*m+1)=some b:=by
 constructor
 ·unfold jM
  rw [if_neg (by omega),show 2*m / 2=m by omega,h]
  simp
 ·unfold jM
  rw [if_neg (by omega),show (2*m+1) / 2=m by omega,h]
  simp only []
  rw [if_neg (by omega)]
theorem aBA {root b:Code} {f m:Nat} (hm:1<=m) (h:(∃ id,jM f root m=some (.block id b))\/jM f root m=some (.loop b)):jM (f+1) root (2*m)=some b:=by
 unfold jM
 rw [if_neg (by omega),show 2*m / 2=m by omega]
 rcases h with ⟨id,h⟩ | h <;> rw [h]
structure aFe (G:Cfg) (H0:aB) (hs:Nat->Value->Prop) (fl:Nat):Prop where
 O:∀ f args Q,G.O f args Q->mN G.P f args Q
 fl:fl<=H0.length
 I:∀ J,G.I=some J->cA G.P J
theorem TG {hs : Nat -> Value -> Prop} {ct : Tab} {en : tO} {root : Code} (he : aFe G H0 hs fl) (htab : TN G ct en root) : ∀ (c : Code) (m : Nat) {s : VS} {k : dS -> VS -> Prop} {ta : aC} {H : aB} {Q : dS -> aC -> aB -> Prop}, 1 <= m -> (∃ f, jM f root m = some c) -> fG n c = true ->
    vH F0 H0 hs s ta H -> vwp G ct en c m s k -> (∀ e s' ta' H', vH F0 H0 hs s' ta' H' -> k e s' -> Q e ta' H') -> W G.P fl c ta H Q := by
  intro c
  have cut : ∀ (x : Code) (m : Nat) {s : VS} {k : dS -> VS -> Prop} {ta : aC} {H : aB}, (∃ f, jM f root m = some x) -> vH F0 H0 hs s ta H -> wY ct m (vwp G ct en x m) s k -> ∃ s', vH F0 H0 hs s' ta H /\ vwp G ct en x m s' k := by
    intro x m s k ta H hsub hr h
    unfold wY at h
    split at h
    · rename_i E hE
      obtain ⟨y, h1, h2⟩ := F6 hr h
      obtain ⟨f, hf⟩ := hsub
      exact ⟨_, h2, (htab m E hE f x hf y k h1).it⟩
    · exact ⟨s, hr, h⟩
  induction c with
  | skip =>
    intro m s k ta H Q hm hsub hco hr hv hQ
    exact aFf (hQ _ _ _ _ (kP hr en m) hv)
  | label l =>
    intro m s k ta H Q hm hsub hco hr hv hQ
    exact aEd (hQ _ _ _ _ (kP hr en m) hv)
  | exit id =>
    intro m s k ta H Q hm hsub hco hr hv hQ
    exact aGO (hQ _ _ _ _ (kP hr en m) hv)
  | ret =>
    intro m s k ta H Q hm hsub hco hr hv hQ
    exact aHg (hQ _ _ _ _ (kP hr en m) hv)
  | region id ops draw =>
    intro m s k ta H Q hm hsub hco hr hv hQ
    obtain ⟨c, hc, hr⟩ := hr
    have hop : ∀ o ∈ ops.toList, mQ n ops o = true := by
      unfold fG at hco
      exact fun o ho => List.all_eq_true.1 hco o ho
    refine QL (n := n) ⟨he.O, he.fl⟩ he.I hr hop hv ?_
    rintro ta' H' s' c' hle hr' hk
    exact hQ _ _ _ _ (kP ⟨c', hle.trans hc, hr'⟩ en m) hk
  | seq a b iha ihb =>
    intro m s k ta H Q hm hsub hco hr hv hQ
    obtain ⟨f, hf⟩ := hsub
    obtain ⟨ka, kb⟩ := aCh hm hf
    simp only [fG, Bool.and_eq_true] at hco
    obtain ⟨s1, hr1, hv1⟩ := cut a (2 * m) ⟨_, ka⟩ hr hv
    refine aHH (iha (2 * m) (by omega) ⟨_, ka⟩ hco.1 hr1 hv1 ?_)
    intro e s' ta' H' hr' hk
    cases e with
    | normal =>
      obtain ⟨s2, hr2, hv2⟩ := cut b (2 * m + 1) ⟨_, kb⟩ hr' hk
      exact ihb (2 * m + 1) (by omega) ⟨_, kb⟩ hco.2 hr2 hv2 hQ
    | _ => exact hQ _ _ _ _ hr' hk
  | cond o x y ihx ihy =>
    intro m s k ta H Q hm hsub hco hr hv hQ
    obtain ⟨f, hf⟩ := hsub
    obtain ⟨kx, ky⟩ := aBf hm hf
    simp only [fG, Bool.and_eq_true] at hco
    have hv : (match evV s.t o with
      | .pl (.bool b) => if b = true then wY ct (2 * m) (vwp G ct en x (2 * m)) s k else wY ct (2 * m + 1) (vwp G ct en y (2 * m + 1)) s k
      | _ => False) := hv
    obtain ⟨c, hc, hrc⟩ := hr
    have hev := cT hrc.2.2 hco.1.1
    split at hv
    · rename_i b heq
      rw [heq] at hev
      refine aGh (dJ hev).1 (fun hb => ?_) (fun hb => ?_)
      · rw [if_pos hb] at hv
        obtain ⟨s1, hr1, hv1⟩ := cut x (2 * m) ⟨_, kx⟩ ⟨c, hc, hrc⟩ hv
        exact ihx (2 * m) (by omega) ⟨_, kx⟩ hco.1.2 hr1 hv1 hQ
      · rw [if_neg (by rw [hb]; simp)] at hv
        obtain ⟨s1, hr1, hv1⟩ := cut y (2 * m + 1) ⟨_, ky⟩ ⟨c, hc, hrc⟩ hv
        exact ihy (2 * m + 1) (by omega) ⟨_, ky⟩ hco.2 hr1 hv1 hQ
    · exact hv.elim
  | block id b ih =>
    intro m s k ta H Q hm hsub hco hr hv hQ
    obtain ⟨f, hf⟩ := hsub
    have kb := aBA (b := b) hm (.inl ⟨id, hf⟩)
    obtain ⟨s1, hr1, hv1⟩ := cut b (2 * m) ⟨_, kb⟩ hr hv
    refine aEK (ih (2 * m) (by omega) ⟨_, kb⟩ hco hr1 hv1 ?_)
    intro e s' ta' H' hr' hk
    cases e with
    | exit id' => exact hQ _ _ _ _ hr' hk
    | _ => exact hQ _ _ _ _ hr' hk
  | loop b ih =>
    intro m s k ta H Q hm hsub hco hr hv hQ
    obtain ⟨f, hf⟩ := hsub
    have kb := aBA (b := b) hm (.inr hf)
    have step : ∀ (X : VS -> Prop), (∀ s, X s -> ∀ ta H, vH F0 H0 hs s ta H -> W G.P fl (.loop b) ta H Q) -> ∀ s, LB k en m (wY ct (2 * m) (vwp G ct en b (2 * m))) s X -> ∀ ta H, vH F0 H0 hs s ta H -> W G.P fl (.loop b) ta H Q := by
      intro X hX s hB ta H hr
      refine aCn ?_
      obtain ⟨s1, hr1, hv1⟩ := cut b (2 * m) ⟨_, kb⟩ hr hB
      refine ih (2 * m) (by omega) ⟨_, kb⟩ hco hr1 hv1 ?_
      intro e s' ta' H' hr' hk
      cases e with
      | normal => exact hX _ hk ta' H' (kP hr' en m)
      | _ => exact hQ _ _ _ _ hr' hk
    unfold vwp at hv
    split at hv
    · exact hv (fun s => ∀ ta H, vH F0 H0 hs s ta H -> W G.P fl (.loop b) ta H Q) (fun s hB => step _ (fun _ h => h) s hB) ta H (kP hr en m)
    · rename_i u _
      have key : ∀ (u : Nat) s, unr (LB k en m (wY ct (2 * m) (vwp G ct en b (2 * m)))) u s -> ∀ ta H, vH F0 H0 hs s ta H -> W G.P fl (.loop b) ta H Q := by
        intro u
        induction u with
        | zero => intro s h; exact h.elim
        | succ u ihu => intro s h; exact step _ ihu s h
      exact key _ _ hv ta H (kP hr en m)
  | rangeFunc f ps a b _ _ => intro m s k ta H Q hm hsub hco; simp [fG] at hco
  | scope b _ => intro m s k ta H Q hm hsub hco; simp [fG] at hco
  | goto l => intro m s k ta H Q hm hsub hco hr hv; simp [vwp] at hv
  | refuse w => intro m s k ta H Q hm hsub hco; simp [fG] at hco
end
end Go.Mach
namespace Go.Mach
set_option linter.unusedVariables false
set_option linter.unusedSimpArgs false
section
variable {G:Cfg} {F0:Fz} {H0:aB} {c c':Ctx} {H H':aB} {s:VS} {ta:aC} {n fl:Nat} {ops:Array Oper}
theorem zL (hr : Rel F0 H0 c s ta H) : ∀ {rs : List ResultVar} {K : List VV -> Prop}, OR G s rs K -> ∃ vs azz, K vs /\ All2 (R2 c) vs azz /\ eE G.P ta H rs = some azz
  | [], K, h => ⟨[], [], h, .nil, rfl⟩
  | .tmp d :: rs, K, h => by
    obtain ⟨vs, azz, h1, h2, h3⟩ := zL hr (rs := rs) h
    exact ⟨_, _, h1, .cons (hr.2.2 d) h2, by simp only [eE, pY, h3]⟩
  | .cell d ty :: rs, K, h => by
    unfold OR at h
    split at h
    · rename_i i off he
      split at h
      · rename_i cs fr hg
        have hd := hr.2.2 d
        rw [he] at hd
        obtain ⟨b, cs', fr', k1, k2, k3⟩ := DY hd
        have hi := dW hg (by intro e; cases e)
        rw [hr.1, hi] at k1; cases k1
        obtain ⟨b', azz, m1, m2, m3, _⟩ := (hr.2.1.obj i _ (by rw [hr.1]; exact hi)).box _ _ rfl
        rw [k2] at m1; cases m1
        obtain ⟨v, a, g1, g2, g3⟩ := tE (es := 0) (ex := true) (al := true) m3 h
        obtain ⟨vs, as', h1, h2, h3⟩ := zL hr (rs := rs) g1
        exact ⟨_, _, h1, .cons (yQ g2) h2, by simp only [eE, pY, k3, C3 m2 g3, h3]⟩
      · exact h.elim
    · exact h.elim
def Left (c:Ctx) (h:List VO) (used:List Nat):Prop:=∀ i q t l fr,bO h i = .lst q t l fr->i∉used/\c.h[i]? = some (.lst q t l fr)
theorem Left.use {h:List VO} {used:List Nat} (hl:Left c h used) (i:Nat):Left c (h.set i (.dead false)) (used++[i]):=by
 intro j q t l fr e
 have hji:j≠i:=by
  intro e2
  subst e2
  unfold bO at e
  rw [List.getD_eq_getElem?_getD] at e
  by_cases hlt:j<h.length
  ·rw [List.getElem?_set_self hlt] at e; cases e
  ·rw [List.getElem?_eq_none (by simp; omega)] at e; cases e
 have e3:bO h j = .lst q t l fr:=by
  rw [<- e]
  unfold bO
  rw [List.getD_eq_getElem?_getD,List.getD_eq_getElem?_getD,List.getElem?_set_ne (fun e=>hji e.symm)]
 obtain ⟨h1,h2⟩:=hl j q t l fr e3
 exact ⟨fun hm=>(List.mem_append.1 hm).elim h1 (fun hm=>hji (List.mem_singleton.1 hm)),h2⟩
theorem XR.app {l:List VV} {is:List Nat} {azz:List Value} (h:XR c l is azz):∀ {m:List VV} {js:List Nat} {bs:List Value},XR c m js bs->XR c (l++m) (is++js) (azz++bs):=by
 induction h with
 | nil=>intro m js bs k; exact k
 | pl h t ih=>intro m js bs k; exact .pl h (ih k)
 | nw h t ih=>intro m js bs k; exact .nw h (ih k)
 | nl t ih=>intro m js bs k; exact .nl (ih k)
 | al h t ih=>intro m js bs k; exact .al h (ih k)
 | er h t ih=>intro m js bs k; exact .er h (ih k)
theorem HG : ∀ (T : Ty) {cs : List VV} {azz : List Value} {h : List VO} {used : List Nat} {K : T.den -> List VV -> List VO -> Prop}, All2 (RL c) cs azz -> Left c h used -> used.Nodup -> xp T cs h K ->
    ∃ x r h' is a1 a2, K x r h' /\ azz = a1 ++ a2 /\ XR c (aEe T x) is a1 /\ All2 (RL c) r a2 /\ Left c h' (used ++ is) /\ (used ++ is).Nodup := by
  intro T
  induction T with
  | int k =>
    intro cs azz h used K hr hl hn hx
    unfold xp at hx
    split at hx
    · split at hx
      · rename_i e; subst e
        cases hr with
        | cons hr t => obtain ⟨rfl, hp⟩ := hr; exact ⟨_, _, h, [], [_], _, hx, rfl, .pl hp .nil, t, by rw [List.append_nil]; exact hl, by rw [List.append_nil]; exact hn⟩
      · exact hx.elim
    · exact hx.elim
  | bool =>
    intro cs azz h used K hr hl hn hx
    unfold xp at hx
    split at hx
    · cases hr with
      | cons hr t => obtain ⟨rfl, hp⟩ := hr; exact ⟨_, _, h, [], [_], _, hx, rfl, .pl hp .nil, t, by rw [List.append_nil]; exact hl, by rw [List.append_nil]; exact hn⟩
    · exact hx.elim
  | str =>
    intro cs azz h used K hr hl hn hx
    unfold xp at hx
    split at hx
    · cases hr with
      | cons hr t => obtain ⟨rfl, hp⟩ := hr; exact ⟨_, _, h, [], [_], _, hx, rfl, .pl hp .nil, t, by rw [List.append_nil]; exact hl, by rw [List.append_nil]; exact hn⟩
    · exact hx.elim
  | flt =>
    intro cs azz h used K hr hl hn hx
    unfold xp at hx
    split at hx
    · cases hr with
      | cons hr t => obtain ⟨rfl, hp⟩ := hr; exact ⟨_, _, h, [], [_], _, hx, rfl, .pl hp .nil, t, by rw [List.append_nil]; exact hl, by rw [List.append_nil]; exact hn⟩
    · exact hx.elim
  | cpx =>
    intro cs azz h used K hr hl hn hx
    unfold xp at hx
    split at hx
    · cases hr with
      | cons hr t => obtain ⟨rfl, hp⟩ := hr; exact ⟨_, _, h, [], [_], _, hx, rfl, .pl hp .nil, t, by rw [List.append_nil]; exact hl, by rw [List.append_nil]; exact hn⟩
    · exact hx.elim
  | slc T ih =>
    intro cs azz h used K hr hl hn hx
    unfold xp at hx
    split at hx
    · rename_i i r
      split at hx
      · rename_i t' l hg
        obtain ⟨e, hx⟩ := Ty.at_inv hx
        subst e
        obtain ⟨k1, k2⟩ := hl i _ _ _ _ hg
        cases hr with
        | cons hr t =>
          have ha := tH (c := c) (show R2 c (.own i) _ from hr) k2
          subst ha
          exact ⟨_, _, _, [i], [_], _, hx, rfl, .nw k2 .nil, t, hl.use i, by
            rw [List.nodup_append]
            exact ⟨hn, by simp, fun a ha b hb e => k1 (by rw [List.mem_singleton] at hb; subst hb; subst e; exact ha)⟩⟩
      · exact hx.elim
    · cases hr with
      | cons hr t => obtain ⟨rfl, hp⟩ := hr; exact ⟨_, _, h, [], [_], _, hx, rfl, .nl .nil, t, by rw [List.append_nil]; exact hl, by rw [List.append_nil]; exact hn⟩
    · exact hx.elim
  | ref T ih =>
    intro cs azz h used K hr hl hn hx
    exact hx.elim
  | unit =>
    intro cs azz h used K hr hl hn hx
    exact ⟨(), cs, h, [], [], azz, hx, rfl, .nil, hr, by rw [List.append_nil]; exact hl, by rw [List.append_nil]; exact hn⟩
  | pair A B iha ihb =>
    intro cs azz h used K hr hl hn hx
    unfold xp at hx
    obtain ⟨x, r, h1, is, a1, a2, k1, rfl, k3, k4, k5, k6⟩ := iha hr hl hn hx
    obtain ⟨y, r', h2, js, b1, b2, g1, rfl, g3, g4, g5, g6⟩ := ihb k4 k5 k6 k1
    exact ⟨(x, y), r', h2, is ++ js, a1 ++ b1, b2, g1, by rw [List.append_assoc], k3.app g3, g4, by rw [<- List.append_assoc]; exact g5, by rw [<- List.append_assoc]; exact g6⟩
theorem XR.len {l:List VV} {is:List Nat} {azz:List Value} (h:XR c l is azz):l.length=azz.length:=by
 induction h with
 | nil=>rfl
 | pl h t ih=>simp [ih]
 | nw h t ih=>simp [ih]
 | nl t ih=>simp [ih]
 | al h t ih=>simp [ih]
 | er h t ih=>simp [ih]
theorem aIN {F0 : Fz} {H0 H : aB} (hok : Ok F0 H0 c H) {i : Nat} {q : Bool} {T : Ty} {l : List T.den} {a : Value} (hi : c.h[i]? = some (.lst q T l true)) (h : RL c (.own i) a) : RL c (.fz false T l) a := by
  have ha : a = sl (c.ρ i) l.length := tH (c := c) h hi
  refine ⟨_, _, ha, ?_⟩
  have hlst := (hok.obj i _ hi).lst _ _ _ _ rfl
  have hext : (dO q c.n0 c.F).ext (dO false c.n0 c.F) := q5 (fun e => by cases e)
  cases hb : c.ρ i with
  | none =>
    have := hlst.1 hb
    subst this
    exact ⟨Nat.le_refl _, .inl rfl⟩
  | some b =>
    obtain ⟨azz, ex, k1, k2, k3, _⟩ := hlst.2 b hb
    refine (k2.mono hext).slice (b := b) (B := ⟨azz, T.w, ex, true⟩) rfl ?_ (.inr rfl)
    unfold dO
    rw [if_neg (by simp)]
    exact k3 rfl
theorem TI (T : Ty) {cs : List VV} {azz : List Value} {h : List VO} {used : List Nat} {K : List T.den -> List VV -> List VO -> Prop} (hr : All2 (RL c) cs azz) (hl : Left c h used) (hn : used.Nodup) (hx : xpA .z (.slc T) cs h K) :
    ∃ x r h' is a a2, K x r h' /\ azz = [a] ++ a2 /\ XR c [.nw T x] is [a] /\ (x = [] -> a = .slice none 0 0) /\ All2 (RL c) r a2 /\ Left c h' (used ++ is) /\ (used ++ is).Nodup := by
  unfold xpA at hx
  split at hx
  · rename_i i r
    split at hx
    · rename_i t' l hg
      obtain ⟨e, hx⟩ := Ty.at_inv hx
      subst e
      obtain ⟨hne, hx⟩ := hx
      obtain ⟨k1, k2⟩ := hl i _ _ _ _ hg
      cases hr with
      | cons hr t =>
        have ha := tH (c := c) (show R2 c (.own i) _ from hr) k2
        subst ha
        exact ⟨_, _, _, [i], _, _, hx, rfl, .nw k2 .nil, fun e => absurd e hne, t, hl.use i, by
          rw [List.nodup_append]
          exact ⟨hn, by simp, fun a ha b hb e => k1 (by rw [List.mem_singleton] at hb; subst hb; subst e; exact ha)⟩⟩
    · exact hx.elim
  · cases hr with
    | cons hr t => obtain ⟨rfl, hp⟩ := hr; exact ⟨_, _, h, [], _, _, hx, rfl, .nl .nil, fun _ => rfl, t, by rw [List.append_nil]; exact hl, by rw [List.append_nil]; exact hn⟩
  · exact hx.elim
theorem TC {F0 : Fz} {H0 H : aB} (hok : Ok F0 H0 c H) : ∀ (al : Al) (T : Ty) {cs : List VV} {azz : List Value} {h : List VO} {used : List Nat} {K : T.den -> List VV -> List VO -> Prop}, All2 (RL c) cs azz -> Left c h used -> used.Nodup -> xpA al T cs h K ->
    ∃ x r h' is a1 a2, K x r h' /\ azz = a1 ++ a2 /\ XR c (VT al T x) is a1 /\ All2 (RL c) r a2 /\ Left c h' (used ++ is) /\ (used ++ is).Nodup := by
  intro al
  induction al with
  | n => intro T cs azz h used K hr hl hn hx; cases T <;> exact HG _ hr hl hn hx
  | f =>
    intro T cs azz h used K hr hl hn hx
    cases T with
    | slc T =>
      have fin : ∀ {v : VV} {r : List VV} {l : List T.den}, All2 (RL c) (v :: r) azz -> (∀ a, RL c v a -> RL c (.fz false T l) a) -> K l r h -> ∃ x r h' is a1 a2, K x r h' /\ azz = a1 ++ a2 /\ XR c (VT .f (.slc T) x) is a1 /\ All2 (RL c) r a2 /\ Left c h' (used ++ is) /\ (used ++ is).Nodup := by
        intro v r l hrr hv hk
        cases hrr with
        | cons h1 t => exact ⟨_, _, h, [], [_], _, hk, rfl, .al (hv _ h1) .nil, t, by rw [List.append_nil]; exact hl, by rw [List.append_nil]; exact hn⟩
      unfold xpA at hx
      split at hx
      · obtain ⟨e, hx⟩ := Ty.at_inv hx
        subst e
        exact fin hr (fun a => fzA) hx
      · split at hx
        · rename_i hg
          obtain ⟨e, hx⟩ := Ty.at_inv hx
          subst e
          cases hr with
          | cons hr t =>
            have hi : c.h[_]? = _ := (hl _ _ _ _ _ hg).2
            exact fin (.cons hr t) (fun a hra => aIN hok hi hra) hx
        · exact hx.elim
      · exact fin hr (fun a ha => by obtain ⟨rfl, _⟩ := ha; exact ⟨none, _, rfl, ⟨Nat.zero_le _, .inl rfl⟩⟩) hx
      · exact hx.elim
    | _ => exact HG _ hr hl hn hx
  | z =>
    intro T cs azz h used K hr hl hn hx
    cases T with
    | slc T =>
      obtain ⟨x, r, h', is, a, a2, k1, k2, k3, _, k4, k5, k6⟩ := TI T hr hl hn hx
      exact ⟨x, r, h', is, [a], a2, k1, k2, k3, k4, k5, k6⟩
    | _ => exact HG _ hr hl hn hx
  | p x y ihx ihy =>
    intro T cs azz h used K hr hl hn hx
    cases T with
    | pair A B =>
      unfold xpA at hx
      obtain ⟨u, r, h1, is, a1, a2, k1, rfl, k3, k4, k5, k6⟩ := ihx A hr hl hn hx
      obtain ⟨v, r', h2, js, b1, b2, g1, rfl, g3, g4, g5, g6⟩ := ihy B k4 k5 k6 k1
      exact ⟨(u, v), r', h2, is ++ js, a1 ++ b1, b2, g1, by rw [List.append_assoc], k3.app g3, g4, by rw [<- List.append_assoc]; exact g5, by rw [<- List.append_assoc]; exact g6⟩
    | _ => exact HG _ hr hl hn hx
theorem aCy {v:VV} {a:Value} (hv:okL v=true) (h:R2 c v a):RL c v a:=by
 cases v <;> first | exact h | cases hv
theorem WF {F0 : Fz} {H0 H : aB} (hok' : Ok F0 H0 c H) : ∀ (rt : HC) (al : List Al) {vs : List VV} {azz : List Value} {h : List VO} {used : List Nat} {K : aA7 rt -> Prop}, All2 (R2 c) vs azz -> Left c h used -> used.Nodup -> NV rt al vs h K ->
    ∃ x is, K x /\ XZ c (j8 rt al x) is azz /\ (used ++ is).Nodup := by
  intro rt
  induction rt with
  | nil =>
    intro al vs azz h used K hr hl hn hx
    unfold NV at hx
    split at hx
    · cases hr; exact ⟨(), [], hx, .nil, by rw [List.append_nil]; exact hn⟩
    · exact hx.elim
  | cons p rt ih =>
    obtain ⟨g, T⟩ := p
    intro al vs azz h used K hr hl hn hx
    unfold NV at hx
    split at hx
    · rename_i v r
      split at hx
      · rename_i hg
        cases hr with
        | cons hv t =>
          rename_i a azz
          cases g with
          | true =>
            cases v with
            | agg l =>
              obtain ⟨bs, rfl, h2⟩ := PA hv
              obtain ⟨x, left, h1, is, a1, a2, k1, k2, k3, k4, k5, k6⟩ := TC hok' (al.headD .n) T h2 hl hn hx
              split at k1
              · cases k4
                rw [List.append_nil] at k2
                subst k2
                obtain ⟨y, js, g1, g2, g3⟩ := ih al.tail t k5 k6 k1
                refine ⟨(x, y), is ++ js, g1, ?_, by rw [<- List.append_assoc]; exact g3⟩
                have e0 : zmk true (al.headD .n) T = [] := by cases al.headD .n <;> rfl
                show XZ c ((true, VT (al.headD .n) T x ++ zmk true (al.headD .n) T) :: j8 rt al.tail y) _ _
                rw [e0, List.append_nil]
                have := XZ.s (XS.agg k3 .nil) g2
                rwa [List.append_nil] at this
              · exact k1.elim
            | _ => cases hg.1
          | false =>
            have hok : okL v = true := hg.2.resolve_left (by simp)
            have hleaf := aCy hok hv
            have hvc : dK v = [v] := by cases v <;> first | rfl | cases hok
            rw [hvc] at hx
            by_cases hzz : ∃ T', al.headD .n = .z /\ T = .slc T'
            · obtain ⟨T', e1, rfl⟩ := hzz
              rw [e1] at hx
              obtain ⟨x, left, h1, is, a1, a2, k1, k2, k3, kz, k4, k5, k6⟩ := TI T' (.cons hleaf .nil) hl hn hx
              split at k1
              · cases k4
                cases k2
                obtain ⟨y, js, g1, g2, g3⟩ := ih al.tail t k5 k6 k1
                refine ⟨(x, y), is ++ js, g1, ?_, by rw [<- List.append_assoc]; exact g3⟩
                show XZ c ((false, VT (al.headD .n) (.slc T') x ++ zmk false (al.headD .n) (.slc T')) :: j8 rt al.tail y) _ _
                rw [e1]
                exact .z k3 kz g2
              · exact k1.elim
            have e0 : zmk false (al.headD .n) T = [] := by
              cases e1 : al.headD .n <;> cases T <;> first | rfl | exact absurd ⟨_, e1, rfl⟩ hzz
            obtain ⟨x, left, h1, is, a1, a2, k1, k2, k3, k4, k5, k6⟩ := TC hok' (al.headD .n) T (.cons hleaf .nil) hl hn hx
            split at k1
            · cases k4
              rw [List.append_nil] at k2
              subst k2
              obtain ⟨y, js, g1, g2, g3⟩ := ih al.tail t k5 k6 k1
              have hlen := k3.len
              match he : VT (al.headD .n) T x with
              | [z] =>
                rw [he] at k3
                refine ⟨(x, y), is ++ js, g1, ?_, by rw [<- List.append_assoc]; exact g3⟩
                show XZ c ((false, VT (al.headD .n) T x ++ zmk false (al.headD .n) T) :: j8 rt al.tail y) _ _
                rw [e0, he, List.append_nil]
                have := XZ.s (XS.one k3 .nil) g2
                rwa [List.append_nil] at this
              | [] => rw [he] at hlen; simp at hlen
              | _ :: _ :: _ => rw [he] at hlen; simp at hlen
            · exact k1.elim
      · exact hx.elim
    · exact hx.elim
theorem ZF (args:List Value):∀ d,start args.toArray d=args.getD d undef:=by
 intro d
 unfold start
 rw [Array.getD_eq_getD_getElem?,List.getD_eq_getElem?_getD]
 simp
theorem S6 {R : VV -> Value -> Prop} (hu : ∀ a, R .undef a) : ∀ {vs : List VV} {azz : List Value} (k : Nat), All2 R vs azz -> ∀ d, k <= d -> R (cO (MR (List.range' k vs.length) vs) d) (azz.getD (d - k) undef)
  | [], [], k, .nil, d, _ => hu _
  | v :: vs, a :: azz, k, .cons h t, d, hd => by
    show R (if k = d then v else cO (MR (List.range' (k + 1) vs.length) vs) d) _
    by_cases e : k = d
    · rw [if_pos e, show d - k = 0 by omega]; exact h
    · rw [if_neg e, show d - k = (d - (k + 1)) + 1 by omega, List.getD_cons_succ]
      exact S6 hu (k + 1) t d (by omega)
theorem OS {vs:List VV} {azz:List Value} (h:All2 (R2 c) vs azz):Tok c (DA vs) (start azz.toArray):=by
 intro d
 rw [ZF]
 unfold DA
 rw [List.range_eq_range']
 have:=S6 (R:=R2 c) (fun _=>trivial) 0 h d (Nat.zero_le _)
 rwa [Nat.sub_zero] at this
theorem aBS (F:Fz) (H:aB) (hs:Nat->Value->Prop) (hF:∀ b B,F b=some B->blk? H b=some B):Ok F H (GX F H hs) H where
 n0:=rfl
 pre:=Pre.refl H
 fz:=hF
 low:=fun b _=>rfl
 obj:=fun i o h=>by simp [GX] at h
 inj:=fun i j b _ h=>by cases h
 bj:=fun i j b _ _ h=>by cases h
 dom:=fun _ _=>rfl
theorem ZB {ct:Tab} {en:tO} {f:FuncId} {fn:Func} {cd:Code} {rt:HC} (al:List Al) {args:List VV} {Q:List (Bool×List VV)->Prop}
  (hf:G.P.funcs[f]? = some fn) (hb:bod fn=some cd) (hfo:okF f fn cd=true) (hsz:args.length<=fn.ntmps) (htab:TN G ct en cd) (hO:∀ f args Q,G.O f args Q->mN G.P f args Q) (hI:∀ J,G.I=some J->cA G.P J)
  (hv:Y6 G ct en fn cd rt al args fun r=>Q (j8 rt al r)):mN G.P f args Q:=by
 intro F fl H azz hF hfl ha
 refine aD7 hf hb hfo (by simp; rw [<- ha.len]; exact hsz) ?_
 have hco:fG fn.ntmps cd=true:=by
  have hfo:=QD hfo
  unfold GV at hfo
  simp only [Bool.and_eq_true] at hfo
  exact hfo.1.1
 have hr:vH F H M8 ⟨DA args,[]⟩ (start azz.toArray) H:=⟨GX F H M8,rfl,rfl,aBS F H M8 hF,OS ha⟩
 have he:aFe G H M8 fl:=⟨hO,hfl,hI⟩
 unfold Y6 at hv
 have key:∃ s',vH F H M8 s' (start azz.toArray) H/\vwp G ct en cd 1 s' (fun e s=>match e with
   | .normal | .ret=>OR G s fn.results.toList fun vs=>NV rt al vs s.h fun r=>Q (j8 rt al r)
   | _=>False):=by
  unfold wY at hv
  split at hv
  ·rename_i E hE
   obtain ⟨y,h1,h2⟩:=F6 hr hv
   exact ⟨_,h2,(htab 1 E hE 1 cd rfl y _ h1).it⟩
  ·exact ⟨_,hr,hv⟩
 obtain ⟨s',hr',hv'⟩:=key
 refine TG (n:=fn.ntmps) he htab cd 1 (Nat.le_refl _) ⟨1,rfl⟩ hco hr' hv' ?_
 intro e s2 ta2 H2 hr2 hk
 have fin:(OR G s2 fn.results.toList fun vs=>NV rt al vs s2.h fun r=>Q (j8 rt al r))->∃ vs,eE G.P ta2 H2 fn.results.toList=some vs/\∃ sl,Q sl/\aFc F H H2 sl (wT vs):=by
  intro hk
  obtain ⟨c2,hc2,hrel⟩:=hr2
  obtain ⟨vs,as2,h1,h2,h3⟩:=zL hrel hk
  obtain ⟨x,is,g1,g2,g3⟩:=WF hrel.2.1 rt al (h:=s2.h) (used:=[]) h2 (fun i q t l fr e=>⟨by simp,by rw [hrel.1]; exact dW e (by intro e; cases e)⟩) List.nodup_nil h1
  exact ⟨as2,h3,_,g1,.inl ⟨c2,is,as2,hrel.2.1,g2,by simpa using g3,rfl⟩⟩
 cases e with
 | normal=>exact fin hk
 | ret=>exact fin hk
 | _=>exact hk.elim
theorem RZ : ∀ (a b : List (Nat × VV)) (i : Nat), cO (a ++ b) i = if (a.any fun p => p.1 == i) = true then cO a i else cO b i
  | [], b, i => by simp
  | (d, v) :: a, b, i => by
    show (if d = i then v else cO (a ++ b) i) = _
    by_cases e : d = i
    · rw [if_pos e, if_pos (by simp [e])]
      show v = if d = i then v else cO a i
      rw [if_pos e]
    · rw [if_neg e, RZ a b i]
      have h1 : ((d, v) :: a).any (fun p => p.1 == i) = a.any fun p => p.1 == i := by simp [e]
      rw [h1]
      show _ = if _ then (if d = i then v else cO a i) else _
      rw [if_neg e]
theorem OJ : ∀ (a : List (Nat × VV)) (i : Nat), (a.any fun p => p.1 == i) = false -> cO a i = .undef
  | [], _, _ => rfl
  | (d, v) :: a, i, h => by
    simp only [List.any_cons, Bool.or_eq_false_iff, beq_eq_false_iff_ne] at h
    show (if d = i then v else cO a i) = _
    rw [if_neg h.1]
    exact OJ a i h.2
theorem LA (n : Nat) : ∀ (a : List (Nat × VV)) (i : Nat), cO (GE n a) (i + n) = cO a i
  | [], _ => rfl
  | (d, v) :: a, i => by
    show (if d + n = i + n then v else cO (GE n a) (i + n)) = if d = i then v else cO a i
    rw [LA n a i]
    by_cases e : d = i
    · rw [if_pos e, if_pos (by omega)]
    · rw [if_neg e, if_neg (by omega)]
theorem DK (n : Nat) : ∀ (a : List (Nat × VV)) (i : Nat), i < n -> cO (GE n a) i = .undef
  | [], _, _ => rfl
  | (d, v) :: a, i, h => by
    show (if d + n = i then v else cO (GE n a) i) = _
    rw [if_neg (by omega)]
    exact DK n a i h
theorem xY (n : Nat) : ∀ (a : List (Nat × VV)) (i : Nat), cO (oU n a) i = cO a (i + n)
  | [], _ => rfl
  | (d, v) :: a, i => by
    unfold oU
    by_cases h : n <= d
    · rw [if_pos h]
      show (if d - n = i then v else cO (oU n a) i) = if d = i + n then v else cO a (i + n)
      rw [xY n a i]
      by_cases e : d = i + n
      · rw [if_pos e, if_pos (by omega)]
      · rw [if_neg e, if_neg (by omega)]
    · rw [if_neg h, xY n a i]
      show _ = if d = i + n then v else cO a (i + n)
      rw [if_neg (by omega)]
theorem WQ (args : List VV) : ∀ i, ((DA args).any fun p => p.1 == i) = true -> i < args.length := by
  intro i h
  rw [List.any_eq_true] at h
  obtain ⟨p, hp, hi⟩ := h
  have : ∀ (ks : List Nat) (vs : List VV) (p : Nat × VV), p ∈ MR ks vs -> p.1 ∈ ks := by
    intro ks
    induction ks with
    | nil => intro vs p hp; cases vs <;> simp [MR] at hp
    | cons k ks ih =>
      intro vs p hp
      cases vs with
      | nil => simp [MR] at hp
      | cons v vs =>
        simp only [MR, List.mem_cons] at hp
        rcases hp with rfl | hp
        · simp
        · exact List.mem_cons_of_mem _ (ih vs p hp)
  have h2 := this _ _ _ hp
  rw [List.mem_range] at h2
  have : p.1 = i := by simpa using hi
  omega
theorem aFq {v:VV} {a:Value} (hv:r1B v=true) (h:R2 c v a):R1 c v a:=by
 cases v <;> first | exact h | cases hv
theorem aBL : ∀ {vs : List VV} {azz : List Value}, vs.all r1B = true -> All2 (R2 c) vs azz -> All2 (R1 c) vs azz
  | [], _, _, .nil => .nil
  | _ :: _, _, hv, .cons h t => by
    simp only [List.all_cons, Bool.and_eq_true] at hv
    exact .cons (aFq hv.1 h) (aBL hv.2 t)
theorem IZ {P : Program} {t t2 : aC} {m : Nat} : ∀ {rs : List ResultVar}, (rs.all fun | .tmp d => d < m | .cell d _ => d < m) = true -> Agree m t t2 -> eE P t H rs = eE P t2 H rs
  | [], _, _ => rfl
  | r :: rs, h, ha => by
    simp only [List.all_cons, Bool.and_eq_true] at h
    simp only [eE]
    rw [IZ h.2 ha]
    cases r with
    | tmp d => simp only [pY]; rw [ha d (of_decide_eq_true h.1)]
    | cell d ty => simp only [pY]; rw [ha d (of_decide_eq_true h.1)]
theorem aFh {G1 : Cfg} {ct : Tab} {en : tO} {F : FuncId} {fn : Func} {cd : Code}
    (hf : G1.P.funcs[F]? = some fn) (hb : bod fn = some cd) (hfo : okF F fn cd = true) (htab : TN G1 ct en cd) (hO : ∀ f args Q, G1.O f args Q -> mN G1.P f args Q) (hI : ∀ J, G1.I = some J -> cA G1.P J) :
    cA G1.P ⟨fun g => g == F, fun _ args s k => UN G1 ct en fn cd args s k⟩ := by
  intro g args s k hB hr F0 H0 c H fl ta az hrel hfl ha
  have hg : g = F := by simpa using hB
  subst hg
  have hr : UN G1 ct en fn cd args s k := hr
  unfold UN at hr
  split at hr
  case isFalse => exact hr.elim
  rename_i hlen
  refine aD7 hf hb hfo (by simp; rw [<- ha.len]; exact hlen) ?_
  have hco : fG fn.ntmps cd = true := by
    have hfo := QD hfo
    unfold GV at hfo
    simp only [Bool.and_eq_true] at hfo
    exact hfo.1.1
  have hres : (fn.results.toList.all fun | .tmp d => d < fn.ntmps | .cell d _ => d < fn.ntmps) = true := by
    have hfo := QD hfo
    unfold GV at hfo
    simp only [Bool.and_eq_true] at hfo
    exact hfo.2
  generalize hn : fn.ntmps = n at *
  let t2 : aC := fun i => if i < n then start az.toArray i else ta (i - n)
  have htok : Tok c (DA args ++ GE n s.t) t2 := by
    intro i
    rw [RZ]
    by_cases hi : i < n
    · have e2 : t2 i = start az.toArray i := if_pos hi
      rw [e2]
      have h1 := OS ha i
      split
      · exact h1
      · rename_i hk
        rw [DK n s.t i hi]
        rw [OJ _ _ (Bool.eq_false_iff.2 hk)] at h1
        exact h1
    · have e2 : t2 i = ta (i - n) := if_neg hi
      rw [e2]
      split
      · rename_i hk
        have := WQ args i hk
        omega
      · have := LA n s.t (i - n)
        rw [show i - n + n = i by omega] at this
        rw [this]
        exact hrel.2.2 (i - n)
  have hr0 : vH F0 H0 c.hs ⟨DA args ++ GE n s.t, s.h⟩ t2 H := ⟨c, rfl, hrel.1, hrel.2.1, htok⟩
  have he : aFe G1 H0 c.hs fl := ⟨hO, hfl, hI⟩
  have key : ∃ s', vH F0 H0 c.hs s' t2 H /\ vwp G1 ct en cd 1 s' (fun e s2 => match e with
      | .normal | .ret => OR G1 s2 fn.results.toList fun vs => if vs.all r1B = true then k (OG vs) ⟨oU n s2.t, s2.h⟩ else False
      | _ => False) := by
    unfold wY at hr
    split at hr
    · rename_i E hE
      obtain ⟨y, h1, h2⟩ := F6 hr0 hr
      exact ⟨_, h2, (htab 1 E hE 1 cd rfl y _ h1).it⟩
    · exact ⟨_, hr0, hr⟩
  obtain ⟨s', hr', hv'⟩ := key
  have hW : W G1.P fl cd t2 H fun e ta' H' => ∃ s2, vH F0 H0 c.hs s2 ta' H' /\ (match e with
      | .normal | .ret => OR G1 s2 fn.results.toList fun vs => if vs.all r1B = true then k (OG vs) ⟨oU n s2.t, s2.h⟩ else False
      | _ => False) := TG (n := n) he htab cd 1 (Nat.le_refl _) ⟨1, rfl⟩ hco hr' hv' fun e s2 ta' H' h1 h2 => ⟨s2, h1, h2⟩
  have hF := aEz (t := start az.toArray) hco (fun i hi => (if_pos hi).symm) hW
  obtain ⟨N, e, t', H', h1, t2', h2, h3, s2, ⟨c2, q1, q2⟩, h5⟩ := hF
  refine ⟨N, e, t', H', h1, ?_⟩
  have fin : (OR G1 s2 fn.results.toList fun vs => if vs.all r1B = true then k (OG vs) ⟨oU n s2.t, s2.h⟩ else False) -> ∃ vs, eE G1.P t' H' fn.results.toList = some vs /\ ∃ vv s2 c2, c2.hs = c.hs /\ Rel F0 H0 c2 s2 ta H' /\ R2 c2 vv (wT vs) /\ k vv s2 := by
    intro hk
    obtain ⟨vs, as2, g1, g2, g3⟩ := zL q2 hk
    split at g1
    case isFalse => exact g1.elim
    rename_i hvs
    refine ⟨as2, (IZ hres h2).trans g3, OG vs, ⟨oU n s2.t, s2.h⟩, c2, q1, ⟨q2.1, q2.2.1, fun i => ?_⟩, KQ (aBL hvs g2), g1⟩
    have h6 := q2.2.2 (i + n)
    rw [h3 (i + n) (by omega)] at h6
    have e2 : t2 (i + n) = ta i := by
      show (if i + n < n then _ else ta (i + n - n)) = ta i
      rw [if_neg (by omega), Nat.add_sub_cancel]
    have h6 : R2 c2 (cO s2.t (i + n)) (t2 (i + n)) := h6
    rw [e2] at h6
    rw [xY]
    exact h6
  cases e with
  | normal => exact fin h5
  | ret => exact fin h5
  | _ => exact h5.elim
def OZ (J K:Inl):Inl:=⟨fun g=>J.B g||K.B g,fun g a s k=>match J.B g with
 | true=>J.run g a s k
 | false=>K.run g a s k⟩
theorem aBI {P : Program} {J K : Inl} (hJ : cA P J) (hK : cA P K) : cA P (OZ J K) := fun g args s k hB hr => by
  have hB : (J.B g || K.B g) = true := hB
  have hr : (match J.B g with
    | true => J.run g args s k
    | false => K.run g args s k) := hr
  cases h : J.B g with
  | true => rw [h] at hr; exact hJ g args s k h hr
  | false =>
    rw [h] at hr hB
    exact hK g args s k (by simpa using hB) hr
theorem aCY {ct:Tab} {en:tO} {f:FuncId} {fn:Func} {cd:Code} {rt:HC} (al:List Al) {args:List VV} {Q:List (Bool×List VV)->Prop} {R:Prop}
  (hf:G.P.funcs[f]? = some fn) (hb:bod fn=some cd) (hfo:okF f fn cd=true) (hsz:args.length<=fn.ntmps) (htab:TN G ct en cd) (hO:∀ f args Q,G.O f args Q->mN G.P f args Q) (hI:∀ J,G.I=some J->cA G.P J)
  (h:R) (e:(Y6 G ct en fn cd rt al args fun r=>Q (j8 rt al r))=R):mN G.P f args Q :=
 ZB al hf hb hfo hsz htab hO hI (e.symm ▸ h)
theorem aDE {ct:Tab} {en:tO} {cd:Code} {m:Nat} {s:VS} {k:dS->VS->Prop} {R:Prop} (h:R) (e:vwp G ct en cd m s k=R):Tl (vwp G ct en cd m s k):=⟨e.symm ▸ h⟩
theorem Loop.map {S S':Type} {σ:S->S'} {B:S->(S->Prop)->Prop} {B':S'->(S'->Prop)->Prop} (h:∀ s X,B s (fun s=>X (σ s))->B' (σ s) X) {s:S} (hl:Loop B s):Loop B' (σ s) :=
 fun X hX=>hl (fun s=>X (σ s)) fun s hs=>hX _ (h s X hs)
theorem Loop.inv {S:Type} {B:S->(S->Prop)->Prop} (I:Nat->S->Prop) {n:Nat} {s:S} (h0:I n s) (step:∀ n s X,I n s->(∀ m s',m<n->I m s'->X s')->B s X):Loop B s:=by
 intro X hX
 have:∀ n s,I n s->X s:=by
  intro n
  induction n using Nat.strongRecOn with
  | _ n ih=>exact fun s hs=>hX s (step n s X hs fun m s' hm hs'=>ih m hm s' hs')
 exact this n s h0
theorem aDG {S:Type} {ct:Tab} {en:tO} {m:Nat} {s:VS} {k:dS->VS->Prop} {cd b:Code} (hu:G.un=0) (hc:cd = .loop b) (σ:S->VS) (y0:S) {B:S->(S->Prop)->Prop} (hs:wH en m s=σ y0)
  (hB:∀ y X,LB k en m (wY ct (2*m) (vwp G ct en b (2*m))) (σ y) X=B y fun y=>X (σ y)) (h:Loop B y0):Tl (vwp G ct en cd m s k):=by
 subst hc
 refine ⟨?_⟩
 simp only [vwp,hu]
 rw [hs]
 exact Loop.map (fun y X hb=>by rw [hB]; exact hb) h
theorem SB {S:Type} {ct:Tab} {en:tO} {f m:Nat} {s:VS} {k:dS->VS->Prop} {root c:Code} (hu:G.un=0) (hs:jM f root m=some c) (hc:jM 70 root m=some (.loop ((jM 70 root (2*m)).getD .skip))) (σ:S->VS) (y0:S) {B:S->(S->Prop)->Prop} (h1:wH en m s=σ y0)
  (h2:∀ y X,LB k en m (wY ct (2*m) (vwp G ct en ((jM 70 root (2*m)).getD .skip) (2*m))) (σ y) X=B y fun y=>X (σ y)) (h:Loop B y0):Tl (vwp G ct en c m s k) :=
 aDG hu (YP hs hc) σ y0 h1 h2 h
theorem aCM {ct:Tab} {en:tO} {f m:Nat} {s:VS} {k:dS->VS->Prop} {root c:Code} (hs:jM f root m=some c) {R:Prop} (hc:jM 70 root m=some ((jM 70 root m).getD .skip)) (e:vwp G ct en ((jM 70 root m).getD .skip) m s k=R) (h:R):Tl (vwp G ct en c m s k):=by
 have:=YP hs hc
 subst this
 exact aDE h e
theorem ZI {c:Ctx} {x:Lf} {v:VV} {a:Value} {K:x.den->Prop} (hr:R2 c v a) (h:G0 x v K):∃ d,K d/\R2 c (L5 x d) a:=by
 unfold G0 at h
 split at h
 ·split at h
  ·obtain ⟨e,h⟩:=Ty.at_inv h
   subst e
   exact ⟨_,h,hr⟩
  ·obtain ⟨rfl,_⟩:=dJ hr
   exact ⟨[],h,none,_,rfl,⟨Nat.zero_le _,.inl rfl⟩⟩
  ·exact h.elim
 ·obtain ⟨d,rfl,h1⟩:=yS h
  exact ⟨d,h1,hr⟩
theorem LV {c:Ctx} {x:Lf} {v:VV} {a:Value} {K:x.den->Prop} (hr:RL c v a) (h:G0 x v K):∃ d,K d/\RL c (L5 x d) a:=by
 unfold G0 at h
 split at h
 ·split at h
  ·obtain ⟨e,h⟩:=Ty.at_inv h
   subst e
   exact ⟨_,h,hr⟩
  ·obtain ⟨rfl,_⟩:=hr
   exact ⟨[],h,none,_,rfl,⟨Nat.zero_le _,.inl rfl⟩⟩
  ·exact h.elim
 ·obtain ⟨d,rfl,h1⟩:=yS h
  exact ⟨d,h1,hr⟩
theorem vV {c : Ctx} : ∀ {l : List Lf} {vs : List VV} {azz : List Value} {K : N7 l -> Prop}, All2 (RL c) vs azz -> WO l vs K -> ∃ d, K d /\ All2 (RL c) (LJ l d) azz
  | [], vs, azz, K, hr, h => by
    unfold WO at h
    split at h
    · exact ⟨(), h, hr⟩
    · exact h.elim
  | x :: l, vs, azz, K, hr, h => by
    unfold WO at h
    split at h
    · cases hr with
      | cons hr t =>
        obtain ⟨a, h1, h2⟩ := LV hr h
        obtain ⟨b, h3, h4⟩ := vV t h1
        exact ⟨(a, b), h3, .cons h2 h4⟩
    · exact h.elim
theorem W7 {c:Ctx} {x:Lf} {v:VV} {a:Value} {K:x.den->Prop} (hr:R1 c v a) (h:G0 x v K):∃ d,K d/\R1 c (L5 x d) a:=by
 have:∃ d,K d/\RL c (L5 x d) a:=by
  refine LV ?_ h
  cases v <;> first | exact hr | skip
  ·exfalso
   cases x <;> simp [G0,unF,S3,PO] at h
   rename_i o t; cases o <;> simp [G0,unF] at h
  ·exfalso
   cases x <;> simp [G0,unF,S3,PO] at h
   rename_i o t; cases o <;> simp [G0,unF] at h
  ·exfalso
   cases x <;> simp [G0,unF,S3,PO] at h
   rename_i o t; cases o <;> simp [G0,unF] at h
 obtain ⟨d,k1,k2⟩:=this
 exact ⟨d,k1,WC k2⟩
theorem Y1 {c:Ctx} {x:Cp} {v:VV} {a:Value} {K:x.den->Prop} (hr:R1 c v a) (h:aDA x v K):∃ d,K d/\R1 c (aA3 x d) a:=by
 unfold aDA at h
 split at h
 ·exact W7 hr h
 ·split at h
  ·obtain ⟨azz,h1,h2⟩:=hr
   obtain ⟨d,k1,k2⟩:=vV h2 h
   exact ⟨d,k1,azz,h1,k2⟩
  ·exact h.elim
 ·split at h
  ·obtain ⟨b,B,h1,h2,h3⟩:=hr
   obtain ⟨d,k1,k2⟩:=vV h3 h
   exact ⟨d,k1,b,B,h1,h2,k2⟩
  ·exact h.elim
theorem QE {c : Ctx} : ∀ {l : List Cp} {vs : List VV} {azz : List Value} {K : ZZ l -> Prop}, All2 (R1 c) vs azz -> aDY l vs K -> ∃ d, K d /\ All2 (R1 c) (aBO l d) azz
  | [], vs, azz, K, hr, h => by
    unfold aDY at h
    split at h
    · exact ⟨(), h, hr⟩
    · exact h.elim
  | x :: l, vs, azz, K, hr, h => by
    unfold aDY at h
    split at h
    · cases hr with
      | cons hr t =>
        obtain ⟨a, h1, h2⟩ := Y1 hr h
        obtain ⟨b, h3, h4⟩ := QE t h1
        exact ⟨(a, b), h3, .cons h2 h4⟩
    · exact h.elim
theorem YM {c : Ctx} {x : Sh} {v : VV} {a : Value} {K : x.den -> Prop} (hr : R2 c v a) (h : aD5 x v K) : ∃ d, K d /\ R2 c (aAU x d) a := by
  unfold aD5 at h
  split at h
  · exact ZI hr h
  · split at h
    · obtain ⟨azz, rfl, h2⟩ := PA hr
      obtain ⟨d, k1, k2⟩ := vV h2 h
      exact ⟨d, k1, azz, rfl, k2⟩
    · exact h.elim
  · split at h
    · obtain ⟨b, B, rfl, h2, h3⟩ := aAx hr
      obtain ⟨d, k1, k2⟩ := vV h3 h
      exact ⟨d, k1, b, B, rfl, h2, k2⟩
    · exact h.elim
  · split at h
    · split at h
      · rename_i e
        subst e
        obtain ⟨azz, e1, h2⟩ := hr
        obtain ⟨d, k1, k2⟩ := QE h2 h
        exact ⟨d, k1, azz, e1, k2⟩
      · exact h.elim
    · exact h.elim
theorem TA {c : Ctx} : ∀ {l : List Sh} {vs : List VV} {azz : List Value} {K : uF l -> Prop}, All2 (R2 c) vs azz -> unA l vs K -> ∃ d, K d /\ All2 (R2 c) (vJ l d) azz
  | [], vs, azz, K, hr, h => by
    unfold unA at h
    split at h
    · exact ⟨(), h, hr⟩
    · exact h.elim
  | x :: l, vs, azz, K, hr, h => by
    unfold unA at h
    split at h
    · cases hr with
      | cons hr t =>
        obtain ⟨a, h1, h2⟩ := YM hr h
        obtain ⟨b, h3, h4⟩ := TA t h1
        exact ⟨(a, b), h3, .cons h2 h4⟩
    · exact h.elim
theorem WK {P:Program} {O:FuncId->List VV->(List (Bool×List VV)->Prop)->Prop} (hO:∀ f args Q,O f args Q->mN P f args Q) {f0:FuncId} (sh:List Sh) (D:uF sh->(List (Bool×List VV)->Prop)->Prop) (hD:∀ x Q,D x Q->mN P f0 (vJ sh x) Q) :
  ∀ f args Q,(if f=f0 then unA sh args (fun x=>D x Q) else O f args Q)->mN P f args Q:=by
 intro f args Q h
 by_cases e:f=f0
 ·rw [if_pos e] at h
  subst e
  intro F fl H azz hF hfl ha
  obtain ⟨d,h1,h2⟩:=TA ha h
  exact hD d Q h1 F fl H azz hF hfl h2
 ·rw [if_neg e] at h
  exact hO f args Q h
theorem aBr {P:Program} {O:FuncId->List VV->(List (Bool×List VV)->Prop)->Prop} (hO:∀ f args Q,O f args Q->mN P f args Q) {f0:FuncId} (gs:List Nat) (sh:List Sh) (D:uF sh->(List (Bool×List VV)->Prop)->Prop) (hD:∀ x Q,D x Q->mN P f0 (vJ sh x) Q) :
  ∀ f args Q,(if f=f0 then (if aFT (YQ args) gs=true then unA sh args (fun x=>D x Q) else O f args Q) else O f args Q)->mN P f args Q:=by
 intro f args Q h
 by_cases e:f=f0
 ·rw [if_pos e] at h
  by_cases e2:aFT (YQ args) gs=true
  ·rw [if_pos e2] at h
   exact WK hO sh D hD f args Q (by rw [if_pos e]; exact h)
  ·rw [if_neg e2] at h
   exact hO f args Q h
 ·rw [if_neg e] at h
  exact hO f args Q h
structure Tb (P:Program) where
 O:FuncId->List VV->QT->Prop
 ok:∀ f args Q,O f args Q->mN P f args Q
def Tb.none {P:Program}:Tb P:=⟨fun _ _ _=>False,fun _ _ _ h=>h.elim⟩
def Tb.add {P:Program} (t:Tb P) (f0:FuncId) (sh:List Sh) {D:uF sh->QT->Prop} (hD:∀ x Q,D x Q->mN P f0 (vJ sh x) Q):Tb P :=
 ⟨fun f args Q=>if f=f0 then unA sh args (fun x=>D x Q) else t.O f args Q,WK t.ok sh D hD⟩
def Tb.addF {P:Program} (t:Tb P) (f0:FuncId) (gs:List Nat) (sh:List Sh) {D:uF sh->QT->Prop} (hD:∀ x Q,D x Q->mN P f0 (vJ sh x) Q):Tb P :=
 ⟨fun f args Q=>if f=f0 then (if aFT (YQ args) gs=true then unA sh args (fun x=>D x Q) else t.O f args Q) else t.O f args Q,aBr t.ok gs sh D hD⟩
@[reducible] def Tb.cfg {P:Program} (t:Tb P) (tt:TypeId->Option Ty) (I:Option Inl) (hv:Bool) (un:Nat):Cfg:=⟨P,tt,t.O,fun _ _ _=>False,I,hv,un⟩
theorem Tb.told {P:Program} (t:Tb P) {tt:TypeId->Option Ty} {I:Option Inl} {hv:Bool} {un:Nat} {ct:Tab} {en:tO} {f:FuncId} {fn:Func} {cd:Code} {rt:HC} (al:List Al) {args:List VV} {Q:QT} {R:Prop} (hI:∀ J,I=some J->cA P J) (htab:TN (t.cfg tt I hv un) ct en cd)
  (hf:P.funcs[f]? = some fn) (hb:bod fn=some cd) (hfo:okF f fn cd=true) (hsz:args.length<=fn.ntmps) (h:R) (e:(Y6 (t.cfg tt I hv un) ct en fn cd rt al args fun r=>Q (j8 rt al r))=R):mN P f args Q :=
 aCY (G:=t.cfg tt I hv un) al hf hb hfo hsz htab t.ok hI h e
theorem hI0 {P:Program}:∀ J,(Option.none:Option Inl)=some J->cA P J:=fun J h=>by cases h
theorem hI1 {P:Program} {K:Inl} (h:cA P K):∀ J,some K=some J->cA P J:=fun J e=>by cases e; exact h
abbrev bd (fn:Func):Code:=(bod fn).getD .skip
def lk:List (Nat×Ent)->Tab
 | []=>fun _ => .none
 | p::l=>fun n=>if n=p.1 then some p.2 else lk l n
def EOk (G:Cfg) (ct:Tab) (en:tO) (root:Code) (p:Nat×Ent):Prop :=
 ∀ f c,jM f root p.1=some c->∀ x k,p.2.P x k->Tl (vwp G ct en c p.1 (TP p.2.live p.2.sh p.2.ob x) k)
def aAS (G:Cfg) (ct:Tab) (en:tO) (root:Code):List (Nat×Ent)->Prop
 | []=>True
 | p::l=>EOk G ct en root p/\aAS G ct en root l
theorem aFd {G : Cfg} {ct : Tab} {en : tO} {root : Code} : ∀ {l : List (Nat × Ent)}, aAS G ct en root l -> ∀ n E, lk l n = some E -> EOk G ct en root (n, E)
  | [], _, n, E, e => by cases e
  | p :: l, ⟨h1, h2⟩, n, E, e => by
    unfold lk at e
    split at e
    · rename_i hn; subst hn; cases e; exact h1
    · exact aFd h2 n E e
theorem aH2 {G:Cfg} {en:tO} {root:Code} {l:List (Nat×Ent)} (h:aAS G (lk l) en root l):TN G (lk l) en root :=
 fun n E e f c hs x k hp=>aFd h n E e f c hs x k hp
theorem aD {G:Cfg} {S:Type} {ct:Tab} {en:tO} {f m:Nat} {k:dS->VS->Prop} {root c:Code} {live:List Nat} {sh:List Sh} {ob:List OSh} {x:uF sh×Q2 ob} (hs:jM f root m=some c) (u:S->uF sh×Q2 ob) (y0:S) {B:S->(S->Prop)->Prop} (h:Loop B y0)
  (hc:jM 70 root m=some (.loop ((jM 70 root (2*m)).getD .skip)):=by kernel_rfl) (h1:wH en m (TP live sh ob x)=TP live sh ob (u y0):=by kernel_rfl)
  (h2:∀ y X,LB k en m (wY ct (2*m) (vwp G ct en ((jM 70 root (2*m)).getD .skip) (2*m))) (TP live sh ob (u y)) X=B y fun y=>X (TP live sh ob (u y)):=by intros; kernel_rfl) (hu:G.un=0:=by rfl):Tl (vwp G ct en c m (TP live sh ob x) k) :=
 SB hu hs hc (fun y=>TP live sh ob (u y)) y0 h1 h2 h
theorem dU {G:Cfg} {S:Type} {ct:Tab} {en:tO} {f m:Nat} {k:dS->VS->Prop} {root c:Code} {s:VS} (hs:jM f root m=some c) (σ:S->VS) (y0:S) {B:S->(S->Prop)->Prop} (h:Loop B y0)
  (hc:jM 70 root m=some (.loop ((jM 70 root (2*m)).getD .skip)):=by kernel_rfl) (h1:wH en m s=σ y0:=by kernel_rfl)
  (h2:∀ y X,LB k en m (wY ct (2*m) (vwp G ct en ((jM 70 root (2*m)).getD .skip) (2*m))) (σ y) X=B y fun y=>X (σ y):=by intros; kernel_rfl) (hu:G.un=0:=by rfl):Tl (vwp G ct en c m s k) :=
 SB hu hs hc σ y0 h1 h2 h
theorem aK {G:Cfg} {ct:Tab} {en:tO} {f m:Nat} {s:VS} {k:dS->VS->Prop} {root c:Code} (hs:jM f root m=some c) {R:Prop} (h:R) (hc:jM 70 root m=some ((jM 70 root m).getD .skip):=by kernel_rfl) (e:vwp G ct en ((jM 70 root m).getD .skip) m s k=R:=by kernel_rfl):Tl (vwp G ct en c m s k) :=
 aCM hs hc e h
@[reducible] def RD : HC -> Type
  | [] => Unit
  | [p] => p.2.den
  | p :: q :: l => p.2.den × RD (q :: l)
def RD.up:(rt:HC)->RD rt->aA7 rt
 | [],_=>()
 | [_],r=>(r,())
 | _::q::l,r=>(r.1,RD.up (q::l) r.2)
theorem SH:∀ (sh:List Sh) (x:uF sh),(vJ sh x).length=sh.length
 | [],_=>rfl
 | _::l,x=>congrArg (· + 1) (SH l x.2)
theorem JI {P:Program} (t:Tb P) {tt:TypeId->Option Ty} {I:Option Inl} {hv:Bool} {un:Nat} {f:FuncId} {fn:Func} (hf:P.funcs[f]? = some fn) {res:List Nat} {cos:List (Nat×List Co)} {l:List (Nat×Ent)} {sh:List Sh} {al:List Al} {rt:HC} {D:uF sh->(RD rt->Prop)->Prop}
  (hI:∀ J,I=some J->cA P J) (htab:aAS (t.cfg tt I hv un) (lk l) (YK (bd fn) res cos) (bd fn) l)
  (h:∀ x (Q:QT),D x (fun r=>Q (j8 rt al (RD.up rt r)))->∃ R:Prop,R/\(Y6 (t.cfg tt I hv un) (lk l) (YK (bd fn) res cos) fn (bd fn) rt al (vJ sh x) fun r=>Q (j8 rt al r))=R)
  (hb:bod fn=some (bd fn)) (ho:okF f fn (bd fn)=true) (hs:Nat.ble sh.length fn.ntmps=true) (x:uF sh) (Q:QT) (hx:D x fun r=>Q (j8 rt al (RD.up rt r))):mN P f (vJ sh x) Q:=by
 obtain ⟨R,h1,e⟩:=h x Q hx
 exact t.told al hI (aH2 htab) hf hb ho (by rw [SH]; exact Nat.le_of_ble_eq_true hs) h1 e
def Tb.put {P : Program} (t : Tb P) (tt : TypeId -> Option Ty) (f : FuncId) {fn : Func} (hf : P.funcs[f]? = some fn) (res : List Nat) (cos : List (Nat × List Co)) (l : List (Nat × Ent)) (sh : List Sh) (al : List Al) (rt : HC) (D : uF sh -> (RD rt -> Prop) -> Prop)
    (htab : aAS (t.cfg tt .none false 0) (lk l) (YK (bd fn) res cos) (bd fn) l)
    (h : ∀ x (Q : QT), D x (fun r => Q (j8 rt al (RD.up rt r))) -> ∃ R : Prop, R /\ (Y6 (t.cfg tt .none false 0) (lk l) (YK (bd fn) res cos) fn (bd fn) rt al (vJ sh x) fun r => Q (j8 rt al r)) = R)
    (hb : bod fn = some (bd fn) := by kernel_rfl) (ho : okF f fn (bd fn) = true := by kernel_rfl) (hs : Nat.ble sh.length fn.ntmps = true := by kernel_rfl) : Tb P :=
  t.add f sh (JI t hf hI0 htab h hb ho hs)
def Tb.putX {P : Program} (t : Tb P) (tt : TypeId -> Option Ty) (f : FuncId) {fn : Func} (hf : P.funcs[f]? = some fn) (res : List Nat) (cos : List (Nat × List Co)) (l : List (Nat × Ent)) (sh : List Sh) (al : List Al) (rt : HC) (D : uF sh -> (RD rt -> Prop) -> Prop) (gs : List Nat) (I : Option Inl) (hv : Bool) (un : Nat)
    (hI : ∀ J, I = some J -> cA P J) (htab : aAS (t.cfg tt I hv un) (lk l) (YK (bd fn) res cos) (bd fn) l)
    (h : ∀ x (Q : QT), D x (fun r => Q (j8 rt al (RD.up rt r))) -> ∃ R : Prop, R /\ (Y6 (t.cfg tt I hv un) (lk l) (YK (bd fn) res cos) fn (bd fn) rt al (vJ sh x) fun r => Q (j8 rt al r)) = R)
    (hb : bod fn = some (bd fn) := by kernel_rfl) (ho : okF f fn (bd fn) = true := by kernel_rfl) (hs : Nat.ble sh.length fn.ntmps = true := by kernel_rfl) : Tb P :=
  t.addF f gs sh (JI t hf hI htab h hb ho hs)
def O4 (G:Cfg) (f:FuncId) (fn:Func) (l:List (Nat×Ent)) (res:List Nat) (cos:List (Nat×List Co)):Inl:=⟨fun g=>g==f,fun _ args s k=>UN G (lk l) (YK (bd fn) res cos) fn (bd fn) args s k⟩
theorem sM {G:Cfg} {f:FuncId} {fn:Func} {l:List (Nat×Ent)} {res:List Nat} {cos:List (Nat×List Co)} (hf:G.P.funcs[f]? = some fn) (hO:∀ f args Q,G.O f args Q->mN G.P f args Q) (hI:∀ J,G.I=some J->cA G.P J)
  (htab:aAS G (lk l) (YK (bd fn) res cos) (bd fn) l) (hb:bod fn=some (bd fn):=by kernel_rfl) (ho:okF f fn (bd fn)=true:=by kernel_rfl):cA G.P (O4 G f fn l res cos) :=
 aFh hf hb ho (aH2 htab) hO hI
end
end Go.Mach
