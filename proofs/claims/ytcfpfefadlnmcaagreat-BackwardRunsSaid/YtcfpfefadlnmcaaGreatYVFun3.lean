/- Part of the proof. No condition. -/
import Derived.Test.YtcfpfefadlnmcaaGreatYVHav
import Derived.Test.YtcfpfefadlnmcaaGreatYFrame
import Derived.KernelRfl
namespace Go.Mach
set_option linter.unusedVariables false
set_option linter.unusedSimpArgs false
section
variable {G:Cfg} {F0:Fz} {H0:aE} {c c':Ctx} {H H':aE} {s:VS} {ta:aJ} {n fl:Nat} {ops:Array Oper}
def Q4 (c:Ctx)(b:Nat):Option Nat->Prop
 | some i=>c.ρ i=some b
 | none=>∃ B,c.F b=some B
theorem aNA {v:VV}{a:Value}(h:RL c v a){locs:List (Option Nat)}(hl:T0 v=some locs):∀ b∈eS a,∃ x∈locs,Q4 c b x:=by
 cases v with
 | pl v =>
   obtain⟨rfl,hp⟩:=h
   intro b hb
   cases a <;> simp only[eS]at hb <;> try (cases hb;done)
   case pointer x=>cases x with
    | none=>cases hb
    | some _=>cases hp
   case slice x _ _=>cases x with
    | none=>cases hb
    | some _=>cases hp
 | own i =>
   cases hl
   intro b hb
   simp only[RL]at h
   cases hi:c.h[i]? with
   | none=>rw[hi]at h;exact h.elim
   | some o =>
     rw[hi]at h
     refine⟨some i,by simp,?_⟩
     cases o with
     | box _ _=>exact h.elim
     | lst _ _ _ _ =>
       simp only at h
       subst h
       cases hρ:c.ρ i with
       | none=>rw[hρ]at hb;cases hb
       | some b'=>rw[hρ]at hb;simp[sl,eS]at hb;subst hb;exact hρ
     | dead _ =>
       obtain⟨_,_,rfl⟩:=h
       cases hρ:c.ρ i with
       | none=>rw[hρ]at hb;cases hb
       | some b'=>rw[hρ]at hb;simp[eS]at hb;subst hb;exact hρ
 | ptr i off =>
   cases hl
   intro b hb
   obtain⟨b',cs,fr,h1,h2,rfl⟩:=h
   simp[eS]at hb
   subst hb
   exact⟨some i,by simp,h2⟩
 | mptr i off =>
   cases hl
   intro b hb
   rcases h with rfl|⟨b',h1,h2,rfl⟩
   ·cases hb
   ·simp[eS]at hb
    subst hb
    exact⟨some i,by simp,h1⟩
 | eptr i ix off =>
   cases hl
   intro b hb
   obtain⟨b',h1,h2⟩:=h
   have:b=b':=by
    split at h2
    ·obtain⟨_,rfl⟩:=h2;simpa [eS] using hb
    ·obtain⟨_,rfl⟩:=h2;simpa [eS] using hb
    ·exact h2.elim
   subst this
   exact⟨some i,by simp,h1⟩
 | fptr o t l ix off =>
   cases hl
   intro b hb
   obtain⟨b',q,B,x,cs,rfl,h2,_⟩:=h
   simp[eS]at hb
   subst hb
   exact⟨none,by simp,B,F2 _ _ h2⟩
 | hof i=>cases hl
 | er b=>cases hl
 | bs l=>exact h.elim
 | undef=>cases hl
 | fz o t l=>cases hl
 | agg l=>exact h.elim
 | tup l=>exact h.elim
 | bx l off=>exact h.elim
 | fn f l=>exact h.elim
 | nw t l=>exact h.elim
theorem WB {v:VV}{a:Value}(h:R2 c v a){locs:List (Option Nat)}(hl:T0 v=some locs):∀ b∈eS a,∃ x∈locs,Q4 c b x:=by
 cases v
 case tup l=>obtain⟨azz,rfl,_⟩:=h;intro b hb;cases hb
 case fn f l=>obtain⟨azz,rfl,_⟩:=h;intro b hb;cases hb
 case agg l=>obtain⟨azz,rfl,_⟩:=h;intro b hb;cases hb
 case bx l off =>
  obtain⟨b',B,rfl,h2,_⟩:=h
  cases hl
  intro b hb
  simp[eS]at hb
  subst hb
  exact⟨none,by simp,B,h2⟩
 case bs l=>cases hl
 all_goals exact aNA (aD5 (fun _ e=>by cases e) (fun _ _ e=>by cases e) (fun _ e=>by cases e) (aEE (fun _ e=>by cases e) (fun _ _ e=>by cases e) h)) hl
theorem XD:∀ {vs:List VV} {azz:List Value},All2 (R2 c) vs azz->∀ {locs:List (Option Nat)},YS vs=some locs->∀ b∈azz.flatMap eS,∃ x∈locs,Q4 c b x
 | _,_,.nil,locs,h,b,hb=>by cases hb
 | v::vs,a::azz,.cons h t,locs,hl,b,hb=>by
   unfold YS at hl
   split at hl
   ·rename_i x y h1 h2
    cases hl
    rw[PF,S8]at hb
    rcases hb with hb|hb
    ·obtain⟨z,h3,h4⟩:=WB h h1 b hb;exact⟨z,CQ _ h3,h4⟩
    ·obtain⟨z,h3,h4⟩:=XD t h2 b hb;exact⟨z,sT _ h3,h4⟩
   ·cases hl
theorem aBL {op:Op}(ht:Tok c s.t ta)(hx:∀ x∈op.operands.toList,aS n x=true){locs:List (Option Nat)}(hl:aLc op s.t=some locs):∀ b∈pI op (eval ta),∃ x∈locs,Q4 c b x:=by
 cases op
 case load ty a=>exact WB (eI ht (hx a (by simp[Op.operands]))) hl
 case store ty a y=>exact WB (eI ht (hx a (by simp[Op.operands]))) hl
 case convert p d x=>exact WB (eI ht (hx x (by simp[Op.operands]))) hl
 case call cl =>
  have hargs:=wH ht (l:=cl.args.toList) (fun x h=>hx x (by simp only[Op.operands,Call.operands,TW];exact sT _ h))
  have e2:(cl.args.map (eval ta)).toList=cl.args.toList.map (eval ta):=by simp
  simp only[aLc,pI]at hl⊢
  cases hc:cl.callee with
  | builtin bt =>
    rw[hc]at hl
    cases bt <;> first
     | (simp only[e2];exact XD hargs hl)
     | (intro b hb;cases hb)
  | value f=>intro b hb;cases hb
  | invoke f m=>intro b hb;cases hb
 all_goals (intro b hb;cases hb)
theorem aCy {op:Op}(ht:Tok c s.t ta)(hx:∀ x∈op.operands.toList,aS n x=true){locs:List (Option Nat)}(hl:wrV op s.t=some locs):∀ b∈xY op (eval ta),∃ x∈locs,Q4 c b x:=by
 cases op
 case store ty a y=>exact WB (eI ht (hx a (by simp[Op.operands]))) hl
 case call cl =>
  have hax:∀ x∈cl.args.toList,aS n x=true:=fun x h=>hx x (by simp only[Op.operands,Call.operands,TW];exact sT _ h)
  have key:∀ locs,(match cl.args.toList with
   | x::_=>T0 (evV s.t x)
   | []=>some [])=some locs->∀ b∈(cl.args.map (eval ta))[0]?.elim [] eS,∃ x∈locs,Q4 c b x:=by
   intro locs hl b hb
   have e3:(cl.args.map (eval ta))[0]? = (cl.args.toList.map (eval ta))[0]? := by
    rw[<- yC];simp
   rw[e3]at hb
   split at hl
   ·rename_i x l e4
    rw[e4]at hb
    exact WB (eI ht (hax x (by rw[e4];exact jO))) hl b (by simpa using hb)
   ·rename_i e4;rw[e4]at hb;simp at hb
  simp only[wrV,xY]at hl⊢
  cases hc:cl.callee with
  | builtin bt=>grind
  | value f=>intro b hb;cases hb
  | invoke f m=>intro b hb;cases hb
 all_goals (intro b hb;cases hb)
theorem aFn (hr:Rel F0 H0 c s ta H){x y:List (Option Nat)}{xs ys:List Nat}(h:aDj s.h (some x) (some y)=true)(hx:∀ b∈xs,∃ z∈x,Q4 c b z)(hy:∀ b∈ys,∃ z∈y,Q4 c b z):SG xs ys=true:=by
 obtain⟨hh,hok,ht⟩:=hr
 have h:(x.all fun x=>y.all fun y=>PR s.h x y)=true:=by
  cases x with
  | nil=>rfl
  | cons _ _ =>
    cases y with
    | nil=>simp
    | cons _ _=>exact h
 simp only[jG]at h
 unfold SG
 simp only[jG,nZ]
 intro b hb b' hb' e
 subst e
 obtain⟨z,hz,hz2⟩:=hx b hb
 obtain⟨w,hw,hw2⟩:=hy b hb'
 have ha:=h z hz w hw
 have own:∀ i,c.ρ i=some b->PR.ownB (dD s.h i)=true->c.F b=none/\c.h[i]? ≠ some (.dead false):=by
  intro i hi ho
  have hlt:=hok.lt hi
  have hg:c.h[i]? = some (dD s.h i):=by
   rw[<- hh]
   unfold dD
   grind
  have ob:=hok.obj i _ hg
  cases e:dD s.h i with
  | box cs fr =>
    rw[e]at ho hg
    obtain⟨b',azz,k1,_,_,_,k5⟩:=ob.box cs fr e
    rw[hi]at k1;cases k1
    refine⟨k5 (by cases fr <;> first|rfl|cases ho),by rw[hg];intro e;cases e⟩
  | lst q t l fr =>
    rw[e]at ho hg
    obtain⟨azz,ex,_,_,_,k4⟩:=(ob.lst q t l fr e).2 b hi
    refine⟨k4 (by cases fr <;> first|rfl|cases ho),by rw[hg];intro e;cases e⟩
  | dead d =>
    rw[e]at ho hg
    have:d=true:=ho
    subst this
    exact⟨ob.dead b e hi,by rw[hg];intro e;cases e⟩
 cases z with
 | some i =>
   cases w with
   | some j =>
     unfold PR at ha
     simp only[aI,cG,nZ]at ha
     have bx:∀ i j,i≠j->c.ρ i=some b->c.ρ j=some b->PR.boxB (dD s.h i)=true->False:=fun i j hij hi hj hb=>by
      have hg:c.h[i]? = some (dD s.h i):=by
       rw[<- hh]
       unfold dD
       rw[aW,aP (hok.lt hi)];rfl
      have:=hok.bj i j b _ hij hi hj hg
      cases e:dD s.h i with
      | box cs fr=>rw[e]at this;cases this
      | lst _ _ _ _=>rw[e]at hb;cases hb
      | dead _=>rw[e]at hb;cases hb
     rcases ha.2 with ha2|ha2
     ·rcases ha2 with e|e
      ·exact bx i j ha.1 hz2 hw2 e
      ·exact bx j i (fun e=>ha.1 e.symm) hw2 hz2 e
     ·rcases hok.inj i j b ha.1 hz2 hw2 with e|e
      ·exact(own i hz2 ha2.1).2 e
      ·exact(own j hw2 ha2.2).2 e
   | none =>
     obtain⟨B,hB⟩:=hw2
     rw[(own i hz2 ha).1]at hB;cases hB
 | none =>
   cases w with
   | some j =>
     obtain⟨B,hB⟩:=hz2
     rw[(own j hw2 ha).1]at hB;cases hB
   | none=>cases ha
theorem aCr (hr:Rel F0 H0 c s ta H){X Y:Option (List (Option Nat))}{xs ys:List Nat}(h:aDj s.h X Y=true)(hx:∀ x,X=some x->∀ b∈xs,∃ z∈x,Q4 c b z)(hy:∀ y,Y=some y->∀ b∈ys,∃ z∈y,Q4 c b z):SG xs ys=true:=by
 cases X with
 | some x =>
   cases Y with
   | some y=>exact aFn hr h (hx x rfl) (hy y rfl)
   | none =>
     cases x with
     | nil =>
       have:xs=[]:=List.eq_nil_iff_forall_not_mem.2 fun b hb=>by obtain⟨z,hz,_⟩:=hx [] rfl b hb;cases hz
       rw[this];rfl
     | cons _ _=>cases h
 | none =>
   cases Y with
   | none=>cases h
   | some y =>
     cases y with
     | nil =>
       have:ys=[]:=List.eq_nil_iff_forall_not_mem.2 fun b hb=>by obtain⟨z,hz,_⟩:=hy [] rfl b hb;cases hz
       rw[this];unfold SG;simp
     | cons _ _=>cases h
theorem W6 (hr:Rel F0 H0 c s ta H)(hop:∀ o∈ops.toList,tH n ops o=true){p:Nat×Nat}(h:aBU ops s p=true):nW ops ta p=true:=by
 unfold aBU at h
 unfold nW
 split at h
 ·rename_i oi oj h1 h2
  rw[h1,h2]
  have m1:oi∈ops.toList:=by rw[<- yC]at h1;exact sR h1
  have m2:oj∈ops.toList:=by rw[<- yC]at h2;exact sR h2
  simp only[aI]at h⊢
  obtain⟨ha,hb⟩:=h
  exact⟨aCr hr ha (fun x e=>aCy hr.2.2 (nF (hop oi m1)) e) (fun y e=>aBL hr.2.2 (nF (hop oj m2)) e),
   aCr hr hb (fun x e=>aBL hr.2.2 (nF (hop oi m1)) e) (fun y e=>aCy hr.2.2 (nF (hop oj m2)) e)⟩
 ·cases h
theorem aBP {id:Nat}{draw:Bool}{k:VS->Prop}(he:Env G H0 c fl n ops)(hr:Rel F0 H0 c s ta H)(hop:∀ o∈ops.toList,tH n ops o=true)(hv:PP G ops draw s k){Q:f9->aJ->aE->Prop}
 (hQ:∀ ta' H',After F0 H0 c k ta' H'->Q .normal ta' H'):W G.P fl (.region id ops draw) ta H Q:=by
 unfold PP at hv
 split at hv
 ·refine aFb (ops.toList.map fun _=>true) [] (.inr ⟨rfl,rfl⟩) ?_
  refine KX ?_ (AM (ops.size+1) none ops.toList _ he hr trivial hop (fun j w d e=>by cases e) hv)
  grind
 ·split at hv
  ·rename_i hd
   refine aFb (BP ops (cY ops.toList #[]) 0 ops.toList) (n6 ops (cY ops.toList #[])) (.inl ⟨rfl,?_⟩) ?_
   ·unfold A2
    simp only[hd,BX]
    simp
   ·refine KX ?_ (AM (ops.size+1) none ops.toList _ he hr trivial hop (fun j w d e=>by cases e) hv)
    rintro t' H' ⟨⟨s',c',hle,hr',hk⟩,_⟩
    split at hk
    ·rename_i hcl
     refine⟨?_,hQ t' H' ⟨s',c',hle,hr',hk⟩⟩
     rw[jG]at hcl⊢
     exact fun p hp=>W6 hr' hop (hcl p hp)
    ·exact hk.elim
  ·exact hv.elim
theorem VZ:∀ {l:List Oper} {p:List Oper} {o:Oper},aBG l=some (p,o)->l=p++[o]
 | [],p,o,h=>by cases h
 | [x],p,o,h=>by cases h;rfl
 | x::y::l,p,o,h=>by
   simp only[aBG]at h
   split at h
   ·rename_i e;cases e
   ·rename_i q z e
    cases h
    have:=VZ (l:=y::l) e
    rw[this];rfl
   ·cases h
theorem SL {b:Array Nat}:∀ (p:List Oper) (i:Nat) (l:List Oper),(BP ops b i (p++l)).drop p.length=BP ops b (i+p.length) l
 | [],i,l=>rfl
 | x::p,i,l=>by
   simp only[List.cons_append,BP,List.length_cons,List.drop_succ_cons]
   rw[SL p (i+1) l,show i+1+p.length=i+(p.length+1) by omega]
def dX (P:Program)(J:Inl):Prop:=∀ (g:FuncId) (args:List VV) (s:VS) (k:VV->VS->Prop),J.B g=true->J.run g args s k ->
 ∀ (F0:Fz) (H0:aE) (c:Ctx) (H:aE) (fl:Nat) (ta:aJ) (az:List Value),Rel F0 H0 c s ta H->fl<=H0.length->All2 (R2 c) args az ->
   WCall P fl g az.toArray H fun v H'=>∃ vv s2 c2,c2.hs=c.hs/\Rel F0 H0 c2 s2 ta H'/\R2 c2 vv v/\k vv s2
theorem aFR {B:FuncId->Bool}:∀ {l p:List Oper} {q:List Oper×Oper×FuncId×List Operand×List Oper},aBF B p l=some q ->
 p++l=q.1++q.2.1::q.2.2.2.2/\q.2.1.guard=none/\∃ cl,q.2.1.op = .call cl/\cl.callee = .value (.func q.2.2.1)/\q.2.2.2.1=cl.args.toList/\B q.2.2.1=true
 | [],p,q,h=>by cases h
 | o::l,p,q,h=>by
   have next:aBF B (p++[o]) l=some q->p++o::l=q.1++q.2.1::q.2.2.2.2/\q.2.1.guard=none/\∃ cl,q.2.1.op = .call cl/\cl.callee = .value (.func q.2.2.1)/\q.2.2.2.1=cl.args.toList/\B q.2.2.1=true:=fun h=>by
    have:=aFR h
    rw[fU]at this
    exact this
   unfold aBF at h
   split at h
   ·rename_i cl hg hop
    split at h
    ·rename_i g hc
     split at h
     ·rename_i hb
      cases h
      exact⟨rfl,hg,cl,hop,hc,rfl,hb⟩
     ·exact next h
    ·exact next h
   ·exact next h
theorem aG6 {id:Nat}{draw:Bool}{k:VS->Prop}{J:Inl}{pre post:List Oper}{o:Oper}{g':FuncId}{args:List Operand}(he:Env G H0 c fl n ops)(hI:dX G.P J)(hr:Rel F0 H0 c s ta H)(hop:∀ o∈ops.toList,tH n ops o=true)
 (hm:aD9 J.B ops draw=some (pre,o,g',args,post)) (hv:D5 G ops (ops.size+1) none pre s fun s1=>match SO G.P g' with
    | true=>J.run g' (args.map (evV s1.t)) s1 fun v s2=>D5 G ops (ops.size+1) none post (VS.set s2 o.dst v) fun s'=>match !draw||(n6 ops (cY ops.toList #[])).all (aBU ops s')with
      | true=>k s'
      | false=>False
    | false=>False) {Q:f9->aJ->aE->Prop}
 (hQ:∀ ta' H' s' c',c'.hs=c.hs->Rel F0 H0 c' s' ta' H'->k s'->Q .normal ta' H'):W G.P fl (.region id ops draw) ta H Q:=by
 unfold aD9 at hm
 split at hm
 ·cases hm
 rename_i p1 o1 g1 as1 r1 hat
 obtain⟨hl,hg,cl,hopc,hc,has,hb⟩:=aFR hat
 rw[List.nil_append]at hl
 dsimp only at hl hg hopc hc has hb
 have key:∃ (g:List Bool) (cl:List (Nat×Nat)),((draw=true/\A2 ops g cl=true)\/(draw=false/\g=ops.toList.map fun _=>true))/\(g.drop p1.length).headD false=true/\some (p1,o1,g1,as1,r1)=some (pre,o,g',args,post)/\((draw=false/\cl=[])\/(draw=true/\cl=n6 ops (cY ops.toList #[]))):=by
  split at hm
  ·simp_all
  ·split at hm
   ·rename_i hd
    simp only[aI]at hd
    obtain⟨⟨h1,h2⟩,h3⟩:=hd
    refine⟨BP ops (cY ops.toList #[]) 0 ops.toList,n6 ops (cY ops.toList #[]),.inl ⟨rfl,?_⟩,?_,hm,.inr ⟨rfl,rfl⟩⟩
    ·unfold A2
     grind
    ·have e1:BP ops (cY ops.toList #[]) 0 ops.toList=BP ops (cY ops.toList #[]) 0 (p1++o1::r1):=by rw[<- hl]
     rw[e1,SL p1 0 (o1::r1),tA]
     have hk:cL o1.op=4:=by rw[hopc];simp only[cL,hc]
     simp only[BP,List.headD_cons,hk,h3,beq_self_eq_true,Bool.and_self]
   ·cases hm
 obtain⟨g,ch,hd,hhead,he3,hch⟩:=key
 simp only[iJ,Prod.mk.injEq]at he3
 obtain⟨rfl,rfl,rfl,rfl,rfl⟩:=he3
 refine aFb g ch hd ?_
 rw[hl]
 refine AQ p1 ?_
 have hopp:∀ x∈p1,tH n ops x=true:=fun x hx=>hop x (by rw[hl];exact CQ _ hx)
 have hopo:tH n ops o1=true:=hop o1 (by rw[hl];simp)
 have hopr:∀ x∈r1,tH n ops x=true:=fun x hx=>hop x (by rw[hl];exact sT _ (lY _ hx))
 refine KX ?_ (AM (ops.size+1) none p1 g he hr trivial hopp (fun j w d e=>by cases e) hv)
 rintro t1 H1 ⟨⟨s1,c1,hle,hr1,hk⟩,_⟩
 show WOp G.P fl (if (g.drop p1.length).headD false then fl else H1.length) ops o1 t1 H1 fun t' H'=>WDrawn G.P fl ops (g.drop p1.length).tail r1 t' H' _
 rw[hhead,aB rfl]
 have hw:gN ops t1 o1=true:=by unfold gN;rw[hg]
 split at hk
 case h_2=>exact hk.elim
 rename_i hgood
 have hx:=(nF hopo)
 rw[hopc]at hx
 have hax:∀ x∈cl.args.toList,aS n x=true:=fun x h=>hx x (by simp only[Op.operands,Call.operands,TW];exact sT _ h)
 subst has
 have hargs:All2 (R2 c1) (cl.args.toList.map (evV s1.t)) (cl.args.toList.map (eval t1)):=wH hr1.2.2 hax
 unfold WOp
 rw[aB hw]
 have hp:bX G.P fl o1.op (eval t1) H1=some (.enter g1 (cl.args.toList.map (eval t1)).toArray,H1):=by
  have:cl.args.map (eval t1)=(cl.args.toList.map (eval t1)).toArray:=by apply Array.toList_inj.1;simp
  rw[hopc]
  simp only[bX,vW,hc,eval,hgood,bS,this]
  simp
 simp only[hp]
 refine WCall.mono (hI g1 _ _ _ hb hk F0 H0 c1 H1 fl t1 _ hr1 he.fl hargs) ?_
 rintro v H' ⟨vv,s2,c2,g1,g2,g3,g4⟩
 have hr2:Rel F0 H0 c2 (VS.set s2 o1.dst vv) _ H':=⟨by rw[aH6];exact g2.1,g2.2.1,Tok.put (Le.refl c2) g2.2.2 g3⟩
 refine KX ?_ (AM (ops.size+1) none r1 (g.drop p1.length).tail (c:=c2) ⟨he.O,he.fl⟩ hr2 trivial hopr (fun j w d e=>by cases e) g4)
 rintro t3 H3 ⟨⟨s3,c3,hle3,hr3,hk3⟩,_⟩
 split at hk3
 case h_2=>exact hk3.elim
 rename_i hcl
 refine⟨?_,hQ t3 H3 s3 c3 (hle3.hs.trans (g1.trans hle.hs)) hr3 hk3⟩
 rcases hch with⟨_,rfl⟩|⟨rfl,rfl⟩
 ·rfl
 ·simp only[Bool.not_true,PI]at hcl
  rw[jG]at hcl⊢
  exact fun p hp=>W6 hr3 hop (hcl p hp)
theorem RI {id:Nat}{draw:Bool}{k:VS->Prop}(he:Env G H0 c fl n ops)(hI:∀ J,G.I=some J->dX G.P J)(hr:Rel F0 H0 c s ta H)(hop:∀ o∈ops.toList,tH n ops o=true)(hv:YT G ops draw s k){Q:f9->aJ->aE->Prop}
 (hQ:∀ ta' H' s' c',c'.hs=c.hs->Rel F0 H0 c' s' ta' H'->k s'->Q .normal ta' H'):W G.P fl (.region id ops draw) ta H Q:=by
 have plain:PP G ops draw s k->W G.P fl (.region id ops draw) ta H Q:=fun h0 =>
  aBP he hr hop h0 fun ta' H' ⟨s',c',hle,hr',hk⟩=>hQ ta' H' s' c' hle.hs hr' hk
 unfold YT at hv
 split at hv
 ·exact plain hv
 rename_i J hJ
 split at hv
 ·split at hv
  ·exact plain hv
  ·rename_i hm
   exact aG6 he (hI J hJ) hr hop hm hv hQ
 rename_i pre o f args he2
 unfold aIB at he2
 split at he2
 case h_2=>cases he2
 rename_i pre' o' hlast
 have hl:=VZ hlast
 split at he2
 case h_2=>cases he2
 rename_i cl hg hopc
 split at he2
 case h_2=>cases he2
 rename_i f' hc
 have key:∃ g:List Bool,((draw=true/\A2 ops g []=true)\/(draw=false/\g=ops.toList.map fun _=>true))/\(g.drop pre'.length).headD false=true/\some (pre',o',f',cl.args.toList)=some (pre,o,f,args):=by
  split at he2
  ·refine⟨_,.inr ⟨rfl,rfl⟩,?_,he2⟩
   rw[hl]
   simp
  ·split at he2
   ·rename_i hd
    simp only[aI,List.isEmpty_iff]at hd
    obtain⟨⟨h1,h2⟩,h3⟩:=hd
    refine⟨BP ops (cY ops.toList #[]) 0 ops.toList,.inl ⟨rfl,?_⟩,?_,he2⟩
    ·unfold A2
     simp only[h1,h2,List.all_nil,BX,TA,beq_self_eq_true,Bool.and_self]
    ·have e1:BP ops (cY ops.toList #[]) 0 ops.toList=BP ops (cY ops.toList #[]) 0 (pre'++[o']):=by rw[<- hl]
     rw[e1,SL pre' 0 [o'],tA]
     have hk:cL o'.op=4:=by rw[hopc];simp only[cL,hc]
     simp only[BP,List.headD_cons,hk,h3,beq_self_eq_true,Bool.and_self]
   ·cases he2
 obtain⟨g,hd,hhead,he3⟩:=key
 simp only[iJ,Prod.mk.injEq]at he3
 obtain⟨rfl,rfl,rfl,rfl⟩:=he3
 refine aFb g [] hd ?_
 rw[hl]
 refine AQ pre' ?_
 have hopp:∀ x∈pre',tH n ops x=true:=fun x hx=>hop x (by rw[hl];exact CQ _ hx)
 have hopo:tH n ops o'=true:=hop o' (by rw[hl];simp)
 refine KX ?_ (AM (ops.size+1) none pre' g he hr trivial hopp (fun j w d e=>by cases e) hv)
 rintro t1 H1 ⟨⟨s1,c1,hle,hr1,hk⟩,_⟩
 show WOp G.P fl (if (g.drop pre'.length).headD false then fl else H1.length) ops o' t1 H1 fun t' H'=>WDrawn G.P fl ops (g.drop pre'.length).tail [] t' H' _
 rw[hhead,aB rfl]
 have hw:gN ops t1 o'=true:=by unfold gN;rw[hg]
 have fin:∀ t' H' s' c',c'.hs=c.hs->Rel F0 H0 c' s' t' H'->k s'->WDrawn G.P fl ops (g.drop pre'.length).tail [] t' H' fun t' H'=>([]:List (Nat×Nat)).all (nW ops t')=true/\Q .normal t' H':=by
  intro t' H' s' c' h1 h2 h3
  have:∀ gs:List Bool,WDrawn G.P fl ops gs [] t' H' fun t' H'=>([]:List (Nat×Nat)).all (nW ops t')=true/\Q .normal t' H':=by
   intro gs
   cases gs <;> exact⟨rfl,hQ t' H' s' c' h1 h2 h3⟩
  exact this _
 have hfl1:fl<=H1.length:=jH he.fl hr1.2.1.pre.len
 have one:RQ G o' s1 k->WOp G.P fl fl ops o' t1 H1 fun t' H'=>WDrawn G.P fl ops (g.drop pre'.length).tail [] t' H' fun t' H'=>([]:List (Nat×Nat)).all (nW ops t')=true/\Q .normal t' H':=fun hv1 =>
  PO (he.le hle) hr1 hopo hw hv1 hfl1 fun t' H' _ _ ⟨s',c',hle',hr',hk'⟩=>fin t' H' s' c' (hle'.hs.trans hle.hs) hr' hk'
 split at hk
 ·rename_i g' caps hev
  split at hk
  ·rename_i hb
   simp only[aI]at hb
   have hx:=(nF hopo)
   rw[hopc]at hx
   have hfx:aS n f'=true:=hx f' (by simp only[Op.operands,Call.operands,hc];simp)
   have hax:∀ x∈cl.args.toList,aS n x=true:=fun x h=>hx x (by simp only[Op.operands,Call.operands,TW];exact sT _ h)
   have hf:=eI hr1.2.2 hfx
   rw[hev]at hf
   obtain⟨cp,e1,hcp⟩:=hf
   have hargs:All2 (R2 c1) (cl.args.toList.map (evV s1.t)++caps) (cl.args.toList.map (eval t1)++cp):=(wH hr1.2.2 hax).app (hcp.mono fun v a h=>IC h)
   unfold WOp
   rw[aB hw]
   have hp:bX G.P fl o'.op (eval t1) H1=some (.enter g' (cl.args.toList.map (eval t1)++cp).toArray,H1):=by
    have:cl.args.map (eval t1)=(cl.args.toList.map (eval t1)).toArray:=by apply Array.toList_inj.1;simp
    rw[hopc]
    simp only[bX,vW,hc,e1,hb.2,bS,this]
    simp
   simp only[hp]
   refine WCall.mono (hI J hJ g' _ _ _ hb.1 hk F0 H0 c1 H1 fl t1 _ hr1 he.fl hargs) ?_
   rintro v H' ⟨vv,s2,c2,g1,g2,g3,g4⟩
   exact fin _ _ _ c2 (g1.trans hle.hs) ⟨by rw[aH6];exact g2.1,g2.2.1,Tok.put (Le.refl c2) g2.2.2 g3⟩ g4
  ·exact one hk
 ·exact one hk
theorem aNN {cells:List Value}{q:Nat}{v:Value}(h:InB cells q 1 [v]):cells[q]? = some v:=by
 obtain⟨h1,h2⟩:=h
 have hlt:q<cells.length:=by omega
 rw[LX hlt,List.take_succ_cons,List.take_zero]at h2
 grind
theorem aA9 {id:Nat}{draw:Bool}{live:List Nat}{k:VS->Prop}(he:Env G H0 c fl n ops)(hI:∀ J,G.I=some J->dX G.P J)(hr:Rel F0 H0 c s ta H)(hop:∀ o∈ops.toList,tH n ops o=true)(hv:aAy G ops draw live s k){Q:f9->aJ->aE->Prop}
 (hQ:∀ ta' H' s' c',c'.hs=c.hs->Rel F0 H0 c' s' ta' H'->k s'->Q .normal ta' H'):W G.P fl (.region id ops draw) ta H Q:=by
 unfold aAy at hv
 split at hv
 ·exact RI he hI hr hop hv hQ
 split at hv
 ·exact RI he hI hr hop hv hQ
 rename_i pre o ty a x he2
 unfold aFH at he2
 split at he2
 case h_2=>cases he2
 rename_i pre' o' hlast
 have hl:=VZ hlast
 split at he2
 case h_2=>cases he2
 rename_i ty' a' x' hg hdst hopc
 have key:∃ g:List Bool,((draw=true/\A2 ops g []=true)\/(draw=false/\g=ops.toList.map fun _=>true))/\some (pre',o',ty',a',x')=some (pre,o,ty,a,x):=by
  split at he2
  ·exact⟨_,.inr ⟨rfl,rfl⟩,he2⟩
  ·split at he2
   ·rename_i hd
    simp only[aI,List.isEmpty_iff]at hd
    obtain⟨h1,h2⟩:=hd
    refine⟨BP ops (cY ops.toList #[]) 0 ops.toList,.inl ⟨rfl,?_⟩,he2⟩
    unfold A2
    simp only[h1,h2,List.all_nil,BX,TA,beq_self_eq_true,Bool.and_self]
   ·cases he2
 obtain⟨g,hd,he3⟩:=key
 simp only[iJ,Prod.mk.injEq]at he3
 obtain⟨rfl,rfl,rfl,rfl,rfl⟩:=he3
 refine aFb g [] hd ?_
 rw[hl]
 refine AQ pre' ?_
 have hopp:∀ x∈pre',tH n ops x=true:=fun x hx=>hop x (by rw[hl];exact CQ _ hx)
 have hopo:tH n ops o'=true:=hop o' (by rw[hl];simp)
 refine KX ?_ (AM (ops.size+1) none pre' g he hr trivial hopp (fun j w d e=>by cases e) hv)
 rintro t1 H1 ⟨⟨s1,c1,hle,hr1,hk⟩,_⟩
 show WOp G.P fl (if (g.drop pre'.length).headD false then fl else H1.length) ops o' t1 H1 fun t' H'=>WDrawn G.P fl ops (g.drop pre'.length).tail [] t' H' _
 have hw:gN ops t1 o'=true:=by unfold gN;rw[hg]
 have fin:∀ t' H' s' c',c'.hs=c.hs->Rel F0 H0 c' s' t' H'->k s'->WDrawn G.P fl ops (g.drop pre'.length).tail [] t' H' fun t' H'=>([]:List (Nat×Nat)).all (nW ops t')=true/\Q .normal t' H':=by
  intro t' H' s' c' h1 h2 h3
  have:∀ gs:List Bool,WDrawn G.P fl ops gs [] t' H' fun t' H'=>([]:List (Nat×Nat)).all (nW ops t')=true/\Q .normal t' H':=by
   intro gs
   cases gs <;> exact⟨rfl,hQ t' H' s' c' h1 h2 h3⟩
  exact this _
 have hfl1:fl<=H1.length:=jH he.fl hr1.2.1.pre.len
 have hflc:(if (g.drop pre'.length).headD false then fl else H1.length)<=H1.length:=by split <;> omega
 have one:RQ G o' s1 k->WOp G.P fl (if (g.drop pre'.length).headD false then fl else H1.length) ops o' t1 H1 fun t' H'=>WDrawn G.P fl ops (g.drop pre'.length).tail [] t' H' fun t' H'=>([]:List (Nat×Nat)).all (nW ops t')=true/\Q .normal t' H':=fun hv1 =>
  PO (he.le hle) hr1 hopo hw hv1 hflc fun t' H' _ _ ⟨s',c',hle',hr',hk'⟩=>fin t' H' s' c' (hle'.hs.trans hle.hs) hr' hk'
 split at hk
 ·rename_i kd l ix kd' v ha hx
  split at hk
  case isFalse=>exact hk.elim
  rename_i hc
  obtain⟨rfl,hsz⟩:=hc
  have hxs:=nF hopo
  rw[hopc]at hxs
  have hax:aS n a'=true:=hxs a' (by simp[Op.operands])
  have hxx:aS n x'=true:=hxs x' (by simp[Op.operands])
  have h1:=eI hr1.2.2 hax
  have h2:=eI hr1.2.2 hxx
  rw[ha]at h1
  rw[hx]at h2
  obtain⟨b,q,B,y,cs,e1,e2,e3,e4,e5⟩:=UG h1
  obtain⟨e6,_⟩:=fJ h2
  have e5:cs=[.int kd y]:=e5
  subst e5
  have hq:=aNN e4
  have hb:c1.n0<=b:=by
   unfold f7 at e2
   split at e2
   ·cases e2
   ·rename_i hn;simp at hn;exact hn
  have hF:c1.F b=some B:=F2 _ _ e2
  have hbk:=hr1.2.1.fz b B hF
  have hn0:=hr1.2.1.n0
  have hqlt:q<B.cells.length:=(List.getElem?_eq_some_iff.1 hq).1
  have hsb:HN G.P ty' B (q+0) (eval t1 x')=some { B with cells:=B.cells.set q (.int kd v) }:=by
   unfold HN
   rw[e6]
   rw[aB ⟨hsz,by show q+0+1<=_;omega,rfl⟩]
   rfl
  obtain⟨H',f1,f2,f3⟩:=QQ (P:=G.P) (fl:=fl) hbk (by have:=he.fl;omega) hsb
  unfold WOp
  rw[aB hw]
  have hp:bX G.P fl o'.op (eval t1) H1=some (.skip,H'):=by
   rw[hopc]
   simp only[bX,e1,f1,Option.map_some]
  simp only[hp]
  rw[hdst]
  show WDrawn G.P fl ops (g.drop pre'.length).tail [] t1 H' _
  obtain⟨s2,c2,k1,k2,k3⟩:=aIr hr1 hb hF rfl (.inr ⟨q,y,hq,rfl⟩) f3 f2 hk
  exact fin _ _ _ c2 (k1.trans hle.hs) k2 k3
 ·exact one hk
end
end Go.Mach
namespace Go.Mach
set_option linter.unusedVariables false
set_option linter.unusedSimpArgs false
section
variable {G:Cfg} {F0:Fz} {H0:aE} {c c':Ctx} {H H':aE} {s:VS} {ta:aJ} {n fl:Nat} {ops:Array Oper}
theorem MH:∀ (n:Nat) {h:List VO} {todo acc:List Nat},acc.Nodup->(V4 n h todo acc).Nodup
 | 0,h,todo,acc,hn=>hn
 | n+1,h,[],acc,hn=>hn
 | n+1,h,i::todo,acc,hn=>by
   unfold V4
   split
   ·exact MH n hn
   ·rename_i hc
    refine MH n ?_
    rw[List.nodup_append]
    refine⟨hn,by simp,?_⟩
    intro a ha b hb e
    rw[GJ]at hb
    subst hb;subst e
    have:acc.contains a=true:=by simpa using ha
    rw[this]at hc;cases hc
theorem XA:∀ {ids:List Nat} {i n j:Nat},D4 i ids n=some j->n<=j/\ids[j-n]? = some i
 | [],i,n,j,h=>by cases h
 | x::ids,i,n,j,h=>by
   unfold D4 at h
   split at h
   ·rename_i e;cases h;subst e;exact⟨aR _,by simp⟩
   ·obtain⟨h1,h2⟩:=XA h
    refine⟨by omega,?_⟩
    rw[show j-n=(j-(n+1))+1 by omega,List.getElem?_cons_succ]
    exact h2
def N8 (c:Ctx)(ids:List Nat):Ctx:=⟨c.n0,c.F,fun j=>(ids[j]?).bind c.ρ,ids.map fun i=>aE3 ids (dD c.h i),c.hs⟩
theorem VJ {ids:List Nat}{i j:Nat}(h:D4 i ids 0=some j):(N8 c ids).ρ j=c.ρ i/\(N8 c ids).h[j]? = some (aE3 ids (dD c.h i)):=by
 have:=(XA h).2
 rw[Nat.sub_zero]at this
 refine⟨?_,?_⟩
 ·show(ids[j]?).bind c.ρ=_
  rw[this];rfl
 ·show(ids.map _)[j]? = _
  rw[mE,this];rfl
theorem N9 (ids:List Nat){v:VV}{a:Value}(h:RL c v a):RL (N8 c ids) (aEC ids v) a:=by
 cases v with
 | pl v=>exact h
 | fz o t l=>exact h
 | fptr o t l ix off=>exact h
 | hof i=>exact h
 | mptr i off=>trivial
 | er b=>exact h
 | bs l=>exact h.elim
 | own i =>
   unfold aEC
   simp only
   split
   ·rename_i j hj
    obtain⟨k1,k2⟩:=VJ (c:=c) hj
    simp only[RL]at h⊢
    rw[k1,k2]
    cases hi:c.h[i]? with
    | none=>rw[hi]at h;exact h.elim
    | some o =>
      rw[hi]at h
      rw[rJ hi]
      cases o <;> exact h
   ·trivial
 | ptr i off =>
   unfold aEC
   simp only
   split
   ·rename_i j hj
    obtain⟨k1,k2⟩:=VJ (c:=c) hj
    obtain⟨b,cs,fr,h1,h2,h3⟩:=h
    rw[rJ h1]at k2
    exact⟨b,_,fr,k2,k1.trans h2,h3⟩
   ·trivial
 | eptr i ix off =>
   unfold aEC
   simp only
   split
   ·rename_i j hj
    obtain⟨k1,k2⟩:=VJ (c:=c) hj
    obtain⟨b,h1,h2⟩:=h
    refine⟨b,k1.trans h1,?_⟩
    rw[k2]
    cases hi:c.h[i]? with
    | none=>rw[hi]at h2;exact h2.elim
    | some o =>
      rw[hi]at h2
      rw[rJ hi]
      cases o <;> exact h2
   ·trivial
 | undef=>trivial
 | agg l=>exact h.elim
 | tup l=>exact h.elim
 | bx l off=>exact h.elim
 | fn f l=>exact h.elim
 | nw t l=>exact h.elim
theorem aAx (ids:List Nat){v:VV}{a:Value}(h:R1 c v a):R1 (N8 c ids) (aLl ids v) a:=by
 cases v
 case agg l=>obtain⟨azz,h1,h2⟩:=h;exact⟨azz,h1,h2.mapL fun v a h=>N9 ids h⟩
 case bx l off=>obtain⟨b,B,h1,h2,h3⟩:=h;exact⟨b,B,h1,h2,h3.mapL fun v a h=>N9 ids h⟩
 case bs l=>obtain⟨b,B,k,h1,h2,h4,h3⟩:=h;exact⟨b,B,k,by simpa using h1,h2,h4,h3.mapL fun v a h=>N9 ids h⟩
 all_goals exact aFy (N9 ids (aD5 (fun _ e=>by cases e) (fun _ _ e=>by cases e) (fun _ e=>by cases e) h))
theorem aJO (ids:List Nat){v:VV}{a:Value}(h:R2 c v a):R2 (N8 c ids) (aOD ids v) a:=by
 cases v
 case tup l=>obtain⟨azz,h1,h2⟩:=h;exact⟨azz,h1,h2.mapL fun v a h=>aAx ids h⟩
 case fn f l=>obtain⟨azz,h1,h2⟩:=h;exact⟨azz,h1,h2.mapL fun v a h=>aAx ids h⟩
 all_goals exact IC (aAx ids (aEE (fun _ e=>by cases e) (fun _ _ e=>by cases e) h))
theorem Ok.clean (h:Ok F0 H0 c H){ids:List Nat}(hn:ids.Nodup):Ok F0 H0 (N8 c ids) H where
 n0:=h.n0
 pre:=h.pre
 fz:=h.fz
 low:=h.low
 obj:=fun j o hj=>by
  have hj:(ids.map fun i=>aE3 ids (dD c.h i))[j]? = some o:=hj
  rw[mE]at hj
  cases e:ids[j]? with
  | none=>rw[e]at hj;cases hj
  | some i =>
    rw[e]at hj
    have hj:aE3 ids (dD c.h i)=o:=by simpa using hj
    subst hj
    have hρ:(N8 c ids).ρ j=c.ρ i:=by show(ids[j]?).bind c.ρ=_;rw[e];rfl
    cases hi:c.h[i]? with
    | none =>
      have hg:dD c.h i = .dead false:=by unfold dD;rw[aW,hi];rfl
      have hnone:c.ρ i=none:=h.dom i (List.getElem?_eq_none_iff.1 hi)
      rw[hg]
      exact {
       lo:=fun b e=>by rw[hρ,hnone]at e;cases e
       box:=fun _ _ e=>(by cases e)
       lst:=fun _ _ _ _ e=>(by cases e)
       dead:=fun _ e=>(by cases e) }
    | some o =>
      rw[rJ hi]
      have ob:=h.obj i o hi
      exact {
       lo:=fun b e=>ob.lo b (by rw[<- hρ];exact e)
       box:=fun cs fr e=>by
        cases o with
        | box cs' fr' =>
          cases e
          obtain⟨b,azz,k1,k2,k3,k4⟩:=ob.box _ _ rfl
          exact⟨b,azz,hρ.trans k1,k2,k3.mapL fun v a h=>N9 ids h,k4⟩
        | lst _ _ _ _=>cases e
        | dead _=>cases e
       lst:=fun q t l fr e=>by
        cases o with
        | box cs' fr'=>cases e
        | dead _=>cases e
        | lst q' t' l' fr'=>rw[hρ];exact ob.lst q t l fr e
       dead:=fun b e e'=>by
        cases o with
        | box cs' fr'=>cases e
        | lst _ _ _ _=>cases e
        | dead x=>exact ob.dead b e (by rw[<- hρ];exact e') }
 inj:=fun i j b hij hi hj=>by
  have hi:(ids[i]?).bind c.ρ=some b:=hi
  have hj:(ids[j]?).bind c.ρ=some b:=hj
  show(ids.map fun i=>aE3 ids (dD c.h i))[i]? = _\/(ids.map fun i=>aE3 ids (dD c.h i))[j]? = _
  rw[mE,mE]
  cases e1:ids[i]? with
  | none=>rw[e1]at hi;cases hi
  | some x =>
    cases e2:ids[j]? with
    | none=>rw[e2]at hj;cases hj
    | some y =>
      rw[e1]at hi
      rw[e2]at hj
      have hxy:x≠y:=by
       intro e
       subst e
       have h1:=List.getElem?_eq_some_iff.1 e1
       have h2:=List.getElem?_eq_some_iff.1 e2
       obtain⟨l1,g1⟩:=h1
       obtain⟨l2,g2⟩:=h2
       have hp:=List.pairwise_iff_getElem.1 hn
       grind
      rcases h.inj x y b hxy hi hj with e|e
      ·left;simp only[Option.map_some,rJ e];rfl
      ·right;simp only[Option.map_some,rJ e];rfl
 bj:=fun i j b o hij hi hj ho=>by
  have hi:(ids[i]?).bind c.ρ=some b:=hi
  have hj:(ids[j]?).bind c.ρ=some b:=hj
  have ho:(ids.map fun i=>aE3 ids (dD c.h i))[i]? = some o:=ho
  rw[mE]at ho
  cases e1:ids[i]? with
  | none=>rw[e1]at hi;cases hi
  | some x =>
    cases e2:ids[j]? with
    | none=>rw[e2]at hj;cases hj
    | some y =>
      rw[e1]at hi ho
      rw[e2]at hj
      have hxy:x≠y:=by
       intro e
       subst e
       obtain⟨l1,g1⟩:=List.getElem?_eq_some_iff.1 e1
       obtain⟨l2,g2⟩:=List.getElem?_eq_some_iff.1 e2
       have hp:=List.pairwise_iff_getElem.1 hn
       rcases Nat.lt_trichotomy i j with hlt|he|hlt
       ·exact hp i j l1 l2 hlt (g1.trans g2.symm)
       ·exact hij he
       ·exact hp j i l2 l1 hlt (g2.trans g1.symm)
      simp only[Option.map_some,iJ]at ho
      subst ho
      cases hx:c.h[x]? with
      | none =>
        have hg:dD c.h x = .dead false:=by unfold dD;rw[aW,hx];rfl
        rw[hg];rfl
      | some p =>
        rw[rJ hx]
        have:=h.bj x y b p hxy hi hj hx
        cases p with
        | box _ _=>cases this
        | lst _ _ _ _=>rfl
        | dead _=>rfl
 dom:=fun j hj=>by
  have hj:(ids.map fun i=>aE3 ids (dD c.h i)).length<=j:=hj
  rw[B8]at hj
  show(ids[j]?).bind c.ρ=none
  rw[List.getElem?_eq_none_iff.2 hj];rfl
theorem VL {R:VV->Value->Prop}(hu:∀ a,R .undef a):∀ (live:List Nat) (vs:List VV) {ta:aJ},All2 R vs (live.map ta)->∀ d,R (eH (X1 live vs) d) (ta d)
 | [],vs,ta,h,d=>by cases h;exact hu _
 | x::live,[],ta,h,d=>by cases h
 | x::live,v::vs,ta,h,d=>by
   cases h with
   | cons h t =>
     show R (if x=d then v else eH (X1 live vs) d) (ta d)
     split
     ·rename_i e;subst e;exact h
     ·exact VL hu live vs t d
theorem aFf {R:VV->Value->Prop}{f:Nat->VV}{ta:aJ}(h:∀ d,R (f d) (ta d)):∀ live:List Nat,All2 R (live.map f) (live.map ta)
 | [] => .nil
 | x::l => .cons (h x) (aFf h l)
theorem WX (hr:Rel F0 H0 c s ta H)(live:List Nat):∃ c',c'.hs=c.hs/\c'.n0=c.n0/\c'.h=(Y6 live s).2/\Ok F0 H0 c' H/\All2 (R2 c') (Y6 live s).1 (live.map ta):=by
 obtain⟨hh,hok,ht⟩:=hr
 have hn:=MH (2*s.h.length+40) (h:=s.h) (todo:=(live.map (eH s.t)).flatMap aMN) (acc:=[]) List.nodup_nil
 refine⟨N8 c (V4 (2*s.h.length+40) s.h ((live.map (eH s.t)).flatMap aMN) []),rfl,rfl,?_,hok.clean hn,?_⟩
 ·show(List.map _ _)=_
  rw[hh];rfl
 ·show All2 _ ((live.map (eH s.t)).map _) _
  rw[List.map_map]
  exact aFf (fun d=>aJO _ (ht d)) live
theorem aFL {a b:VV}(h:aAi a b=true):a=b:=by
 unfold aAi at h
 grind
theorem aCu:∀ {a b:List VV},aDp a b=true->a=b
 | [],[],_=>rfl
 | [],_::_,h=>by cases h
 | _::_,[],h=>by cases h
 | a::l,b::r,h=>by
   unfold aDp at h
   simp only[aI]at h
   rw[aFL h.1,aCu h.2]
theorem aKf {a b:VV}(h:aC0 a b=true):a=b:=by
 unfold aC0 at h
 split at h
 ·simp only[aI,dS]at h
  rw[h.1,aCu h.2]
 ·exact aFL h
theorem IA {x:Lf}{v:VV}{K:x.den->Prop}(h:unF x v K):∃ d,v=XQ x d/\K d:=by
 unfold unF at h
 split at h
 ·split at h
  ·split at h
   ·rename_i e;subst e;exact⟨_,rfl,h⟩
   ·exact h.elim
  ·exact h.elim
 ·split at h
  ·exact⟨_,rfl,h⟩
  ·exact h.elim
 ·split at h
  ·exact⟨_,rfl,h⟩
  ·exact h.elim
 ·split at h
  ·rename_i x;exact⟨x,rfl,h⟩
  ·exact h.elim
 ·split at h
  ·rename_i a b;exact⟨(a,b),rfl,h⟩
  ·exact h.elim
 ·split at h
  ·split at h
   ·rename_i e
    subst e
    obtain⟨e,h⟩:=Ty.at_inv h
    subst e
    exact⟨_,rfl,h⟩
   ·exact h.elim
  ·exact h.elim
 ·split at h
  ·rename_i e;exact⟨(),(aKf e).symm,h⟩
  ·exact h.elim
 ·split at h
  ·split at h
   ·rename_i e
    subst e
    obtain⟨e,h⟩:=Ty.at_inv h
    subst e
    dsimp only at h
    split at h
    ·exact⟨_,rfl,h⟩
    ·exact h.elim
   ·exact h.elim
  ·exact h.elim
theorem D0:∀ {l:List Lf} {vs:List VV} {K:aBY l->Prop},unL l vs K->∃ d,vs=XU l d/\K d
 | [],vs,K,h=>by
   unfold unL at h
   split at h
   ·exact⟨(),rfl,h⟩
   ·exact h.elim
 | x::l,vs,K,h=>by
   unfold unL at h
   split at h
   ·obtain⟨a,rfl,h1⟩:=IA h
    obtain⟨b,rfl,h2⟩:=D0 h1
    exact⟨(a,b),rfl,h2⟩
   ·exact h.elim
theorem aGg {x:Cp}{v:VV}{K:x.den->Prop}(h:aNG x v K):∃ d,v=aGy x d/\K d:=by
 unfold aNG at h
 split at h
 ·exact IA h
 ·split at h
  ·obtain⟨d,rfl,h1⟩:=D0 h;exact⟨d,rfl,h1⟩
  ·exact h.elim
 ·split at h
  ·obtain⟨d,rfl,h1⟩:=D0 h;exact⟨d,rfl,h1⟩
  ·exact h.elim
theorem aCN:∀ {l:List Cp} {vs:List VV} {K:aGY l->Prop},unC l vs K->∃ d,vs=aHj l d/\K d
 | [],vs,K,h=>by
   unfold unC at h
   split at h
   ·exact⟨(),rfl,h⟩
   ·exact h.elim
 | x::l,vs,K,h=>by
   unfold unC at h
   split at h
   ·obtain⟨a,rfl,h1⟩:=aGg h
    obtain⟨b,rfl,h2⟩:=aCN h1
    exact⟨(a,b),rfl,h2⟩
   ·exact h.elim
theorem aGk {x:Sh}{v:VV}{K:x.den->Prop}(h:aMo x v K):∃ d,v=aHI x d/\K d:=by
 unfold aMo at h
 split at h
 ·exact IA h
 ·split at h
  ·obtain⟨d,rfl,h1⟩:=D0 h;exact⟨d,rfl,h1⟩
  ·exact h.elim
 ·split at h
  ·obtain⟨d,rfl,h1⟩:=D0 h;exact⟨d,rfl,h1⟩
  ·exact h.elim
 ·split at h
  ·split at h
   ·rename_i e
    subst e
    obtain⟨d,rfl,h1⟩:=aCN h;exact⟨d,rfl,h1⟩
   ·exact h.elim
  ·exact h.elim
theorem aCe:∀ {l:List Sh} {vs:List VV} {K:CV l->Prop},unS l vs K->∃ d,vs=CY l d/\K d
 | [],vs,K,h=>by
   unfold unS at h
   split at h
   ·exact⟨(),rfl,h⟩
   ·exact h.elim
 | x::l,vs,K,h=>by
   unfold unS at h
   split at h
   ·obtain⟨a,rfl,h1⟩:=aGk h
    obtain⟨b,rfl,h2⟩:=aCe h1
    exact⟨(a,b),rfl,h2⟩
   ·exact h.elim
theorem aGN {x:OSh}{v:VO}{K:x.den->Prop}(h:aNE x v K):∃ d,v=aK5 x d/\K d:=by
 unfold aNE at h
 split at h
 ·split at h
  ·split at h
   ·rename_i e;subst e;obtain⟨d,rfl,h1⟩:=D0 h;exact⟨d,rfl,h1⟩
   ·exact h.elim
  ·exact h.elim
 ·split at h
  ·split at h
   ·rename_i e
    obtain⟨rfl,rfl⟩:=e
    obtain⟨e,h⟩:=Ty.at_inv h
    subst e
    exact⟨_,rfl,h⟩
   ·exact h.elim
  ·exact h.elim
 ·split at h
  ·exact⟨(),rfl,h⟩
  ·exact h.elim
theorem aCo:∀ {l:List OSh} {vs:List VO} {K:aBc l->Prop},unO l vs K->∃ d,vs=aJa l d/\K d
 | [],vs,K,h=>by
   unfold unO at h
   split at h
   ·exact⟨(),rfl,h⟩
   ·exact h.elim
 | x::l,vs,K,h=>by
   unfold unO at h
   split at h
   ·obtain⟨a,rfl,h1⟩:=aGN h
    obtain⟨b,rfl,h2⟩:=aCo h1
    exact⟨(a,b),rfl,h2⟩
   ·exact h.elim
def EA (F0:Fz)(H0:aE)(hs:Nat->Value->Prop)(s:VS)(ta:aJ)(H:aE):Prop:=∃ c,c.hs=hs/\Rel F0 H0 c s ta H
theorem aGF {hs:Nat->Value->Prop}(hr:EA F0 H0 hs s ta H)(live:List Nat):EA F0 H0 hs (aNx live s) ta H:=by
 obtain⟨c,hc,hr⟩:=hr
 obtain⟨c',h1,h2,h3,h4,h5⟩:=WX hr live
 exact⟨c',h1.trans hc,h3,h4,VL (fun _=>trivial) live _ h5⟩
theorem aJ2 {i:Nat}{q:Bool}{T:Ty}{l:List T.den}{fr:Bool}{a:Value}(hok:Ok F0 H0 c H)(hi:dD c.h i = .lst q T l fr)(hr:RL c (.own i) a) :
 ∃ c',Le c c'/\c'.hs=c.hs/\c'.h=eO c.h [i]/\Ok F0 H0 c' H/\RL c' (.fz q T l) a:=by
 obtain⟨c1,k1,k2,kn,kρ,k3,k4⟩:=hok.freezes [i]
 refine⟨c1,k1,k1.hs,k2,k3,?_⟩
 have hl:RL c1 (iW c.h (.own i)) a:=A5 hok k1 kρ hr fun j hj=>k4 j (by simpa [uQ] using hj)
 have hres:iW c.h (.own i) = .fz q T l:=by unfold iW;simp only[hi]
 rw[hres]at hl
 exact hl
theorem fzA {q:Bool}{T:Ty}{l:List T.den}{a:Value}(h:RL c (.fz q T l) a):RL c (.fz false T l) a:=by
 obtain⟨ad,k,h1,h2⟩:=h
 have hext:(f7 q c.n0 c.F).ext (f7 false c.n0 c.F):=zF (fun e=>by cases e)
 exact⟨ad,k,h1,h2.mono hext (RT.mono hext T)⟩
theorem XC {fz:Bool}{T:Ty}{v v':VV}{h':List VO}{a:Value}(hok:Ok F0 H0 c H)(hr:RL c v a)(hc:conv fz T c.h v=some (v',h')):∃ c',Le c c'/\c'.h=h'/\Ok F0 H0 c' H/\RL c' v' a:=by
 unfold conv at hc
 split at hc
 ·cases hc
  obtain⟨rfl,_⟩:=hr
  exact⟨_,rO _ _,rfl,hok.addNil true T (Pre.refl H),LL (c:=c) (a:=none) (q:=true) (l:=([]:List T.den)) rfl⟩
 ·cases hc
  obtain⟨rfl,_⟩:=hr
  exact⟨c,Le.refl c,rfl,hok,none,_,rfl,⟨kM _,.inl rfl⟩⟩
 ·split at hc
  ·rename_i hg
   cases hc
   obtain⟨c',h1,h2,h3,h4,h5⟩:=aJ2 hok hg hr
   exact⟨c',h1,h3,h4,fzA h5⟩
  ·cases hc
 ·cases hc
  exact⟨c,Le.refl c,rfl,hok,fzA hr⟩
 ·cases hc
theorem aNZ {v:VV}{a:Value}{fz:Bool}{T:Ty}{h:List VO}{r:VV×List VO}(hc:conv fz T h v=some r)(hr:R2 c v a):RL c v a:=by
 unfold conv at hc
 split at hc
 ·exact hr
 ·exact hr
 ·exact hr
 ·exact hr
 ·cases hc
theorem aK6 {fz:Bool}{T:Ty}{h h':List VO}{v v':VV}(hc:conv fz T h v=some (v',h')){i:Nat}{cs:List VV}{fr:Bool}(hi:h[i]? = some (.box cs fr))(hv:∀ j,v = .own j->j≠i):h'[i]? = some (.box cs fr):=by
 unfold conv at hc
 split at hc
 ·grind
 ·cases hc;exact hi
 ·rename_i j
  split at hc
  ·cases hc
   show(h.set j (kC (dD h j)))[i]? = _
   rw[gY (hv j rfl)];exact hi
  ·cases hc
 ·cases hc;exact hi
 ·cases hc
theorem aIg {hs:Nat->Value->Prop}(co:Co)(hr:EA F0 H0 hs s ta H):EA F0 H0 hs (co1 s co) ta H:=by
 obtain⟨c,hc,hh,hok,ht⟩:=hr
 unfold co1
 split
 ·split
  ·rename_i v h' hcv
   rw[<- hh]at hcv
   have hd:=ht co.d
   obtain⟨c',h1,h2,h3,h4⟩:=XC hok (aNZ hcv hd) hcv
   refine⟨c',h1.hs.trans hc,h2,h3,?_⟩
   intro i
   show R2 c' (if co.d=i then v else eH s.t i) _
   split
   ·rename_i e;subst e;exact IC (aFy h4)
   ·exact R2.mono h1 _ _ (ht i)
  ·exact⟨c,hc,hh,hok,ht⟩
 ·rename_i q hq
  split
  ·rename_i i off hl
   split
   ·rename_i cs fr hg
    split
    ·rename_i u hu
     split
     ·rename_i v h' hcv
      rw[<- hh]at hcv hg
      have hi:=gL hg (by intro e;cases e)
      obtain⟨b,azz,k1,k2,k3,k4,k5⟩:=(hok.obj i _ hi).box _ _ rfl
      obtain⟨a,m1,m2⟩:=k3.get hu
      obtain⟨c',h1,h2,h3,h4⟩:=XC hok m2 hcv
      have hi':c'.h[i]? = some (.box cs fr):=by
       rw[h2]
       refine aK6 hcv hi fun j e => ?_
       intro e2
       subst e;subst e2
       simp only[RL,hi]at m2
      have hle:Le c' (wB c' i (.box (cs.set q v) fr)):=C4 hi' trivial
      have ob:=h3.obj i _ hi'
      obtain⟨b',as',n1,n2,n3,n4,n5⟩:=ob.box _ _ rfl
      have hbb:b'=b:=by
       rw[h1.ρ i (cQ hi),k1]at n1
       exact(pS n1).symm
      subst hbb
      rw[k2]at n2
      cases n2
      refine⟨wB c' i (.box (cs.set q v) fr),hle.hs.trans (h1.hs.trans hc),?_,?_,?_⟩
      ·show c'.h.set i _=_;rw[h2]
      ·exact {
        n0:=h3.n0,pre:=h3.pre,fz:=h3.fz,low:=h3.low
        obj:=fun j p hj=>by
         rcases PG hj with⟨rfl,rfl⟩|⟨hne,hj'⟩
         ·exact {
           lo:=fun b e=>ob.lo b e
           box:=fun cs2 fr2 e=>by
            cases e
            refine⟨b',azz,n1,k2,?_,n4,n5⟩
            have hset:azz.set q a=azz:=by
             apply VH
             grind
            have:=(n3.mono (RL.mono hle)).set q (RL.mono hle _ _ h4)
            rw[hset]at this
            exact this
           lst:=fun _ _ _ _ e=>(by cases e)
           dead:=fun _ e=>(by cases e) }
         ·exact(h3.obj j p hj').mono hle rfl (fun _ _=>rfl) (fun _ _ _ hB=>hB) (aR _)
        inj:=fun j k b' hjk hj hk=>by
         show(c'.h.set i _)[j]? = _\/(c'.h.set i _)[k]? = _
         rcases h3.inj j k b' hjk hj hk with e|e
         ·left
          by_cases hji:i=j
          ·subst hji;rw[hi']at e;cases e
          ·rw[gY hji];exact e
         ·grind
        bj:=h3.bj.set hi' (fun _=>rfl)
        dom:=fun j hj=>h3.dom j (by have:(c'.h.set i (.box (cs.set q v) fr)).length<=j:=hj;simpa using this) }
      ·exact fun d=>R2.mono (h1.trans hle) _ _ (ht d)
     ·exact⟨c,hc,hh,hok,ht⟩
    ·exact⟨c,hc,hh,hok,ht⟩
   ·exact⟨c,hc,hh,hok,ht⟩
  ·exact⟨c,hc,hh,hok,ht⟩
theorem W4 {hs:Nat->Value->Prop}:∀ (cs:List Co) {s:VS},EA F0 H0 hs s ta H->EA F0 H0 hs (aKN cs s) ta H
 | [],s,h=>h
 | c::cs,s,h=>W4 cs (aIg c h)
theorem qJ {hs:Nat->Value->Prop}(hr:EA F0 H0 hs s ta H)(en:Ends)(m:Nat):EA F0 H0 hs (GH en m s) ta H:=by
 unfold GH
 split
 ·exact aGF (W4 _ hr) _
 ·exact hr
theorem SA {hs:Nat->Value->Prop}{live:List Nat}{sh:List Sh}{ob:List OSh}{K:CV sh×aBc ob->Prop}(hr:EA F0 H0 hs s ta H)(h:aNH live sh ob s K):∃ x,K x/\EA F0 H0 hs (aET live sh ob x) ta H:=by
 obtain⟨c,hc,hr⟩:=hr
 obtain⟨c',h1,h2,h3,h4,h5⟩:=WX hr live
 unfold aNH at h
 obtain⟨a,e1,h⟩:=aCe h
 obtain⟨b,e2,h⟩:=aCo h
 refine⟨(a,b),h,c',h1.trans hc,?_,h4,?_⟩
 ·rw[h3,e2];rfl
 ·rw[e1]at h5
  exact VL (fun _=>trivial) live _ h5
def pK:Nat->Code->Nat->Option Code
 | 0,_,_=>none
 | f+1,root,n=>if n<=1 then some root else
   match pK f root (n / 2)with
   | some (.seq a b)=>if n%2=0 then some a else some b
   | some (.cond _ x y)=>if n%2=0 then some x else some y
   | some (.block _ b)=>some b
   | some (.loop b)=>some b
   | _=>none
theorem aFW {root:Code}:∀ {f f' n:Nat} {c c':Code},pK f root n=some c->pK f' root n=some c'->c=c':=by
 intro f
 induction f with
 | zero=>intro f' n c c' h;cases h
 | succ f ih =>
   intro f' n c c' h h'
   cases f' with
   | zero=>cases h'
   | succ f' =>
     unfold pK at h h'
     grind
theorem aJr {P:Program}{x:Code}{t:aJ}{Q:f9->aJ->aE->Prop}(h:W P fl x t H fun e t1 H1=>match e with
 | .normal=>W P fl (.loop x) t1 H1 Q
 | e=>Q e t1 H1):W P fl (.loop x) t H Q:=by
 obtain⟨N,e,t1,H1,h1,h2⟩:=h
 cases e with
 | normal =>
   obtain⟨M,e2,t2,H2,h3,h4⟩:=h2
   simp only[lD]at h3
   refine⟨max N M+1,e2,t2,H2,?_,h4⟩
   simp only[lD,GA]
   rw[D2 (oZ P (show N<=max N M+1 by omega)) (show N<=max N M+1 by omega) _ _ _ _ h1]
   exact SX (D2 (oZ P (show M<=max N M+1 by omega)) (show M<=max N M+1 by omega) x) (show M<=max N M by omega) _ _ _ h3
 | _ =>
   refine⟨N+1,_,t1,H1,?_,h2⟩
   simp only[lD,GA]
   rw[D2 (oZ P (Nat.le_succ N)) (Nat.le_succ N) _ _ _ _ h1]
structure Tl (p:Prop):Prop where
 it:p
def aBH (G:Cfg)(ct:Tab)(en:Ends)(root:Code):Prop :=
 ∀ n E,ct n=some E->∀ f c,pK f root n=some c->∀ x k,E.P x k->Tl (vwp G ct en c n (aET E.live E.sh E.ob x) k)
theorem aJR {root a b:Code}{f m:Nat}(hm:1<=m)(h:pK f root m=some (.seq a b)):pK (f+1) root (2*m)=some a/\pK (f+1) root (2*m+1)=some b:=by
 constructor
 ·unfold pK
  grind
 ·unfold pK
  grind
theorem aIO {root a b:Code}{o:Operand}{f m:Nat}(hm:1<=m)(h:pK f root m=some (.cond o a b)):pK (f+1) root (2*m)=some a/\pK (f+1) root (2*m+1)=some b:=by
 constructor
 ·unfold pK
  grind
 ·unfold pK
  grind
theorem aHr {root b:Code}{f m:Nat}(hm:1<=m)(h:(∃ id,pK f root m=some (.block id b))\/pK f root m=some (.loop b)):pK (f+1) root (2*m)=some b:=by
 unfold pK
 rw[aA (by omega),show 2*m / 2=m by omega]
 rcases h with⟨id,h⟩|h <;> rw[h]
structure aMz (G:Cfg)(H0:aE)(hs:Nat->Value->Prop)(fl:Nat):Prop where
 O:∀ f args Q,G.O f args Q->rX G.P f args Q
 fl:fl<=H0.length
 I:∀ J,G.I=some J->dX G.P J
theorem aCL {hs:Nat->Value->Prop}{ct:Tab}{en:Ends}{root:Code}(he:aMz G H0 hs fl)(htab:aBH G ct en root):∀ (c:Code) (m:Nat) {s:VS} {k:f9->VS->Prop} {ta:aJ} {H:aE} {Q:f9->aJ->aE->Prop},1<=m->(∃ f,pK f root m=some c)->jA n c=true ->
 EA F0 H0 hs s ta H->vwp G ct en c m s k->(∀ e s' ta' H',EA F0 H0 hs s' ta' H'->k e s'->Q e ta' H')->W G.P fl c ta H Q:=by
 intro c
 have cut:∀ (x:Code) (m:Nat) {s:VS} {k:f9->VS->Prop} {ta:aJ} {H:aE},(∃ f,pK f root m=some x)->EA F0 H0 hs s ta H->HE ct m (vwp G ct en x m) s k->∃ s',EA F0 H0 hs s' ta H/\vwp G ct en x m s' k:=by
  intro x m s k ta H hsub hr h
  unfold HE at h
  split at h
  ·rename_i E hE
   obtain⟨y,h1,h2⟩:=SA hr h
   obtain⟨f,hf⟩:=hsub
   exact⟨_,h2,(htab m E hE f x hf y k h1).it⟩
  ·exact⟨s,hr,h⟩
 induction c with
 | skip =>
   intro m s k ta H Q hm hsub hco hr hv hQ
   exact aMP (hQ _ _ _ _ (qJ hr en m) hv)
 | label l =>
   intro m s k ta H Q hm hsub hco hr hv hQ
   exact aLL (hQ _ _ _ _ (qJ hr en m) hv)
 | exit id =>
   intro m s k ta H Q hm hsub hco hr hv hQ
   exact aMt (hQ _ _ _ _ (qJ hr en m) hv)
 | ret =>
   intro m s k ta H Q hm hsub hco hr hv hQ
   exact aN2 (hQ _ _ _ _ (qJ hr en m) hv)
 | region id ops draw =>
   intro m s k ta H Q hm hsub hco hr hv hQ
   obtain⟨c,hc,hr⟩:=hr
   have hop:∀ o∈ops.toList,tH n ops o=true:=by
    unfold jA at hco
    exact fun o ho=>List.all_eq_true.1 hco o ho
   refine aA9 (n:=n) ⟨he.O,he.fl⟩ he.I hr hop hv ?_
   rintro ta' H' s' c' hle hr' hk
   exact hQ _ _ _ _ (qJ ⟨c',hle.trans hc,hr'⟩ en m) hk
 | seq a b iha ihb =>
   intro m s k ta H Q hm hsub hco hr hv hQ
   obtain⟨f,hf⟩:=hsub
   obtain⟨ka,kb⟩:=aJR hm hf
   simp only[jA,aI]at hco
   obtain⟨s1,hr1,hv1⟩:=cut a (2*m) ⟨_,ka⟩ hr hv
   refine aN9 (iha (2*m) (by omega) ⟨_,ka⟩ hco.1 hr1 hv1 ?_)
   intro e s' ta' H' hr' hk
   cases e with
   | normal =>
     obtain⟨s2,hr2,hv2⟩:=cut b (2*m+1) ⟨_,kb⟩ hr' hk
     exact ihb (2*m+1) (by omega) ⟨_,kb⟩ hco.2 hr2 hv2 hQ
   | _=>exact hQ _ _ _ _ hr' hk
 | cond o x y ihx ihy =>
   intro m s k ta H Q hm hsub hco hr hv hQ
   obtain⟨f,hf⟩:=hsub
   obtain⟨kx,ky⟩:=aIO hm hf
   simp only[jA,aI]at hco
   have hv:(match evV s.t o with
    | .pl (.bool b)=>if b=true then HE ct (2*m) (vwp G ct en x (2*m)) s k else HE ct (2*m+1) (vwp G ct en y (2*m+1)) s k
    | _=>False):=hv
   obtain⟨c,hc,hrc⟩:=hr
   have hev:=eI hrc.2.2 hco.1.1
   split at hv
   ·rename_i b heq
    rw[heq]at hev
    refine aMV (fJ hev).1 (fun hb => ?_) (fun hb => ?_)
    ·rw[aB hb]at hv
     obtain⟨s1,hr1,hv1⟩:=cut x (2*m) ⟨_,kx⟩ ⟨c,hc,hrc⟩ hv
     exact ihx (2*m) (by omega) ⟨_,kx⟩ hco.1.2 hr1 hv1 hQ
    ·rw[aA (by rw[hb];simp)]at hv
     obtain⟨s1,hr1,hv1⟩:=cut y (2*m+1) ⟨_,ky⟩ ⟨c,hc,hrc⟩ hv
     exact ihy (2*m+1) (by omega) ⟨_,ky⟩ hco.2 hr1 hv1 hQ
   ·exact hv.elim
 | block id b ih =>
   intro m s k ta H Q hm hsub hco hr hv hQ
   obtain⟨f,hf⟩:=hsub
   have kb:=aHr (b:=b) hm (.inl ⟨id,hf⟩)
   obtain⟨s1,hr1,hv1⟩:=cut b (2*m) ⟨_,kb⟩ hr hv
   refine aKv (ih (2*m) (by omega) ⟨_,kb⟩ hco hr1 hv1 ?_)
   intro e s' ta' H' hr' hk
   cases e with
   | exit id'=>exact hQ _ _ _ _ hr' hk
   | _=>exact hQ _ _ _ _ hr' hk
 | loop b ih =>
   intro m s k ta H Q hm hsub hco hr hv hQ
   obtain⟨f,hf⟩:=hsub
   have kb:=aHr (b:=b) hm (.inr hf)
   have step:∀ (X:VS->Prop),(∀ s,X s->∀ ta H,EA F0 H0 hs s ta H->W G.P fl (.loop b) ta H Q)->∀ s,LB k en m (HE ct (2*m) (vwp G ct en b (2*m))) s X->∀ ta H,EA F0 H0 hs s ta H->W G.P fl (.loop b) ta H Q:=by
    intro X hX s hB ta H hr
    refine aJr ?_
    obtain⟨s1,hr1,hv1⟩:=cut b (2*m) ⟨_,kb⟩ hr hB
    refine ih (2*m) (by omega) ⟨_,kb⟩ hco hr1 hv1 ?_
    intro e s' ta' H' hr' hk
    cases e with
    | normal=>exact hX _ hk ta' H' (qJ hr' en m)
    | _=>exact hQ _ _ _ _ hr' hk
   unfold vwp at hv
   split at hv
   ·exact hv (fun s=>∀ ta H,EA F0 H0 hs s ta H->W G.P fl (.loop b) ta H Q) (fun s hB=>step _ (fun _ h=>h) s hB) ta H (qJ hr en m)
   ·rename_i u _
    have key:∀ (u:Nat) s,unr (LB k en m (HE ct (2*m) (vwp G ct en b (2*m)))) u s->∀ ta H,EA F0 H0 hs s ta H->W G.P fl (.loop b) ta H Q:=by
     intro u
     induction u with
     | zero=>intro s h;exact h.elim
     | succ u ihu=>intro s h;exact step _ ihu s h
    exact key _ _ hv ta H (qJ hr en m)
 | rangeFunc f ps a b _ _=>intro m s k ta H Q hm hsub hco;simp[jA]at hco
 | scope b _=>intro m s k ta H Q hm hsub hco;simp[jA]at hco
 | goto l=>intro m s k ta H Q hm hsub hco hr hv;simp[vwp]at hv
 | refuse w=>intro m s k ta H Q hm hsub hco;simp[jA]at hco
end
end Go.Mach
namespace Go.Mach
set_option linter.unusedVariables false
set_option linter.unusedSimpArgs false
section
variable {G:Cfg} {F0:Fz} {H0:aE} {c c':Ctx} {H H':aE} {s:VS} {ta:aJ} {n fl:Nat} {ops:Array Oper}
theorem LY (hr:Rel F0 H0 c s ta H):∀ {rs:List ResultVar} {K:List VV->Prop},Z1 G s rs K->∃ vs azz,K vs/\All2 (R2 c) vs azz/\iD G.P ta H rs=some azz
 | [],K,h=>⟨[],[],h,.nil,rfl⟩
 | .tmp d::rs,K,h=>by
   obtain⟨vs,azz,h1,h2,h3⟩:=LY hr (rs:=rs) h
   exact⟨_,_,h1,.cons (hr.2.2 d) h2,by simp only[iD,xH,h3]⟩
 | .cell d ty::rs,K,h=>by
   unfold Z1 at h
   split at h
   ·rename_i i off he
    split at h
    ·rename_i cs fr hg
     have hd:=hr.2.2 d
     rw[he]at hd
     obtain⟨b,cs',fr',k1,k2,k3⟩:=PV hd
     have hi:=gL hg (by intro e;cases e)
     rw[hr.1,hi]at k1;cases k1
     obtain⟨b',azz,m1,m2,m3,_⟩:=(hr.2.1.obj i _ (by rw[hr.1];exact hi)).box _ _ rfl
     rw[k2]at m1;cases m1
     obtain⟨v,a,g1,g2,g3⟩:=A8 (es:=0) (ex:=true) (al:=true) m3 h
     obtain⟨vs,as',h1,h2,h3⟩:=LY hr (rs:=rs) g1
     exact⟨_,_,h1,.cons (IC g2) h2,by simp only[iD,xH,k3,OR m2 g3,h3]⟩
    ·exact h.elim
   ·exact h.elim
def Left (c:Ctx)(h:List VO)(used:List Nat):Prop:=∀ i q t l fr,dD h i = .lst q t l fr->i∉used/\c.h[i]? = some (.lst q t l fr)
theorem Left.use {h:List VO}{used:List Nat}(hl:Left c h used)(i:Nat):Left c (h.set i (.dead false)) (used++[i]):=by
 intro j q t l fr e
 have hji:j≠i:=by
  intro e2
  subst e2
  unfold dD at e
  grind
 have e3:dD h j = .lst q t l fr:=by
  rw[<- e]
  unfold dD
  grind
 obtain⟨h1,h2⟩:=hl j q t l fr e3
 grind
theorem XR.app {l:List VV}{is:List Nat}{azz:List Value}(h:XR c l is azz):∀ {m:List VV} {js:List Nat} {bs:List Value},XR c m js bs->XR c (l++m) (is++js) (azz++bs):=by
 induction h with
 | nil=>intro m js bs k;exact k
 | pl h t ih=>intro m js bs k;exact .pl h (ih k)
 | nw h t ih=>intro m js bs k;exact .nw h (ih k)
 | nl t ih=>intro m js bs k;exact .nl (ih k)
 | al h t ih=>intro m js bs k;exact .al h (ih k)
 | er h t ih=>intro m js bs k;exact .er h (ih k)
theorem UH:∀ (T:Ty) {cs:List VV} {azz:List Value} {h:List VO} {used:List Nat} {K:T.den->List VV->List VO->Prop},All2 (RL c) cs azz->Left c h used->used.Nodup->xp T cs h K ->
 ∃ x r h' is a1 a2,K x r h'/\azz=a1++a2/\XR c (aKx T x) is a1/\All2 (RL c) r a2/\Left c h' (used++is)/\(used++is).Nodup:=by
 intro T
 induction T with
 | int k =>
   intro cs azz h used K hr hl hn hx
   unfold xp at hx
   split at hx
   ·split at hx
    ·rename_i e;subst e
     cases hr with
     | cons hr t=>obtain⟨rfl,hp⟩:=hr;exact⟨_,_,h,[],[_],_,hx,rfl,.pl hp .nil,t,by rw[dU];exact hl,by rw[dU];exact hn⟩
    ·exact hx.elim
   ·exact hx.elim
 | bool =>
   intro cs azz h used K hr hl hn hx
   unfold xp at hx
   split at hx
   ·cases hr with
    | cons hr t=>obtain⟨rfl,hp⟩:=hr;exact⟨_,_,h,[],[_],_,hx,rfl,.pl hp .nil,t,by rw[dU];exact hl,by rw[dU];exact hn⟩
   ·exact hx.elim
 | str =>
   intro cs azz h used K hr hl hn hx
   unfold xp at hx
   split at hx
   ·cases hr with
    | cons hr t=>obtain⟨rfl,hp⟩:=hr;exact⟨_,_,h,[],[_],_,hx,rfl,.pl hp .nil,t,by rw[dU];exact hl,by rw[dU];exact hn⟩
   ·exact hx.elim
 | flt =>
   intro cs azz h used K hr hl hn hx
   unfold xp at hx
   split at hx
   ·cases hr with
    | cons hr t=>obtain⟨rfl,hp⟩:=hr;exact⟨_,_,h,[],[_],_,hx,rfl,.pl hp .nil,t,by rw[dU];exact hl,by rw[dU];exact hn⟩
   ·exact hx.elim
 | cpx =>
   intro cs azz h used K hr hl hn hx
   unfold xp at hx
   split at hx
   ·cases hr with
    | cons hr t=>obtain⟨rfl,hp⟩:=hr;exact⟨_,_,h,[],[_],_,hx,rfl,.pl hp .nil,t,by rw[dU];exact hl,by rw[dU];exact hn⟩
   ·exact hx.elim
 | slc T ih =>
   intro cs azz h used K hr hl hn hx
   unfold xp at hx
   split at hx
   ·rename_i i r
    split at hx
    ·rename_i t' l hg
     obtain⟨e,hx⟩:=Ty.at_inv hx
     subst e
     obtain⟨k1,k2⟩:=hl i _ _ _ _ hg
     cases hr with
     | cons hr t =>
       have ha:=CE (c:=c) (show R2 c (.own i) _ from hr) k2
       subst ha
       exact⟨_,_,_,[i],[_],_,hx,rfl,.nw k2 .nil,t,hl.use i,by
        rw[List.nodup_append]
        exact⟨hn,by simp,fun a ha b hb e=>k1 (by rw[GJ]at hb;subst hb;subst e;exact ha)⟩⟩
    ·exact hx.elim
   ·cases hr with
    | cons hr t=>obtain⟨rfl,hp⟩:=hr;exact⟨_,_,h,[],[_],_,hx,rfl,.nl .nil,t,by rw[dU];exact hl,by rw[dU];exact hn⟩
   ·exact hx.elim
 | ref T ih =>
   intro cs azz h used K hr hl hn hx
   exact hx.elim
 | unit =>
   intro cs azz h used K hr hl hn hx
   exact⟨(),cs,h,[],[],azz,hx,rfl,.nil,hr,by rw[dU];exact hl,by rw[dU];exact hn⟩
 | pair A B iha ihb =>
   intro cs azz h used K hr hl hn hx
   unfold xp at hx
   obtain⟨x,r,h1,is,a1,a2,k1,rfl,k3,k4,k5,k6⟩:=iha hr hl hn hx
   obtain⟨y,r',h2,js,b1,b2,g1,rfl,g3,g4,g5,g6⟩:=ihb k4 k5 k6 k1
   exact⟨(x,y),r',h2,is++js,a1++b1,b2,g1,by rw[fU],k3.app g3,g4,by rw[<- fU];exact g5,by rw[<- fU];exact g6⟩
theorem XR.len {l:List VV}{is:List Nat}{azz:List Value}(h:XR c l is azz):l.length=azz.length:=by
 induction h with
 | nil=>rfl
 | pl h t ih=>simp[ih]
 | nw h t ih=>simp[ih]
 | nl t ih=>simp[ih]
 | al h t ih=>simp[ih]
 | er h t ih=>simp[ih]
theorem aOh {F0:Fz}{H0 H:aE}(hok:Ok F0 H0 c H){i:Nat}{q:Bool}{T:Ty}{l:List T.den}{a:Value}(hi:c.h[i]? = some (.lst q T l true))(h:RL c (.own i) a):RL c (.fz false T l) a:=by
 have ha:a=sl (c.ρ i) l.length:=CE (c:=c) h hi
 refine⟨_,_,ha,?_⟩
 have hlst:=(hok.obj i _ hi).lst _ _ _ _ rfl
 have hext:(f7 q c.n0 c.F).ext (f7 false c.n0 c.F):=zF (fun e=>by cases e)
 cases hb:c.ρ i with
 | none =>
   have:=hlst.1 hb
   subst this
   exact⟨aR _,.inl rfl⟩
 | some b =>
   obtain⟨azz,ex,k1,k2,k3,_⟩:=hlst.2 b hb
   refine(k2.mono hext).slice (b:=b) (B:=⟨azz,T.w,ex,true⟩) rfl ?_ (.inr rfl)
   unfold f7
   rw[aA (by simp)]
   exact k3 rfl
theorem aCt (T:Ty){cs:List VV}{azz:List Value}{h:List VO}{used:List Nat}{K:List T.den->List VV->List VO->Prop}(hr:All2 (RL c) cs azz)(hl:Left c h used)(hn:used.Nodup)(hx:xpA .z (.slc T) cs h K) :
 ∃ x r h' is a a2,K x r h'/\azz=[a]++a2/\XR c [.nw T x] is [a]/\(x=[]->a = .slice none 0 0)/\All2 (RL c) r a2/\Left c h' (used++is)/\(used++is).Nodup:=by
 unfold xpA at hx
 split at hx
 ·rename_i i r
  split at hx
  ·rename_i t' l hg
   obtain⟨e,hx⟩:=Ty.at_inv hx
   subst e
   obtain⟨hne,hx⟩:=hx
   obtain⟨k1,k2⟩:=hl i _ _ _ _ hg
   cases hr with
   | cons hr t =>
     have ha:=CE (c:=c) (show R2 c (.own i) _ from hr) k2
     subst ha
     exact⟨_,_,_,[i],_,_,hx,rfl,.nw k2 .nil,fun e=>absurd e hne,t,hl.use i,by
      rw[List.nodup_append]
      exact⟨hn,by simp,fun a ha b hb e=>k1 (by rw[GJ]at hb;subst hb;subst e;exact ha)⟩⟩
  ·exact hx.elim
 ·cases hr with
  | cons hr t=>obtain⟨rfl,hp⟩:=hr;exact⟨_,_,h,[],_,_,hx,rfl,.nl .nil,fun _=>rfl,t,by rw[dU];exact hl,by rw[dU];exact hn⟩
 ·exact hx.elim
theorem aC7 {F0:Fz}{H0 H:aE}(hok:Ok F0 H0 c H):∀ (al:Al) (T:Ty) {cs:List VV} {azz:List Value} {h:List VO} {used:List Nat} {K:T.den->List VV->List VO->Prop},All2 (RL c) cs azz->Left c h used->used.Nodup->xpA al T cs h K ->
 ∃ x r h' is a1 a2,K x r h'/\azz=a1++a2/\XR c (aD2 al T x) is a1/\All2 (RL c) r a2/\Left c h' (used++is)/\(used++is).Nodup:=by
 intro al
 induction al with
 | n=>intro T cs azz h used K hr hl hn hx;cases T <;> exact UH _ hr hl hn hx
 | f =>
   intro T cs azz h used K hr hl hn hx
   cases T with
   | slc T =>
     have fin:∀ {v:VV} {r:List VV} {l:List T.den},All2 (RL c) (v::r) azz->(∀ a,RL c v a->RL c (.fz false T l) a)->K l r h->∃ x r h' is a1 a2,K x r h'/\azz=a1++a2/\XR c (aD2 .f (.slc T) x) is a1/\All2 (RL c) r a2/\Left c h' (used++is)/\(used++is).Nodup:=by
      intro v r l hrr hv hk
      cases hrr with
      | cons h1 t=>exact⟨_,_,h,[],[_],_,hk,rfl,.al (hv _ h1) .nil,t,by rw[dU];exact hl,by rw[dU];exact hn⟩
     unfold xpA at hx
     split at hx
     ·obtain⟨e,hx⟩:=Ty.at_inv hx
      subst e
      exact fin hr (fun a=>fzA) hx
     ·split at hx
      ·rename_i hg
       obtain⟨e,hx⟩:=Ty.at_inv hx
       subst e
       cases hr with
       | cons hr t =>
         have hi:c.h[_]? = _:=(hl _ _ _ _ _ hg).2
         exact fin (.cons hr t) (fun a hra=>aOh hok hi hra) hx
      ·exact hx.elim
     ·exact fin hr (fun a ha=>by obtain⟨rfl,_⟩:=ha;exact⟨none,_,rfl,⟨kM _,.inl rfl⟩⟩) hx
     ·exact hx.elim
   | _=>exact UH _ hr hl hn hx
 | z =>
   intro T cs azz h used K hr hl hn hx
   cases T with
   | slc T =>
     obtain⟨x,r,h',is,a,a2,k1,k2,k3,_,k4,k5,k6⟩:=aCt T hr hl hn hx
     exact⟨x,r,h',is,[a],a2,k1,k2,k3,k4,k5,k6⟩
   | _=>exact UH _ hr hl hn hx
 | p x y ihx ihy =>
   intro T cs azz h used K hr hl hn hx
   cases T with
   | pair A B =>
     unfold xpA at hx
     obtain⟨u,r,h1,is,a1,a2,k1,rfl,k3,k4,k5,k6⟩:=ihx A hr hl hn hx
     obtain⟨v,r',h2,js,b1,b2,g1,rfl,g3,g4,g5,g6⟩:=ihy B k4 k5 k6 k1
     exact⟨(u,v),r',h2,is++js,a1++b1,b2,g1,by rw[fU],k3.app g3,g4,by rw[<- fU];exact g5,by rw[<- fU];exact g6⟩
   | _=>exact UH _ hr hl hn hx
theorem aJM {v:VV}{a:Value}(hv:okL v=true)(h:R2 c v a):RL c v a:=by
 cases v <;> first|exact h|cases hv
theorem aEe {F0:Fz}{H0 H:aE}(hok':Ok F0 H0 c H):∀ (rt:TY) (al:List Al) {vs:List VV} {azz:List Value} {h:List VO} {used:List Nat} {K:aHJ rt->Prop},All2 (R2 c) vs azz->Left c h used->used.Nodup->aAk rt al vs h K ->
 ∃ x is,K x/\XZ c (o7 rt al x) is azz/\(used++is).Nodup:=by
 intro rt
 induction rt with
 | nil =>
   intro al vs azz h used K hr hl hn hx
   unfold aAk at hx
   split at hx
   ·cases hr;exact⟨(),[],hx,.nil,by rw[dU];exact hn⟩
   ·exact hx.elim
 | cons p rt ih =>
   obtain⟨g,T⟩:=p
   intro al vs azz h used K hr hl hn hx
   unfold aAk at hx
   split at hx
   ·rename_i v r
    split at hx
    ·rename_i hg
     cases hr with
     | cons hv t =>
       rename_i a azz
       cases g with
       | true =>
         cases v with
         | agg l =>
           obtain⟨bs,rfl,h2⟩:=aB6 hv
           obtain⟨x,left,h1,is,a1,a2,k1,k2,k3,k4,k5,k6⟩:=aC7 hok' (al.headD .n) T h2 hl hn hx
           split at k1
           ·cases k4
            rw[dU]at k2
            subst k2
            obtain⟨y,js,g1,g2,g3⟩:=ih al.tail t k5 k6 k1
            refine⟨(x,y),is++js,g1,?_,by rw[<- fU];exact g3⟩
            have e0:zmk true (al.headD .n) T=[]:=by cases al.headD .n <;> rfl
            show XZ c ((true,aD2 (al.headD .n) T x++zmk true (al.headD .n) T)::o7 rt al.tail y) _ _
            rw[e0,dU]
            have:=XZ.s (XS.agg k3 .nil) g2
            rwa [dU]at this
           ·exact k1.elim
         | _=>cases hg.1
       | false =>
         have hok:okL v=true:=hg.2.resolve_left (by simp)
         have hleaf:=aJM hok hv
         have hvc:fM v=[v]:=by cases v <;> first|rfl|cases hok
         rw[hvc]at hx
         by_cases hzz:∃ T',al.headD .n = .z/\T = .slc T'
         ·obtain⟨T',e1,rfl⟩:=hzz
          rw[e1]at hx
          obtain⟨x,left,h1,is,a1,a2,k1,k2,k3,kz,k4,k5,k6⟩:=aCt T' (.cons hleaf .nil) hl hn hx
          split at k1
          ·cases k4
           cases k2
           obtain⟨y,js,g1,g2,g3⟩:=ih al.tail t k5 k6 k1
           refine⟨(x,y),is++js,g1,?_,by rw[<- fU];exact g3⟩
           show XZ c ((false,aD2 (al.headD .n) (.slc T') x++zmk false (al.headD .n) (.slc T'))::o7 rt al.tail y) _ _
           rw[e1]
           exact .z k3 kz g2
          ·exact k1.elim
         have e0:zmk false (al.headD .n) T=[]:=by
          cases e1:al.headD .n <;> cases T <;> first|rfl|exact absurd ⟨_,e1,rfl⟩ hzz
         obtain⟨x,left,h1,is,a1,a2,k1,k2,k3,k4,k5,k6⟩:=aC7 hok' (al.headD .n) T (.cons hleaf .nil) hl hn hx
         split at k1
         ·cases k4
          rw[dU]at k2
          subst k2
          obtain⟨y,js,g1,g2,g3⟩:=ih al.tail t k5 k6 k1
          have hlen:=k3.len
          match he:aD2 (al.headD .n) T x with
          | [z] =>
            rw[he]at k3
            refine⟨(x,y),is++js,g1,?_,by rw[<- fU];exact g3⟩
            show XZ c ((false,aD2 (al.headD .n) T x++zmk false (al.headD .n) T)::o7 rt al.tail y) _ _
            rw[e0,he,dU]
            have:=XZ.s (XS.one k3 .nil) g2
            rwa [dU]at this
          | []=>rw[he]at hlen;simp at hlen
          | _::_::_=>grind
         ·exact k1.elim
    ·exact hx.elim
   ·exact hx.elim
theorem aHW (args:List Value):∀ d,start args.toArray d=args.getD d undef:=by
 intro d
 unfold start
 rw[C1,aW]
 simp
theorem aDA {R:VV->Value->Prop}(hu:∀ a,R .undef a):∀ {vs:List VV} {azz:List Value} (k:Nat),All2 R vs azz->∀ d,k<=d->R (eH (X1 (List.range' k vs.length) vs) d) (azz.getD (d-k) undef)
 | [],[],k,.nil,d,_=>hu _
 | v::vs,a::azz,k,.cons h t,d,hd=>by
   show R (if k=d then v else eH (X1 (List.range' (k+1) vs.length) vs) d) _
   by_cases e:k=d
   ·rw[aB e,show d-k=0 by omega];exact h
   ·rw[aA e,show d-k=(d-(k+1))+1 by omega,List.getD_cons_succ]
    exact aDA hu (k+1) t d (by omega)
theorem aAM {vs:List VV}{azz:List Value}(h:All2 (R2 c) vs azz):Tok c (OV vs) (start azz.toArray):=by
 intro d
 rw[aHW]
 unfold OV
 rw[List.range_eq_range']
 have:=aDA (R:=R2 c) (fun _=>trivial) 0 h d (kM _)
 rwa [Nat.sub_zero]at this
theorem aIG (F:Fz)(H:aE)(hs:Nat->Value->Prop)(hF:∀ b B,F b=some B->blk? H b=some B):Ok F H (SZ F H hs) H where
 n0:=rfl
 pre:=Pre.refl H
 fz:=hF
 low:=fun b _=>rfl
 obj:=fun i o h=>by simp[SZ]at h
 inj:=fun i j b _ h=>by cases h
 bj:=fun i j b _ _ h=>by cases h
 dom:=fun _ _=>rfl
theorem aG2 {ct:Tab}{en:Ends}{f:FuncId}{fn:Func}{cd:Code}{rt:TY}(al:List Al){args:List VV}{Q:List (Bool×List VV)->Prop}
 (hf:G.P.funcs[f]? = some fn) (hb:bod fn=some cd) (hfo:okF f fn cd=true) (hsz:args.length<=fn.ntmps) (htab:aBH G ct en cd) (hO:∀ f args Q,G.O f args Q->rX G.P f args Q) (hI:∀ J,G.I=some J->dX G.P J)
 (hv:aGq G ct en fn cd rt al args fun r=>Q (o7 rt al r)):rX G.P f args Q:=by
 intro F fl H azz hF hfl ha
 refine aKT hf hb hfo (by simp;rw[<- ha.len];exact hsz) ?_
 have hco:jA fn.ntmps cd=true:=by
  have hfo:=ZG hfo
  unfold SN at hfo
  simp only[aI]at hfo
  exact hfo.1.1
 have hr:EA F H VN ⟨OV args,[]⟩ (start azz.toArray) H:=⟨SZ F H VN,rfl,rfl,aIG F H VN hF,aAM ha⟩
 have he:aMz G H VN fl:=⟨hO,hfl,hI⟩
 unfold aGq at hv
 have key:∃ s',EA F H VN s' (start azz.toArray) H/\vwp G ct en cd 1 s' (fun e s=>match e with
  | .normal | .ret=>Z1 G s fn.results.toList fun vs=>aAk rt al vs s.h fun r=>Q (o7 rt al r)
  | _=>False):=by
  unfold HE at hv
  split at hv
  ·rename_i E hE
   obtain⟨y,h1,h2⟩:=SA hr hv
   exact⟨_,h2,(htab 1 E hE 1 cd rfl y _ h1).it⟩
  ·exact⟨_,hr,hv⟩
 obtain⟨s',hr',hv'⟩:=key
 refine aCL (n:=fn.ntmps) he htab cd 1 (aR _) ⟨1,rfl⟩ hco hr' hv' ?_
 intro e s2 ta2 H2 hr2 hk
 have fin:(Z1 G s2 fn.results.toList fun vs=>aAk rt al vs s2.h fun r=>Q (o7 rt al r))->∃ vs,iD G.P ta2 H2 fn.results.toList=some vs/\∃ sl,Q sl/\aLw F H H2 sl (F1 vs):=by
  intro hk
  obtain⟨c2,hc2,hrel⟩:=hr2
  obtain⟨vs,as2,h1,h2,h3⟩:=LY hrel hk
  obtain⟨x,is,g1,g2,g3⟩:=aEe hrel.2.1 rt al (h:=s2.h) (used:=[]) h2 (fun i q t l fr e=>⟨by simp,by rw[hrel.1];exact gL e (by intro e;cases e)⟩) List.nodup_nil h1
  exact⟨as2,h3,_,g1,.inl ⟨c2,is,as2,hrel.2.1,g2,by simpa using g3,rfl⟩⟩
 cases e with
 | normal=>exact fin hk
 | ret=>exact fin hk
 | _=>exact hk.elim
theorem aC8:∀ (a b:List (Nat×VV)) (i:Nat),eH (a++b) i=if (a.any fun p=>p.1==i)=true then eH a i else eH b i
 | [],b,i=>by simp
 | (d,v)::a,b,i=>by
   show(if d=i then v else eH (a++b) i)=_
   by_cases e:d=i
   ·rw[aB e,aB (by simp[e])]
    show v=if d=i then v else eH a i
    rw[aB e]
   ·rw[aA e,aC8 a b i]
    have h1:((d,v)::a).any (fun p=>p.1==i)=a.any fun p=>p.1==i:=by simp[e]
    rw[h1]
    show _=if _ then(if d=i then v else eH a i)else _
    rw[aA e]
theorem aBR:∀ (a:List (Nat×VV)) (i:Nat),(a.any fun p=>p.1==i)=false->eH a i = .undef
 | [],_,_=>rfl
 | (d,v)::a,i,h=>by
   simp only[List.any_cons,dP,beq_eq_false_iff_ne]at h
   show(if d=i then v else eH a i)=_
   rw[aA h.1]
   exact aBR a i h.2
theorem XK (n:Nat):∀ (a:List (Nat×VV)) (i:Nat),eH (SR n a) (i+n)=eH a i
 | [],_=>rfl
 | (d,v)::a,i=>by
   show(if d+n=i+n then v else eH (SR n a) (i+n))=if d=i then v else eH a i
   rw[XK n a i]
   by_cases e:d=i
   ·rw[aB e,aB (by omega)]
   ·rw[aA e,aA (by omega)]
theorem OS (n:Nat):∀ (a:List (Nat×VV)) (i:Nat),i<n->eH (SR n a) i = .undef
 | [],_,_=>rfl
 | (d,v)::a,i,h=>by
   show(if d+n=i then v else eH (SR n a) i)=_
   rw[aA (by omega)]
   exact OS n a i h
theorem HM (n:Nat):∀ (a:List (Nat×VV)) (i:Nat),eH (vU n a) i=eH a (i+n)
 | [],_=>rfl
 | (d,v)::a,i=>by
   unfold vU
   by_cases h:n<=d
   ·rw[aB h]
    show(if d-n=i then v else eH (vU n a) i)=if d=i+n then v else eH a (i+n)
    rw[HM n a i]
    by_cases e:d=i+n
    ·rw[aB e,aB (by omega)]
    ·rw[aA e,aA (by omega)]
   ·rw[aA h,HM n a i]
    show _=if d=i+n then v else eH a (i+n)
    rw[aA (by omega)]
theorem aFv (args:List VV):∀ i,((OV args).any fun p=>p.1==i)=true->i<args.length:=by
 intro i h
 rw[GL]at h
 obtain⟨p,hp,hi⟩:=h
 have:∀ (ks:List Nat) (vs:List VV) (p:Nat×VV),p∈X1 ks vs->p.1∈ks:=by
  intro ks
  induction ks with
  | nil=>intro vs p hp;cases vs <;> simp[X1]at hp
  | cons k ks ih =>
    intro vs p hp
    cases vs with
    | nil=>simp[X1]at hp
    | cons v vs =>
      simp only[X1,SI]at hp
      grind
 have h2:=this _ _ _ hp
 grind
theorem aMi {v:VV}{a:Value}(hv:r1B v=true)(h:R2 c v a):R1 c v a:=by
 cases v <;> first|exact h|cases hv
theorem aHy:∀ {vs:List VV} {azz:List Value},vs.all r1B=true->All2 (R2 c) vs azz->All2 (R1 c) vs azz
 | [],_,_,.nil => .nil
 | _::_,_,hv,.cons h t=>by
   simp only[List.all_cons,aI]at hv
   exact .cons (aMi hv.1 h) (aHy hv.2 t)
theorem TC {P:Program}{t t2:aJ}{m:Nat}:∀ {rs:List ResultVar},(rs.all fun | .tmp d=>d<m | .cell d _=>d<m)=true->Agree m t t2->iD P t H rs=iD P t2 H rs
 | [],_,_=>rfl
 | r::rs,h,ha=>by
   simp only[List.all_cons,aI]at h
   simp only[iD]
   rw[TC h.2 ha]
   cases r with
   | tmp d=>simp only[xH];rw[ha d (of_decide_eq_true h.1)]
   | cell d ty=>simp only[xH];rw[ha d (of_decide_eq_true h.1)]
theorem aMq {G1:Cfg}{ct:Tab}{en:Ends}{F:FuncId}{fn:Func}{cd:Code}
 (hf:G1.P.funcs[F]? = some fn) (hb:bod fn=some cd) (hfo:okF F fn cd=true) (htab:aBH G1 ct en cd) (hO:∀ f args Q,G1.O f args Q->rX G1.P f args Q) (hI:∀ J,G1.I=some J->dX G1.P J) :
 dX G1.P ⟨fun g=>g==F,fun _ args s k=>aDf G1 ct en fn cd args s k⟩:=by
 intro g args s k hB hr F0 H0 c H fl ta az hrel hfl ha
 have hg:g=F:=by simpa using hB
 subst hg
 have hr:aDf G1 ct en fn cd args s k:=hr
 unfold aDf at hr
 split at hr
 case isFalse=>exact hr.elim
 rename_i hlen
 refine aKT hf hb hfo (by simp;rw[<- ha.len];exact hlen) ?_
 have hco:jA fn.ntmps cd=true:=by
  have hfo:=ZG hfo
  unfold SN at hfo
  simp only[aI]at hfo
  exact hfo.1.1
 have hres:(fn.results.toList.all fun | .tmp d=>d<fn.ntmps | .cell d _=>d<fn.ntmps)=true:=by
  have hfo:=ZG hfo
  unfold SN at hfo
  simp only[aI]at hfo
  exact hfo.2
 generalize hn:fn.ntmps=n at *
 let t2:aJ:=fun i=>if i<n then start az.toArray i else ta (i-n)
 have htok:Tok c (OV args++SR n s.t) t2:=by
  intro i
  rw[aC8]
  by_cases hi:i<n
  ·have e2:t2 i=start az.toArray i:=aB hi
   rw[e2]
   have h1:=aAM ha i
   split
   ·exact h1
   ·rename_i hk
    rw[OS n s.t i hi]
    rw[aBR _ _ (Bool.eq_false_iff.2 hk)]at h1
    exact h1
  ·have e2:t2 i=ta (i-n):=aA hi
   rw[e2]
   split
   ·rename_i hk
    have:=aFv args i hk
    omega
   ·have:=XK n s.t (i-n)
    rw[show i-n+n=i by omega]at this
    rw[this]
    exact hrel.2.2 (i-n)
 have hr0:EA F0 H0 c.hs ⟨OV args++SR n s.t,s.h⟩ t2 H:=⟨c,rfl,hrel.1,hrel.2.1,htok⟩
 have he:aMz G1 H0 c.hs fl:=⟨hO,hfl,hI⟩
 have key:∃ s',EA F0 H0 c.hs s' t2 H/\vwp G1 ct en cd 1 s' (fun e s2=>match e with
  | .normal | .ret=>Z1 G1 s2 fn.results.toList fun vs=>if vs.all r1B=true then k (aBJ vs) ⟨vU n s2.t,s2.h⟩else False
  | _=>False):=by
  unfold HE at hr
  split at hr
  ·rename_i E hE
   obtain⟨y,h1,h2⟩:=SA hr0 hr
   exact⟨_,h2,(htab 1 E hE 1 cd rfl y _ h1).it⟩
  ·exact⟨_,hr0,hr⟩
 obtain⟨s',hr',hv'⟩:=key
 have hW:W G1.P fl cd t2 H fun e ta' H'=>∃ s2,EA F0 H0 c.hs s2 ta' H'/\(match e with
  | .normal | .ret=>Z1 G1 s2 fn.results.toList fun vs=>if vs.all r1B=true then k (aBJ vs) ⟨vU n s2.t,s2.h⟩else False
  | _=>False):=aCL (n:=n) he htab cd 1 (aR _) ⟨1,rfl⟩ hco hr' hv' fun e s2 ta' H' h1 h2=>⟨s2,h1,h2⟩
 have hF:=aLk (t:=start az.toArray) hco (fun i hi=>(aB hi).symm) hW
 obtain⟨N,e,t',H',h1,t2',h2,h3,s2,⟨c2,q1,q2⟩,h5⟩:=hF
 refine⟨N,e,t',H',h1,?_⟩
 have fin:(Z1 G1 s2 fn.results.toList fun vs=>if vs.all r1B=true then k (aBJ vs) ⟨vU n s2.t,s2.h⟩else False)->∃ vs,iD G1.P t' H' fn.results.toList=some vs/\∃ vv s2 c2,c2.hs=c.hs/\Rel F0 H0 c2 s2 ta H'/\R2 c2 vv (F1 vs)/\k vv s2:=by
  intro hk
  obtain⟨vs,as2,g1,g2,g3⟩:=LY q2 hk
  split at g1
  case isFalse=>exact g1.elim
  rename_i hvs
  refine⟨as2,(TC hres h2).trans g3,aBJ vs,⟨vU n s2.t,s2.h⟩,c2,q1,⟨q2.1,q2.2.1,fun i => ?_⟩,U4 (aHy hvs g2),g1⟩
  have h6:=q2.2.2 (i+n)
  rw[h3 (i+n) (by omega)]at h6
  have e2:t2 (i+n)=ta i:=by
   grind
  have h6:R2 c2 (eH s2.t (i+n)) (t2 (i+n)):=h6
  rw[e2]at h6
  rw[HM]
  exact h6
 cases e with
 | normal=>exact fin h5
 | ret=>exact fin h5
 | _=>exact h5.elim
def ZZ (J K:Inl):Inl:=⟨fun g=>J.B g||K.B g,fun g a s k=>match J.B g with
 | true=>J.run g a s k
 | false=>K.run g a s k⟩
theorem aIF {P:Program}{J K:Inl}(hJ:dX P J)(hK:dX P K):dX P (ZZ J K):=fun g args s k hB hr=>by
 have hB:(J.B g||K.B g)=true:=hB
 have hr:(match J.B g with
  | true=>J.run g args s k
  | false=>K.run g args s k):=hr
 cases h:J.B g with
 | true=>rw[h]at hr;exact hJ g args s k h hr
 | false =>
   rw[h]at hr hB
   exact hK g args s k (by simpa using hB) hr
theorem aIf {ct:Tab}{en:Ends}{f:FuncId}{fn:Func}{cd:Code}{rt:TY}(al:List Al){args:List VV}{Q:List (Bool×List VV)->Prop}{R:Prop}
 (hf:G.P.funcs[f]? = some fn) (hb:bod fn=some cd) (hfo:okF f fn cd=true) (hsz:args.length<=fn.ntmps) (htab:aBH G ct en cd) (hO:∀ f args Q,G.O f args Q->rX G.P f args Q) (hI:∀ J,G.I=some J->dX G.P J)
 (h:R) (e:(aGq G ct en fn cd rt al args fun r=>Q (o7 rt al r))=R):rX G.P f args Q :=
 aG2 al hf hb hfo hsz htab hO hI (e.symm▸h)
theorem aKJ {ct:Tab}{en:Ends}{cd:Code}{m:Nat}{s:VS}{k:f9->VS->Prop}{R:Prop}(h:R)(e:vwp G ct en cd m s k=R):Tl (vwp G ct en cd m s k):=⟨e.symm▸h⟩
theorem Loop.map {S S':Type}{σ:S->S'}{B:S->(S->Prop)->Prop}{B':S'->(S'->Prop)->Prop}(h:∀ s X,B s (fun s=>X (σ s))->B' (σ s) X){s:S}(hl:Loop B s):Loop B' (σ s) :=
 fun X hX=>hl (fun s=>X (σ s)) fun s hs=>hX _ (h s X hs)
theorem Loop.inv {S:Type}{B:S->(S->Prop)->Prop}(I:Nat->S->Prop){n:Nat}{s:S}(h0:I n s)(step:∀ n s X,I n s->(∀ m s',m<n->I m s'->X s')->B s X):Loop B s:=by
 intro X hX
 have:∀ n s,I n s->X s:=by
  intro n
  induction n using Nat.strongRecOn with
  | _ n ih=>grind
 exact this n s h0
theorem aKb {S:Type}{ct:Tab}{en:Ends}{m:Nat}{s:VS}{k:f9->VS->Prop}{cd b:Code}(hu:G.un=0)(hc:cd = .loop b)(σ:S->VS)(y0:S){B:S->(S->Prop)->Prop}(hs:GH en m s=σ y0)
 (hB:∀ y X,LB k en m (HE ct (2*m) (vwp G ct en b (2*m))) (σ y) X=B y fun y=>X (σ y)) (h:Loop B y0):Tl (vwp G ct en cd m s k):=by
 subst hc
 refine⟨?_⟩
 simp only[vwp,hu]
 rw[hs]
 exact Loop.map (fun y X hb=>by rw[hB];exact hb) h
theorem xJ {S:Type}{ct:Tab}{en:Ends}{f m:Nat}{s:VS}{k:f9->VS->Prop}{root c:Code}(hu:G.un=0)(hs:pK f root m=some c)(hc:pK 70 root m=some (.loop ((pK 70 root (2*m)).getD .skip)))(σ:S->VS)(y0:S){B:S->(S->Prop)->Prop}(h1:GH en m s=σ y0)
 (h2:∀ y X,LB k en m (HE ct (2*m) (vwp G ct en ((pK 70 root (2*m)).getD .skip) (2*m))) (σ y) X=B y fun y=>X (σ y)) (h:Loop B y0):Tl (vwp G ct en c m s k) :=
 aKb hu (aFW hs hc) σ y0 h1 h2 h
theorem aCZ {ct:Tab}{en:Ends}{f m:Nat}{s:VS}{k:f9->VS->Prop}{root c:Code}(hs:pK f root m=some c){R:Prop}(hc:pK 70 root m=some ((pK 70 root m).getD .skip))(e:vwp G ct en ((pK 70 root m).getD .skip) m s k=R)(h:R):Tl (vwp G ct en c m s k):=by
 have:=aFW hs hc
 subst this
 exact aKJ h e
theorem aGi {c:Ctx}{x:Lf}{v:VV}{a:Value}{K:x.den->Prop}(hr:R2 c v a)(h:TD x v K):∃ d,K d/\R2 c (XQ x d) a:=by
 unfold TD at h
 split at h
 ·split at h
  ·obtain⟨e,h⟩:=Ty.at_inv h
   subst e
   exact⟨_,h,hr⟩
  ·obtain⟨rfl,_⟩:=fJ hr
   exact⟨[],h,none,_,rfl,⟨kM _,.inl rfl⟩⟩
  ·exact h.elim
 ·obtain⟨d,rfl,h1⟩:=IA h
  exact⟨d,h1,hr⟩
theorem XL {c:Ctx}{x:Lf}{v:VV}{a:Value}{K:x.den->Prop}(hr:RL c v a)(h:TD x v K):∃ d,K d/\RL c (XQ x d) a:=by
 unfold TD at h
 split at h
 ·split at h
  ·obtain⟨e,h⟩:=Ty.at_inv h
   subst e
   exact⟨_,h,hr⟩
  ·obtain⟨rfl,_⟩:=hr
   exact⟨[],h,none,_,rfl,⟨kM _,.inl rfl⟩⟩
  ·exact h.elim
 ·obtain⟨d,rfl,h1⟩:=IA h
  exact⟨d,h1,hr⟩
theorem EI {c:Ctx}:∀ {l:List Lf} {vs:List VV} {azz:List Value} {K:aBY l->Prop},All2 (RL c) vs azz->aFS l vs K->∃ d,K d/\All2 (RL c) (XU l d) azz
 | [],vs,azz,K,hr,h=>by
   unfold aFS at h
   split at h
   ·exact⟨(),h,hr⟩
   ·exact h.elim
 | x::l,vs,azz,K,hr,h=>by
   unfold aFS at h
   split at h
   ·cases hr with
    | cons hr t =>
      obtain⟨a,h1,h2⟩:=XL hr h
      obtain⟨b,h3,h4⟩:=EI t h1
      exact⟨(a,b),h3,.cons h2 h4⟩
   ·exact h.elim
theorem aFj {c:Ctx}{x:Lf}{v:VV}{a:Value}{K:x.den->Prop}(hr:R1 c v a)(h:TD x v K):∃ d,K d/\R1 c (XQ x d) a:=by
 have:∃ d,K d/\RL c (XQ x d) a:=by
  refine XL ?_ h
  cases v <;> first|exact hr|skip
  ·exfalso
   cases x <;> simp[TD,unF,aC0,aAi]at h
   rename_i o t;cases o <;> simp[TD,unF]at h
  ·exfalso
   cases x <;> simp[TD,unF,aC0,aAi]at h
   rename_i o t;cases o <;> simp[TD,unF]at h
  ·exfalso
   cases x <;> simp[TD,unF,aC0,aAi]at h
   rename_i o t;cases o <;> simp[TD,unF]at h
 obtain⟨d,k1,k2⟩:=this
 exact⟨d,k1,aFy k2⟩
theorem aFk {c:Ctx}{x:Cp}{v:VV}{a:Value}{K:x.den->Prop}(hr:R1 c v a)(h:aK7 x v K):∃ d,K d/\R1 c (aGy x d) a:=by
 unfold aK7 at h
 split at h
 ·exact aFj hr h
 ·split at h
  ·obtain⟨azz,h1,h2⟩:=hr
   obtain⟨d,k1,k2⟩:=EI h2 h
   exact⟨d,k1,azz,h1,k2⟩
  ·exact h.elim
 ·split at h
  ·obtain⟨b,B,h1,h2,h3⟩:=hr
   obtain⟨d,k1,k2⟩:=EI h3 h
   exact⟨d,k1,b,B,h1,h2,k2⟩
  ·exact h.elim
theorem Z7 {c:Ctx}:∀ {l:List Cp} {vs:List VV} {azz:List Value} {K:aGY l->Prop},All2 (R1 c) vs azz->aJh l vs K->∃ d,K d/\All2 (R1 c) (aHj l d) azz
 | [],vs,azz,K,hr,h=>by
   unfold aJh at h
   split at h
   ·exact⟨(),h,hr⟩
   ·exact h.elim
 | x::l,vs,azz,K,hr,h=>by
   unfold aJh at h
   split at h
   ·cases hr with
    | cons hr t =>
      obtain⟨a,h1,h2⟩:=aFk hr h
      obtain⟨b,h3,h4⟩:=Z7 t h1
      exact⟨(a,b),h3,.cons h2 h4⟩
   ·exact h.elim
theorem aFG {c:Ctx}{x:Sh}{v:VV}{a:Value}{K:x.den->Prop}(hr:R2 c v a)(h:aJ6 x v K):∃ d,K d/\R2 c (aHI x d) a:=by
 unfold aJ6 at h
 split at h
 ·exact aGi hr h
 ·split at h
  ·obtain⟨azz,rfl,h2⟩:=aB6 hr
   obtain⟨d,k1,k2⟩:=EI h2 h
   exact⟨d,k1,azz,rfl,k2⟩
  ·exact h.elim
 ·split at h
  ·obtain⟨b,B,rfl,h2,h3⟩:=aHu hr
   obtain⟨d,k1,k2⟩:=EI h3 h
   exact⟨d,k1,b,B,rfl,h2,k2⟩
  ·exact h.elim
 ·split at h
  ·split at h
   ·rename_i e
    subst e
    obtain⟨azz,e1,h2⟩:=hr
    obtain⟨d,k1,k2⟩:=Z7 h2 h
    exact⟨d,k1,azz,e1,k2⟩
   ·exact h.elim
  ·exact h.elim
theorem aCd {c:Ctx}:∀ {l:List Sh} {vs:List VV} {azz:List Value} {K:CV l->Prop},All2 (R2 c) vs azz->unA l vs K->∃ d,K d/\All2 (R2 c) (CY l d) azz
 | [],vs,azz,K,hr,h=>by
   unfold unA at h
   split at h
   ·exact⟨(),h,hr⟩
   ·exact h.elim
 | x::l,vs,azz,K,hr,h=>by
   unfold unA at h
   split at h
   ·cases hr with
    | cons hr t =>
      obtain⟨a,h1,h2⟩:=aFG hr h
      obtain⟨b,h3,h4⟩:=aCd t h1
      exact⟨(a,b),h3,.cons h2 h4⟩
   ·exact h.elim
theorem aEh {P:Program}{O:FuncId->List VV->(List (Bool×List VV)->Prop)->Prop}(hO:∀ f args Q,O f args Q->rX P f args Q){f0:FuncId}(sh:List Sh)(D:CV sh->(List (Bool×List VV)->Prop)->Prop)(hD:∀ x Q,D x Q->rX P f0 (CY sh x) Q) :
 ∀ f args Q,(if f=f0 then unA sh args (fun x=>D x Q)else O f args Q)->rX P f args Q:=by
 intro f args Q h
 by_cases e:f=f0
 ·rw[aB e]at h
  subst e
  intro F fl H azz hF hfl ha
  obtain⟨d,h1,h2⟩:=aCd ha h
  exact hD d Q h1 F fl H azz hF hfl h2
 ·rw[aA e]at h
  exact hO f args Q h
theorem aIm {P:Program}{O:FuncId->List VV->(List (Bool×List VV)->Prop)->Prop}(hO:∀ f args Q,O f args Q->rX P f args Q){f0:FuncId}(gs:List Nat)(sh:List Sh)(D:CV sh->(List (Bool×List VV)->Prop)->Prop)(hD:∀ x Q,D x Q->rX P f0 (CY sh x) Q) :
 ∀ f args Q,(if f=f0 then(if aLr (aFg args) gs=true then unA sh args (fun x=>D x Q)else O f args Q)else O f args Q)->rX P f args Q:=by
 intro f args Q h
 by_cases e:f=f0
 ·rw[aB e]at h
  by_cases e2:aLr (aFg args) gs=true
  ·rw[aB e2]at h
   exact aEh hO sh D hD f args Q (by rw[aB e];exact h)
  ·rw[aA e2]at h
   exact hO f args Q h
 ·rw[aA e]at h
  exact hO f args Q h
structure Tb (P:Program) where
 O:FuncId->List VV->QT->Prop
 ok:∀ f args Q,O f args Q->rX P f args Q
def Tb.none {P:Program}:Tb P:=⟨fun _ _ _=>False,fun _ _ _ h=>h.elim⟩
def Tb.add {P:Program}(t:Tb P)(f0:FuncId)(sh:List Sh){D:CV sh->QT->Prop}(hD:∀ x Q,D x Q->rX P f0 (CY sh x) Q):Tb P :=
 ⟨fun f args Q=>if f=f0 then unA sh args (fun x=>D x Q)else t.O f args Q,aEh t.ok sh D hD⟩
def Tb.addF {P:Program}(t:Tb P)(f0:FuncId)(gs:List Nat)(sh:List Sh){D:CV sh->QT->Prop}(hD:∀ x Q,D x Q->rX P f0 (CY sh x) Q):Tb P :=
 ⟨fun f args Q=>if f=f0 then(if aLr (aFg args) gs=true then unA sh args (fun x=>D x Q)else t.O f args Q)else t.O f args Q,aIm t.ok gs sh D hD⟩
@[reducible] def Tb.cfg {P:Program} (t:Tb P) (tt:TypeId->Option Ty) (I:Option Inl) (hv:Bool) (un:Nat):Cfg:=⟨P,tt,t.O,fun _ _ _=>False,I,hv,un⟩
theorem Tb.told {P:Program}(t:Tb P){tt:TypeId->Option Ty}{I:Option Inl}{hv:Bool}{un:Nat}{ct:Tab}{en:Ends}{f:FuncId}{fn:Func}{cd:Code}{rt:TY}(al:List Al){args:List VV}{Q:QT}{R:Prop}(hI:∀ J,I=some J->dX P J)(htab:aBH (t.cfg tt I hv un) ct en cd)
 (hf:P.funcs[f]? = some fn) (hb:bod fn=some cd) (hfo:okF f fn cd=true) (hsz:args.length<=fn.ntmps) (h:R) (e:(aGq (t.cfg tt I hv un) ct en fn cd rt al args fun r=>Q (o7 rt al r))=R):rX P f args Q :=
 aIf (G:=t.cfg tt I hv un) al hf hb hfo hsz htab t.ok hI h e
theorem hI0 {P:Program}:∀ J,(Option.none:Option Inl)=some J->dX P J:=fun J h=>by cases h
theorem hI1 {P:Program}{K:Inl}(h:dX P K):∀ J,some K=some J->dX P J:=fun J e=>by cases e;exact h
abbrev bd (fn:Func):Code:=(bod fn).getD .skip
def lk:List (Nat×Ent)->Tab
 | []=>fun _ => .none
 | p::l=>fun n=>if n=p.1 then some p.2 else lk l n
def EOk (G:Cfg)(ct:Tab)(en:Ends)(root:Code)(p:Nat×Ent):Prop :=
 ∀ f c,pK f root p.1=some c->∀ x k,p.2.P x k->Tl (vwp G ct en c p.1 (aET p.2.live p.2.sh p.2.ob x) k)
def aGp (G:Cfg)(ct:Tab)(en:Ends)(root:Code):List (Nat×Ent)->Prop
 | []=>True
 | p::l=>EOk G ct en root p/\aGp G ct en root l
theorem aMD {G:Cfg}{ct:Tab}{en:Ends}{root:Code}:∀ {l:List (Nat×Ent)},aGp G ct en root l->∀ n E,lk l n=some E->EOk G ct en root (n,E)
 | [],_,n,E,e=>by cases e
 | p::l,⟨h1,h2⟩,n,E,e=>by
   unfold lk at e
   split at e
   ·rename_i hn;subst hn;cases e;exact h1
   ·exact aMD h2 n E e
theorem aON {G:Cfg}{en:Ends}{root:Code}{l:List (Nat×Ent)}(h:aGp G (lk l) en root l):aBH G (lk l) en root :=
 fun n E e f c hs x k hp=>aMD h n E e f c hs x k hp
theorem aH {G:Cfg}{S:Type}{ct:Tab}{en:Ends}{f m:Nat}{k:f9->VS->Prop}{root c:Code}{live:List Nat}{sh:List Sh}{ob:List OSh}{x:CV sh×aBc ob}(hs:pK f root m=some c)(u:S->CV sh×aBc ob)(y0:S){B:S->(S->Prop)->Prop}(h:Loop B y0)
 (hc:pK 70 root m=some (.loop ((pK 70 root (2*m)).getD .skip)):=by kernel_rfl) (h1:GH en m (aET live sh ob x)=aET live sh ob (u y0):=by kernel_rfl)
 (h2:∀ y X,LB k en m (HE ct (2*m) (vwp G ct en ((pK 70 root (2*m)).getD .skip) (2*m))) (aET live sh ob (u y)) X=B y fun y=>X (aET live sh ob (u y)):=by intros;kernel_rfl) (hu:G.un=0:=by rfl):Tl (vwp G ct en c m (aET live sh ob x) k) :=
 xJ hu hs hc (fun y=>aET live sh ob (u y)) y0 h1 h2 h
theorem fD {G:Cfg}{S:Type}{ct:Tab}{en:Ends}{f m:Nat}{k:f9->VS->Prop}{root c:Code}{s:VS}(hs:pK f root m=some c)(σ:S->VS)(y0:S){B:S->(S->Prop)->Prop}(h:Loop B y0)
 (hc:pK 70 root m=some (.loop ((pK 70 root (2*m)).getD .skip)):=by kernel_rfl) (h1:GH en m s=σ y0:=by kernel_rfl)
 (h2:∀ y X,LB k en m (HE ct (2*m) (vwp G ct en ((pK 70 root (2*m)).getD .skip) (2*m))) (σ y) X=B y fun y=>X (σ y):=by intros;kernel_rfl) (hu:G.un=0:=by rfl):Tl (vwp G ct en c m s k) :=
 xJ hu hs hc σ y0 h1 h2 h
theorem aN {G:Cfg}{ct:Tab}{en:Ends}{f m:Nat}{s:VS}{k:f9->VS->Prop}{root c:Code}(hs:pK f root m=some c){R:Prop}(h:R)(hc:pK 70 root m=some ((pK 70 root m).getD .skip):=by kernel_rfl)(e:vwp G ct en ((pK 70 root m).getD .skip) m s k=R:=by kernel_rfl):Tl (vwp G ct en c m s k) :=
 aCZ hs hc e h
@[reducible] def RD:TY->Type
  | []=>Unit
  | [p]=>p.2.den
  | p::q::l=>p.2.den×RD (q::l)
def RD.up:(rt:TY)->RD rt->aHJ rt
 | [],_=>()
 | [_],r=>(r,())
 | _::q::l,r=>(r.1,RD.up (q::l) r.2)
theorem aCM:∀ (sh:List Sh) (x:CV sh),(CY sh x).length=sh.length
 | [],_=>rfl
 | _::l,x=>congrArg (· + 1) (aCM l x.2)
theorem aGu {P:Program}(t:Tb P){tt:TypeId->Option Ty}{I:Option Inl}{hv:Bool}{un:Nat}{f:FuncId}{fn:Func}(hf:P.funcs[f]? = some fn){res:List Nat}{cos:List (Nat×List Co)}{l:List (Nat×Ent)}{sh:List Sh}{al:List Al}{rt:TY}{D:CV sh->(RD rt->Prop)->Prop}
 (hI:∀ J,I=some J->dX P J) (htab:aGp (t.cfg tt I hv un) (lk l) (aD4 (bd fn) res cos) (bd fn) l)
 (h:∀ x (Q:QT),D x (fun r=>Q (o7 rt al (RD.up rt r)))->∃ R:Prop,R/\(aGq (t.cfg tt I hv un) (lk l) (aD4 (bd fn) res cos) fn (bd fn) rt al (CY sh x) fun r=>Q (o7 rt al r))=R)
 (hb:bod fn=some (bd fn)) (ho:okF f fn (bd fn)=true) (hs:Nat.ble sh.length fn.ntmps=true) (x:CV sh) (Q:QT) (hx:D x fun r=>Q (o7 rt al (RD.up rt r))):rX P f (CY sh x) Q:=by
 obtain⟨R,h1,e⟩:=h x Q hx
 exact t.told al hI (aON htab) hf hb ho (by rw[aCM];exact Nat.le_of_ble_eq_true hs) h1 e
def Tb.put {P:Program}(t:Tb P)(tt:TypeId->Option Ty)(f:FuncId){fn:Func}(hf:P.funcs[f]? = some fn)(res:List Nat)(cos:List (Nat×List Co))(l:List (Nat×Ent))(sh:List Sh)(al:List Al)(rt:TY)(D:CV sh->(RD rt->Prop)->Prop)
    (htab:aGp (t.cfg tt .none false 0) (lk l) (aD4 (bd fn) res cos) (bd fn) l)
    (h:∀ x (Q:QT),D x (fun r=>Q (o7 rt al (RD.up rt r)))->∃ R:Prop,R/\(aGq (t.cfg tt .none false 0) (lk l) (aD4 (bd fn) res cos) fn (bd fn) rt al (CY sh x) fun r=>Q (o7 rt al r))=R)
    (hb:bod fn=some (bd fn):=by kernel_rfl) (ho:okF f fn (bd fn)=true:=by kernel_rfl) (hs:Nat.ble sh.length fn.ntmps=true:=by kernel_rfl):Tb P :=
 t.add f sh (aGu t hf hI0 htab h hb ho hs)
def Tb.putX {P:Program}(t:Tb P)(tt:TypeId->Option Ty)(f:FuncId){fn:Func}(hf:P.funcs[f]? = some fn)(res:List Nat)(cos:List (Nat×List Co))(l:List (Nat×Ent))(sh:List Sh)(al:List Al)(rt:TY)(D:CV sh->(RD rt->Prop)->Prop)(gs:List Nat)(I:Option Inl)(hv:Bool)(un:Nat)
    (hI:∀ J,I=some J->dX P J) (htab:aGp (t.cfg tt I hv un) (lk l) (aD4 (bd fn) res cos) (bd fn) l)
    (h:∀ x (Q:QT),D x (fun r=>Q (o7 rt al (RD.up rt r)))->∃ R:Prop,R/\(aGq (t.cfg tt I hv un) (lk l) (aD4 (bd fn) res cos) fn (bd fn) rt al (CY sh x) fun r=>Q (o7 rt al r))=R)
    (hb:bod fn=some (bd fn):=by kernel_rfl) (ho:okF f fn (bd fn)=true:=by kernel_rfl) (hs:Nat.ble sh.length fn.ntmps=true:=by kernel_rfl):Tb P :=
 t.addF f gs sh (aGu t hf hI htab h hb ho hs)
def aCH (G:Cfg)(f:FuncId)(fn:Func)(l:List (Nat×Ent))(res:List Nat)(cos:List (Nat×List Co)):Inl:=⟨fun g=>g==f,fun _ args s k=>aDf G (lk l) (aD4 (bd fn) res cos) fn (bd fn) args s k⟩
theorem C9 {G:Cfg}{f:FuncId}{fn:Func}{l:List (Nat×Ent)}{res:List Nat}{cos:List (Nat×List Co)}(hf:G.P.funcs[f]? = some fn)(hO:∀ f args Q,G.O f args Q->rX G.P f args Q)(hI:∀ J,G.I=some J->dX G.P J)
 (htab:aGp G (lk l) (aD4 (bd fn) res cos) (bd fn) l) (hb:bod fn=some (bd fn):=by kernel_rfl) (ho:okF f fn (bd fn)=true:=by kernel_rfl):dX G.P (aCH G f fn l res cos) :=
 aMq hf hb ho (aON htab) hO hI
end
end Go.Mach
