/- Part of the proof. No condition. -/
import Derived.Test.YtcfpfefadlnmcaaGreatYVHav
import Derived.Test.YtcfpfefadlnmcaaGreatYFrame
import Derived.KernelRfl
namespace Go.Mach
set_option linter.unusedVariables false
set_option linter.unusedSimpArgs false
section
variable {G:Cfg} {F0:Fz} {H0:aE} {c c':Ctx} {H H':aE} {s:VS} {ta:aM} {n fl:Nat} {ops:Array Oper}
def RB (c:Ctx)(b:Nat):Option Nat->Prop
 | some i=>c.ρ i=some b
 | none=>∃ B,c.F b=some B
theorem aMt {v:VV}{a:Value}(h:RL c v a){locs:List (Option Nat)}(hl:US v=some locs):∀ b∈fC a,∃ x∈locs,RB c b x:=by
 cases v with
 | pl v =>
   obtain⟨rfl,hp⟩:=h
   intro b hb
   cases a <;> simp only[fC]at hb <;> try (cases hb;done)
   case pointer x=>cases x with
    | none=>cases hb
    | some _=>cases hp
   case slice x _ _=>cases x with
    | none=>cases hb
    | some _=>cases hp
 | own i =>
   cases hl
   intro b hb
   simp only[RL]at h
   cases hi:c.h[i]? with
   | none=>rw[hi]at h;exact h.elim
   | some o =>
     rw[hi]at h
     refine⟨some i,by simp,?_⟩
     cases o with
     | box _ _=>exact h.elim
     | lst _ _ _ _ =>
       simp only at h
       subst h
       cases hρ:c.ρ i with
       | none=>rw[hρ]at hb;cases hb
       | some b'=>rw[hρ]at hb;simp[sl,fC]at hb;subst hb;exact hρ
     | dead _ =>
       obtain⟨_,_,rfl⟩:=h
       cases hρ:c.ρ i with
       | none=>rw[hρ]at hb;cases hb
       | some b'=>rw[hρ]at hb;simp[fC]at hb;subst hb;exact hρ
 | ptr i off =>
   cases hl
   intro b hb
   obtain⟨b',cs,fr,h1,h2,rfl⟩:=h
   simp[fC]at hb
   subst hb
   exact⟨some i,by simp,h2⟩
 | mptr i off =>
   cases hl
   intro b hb
   rcases h with rfl|⟨b',h1,h2,rfl⟩
   ·cases hb
   ·simp[fC]at hb
    subst hb
    exact⟨some i,by simp,h1⟩
 | eptr i ix off =>
   cases hl
   intro b hb
   obtain⟨b',h1,h2⟩:=h
   have:b=b':=by
    split at h2
    ·obtain⟨_,rfl⟩:=h2;simpa [fC] using hb
    ·obtain⟨_,rfl⟩:=h2;simpa [fC] using hb
    ·exact h2.elim
   subst this
   exact⟨some i,by simp,h1⟩
 | fptr o t l ix off =>
   cases hl
   intro b hb
   obtain⟨b',q,B,x,cs,rfl,h2,_⟩:=h
   simp[fC]at hb
   subst hb
   exact⟨none,by simp,B,GS _ _ h2⟩
 | hof i=>cases hl
 | er b=>cases hl
 | bs l=>exact h.elim
 | undef=>cases hl
 | fz o t l=>cases hl
 | agg l=>exact h.elim
 | tup l=>exact h.elim
 | bx l off=>exact h.elim
 | fn f l=>exact h.elim
 | nw t l=>exact h.elim
theorem VU {v:VV}{a:Value}(h:R2 c v a){locs:List (Option Nat)}(hl:US v=some locs):∀ b∈fC a,∃ x∈locs,RB c b x:=by
 cases v
 case tup l=>obtain⟨azz,rfl,_⟩:=h;intro b hb;cases hb
 case fn f l=>obtain⟨azz,rfl,_⟩:=h;intro b hb;cases hb
 case agg l=>obtain⟨azz,rfl,_⟩:=h;intro b hb;cases hb
 case bx l off =>
  obtain⟨b',B,rfl,h2,_⟩:=h
  cases hl
  intro b hb
  simp[fC]at hb
  subst hb
  exact⟨none,by simp,B,h2⟩
 case bs l=>cases hl
 all_goals exact aMt (aEI (fun _ e=>by cases e) (fun _ _ e=>by cases e) (fun _ e=>by cases e) (aE9 (fun _ e=>by cases e) (fun _ _ e=>by cases e) h)) hl
theorem W8:∀ {vs:List VV} {azz:List Value},All2 (R2 c) vs azz->∀ {locs:List (Option Nat)},Y5 vs=some locs->∀ b∈azz.flatMap fC,∃ x∈locs,RB c b x
 | _,_,.nil,locs,h,b,hb=>by cases hb
 | v::vs,a::azz,.cons h t,locs,hl,b,hb=>by
   unfold Y5 at hl
   split at hl
   ·rename_i x y h1 h2
    cases hl
    rw[OM,SH]at hb
    rcases hb with hb|hb
    ·obtain⟨z,h3,h4⟩:=VU h h1 b hb;exact⟨z,CW _ h3,h4⟩
    ·obtain⟨z,h3,h4⟩:=W8 t h2 b hb;exact⟨z,sW _ h3,h4⟩
   ·cases hl
theorem aB7 {op:Op}(ht:Tok c s.t ta)(hx:∀ x∈op.operands.toList,aS n x=true){locs:List (Option Nat)}(hl:aLE op s.t=some locs):∀ b∈pO op (eval ta),∃ x∈locs,RB c b x:=by
 cases op
 case load ty a=>exact VU (eO ht (hx a (by simp[Op.operands]))) hl
 case store ty a y=>exact VU (eO ht (hx a (by simp[Op.operands]))) hl
 case convert p d x=>exact VU (eO ht (hx x (by simp[Op.operands]))) hl
 case call cl =>
  have hargs:=wT ht (l:=cl.args.toList) (fun x h=>hx x (by simp only[Op.operands,Call.operands,TQ];exact sW _ h))
  have e2:(cl.args.map (eval ta)).toList=cl.args.toList.map (eval ta):=by simp
  simp only[aLE,pO]at hl⊢
  cases hc:cl.callee with
  | builtin bt =>
    rw[hc]at hl
    cases bt <;> first
     | (simp only[e2];exact W8 hargs hl)
     | (intro b hb;cases hb)
  | value f=>intro b hb;cases hb
  | invoke f m=>intro b hb;cases hb
 all_goals (intro b hb;cases hb)
theorem aCm {op:Op}(ht:Tok c s.t ta)(hx:∀ x∈op.operands.toList,aS n x=true){locs:List (Option Nat)}(hl:wrV op s.t=some locs):∀ b∈yM op (eval ta),∃ x∈locs,RB c b x:=by
 cases op
 case store ty a y=>exact VU (eO ht (hx a (by simp[Op.operands]))) hl
 case call cl =>
  have hax:∀ x∈cl.args.toList,aS n x=true:=fun x h=>hx x (by simp only[Op.operands,Call.operands,TQ];exact sW _ h)
  have key:∀ locs,(match cl.args.toList with
   | x::_=>US (evV s.t x)
   | []=>some [])=some locs->∀ b∈(cl.args.map (eval ta))[0]?.elim [] fC,∃ x∈locs,RB c b x:=by
   intro locs hl b hb
   have e3:(cl.args.map (eval ta))[0]? = (cl.args.toList.map (eval ta))[0]? := by
    rw[<- zJ];simp
   rw[e3]at hb
   split at hl
   ·rename_i x l e4
    rw[e4]at hb
    exact VU (eO ht (hax x (by rw[e4];exact jM))) hl b (by simpa using hb)
   ·rename_i e4;rw[e4]at hb;simp at hb
  simp only[wrV,yM]at hl⊢
  cases hc:cl.callee with
  | builtin bt=>grind
  | value f=>intro b hb;cases hb
  | invoke f m=>intro b hb;cases hb
 all_goals (intro b hb;cases hb)
theorem aEl (hr:Rel F0 H0 c s ta H){x y:List (Option Nat)}{xs ys:List Nat}(h:aEc s.h (some x) (some y)=true)(hx:∀ b∈xs,∃ z∈x,RB c b z)(hy:∀ b∈ys,∃ z∈y,RB c b z):SQ xs ys=true:=by
 obtain⟨hh,hok,ht⟩:=hr
 have h:(x.all fun x=>y.all fun y=>O5 s.h x y)=true:=by
  cases x with
  | nil=>rfl
  | cons _ _ =>
    cases y with
    | nil=>simp
    | cons _ _=>exact h
 simp only[jF]at h
 unfold SQ
 simp only[jF,pA]
 intro b hb b' hb' e
 subst e
 obtain⟨z,hz,hz2⟩:=hx b hb
 obtain⟨w,hw,hw2⟩:=hy b hb'
 have ha:=h z hz w hw
 have own:∀ i,c.ρ i=some b->O5.ownB (dB s.h i)=true->c.F b=none/\c.h[i]? ≠ some (.dead false):=by
  intro i hi ho
  have hlt:=hok.lt hi
  have hg:c.h[i]? = some (dB s.h i):=by
   rw[<- hh]
   unfold dB
   grind
  have ob:=hok.obj i _ hg
  cases e:dB s.h i with
  | box cs fr =>
    rw[e]at ho hg
    obtain⟨b',azz,k1,_,_,_,k5⟩:=ob.box cs fr e
    rw[hi]at k1;cases k1
    refine⟨k5 (by cases fr <;> first|rfl|cases ho),by rw[hg];intro e;cases e⟩
  | lst q t l fr =>
    rw[e]at ho hg
    obtain⟨azz,ex,_,_,_,k4⟩:=(ob.lst q t l fr e).2 b hi
    refine⟨k4 (by cases fr <;> first|rfl|cases ho),by rw[hg];intro e;cases e⟩
  | dead d =>
    rw[e]at ho hg
    have:d=true:=ho
    subst this
    exact⟨ob.dead b e hi,by rw[hg];intro e;cases e⟩
 cases z with
 | some i =>
   cases w with
   | some j =>
     unfold O5 at ha
     simp only[aK,cJ,pA]at ha
     have bx:∀ i j,i≠j->c.ρ i=some b->c.ρ j=some b->O5.boxB (dB s.h i)=true->False:=fun i j hij hi hj hb=>by
      have hg:c.h[i]? = some (dB s.h i):=by
       rw[<- hh]
       unfold dB
       rw[aW,aQ (hok.lt hi)];rfl
      have:=hok.bj i j b _ hij hi hj hg
      cases e:dB s.h i with
      | box cs fr=>rw[e]at this;cases this
      | lst _ _ _ _=>rw[e]at hb;cases hb
      | dead _=>rw[e]at hb;cases hb
     rcases ha.2 with ha2|ha2
     ·rcases ha2 with e|e
      ·exact bx i j ha.1 hz2 hw2 e
      ·exact bx j i (fun e=>ha.1 e.symm) hw2 hz2 e
     ·rcases hok.inj i j b ha.1 hz2 hw2 with e|e
      ·exact(own i hz2 ha2.1).2 e
      ·exact(own j hw2 ha2.2).2 e
   | none =>
     obtain⟨B,hB⟩:=hw2
     rw[(own i hz2 ha).1]at hB;cases hB
 | none =>
   cases w with
   | some j =>
     obtain⟨B,hB⟩:=hz2
     rw[(own j hw2 ha).1]at hB;cases hB
   | none=>cases ha
theorem aCY (hr:Rel F0 H0 c s ta H){X Y:Option (List (Option Nat))}{xs ys:List Nat}(h:aEc s.h X Y=true)(hx:∀ x,X=some x->∀ b∈xs,∃ z∈x,RB c b z)(hy:∀ y,Y=some y->∀ b∈ys,∃ z∈y,RB c b z):SQ xs ys=true:=by
 cases X with
 | some x =>
   cases Y with
   | some y=>exact aEl hr h (hx x rfl) (hy y rfl)
   | none =>
     cases x with
     | nil =>
       have:xs=[]:=List.eq_nil_iff_forall_not_mem.2 fun b hb=>by obtain⟨z,hz,_⟩:=hx [] rfl b hb;cases hz
       rw[this];rfl
     | cons _ _=>cases h
 | none =>
   cases Y with
   | none=>cases h
   | some y =>
     cases y with
     | nil =>
       have:ys=[]:=List.eq_nil_iff_forall_not_mem.2 fun b hb=>by obtain⟨z,hz,_⟩:=hy [] rfl b hb;cases hz
       rw[this];unfold SQ;simp
     | cons _ _=>cases h
theorem XH (hr:Rel F0 H0 c s ta H)(hop:∀ o∈ops.toList,tU n ops o=true){p:Nat×Nat}(h:aB2 ops s p=true):oJ ops ta p=true:=by
 unfold aB2 at h
 unfold oJ
 split at h
 ·rename_i oi oj h1 h2
  rw[h1,h2]
  have m1:oi∈ops.toList:=by rw[<- zJ]at h1;exact s7 h1
  have m2:oj∈ops.toList:=by rw[<- zJ]at h2;exact s7 h2
  simp only[aK]at h⊢
  obtain⟨ha,hb⟩:=h
  exact⟨aCY hr ha (fun x e=>aCm hr.2.2 (nN (hop oi m1)) e) (fun y e=>aB7 hr.2.2 (nN (hop oj m2)) e),
   aCY hr hb (fun x e=>aB7 hr.2.2 (nN (hop oi m1)) e) (fun y e=>aCm hr.2.2 (nN (hop oj m2)) e)⟩
 ·cases h
theorem Z1 {id:Nat}{draw:Bool}{k:VS->Prop}(he:Env G H0 c fl n ops)(hr:Rel F0 H0 c s ta H)(hop:∀ o∈ops.toList,tU n ops o=true)(hv:PS G ops draw s k){Q:gT->aM->aE->Prop}
 (hQ:∀ ta' H',After F0 H0 c k ta' H'->Q .normal ta' H'):W G.P fl (.region id ops draw) ta H Q:=by
 unfold PS at hv
 split at hv
 ·refine aEs (ops.toList.map fun _=>true) [] (.inr ⟨rfl,rfl⟩) ?_
  refine KN ?_ (AN (ops.size+1) none ops.toList _ he hr trivial hop (fun j w d e=>by cases e) hv)
  grind
 ·split at hv
  ·rename_i hd
   refine aEs (BR ops (cV ops.toList #[]) 0 ops.toList) (oK ops (cV ops.toList #[])) (.inl ⟨rfl,?_⟩) ?_
   ·unfold BA
    simp only[hd,E1]
    simp
   ·refine KN ?_ (AN (ops.size+1) none ops.toList _ he hr trivial hop (fun j w d e=>by cases e) hv)
    rintro t' H' ⟨⟨s',c',hle,hr',hk⟩,_⟩
    split at hk
    ·rename_i hcl
     refine⟨?_,hQ t' H' ⟨s',c',hle,hr',hk⟩⟩
     rw[jF]at hcl⊢
     exact fun p hp=>XH hr' hop (hcl p hp)
    ·exact hk.elim
  ·exact hv.elim
theorem VH:∀ {l:List Oper} {p:List Oper} {o:Oper},aBP l=some (p,o)->l=p++[o]
 | [],p,o,h=>by cases h
 | [x],p,o,h=>by cases h;rfl
 | x::y::l,p,o,h=>by
   simp only[aBP]at h
   split at h
   ·rename_i e;cases e
   ·rename_i q z e
    cases h
    have:=VH (l:=y::l) e
    rw[this];rfl
   ·cases h
theorem S7 {b:Array Nat}:∀ (p:List Oper) (i:Nat) (l:List Oper),(BR ops b i (p++l)).drop p.length=BR ops b (i+p.length) l
 | [],i,l=>rfl
 | x::p,i,l=>by
   simp only[List.cons_append,BR,List.length_cons,List.drop_succ_cons]
   rw[S7 p (i+1) l,show i+1+p.length=i+(p.length+1) by omega]
def dH (P:Program)(J:Inl):Prop:=∀ (g:FuncId) (args:List VV) (s:VS) (k:VV->VS->Prop),J.B g=true->J.run g args s k ->
 ∀ (F0:Fz) (H0:aE) (c:Ctx) (H:aE) (fl:Nat) (ta:aM) (az:List Value),Rel F0 H0 c s ta H->fl<=H0.length->All2 (R2 c) args az ->
   WCall P fl g az.toArray H fun v H'=>∃ vv s2 c2,c2.hs=c.hs/\Rel F0 H0 c2 s2 ta H'/\R2 c2 vv v/\k vv s2
theorem aFK {B:FuncId->Bool}:∀ {l p:List Oper} {q:List Oper×Oper×FuncId×List Operand×List Oper},aAP B p l=some q ->
 p++l=q.1++q.2.1::q.2.2.2.2/\q.2.1.guard=none/\∃ cl,q.2.1.op = .call cl/\cl.callee = .value (.func q.2.2.1)/\q.2.2.2.1=cl.args.toList/\B q.2.2.1=true
 | [],p,q,h=>by cases h
 | o::l,p,q,h=>by
   have next:aAP B (p++[o]) l=some q->p++o::l=q.1++q.2.1::q.2.2.2.2/\q.2.1.guard=none/\∃ cl,q.2.1.op = .call cl/\cl.callee = .value (.func q.2.2.1)/\q.2.2.2.1=cl.args.toList/\B q.2.2.1=true:=fun h=>by
    have:=aFK h
    rw[gZ]at this
    exact this
   unfold aAP at h
   split at h
   ·rename_i cl hg hop
    split at h
    ·rename_i g hc
     split at h
     ·rename_i hb
      cases h
      exact⟨rfl,hg,cl,hop,hc,rfl,hb⟩
     ·exact next h
    ·exact next h
   ·exact next h
theorem aH6 {id:Nat}{draw:Bool}{k:VS->Prop}{J:Inl}{pre post:List Oper}{o:Oper}{g':FuncId}{args:List Operand}(he:Env G H0 c fl n ops)(hI:dH G.P J)(hr:Rel F0 H0 c s ta H)(hop:∀ o∈ops.toList,tU n ops o=true)
 (hm:aDc J.B ops draw=some (pre,o,g',args,post)) (hv:EV G ops (ops.size+1) none pre s fun s1=>match TC G.P g' with
    | true=>J.run g' (args.map (evV s1.t)) s1 fun v s2=>EV G ops (ops.size+1) none post (VS.set s2 o.dst v) fun s'=>match !draw||(oK ops (cV ops.toList #[])).all (aB2 ops s')with
      | true=>k s'
      | false=>False
    | false=>False) {Q:gT->aM->aE->Prop}
 (hQ:∀ ta' H' s' c',c'.hs=c.hs->Rel F0 H0 c' s' ta' H'->k s'->Q .normal ta' H'):W G.P fl (.region id ops draw) ta H Q:=by
 unfold aDc at hm
 split at hm
 ·cases hm
 rename_i p1 o1 g1 as1 r1 hat
 obtain⟨hl,hg,cl,hopc,hc,has,hb⟩:=aFK hat
 rw[List.nil_append]at hl
 dsimp only at hl hg hopc hc has hb
 have key:∃ (g:List Bool) (cl:List (Nat×Nat)),((draw=true/\BA ops g cl=true)\/(draw=false/\g=ops.toList.map fun _=>true))/\(g.drop p1.length).headD false=true/\some (p1,o1,g1,as1,r1)=some (pre,o,g',args,post)/\((draw=false/\cl=[])\/(draw=true/\cl=oK ops (cV ops.toList #[]))):=by
  split at hm
  ·simp_all
  ·split at hm
   ·rename_i hd
    simp only[aK]at hd
    obtain⟨⟨h1,h2⟩,h3⟩:=hd
    refine⟨BR ops (cV ops.toList #[]) 0 ops.toList,oK ops (cV ops.toList #[]),.inl ⟨rfl,?_⟩,?_,hm,.inr ⟨rfl,rfl⟩⟩
    ·unfold BA
     grind
    ·have e1:BR ops (cV ops.toList #[]) 0 ops.toList=BR ops (cV ops.toList #[]) 0 (p1++o1::r1):=by rw[<- hl]
     rw[e1,S7 p1 0 (o1::r1),pX]
     have hk:cI o1.op=4:=by rw[hopc];simp only[cI,hc]
     simp only[BR,List.headD_cons,hk,h3,UN,Bool.and_self]
   ·cases hm
 obtain⟨g,ch,hd,hhead,he3,hch⟩:=key
 simp only[iU,Prod.mk.injEq]at he3
 obtain⟨rfl,rfl,rfl,rfl,rfl⟩:=he3
 refine aEs g ch hd ?_
 rw[hl]
 refine AS p1 ?_
 have hopp:∀ x∈p1,tU n ops x=true:=fun x hx=>hop x (by rw[hl];exact CW _ hx)
 have hopo:tU n ops o1=true:=hop o1 (by rw[hl];simp)
 have hopr:∀ x∈r1,tU n ops x=true:=fun x hx=>hop x (by rw[hl];exact sW _ (kJ _ hx))
 refine KN ?_ (AN (ops.size+1) none p1 g he hr trivial hopp (fun j w d e=>by cases e) hv)
 rintro t1 H1 ⟨⟨s1,c1,hle,hr1,hk⟩,_⟩
 show WOp G.P fl (if (g.drop p1.length).headD false then fl else H1.length) ops o1 t1 H1 fun t' H'=>WDrawn G.P fl ops (g.drop p1.length).tail r1 t' H' _
 rw[hhead,aB rfl]
 have hw:g9 ops t1 o1=true:=by unfold g9;rw[hg]
 split at hk
 case h_2=>exact hk.elim
 rename_i hgood
 have hx:=(nN hopo)
 rw[hopc]at hx
 have hax:∀ x∈cl.args.toList,aS n x=true:=fun x h=>hx x (by simp only[Op.operands,Call.operands,TQ];exact sW _ h)
 subst has
 have hargs:All2 (R2 c1) (cl.args.toList.map (evV s1.t)) (cl.args.toList.map (eval t1)):=wT hr1.2.2 hax
 unfold WOp
 rw[aB hw]
 have hp:bW G.P fl o1.op (eval t1) H1=some (.enter g1 (cl.args.toList.map (eval t1)).toArray,H1):=by
  have:cl.args.map (eval t1)=(cl.args.toList.map (eval t1)).toArray:=by apply Array.toList_inj.1;simp
  rw[hopc]
  simp only[bW,wX,hc,eval,hgood,bO,this]
  simp
 simp only[hp]
 refine WCall.mono (hI g1 _ _ _ hb hk F0 H0 c1 H1 fl t1 _ hr1 he.fl hargs) ?_
 rintro v H' ⟨vv,s2,c2,g1,g2,g3,g4⟩
 have hr2:Rel F0 H0 c2 (VS.set s2 o1.dst vv) _ H':=⟨by rw[aIK];exact g2.1,g2.2.1,Tok.put (Le.refl c2) g2.2.2 g3⟩
 refine KN ?_ (AN (ops.size+1) none r1 (g.drop p1.length).tail (c:=c2) ⟨he.O,he.fl⟩ hr2 trivial hopr (fun j w d e=>by cases e) g4)
 rintro t3 H3 ⟨⟨s3,c3,hle3,hr3,hk3⟩,_⟩
 split at hk3
 case h_2=>exact hk3.elim
 rename_i hcl
 refine⟨?_,hQ t3 H3 s3 c3 (hle3.hs.trans (g1.trans hle.hs)) hr3 hk3⟩
 rcases hch with⟨_,rfl⟩|⟨rfl,rfl⟩
 ·rfl
 ·simp only[Bool.not_true,PU]at hcl
  rw[jF]at hcl⊢
  exact fun p hp=>XH hr3 hop (hcl p hp)
theorem RN {id:Nat}{draw:Bool}{k:VS->Prop}(he:Env G H0 c fl n ops)(hI:∀ J,G.I=some J->dH G.P J)(hr:Rel F0 H0 c s ta H)(hop:∀ o∈ops.toList,tU n ops o=true)(hv:Y8 G ops draw s k){Q:gT->aM->aE->Prop}
 (hQ:∀ ta' H' s' c',c'.hs=c.hs->Rel F0 H0 c' s' ta' H'->k s'->Q .normal ta' H'):W G.P fl (.region id ops draw) ta H Q:=by
 have plain:PS G ops draw s k->W G.P fl (.region id ops draw) ta H Q:=fun h0 =>
  Z1 he hr hop h0 fun ta' H' ⟨s',c',hle,hr',hk⟩=>hQ ta' H' s' c' hle.hs hr' hk
 unfold Y8 at hv
 split at hv
 ·exact plain hv
 rename_i J hJ
 split at hv
 ·split at hv
  ·exact plain hv
  ·rename_i hm
   exact aH6 he (hI J hJ) hr hop hm hv hQ
 rename_i pre o f args he2
 unfold aIF at he2
 split at he2
 case h_2=>cases he2
 rename_i pre' o' hlast
 have hl:=VH hlast
 split at he2
 case h_2=>cases he2
 rename_i cl hg hopc
 split at he2
 case h_2=>cases he2
 rename_i f' hc
 have key:∃ g:List Bool,((draw=true/\BA ops g []=true)\/(draw=false/\g=ops.toList.map fun _=>true))/\(g.drop pre'.length).headD false=true/\some (pre',o',f',cl.args.toList)=some (pre,o,f,args):=by
  split at he2
  ·refine⟨_,.inr ⟨rfl,rfl⟩,?_,he2⟩
   rw[hl]
   simp
  ·split at he2
   ·rename_i hd
    simp only[aK,List.isEmpty_iff]at hd
    obtain⟨⟨h1,h2⟩,h3⟩:=hd
    refine⟨BR ops (cV ops.toList #[]) 0 ops.toList,.inl ⟨rfl,?_⟩,?_,he2⟩
    ·unfold BA
     simp only[h1,h2,List.all_nil,E1,R0,UN,Bool.and_self]
    ·have e1:BR ops (cV ops.toList #[]) 0 ops.toList=BR ops (cV ops.toList #[]) 0 (pre'++[o']):=by rw[<- hl]
     rw[e1,S7 pre' 0 [o'],pX]
     have hk:cI o'.op=4:=by rw[hopc];simp only[cI,hc]
     simp only[BR,List.headD_cons,hk,h3,UN,Bool.and_self]
   ·cases he2
 obtain⟨g,hd,hhead,he3⟩:=key
 simp only[iU,Prod.mk.injEq]at he3
 obtain⟨rfl,rfl,rfl,rfl⟩:=he3
 refine aEs g [] hd ?_
 rw[hl]
 refine AS pre' ?_
 have hopp:∀ x∈pre',tU n ops x=true:=fun x hx=>hop x (by rw[hl];exact CW _ hx)
 have hopo:tU n ops o'=true:=hop o' (by rw[hl];simp)
 refine KN ?_ (AN (ops.size+1) none pre' g he hr trivial hopp (fun j w d e=>by cases e) hv)
 rintro t1 H1 ⟨⟨s1,c1,hle,hr1,hk⟩,_⟩
 show WOp G.P fl (if (g.drop pre'.length).headD false then fl else H1.length) ops o' t1 H1 fun t' H'=>WDrawn G.P fl ops (g.drop pre'.length).tail [] t' H' _
 rw[hhead,aB rfl]
 have hw:g9 ops t1 o'=true:=by unfold g9;rw[hg]
 have fin:∀ t' H' s' c',c'.hs=c.hs->Rel F0 H0 c' s' t' H'->k s'->WDrawn G.P fl ops (g.drop pre'.length).tail [] t' H' fun t' H'=>([]:List (Nat×Nat)).all (oJ ops t')=true/\Q .normal t' H':=by
  intro t' H' s' c' h1 h2 h3
  have:∀ gs:List Bool,WDrawn G.P fl ops gs [] t' H' fun t' H'=>([]:List (Nat×Nat)).all (oJ ops t')=true/\Q .normal t' H':=by
   intro gs
   cases gs <;> exact⟨rfl,hQ t' H' s' c' h1 h2 h3⟩
  exact this _
 have hfl1:fl<=H1.length:=fO he.fl hr1.2.1.pre.len
 have one:RV G o' s1 k->WOp G.P fl fl ops o' t1 H1 fun t' H'=>WDrawn G.P fl ops (g.drop pre'.length).tail [] t' H' fun t' H'=>([]:List (Nat×Nat)).all (oJ ops t')=true/\Q .normal t' H':=fun hv1 =>
  OV (he.le hle) hr1 hopo hw hv1 hfl1 fun t' H' _ _ ⟨s',c',hle',hr',hk'⟩=>fin t' H' s' c' (hle'.hs.trans hle.hs) hr' hk'
 split at hk
 ·rename_i g' caps hev
  split at hk
  ·rename_i hb
   simp only[aK]at hb
   have hx:=(nN hopo)
   rw[hopc]at hx
   have hfx:aS n f'=true:=hx f' (by simp only[Op.operands,Call.operands,hc];simp)
   have hax:∀ x∈cl.args.toList,aS n x=true:=fun x h=>hx x (by simp only[Op.operands,Call.operands,TQ];exact sW _ h)
   have hf:=eO hr1.2.2 hfx
   rw[hev]at hf
   obtain⟨cp,e1,hcp⟩:=hf
   have hargs:All2 (R2 c1) (cl.args.toList.map (evV s1.t)++caps) (cl.args.toList.map (eval t1)++cp):=(wT hr1.2.2 hax).app (hcp.mono fun v a h=>JN h)
   unfold WOp
   rw[aB hw]
   have hp:bW G.P fl o'.op (eval t1) H1=some (.enter g' (cl.args.toList.map (eval t1)++cp).toArray,H1):=by
    have:cl.args.map (eval t1)=(cl.args.toList.map (eval t1)).toArray:=by apply Array.toList_inj.1;simp
    rw[hopc]
    simp only[bW,wX,hc,e1,hb.2,bO,this]
    simp
   simp only[hp]
   refine WCall.mono (hI J hJ g' _ _ _ hb.1 hk F0 H0 c1 H1 fl t1 _ hr1 he.fl hargs) ?_
   rintro v H' ⟨vv,s2,c2,g1,g2,g3,g4⟩
   exact fin _ _ _ c2 (g1.trans hle.hs) ⟨by rw[aIK];exact g2.1,g2.2.1,Tok.put (Le.refl c2) g2.2.2 g3⟩ g4
  ·exact one hk
 ·exact one hk
theorem aN4 {cells:List Value}{q:Nat}{v:Value}(h:InB cells q 1 [v]):cells[q]? = some v:=by
 obtain⟨h1,h2⟩:=h
 have hlt:q<cells.length:=by omega
 rw[MK hlt,List.take_succ_cons,List.take_zero]at h2
 grind
theorem aBT {id:Nat}{draw:Bool}{live:List Nat}{k:VS->Prop}(he:Env G H0 c fl n ops)(hI:∀ J,G.I=some J->dH G.P J)(hr:Rel F0 H0 c s ta H)(hop:∀ o∈ops.toList,tU n ops o=true)(hv:Z6 G ops draw live s k){Q:gT->aM->aE->Prop}
 (hQ:∀ ta' H' s' c',c'.hs=c.hs->Rel F0 H0 c' s' ta' H'->k s'->Q .normal ta' H'):W G.P fl (.region id ops draw) ta H Q:=by
 unfold Z6 at hv
 split at hv
 ·exact RN he hI hr hop hv hQ
 split at hv
 ·exact RN he hI hr hop hv hQ
 rename_i pre o ty a x he2
 unfold aFt at he2
 split at he2
 case h_2=>cases he2
 rename_i pre' o' hlast
 have hl:=VH hlast
 split at he2
 case h_2=>cases he2
 rename_i ty' a' x' hg hdst hopc
 have key:∃ g:List Bool,((draw=true/\BA ops g []=true)\/(draw=false/\g=ops.toList.map fun _=>true))/\some (pre',o',ty',a',x')=some (pre,o,ty,a,x):=by
  split at he2
  ·exact⟨_,.inr ⟨rfl,rfl⟩,he2⟩
  ·split at he2
   ·rename_i hd
    simp only[aK,List.isEmpty_iff]at hd
    obtain⟨h1,h2⟩:=hd
    refine⟨BR ops (cV ops.toList #[]) 0 ops.toList,.inl ⟨rfl,?_⟩,he2⟩
    unfold BA
    simp only[h1,h2,List.all_nil,E1,R0,UN,Bool.and_self]
   ·cases he2
 obtain⟨g,hd,he3⟩:=key
 simp only[iU,Prod.mk.injEq]at he3
 obtain⟨rfl,rfl,rfl,rfl,rfl⟩:=he3
 refine aEs g [] hd ?_
 rw[hl]
 refine AS pre' ?_
 have hopp:∀ x∈pre',tU n ops x=true:=fun x hx=>hop x (by rw[hl];exact CW _ hx)
 have hopo:tU n ops o'=true:=hop o' (by rw[hl];simp)
 refine KN ?_ (AN (ops.size+1) none pre' g he hr trivial hopp (fun j w d e=>by cases e) hv)
 rintro t1 H1 ⟨⟨s1,c1,hle,hr1,hk⟩,_⟩
 show WOp G.P fl (if (g.drop pre'.length).headD false then fl else H1.length) ops o' t1 H1 fun t' H'=>WDrawn G.P fl ops (g.drop pre'.length).tail [] t' H' _
 have hw:g9 ops t1 o'=true:=by unfold g9;rw[hg]
 have fin:∀ t' H' s' c',c'.hs=c.hs->Rel F0 H0 c' s' t' H'->k s'->WDrawn G.P fl ops (g.drop pre'.length).tail [] t' H' fun t' H'=>([]:List (Nat×Nat)).all (oJ ops t')=true/\Q .normal t' H':=by
  intro t' H' s' c' h1 h2 h3
  have:∀ gs:List Bool,WDrawn G.P fl ops gs [] t' H' fun t' H'=>([]:List (Nat×Nat)).all (oJ ops t')=true/\Q .normal t' H':=by
   intro gs
   cases gs <;> exact⟨rfl,hQ t' H' s' c' h1 h2 h3⟩
  exact this _
 have hfl1:fl<=H1.length:=fO he.fl hr1.2.1.pre.len
 have hflc:(if (g.drop pre'.length).headD false then fl else H1.length)<=H1.length:=by split <;> omega
 have one:RV G o' s1 k->WOp G.P fl (if (g.drop pre'.length).headD false then fl else H1.length) ops o' t1 H1 fun t' H'=>WDrawn G.P fl ops (g.drop pre'.length).tail [] t' H' fun t' H'=>([]:List (Nat×Nat)).all (oJ ops t')=true/\Q .normal t' H':=fun hv1 =>
  OV (he.le hle) hr1 hopo hw hv1 hflc fun t' H' _ _ ⟨s',c',hle',hr',hk'⟩=>fin t' H' s' c' (hle'.hs.trans hle.hs) hr' hk'
 split at hk
 ·rename_i kd l ix kd' v ha hx
  split at hk
  case isFalse=>exact hk.elim
  rename_i hc
  obtain⟨rfl,hsz⟩:=hc
  have hxs:=nN hopo
  rw[hopc]at hxs
  have hax:aS n a'=true:=hxs a' (by simp[Op.operands])
  have hxx:aS n x'=true:=hxs x' (by simp[Op.operands])
  have h1:=eO hr1.2.2 hax
  have h2:=eO hr1.2.2 hxx
  rw[ha]at h1
  rw[hx]at h2
  obtain⟨b,q,B,y,cs,e1,e2,e3,e4,e5⟩:=UQ h1
  obtain⟨e6,_⟩:=fY h2
  have e5:cs=[.int kd y]:=e5
  subst e5
  have hq:=aN4 e4
  have hb:c1.n0<=b:=by
   unfold gM at e2
   split at e2
   ·cases e2
   ·rename_i hn;simp at hn;exact hn
  have hF:c1.F b=some B:=GS _ _ e2
  have hbk:=hr1.2.1.fz b B hF
  have hn0:=hr1.2.1.n0
  have hqlt:q<B.cells.length:=(List.getElem?_eq_some_iff.1 hq).1
  have hsb:G7 G.P ty' B (q+0) (eval t1 x')=some { B with cells:=B.cells.set q (.int kd v) }:=by
   unfold G7
   rw[e6]
   rw[aB ⟨hsz,by show q+0+1<=_;omega,rfl⟩]
   rfl
  obtain⟨H',f1,f2,f3⟩:=QF (P:=G.P) (fl:=fl) hbk (by have:=he.fl;omega) hsb
  unfold WOp
  rw[aB hw]
  have hp:bW G.P fl o'.op (eval t1) H1=some (.skip,H'):=by
   rw[hopc]
   simp only[bW,e1,f1,Option.map_some]
  simp only[hp]
  rw[hdst]
  show WDrawn G.P fl ops (g.drop pre'.length).tail [] t1 H' _
  obtain⟨s2,c2,k1,k2,k3⟩:=aIZ hr1 hb hF rfl (.inr ⟨q,y,hq,rfl⟩) f3 f2 hk
  exact fin _ _ _ c2 (k1.trans hle.hs) k2 k3
 ·exact one hk
end
end Go.Mach
namespace Go.Mach
set_option linter.unusedVariables false
set_option linter.unusedSimpArgs false
section
variable {G:Cfg} {F0:Fz} {H0:aE} {c c':Ctx} {H H':aE} {s:VS} {ta:aM} {n fl:Nat} {ops:Array Oper}
theorem KL:∀ (n:Nat) {h:List VO} {todo acc:List Nat},acc.Nodup->(VI n h todo acc).Nodup
 | 0,h,todo,acc,hn=>hn
 | n+1,h,[],acc,hn=>hn
 | n+1,h,i::todo,acc,hn=>by
   unfold VI
   split
   ·exact KL n hn
   ·rename_i hc
    refine KL n ?_
    rw[List.nodup_append]
    refine⟨hn,by simp,?_⟩
    intro a ha b hb e
    rw[G6]at hb
    subst hb;subst e
    have:acc.contains a=true:=by simpa using ha
    rw[this]at hc;cases hc
theorem W2:∀ {ids:List Nat} {i n j:Nat},FJ i ids n=some j->n<=j/\ids[j-n]? = some i
 | [],i,n,j,h=>by cases h
 | x::ids,i,n,j,h=>by
   unfold FJ at h
   split at h
   ·rename_i e;cases h;subst e;exact⟨aJ _,by simp⟩
   ·obtain⟨h1,h2⟩:=W2 h
    refine⟨by omega,?_⟩
    rw[show j-n=(j-(n+1))+1 by omega,List.getElem?_cons_succ]
    exact h2
def OO (c:Ctx)(ids:List Nat):Ctx:=⟨c.n0,c.F,fun j=>(ids[j]?).bind c.ρ,ids.map fun i=>aDw ids (dB c.h i),c.hs⟩
theorem WH {ids:List Nat}{i j:Nat}(h:FJ i ids 0=some j):(OO c ids).ρ j=c.ρ i/\(OO c ids).h[j]? = some (aDw ids (dB c.h i)):=by
 have:=(W2 h).2
 rw[Nat.sub_zero]at this
 refine⟨?_,?_⟩
 ·show(ids[j]?).bind c.ρ=_
  rw[this];rfl
 ·show(ids.map _)[j]? = _
  rw[mO,this];rfl
theorem PH (ids:List Nat){v:VV}{a:Value}(h:RL c v a):RL (OO c ids) (aDZ ids v) a:=by
 cases v with
 | pl v=>exact h
 | fz o t l=>exact h
 | fptr o t l ix off=>exact h
 | hof i=>exact h
 | mptr i off=>trivial
 | er b=>exact h
 | bs l=>exact h.elim
 | own i =>
   unfold aDZ
   simp only
   split
   ·rename_i j hj
    obtain⟨k1,k2⟩:=WH (c:=c) hj
    simp only[RL]at h⊢
    rw[k1,k2]
    cases hi:c.h[i]? with
    | none=>rw[hi]at h;exact h.elim
    | some o =>
      rw[hi]at h
      rw[rD hi]
      cases o <;> exact h
   ·trivial
 | ptr i off =>
   unfold aDZ
   simp only
   split
   ·rename_i j hj
    obtain⟨k1,k2⟩:=WH (c:=c) hj
    obtain⟨b,cs,fr,h1,h2,h3⟩:=h
    rw[rD h1]at k2
    exact⟨b,_,fr,k2,k1.trans h2,h3⟩
   ·trivial
 | eptr i ix off =>
   unfold aDZ
   simp only
   split
   ·rename_i j hj
    obtain⟨k1,k2⟩:=WH (c:=c) hj
    obtain⟨b,h1,h2⟩:=h
    refine⟨b,k1.trans h1,?_⟩
    rw[k2]
    cases hi:c.h[i]? with
    | none=>rw[hi]at h2;exact h2.elim
    | some o =>
      rw[hi]at h2
      rw[rD hi]
      cases o <;> exact h2
   ·trivial
 | undef=>trivial
 | agg l=>exact h.elim
 | tup l=>exact h.elim
 | bx l off=>exact h.elim
 | fn f l=>exact h.elim
 | nw t l=>exact h.elim
theorem ZP (ids:List Nat){v:VV}{a:Value}(h:R1 c v a):R1 (OO c ids) (aLI ids v) a:=by
 cases v
 case agg l=>obtain⟨azz,h1,h2⟩:=h;exact⟨azz,h1,h2.mapL fun v a h=>PH ids h⟩
 case bx l off=>obtain⟨b,B,h1,h2,h3⟩:=h;exact⟨b,B,h1,h2,h3.mapL fun v a h=>PH ids h⟩
 case bs l=>obtain⟨b,B,k,h1,h2,h4,h3⟩:=h;exact⟨b,B,k,by simpa using h1,h2,h4,h3.mapL fun v a h=>PH ids h⟩
 all_goals exact aFN (PH ids (aEI (fun _ e=>by cases e) (fun _ _ e=>by cases e) (fun _ e=>by cases e) h))
theorem aJb (ids:List Nat){v:VV}{a:Value}(h:R2 c v a):R2 (OO c ids) (aOu ids v) a:=by
 cases v
 case tup l=>obtain⟨azz,h1,h2⟩:=h;exact⟨azz,h1,h2.mapL fun v a h=>ZP ids h⟩
 case fn f l=>obtain⟨azz,h1,h2⟩:=h;exact⟨azz,h1,h2.mapL fun v a h=>ZP ids h⟩
 all_goals exact JN (ZP ids (aE9 (fun _ e=>by cases e) (fun _ _ e=>by cases e) h))
theorem Ok.clean (h:Ok F0 H0 c H){ids:List Nat}(hn:ids.Nodup):Ok F0 H0 (OO c ids) H where
 n0:=h.n0
 pre:=h.pre
 fz:=h.fz
 low:=h.low
 obj:=fun j o hj=>by
  have hj:(ids.map fun i=>aDw ids (dB c.h i))[j]? = some o:=hj
  rw[mO]at hj
  cases e:ids[j]? with
  | none=>rw[e]at hj;cases hj
  | some i =>
    rw[e]at hj
    have hj:aDw ids (dB c.h i)=o:=by simpa using hj
    subst hj
    have hρ:(OO c ids).ρ j=c.ρ i:=by show(ids[j]?).bind c.ρ=_;rw[e];rfl
    cases hi:c.h[i]? with
    | none =>
      have hg:dB c.h i = .dead false:=by unfold dB;rw[aW,hi];rfl
      have hnone:c.ρ i=none:=h.dom i (List.getElem?_eq_none_iff.1 hi)
      rw[hg]
      exact {
       lo:=fun b e=>by rw[hρ,hnone]at e;cases e
       box:=fun _ _ e=>(by cases e)
       lst:=fun _ _ _ _ e=>(by cases e)
       dead:=fun _ e=>(by cases e) }
    | some o =>
      rw[rD hi]
      have ob:=h.obj i o hi
      exact {
       lo:=fun b e=>ob.lo b (by rw[<- hρ];exact e)
       box:=fun cs fr e=>by
        cases o with
        | box cs' fr' =>
          cases e
          obtain⟨b,azz,k1,k2,k3,k4⟩:=ob.box _ _ rfl
          exact⟨b,azz,hρ.trans k1,k2,k3.mapL fun v a h=>PH ids h,k4⟩
        | lst _ _ _ _=>cases e
        | dead _=>cases e
       lst:=fun q t l fr e=>by
        cases o with
        | box cs' fr'=>cases e
        | dead _=>cases e
        | lst q' t' l' fr'=>rw[hρ];exact ob.lst q t l fr e
       dead:=fun b e e'=>by
        cases o with
        | box cs' fr'=>cases e
        | lst _ _ _ _=>cases e
        | dead x=>exact ob.dead b e (by rw[<- hρ];exact e') }
 inj:=fun i j b hij hi hj=>by
  have hi:(ids[i]?).bind c.ρ=some b:=hi
  have hj:(ids[j]?).bind c.ρ=some b:=hj
  show(ids.map fun i=>aDw ids (dB c.h i))[i]? = _\/(ids.map fun i=>aDw ids (dB c.h i))[j]? = _
  rw[mO,mO]
  cases e1:ids[i]? with
  | none=>rw[e1]at hi;cases hi
  | some x =>
    cases e2:ids[j]? with
    | none=>rw[e2]at hj;cases hj
    | some y =>
      rw[e1]at hi
      rw[e2]at hj
      have hxy:x≠y:=by
       intro e
       subst e
       have h1:=List.getElem?_eq_some_iff.1 e1
       have h2:=List.getElem?_eq_some_iff.1 e2
       obtain⟨l1,g1⟩:=h1
       obtain⟨l2,g2⟩:=h2
       have hp:=List.pairwise_iff_getElem.1 hn
       grind
      rcases h.inj x y b hxy hi hj with e|e
      ·left;simp only[Option.map_some,rD e];rfl
      ·right;simp only[Option.map_some,rD e];rfl
 bj:=fun i j b o hij hi hj ho=>by
  have hi:(ids[i]?).bind c.ρ=some b:=hi
  have hj:(ids[j]?).bind c.ρ=some b:=hj
  have ho:(ids.map fun i=>aDw ids (dB c.h i))[i]? = some o:=ho
  rw[mO]at ho
  cases e1:ids[i]? with
  | none=>rw[e1]at hi;cases hi
  | some x =>
    cases e2:ids[j]? with
    | none=>rw[e2]at hj;cases hj
    | some y =>
      rw[e1]at hi ho
      rw[e2]at hj
      have hxy:x≠y:=by
       intro e
       subst e
       obtain⟨l1,g1⟩:=List.getElem?_eq_some_iff.1 e1
       obtain⟨l2,g2⟩:=List.getElem?_eq_some_iff.1 e2
       have hp:=List.pairwise_iff_getElem.1 hn
       rcases Nat.lt_trichotomy i j with hlt|he|hlt
       ·exact hp i j l1 l2 hlt (g1.trans g2.symm)
       ·exact hij he
       ·exact hp j i l2 l1 hlt (g2.trans g1.symm)
      simp only[Option.map_some,iU]at ho
      subst ho
      cases hx:c.h[x]? with
      | none =>
        have hg:dB c.h x = .dead false:=by unfold dB;rw[aW,hx];rfl
        rw[hg];rfl
      | some p =>
        rw[rD hx]
        have:=h.bj x y b p hxy hi hj hx
        cases p with
        | box _ _=>cases this
        | lst _ _ _ _=>rfl
        | dead _=>rfl
 dom:=fun j hj=>by
  have hj:(ids.map fun i=>aDw ids (dB c.h i)).length<=j:=hj
  rw[FH]at hj
  show(ids[j]?).bind c.ρ=none
  rw[List.getElem?_eq_none_iff.2 hj];rfl
theorem V8 {R:VV->Value->Prop}(hu:∀ a,R .undef a):∀ (live:List Nat) (vs:List VV) {ta:aM},All2 R vs (live.map ta)->∀ d,R (eG (YW live vs) d) (ta d)
 | [],vs,ta,h,d=>by cases h;exact hu _
 | x::live,[],ta,h,d=>by cases h
 | x::live,v::vs,ta,h,d=>by
   cases h with
   | cons h t =>
     show R (if x=d then v else eG (YW live vs) d) (ta d)
     split
     ·rename_i e;subst e;exact h
     ·exact V8 hu live vs t d
theorem aGQ {R:VV->Value->Prop}{f:Nat->VV}{ta:aM}(h:∀ d,R (f d) (ta d)):∀ live:List Nat,All2 R (live.map f) (live.map ta)
 | [] => .nil
 | x::l => .cons (h x) (aGQ h l)
theorem WY (hr:Rel F0 H0 c s ta H)(live:List Nat):∃ c',c'.hs=c.hs/\c'.n0=c.n0/\c'.h=(ZS live s).2/\Ok F0 H0 c' H/\All2 (R2 c') (ZS live s).1 (live.map ta):=by
 obtain⟨hh,hok,ht⟩:=hr
 have hn:=KL (2*s.h.length+40) (h:=s.h) (todo:=(live.map (eG s.t)).flatMap aNe) (acc:=[]) List.nodup_nil
 refine⟨OO c (VI (2*s.h.length+40) s.h ((live.map (eG s.t)).flatMap aNe) []),rfl,rfl,?_,hok.clean hn,?_⟩
 ·show(List.map _ _)=_
  rw[hh];rfl
 ·show All2 _ ((live.map (eG s.t)).map _) _
  rw[List.map_map]
  exact aGQ (fun d=>aJb _ (ht d)) live
theorem aF2 {a b:VV}(h:aBM a b=true):a=b:=by
 unfold aBM at h
 grind
theorem aDJ:∀ {a b:List VV},aE3 a b=true->a=b
 | [],[],_=>rfl
 | [],_::_,h=>by cases h
 | _::_,[],h=>by cases h
 | a::l,b::r,h=>by
   unfold aE3 at h
   simp only[aK]at h
   rw[aF2 h.1,aDJ h.2]
theorem aJX {a b:VV}(h:aDD a b=true):a=b:=by
 unfold aDD at h
 split at h
 ·simp only[aK,dR]at h
  rw[h.1,aDJ h.2]
 ·exact aF2 h
theorem JH {x:Lf}{v:VV}{K:x.den->Prop}(h:unF x v K):∃ d,v=XX x d/\K d:=by
 unfold unF at h
 split at h
 ·split at h
  ·split at h
   ·rename_i e;subst e;exact⟨_,rfl,h⟩
   ·exact h.elim
  ·exact h.elim
 ·split at h
  ·exact⟨_,rfl,h⟩
  ·exact h.elim
 ·split at h
  ·exact⟨_,rfl,h⟩
  ·exact h.elim
 ·split at h
  ·rename_i x;exact⟨x,rfl,h⟩
  ·exact h.elim
 ·split at h
  ·rename_i a b;exact⟨(a,b),rfl,h⟩
  ·exact h.elim
 ·split at h
  ·split at h
   ·rename_i e
    subst e
    obtain⟨e,h⟩:=Ty.at_inv h
    subst e
    exact⟨_,rfl,h⟩
   ·exact h.elim
  ·exact h.elim
 ·split at h
  ·rename_i e;exact⟨(),(aJX e).symm,h⟩
  ·exact h.elim
 ·split at h
  ·split at h
   ·rename_i e
    subst e
    obtain⟨e,h⟩:=Ty.at_inv h
    subst e
    dsimp only at h
    split at h
    ·exact⟨_,rfl,h⟩
    ·exact h.elim
   ·exact h.elim
  ·exact h.elim
theorem D7:∀ {l:List Lf} {vs:List VV} {K:aBV l->Prop},unL l vs K->∃ d,vs=XF l d/\K d
 | [],vs,K,h=>by
   unfold unL at h
   split at h
   ·exact⟨(),rfl,h⟩
   ·exact h.elim
 | x::l,vs,K,h=>by
   unfold unL at h
   split at h
   ·obtain⟨a,rfl,h1⟩:=JH h
    obtain⟨b,rfl,h2⟩:=D7 h1
    exact⟨(a,b),rfl,h2⟩
   ·exact h.elim
theorem aGk {x:Cp}{v:VV}{K:x.den->Prop}(h:aNm x v K):∃ d,v=aGW x d/\K d:=by
 unfold aNm at h
 split at h
 ·exact JH h
 ·split at h
  ·obtain⟨d,rfl,h1⟩:=D7 h;exact⟨d,rfl,h1⟩
  ·exact h.elim
 ·split at h
  ·obtain⟨d,rfl,h1⟩:=D7 h;exact⟨d,rfl,h1⟩
  ·exact h.elim
theorem aDI:∀ {l:List Cp} {vs:List VV} {K:aH3 l->Prop},unC l vs K->∃ d,vs=aHz l d/\K d
 | [],vs,K,h=>by
   unfold unC at h
   split at h
   ·exact⟨(),rfl,h⟩
   ·exact h.elim
 | x::l,vs,K,h=>by
   unfold unC at h
   split at h
   ·obtain⟨a,rfl,h1⟩:=aGk h
    obtain⟨b,rfl,h2⟩:=aDI h1
    exact⟨(a,b),rfl,h2⟩
   ·exact h.elim
theorem aHf {x:Sh}{v:VV}{K:x.den->Prop}(h:aNk x v K):∃ d,v=aGp x d/\K d:=by
 unfold aNk at h
 split at h
 ·exact JH h
 ·split at h
  ·obtain⟨d,rfl,h1⟩:=D7 h;exact⟨d,rfl,h1⟩
  ·exact h.elim
 ·split at h
  ·obtain⟨d,rfl,h1⟩:=D7 h;exact⟨d,rfl,h1⟩
  ·exact h.elim
 ·split at h
  ·split at h
   ·rename_i e
    subst e
    obtain⟨d,rfl,h1⟩:=aDI h;exact⟨d,rfl,h1⟩
   ·exact h.elim
  ·exact h.elim
theorem aDN:∀ {l:List Sh} {vs:List VV} {K:C7 l->Prop},unS l vs K->∃ d,vs=DD l d/\K d
 | [],vs,K,h=>by
   unfold unS at h
   split at h
   ·exact⟨(),rfl,h⟩
   ·exact h.elim
 | x::l,vs,K,h=>by
   unfold unS at h
   split at h
   ·obtain⟨a,rfl,h1⟩:=aHf h
    obtain⟨b,rfl,h2⟩:=aDN h1
    exact⟨(a,b),rfl,h2⟩
   ·exact h.elim
theorem aG4 {x:OSh}{v:VO}{K:x.den->Prop}(h:aNI x v K):∃ d,v=aJa x d/\K d:=by
 unfold aNI at h
 split at h
 ·split at h
  ·split at h
   ·rename_i e;subst e;obtain⟨d,rfl,h1⟩:=D7 h;exact⟨d,rfl,h1⟩
   ·exact h.elim
  ·exact h.elim
 ·split at h
  ·split at h
   ·rename_i e
    obtain⟨rfl,rfl⟩:=e
    obtain⟨e,h⟩:=Ty.at_inv h
    subst e
    exact⟨_,rfl,h⟩
   ·exact h.elim
  ·exact h.elim
 ·split at h
  ·exact⟨(),rfl,h⟩
  ·exact h.elim
theorem aCy:∀ {l:List OSh} {vs:List VO} {K:aBz l->Prop},unO l vs K->∃ d,vs=aJd l d/\K d
 | [],vs,K,h=>by
   unfold unO at h
   split at h
   ·exact⟨(),rfl,h⟩
   ·exact h.elim
 | x::l,vs,K,h=>by
   unfold unO at h
   split at h
   ·obtain⟨a,rfl,h1⟩:=aG4 h
    obtain⟨b,rfl,h2⟩:=aCy h1
    exact⟨(a,b),rfl,h2⟩
   ·exact h.elim
def E9 (F0:Fz)(H0:aE)(hs:Nat->Value->Prop)(s:VS)(ta:aM)(H:aE):Prop:=∃ c,c.hs=hs/\Rel F0 H0 c s ta H
theorem aGY {hs:Nat->Value->Prop}(hr:E9 F0 H0 hs s ta H)(live:List Nat):E9 F0 H0 hs (aNx live s) ta H:=by
 obtain⟨c,hc,hr⟩:=hr
 obtain⟨c',h1,h2,h3,h4,h5⟩:=WY hr live
 exact⟨c',h1.trans hc,h3,h4,V8 (fun _=>trivial) live _ h5⟩
theorem aJl {i:Nat}{q:Bool}{T:Ty}{l:List T.den}{fr:Bool}{a:Value}(hok:Ok F0 H0 c H)(hi:dB c.h i = .lst q T l fr)(hr:RL c (.own i) a) :
 ∃ c',Le c c'/\c'.hs=c.hs/\c'.h=eU c.h [i]/\Ok F0 H0 c' H/\RL c' (.fz q T l) a:=by
 obtain⟨c1,k1,k2,kn,kρ,k3,k4⟩:=hok.freezes [i]
 refine⟨c1,k1,k1.hs,k2,k3,?_⟩
 have hl:RL c1 (jK c.h (.own i)) a:=B6 hok k1 kρ hr fun j hj=>k4 j (by simpa [vL] using hj)
 have hres:jK c.h (.own i) = .fz q T l:=by unfold jK;simp only[hi]
 rw[hres]at hl
 exact hl
theorem fzA {q:Bool}{T:Ty}{l:List T.den}{a:Value}(h:RL c (.fz q T l) a):RL c (.fz false T l) a:=by
 obtain⟨ad,k,h1,h2⟩:=h
 have hext:(gM q c.n0 c.F).ext (gM false c.n0 c.F):=zG (fun e=>by cases e)
 exact⟨ad,k,h1,h2.mono hext (RT.mono hext T)⟩
theorem XC {fz:Bool}{T:Ty}{v v':VV}{h':List VO}{a:Value}(hok:Ok F0 H0 c H)(hr:RL c v a)(hc:conv fz T c.h v=some (v',h')):∃ c',Le c c'/\c'.h=h'/\Ok F0 H0 c' H/\RL c' v' a:=by
 unfold conv at hc
 split at hc
 ·cases hc
  obtain⟨rfl,_⟩:=hr
  exact⟨_,rZ _ _,rfl,hok.addNil true T (Pre.refl H),LO (c:=c) (a:=none) (q:=true) (l:=([]:List T.den)) rfl⟩
 ·cases hc
  obtain⟨rfl,_⟩:=hr
  exact⟨c,Le.refl c,rfl,hok,none,_,rfl,⟨lL _,.inl rfl⟩⟩
 ·split at hc
  ·rename_i hg
   cases hc
   obtain⟨c',h1,h2,h3,h4,h5⟩:=aJl hok hg hr
   exact⟨c',h1,h3,h4,fzA h5⟩
  ·cases hc
 ·cases hc
  exact⟨c,Le.refl c,rfl,hok,fzA hr⟩
 ·cases hc
theorem aOa {v:VV}{a:Value}{fz:Bool}{T:Ty}{h:List VO}{r:VV×List VO}(hc:conv fz T h v=some r)(hr:R2 c v a):RL c v a:=by
 unfold conv at hc
 split at hc
 ·exact hr
 ·exact hr
 ·exact hr
 ·exact hr
 ·cases hc
theorem aJ5 {fz:Bool}{T:Ty}{h h':List VO}{v v':VV}(hc:conv fz T h v=some (v',h')){i:Nat}{cs:List VV}{fr:Bool}(hi:h[i]? = some (.box cs fr))(hv:∀ j,v = .own j->j≠i):h'[i]? = some (.box cs fr):=by
 unfold conv at hc
 split at hc
 ·grind
 ·cases hc;exact hi
 ·rename_i j
  split at hc
  ·cases hc
   show(h.set j (kZ (dB h j)))[i]? = _
   rw[fS (hv j rfl)];exact hi
  ·cases hc
 ·cases hc;exact hi
 ·cases hc
theorem aId {hs:Nat->Value->Prop}(co:Co)(hr:E9 F0 H0 hs s ta H):E9 F0 H0 hs (co1 s co) ta H:=by
 obtain⟨c,hc,hh,hok,ht⟩:=hr
 unfold co1
 split
 ·split
  ·rename_i v h' hcv
   rw[<- hh]at hcv
   have hd:=ht co.d
   obtain⟨c',h1,h2,h3,h4⟩:=XC hok (aOa hcv hd) hcv
   refine⟨c',h1.hs.trans hc,h2,h3,?_⟩
   intro i
   show R2 c' (if co.d=i then v else eG s.t i) _
   split
   ·rename_i e;subst e;exact JN (aFN h4)
   ·exact R2.mono h1 _ _ (ht i)
  ·exact⟨c,hc,hh,hok,ht⟩
 ·rename_i q hq
  split
  ·rename_i i off hl
   split
   ·rename_i cs fr hg
    split
    ·rename_i u hu
     split
     ·rename_i v h' hcv
      rw[<- hh]at hcv hg
      have hi:=g0 hg (by intro e;cases e)
      obtain⟨b,azz,k1,k2,k3,k4,k5⟩:=(hok.obj i _ hi).box _ _ rfl
      obtain⟨a,m1,m2⟩:=k3.get hu
      obtain⟨c',h1,h2,h3,h4⟩:=XC hok m2 hcv
      have hi':c'.h[i]? = some (.box cs fr):=by
       rw[h2]
       refine aJ5 hcv hi fun j e => ?_
       intro e2
       subst e;subst e2
       simp only[RL,hi]at m2
      have hle:Le c' (w9 c' i (.box (cs.set q v) fr)):=DZ hi' trivial
      have ob:=h3.obj i _ hi'
      obtain⟨b',as',n1,n2,n3,n4,n5⟩:=ob.box _ _ rfl
      have hbb:b'=b:=by
       rw[h1.ρ i (cN hi),k1]at n1
       exact(nC n1).symm
      subst hbb
      rw[k2]at n2
      cases n2
      refine⟨w9 c' i (.box (cs.set q v) fr),hle.hs.trans (h1.hs.trans hc),?_,?_,?_⟩
      ·show c'.h.set i _=_;rw[h2]
      ·exact {
        n0:=h3.n0,pre:=h3.pre,fz:=h3.fz,low:=h3.low
        obj:=fun j p hj=>by
         rcases PE hj with⟨rfl,rfl⟩|⟨hne,hj'⟩
         ·exact {
           lo:=fun b e=>ob.lo b e
           box:=fun cs2 fr2 e=>by
            cases e
            refine⟨b',azz,n1,k2,?_,n4,n5⟩
            have hset:azz.set q a=azz:=by
             apply V3
             grind
            have:=(n3.mono (RL.mono hle)).set q (RL.mono hle _ _ h4)
            rw[hset]at this
            exact this
           lst:=fun _ _ _ _ e=>(by cases e)
           dead:=fun _ e=>(by cases e) }
         ·exact(h3.obj j p hj').mono hle rfl (fun _ _=>rfl) (fun _ _ _ hB=>hB) (aJ _)
        inj:=fun j k b' hjk hj hk=>by
         show(c'.h.set i _)[j]? = _\/(c'.h.set i _)[k]? = _
         rcases h3.inj j k b' hjk hj hk with e|e
         ·left
          by_cases hji:i=j
          ·subst hji;rw[hi']at e;cases e
          ·rw[fS hji];exact e
         ·grind
        bj:=h3.bj.set hi' (fun _=>rfl)
        dom:=fun j hj=>h3.dom j (by have:(c'.h.set i (.box (cs.set q v) fr)).length<=j:=hj;simpa using this) }
      ·exact fun d=>R2.mono (h1.trans hle) _ _ (ht d)
     ·exact⟨c,hc,hh,hok,ht⟩
    ·exact⟨c,hc,hh,hok,ht⟩
   ·exact⟨c,hc,hh,hok,ht⟩
  ·exact⟨c,hc,hh,hok,ht⟩
theorem XU {hs:Nat->Value->Prop}:∀ (cs:List Co) {s:VS},E9 F0 H0 hs s ta H->E9 F0 H0 hs (aKm cs s) ta H
 | [],s,h=>h
 | c::cs,s,h=>XU cs (aId c h)
theorem qW {hs:Nat->Value->Prop}(hr:E9 F0 H0 hs s ta H)(en:Ends)(m:Nat):E9 F0 H0 hs (GL en m s) ta H:=by
 unfold GL
 split
 ·exact aGY (XU _ hr) _
 ·exact hr
theorem SC {hs:Nat->Value->Prop}{live:List Nat}{sh:List Sh}{ob:List OSh}{K:C7 sh×aBz ob->Prop}(hr:E9 F0 H0 hs s ta H)(h:aND live sh ob s K):∃ x,K x/\E9 F0 H0 hs (aDg live sh ob x) ta H:=by
 obtain⟨c,hc,hr⟩:=hr
 obtain⟨c',h1,h2,h3,h4,h5⟩:=WY hr live
 unfold aND at h
 obtain⟨a,e1,h⟩:=aDN h
 obtain⟨b,e2,h⟩:=aCy h
 refine⟨(a,b),h,c',h1.trans hc,?_,h4,?_⟩
 ·rw[h3,e2];rfl
 ·rw[e1]at h5
  exact V8 (fun _=>trivial) live _ h5
def pR:Nat->Code->Nat->Option Code
 | 0,_,_=>none
 | f+1,root,n=>if n<=1 then some root else
   match pR f root (n / 2)with
   | some (.seq a b)=>if n%2=0 then some a else some b
   | some (.cond _ x y)=>if n%2=0 then some x else some y
   | some (.block _ b)=>some b
   | some (.loop b)=>some b
   | _=>none
theorem aEp {root:Code}:∀ {f f' n:Nat} {c c':Code},pR f root n=some c->pR f' root n=some c'->c=c':=by
 intro f
 induction f with
 | zero=>intro f' n c c' h;cases h
 | succ f ih =>
   intro f' n c c' h h'
   cases f' with
   | zero=>cases h'
   | succ f' =>
     unfold pR at h h'
     grind
theorem aKZ {P:Program}{x:Code}{t:aM}{Q:gT->aM->aE->Prop}(h:W P fl x t H fun e t1 H1=>match e with
 | .normal=>W P fl (.loop x) t1 H1 Q
 | e=>Q e t1 H1):W P fl (.loop x) t H Q:=by
 obtain⟨N,e,t1,H1,h1,h2⟩:=h
 cases e with
 | normal =>
   obtain⟨M,e2,t2,H2,h3,h4⟩:=h2
   simp only[lR]at h3
   refine⟨max N M+1,e2,t2,H2,?_,h4⟩
   simp only[lR,GW]
   rw[D8 (pG P (show N<=max N M+1 by omega)) (show N<=max N M+1 by omega) _ _ _ _ h1]
   exact RX (D8 (pG P (show M<=max N M+1 by omega)) (show M<=max N M+1 by omega) x) (show M<=max N M by omega) _ _ _ h3
 | _ =>
   refine⟨N+1,_,t1,H1,?_,h2⟩
   simp only[lR,GW]
   rw[D8 (pG P (Nat.le_succ N)) (Nat.le_succ N) _ _ _ _ h1]
structure Tl (p:Prop):Prop where
 it:p
def aAY (G:Cfg)(ct:Tab)(en:Ends)(root:Code):Prop :=
 ∀ n E,ct n=some E->∀ f c,pR f root n=some c->∀ x k,E.P x k->Tl (vwp G ct en c n (aDg E.live E.sh E.ob x) k)
theorem aJZ {root a b:Code}{f m:Nat}(hm:1<=m)(h:pR f root m=some (.seq a b)):pR (f+1) root (2*m)=some a/\pR (f+1) root (2*m+1)=some b:=by
 constructor
 ·unfold pR
  grind
 ·unfold pR
  grind
theorem aIh {root a b:Code}{o:Operand}{f m:Nat}(hm:1<=m)(h:pR f root m=some (.cond o a b)):pR (f+1) root (2*m)=some a/\pR (f+1) root (2*m+1)=some b:=by
 constructor
 ·unfold pR
  grind
 ·unfold pR
  grind
theorem aHg {root b:Code}{f m:Nat}(hm:1<=m)(h:(∃ id,pR f root m=some (.block id b))\/pR f root m=some (.loop b)):pR (f+1) root (2*m)=some b:=by
 unfold pR
 rw[aA (by omega),show 2*m / 2=m by omega]
 rcases h with⟨id,h⟩|h <;> rw[h]
structure aNS (G:Cfg)(H0:aE)(hs:Nat->Value->Prop)(fl:Nat):Prop where
 O:∀ f args Q,G.O f args Q->sD G.P f args Q
 fl:fl<=H0.length
 I:∀ J,G.I=some J->dH G.P J
theorem aCn {hs:Nat->Value->Prop}{ct:Tab}{en:Ends}{root:Code}(he:aNS G H0 hs fl)(htab:aAY G ct en root):∀ (c:Code) (m:Nat) {s:VS} {k:gT->VS->Prop} {ta:aM} {H:aE} {Q:gT->aM->aE->Prop},1<=m->(∃ f,pR f root m=some c)->jG n c=true ->
 E9 F0 H0 hs s ta H->vwp G ct en c m s k->(∀ e s' ta' H',E9 F0 H0 hs s' ta' H'->k e s'->Q e ta' H')->W G.P fl c ta H Q:=by
 intro c
 have cut:∀ (x:Code) (m:Nat) {s:VS} {k:gT->VS->Prop} {ta:aM} {H:aE},(∃ f,pR f root m=some x)->E9 F0 H0 hs s ta H->HB ct m (vwp G ct en x m) s k->∃ s',E9 F0 H0 hs s' ta H/\vwp G ct en x m s' k:=by
  intro x m s k ta H hsub hr h
  unfold HB at h
  split at h
  ·rename_i E hE
   obtain⟨y,h1,h2⟩:=SC hr h
   obtain⟨f,hf⟩:=hsub
   exact⟨_,h2,(htab m E hE f x hf y k h1).it⟩
  ·exact⟨s,hr,h⟩
 induction c with
 | skip =>
   intro m s k ta H Q hm hsub hco hr hv hQ
   exact aNl (hQ _ _ _ _ (qW hr en m) hv)
 | label l =>
   intro m s k ta H Q hm hsub hco hr hv hQ
   exact aLb (hQ _ _ _ _ (qW hr en m) hv)
 | exit id =>
   intro m s k ta H Q hm hsub hco hr hv hQ
   exact aMh (hQ _ _ _ _ (qW hr en m) hv)
 | ret =>
   intro m s k ta H Q hm hsub hco hr hv hQ
   exact aOe (hQ _ _ _ _ (qW hr en m) hv)
 | region id ops draw =>
   intro m s k ta H Q hm hsub hco hr hv hQ
   obtain⟨c,hc,hr⟩:=hr
   have hop:∀ o∈ops.toList,tU n ops o=true:=by
    unfold jG at hco
    exact fun o ho=>List.all_eq_true.1 hco o ho
   refine aBT (n:=n) ⟨he.O,he.fl⟩ he.I hr hop hv ?_
   rintro ta' H' s' c' hle hr' hk
   exact hQ _ _ _ _ (qW ⟨c',hle.trans hc,hr'⟩ en m) hk
 | seq a b iha ihb =>
   intro m s k ta H Q hm hsub hco hr hv hQ
   obtain⟨f,hf⟩:=hsub
   obtain⟨ka,kb⟩:=aJZ hm hf
   simp only[jG,aK]at hco
   obtain⟨s1,hr1,hv1⟩:=cut a (2*m) ⟨_,ka⟩ hr hv
   refine aOA (iha (2*m) (by omega) ⟨_,ka⟩ hco.1 hr1 hv1 ?_)
   intro e s' ta' H' hr' hk
   cases e with
   | normal =>
     obtain⟨s2,hr2,hv2⟩:=cut b (2*m+1) ⟨_,kb⟩ hr' hk
     exact ihb (2*m+1) (by omega) ⟨_,kb⟩ hco.2 hr2 hv2 hQ
   | _=>exact hQ _ _ _ _ hr' hk
 | cond o x y ihx ihy =>
   intro m s k ta H Q hm hsub hco hr hv hQ
   obtain⟨f,hf⟩:=hsub
   obtain⟨kx,ky⟩:=aIh hm hf
   simp only[jG,aK]at hco
   have hv:(match evV s.t o with
    | .pl (.bool b)=>if b=true then HB ct (2*m) (vwp G ct en x (2*m)) s k else HB ct (2*m+1) (vwp G ct en y (2*m+1)) s k
    | _=>False):=hv
   obtain⟨c,hc,hrc⟩:=hr
   have hev:=eO hrc.2.2 hco.1.1
   split at hv
   ·rename_i b heq
    rw[heq]at hev
    refine aNL (fY hev).1 (fun hb => ?_) (fun hb => ?_)
    ·rw[aB hb]at hv
     obtain⟨s1,hr1,hv1⟩:=cut x (2*m) ⟨_,kx⟩ ⟨c,hc,hrc⟩ hv
     exact ihx (2*m) (by omega) ⟨_,kx⟩ hco.1.2 hr1 hv1 hQ
    ·rw[aA (by rw[hb];simp)]at hv
     obtain⟨s1,hr1,hv1⟩:=cut y (2*m+1) ⟨_,ky⟩ ⟨c,hc,hrc⟩ hv
     exact ihy (2*m+1) (by omega) ⟨_,ky⟩ hco.2 hr1 hv1 hQ
   ·exact hv.elim
 | block id b ih =>
   intro m s k ta H Q hm hsub hco hr hv hQ
   obtain⟨f,hf⟩:=hsub
   have kb:=aHg (b:=b) hm (.inl ⟨id,hf⟩)
   obtain⟨s1,hr1,hv1⟩:=cut b (2*m) ⟨_,kb⟩ hr hv
   refine aL7 (ih (2*m) (by omega) ⟨_,kb⟩ hco hr1 hv1 ?_)
   intro e s' ta' H' hr' hk
   cases e with
   | exit id'=>exact hQ _ _ _ _ hr' hk
   | _=>exact hQ _ _ _ _ hr' hk
 | loop b ih =>
   intro m s k ta H Q hm hsub hco hr hv hQ
   obtain⟨f,hf⟩:=hsub
   have kb:=aHg (b:=b) hm (.inr hf)
   have step:∀ (X:VS->Prop),(∀ s,X s->∀ ta H,E9 F0 H0 hs s ta H->W G.P fl (.loop b) ta H Q)->∀ s,LB k en m (HB ct (2*m) (vwp G ct en b (2*m))) s X->∀ ta H,E9 F0 H0 hs s ta H->W G.P fl (.loop b) ta H Q:=by
    intro X hX s hB ta H hr
    refine aKZ ?_
    obtain⟨s1,hr1,hv1⟩:=cut b (2*m) ⟨_,kb⟩ hr hB
    refine ih (2*m) (by omega) ⟨_,kb⟩ hco hr1 hv1 ?_
    intro e s' ta' H' hr' hk
    cases e with
    | normal=>exact hX _ hk ta' H' (qW hr' en m)
    | _=>exact hQ _ _ _ _ hr' hk
   unfold vwp at hv
   split at hv
   ·exact hv (fun s=>∀ ta H,E9 F0 H0 hs s ta H->W G.P fl (.loop b) ta H Q) (fun s hB=>step _ (fun _ h=>h) s hB) ta H (qW hr en m)
   ·rename_i u _
    have key:∀ (u:Nat) s,unr (LB k en m (HB ct (2*m) (vwp G ct en b (2*m)))) u s->∀ ta H,E9 F0 H0 hs s ta H->W G.P fl (.loop b) ta H Q:=by
     intro u
     induction u with
     | zero=>intro s h;exact h.elim
     | succ u ihu=>intro s h;exact step _ ihu s h
    exact key _ _ hv ta H (qW hr en m)
 | rangeFunc f ps a b _ _=>intro m s k ta H Q hm hsub hco;simp[jG]at hco
 | scope b _=>intro m s k ta H Q hm hsub hco;simp[jG]at hco
 | goto l=>intro m s k ta H Q hm hsub hco hr hv;simp[vwp]at hv
 | refuse w=>intro m s k ta H Q hm hsub hco;simp[jG]at hco
end
end Go.Mach
namespace Go.Mach
set_option linter.unusedVariables false
set_option linter.unusedSimpArgs false
section
variable {G:Cfg} {F0:Fz} {H0:aE} {c c':Ctx} {H H':aE} {s:VS} {ta:aM} {n fl:Nat} {ops:Array Oper}
theorem L4 (hr:Rel F0 H0 c s ta H):∀ {rs:List ResultVar} {K:List VV->Prop},ZJ G s rs K->∃ vs azz,K vs/\All2 (R2 c) vs azz/\iQ G.P ta H rs=some azz
 | [],K,h=>⟨[],[],h,.nil,rfl⟩
 | .tmp d::rs,K,h=>by
   obtain⟨vs,azz,h1,h2,h3⟩:=L4 hr (rs:=rs) h
   exact⟨_,_,h1,.cons (hr.2.2 d) h2,by simp only[iQ,yF,h3]⟩
 | .cell d ty::rs,K,h=>by
   unfold ZJ at h
   split at h
   ·rename_i i off he
    split at h
    ·rename_i cs fr hg
     have hd:=hr.2.2 d
     rw[he]at hd
     obtain⟨b,cs',fr',k1,k2,k3⟩:=PM hd
     have hi:=g0 hg (by intro e;cases e)
     rw[hr.1,hi]at k1;cases k1
     obtain⟨b',azz,m1,m2,m3,_⟩:=(hr.2.1.obj i _ (by rw[hr.1];exact hi)).box _ _ rfl
     rw[k2]at m1;cases m1
     obtain⟨v,a,g1,g2,g3⟩:=BT (es:=0) (ex:=true) (al:=true) m3 h
     obtain⟨vs,as',h1,h2,h3⟩:=L4 hr (rs:=rs) g1
     exact⟨_,_,h1,.cons (JN g2) h2,by simp only[iQ,yF,k3,P0 m2 g3,h3]⟩
    ·exact h.elim
   ·exact h.elim
def Left (c:Ctx)(h:List VO)(used:List Nat):Prop:=∀ i q t l fr,dB h i = .lst q t l fr->i∉used/\c.h[i]? = some (.lst q t l fr)
theorem Left.use {h:List VO}{used:List Nat}(hl:Left c h used)(i:Nat):Left c (h.set i (.dead false)) (used++[i]):=by
 intro j q t l fr e
 have hji:j≠i:=by
  intro e2
  subst e2
  unfold dB at e
  grind
 have e3:dB h j = .lst q t l fr:=by
  rw[<- e]
  unfold dB
  grind
 obtain⟨h1,h2⟩:=hl j q t l fr e3
 grind
theorem XR.app {l:List VV}{is:List Nat}{azz:List Value}(h:XR c l is azz):∀ {m:List VV} {js:List Nat} {bs:List Value},XR c m js bs->XR c (l++m) (is++js) (azz++bs):=by
 induction h with
 | nil=>intro m js bs k;exact k
 | pl h t ih=>intro m js bs k;exact .pl h (ih k)
 | nw h t ih=>intro m js bs k;exact .nw h (ih k)
 | nl t ih=>intro m js bs k;exact .nl (ih k)
 | al h t ih=>intro m js bs k;exact .al h (ih k)
 | er h t ih=>intro m js bs k;exact .er h (ih k)
theorem TL:∀ (T:Ty) {cs:List VV} {azz:List Value} {h:List VO} {used:List Nat} {K:T.den->List VV->List VO->Prop},All2 (RL c) cs azz->Left c h used->used.Nodup->xp T cs h K ->
 ∃ x r h' is a1 a2,K x r h'/\azz=a1++a2/\XR c (aL5 T x) is a1/\All2 (RL c) r a2/\Left c h' (used++is)/\(used++is).Nodup:=by
 intro T
 induction T with
 | int k =>
   intro cs azz h used K hr hl hn hx
   unfold xp at hx
   split at hx
   ·split at hx
    ·rename_i e;subst e
     cases hr with
     | cons hr t=>obtain⟨rfl,hp⟩:=hr;exact⟨_,_,h,[],[_],_,hx,rfl,.pl hp .nil,t,by rw[dV];exact hl,by rw[dV];exact hn⟩
    ·exact hx.elim
   ·exact hx.elim
 | bool =>
   intro cs azz h used K hr hl hn hx
   unfold xp at hx
   split at hx
   ·cases hr with
    | cons hr t=>obtain⟨rfl,hp⟩:=hr;exact⟨_,_,h,[],[_],_,hx,rfl,.pl hp .nil,t,by rw[dV];exact hl,by rw[dV];exact hn⟩
   ·exact hx.elim
 | str =>
   intro cs azz h used K hr hl hn hx
   unfold xp at hx
   split at hx
   ·cases hr with
    | cons hr t=>obtain⟨rfl,hp⟩:=hr;exact⟨_,_,h,[],[_],_,hx,rfl,.pl hp .nil,t,by rw[dV];exact hl,by rw[dV];exact hn⟩
   ·exact hx.elim
 | flt =>
   intro cs azz h used K hr hl hn hx
   unfold xp at hx
   split at hx
   ·cases hr with
    | cons hr t=>obtain⟨rfl,hp⟩:=hr;exact⟨_,_,h,[],[_],_,hx,rfl,.pl hp .nil,t,by rw[dV];exact hl,by rw[dV];exact hn⟩
   ·exact hx.elim
 | cpx =>
   intro cs azz h used K hr hl hn hx
   unfold xp at hx
   split at hx
   ·cases hr with
    | cons hr t=>obtain⟨rfl,hp⟩:=hr;exact⟨_,_,h,[],[_],_,hx,rfl,.pl hp .nil,t,by rw[dV];exact hl,by rw[dV];exact hn⟩
   ·exact hx.elim
 | slc T ih =>
   intro cs azz h used K hr hl hn hx
   unfold xp at hx
   split at hx
   ·rename_i i r
    split at hx
    ·rename_i t' l hg
     obtain⟨e,hx⟩:=Ty.at_inv hx
     subst e
     obtain⟨k1,k2⟩:=hl i _ _ _ _ hg
     cases hr with
     | cons hr t =>
       have ha:=CN (c:=c) (show R2 c (.own i) _ from hr) k2
       subst ha
       exact⟨_,_,_,[i],[_],_,hx,rfl,.nw k2 .nil,t,hl.use i,by
        rw[List.nodup_append]
        exact⟨hn,by simp,fun a ha b hb e=>k1 (by rw[G6]at hb;subst hb;subst e;exact ha)⟩⟩
    ·exact hx.elim
   ·cases hr with
    | cons hr t=>obtain⟨rfl,hp⟩:=hr;exact⟨_,_,h,[],[_],_,hx,rfl,.nl .nil,t,by rw[dV];exact hl,by rw[dV];exact hn⟩
   ·exact hx.elim
 | ref T ih =>
   intro cs azz h used K hr hl hn hx
   exact hx.elim
 | unit =>
   intro cs azz h used K hr hl hn hx
   exact⟨(),cs,h,[],[],azz,hx,rfl,.nil,hr,by rw[dV];exact hl,by rw[dV];exact hn⟩
 | pair A B iha ihb =>
   intro cs azz h used K hr hl hn hx
   unfold xp at hx
   obtain⟨x,r,h1,is,a1,a2,k1,rfl,k3,k4,k5,k6⟩:=iha hr hl hn hx
   obtain⟨y,r',h2,js,b1,b2,g1,rfl,g3,g4,g5,g6⟩:=ihb k4 k5 k6 k1
   exact⟨(x,y),r',h2,is++js,a1++b1,b2,g1,by rw[gZ],k3.app g3,g4,by rw[<- gZ];exact g5,by rw[<- gZ];exact g6⟩
theorem XR.len {l:List VV}{is:List Nat}{azz:List Value}(h:XR c l is azz):l.length=azz.length:=by
 induction h with
 | nil=>rfl
 | pl h t ih=>simp[ih]
 | nw h t ih=>simp[ih]
 | nl t ih=>simp[ih]
 | al h t ih=>simp[ih]
 | er h t ih=>simp[ih]
theorem aOz {F0:Fz}{H0 H:aE}(hok:Ok F0 H0 c H){i:Nat}{q:Bool}{T:Ty}{l:List T.den}{a:Value}(hi:c.h[i]? = some (.lst q T l true))(h:RL c (.own i) a):RL c (.fz false T l) a:=by
 have ha:a=sl (c.ρ i) l.length:=CN (c:=c) h hi
 refine⟨_,_,ha,?_⟩
 have hlst:=(hok.obj i _ hi).lst _ _ _ _ rfl
 have hext:(gM q c.n0 c.F).ext (gM false c.n0 c.F):=zG (fun e=>by cases e)
 cases hb:c.ρ i with
 | none =>
   have:=hlst.1 hb
   subst this
   exact⟨aJ _,.inl rfl⟩
 | some b =>
   obtain⟨azz,ex,k1,k2,k3,_⟩:=hlst.2 b hb
   refine(k2.mono hext).slice (b:=b) (B:=⟨azz,T.w,ex,true⟩) rfl ?_ (.inr rfl)
   unfold gM
   rw[aA (by simp)]
   exact k3 rfl
theorem aDO (T:Ty){cs:List VV}{azz:List Value}{h:List VO}{used:List Nat}{K:List T.den->List VV->List VO->Prop}(hr:All2 (RL c) cs azz)(hl:Left c h used)(hn:used.Nodup)(hx:xpA .z (.slc T) cs h K) :
 ∃ x r h' is a a2,K x r h'/\azz=[a]++a2/\XR c [.nw T x] is [a]/\(x=[]->a = .slice none 0 0)/\All2 (RL c) r a2/\Left c h' (used++is)/\(used++is).Nodup:=by
 unfold xpA at hx
 split at hx
 ·rename_i i r
  split at hx
  ·rename_i t' l hg
   obtain⟨e,hx⟩:=Ty.at_inv hx
   subst e
   obtain⟨hne,hx⟩:=hx
   obtain⟨k1,k2⟩:=hl i _ _ _ _ hg
   cases hr with
   | cons hr t =>
     have ha:=CN (c:=c) (show R2 c (.own i) _ from hr) k2
     subst ha
     exact⟨_,_,_,[i],_,_,hx,rfl,.nw k2 .nil,fun e=>absurd e hne,t,hl.use i,by
      rw[List.nodup_append]
      exact⟨hn,by simp,fun a ha b hb e=>k1 (by rw[G6]at hb;subst hb;subst e;exact ha)⟩⟩
  ·exact hx.elim
 ·cases hr with
  | cons hr t=>obtain⟨rfl,hp⟩:=hr;exact⟨_,_,h,[],_,_,hx,rfl,.nl .nil,fun _=>rfl,t,by rw[dV];exact hl,by rw[dV];exact hn⟩
 ·exact hx.elim
theorem aCc {F0:Fz}{H0 H:aE}(hok:Ok F0 H0 c H):∀ (al:Al) (T:Ty) {cs:List VV} {azz:List Value} {h:List VO} {used:List Nat} {K:T.den->List VV->List VO->Prop},All2 (RL c) cs azz->Left c h used->used.Nodup->xpA al T cs h K ->
 ∃ x r h' is a1 a2,K x r h'/\azz=a1++a2/\XR c (aDV al T x) is a1/\All2 (RL c) r a2/\Left c h' (used++is)/\(used++is).Nodup:=by
 intro al
 induction al with
 | n=>intro T cs azz h used K hr hl hn hx;cases T <;> exact TL _ hr hl hn hx
 | f =>
   intro T cs azz h used K hr hl hn hx
   cases T with
   | slc T =>
     have fin:∀ {v:VV} {r:List VV} {l:List T.den},All2 (RL c) (v::r) azz->(∀ a,RL c v a->RL c (.fz false T l) a)->K l r h->∃ x r h' is a1 a2,K x r h'/\azz=a1++a2/\XR c (aDV .f (.slc T) x) is a1/\All2 (RL c) r a2/\Left c h' (used++is)/\(used++is).Nodup:=by
      intro v r l hrr hv hk
      cases hrr with
      | cons h1 t=>exact⟨_,_,h,[],[_],_,hk,rfl,.al (hv _ h1) .nil,t,by rw[dV];exact hl,by rw[dV];exact hn⟩
     unfold xpA at hx
     split at hx
     ·obtain⟨e,hx⟩:=Ty.at_inv hx
      subst e
      exact fin hr (fun a=>fzA) hx
     ·split at hx
      ·rename_i hg
       obtain⟨e,hx⟩:=Ty.at_inv hx
       subst e
       cases hr with
       | cons hr t =>
         have hi:c.h[_]? = _:=(hl _ _ _ _ _ hg).2
         exact fin (.cons hr t) (fun a hra=>aOz hok hi hra) hx
      ·exact hx.elim
     ·exact fin hr (fun a ha=>by obtain⟨rfl,_⟩:=ha;exact⟨none,_,rfl,⟨lL _,.inl rfl⟩⟩) hx
     ·exact hx.elim
   | _=>exact TL _ hr hl hn hx
 | z =>
   intro T cs azz h used K hr hl hn hx
   cases T with
   | slc T =>
     obtain⟨x,r,h',is,a,a2,k1,k2,k3,_,k4,k5,k6⟩:=aDO T hr hl hn hx
     exact⟨x,r,h',is,[a],a2,k1,k2,k3,k4,k5,k6⟩
   | _=>exact TL _ hr hl hn hx
 | p x y ihx ihy =>
   intro T cs azz h used K hr hl hn hx
   cases T with
   | pair A B =>
     unfold xpA at hx
     obtain⟨u,r,h1,is,a1,a2,k1,rfl,k3,k4,k5,k6⟩:=ihx A hr hl hn hx
     obtain⟨v,r',h2,js,b1,b2,g1,rfl,g3,g4,g5,g6⟩:=ihy B k4 k5 k6 k1
     exact⟨(u,v),r',h2,is++js,a1++b1,b2,g1,by rw[gZ],k3.app g3,g4,by rw[<- gZ];exact g5,by rw[<- gZ];exact g6⟩
   | _=>exact TL _ hr hl hn hx
theorem aJc {v:VV}{a:Value}(hv:okL v=true)(h:R2 c v a):RL c v a:=by
 cases v <;> first|exact h|cases hv
theorem aEn {F0:Fz}{H0 H:aE}(hok':Ok F0 H0 c H):∀ (rt:UX) (al:List Al) {vs:List VV} {azz:List Value} {h:List VO} {used:List Nat} {K:aG6 rt->Prop},All2 (R2 c) vs azz->Left c h used->used.Nodup->aB4 rt al vs h K ->
 ∃ x is,K x/\XZ c (pE rt al x) is azz/\(used++is).Nodup:=by
 intro rt
 induction rt with
 | nil =>
   intro al vs azz h used K hr hl hn hx
   unfold aB4 at hx
   split at hx
   ·cases hr;exact⟨(),[],hx,.nil,by rw[dV];exact hn⟩
   ·exact hx.elim
 | cons p rt ih =>
   obtain⟨g,T⟩:=p
   intro al vs azz h used K hr hl hn hx
   unfold aB4 at hx
   split at hx
   ·rename_i v r
    split at hx
    ·rename_i hg
     cases hr with
     | cons hv t =>
       rename_i a azz
       cases g with
       | true =>
         cases v with
         | agg l =>
           obtain⟨bs,rfl,h2⟩:=aAC hv
           obtain⟨x,left,h1,is,a1,a2,k1,k2,k3,k4,k5,k6⟩:=aCc hok' (al.headD .n) T h2 hl hn hx
           split at k1
           ·cases k4
            rw[dV]at k2
            subst k2
            obtain⟨y,js,g1,g2,g3⟩:=ih al.tail t k5 k6 k1
            refine⟨(x,y),is++js,g1,?_,by rw[<- gZ];exact g3⟩
            have e0:zmk true (al.headD .n) T=[]:=by cases al.headD .n <;> rfl
            show XZ c ((true,aDV (al.headD .n) T x++zmk true (al.headD .n) T)::pE rt al.tail y) _ _
            rw[e0,dV]
            have:=XZ.s (XS.agg k3 .nil) g2
            rwa [dV]at this
           ·exact k1.elim
         | _=>cases hg.1
       | false =>
         have hok:okL v=true:=hg.2.resolve_left (by simp)
         have hleaf:=aJc hok hv
         have hvc:f6 v=[v]:=by cases v <;> first|rfl|cases hok
         rw[hvc]at hx
         by_cases hzz:∃ T',al.headD .n = .z/\T = .slc T'
         ·obtain⟨T',e1,rfl⟩:=hzz
          rw[e1]at hx
          obtain⟨x,left,h1,is,a1,a2,k1,k2,k3,kz,k4,k5,k6⟩:=aDO T' (.cons hleaf .nil) hl hn hx
          split at k1
          ·cases k4
           cases k2
           obtain⟨y,js,g1,g2,g3⟩:=ih al.tail t k5 k6 k1
           refine⟨(x,y),is++js,g1,?_,by rw[<- gZ];exact g3⟩
           show XZ c ((false,aDV (al.headD .n) (.slc T') x++zmk false (al.headD .n) (.slc T'))::pE rt al.tail y) _ _
           rw[e1]
           exact .z k3 kz g2
          ·exact k1.elim
         have e0:zmk false (al.headD .n) T=[]:=by
          cases e1:al.headD .n <;> cases T <;> first|rfl|exact absurd ⟨_,e1,rfl⟩ hzz
         obtain⟨x,left,h1,is,a1,a2,k1,k2,k3,k4,k5,k6⟩:=aCc hok' (al.headD .n) T (.cons hleaf .nil) hl hn hx
         split at k1
         ·cases k4
          rw[dV]at k2
          subst k2
          obtain⟨y,js,g1,g2,g3⟩:=ih al.tail t k5 k6 k1
          have hlen:=k3.len
          match he:aDV (al.headD .n) T x with
          | [z] =>
            rw[he]at k3
            refine⟨(x,y),is++js,g1,?_,by rw[<- gZ];exact g3⟩
            show XZ c ((false,aDV (al.headD .n) T x++zmk false (al.headD .n) T)::pE rt al.tail y) _ _
            rw[e0,he,dV]
            have:=XZ.s (XS.one k3 .nil) g2
            rwa [dV]at this
          | []=>rw[he]at hlen;simp at hlen
          | _::_::_=>grind
         ·exact k1.elim
    ·exact hx.elim
   ·exact hx.elim
theorem aGr (args:List Value):∀ d,start args.toArray d=args.getD d undef:=by
 intro d
 unfold start
 rw[DC,aW]
 simp
theorem aCs {R:VV->Value->Prop}(hu:∀ a,R .undef a):∀ {vs:List VV} {azz:List Value} (k:Nat),All2 R vs azz->∀ d,k<=d->R (eG (YW (List.range' k vs.length) vs) d) (azz.getD (d-k) undef)
 | [],[],k,.nil,d,_=>hu _
 | v::vs,a::azz,k,.cons h t,d,hd=>by
   show R (if k=d then v else eG (YW (List.range' (k+1) vs.length) vs) d) _
   by_cases e:k=d
   ·rw[aB e,show d-k=0 by omega];exact h
   ·rw[aA e,show d-k=(d-(k+1))+1 by omega,List.getD_cons_succ]
    exact aCs hu (k+1) t d (by omega)
theorem ZX {vs:List VV}{azz:List Value}(h:All2 (R2 c) vs azz):Tok c (ON vs) (start azz.toArray):=by
 intro d
 rw[aGr]
 unfold ON
 rw[List.range_eq_range']
 have:=aCs (R:=R2 c) (fun _=>trivial) 0 h d (lL _)
 rwa [Nat.sub_zero]at this
theorem aHj (F:Fz)(H:aE)(hs:Nat->Value->Prop)(hF:∀ b B,F b=some B->blk? H b=some B):Ok F H (SP F H hs) H where
 n0:=rfl
 pre:=Pre.refl H
 fz:=hF
 low:=fun b _=>rfl
 obj:=fun i o h=>by simp[SP]at h
 inj:=fun i j b _ h=>by cases h
 bj:=fun i j b _ _ h=>by cases h
 dom:=fun _ _=>rfl
theorem aGZ {ct:Tab}{en:Ends}{f:FuncId}{fn:Func}{cd:Code}{rt:UX}(al:List Al){args:List VV}{Q:List (Bool×List VV)->Prop}
 (hf:G.P.funcs[f]? = some fn) (hb:bod fn=some cd) (hfo:okF f fn cd=true) (hsz:args.length<=fn.ntmps) (htab:aAY G ct en cd) (hO:∀ f args Q,G.O f args Q->sD G.P f args Q) (hI:∀ J,G.I=some J->dH G.P J)
 (hv:aGv G ct en fn cd rt al args fun r=>Q (pE rt al r)):sD G.P f args Q:=by
 intro F fl H azz hF hfl ha
 refine aJq hf hb hfo (by simp;rw[<- ha.len];exact hsz) ?_
 have hco:jG fn.ntmps cd=true:=by
  have hfo:=ZK hfo
  unfold S0 at hfo
  simp only[aK]at hfo
  exact hfo.1.1
 have hr:E9 F H U1 ⟨ON args,[]⟩ (start azz.toArray) H:=⟨SP F H U1,rfl,rfl,aHj F H U1 hF,ZX ha⟩
 have he:aNS G H U1 fl:=⟨hO,hfl,hI⟩
 unfold aGv at hv
 have key:∃ s',E9 F H U1 s' (start azz.toArray) H/\vwp G ct en cd 1 s' (fun e s=>match e with
  | .normal | .ret=>ZJ G s fn.results.toList fun vs=>aB4 rt al vs s.h fun r=>Q (pE rt al r)
  | _=>False):=by
  unfold HB at hv
  split at hv
  ·rename_i E hE
   obtain⟨y,h1,h2⟩:=SC hr hv
   exact⟨_,h2,(htab 1 E hE 1 cd rfl y _ h1).it⟩
  ·exact⟨_,hr,hv⟩
 obtain⟨s',hr',hv'⟩:=key
 refine aCn (n:=fn.ntmps) he htab cd 1 (aJ _) ⟨1,rfl⟩ hco hr' hv' ?_
 intro e s2 ta2 H2 hr2 hk
 have fin:(ZJ G s2 fn.results.toList fun vs=>aB4 rt al vs s2.h fun r=>Q (pE rt al r))->∃ vs,iQ G.P ta2 H2 fn.results.toList=some vs/\∃ sl,Q sl/\aMd F H H2 sl (GX vs):=by
  intro hk
  obtain⟨c2,hc2,hrel⟩:=hr2
  obtain⟨vs,as2,h1,h2,h3⟩:=L4 hrel hk
  obtain⟨x,is,g1,g2,g3⟩:=aEn hrel.2.1 rt al (h:=s2.h) (used:=[]) h2 (fun i q t l fr e=>⟨by simp,by rw[hrel.1];exact g0 e (by intro e;cases e)⟩) List.nodup_nil h1
  exact⟨as2,h3,_,g1,.inl ⟨c2,is,as2,hrel.2.1,g2,by simpa using g3,rfl⟩⟩
 cases e with
 | normal=>exact fin hk
 | ret=>exact fin hk
 | _=>exact hk.elim
theorem aCo:∀ (a b:List (Nat×VV)) (i:Nat),eG (a++b) i=if (a.any fun p=>p.1==i)=true then eG a i else eG b i
 | [],b,i=>by simp
 | (d,v)::a,b,i=>by
   show(if d=i then v else eG (a++b) i)=_
   by_cases e:d=i
   ·rw[aB e,aB (by simp[e])]
    show v=if d=i then v else eG a i
    rw[aB e]
   ·rw[aA e,aCo a b i]
    have h1:((d,v)::a).any (fun p=>p.1==i)=a.any fun p=>p.1==i:=by simp[e]
    rw[h1]
    show _=if _ then(if d=i then v else eG a i)else _
    rw[aA e]
theorem aA7:∀ (a:List (Nat×VV)) (i:Nat),(a.any fun p=>p.1==i)=false->eG a i = .undef
 | [],_,_=>rfl
 | (d,v)::a,i,h=>by
   simp only[List.any_cons,eI,beq_eq_false_iff_ne]at h
   show(if d=i then v else eG a i)=_
   rw[aA h.1]
   exact aA7 a i h.2
theorem X1 (n:Nat):∀ (a:List (Nat×VV)) (i:Nat),eG (R9 n a) (i+n)=eG a i
 | [],_=>rfl
 | (d,v)::a,i=>by
   show(if d+n=i+n then v else eG (R9 n a) (i+n))=if d=i then v else eG a i
   rw[X1 n a i]
   by_cases e:d=i
   ·rw[aB e,aB (by omega)]
   ·rw[aA e,aA (by omega)]
theorem PG (n:Nat):∀ (a:List (Nat×VV)) (i:Nat),i<n->eG (R9 n a) i = .undef
 | [],_,_=>rfl
 | (d,v)::a,i,h=>by
   show(if d+n=i then v else eG (R9 n a) i)=_
   rw[aA (by omega)]
   exact PG n a i h
theorem IE (n:Nat):∀ (a:List (Nat×VV)) (i:Nat),eG (wM n a) i=eG a (i+n)
 | [],_=>rfl
 | (d,v)::a,i=>by
   unfold wM
   by_cases h:n<=d
   ·rw[aB h]
    show(if d-n=i then v else eG (wM n a) i)=if d=i+n then v else eG a (i+n)
    rw[IE n a i]
    by_cases e:d=i+n
    ·rw[aB e,aB (by omega)]
    ·rw[aA e,aA (by omega)]
   ·rw[aA h,IE n a i]
    show _=if d=i+n then v else eG a (i+n)
    rw[aA (by omega)]
theorem aEi (args:List VV):∀ i,((ON args).any fun p=>p.1==i)=true->i<args.length:=by
 intro i h
 rw[HQ]at h
 obtain⟨p,hp,hi⟩:=h
 have:∀ (ks:List Nat) (vs:List VV) (p:Nat×VV),p∈YW ks vs->p.1∈ks:=by
  intro ks
  induction ks with
  | nil=>intro vs p hp;cases vs <;> simp[YW]at hp
  | cons k ks ih =>
    intro vs p hp
    cases vs with
    | nil=>simp[YW]at hp
    | cons v vs =>
      simp only[YW,S9]at hp
      grind
 have h2:=this _ _ _ hp
 grind
theorem aNo {v:VV}{a:Value}(hv:r1B v=true)(h:R2 c v a):R1 c v a:=by
 cases v <;> first|exact h|cases hv
theorem aHv:∀ {vs:List VV} {azz:List Value},vs.all r1B=true->All2 (R2 c) vs azz->All2 (R1 c) vs azz
 | [],_,_,.nil => .nil
 | _::_,_,hv,.cons h t=>by
   simp only[List.all_cons,aK]at hv
   exact .cons (aNo hv.1 h) (aHv hv.2 t)
theorem UB {P:Program}{t t2:aM}{m:Nat}:∀ {rs:List ResultVar},(rs.all fun | .tmp d=>d<m | .cell d _=>d<m)=true->Agree m t t2->iQ P t H rs=iQ P t2 H rs
 | [],_,_=>rfl
 | r::rs,h,ha=>by
   simp only[List.all_cons,aK]at h
   simp only[iQ]
   rw[UB h.2 ha]
   cases r with
   | tmp d=>simp only[yF];rw[ha d (of_decide_eq_true h.1)]
   | cell d ty=>simp only[yF];rw[ha d (of_decide_eq_true h.1)]
theorem aNR {G1:Cfg}{ct:Tab}{en:Ends}{F:FuncId}{fn:Func}{cd:Code}
 (hf:G1.P.funcs[F]? = some fn) (hb:bod fn=some cd) (hfo:okF F fn cd=true) (htab:aAY G1 ct en cd) (hO:∀ f args Q,G1.O f args Q->sD G1.P f args Q) (hI:∀ J,G1.I=some J->dH G1.P J) :
 dH G1.P ⟨fun g=>g==F,fun _ args s k=>aDs G1 ct en fn cd args s k⟩:=by
 intro g args s k hB hr F0 H0 c H fl ta az hrel hfl ha
 have hg:g=F:=by simpa using hB
 subst hg
 have hr:aDs G1 ct en fn cd args s k:=hr
 unfold aDs at hr
 split at hr
 case isFalse=>exact hr.elim
 rename_i hlen
 refine aJq hf hb hfo (by simp;rw[<- ha.len];exact hlen) ?_
 have hco:jG fn.ntmps cd=true:=by
  have hfo:=ZK hfo
  unfold S0 at hfo
  simp only[aK]at hfo
  exact hfo.1.1
 have hres:(fn.results.toList.all fun | .tmp d=>d<fn.ntmps | .cell d _=>d<fn.ntmps)=true:=by
  have hfo:=ZK hfo
  unfold S0 at hfo
  simp only[aK]at hfo
  exact hfo.2
 generalize hn:fn.ntmps=n at *
 let t2:aM:=fun i=>if i<n then start az.toArray i else ta (i-n)
 have htok:Tok c (ON args++R9 n s.t) t2:=by
  intro i
  rw[aCo]
  by_cases hi:i<n
  ·have e2:t2 i=start az.toArray i:=aB hi
   rw[e2]
   have h1:=ZX ha i
   split
   ·exact h1
   ·rename_i hk
    rw[PG n s.t i hi]
    rw[aA7 _ _ (Bool.eq_false_iff.2 hk)]at h1
    exact h1
  ·have e2:t2 i=ta (i-n):=aA hi
   rw[e2]
   split
   ·rename_i hk
    have:=aEi args i hk
    omega
   ·have:=X1 n s.t (i-n)
    rw[show i-n+n=i by omega]at this
    rw[this]
    exact hrel.2.2 (i-n)
 have hr0:E9 F0 H0 c.hs ⟨ON args++R9 n s.t,s.h⟩ t2 H:=⟨c,rfl,hrel.1,hrel.2.1,htok⟩
 have he:aNS G1 H0 c.hs fl:=⟨hO,hfl,hI⟩
 have key:∃ s',E9 F0 H0 c.hs s' t2 H/\vwp G1 ct en cd 1 s' (fun e s2=>match e with
  | .normal | .ret=>ZJ G1 s2 fn.results.toList fun vs=>if vs.all r1B=true then k (Z0 vs) ⟨wM n s2.t,s2.h⟩else False
  | _=>False):=by
  unfold HB at hr
  split at hr
  ·rename_i E hE
   obtain⟨y,h1,h2⟩:=SC hr0 hr
   exact⟨_,h2,(htab 1 E hE 1 cd rfl y _ h1).it⟩
  ·exact⟨_,hr0,hr⟩
 obtain⟨s',hr',hv'⟩:=key
 have hW:W G1.P fl cd t2 H fun e ta' H'=>∃ s2,E9 F0 H0 c.hs s2 ta' H'/\(match e with
  | .normal | .ret=>ZJ G1 s2 fn.results.toList fun vs=>if vs.all r1B=true then k (Z0 vs) ⟨wM n s2.t,s2.h⟩else False
  | _=>False):=aCn (n:=n) he htab cd 1 (aJ _) ⟨1,rfl⟩ hco hr' hv' fun e s2 ta' H' h1 h2=>⟨s2,h1,h2⟩
 have hF:=aLQ (t:=start az.toArray) hco (fun i hi=>(aB hi).symm) hW
 obtain⟨N,e,t',H',h1,t2',h2,h3,s2,⟨c2,q1,q2⟩,h5⟩:=hF
 refine⟨N,e,t',H',h1,?_⟩
 have fin:(ZJ G1 s2 fn.results.toList fun vs=>if vs.all r1B=true then k (Z0 vs) ⟨wM n s2.t,s2.h⟩else False)->∃ vs,iQ G1.P t' H' fn.results.toList=some vs/\∃ vv s2 c2,c2.hs=c.hs/\Rel F0 H0 c2 s2 ta H'/\R2 c2 vv (GX vs)/\k vv s2:=by
  intro hk
  obtain⟨vs,as2,g1,g2,g3⟩:=L4 q2 hk
  split at g1
  case isFalse=>exact g1.elim
  rename_i hvs
  refine⟨as2,(UB hres h2).trans g3,Z0 vs,⟨wM n s2.t,s2.h⟩,c2,q1,⟨q2.1,q2.2.1,fun i => ?_⟩,WG (aHv hvs g2),g1⟩
  have h6:=q2.2.2 (i+n)
  rw[h3 (i+n) (by omega)]at h6
  have e2:t2 (i+n)=ta i:=by
   show(if i+n<n then _ else ta (i+n-n))=ta i
   rw[aA (by omega),CB]
  have h6:R2 c2 (eG s2.t (i+n)) (t2 (i+n)):=h6
  rw[e2]at h6
  rw[IE]
  exact h6
 cases e with
 | normal=>exact fin h5
 | ret=>exact fin h5
 | _=>exact h5.elim
def aAb (J K:Inl):Inl:=⟨fun g=>J.B g||K.B g,fun g a s k=>match J.B g with
 | true=>J.run g a s k
 | false=>K.run g a s k⟩
theorem aHl {P:Program}{J K:Inl}(hJ:dH P J)(hK:dH P K):dH P (aAb J K):=fun g args s k hB hr=>by
 have hB:(J.B g||K.B g)=true:=hB
 have hr:(match J.B g with
  | true=>J.run g args s k
  | false=>K.run g args s k):=hr
 cases h:J.B g with
 | true=>rw[h]at hr;exact hJ g args s k h hr
 | false =>
   rw[h]at hr hB
   exact hK g args s k (by simpa using hB) hr
theorem aIs {ct:Tab}{en:Ends}{f:FuncId}{fn:Func}{cd:Code}{rt:UX}(al:List Al){args:List VV}{Q:List (Bool×List VV)->Prop}{R:Prop}
 (hf:G.P.funcs[f]? = some fn) (hb:bod fn=some cd) (hfo:okF f fn cd=true) (hsz:args.length<=fn.ntmps) (htab:aAY G ct en cd) (hO:∀ f args Q,G.O f args Q->sD G.P f args Q) (hI:∀ J,G.I=some J->dH G.P J)
 (h:R) (e:(aGv G ct en fn cd rt al args fun r=>Q (pE rt al r))=R):sD G.P f args Q :=
 aGZ al hf hb hfo hsz htab hO hI (e.symm▸h)
theorem aK5 {ct:Tab}{en:Ends}{cd:Code}{m:Nat}{s:VS}{k:gT->VS->Prop}{R:Prop}(h:R)(e:vwp G ct en cd m s k=R):Tl (vwp G ct en cd m s k):=⟨e.symm▸h⟩
theorem Loop.map {S S':Type}{σ:S->S'}{B:S->(S->Prop)->Prop}{B':S'->(S'->Prop)->Prop}(h:∀ s X,B s (fun s=>X (σ s))->B' (σ s) X){s:S}(hl:Loop B s):Loop B' (σ s) :=
 fun X hX=>hl (fun s=>X (σ s)) fun s hs=>hX _ (h s X hs)
theorem Loop.inv {S:Type}{B:S->(S->Prop)->Prop}(I:Nat->S->Prop){n:Nat}{s:S}(h0:I n s)(step:∀ n s X,I n s->(∀ m s',m<n->I m s'->X s')->B s X):Loop B s:=by
 intro X hX
 have:∀ n s,I n s->X s:=by
  intro n
  induction n using Nat.strongRecOn with
  | _ n ih=>grind
 exact this n s h0
theorem aJY {S:Type}{ct:Tab}{en:Ends}{m:Nat}{s:VS}{k:gT->VS->Prop}{cd b:Code}(hu:G.un=0)(hc:cd = .loop b)(σ:S->VS)(y0:S){B:S->(S->Prop)->Prop}(hs:GL en m s=σ y0)
 (hB:∀ y X,LB k en m (HB ct (2*m) (vwp G ct en b (2*m))) (σ y) X=B y fun y=>X (σ y)) (h:Loop B y0):Tl (vwp G ct en cd m s k):=by
 subst hc
 refine⟨?_⟩
 simp only[vwp,hu]
 rw[hs]
 exact Loop.map (fun y X hb=>by rw[hB];exact hb) h
theorem yH {S:Type}{ct:Tab}{en:Ends}{f m:Nat}{s:VS}{k:gT->VS->Prop}{root c:Code}(hu:G.un=0)(hs:pR f root m=some c)(hc:pR 70 root m=some (.loop ((pR 70 root (2*m)).getD .skip)))(σ:S->VS)(y0:S){B:S->(S->Prop)->Prop}(h1:GL en m s=σ y0)
 (h2:∀ y X,LB k en m (HB ct (2*m) (vwp G ct en ((pR 70 root (2*m)).getD .skip) (2*m))) (σ y) X=B y fun y=>X (σ y)) (h:Loop B y0):Tl (vwp G ct en c m s k) :=
 aJY hu (aEp hs hc) σ y0 h1 h2 h
theorem aCq {ct:Tab}{en:Ends}{f m:Nat}{s:VS}{k:gT->VS->Prop}{root c:Code}(hs:pR f root m=some c){R:Prop}(hc:pR 70 root m=some ((pR 70 root m).getD .skip))(e:vwp G ct en ((pR 70 root m).getD .skip) m s k=R)(h:R):Tl (vwp G ct en c m s k):=by
 have:=aEp hs hc
 subst this
 exact aK5 h e
theorem aHb {c:Ctx}{x:Lf}{v:VV}{a:Value}{K:x.den->Prop}(hr:R2 c v a)(h:TR x v K):∃ d,K d/\R2 c (XX x d) a:=by
 unfold TR at h
 split at h
 ·split at h
  ·obtain⟨e,h⟩:=Ty.at_inv h
   subst e
   exact⟨_,h,hr⟩
  ·obtain⟨rfl,_⟩:=fY hr
   exact⟨[],h,none,_,rfl,⟨lL _,.inl rfl⟩⟩
  ·exact h.elim
 ·obtain⟨d,rfl,h1⟩:=JH h
  exact⟨d,h1,hr⟩
theorem WW {c:Ctx}{x:Lf}{v:VV}{a:Value}{K:x.den->Prop}(hr:RL c v a)(h:TR x v K):∃ d,K d/\RL c (XX x d) a:=by
 unfold TR at h
 split at h
 ·split at h
  ·obtain⟨e,h⟩:=Ty.at_inv h
   subst e
   exact⟨_,h,hr⟩
  ·obtain⟨rfl,_⟩:=hr
   exact⟨[],h,none,_,rfl,⟨lL _,.inl rfl⟩⟩
  ·exact h.elim
 ·obtain⟨d,rfl,h1⟩:=JH h
  exact⟨d,h1,hr⟩
theorem EF {c:Ctx}:∀ {l:List Lf} {vs:List VV} {azz:List Value} {K:aBV l->Prop},All2 (RL c) vs azz->aEz l vs K->∃ d,K d/\All2 (RL c) (XF l d) azz
 | [],vs,azz,K,hr,h=>by
   unfold aEz at h
   split at h
   ·exact⟨(),h,hr⟩
   ·exact h.elim
 | x::l,vs,azz,K,hr,h=>by
   unfold aEz at h
   split at h
   ·cases hr with
    | cons hr t =>
      obtain⟨a,h1,h2⟩:=WW hr h
      obtain⟨b,h3,h4⟩:=EF t h1
      exact⟨(a,b),h3,.cons h2 h4⟩
   ·exact h.elim
theorem aFy {c:Ctx}{x:Lf}{v:VV}{a:Value}{K:x.den->Prop}(hr:R1 c v a)(h:TR x v K):∃ d,K d/\R1 c (XX x d) a:=by
 have:∃ d,K d/\RL c (XX x d) a:=by
  refine WW ?_ h
  cases v <;> first|exact hr|skip
  ·exfalso
   cases x <;> simp[TR,unF,aDD,aBM]at h
   rename_i o t;cases o <;> simp[TR,unF]at h
  ·exfalso
   cases x <;> simp[TR,unF,aDD,aBM]at h
   rename_i o t;cases o <;> simp[TR,unF]at h
  ·exfalso
   cases x <;> simp[TR,unF,aDD,aBM]at h
   rename_i o t;cases o <;> simp[TR,unF]at h
 obtain⟨d,k1,k2⟩:=this
 exact⟨d,k1,aFN k2⟩
theorem aFf {c:Ctx}{x:Cp}{v:VV}{a:Value}{K:x.den->Prop}(hr:R1 c v a)(h:aKN x v K):∃ d,K d/\R1 c (aGW x d) a:=by
 unfold aKN at h
 split at h
 ·exact aFy hr h
 ·split at h
  ·obtain⟨azz,h1,h2⟩:=hr
   obtain⟨d,k1,k2⟩:=EF h2 h
   exact⟨d,k1,azz,h1,k2⟩
  ·exact h.elim
 ·split at h
  ·obtain⟨b,B,h1,h2,h3⟩:=hr
   obtain⟨d,k1,k2⟩:=EF h3 h
   exact⟨d,k1,b,B,h1,h2,k2⟩
  ·exact h.elim
theorem aAA {c:Ctx}:∀ {l:List Cp} {vs:List VV} {azz:List Value} {K:aH3 l->Prop},All2 (R1 c) vs azz->aKY l vs K->∃ d,K d/\All2 (R1 c) (aHz l d) azz
 | [],vs,azz,K,hr,h=>by
   unfold aKY at h
   split at h
   ·exact⟨(),h,hr⟩
   ·exact h.elim
 | x::l,vs,azz,K,hr,h=>by
   unfold aKY at h
   split at h
   ·cases hr with
    | cons hr t =>
      obtain⟨a,h1,h2⟩:=aFf hr h
      obtain⟨b,h3,h4⟩:=aAA t h1
      exact⟨(a,b),h3,.cons h2 h4⟩
   ·exact h.elim
theorem aFz {c:Ctx}{x:Sh}{v:VV}{a:Value}{K:x.den->Prop}(hr:R2 c v a)(h:aK0 x v K):∃ d,K d/\R2 c (aGp x d) a:=by
 unfold aK0 at h
 split at h
 ·exact aHb hr h
 ·split at h
  ·obtain⟨azz,rfl,h2⟩:=aAC hr
   obtain⟨d,k1,k2⟩:=EF h2 h
   exact⟨d,k1,azz,rfl,k2⟩
  ·exact h.elim
 ·split at h
  ·obtain⟨b,B,rfl,h2,h3⟩:=aHt hr
   obtain⟨d,k1,k2⟩:=EF h3 h
   exact⟨d,k1,b,B,rfl,h2,k2⟩
  ·exact h.elim
 ·split at h
  ·split at h
   ·rename_i e
    subst e
    obtain⟨azz,e1,h2⟩:=hr
    obtain⟨d,k1,k2⟩:=aAA h2 h
    exact⟨d,k1,azz,e1,k2⟩
   ·exact h.elim
  ·exact h.elim
theorem aCl {c:Ctx}:∀ {l:List Sh} {vs:List VV} {azz:List Value} {K:C7 l->Prop},All2 (R2 c) vs azz->unA l vs K->∃ d,K d/\All2 (R2 c) (DD l d) azz
 | [],vs,azz,K,hr,h=>by
   unfold unA at h
   split at h
   ·exact⟨(),h,hr⟩
   ·exact h.elim
 | x::l,vs,azz,K,hr,h=>by
   unfold unA at h
   split at h
   ·cases hr with
    | cons hr t =>
      obtain⟨a,h1,h2⟩:=aFz hr h
      obtain⟨b,h3,h4⟩:=aCl t h1
      exact⟨(a,b),h3,.cons h2 h4⟩
   ·exact h.elim
theorem aFJ {P:Program}{O:FuncId->List VV->(List (Bool×List VV)->Prop)->Prop}(hO:∀ f args Q,O f args Q->sD P f args Q){f0:FuncId}(sh:List Sh)(D:C7 sh->(List (Bool×List VV)->Prop)->Prop)(hD:∀ x Q,D x Q->sD P f0 (DD sh x) Q) :
 ∀ f args Q,(if f=f0 then unA sh args (fun x=>D x Q)else O f args Q)->sD P f args Q:=by
 intro f args Q h
 by_cases e:f=f0
 ·rw[aB e]at h
  subst e
  intro F fl H azz hF hfl ha
  obtain⟨d,h1,h2⟩:=aCl ha h
  exact hD d Q h1 F fl H azz hF hfl h2
 ·rw[aA e]at h
  exact hO f args Q h
theorem aJR {P:Program}{O:FuncId->List VV->(List (Bool×List VV)->Prop)->Prop}(hO:∀ f args Q,O f args Q->sD P f args Q){f0:FuncId}(gs:List Nat)(sh:List Sh)(D:C7 sh->(List (Bool×List VV)->Prop)->Prop)(hD:∀ x Q,D x Q->sD P f0 (DD sh x) Q) :
 ∀ f args Q,(if f=f0 then(if aMU (aFU args) gs=true then unA sh args (fun x=>D x Q)else O f args Q)else O f args Q)->sD P f args Q:=by
 intro f args Q h
 by_cases e:f=f0
 ·rw[aB e]at h
  by_cases e2:aMU (aFU args) gs=true
  ·rw[aB e2]at h
   exact aFJ hO sh D hD f args Q (by rw[aB e];exact h)
  ·rw[aA e2]at h
   exact hO f args Q h
 ·rw[aA e]at h
  exact hO f args Q h
structure Tb (P:Program) where
 O:FuncId->List VV->QT->Prop
 ok:∀ f args Q,O f args Q->sD P f args Q
def Tb.none {P:Program}:Tb P:=⟨fun _ _ _=>False,fun _ _ _ h=>h.elim⟩
def Tb.add {P:Program}(t:Tb P)(f0:FuncId)(sh:List Sh){D:C7 sh->QT->Prop}(hD:∀ x Q,D x Q->sD P f0 (DD sh x) Q):Tb P :=
 ⟨fun f args Q=>if f=f0 then unA sh args (fun x=>D x Q)else t.O f args Q,aFJ t.ok sh D hD⟩
def Tb.addF {P:Program}(t:Tb P)(f0:FuncId)(gs:List Nat)(sh:List Sh){D:C7 sh->QT->Prop}(hD:∀ x Q,D x Q->sD P f0 (DD sh x) Q):Tb P :=
 ⟨fun f args Q=>if f=f0 then(if aMU (aFU args) gs=true then unA sh args (fun x=>D x Q)else t.O f args Q)else t.O f args Q,aJR t.ok gs sh D hD⟩
@[reducible] def Tb.cfg {P:Program} (t:Tb P) (tt:TypeId->Option Ty) (I:Option Inl) (hv:Bool) (un:Nat):Cfg:=⟨P,tt,t.O,fun _ _ _=>False,I,hv,un⟩
theorem Tb.told {P:Program}(t:Tb P){tt:TypeId->Option Ty}{I:Option Inl}{hv:Bool}{un:Nat}{ct:Tab}{en:Ends}{f:FuncId}{fn:Func}{cd:Code}{rt:UX}(al:List Al){args:List VV}{Q:QT}{R:Prop}(hI:∀ J,I=some J->dH P J)(htab:aAY (t.cfg tt I hv un) ct en cd)
 (hf:P.funcs[f]? = some fn) (hb:bod fn=some cd) (hfo:okF f fn cd=true) (hsz:args.length<=fn.ntmps) (h:R) (e:(aGv (t.cfg tt I hv un) ct en fn cd rt al args fun r=>Q (pE rt al r))=R):sD P f args Q :=
 aIs (G:=t.cfg tt I hv un) al hf hb hfo hsz htab t.ok hI h e
theorem hI0 {P:Program}:∀ J,(Option.none:Option Inl)=some J->dH P J:=fun J h=>by cases h
theorem hI1 {P:Program}{K:Inl}(h:dH P K):∀ J,some K=some J->dH P J:=fun J e=>by cases e;exact h
abbrev bd (fn:Func):Code:=(bod fn).getD .skip
def lk:List (Nat×Ent)->Tab
 | []=>fun _ => .none
 | p::l=>fun n=>if n=p.1 then some p.2 else lk l n
def EOk (G:Cfg)(ct:Tab)(en:Ends)(root:Code)(p:Nat×Ent):Prop :=
 ∀ f c,pR f root p.1=some c->∀ x k,p.2.P x k->Tl (vwp G ct en c p.1 (aDg p.2.live p.2.sh p.2.ob x) k)
def aHF (G:Cfg)(ct:Tab)(en:Ends)(root:Code):List (Nat×Ent)->Prop
 | []=>True
 | p::l=>EOk G ct en root p/\aHF G ct en root l
theorem aM6 {G:Cfg}{ct:Tab}{en:Ends}{root:Code}:∀ {l:List (Nat×Ent)},aHF G ct en root l->∀ n E,lk l n=some E->EOk G ct en root (n,E)
 | [],_,n,E,e=>by cases e
 | p::l,⟨h1,h2⟩,n,E,e=>by
   unfold lk at e
   split at e
   ·rename_i hn;subst hn;cases e;exact h1
   ·exact aM6 h2 n E e
theorem aOy {G:Cfg}{en:Ends}{root:Code}{l:List (Nat×Ent)}(h:aHF G (lk l) en root l):aAY G (lk l) en root :=
 fun n E e f c hs x k hp=>aM6 h n E e f c hs x k hp
theorem aH {G:Cfg}{S:Type}{ct:Tab}{en:Ends}{f m:Nat}{k:gT->VS->Prop}{root c:Code}{live:List Nat}{sh:List Sh}{ob:List OSh}{x:C7 sh×aBz ob}(hs:pR f root m=some c)(u:S->C7 sh×aBz ob)(y0:S){B:S->(S->Prop)->Prop}(h:Loop B y0)
 (hc:pR 70 root m=some (.loop ((pR 70 root (2*m)).getD .skip)):=by kernel_rfl) (h1:GL en m (aDg live sh ob x)=aDg live sh ob (u y0):=by kernel_rfl)
 (h2:∀ y X,LB k en m (HB ct (2*m) (vwp G ct en ((pR 70 root (2*m)).getD .skip) (2*m))) (aDg live sh ob (u y)) X=B y fun y=>X (aDg live sh ob (u y)):=by intros;kernel_rfl) (hu:G.un=0:=by rfl):Tl (vwp G ct en c m (aDg live sh ob x) k) :=
 yH hu hs hc (fun y=>aDg live sh ob (u y)) y0 h1 h2 h
theorem dS {G:Cfg}{S:Type}{ct:Tab}{en:Ends}{f m:Nat}{k:gT->VS->Prop}{root c:Code}{s:VS}(hs:pR f root m=some c)(σ:S->VS)(y0:S){B:S->(S->Prop)->Prop}(h:Loop B y0)
 (hc:pR 70 root m=some (.loop ((pR 70 root (2*m)).getD .skip)):=by kernel_rfl) (h1:GL en m s=σ y0:=by kernel_rfl)
 (h2:∀ y X,LB k en m (HB ct (2*m) (vwp G ct en ((pR 70 root (2*m)).getD .skip) (2*m))) (σ y) X=B y fun y=>X (σ y):=by intros;kernel_rfl) (hu:G.un=0:=by rfl):Tl (vwp G ct en c m s k) :=
 yH hu hs hc σ y0 h1 h2 h
theorem aR {G:Cfg}{ct:Tab}{en:Ends}{f m:Nat}{s:VS}{k:gT->VS->Prop}{root c:Code}(hs:pR f root m=some c){R:Prop}(h:R)(hc:pR 70 root m=some ((pR 70 root m).getD .skip):=by kernel_rfl)(e:vwp G ct en ((pR 70 root m).getD .skip) m s k=R:=by kernel_rfl):Tl (vwp G ct en c m s k) :=
 aCq hs hc e h
@[reducible] def RD:UX->Type
  | []=>Unit
  | [p]=>p.2.den
  | p::q::l=>p.2.den×RD (q::l)
def RD.up:(rt:UX)->RD rt->aG6 rt
 | [],_=>()
 | [_],r=>(r,())
 | _::q::l,r=>(r.1,RD.up (q::l) r.2)
theorem aCi:∀ (sh:List Sh) (x:C7 sh),(DD sh x).length=sh.length
 | [],_=>rfl
 | _::l,x=>congrArg (· + 1) (aCi l x.2)
theorem aHc {P:Program}(t:Tb P){tt:TypeId->Option Ty}{I:Option Inl}{hv:Bool}{un:Nat}{f:FuncId}{fn:Func}(hf:P.funcs[f]? = some fn){res:List Nat}{cos:List (Nat×List Co)}{l:List (Nat×Ent)}{sh:List Sh}{al:List Al}{rt:UX}{D:C7 sh->(RD rt->Prop)->Prop}
 (hI:∀ J,I=some J->dH P J) (htab:aHF (t.cfg tt I hv un) (lk l) (aDh (bd fn) res cos) (bd fn) l)
 (h:∀ x (Q:QT),D x (fun r=>Q (pE rt al (RD.up rt r)))->∃ R:Prop,R/\(aGv (t.cfg tt I hv un) (lk l) (aDh (bd fn) res cos) fn (bd fn) rt al (DD sh x) fun r=>Q (pE rt al r))=R)
 (hb:bod fn=some (bd fn)) (ho:okF f fn (bd fn)=true) (hs:Nat.ble sh.length fn.ntmps=true) (x:C7 sh) (Q:QT) (hx:D x fun r=>Q (pE rt al (RD.up rt r))):sD P f (DD sh x) Q:=by
 obtain⟨R,h1,e⟩:=h x Q hx
 exact t.told al hI (aOy htab) hf hb ho (by rw[aCi];exact Nat.le_of_ble_eq_true hs) h1 e
def Tb.put {P:Program}(t:Tb P)(tt:TypeId->Option Ty)(f:FuncId){fn:Func}(hf:P.funcs[f]? = some fn)(res:List Nat)(cos:List (Nat×List Co))(l:List (Nat×Ent))(sh:List Sh)(al:List Al)(rt:UX)(D:C7 sh->(RD rt->Prop)->Prop)
    (htab:aHF (t.cfg tt .none false 0) (lk l) (aDh (bd fn) res cos) (bd fn) l)
    (h:∀ x (Q:QT),D x (fun r=>Q (pE rt al (RD.up rt r)))->∃ R:Prop,R/\(aGv (t.cfg tt .none false 0) (lk l) (aDh (bd fn) res cos) fn (bd fn) rt al (DD sh x) fun r=>Q (pE rt al r))=R)
    (hb:bod fn=some (bd fn):=by kernel_rfl) (ho:okF f fn (bd fn)=true:=by kernel_rfl) (hs:Nat.ble sh.length fn.ntmps=true:=by kernel_rfl):Tb P :=
 t.add f sh (aHc t hf hI0 htab h hb ho hs)
def Tb.putX {P:Program}(t:Tb P)(tt:TypeId->Option Ty)(f:FuncId){fn:Func}(hf:P.funcs[f]? = some fn)(res:List Nat)(cos:List (Nat×List Co))(l:List (Nat×Ent))(sh:List Sh)(al:List Al)(rt:UX)(D:C7 sh->(RD rt->Prop)->Prop)(gs:List Nat)(I:Option Inl)(hv:Bool)(un:Nat)
    (hI:∀ J,I=some J->dH P J) (htab:aHF (t.cfg tt I hv un) (lk l) (aDh (bd fn) res cos) (bd fn) l)
    (h:∀ x (Q:QT),D x (fun r=>Q (pE rt al (RD.up rt r)))->∃ R:Prop,R/\(aGv (t.cfg tt I hv un) (lk l) (aDh (bd fn) res cos) fn (bd fn) rt al (DD sh x) fun r=>Q (pE rt al r))=R)
    (hb:bod fn=some (bd fn):=by kernel_rfl) (ho:okF f fn (bd fn)=true:=by kernel_rfl) (hs:Nat.ble sh.length fn.ntmps=true:=by kernel_rfl):Tb P :=
 t.addF f gs sh (aHc t hf hI htab h hb ho hs)
def VM (G:Cfg)(f:FuncId)(fn:Func)(l:List (Nat×Ent))(res:List Nat)(cos:List (Nat×List Co)):Inl:=⟨fun g=>g==f,fun _ args s k=>aDs G (lk l) (aDh (bd fn) res cos) fn (bd fn) args s k⟩
theorem xI {G:Cfg}{f:FuncId}{fn:Func}{l:List (Nat×Ent)}{res:List Nat}{cos:List (Nat×List Co)}(hf:G.P.funcs[f]? = some fn)(hO:∀ f args Q,G.O f args Q->sD G.P f args Q)(hI:∀ J,G.I=some J->dH G.P J)
 (htab:aHF G (lk l) (aDh (bd fn) res cos) (bd fn) l) (hb:bod fn=some (bd fn):=by kernel_rfl) (ho:okF f fn (bd fn)=true:=by kernel_rfl):dH G.P (VM G f fn l res cos) :=
 aNR hf hb ho (aOy htab) hO hI
end
end Go.Mach
