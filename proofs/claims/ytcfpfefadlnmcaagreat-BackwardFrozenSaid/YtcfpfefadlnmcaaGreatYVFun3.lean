/- Part of the proof. No condition. -/
import Derived.Test.YtcfpfefadlnmcaaGreatYVHav
import Derived.Test.YtcfpfefadlnmcaaGreatYFrame
import Derived.KernelRfl
namespace Go.Mach
set_option linter.unusedVariables false
set_option linter.unusedSimpArgs false
section
variable {G:Cfg} {F0:Fz} {H0:aB} {c c':Ctx} {H H':aB} {s:VS} {ta:aC} {n fl:Nat} {ops:Array Oper}
def FL (c:Ctx)(b:Nat):Option Nat->Prop
 | some i=>c.ρ i=some b
 | none=>∃ B,c.F b=some B
theorem aFz {v:VV}{a:Value}(h:RL c v a){locs:List (Option Nat)}(hl:IV v=some locs):∀ b∈cZ a,∃ x∈locs,FL c b x:=by
 cases v with
 | pl v =>
   obtain⟨rfl,hp⟩:=h
   intro b hb
   cases a <;> simp only[cZ]at hb <;> try (cases hb;done)
   case pointer x=>cases x with
    | none=>cases hb
    | some _=>cases hp
   case slice x _ _=>cases x with
    | none=>cases hb
    | some _=>cases hp
 | own i =>
   cases hl
   intro b hb
   simp only[RL]at h
   cases hi:c.h[i]? with
   | none=>rw[hi]at h;exact h.elim
   | some o =>
     rw[hi]at h
     refine⟨some i,by simp,?_⟩
     cases o with
     | box _ _=>exact h.elim
     | lst _ _ _ _ =>
       simp only at h
       subst h
       cases hρ:c.ρ i with
       | none=>rw[hρ]at hb;cases hb
       | some b'=>rw[hρ]at hb;simp[sl,cZ]at hb;subst hb;exact hρ
     | dead _ =>
       obtain⟨_,_,rfl⟩:=h
       cases hρ:c.ρ i with
       | none=>rw[hρ]at hb;cases hb
       | some b'=>rw[hρ]at hb;simp[cZ]at hb;subst hb;exact hρ
 | ptr i off =>
   cases hl
   intro b hb
   obtain⟨b',cs,fr,h1,h2,rfl⟩:=h
   simp[cZ]at hb
   subst hb
   exact⟨some i,by simp,h2⟩
 | mptr i off =>
   cases hl
   intro b hb
   rcases h with rfl|⟨b',h1,h2,rfl⟩
   ·cases hb
   ·simp[cZ]at hb
    subst hb
    exact⟨some i,by simp,h1⟩
 | eptr i ix off =>
   cases hl
   intro b hb
   obtain⟨b',h1,h2⟩:=h
   have:b=b':=by
    split at h2
    ·obtain⟨_,rfl⟩:=h2;simpa [cZ] using hb
    ·obtain⟨_,rfl⟩:=h2;simpa [cZ] using hb
    ·exact h2.elim
   subst this
   exact⟨some i,by simp,h1⟩
 | fptr o t l ix off =>
   cases hl
   intro b hb
   obtain⟨b',q,B,x,cs,rfl,h2,_⟩:=h
   simp[cZ]at hb
   subst hb
   exact⟨none,by simp,B,xG _ _ h2⟩
 | hof i=>cases hl
 | er b=>cases hl
 | bs l=>exact h.elim
 | undef=>cases hl
 | fz o t l=>cases hl
 | agg l=>exact h.elim
 | tup l=>exact h.elim
 | bx l off=>exact h.elim
 | fn f l=>exact h.elim
 | nw t l=>exact h.elim
theorem KR {v:VV}{a:Value}(h:R2 c v a){locs:List (Option Nat)}(hl:IV v=some locs):∀ b∈cZ a,∃ x∈locs,FL c b x:=by
 cases v
 case tup l=>obtain⟨azz,rfl,_⟩:=h;intro b hb;cases hb
 case fn f l=>obtain⟨azz,rfl,_⟩:=h;intro b hb;cases hb
 case agg l=>obtain⟨azz,rfl,_⟩:=h;intro b hb;cases hb
 case bx l off =>
  obtain⟨b',B,rfl,h2,_⟩:=h
  cases hl
  intro b hb
  simp[cZ]at hb
  subst hb
  exact⟨none,by simp,B,h2⟩
 case bs l=>cases hl
 all_goals exact aFz (VR (fun _ e=>by cases e) (fun _ _ e=>by cases e) (fun _ e=>by cases e) (VX (fun _ e=>by cases e) (fun _ _ e=>by cases e) h)) hl
theorem LN:∀ {vs:List VV} {azz:List Value},All2 (R2 c) vs azz->∀ {locs:List (Option Nat)},NQ vs=some locs->∀ b∈azz.flatMap cZ,∃ x∈locs,FL c b x
 | _,_,.nil,locs,h,b,hb=>by cases hb
 | v::vs,a::azz,.cons h t,locs,hl,b,hb=>by
   unfold NQ at hl
   split at hl
   ·rename_i x y h1 h2
    cases hl
    rw[List.flatMap_cons,List.mem_append]at hb
    rcases hb with hb|hb
    ·obtain⟨z,h3,h4⟩:=KR h h1 b hb;exact⟨z,List.mem_append_left _ h3,h4⟩
    ·obtain⟨z,h3,h4⟩:=LN t h2 b hb;exact⟨z,List.mem_append_right _ h3,h4⟩
   ·cases hl
theorem PJ {op:Op}(ht:Tok c s.t ta)(hx:∀ x∈op.operands.toList,aE n x=true){locs:List (Option Nat)}(hl:aFJ op s.t=some locs):∀ b∈j9 op (eval ta),∃ x∈locs,FL c b x:=by
 cases op
 case load ty a=>exact KR (cP ht (hx a (by simp[Op.operands]))) hl
 case store ty a y=>exact KR (cP ht (hx a (by simp[Op.operands]))) hl
 case convert p d x=>exact KR (cP ht (hx x (by simp[Op.operands]))) hl
 case call cl =>
  have hargs:=oS ht (l:=cl.args.toList) (fun x h=>hx x (by simp only[Op.operands,Call.operands,Array.toList_append];exact List.mem_append_right _ h))
  have e2:(cl.args.map (eval ta)).toList=cl.args.toList.map (eval ta):=by simp
  simp only[aFJ,j9]at hl⊢
  cases hc:cl.callee with
  | builtin bt =>
    rw[hc]at hl
    cases bt <;> first
     | (simp only[e2];exact LN hargs hl)
     | (intro b hb;cases hb)
  | value f=>intro b hb;cases hb
  | invoke f m=>intro b hb;cases hb
 all_goals (intro b hb;cases hb)
theorem SK {op:Op}(ht:Tok c s.t ta)(hx:∀ x∈op.operands.toList,aE n x=true){locs:List (Option Nat)}(hl:wrV op s.t=some locs):∀ b∈qG op (eval ta),∃ x∈locs,FL c b x:=by
 cases op
 case store ty a y=>exact KR (cP ht (hx a (by simp[Op.operands]))) hl
 case call cl =>
  have hax:∀ x∈cl.args.toList,aE n x=true:=fun x h=>hx x (by simp only[Op.operands,Call.operands,Array.toList_append];exact List.mem_append_right _ h)
  have key:∀ locs,(match cl.args.toList with
   | x::_=>IV (evV s.t x)
   | []=>some [])=some locs->∀ b∈(cl.args.map (eval ta))[0]?.elim [] cZ,∃ x∈locs,FL c b x:=by
   intro locs hl b hb
   have e3:(cl.args.map (eval ta))[0]? = (cl.args.toList.map (eval ta))[0]? := by
    rw[<- Array.getElem?_toList];simp
   rw[e3]at hb
   split at hl
   ·rename_i x l e4
    rw[e4]at hb
    exact KR (cP ht (hax x (by rw[e4];exact List.mem_cons_self))) hl b (by simpa using hb)
   ·rename_i e4;rw[e4]at hb;simp at hb
  simp only[wrV,qG]at hl⊢
  cases hc:cl.callee with
  | builtin bt =>
    rw[hc]at hl
    cases bt <;> first
     | exact key _ hl
     | (intro b hb;cases hb)
  | value f=>intro b hb;cases hb
  | invoke f m=>intro b hb;cases hb
 all_goals (intro b hb;cases hb)
theorem XV (hr:Rel F0 H0 c s ta H){x y:List (Option Nat)}{xs ys:List Nat}(h:WN s.h (some x) (some y)=true)(hx:∀ b∈xs,∃ z∈x,FL c b z)(hy:∀ b∈ys,∃ z∈y,FL c b z):GY xs ys=true:=by
 obtain⟨hh,hok,ht⟩:=hr
 have h:(x.all fun x=>y.all fun y=>DC s.h x y)=true:=by
  cases x with
  | nil=>rfl
  | cons _ _ =>
    cases y with
    | nil=>simp
    | cons _ _=>exact h
 simp only[List.all_eq_true]at h
 unfold GY
 simp only[List.all_eq_true,bne_iff_ne]
 intro b hb b' hb' e
 subst e
 obtain⟨z,hz,hz2⟩:=hx b hb
 obtain⟨w,hw,hw2⟩:=hy b hb'
 have ha:=h z hz w hw
 have own:∀ i,c.ρ i=some b->DC.ownB (bO s.h i)=true->c.F b=none/\c.h[i]? ≠ some (.dead false):=by
  intro i hi ho
  have hlt:=hok.lt hi
  have hg:c.h[i]? = some (bO s.h i):=by
   rw[<- hh]
   unfold bO
   rw[List.getD_eq_getElem?_getD,List.getElem?_eq_getElem hlt];rfl
  have ob:=hok.obj i _ hg
  cases e:bO s.h i with
  | box cs fr =>
    rw[e]at ho hg
    obtain⟨b',azz,k1,_,_,_,k5⟩:=ob.box cs fr e
    rw[hi]at k1;cases k1
    refine⟨k5 (by cases fr <;> first|rfl|cases ho),by rw[hg];intro e;cases e⟩
  | lst q t l fr =>
    rw[e]at ho hg
    obtain⟨azz,ex,_,_,_,k4⟩:=(ob.lst q t l fr e).2 b hi
    refine⟨k4 (by cases fr <;> first|rfl|cases ho),by rw[hg];intro e;cases e⟩
  | dead d =>
    rw[e]at ho hg
    have:d=true:=ho
    subst this
    exact⟨ob.dead b e hi,by rw[hg];intro e;cases e⟩
 cases z with
 | some i =>
   cases w with
   | some j =>
     unfold DC at ha
     simp only[Bool.and_eq_true,Bool.or_eq_true,bne_iff_ne]at ha
     have bx:∀ i j,i≠j->c.ρ i=some b->c.ρ j=some b->DC.boxB (bO s.h i)=true->False:=fun i j hij hi hj hb=>by
      have hg:c.h[i]? = some (bO s.h i):=by
       rw[<- hh]
       unfold bO
       rw[List.getD_eq_getElem?_getD,List.getElem?_eq_getElem (hok.lt hi)];rfl
      have:=hok.bj i j b _ hij hi hj hg
      cases e:bO s.h i with
      | box cs fr=>rw[e]at this;cases this
      | lst _ _ _ _=>rw[e]at hb;cases hb
      | dead _=>rw[e]at hb;cases hb
     rcases ha.2 with ha2|ha2
     ·rcases ha2 with e|e
      ·exact bx i j ha.1 hz2 hw2 e
      ·exact bx j i (fun e=>ha.1 e.symm) hw2 hz2 e
     ·rcases hok.inj i j b ha.1 hz2 hw2 with e|e
      ·exact(own i hz2 ha2.1).2 e
      ·exact(own j hw2 ha2.2).2 e
   | none =>
     obtain⟨B,hB⟩:=hw2
     rw[(own i hz2 ha).1]at hB;cases hB
 | none =>
   cases w with
   | some j =>
     obtain⟨B,hB⟩:=hz2
     rw[(own j hw2 ha).1]at hB;cases hB
   | none=>cases ha
theorem TM (hr:Rel F0 H0 c s ta H){X Y:Option (List (Option Nat))}{xs ys:List Nat}(h:WN s.h X Y=true)(hx:∀ x,X=some x->∀ b∈xs,∃ z∈x,FL c b z)(hy:∀ y,Y=some y->∀ b∈ys,∃ z∈y,FL c b z):GY xs ys=true:=by
 cases X with
 | some x =>
   cases Y with
   | some y=>exact XV hr h (hx x rfl) (hy y rfl)
   | none =>
     cases x with
     | nil =>
       have:xs=[]:=List.eq_nil_iff_forall_not_mem.2 fun b hb=>by obtain⟨z,hz,_⟩:=hx [] rfl b hb;cases hz
       rw[this];rfl
     | cons _ _=>cases h
 | none =>
   cases Y with
   | none=>cases h
   | some y =>
     cases y with
     | nil =>
       have:ys=[]:=List.eq_nil_iff_forall_not_mem.2 fun b hb=>by obtain⟨z,hz,_⟩:=hy [] rfl b hb;cases hz
       rw[this];unfold GY;simp
     | cons _ _=>cases h
theorem MI (hr:Rel F0 H0 c s ta H)(hop:∀ o∈ops.toList,mX n ops o=true){p:Nat×Nat}(h:PY ops s p=true):jA ops ta p=true:=by
 unfold PY at h
 unfold jA
 split at h
 ·rename_i oi oj h1 h2
  rw[h1,h2]
  have m1:oi∈ops.toList:=by rw[<- Array.getElem?_toList]at h1;exact List.mem_of_getElem? h1
  have m2:oj∈ops.toList:=by rw[<- Array.getElem?_toList]at h2;exact List.mem_of_getElem? h2
  simp only[Bool.and_eq_true]at h⊢
  obtain⟨ha,hb⟩:=h
  exact⟨TM hr ha (fun x e=>SK hr.2.2 (iR (hop oi m1)) e) (fun y e=>PJ hr.2.2 (iR (hop oj m2)) e),
   TM hr hb (fun x e=>PJ hr.2.2 (iR (hop oi m1)) e) (fun y e=>SK hr.2.2 (iR (hop oj m2)) e)⟩
 ·cases h
theorem PR {id:Nat}{draw:Bool}{k:VS->Prop}(he:Env G H0 c fl n ops)(hr:Rel F0 H0 c s ta H)(hop:∀ o∈ops.toList,mX n ops o=true)(hv:C6 G ops draw s k){Q:dU->aC->aB->Prop}
 (hQ:∀ ta' H',After F0 H0 c k ta' H'->Q .normal ta' H'):W G.P fl (.region id ops draw) ta H Q:=by
 unfold C6 at hv
 split at hv
 ·refine XP (ops.toList.map fun _=>true) [] (.inr ⟨rfl,rfl⟩) ?_
  refine BP ?_ (rV (ops.size+1) none ops.toList _ he hr trivial hop (fun j w d e=>by cases e) hv)
  rintro t' H' ⟨hA,_⟩
  exact⟨rfl,hQ t' H' hA⟩
 ·split at hv
  ·rename_i hd
   refine XP (tM ops (bK ops.toList #[]) 0 ops.toList) (i9 ops (bK ops.toList #[])) (.inl ⟨rfl,?_⟩) ?_
   ·unfold sV
    simp only[hd,Bool.true_and]
    simp
   ·refine BP ?_ (rV (ops.size+1) none ops.toList _ he hr trivial hop (fun j w d e=>by cases e) hv)
    rintro t' H' ⟨⟨s',c',hle,hr',hk⟩,_⟩
    split at hk
    ·rename_i hcl
     refine⟨?_,hQ t' H' ⟨s',c',hle,hr',hk⟩⟩
     rw[List.all_eq_true]at hcl⊢
     exact fun p hp=>MI hr' hop (hcl p hp)
    ·exact hk.elim
  ·exact hv.elim
theorem KZ:∀ {l:List Oper} {p:List Oper} {o:Oper},N7 l=some (p,o)->l=p++[o]
 | [],p,o,h=>by cases h
 | [x],p,o,h=>by cases h;rfl
 | x::y::l,p,o,h=>by
   simp only[N7]at h
   split at h
   ·rename_i e;cases e
   ·rename_i q z e
    cases h
    have:=KZ (l:=y::l) e
    rw[this];rfl
   ·cases h
theorem F8 {b:Array Nat}:∀ (p:List Oper) (i:Nat) (l:List Oper),(tM ops b i (p++l)).drop p.length=tM ops b (i+p.length) l
 | [],i,l=>rfl
 | x::p,i,l=>by
   simp only[List.cons_append,tM,List.length_cons,List.drop_succ_cons]
   rw[F8 p (i+1) l,show i+1+p.length=i+(p.length+1) by omega]
def cC (P:Program)(J:Inl):Prop:=∀ (g:FuncId) (args:List VV) (s:VS) (k:VV->VS->Prop),J.B g=true->J.run g args s k ->
 ∀ (F0:Fz) (H0:aB) (c:Ctx) (H:aB) (fl:Nat) (ta:aC) (az:List Value),Rel F0 H0 c s ta H->fl<=H0.length->All2 (R2 c) args az ->
   WCall P fl g az.toArray H fun v H'=>∃ vv s2 c2,c2.hs=c.hs/\Rel F0 H0 c2 s2 ta H'/\R2 c2 vv v/\k vv s2
theorem XJ {B:FuncId->Bool}:∀ {l p:List Oper} {q:List Oper×Oper×FuncId×List Operand×List Oper},PC B p l=some q ->
 p++l=q.1++q.2.1::q.2.2.2.2/\q.2.1.guard=none/\∃ cl,q.2.1.op = .call cl/\cl.callee = .value (.func q.2.2.1)/\q.2.2.2.1=cl.args.toList/\B q.2.2.1=true
 | [],p,q,h=>by cases h
 | o::l,p,q,h=>by
   have next:PC B (p++[o]) l=some q->p++o::l=q.1++q.2.1::q.2.2.2.2/\q.2.1.guard=none/\∃ cl,q.2.1.op = .call cl/\cl.callee = .value (.func q.2.2.1)/\q.2.2.2.1=cl.args.toList/\B q.2.2.1=true:=fun h=>by
    have:=XJ h
    rw[List.append_assoc]at this
    exact this
   unfold PC at h
   split at h
   ·rename_i cl hg hop
    split at h
    ·rename_i g hc
     split at h
     ·rename_i hb
      cases h
      exact⟨rfl,hg,cl,hop,hc,rfl,hb⟩
     ·exact next h
    ·exact next h
   ·exact next h
theorem ZW {id:Nat}{draw:Bool}{k:VS->Prop}{J:Inl}{pre post:List Oper}{o:Oper}{g':FuncId}{args:List Operand}(he:Env G H0 c fl n ops)(hI:cC G.P J)(hr:Rel F0 H0 c s ta H)(hop:∀ o∈ops.toList,mX n ops o=true)
 (hm:WM J.B ops draw=some (pre,o,g',args,post)) (hv:vX G ops (ops.size+1) none pre s fun s1=>match GR G.P g' with
    | true=>J.run g' (args.map (evV s1.t)) s1 fun v s2=>vX G ops (ops.size+1) none post (VS.set s2 o.dst v) fun s'=>match !draw||(i9 ops (bK ops.toList #[])).all (PY ops s')with
      | true=>k s'
      | false=>False
    | false=>False) {Q:dU->aC->aB->Prop}
 (hQ:∀ ta' H' s' c',c'.hs=c.hs->Rel F0 H0 c' s' ta' H'->k s'->Q .normal ta' H'):W G.P fl (.region id ops draw) ta H Q:=by
 unfold WM at hm
 split at hm
 ·cases hm
 rename_i p1 o1 g1 as1 r1 hat
 obtain⟨hl,hg,cl,hopc,hc,has,hb⟩:=XJ hat
 rw[List.nil_append]at hl
 dsimp only at hl hg hopc hc has hb
 have key:∃ (g:List Bool) (cl:List (Nat×Nat)),((draw=true/\sV ops g cl=true)\/(draw=false/\g=ops.toList.map fun _=>true))/\(g.drop p1.length).headD false=true/\some (p1,o1,g1,as1,r1)=some (pre,o,g',args,post)/\((draw=false/\cl=[])\/(draw=true/\cl=i9 ops (bK ops.toList #[]))):=by
  split at hm
  ·refine⟨_,[],.inr ⟨rfl,rfl⟩,?_,hm,.inl ⟨rfl,rfl⟩⟩
   rw[hl]
   simp
  ·split at hm
   ·rename_i hd
    simp only[Bool.and_eq_true]at hd
    obtain⟨⟨h1,h2⟩,h3⟩:=hd
    refine⟨tM ops (bK ops.toList #[]) 0 ops.toList,i9 ops (bK ops.toList #[]),.inl ⟨rfl,?_⟩,?_,hm,.inr ⟨rfl,rfl⟩⟩
    ·unfold sV
     simp only[h1,h2,Bool.true_and,beq_self_eq_true,Bool.and_self]
    ·have e1:tM ops (bK ops.toList #[]) 0 ops.toList=tM ops (bK ops.toList #[]) 0 (p1++o1::r1):=by rw[<- hl]
     rw[e1,F8 p1 0 (o1::r1),Nat.zero_add]
     have hk:bA o1.op=4:=by rw[hopc];simp only[bA,hc]
     simp only[tM,List.headD_cons,hk,h3,beq_self_eq_true,Bool.and_self]
   ·cases hm
 obtain⟨g,ch,hd,hhead,he3,hch⟩:=key
 simp only[Option.some.injEq,Prod.mk.injEq]at he3
 obtain⟨rfl,rfl,rfl,rfl,rfl⟩:=he3
 refine XP g ch hd ?_
 rw[hl]
 refine sO p1 ?_
 have hopp:∀ x∈p1,mX n ops x=true:=fun x hx=>hop x (by rw[hl];exact List.mem_append_left _ hx)
 have hopo:mX n ops o1=true:=hop o1 (by rw[hl];simp)
 have hopr:∀ x∈r1,mX n ops x=true:=fun x hx=>hop x (by rw[hl];exact List.mem_append_right _ (List.mem_cons_of_mem _ hx))
 refine BP ?_ (rV (ops.size+1) none p1 g he hr trivial hopp (fun j w d e=>by cases e) hv)
 rintro t1 H1 ⟨⟨s1,c1,hle,hr1,hk⟩,_⟩
 show WOp G.P fl (if (g.drop p1.length).headD false then fl else H1.length) ops o1 t1 H1 fun t' H'=>WDrawn G.P fl ops (g.drop p1.length).tail r1 t' H' _
 rw[hhead,if_pos rfl]
 have hw:dZ ops t1 o1=true:=by unfold dZ;rw[hg]
 split at hk
 case h_2=>exact hk.elim
 rename_i hgood
 have hx:=(iR hopo)
 rw[hopc]at hx
 have hax:∀ x∈cl.args.toList,aE n x=true:=fun x h=>hx x (by simp only[Op.operands,Call.operands,Array.toList_append];exact List.mem_append_right _ h)
 subst has
 have hargs:All2 (R2 c1) (cl.args.toList.map (evV s1.t)) (cl.args.toList.map (eval t1)):=oS hr1.2.2 hax
 unfold WOp
 rw[if_pos hw]
 have hp:aT G.P fl o1.op (eval t1) H1=some (.enter g1 (cl.args.toList.map (eval t1)).toArray,H1):=by
  have:cl.args.map (eval t1)=(cl.args.toList.map (eval t1)).toArray:=by apply Array.toList_inj.1;simp
  rw[hopc]
  simp only[aT,oV,hc,eval,hgood,if_true,this]
  simp
 simp only[hp]
 refine WCall.mono (hI g1 _ _ _ hb hk F0 H0 c1 H1 fl t1 _ hr1 he.fl hargs) ?_
 rintro v H' ⟨vv,s2,c2,g1,g2,g3,g4⟩
 have hr2:Rel F0 H0 c2 (VS.set s2 o1.dst vv) _ H':=⟨by rw[aBV];exact g2.1,g2.2.1,Tok.put (Le.refl c2) g2.2.2 g3⟩
 refine BP ?_ (rV (ops.size+1) none r1 (g.drop p1.length).tail (c:=c2) ⟨he.O,he.fl⟩ hr2 trivial hopr (fun j w d e=>by cases e) g4)
 rintro t3 H3 ⟨⟨s3,c3,hle3,hr3,hk3⟩,_⟩
 split at hk3
 case h_2=>exact hk3.elim
 rename_i hcl
 refine⟨?_,hQ t3 H3 s3 c3 (hle3.hs.trans (g1.trans hle.hs)) hr3 hk3⟩
 rcases hch with⟨_,rfl⟩|⟨rfl,rfl⟩
 ·rfl
 ·simp only[Bool.not_true,Bool.false_or]at hcl
  rw[List.all_eq_true]at hcl⊢
  exact fun p hp=>MI hr3 hop (hcl p hp)
theorem F4 {id:Nat}{draw:Bool}{k:VS->Prop}(he:Env G H0 c fl n ops)(hI:∀ J,G.I=some J->cC G.P J)(hr:Rel F0 H0 c s ta H)(hop:∀ o∈ops.toList,mX n ops o=true)(hv:NT G ops draw s k){Q:dU->aC->aB->Prop}
 (hQ:∀ ta' H' s' c',c'.hs=c.hs->Rel F0 H0 c' s' ta' H'->k s'->Q .normal ta' H'):W G.P fl (.region id ops draw) ta H Q:=by
 have plain:C6 G ops draw s k->W G.P fl (.region id ops draw) ta H Q:=fun h0 =>
  PR he hr hop h0 fun ta' H' ⟨s',c',hle,hr',hk⟩=>hQ ta' H' s' c' hle.hs hr' hk
 unfold NT at hv
 split at hv
 ·exact plain hv
 rename_i J hJ
 split at hv
 ·split at hv
  ·exact plain hv
  ·rename_i hm
   exact ZW he (hI J hJ) hr hop hm hv hQ
 rename_i pre o f args he2
 unfold aB1 at he2
 split at he2
 case h_2=>cases he2
 rename_i pre' o' hlast
 have hl:=KZ hlast
 split at he2
 case h_2=>cases he2
 rename_i cl hg hopc
 split at he2
 case h_2=>cases he2
 rename_i f' hc
 have key:∃ g:List Bool,((draw=true/\sV ops g []=true)\/(draw=false/\g=ops.toList.map fun _=>true))/\(g.drop pre'.length).headD false=true/\some (pre',o',f',cl.args.toList)=some (pre,o,f,args):=by
  split at he2
  ·refine⟨_,.inr ⟨rfl,rfl⟩,?_,he2⟩
   rw[hl]
   simp
  ·split at he2
   ·rename_i hd
    simp only[Bool.and_eq_true,List.isEmpty_iff]at hd
    obtain⟨⟨h1,h2⟩,h3⟩:=hd
    refine⟨tM ops (bK ops.toList #[]) 0 ops.toList,.inl ⟨rfl,?_⟩,?_,he2⟩
    ·unfold sV
     simp only[h1,h2,List.all_nil,Bool.true_and,Bool.and_true,beq_self_eq_true,Bool.and_self]
    ·have e1:tM ops (bK ops.toList #[]) 0 ops.toList=tM ops (bK ops.toList #[]) 0 (pre'++[o']):=by rw[<- hl]
     rw[e1,F8 pre' 0 [o'],Nat.zero_add]
     have hk:bA o'.op=4:=by rw[hopc];simp only[bA,hc]
     simp only[tM,List.headD_cons,hk,h3,beq_self_eq_true,Bool.and_self]
   ·cases he2
 obtain⟨g,hd,hhead,he3⟩:=key
 simp only[Option.some.injEq,Prod.mk.injEq]at he3
 obtain⟨rfl,rfl,rfl,rfl⟩:=he3
 refine XP g [] hd ?_
 rw[hl]
 refine sO pre' ?_
 have hopp:∀ x∈pre',mX n ops x=true:=fun x hx=>hop x (by rw[hl];exact List.mem_append_left _ hx)
 have hopo:mX n ops o'=true:=hop o' (by rw[hl];simp)
 refine BP ?_ (rV (ops.size+1) none pre' g he hr trivial hopp (fun j w d e=>by cases e) hv)
 rintro t1 H1 ⟨⟨s1,c1,hle,hr1,hk⟩,_⟩
 show WOp G.P fl (if (g.drop pre'.length).headD false then fl else H1.length) ops o' t1 H1 fun t' H'=>WDrawn G.P fl ops (g.drop pre'.length).tail [] t' H' _
 rw[hhead,if_pos rfl]
 have hw:dZ ops t1 o'=true:=by unfold dZ;rw[hg]
 have fin:∀ t' H' s' c',c'.hs=c.hs->Rel F0 H0 c' s' t' H'->k s'->WDrawn G.P fl ops (g.drop pre'.length).tail [] t' H' fun t' H'=>([]:List (Nat×Nat)).all (jA ops t')=true/\Q .normal t' H':=by
  intro t' H' s' c' h1 h2 h3
  have:∀ gs:List Bool,WDrawn G.P fl ops gs [] t' H' fun t' H'=>([]:List (Nat×Nat)).all (jA ops t')=true/\Q .normal t' H':=by
   intro gs
   cases gs <;> exact⟨rfl,hQ t' H' s' c' h1 h2 h3⟩
  exact this _
 have hfl1:fl<=H1.length:=Nat.le_trans he.fl hr1.2.1.pre.len
 have one:FM G o' s1 k->WOp G.P fl fl ops o' t1 H1 fun t' H'=>WDrawn G.P fl ops (g.drop pre'.length).tail [] t' H' fun t' H'=>([]:List (Nat×Nat)).all (jA ops t')=true/\Q .normal t' H':=fun hv1 =>
  EE (he.le hle) hr1 hopo hw hv1 hfl1 fun t' H' _ _ ⟨s',c',hle',hr',hk'⟩=>fin t' H' s' c' (hle'.hs.trans hle.hs) hr' hk'
 split at hk
 ·rename_i g' caps hev
  split at hk
  ·rename_i hb
   simp only[Bool.and_eq_true]at hb
   have hx:=(iR hopo)
   rw[hopc]at hx
   have hfx:aE n f'=true:=hx f' (by simp only[Op.operands,Call.operands,hc];simp)
   have hax:∀ x∈cl.args.toList,aE n x=true:=fun x h=>hx x (by simp only[Op.operands,Call.operands,Array.toList_append];exact List.mem_append_right _ h)
   have hf:=cP hr1.2.2 hfx
   rw[hev]at hf
   obtain⟨cp,e1,hcp⟩:=hf
   have hargs:All2 (R2 c1) (cl.args.toList.map (evV s1.t)++caps) (cl.args.toList.map (eval t1)++cp):=(oS hr1.2.2 hax).app (hcp.mono fun v a h=>yM h)
   unfold WOp
   rw[if_pos hw]
   have hp:aT G.P fl o'.op (eval t1) H1=some (.enter g' (cl.args.toList.map (eval t1)++cp).toArray,H1):=by
    have:cl.args.map (eval t1)=(cl.args.toList.map (eval t1)).toArray:=by apply Array.toList_inj.1;simp
    rw[hopc]
    simp only[aT,oV,hc,e1,hb.2,if_true,this]
    simp
   simp only[hp]
   refine WCall.mono (hI J hJ g' _ _ _ hb.1 hk F0 H0 c1 H1 fl t1 _ hr1 he.fl hargs) ?_
   rintro v H' ⟨vv,s2,c2,g1,g2,g3,g4⟩
   exact fin _ _ _ c2 (g1.trans hle.hs) ⟨by rw[aBV];exact g2.1,g2.2.1,Tok.put (Le.refl c2) g2.2.2 g3⟩ g4
  ·exact one hk
 ·exact one hk
theorem aGz {cells:List Value}{q:Nat}{v:Value}(h:InB cells q 1 [v]):cells[q]? = some v:=by
 obtain⟨h1,h2⟩:=h
 have hlt:q<cells.length:=by omega
 rw[List.drop_eq_getElem_cons hlt,List.take_succ_cons,List.take_zero]at h2
 simp only[List.cons.injEq,and_true]at h2
 rw[List.getElem?_eq_getElem hlt,h2]
theorem PN {id:Nat}{draw:Bool}{live:List Nat}{k:VS->Prop}(he:Env G H0 c fl n ops)(hI:∀ J,G.I=some J->cC G.P J)(hr:Rel F0 H0 c s ta H)(hop:∀ o∈ops.toList,mX n ops o=true)(hv:P0 G ops draw live s k){Q:dU->aC->aB->Prop}
 (hQ:∀ ta' H' s' c',c'.hs=c.hs->Rel F0 H0 c' s' ta' H'->k s'->Q .normal ta' H'):W G.P fl (.region id ops draw) ta H Q:=by
 unfold P0 at hv
 split at hv
 ·exact F4 he hI hr hop hv hQ
 split at hv
 ·exact F4 he hI hr hop hv hQ
 rename_i pre o ty a x he2
 unfold YR at he2
 split at he2
 case h_2=>cases he2
 rename_i pre' o' hlast
 have hl:=KZ hlast
 split at he2
 case h_2=>cases he2
 rename_i ty' a' x' hg hdst hopc
 have key:∃ g:List Bool,((draw=true/\sV ops g []=true)\/(draw=false/\g=ops.toList.map fun _=>true))/\some (pre',o',ty',a',x')=some (pre,o,ty,a,x):=by
  split at he2
  ·exact⟨_,.inr ⟨rfl,rfl⟩,he2⟩
  ·split at he2
   ·rename_i hd
    simp only[Bool.and_eq_true,List.isEmpty_iff]at hd
    obtain⟨h1,h2⟩:=hd
    refine⟨tM ops (bK ops.toList #[]) 0 ops.toList,.inl ⟨rfl,?_⟩,he2⟩
    unfold sV
    simp only[h1,h2,List.all_nil,Bool.true_and,Bool.and_true,beq_self_eq_true,Bool.and_self]
   ·cases he2
 obtain⟨g,hd,he3⟩:=key
 simp only[Option.some.injEq,Prod.mk.injEq]at he3
 obtain⟨rfl,rfl,rfl,rfl,rfl⟩:=he3
 refine XP g [] hd ?_
 rw[hl]
 refine sO pre' ?_
 have hopp:∀ x∈pre',mX n ops x=true:=fun x hx=>hop x (by rw[hl];exact List.mem_append_left _ hx)
 have hopo:mX n ops o'=true:=hop o' (by rw[hl];simp)
 refine BP ?_ (rV (ops.size+1) none pre' g he hr trivial hopp (fun j w d e=>by cases e) hv)
 rintro t1 H1 ⟨⟨s1,c1,hle,hr1,hk⟩,_⟩
 show WOp G.P fl (if (g.drop pre'.length).headD false then fl else H1.length) ops o' t1 H1 fun t' H'=>WDrawn G.P fl ops (g.drop pre'.length).tail [] t' H' _
 have hw:dZ ops t1 o'=true:=by unfold dZ;rw[hg]
 have fin:∀ t' H' s' c',c'.hs=c.hs->Rel F0 H0 c' s' t' H'->k s'->WDrawn G.P fl ops (g.drop pre'.length).tail [] t' H' fun t' H'=>([]:List (Nat×Nat)).all (jA ops t')=true/\Q .normal t' H':=by
  intro t' H' s' c' h1 h2 h3
  have:∀ gs:List Bool,WDrawn G.P fl ops gs [] t' H' fun t' H'=>([]:List (Nat×Nat)).all (jA ops t')=true/\Q .normal t' H':=by
   intro gs
   cases gs <;> exact⟨rfl,hQ t' H' s' c' h1 h2 h3⟩
  exact this _
 have hfl1:fl<=H1.length:=Nat.le_trans he.fl hr1.2.1.pre.len
 have hflc:(if (g.drop pre'.length).headD false then fl else H1.length)<=H1.length:=by split <;> omega
 have one:FM G o' s1 k->WOp G.P fl (if (g.drop pre'.length).headD false then fl else H1.length) ops o' t1 H1 fun t' H'=>WDrawn G.P fl ops (g.drop pre'.length).tail [] t' H' fun t' H'=>([]:List (Nat×Nat)).all (jA ops t')=true/\Q .normal t' H':=fun hv1 =>
  EE (he.le hle) hr1 hopo hw hv1 hflc fun t' H' _ _ ⟨s',c',hle',hr',hk'⟩=>fin t' H' s' c' (hle'.hs.trans hle.hs) hr' hk'
 split at hk
 ·rename_i kd l ix kd' v ha hx
  split at hk
  case isFalse=>exact hk.elim
  rename_i hc
  obtain⟨rfl,hsz⟩:=hc
  have hxs:=iR hopo
  rw[hopc]at hxs
  have hax:aE n a'=true:=hxs a' (by simp[Op.operands])
  have hxx:aE n x'=true:=hxs x' (by simp[Op.operands])
  have h1:=cP hr1.2.2 hax
  have h2:=cP hr1.2.2 hxx
  rw[ha]at h1
  rw[hx]at h2
  obtain⟨b,q,B,y,cs,e1,e2,e3,e4,e5⟩:=HG h1
  obtain⟨e6,_⟩:=dN h2
  have e5:cs=[.int kd y]:=e5
  subst e5
  have hq:=aGz e4
  have hb:c1.n0<=b:=by
   unfold dR at e2
   split at e2
   ·cases e2
   ·rename_i hn;simp at hn;exact hn
  have hF:c1.F b=some B:=xG _ _ e2
  have hbk:=hr1.2.1.fz b B hF
  have hn0:=hr1.2.1.n0
  have hqlt:q<B.cells.length:=(List.getElem?_eq_some_iff.1 hq).1
  have hsb:xH G.P ty' B (q+0) (eval t1 x')=some { B with cells:=B.cells.set q (.int kd v) }:=by
   unfold xH
   rw[e6]
   rw[if_pos ⟨hsz,by show q+0+1<=_;omega,rfl⟩]
   rfl
  obtain⟨H',f1,f2,f3⟩:=E5 (P:=G.P) (fl:=fl) hbk (by have:=he.fl;omega) hsb
  unfold WOp
  rw[if_pos hw]
  have hp:aT G.P fl o'.op (eval t1) H1=some (.skip,H'):=by
   rw[hopc]
   simp only[aT,e1,f1,Option.map_some]
  simp only[hp]
  rw[hdst]
  show WDrawn G.P fl ops (g.drop pre'.length).tail [] t1 H' _
  obtain⟨s2,c2,k1,k2,k3⟩:=aBr hr1 hb hF rfl (.inr ⟨q,y,hq,rfl⟩) f3 f2 hk
  exact fin _ _ _ c2 (k1.trans hle.hs) k2 k3
 ·exact one hk
end
end Go.Mach
namespace Go.Mach
set_option linter.unusedVariables false
set_option linter.unusedSimpArgs false
section
variable {G:Cfg} {F0:Fz} {H0:aB} {c c':Ctx} {H H':aB} {s:VS} {ta:aC} {n fl:Nat} {ops:Array Oper}
theorem BS:∀ (n:Nat) {h:List VO} {todo acc:List Nat},acc.Nodup->(KC n h todo acc).Nodup
 | 0,h,todo,acc,hn=>hn
 | n+1,h,[],acc,hn=>hn
 | n+1,h,i::todo,acc,hn=>by
   unfold KC
   split
   ·exact BS n hn
   ·rename_i hc
    refine BS n ?_
    rw[List.nodup_append]
    refine⟨hn,by simp,?_⟩
    intro a ha b hb e
    rw[List.mem_singleton]at hb
    subst hb;subst e
    have:acc.contains a=true:=by simpa using ha
    rw[this]at hc;cases hc
theorem LX:∀ {ids:List Nat} {i n j:Nat},vC i ids n=some j->n<=j/\ids[j-n]? = some i
 | [],i,n,j,h=>by cases h
 | x::ids,i,n,j,h=>by
   unfold vC at h
   split at h
   ·rename_i e;cases h;subst e;exact⟨Nat.le_refl _,by simp⟩
   ·obtain⟨h1,h2⟩:=LX h
    refine⟨by omega,?_⟩
    rw[show j-n=(j-(n+1))+1 by omega,List.getElem?_cons_succ]
    exact h2
def DR (c:Ctx)(ids:List Nat):Ctx:=⟨c.n0,c.F,fun j=>(ids[j]?).bind c.ρ,ids.map fun i=>VM ids (bO c.h i),c.hs⟩
theorem LK {ids:List Nat}{i j:Nat}(h:vC i ids 0=some j):(DR c ids).ρ j=c.ρ i/\(DR c ids).h[j]? = some (VM ids (bO c.h i)):=by
 have:=(LX h).2
 rw[Nat.sub_zero]at this
 refine⟨?_,?_⟩
 ·show(ids[j]?).bind c.ρ=_
  rw[this];rfl
 ·show(ids.map _)[j]? = _
  rw[List.getElem?_map,this];rfl
theorem D8 (ids:List Nat){v:VV}{a:Value}(h:RL c v a):RL (DR c ids) (V7 ids v) a:=by
 cases v with
 | pl v=>exact h
 | fz o t l=>exact h
 | fptr o t l ix off=>exact h
 | hof i=>exact h
 | mptr i off=>trivial
 | er b=>exact h
 | bs l=>exact h.elim
 | own i =>
   unfold V7
   simp only
   split
   ·rename_i j hj
    obtain⟨k1,k2⟩:=LK (c:=c) hj
    simp only[RL]at h⊢
    rw[k1,k2]
    cases hi:c.h[i]? with
    | none=>rw[hi]at h;exact h.elim
    | some o =>
      rw[hi]at h
      rw[lF hi]
      cases o <;> exact h
   ·trivial
 | ptr i off =>
   unfold V7
   simp only
   split
   ·rename_i j hj
    obtain⟨k1,k2⟩:=LK (c:=c) hj
    obtain⟨b,cs,fr,h1,h2,h3⟩:=h
    rw[lF h1]at k2
    exact⟨b,_,fr,k2,k1.trans h2,h3⟩
   ·trivial
 | eptr i ix off =>
   unfold V7
   simp only
   split
   ·rename_i j hj
    obtain⟨k1,k2⟩:=LK (c:=c) hj
    obtain⟨b,h1,h2⟩:=h
    refine⟨b,k1.trans h1,?_⟩
    rw[k2]
    cases hi:c.h[i]? with
    | none=>rw[hi]at h2;exact h2.elim
    | some o =>
      rw[hi]at h2
      rw[lF hi]
      cases o <;> exact h2
   ·trivial
 | undef=>trivial
 | agg l=>exact h.elim
 | tup l=>exact h.elim
 | bx l off=>exact h.elim
 | fn f l=>exact h.elim
 | nw t l=>exact h.elim
theorem PP (ids:List Nat){v:VV}{a:Value}(h:R1 c v a):R1 (DR c ids) (aEb ids v) a:=by
 cases v
 case agg l=>obtain⟨azz,h1,h2⟩:=h;exact⟨azz,h1,h2.mapL fun v a h=>D8 ids h⟩
 case bx l off=>obtain⟨b,B,h1,h2,h3⟩:=h;exact⟨b,B,h1,h2,h3.mapL fun v a h=>D8 ids h⟩
 case bs l=>obtain⟨b,B,k,h1,h2,h4,h3⟩:=h;exact⟨b,B,k,by simpa using h1,h2,h4,h3.mapL fun v a h=>D8 ids h⟩
 all_goals exact W2 (D8 ids (VR (fun _ e=>by cases e) (fun _ _ e=>by cases e) (fun _ e=>by cases e) h))
theorem aDh (ids:List Nat){v:VV}{a:Value}(h:R2 c v a):R2 (DR c ids) (aIA ids v) a:=by
 cases v
 case tup l=>obtain⟨azz,h1,h2⟩:=h;exact⟨azz,h1,h2.mapL fun v a h=>PP ids h⟩
 case fn f l=>obtain⟨azz,h1,h2⟩:=h;exact⟨azz,h1,h2.mapL fun v a h=>PP ids h⟩
 all_goals exact yM (PP ids (VX (fun _ e=>by cases e) (fun _ _ e=>by cases e) h))
theorem Ok.clean (h:Ok F0 H0 c H){ids:List Nat}(hn:ids.Nodup):Ok F0 H0 (DR c ids) H where
 n0:=h.n0
 pre:=h.pre
 fz:=h.fz
 low:=h.low
 obj:=fun j o hj=>by
  have hj:(ids.map fun i=>VM ids (bO c.h i))[j]? = some o:=hj
  rw[List.getElem?_map]at hj
  cases e:ids[j]? with
  | none=>rw[e]at hj;cases hj
  | some i =>
    rw[e]at hj
    have hj:VM ids (bO c.h i)=o:=by simpa using hj
    subst hj
    have hρ:(DR c ids).ρ j=c.ρ i:=by show(ids[j]?).bind c.ρ=_;rw[e];rfl
    cases hi:c.h[i]? with
    | none =>
      have hg:bO c.h i = .dead false:=by unfold bO;rw[List.getD_eq_getElem?_getD,hi];rfl
      have hnone:c.ρ i=none:=h.dom i (List.getElem?_eq_none_iff.1 hi)
      rw[hg]
      exact {
       lo:=fun b e=>by rw[hρ,hnone]at e;cases e
       box:=fun _ _ e=>(by cases e)
       lst:=fun _ _ _ _ e=>(by cases e)
       dead:=fun _ e=>(by cases e) }
    | some o =>
      rw[lF hi]
      have ob:=h.obj i o hi
      exact {
       lo:=fun b e=>ob.lo b (by rw[<- hρ];exact e)
       box:=fun cs fr e=>by
        cases o with
        | box cs' fr' =>
          cases e
          obtain⟨b,azz,k1,k2,k3,k4⟩:=ob.box _ _ rfl
          exact⟨b,azz,hρ.trans k1,k2,k3.mapL fun v a h=>D8 ids h,k4⟩
        | lst _ _ _ _=>cases e
        | dead _=>cases e
       lst:=fun q t l fr e=>by
        cases o with
        | box cs' fr'=>cases e
        | dead _=>cases e
        | lst q' t' l' fr'=>rw[hρ];exact ob.lst q t l fr e
       dead:=fun b e e'=>by
        cases o with
        | box cs' fr'=>cases e
        | lst _ _ _ _=>cases e
        | dead x=>exact ob.dead b e (by rw[<- hρ];exact e') }
 inj:=fun i j b hij hi hj=>by
  have hi:(ids[i]?).bind c.ρ=some b:=hi
  have hj:(ids[j]?).bind c.ρ=some b:=hj
  show(ids.map fun i=>VM ids (bO c.h i))[i]? = _\/(ids.map fun i=>VM ids (bO c.h i))[j]? = _
  rw[List.getElem?_map,List.getElem?_map]
  cases e1:ids[i]? with
  | none=>rw[e1]at hi;cases hi
  | some x =>
    cases e2:ids[j]? with
    | none=>rw[e2]at hj;cases hj
    | some y =>
      rw[e1]at hi
      rw[e2]at hj
      have hxy:x≠y:=by
       intro e
       subst e
       have h1:=List.getElem?_eq_some_iff.1 e1
       have h2:=List.getElem?_eq_some_iff.1 e2
       obtain⟨l1,g1⟩:=h1
       obtain⟨l2,g2⟩:=h2
       have hp:=List.pairwise_iff_getElem.1 hn
       rcases Nat.lt_trichotomy i j with hlt|he|hlt
       ·exact hp i j l1 l2 hlt (g1.trans g2.symm)
       ·exact hij he
       ·exact hp j i l2 l1 hlt (g2.trans g1.symm)
      rcases h.inj x y b hxy hi hj with e|e
      ·left;simp only[Option.map_some,lF e];rfl
      ·right;simp only[Option.map_some,lF e];rfl
 bj:=fun i j b o hij hi hj ho=>by
  have hi:(ids[i]?).bind c.ρ=some b:=hi
  have hj:(ids[j]?).bind c.ρ=some b:=hj
  have ho:(ids.map fun i=>VM ids (bO c.h i))[i]? = some o:=ho
  rw[List.getElem?_map]at ho
  cases e1:ids[i]? with
  | none=>rw[e1]at hi;cases hi
  | some x =>
    cases e2:ids[j]? with
    | none=>rw[e2]at hj;cases hj
    | some y =>
      rw[e1]at hi ho
      rw[e2]at hj
      have hxy:x≠y:=by
       intro e
       subst e
       obtain⟨l1,g1⟩:=List.getElem?_eq_some_iff.1 e1
       obtain⟨l2,g2⟩:=List.getElem?_eq_some_iff.1 e2
       have hp:=List.pairwise_iff_getElem.1 hn
       rcases Nat.lt_trichotomy i j with hlt|he|hlt
       ·exact hp i j l1 l2 hlt (g1.trans g2.symm)
       ·exact hij he
       ·exact hp j i l2 l1 hlt (g2.trans g1.symm)
      simp only[Option.map_some,Option.some.injEq]at ho
      subst ho
      cases hx:c.h[x]? with
      | none =>
        have hg:bO c.h x = .dead false:=by unfold bO;rw[List.getD_eq_getElem?_getD,hx];rfl
        rw[hg];rfl
      | some p =>
        rw[lF hx]
        have:=h.bj x y b p hxy hi hj hx
        cases p with
        | box _ _=>cases this
        | lst _ _ _ _=>rfl
        | dead _=>rfl
 dom:=fun j hj=>by
  have hj:(ids.map fun i=>VM ids (bO c.h i)).length<=j:=hj
  rw[List.length_map]at hj
  show(ids[j]?).bind c.ρ=none
  rw[List.getElem?_eq_none_iff.2 hj];rfl
theorem KG {R:VV->Value->Prop}(hu:∀ a,R .undef a):∀ (live:List Nat) (vs:List VV) {ta:aC},All2 R vs (live.map ta)->∀ d,R (cO (NM live vs) d) (ta d)
 | [],vs,ta,h,d=>by cases h;exact hu _
 | x::live,[],ta,h,d=>by cases h
 | x::live,v::vs,ta,h,d=>by
   cases h with
   | cons h t =>
     show R (if x=d then v else cO (NM live vs) d) (ta d)
     split
     ·rename_i e;subst e;exact h
     ·exact KG hu live vs t d
theorem YK {R:VV->Value->Prop}{f:Nat->VV}{ta:aC}(h:∀ d,R (f d) (ta d)):∀ live:List Nat,All2 R (live.map f) (live.map ta)
 | [] => .nil
 | x::l => .cons (h x) (YK h l)
theorem L8 (hr:Rel F0 H0 c s ta H)(live:List Nat):∃ c',c'.hs=c.hs/\c'.n0=c.n0/\c'.h=(P5 live s).2/\Ok F0 H0 c' H/\All2 (R2 c') (P5 live s).1 (live.map ta):=by
 obtain⟨hh,hok,ht⟩:=hr
 have hn:=BS (2*s.h.length+40) (h:=s.h) (todo:=(live.map (cO s.t)).flatMap aGw) (acc:=[]) List.nodup_nil
 refine⟨DR c (KC (2*s.h.length+40) s.h ((live.map (cO s.t)).flatMap aGw) []),rfl,rfl,?_,hok.clean hn,?_⟩
 ·show(List.map _ _)=_
  rw[hh];rfl
 ·show All2 _ ((live.map (cO s.t)).map _) _
  rw[List.map_map]
  exact YK (fun d=>aDh _ (ht d)) live
theorem X4 {a b:VV}(h:PL a b=true):a=b:=by
 unfold PL at h
 split at h <;> first
  | (simp only[Bool.and_eq_true,beq_iff_eq,decide_eq_true_eq]at h;first|(obtain⟨rfl,rfl⟩:=h;rfl)|(subst h;rfl))
  | rfl
  | cases h
theorem SO:∀ {a b:List VV},UP a b=true->a=b
 | [],[],_=>rfl
 | [],_::_,h=>by cases h
 | _::_,[],h=>by cases h
 | a::l,b::r,h=>by
   unfold UP at h
   simp only[Bool.and_eq_true]at h
   rw[X4 h.1,SO h.2]
theorem aDI {a b:VV}(h:TR a b=true):a=b:=by
 unfold TR at h
 split at h
 ·simp only[Bool.and_eq_true,beq_iff_eq]at h
  rw[h.1,SO h.2]
 ·exact X4 h
theorem yK {x:Lf}{v:VV}{K:x.den->Prop}(h:unF x v K):∃ d,v=MG x d/\K d:=by
 unfold unF at h
 split at h
 ·split at h
  ·split at h
   ·rename_i e;subst e;exact⟨_,rfl,h⟩
   ·exact h.elim
  ·exact h.elim
 ·split at h
  ·exact⟨_,rfl,h⟩
  ·exact h.elim
 ·split at h
  ·exact⟨_,rfl,h⟩
  ·exact h.elim
 ·split at h
  ·rename_i x;exact⟨x,rfl,h⟩
  ·exact h.elim
 ·split at h
  ·rename_i a b;exact⟨(a,b),rfl,h⟩
  ·exact h.elim
 ·split at h
  ·split at h
   ·rename_i e
    subst e
    obtain⟨e,h⟩:=Ty.at_inv h
    subst e
    exact⟨_,rfl,h⟩
   ·exact h.elim
  ·exact h.elim
 ·split at h
  ·rename_i e;exact⟨(),(aDI e).symm,h⟩
  ·exact h.elim
 ·split at h
  ·split at h
   ·rename_i e
    subst e
    obtain⟨e,h⟩:=Ty.at_inv h
    subst e
    dsimp only at h
    split at h
    ·exact⟨_,rfl,h⟩
    ·exact h.elim
   ·exact h.elim
  ·exact h.elim
theorem uY:∀ {l:List Lf} {vs:List VV} {K:O3 l->Prop},unL l vs K->∃ d,vs=LM l d/\K d
 | [],vs,K,h=>by
   unfold unL at h
   split at h
   ·exact⟨(),rfl,h⟩
   ·exact h.elim
 | x::l,vs,K,h=>by
   unfold unL at h
   split at h
   ·obtain⟨a,rfl,h1⟩:=yK h
    obtain⟨b,rfl,h2⟩:=uY h1
    exact⟨(a,b),rfl,h2⟩
   ·exact h.elim
theorem aAl {x:Cp}{v:VV}{K:x.den->Prop}(h:aG9 x v K):∃ d,v=aAD x d/\K d:=by
 unfold aG9 at h
 split at h
 ·exact yK h
 ·split at h
  ·obtain⟨d,rfl,h1⟩:=uY h;exact⟨d,rfl,h1⟩
  ·exact h.elim
 ·split at h
  ·obtain⟨d,rfl,h1⟩:=uY h;exact⟨d,rfl,h1⟩
  ·exact h.elim
theorem TU:∀ {l:List Cp} {vs:List VV} {K:aAr l->Prop},unC l vs K->∃ d,vs=aBY l d/\K d
 | [],vs,K,h=>by
   unfold unC at h
   split at h
   ·exact⟨(),rfl,h⟩
   ·exact h.elim
 | x::l,vs,K,h=>by
   unfold unC at h
   split at h
   ·obtain⟨a,rfl,h1⟩:=aAl h
    obtain⟨b,rfl,h2⟩:=TU h1
    exact⟨(a,b),rfl,h2⟩
   ·exact h.elim
theorem ZI {x:Sh}{v:VV}{K:x.den->Prop}(h:aGD x v K):∃ d,v=ZO x d/\K d:=by
 unfold aGD at h
 split at h
 ·exact yK h
 ·split at h
  ·obtain⟨d,rfl,h1⟩:=uY h;exact⟨d,rfl,h1⟩
  ·exact h.elim
 ·split at h
  ·obtain⟨d,rfl,h1⟩:=uY h;exact⟨d,rfl,h1⟩
  ·exact h.elim
 ·split at h
  ·split at h
   ·rename_i e
    subst e
    obtain⟨d,rfl,h1⟩:=TU h;exact⟨d,rfl,h1⟩
   ·exact h.elim
  ·exact h.elim
theorem TJ:∀ {l:List Sh} {vs:List VV} {K:uJ l->Prop},unS l vs K->∃ d,vs=vG l d/\K d
 | [],vs,K,h=>by
   unfold unS at h
   split at h
   ·exact⟨(),rfl,h⟩
   ·exact h.elim
 | x::l,vs,K,h=>by
   unfold unS at h
   split at h
   ·obtain⟨a,rfl,h1⟩:=ZI h
    obtain⟨b,rfl,h2⟩:=TJ h1
    exact⟨(a,b),rfl,h2⟩
   ·exact h.elim
theorem ZQ {x:OSh}{v:VO}{K:x.den->Prop}(h:aGL x v K):∃ d,v=aCq x d/\K d:=by
 unfold aGL at h
 split at h
 ·split at h
  ·split at h
   ·rename_i e;subst e;obtain⟨d,rfl,h1⟩:=uY h;exact⟨d,rfl,h1⟩
   ·exact h.elim
  ·exact h.elim
 ·split at h
  ·split at h
   ·rename_i e
    obtain⟨rfl,rfl⟩:=e
    obtain⟨e,h⟩:=Ty.at_inv h
    subst e
    exact⟨_,rfl,h⟩
   ·exact h.elim
  ·exact h.elim
 ·split at h
  ·exact⟨(),rfl,h⟩
  ·exact h.elim
theorem TL:∀ {l:List OSh} {vs:List VO} {K:RR l->Prop},unO l vs K->∃ d,vs=aEJ l d/\K d
 | [],vs,K,h=>by
   unfold unO at h
   split at h
   ·exact⟨(),rfl,h⟩
   ·exact h.elim
 | x::l,vs,K,h=>by
   unfold unO at h
   split at h
   ·obtain⟨a,rfl,h1⟩:=ZQ h
    obtain⟨b,rfl,h2⟩:=TL h1
    exact⟨(a,b),rfl,h2⟩
   ·exact h.elim
def wE (F0:Fz)(H0:aB)(hs:Nat->Value->Prop)(s:VS)(ta:aC)(H:aB):Prop:=∃ c,c.hs=hs/\Rel F0 H0 c s ta H
theorem aA4 {hs:Nat->Value->Prop}(hr:wE F0 H0 hs s ta H)(live:List Nat):wE F0 H0 hs (aHg live s) ta H:=by
 obtain⟨c,hc,hr⟩:=hr
 obtain⟨c',h1,h2,h3,h4,h5⟩:=L8 hr live
 exact⟨c',h1.trans hc,h3,h4,KG (fun _=>trivial) live _ h5⟩
theorem aEW {i:Nat}{q:Bool}{T:Ty}{l:List T.den}{fr:Bool}{a:Value}(hok:Ok F0 H0 c H)(hi:bO c.h i = .lst q T l fr)(hr:RL c (.own i) a) :
 ∃ c',Le c c'/\c'.hs=c.hs/\c'.h=cY c.h [i]/\Ok F0 H0 c' H/\RL c' (.fz q T l) a:=by
 obtain⟨c1,k1,k2,kn,kρ,k3,k4⟩:=hok.freezes [i]
 refine⟨c1,k1,k1.hs,k2,k3,?_⟩
 have hl:RL c1 (fH c.h (.own i)) a:=tF hok k1 kρ hr fun j hj=>k4 j (by simpa [n6] using hj)
 have hres:fH c.h (.own i) = .fz q T l:=by unfold fH;simp only[hi]
 rw[hres]at hl
 exact hl
theorem fzA {q:Bool}{T:Ty}{l:List T.den}{a:Value}(h:RL c (.fz q T l) a):RL c (.fz false T l) a:=by
 obtain⟨ad,k,h1,h2⟩:=h
 have hext:(dR q c.n0 c.F).ext (dR false c.n0 c.F):=rE (fun e=>by cases e)
 exact⟨ad,k,h1,h2.mono hext (RT.mono hext T)⟩
theorem ME {fz:Bool}{T:Ty}{v v':VV}{h':List VO}{a:Value}(hok:Ok F0 H0 c H)(hr:RL c v a)(hc:conv fz T c.h v=some (v',h')):∃ c',Le c c'/\c'.h=h'/\Ok F0 H0 c' H/\RL c' v' a:=by
 unfold conv at hc
 split at hc
 ·cases hc
  obtain⟨rfl,_⟩:=hr
  exact⟨_,lQ _ _,rfl,hok.addNil true T (Pre.refl H),AE (c:=c) (a:=none) (q:=true) (l:=([]:List T.den)) rfl⟩
 ·cases hc
  obtain⟨rfl,_⟩:=hr
  exact⟨c,Le.refl c,rfl,hok,none,_,rfl,⟨Nat.zero_le _,.inl rfl⟩⟩
 ·split at hc
  ·rename_i hg
   cases hc
   obtain⟨c',h1,h2,h3,h4,h5⟩:=aEW hok hg hr
   exact⟨c',h1,h3,h4,fzA h5⟩
  ·cases hc
 ·cases hc
  exact⟨c,Le.refl c,rfl,hok,fzA hr⟩
 ·cases hc
theorem aH9 {v:VV}{a:Value}{fz:Bool}{T:Ty}{h:List VO}{r:VV×List VO}(hc:conv fz T h v=some r)(hr:R2 c v a):RL c v a:=by
 unfold conv at hc
 split at hc
 ·exact hr
 ·exact hr
 ·exact hr
 ·exact hr
 ·cases hc
theorem aDb {fz:Bool}{T:Ty}{h h':List VO}{v v':VV}(hc:conv fz T h v=some (v',h')){i:Nat}{cs:List VV}{fr:Bool}(hi:h[i]? = some (.box cs fr))(hv:∀ j,v = .own j->j≠i):h'[i]? = some (.box cs fr):=by
 unfold conv at hc
 split at hc
 ·cases hc;rw[List.getElem?_append_left (aQ hi)];exact hi
 ·cases hc;exact hi
 ·rename_i j
  split at hc
  ·cases hc
   show(h.set j (gR (bO h j)))[i]? = _
   rw[List.getElem?_set_ne (hv j rfl)];exact hi
  ·cases hc
 ·cases hc;exact hi
 ·cases hc
theorem aCU {hs:Nat->Value->Prop}(co:Co)(hr:wE F0 H0 hs s ta H):wE F0 H0 hs (co1 s co) ta H:=by
 obtain⟨c,hc,hh,hok,ht⟩:=hr
 unfold co1
 split
 ·split
  ·rename_i v h' hcv
   rw[<- hh]at hcv
   have hd:=ht co.d
   obtain⟨c',h1,h2,h3,h4⟩:=ME hok (aH9 hcv hd) hcv
   refine⟨c',h1.hs.trans hc,h2,h3,?_⟩
   intro i
   show R2 c' (if co.d=i then v else cO s.t i) _
   split
   ·rename_i e;subst e;exact yM (W2 h4)
   ·exact R2.mono h1 _ _ (ht i)
  ·exact⟨c,hc,hh,hok,ht⟩
 ·rename_i q hq
  split
  ·rename_i i off hl
   split
   ·rename_i cs fr hg
    split
    ·rename_i u hu
     split
     ·rename_i v h' hcv
      rw[<- hh]at hcv hg
      have hi:=dX hg (by intro e;cases e)
      obtain⟨b,azz,k1,k2,k3,k4,k5⟩:=(hok.obj i _ hi).box _ _ rfl
      obtain⟨a,m1,m2⟩:=k3.get hu
      obtain⟨c',h1,h2,h3,h4⟩:=ME hok m2 hcv
      have hi':c'.h[i]? = some (.box cs fr):=by
       rw[h2]
       refine aDb hcv hi fun j e => ?_
       intro e2
       subst e;subst e2
       simp only[RL,hi]at m2
      have hle:Le c' (o9 c' i (.box (cs.set q v) fr)):=uF hi' trivial
      have ob:=h3.obj i _ hi'
      obtain⟨b',as',n1,n2,n3,n4,n5⟩:=ob.box _ _ rfl
      have hbb:b'=b:=by
       rw[h1.ρ i (aQ hi),k1]at n1
       exact(Option.some.inj n1).symm
      subst hbb
      rw[k2]at n2
      cases n2
      refine⟨o9 c' i (.box (cs.set q v) fr),hle.hs.trans (h1.hs.trans hc),?_,?_,?_⟩
      ·show c'.h.set i _=_;rw[h2]
      ·exact {
        n0:=h3.n0,pre:=h3.pre,fz:=h3.fz,low:=h3.low
        obj:=fun j p hj=>by
         rcases DH hj with⟨rfl,rfl⟩|⟨hne,hj'⟩
         ·exact {
           lo:=fun b e=>ob.lo b e
           box:=fun cs2 fr2 e=>by
            cases e
            refine⟨b',azz,n1,k2,?_,n4,n5⟩
            have hset:azz.set q a=azz:=by
             apply List.ext_getElem?
             intro x
             by_cases hx:q=x
             ·subst hx;rw[List.getElem?_set_self (aQ m1),m1]
             ·rw[List.getElem?_set_ne hx]
            have:=(n3.mono (RL.mono hle)).set q (RL.mono hle _ _ h4)
            rw[hset]at this
            exact this
           lst:=fun _ _ _ _ e=>(by cases e)
           dead:=fun _ e=>(by cases e) }
         ·exact(h3.obj j p hj').mono hle rfl (fun _ _=>rfl) (fun _ _ _ hB=>hB) (Nat.le_refl _)
        inj:=fun j k b' hjk hj hk=>by
         show(c'.h.set i _)[j]? = _\/(c'.h.set i _)[k]? = _
         rcases h3.inj j k b' hjk hj hk with e|e
         ·left
          by_cases hji:i=j
          ·subst hji;rw[hi']at e;cases e
          ·rw[List.getElem?_set_ne hji];exact e
         ·right
          by_cases hki:i=k
          ·subst hki;rw[hi']at e;cases e
          ·rw[List.getElem?_set_ne hki];exact e
        bj:=h3.bj.set hi' (fun _=>rfl)
        dom:=fun j hj=>h3.dom j (by have:(c'.h.set i (.box (cs.set q v) fr)).length<=j:=hj;simpa using this) }
      ·exact fun d=>R2.mono (h1.trans hle) _ _ (ht d)
     ·exact⟨c,hc,hh,hok,ht⟩
    ·exact⟨c,hc,hh,hok,ht⟩
   ·exact⟨c,hc,hh,hok,ht⟩
  ·exact⟨c,hc,hh,hok,ht⟩
theorem LQ {hs:Nat->Value->Prop}:∀ (cs:List Co) {s:VS},wE F0 H0 hs s ta H->wE F0 H0 hs (aEF cs s) ta H
 | [],s,h=>h
 | c::cs,s,h=>LQ cs (aCU c h)
theorem kX {hs:Nat->Value->Prop}(hr:wE F0 H0 hs s ta H)(en:tS)(m:Nat):wE F0 H0 hs (xF en m s) ta H:=by
 unfold xF
 split
 ·exact aA4 (LQ _ hr) _
 ·exact hr
theorem GE {hs:Nat->Value->Prop}{live:List Nat}{sh:List Sh}{ob:List OSh}{K:uJ sh×RR ob->Prop}(hr:wE F0 H0 hs s ta H)(h:aGk live sh ob s K):∃ x,K x/\wE F0 H0 hs (V5 live sh ob x) ta H:=by
 obtain⟨c,hc,hr⟩:=hr
 obtain⟨c',h1,h2,h3,h4,h5⟩:=L8 hr live
 unfold aGk at h
 obtain⟨a,e1,h⟩:=TJ h
 obtain⟨b,e2,h⟩:=TL h
 refine⟨(a,b),h,c',h1.trans hc,?_,h4,?_⟩
 ·rw[h3,e2];rfl
 ·rw[e1]at h5
  exact KG (fun _=>trivial) live _ h5
def jS:Nat->Code->Nat->Option Code
 | 0,_,_=>none
 | f+1,root,n=>if n<=1 then some root else
   match jS f root (n / 2)with
   | some (.seq a b)=>if n%2=0 then some a else some b
   | some (.cond _ x y)=>if n%2=0 then some x else some y
   | some (.block _ b)=>some b
   | some (.loop b)=>some b
   | _=>none
theorem YY {root:Code}:∀ {f f' n:Nat} {c c':Code},jS f root n=some c->jS f' root n=some c'->c=c':=by
 intro f
 induction f with
 | zero=>intro f' n c c' h;cases h
 | succ f ih =>
   intro f' n c c' h h'
   cases f' with
   | zero=>cases h'
   | succ f' =>
     unfold jS at h h'
     by_cases hn:n<=1
     ·rw[if_pos hn]at h h';cases h;cases h';rfl
     ·rw[if_neg hn]at h h'
      cases e:jS f root (n / 2)with
      | none=>rw[e]at h;cases h
      | some d =>
        cases e':jS f' root (n / 2)with
        | none=>rw[e']at h';cases h'
        | some d' =>
          have:=ih e e'
          subst this
          rw[e]at h
          rw[e']at h'
          rw[h]at h'
          exact Option.some.inj h'
theorem aDk {P:Program}{x:Code}{t:aC}{Q:dU->aC->aB->Prop}(h:W P fl x t H fun e t1 H1=>match e with
 | .normal=>W P fl (.loop x) t1 H1 Q
 | e=>Q e t1 H1):W P fl (.loop x) t H Q:=by
 obtain⟨N,e,t1,H1,h1,h2⟩:=h
 cases e with
 | normal =>
   obtain⟨M,e2,t2,H2,h3,h4⟩:=h2
   simp only[gU]at h3
   refine⟨max N M+1,e2,t2,H2,?_,h4⟩
   simp only[gU,w9]
   rw[uZ (jY P (show N<=max N M+1 by omega)) (show N<=max N M+1 by omega) _ _ _ _ h1]
   exact GA (uZ (jY P (show M<=max N M+1 by omega)) (show M<=max N M+1 by omega) x) (show M<=max N M by omega) _ _ _ h3
 | _ =>
   refine⟨N+1,_,t1,H1,?_,h2⟩
   simp only[gU,w9]
   rw[uZ (jY P (Nat.le_succ N)) (Nat.le_succ N) _ _ _ _ h1]
structure Tl (p:Prop):Prop where
 it:p
def SL (G:Cfg)(ct:Tab)(en:tS)(root:Code):Prop :=
 ∀ n E,ct n=some E->∀ f c,jS f root n=some c->∀ x k,E.P x k->Tl (vwp G ct en c n (V5 E.live E.sh E.ob x) k)
theorem aDr {root a b:Code}{f m:Nat}(hm:1<=m)(h:jS f root m=some (.seq a b)):jS (f+1) root (2*m)=some a/\jS (f+1) root (2*m+1)=some b:=by
 constructor
 ·unfold jS
  rw[if_neg (by omega),show 2*m / 2=m by omega,h]
  simp
 ·unfold jS
  rw[if_neg (by omega),show(2*m+1) / 2=m by omega,h]
  simp only[]
  rw[if_neg (by omega)]
theorem aCI {root a b:Code}{o:Operand}{f m:Nat}(hm:1<=m)(h:jS f root m=some (.cond o a b)):jS (f+1) root (2*m)=some a/\jS (f+1) root (2*m+1)=some b:=by
 constructor
 ·unfold jS
  rw[if_neg (by omega),show 2*m / 2=m by omega,h]
  simp
 ·unfold jS
  rw[if_neg (by omega),show(2*m+1) / 2=m by omega,h]
  simp only[]
  rw[if_neg (by omega)]
theorem aB4 {root b:Code}{f m:Nat}(hm:1<=m)(h:(∃ id,jS f root m=some (.block id b))\/jS f root m=some (.loop b)):jS (f+1) root (2*m)=some b:=by
 unfold jS
 rw[if_neg (by omega),show 2*m / 2=m by omega]
 rcases h with⟨id,h⟩|h <;> rw[h]
structure aFy (G:Cfg)(H0:aB)(hs:Nat->Value->Prop)(fl:Nat):Prop where
 O:∀ f args Q,G.O f args Q->mS G.P f args Q
 fl:fl<=H0.length
 I:∀ J,G.I=some J->cC G.P J
theorem TF {hs:Nat->Value->Prop}{ct:Tab}{en:tS}{root:Code}(he:aFy G H0 hs fl)(htab:SL G ct en root):∀ (c:Code) (m:Nat) {s:VS} {k:dU->VS->Prop} {ta:aC} {H:aB} {Q:dU->aC->aB->Prop},1<=m->(∃ f,jS f root m=some c)->fA n c=true ->
 wE F0 H0 hs s ta H->vwp G ct en c m s k->(∀ e s' ta' H',wE F0 H0 hs s' ta' H'->k e s'->Q e ta' H')->W G.P fl c ta H Q:=by
 intro c
 have cut:∀ (x:Code) (m:Nat) {s:VS} {k:dU->VS->Prop} {ta:aC} {H:aB},(∃ f,jS f root m=some x)->wE F0 H0 hs s ta H->xW ct m (vwp G ct en x m) s k->∃ s',wE F0 H0 hs s' ta H/\vwp G ct en x m s' k:=by
  intro x m s k ta H hsub hr h
  unfold xW at h
  split at h
  ·rename_i E hE
   obtain⟨y,h1,h2⟩:=GE hr h
   obtain⟨f,hf⟩:=hsub
   exact⟨_,h2,(htab m E hE f x hf y k h1).it⟩
  ·exact⟨s,hr,h⟩
 induction c with
 | skip =>
   intro m s k ta H Q hm hsub hco hr hv hQ
   exact aGt (hQ _ _ _ _ (kX hr en m) hv)
 | label l =>
   intro m s k ta H Q hm hsub hco hr hv hQ
   exact aF6 (hQ _ _ _ _ (kX hr en m) hv)
 | exit id =>
   intro m s k ta H Q hm hsub hco hr hv hQ
   exact aGP (hQ _ _ _ _ (kX hr en m) hv)
 | ret =>
   intro m s k ta H Q hm hsub hco hr hv hQ
   exact aHv (hQ _ _ _ _ (kX hr en m) hv)
 | region id ops draw =>
   intro m s k ta H Q hm hsub hco hr hv hQ
   obtain⟨c,hc,hr⟩:=hr
   have hop:∀ o∈ops.toList,mX n ops o=true:=by
    unfold fA at hco
    exact fun o ho=>List.all_eq_true.1 hco o ho
   refine PN (n:=n) ⟨he.O,he.fl⟩ he.I hr hop hv ?_
   rintro ta' H' s' c' hle hr' hk
   exact hQ _ _ _ _ (kX ⟨c',hle.trans hc,hr'⟩ en m) hk
 | seq a b iha ihb =>
   intro m s k ta H Q hm hsub hco hr hv hQ
   obtain⟨f,hf⟩:=hsub
   obtain⟨ka,kb⟩:=aDr hm hf
   simp only[fA,Bool.and_eq_true]at hco
   obtain⟨s1,hr1,hv1⟩:=cut a (2*m) ⟨_,ka⟩ hr hv
   refine aHy (iha (2*m) (by omega) ⟨_,ka⟩ hco.1 hr1 hv1 ?_)
   intro e s' ta' H' hr' hk
   cases e with
   | normal =>
     obtain⟨s2,hr2,hv2⟩:=cut b (2*m+1) ⟨_,kb⟩ hr' hk
     exact ihb (2*m+1) (by omega) ⟨_,kb⟩ hco.2 hr2 hv2 hQ
   | _=>exact hQ _ _ _ _ hr' hk
 | cond o x y ihx ihy =>
   intro m s k ta H Q hm hsub hco hr hv hQ
   obtain⟨f,hf⟩:=hsub
   obtain⟨kx,ky⟩:=aCI hm hf
   simp only[fA,Bool.and_eq_true]at hco
   have hv:(match evV s.t o with
    | .pl (.bool b)=>if b=true then xW ct (2*m) (vwp G ct en x (2*m)) s k else xW ct (2*m+1) (vwp G ct en y (2*m+1)) s k
    | _=>False):=hv
   obtain⟨c,hc,hrc⟩:=hr
   have hev:=cP hrc.2.2 hco.1.1
   split at hv
   ·rename_i b heq
    rw[heq]at hev
    refine aGB (dN hev).1 (fun hb => ?_) (fun hb => ?_)
    ·rw[if_pos hb]at hv
     obtain⟨s1,hr1,hv1⟩:=cut x (2*m) ⟨_,kx⟩ ⟨c,hc,hrc⟩ hv
     exact ihx (2*m) (by omega) ⟨_,kx⟩ hco.1.2 hr1 hv1 hQ
    ·rw[if_neg (by rw[hb];simp)]at hv
     obtain⟨s1,hr1,hv1⟩:=cut y (2*m+1) ⟨_,ky⟩ ⟨c,hc,hrc⟩ hv
     exact ihy (2*m+1) (by omega) ⟨_,ky⟩ hco.2 hr1 hv1 hQ
   ·exact hv.elim
 | block id b ih =>
   intro m s k ta H Q hm hsub hco hr hv hQ
   obtain⟨f,hf⟩:=hsub
   have kb:=aB4 (b:=b) hm (.inl ⟨id,hf⟩)
   obtain⟨s1,hr1,hv1⟩:=cut b (2*m) ⟨_,kb⟩ hr hv
   refine aEn (ih (2*m) (by omega) ⟨_,kb⟩ hco hr1 hv1 ?_)
   intro e s' ta' H' hr' hk
   cases e with
   | exit id'=>exact hQ _ _ _ _ hr' hk
   | _=>exact hQ _ _ _ _ hr' hk
 | loop b ih =>
   intro m s k ta H Q hm hsub hco hr hv hQ
   obtain⟨f,hf⟩:=hsub
   have kb:=aB4 (b:=b) hm (.inr hf)
   have step:∀ (X:VS->Prop),(∀ s,X s->∀ ta H,wE F0 H0 hs s ta H->W G.P fl (.loop b) ta H Q)->∀ s,LB k en m (xW ct (2*m) (vwp G ct en b (2*m))) s X->∀ ta H,wE F0 H0 hs s ta H->W G.P fl (.loop b) ta H Q:=by
    intro X hX s hB ta H hr
    refine aDk ?_
    obtain⟨s1,hr1,hv1⟩:=cut b (2*m) ⟨_,kb⟩ hr hB
    refine ih (2*m) (by omega) ⟨_,kb⟩ hco hr1 hv1 ?_
    intro e s' ta' H' hr' hk
    cases e with
    | normal=>exact hX _ hk ta' H' (kX hr' en m)
    | _=>exact hQ _ _ _ _ hr' hk
   unfold vwp at hv
   split at hv
   ·exact hv (fun s=>∀ ta H,wE F0 H0 hs s ta H->W G.P fl (.loop b) ta H Q) (fun s hB=>step _ (fun _ h=>h) s hB) ta H (kX hr en m)
   ·rename_i u _
    have key:∀ (u:Nat) s,unr (LB k en m (xW ct (2*m) (vwp G ct en b (2*m)))) u s->∀ ta H,wE F0 H0 hs s ta H->W G.P fl (.loop b) ta H Q:=by
     intro u
     induction u with
     | zero=>intro s h;exact h.elim
     | succ u ihu=>intro s h;exact step _ ihu s h
    exact key _ _ hv ta H (kX hr en m)
 | rangeFunc f ps a b _ _=>intro m s k ta H Q hm hsub hco;simp[fA]at hco
 | scope b _=>intro m s k ta H Q hm hsub hco;simp[fA]at hco
 | goto l=>intro m s k ta H Q hm hsub hco hr hv;simp[vwp]at hv
 | refuse w=>intro m s k ta H Q hm hsub hco;simp[fA]at hco
end
end Go.Mach
namespace Go.Mach
set_option linter.unusedVariables false
set_option linter.unusedSimpArgs false
section
variable {G:Cfg} {F0:Fz} {H0:aB} {c c':Ctx} {H H':aB} {s:VS} {ta:aC} {n fl:Nat} {ops:Array Oper}
theorem zO (hr:Rel F0 H0 c s ta H):∀ {rs:List ResultVar} {K:List VV->Prop},QC G s rs K->∃ vs azz,K vs/\All2 (R2 c) vs azz/\eE G.P ta H rs=some azz
 | [],K,h=>⟨[],[],h,.nil,rfl⟩
 | .tmp d::rs,K,h=>by
   obtain⟨vs,azz,h1,h2,h3⟩:=zO hr (rs:=rs) h
   exact⟨_,_,h1,.cons (hr.2.2 d) h2,by simp only[eE,p7,h3]⟩
 | .cell d ty::rs,K,h=>by
   unfold QC at h
   split at h
   ·rename_i i off he
    split at h
    ·rename_i cs fr hg
     have hd:=hr.2.2 d
     rw[he]at hd
     obtain⟨b,cs',fr',k1,k2,k3⟩:=DW hd
     have hi:=dX hg (by intro e;cases e)
     rw[hr.1,hi]at k1;cases k1
     obtain⟨b',azz,m1,m2,m3,_⟩:=(hr.2.1.obj i _ (by rw[hr.1];exact hi)).box _ _ rfl
     rw[k2]at m1;cases m1
     obtain⟨v,a,g1,g2,g3⟩:=s9 (es:=0) (ex:=true) (al:=true) m3 h
     obtain⟨vs,as',h1,h2,h3⟩:=zO hr (rs:=rs) g1
     exact⟨_,_,h1,.cons (yM g2) h2,by simp only[eE,p7,k3,DK m2 g3,h3]⟩
    ·exact h.elim
   ·exact h.elim
def Left (c:Ctx)(h:List VO)(used:List Nat):Prop:=∀ i q t l fr,bO h i = .lst q t l fr->i∉used/\c.h[i]? = some (.lst q t l fr)
theorem Left.use {h:List VO}{used:List Nat}(hl:Left c h used)(i:Nat):Left c (h.set i (.dead false)) (used++[i]):=by
 intro j q t l fr e
 have hji:j≠i:=by
  intro e2
  subst e2
  unfold bO at e
  rw[List.getD_eq_getElem?_getD]at e
  by_cases hlt:j<h.length
  ·rw[List.getElem?_set_self hlt]at e;cases e
  ·rw[List.getElem?_eq_none (by simp;omega)]at e;cases e
 have e3:bO h j = .lst q t l fr:=by
  rw[<- e]
  unfold bO
  rw[List.getD_eq_getElem?_getD,List.getD_eq_getElem?_getD,List.getElem?_set_ne (fun e=>hji e.symm)]
 obtain⟨h1,h2⟩:=hl j q t l fr e3
 exact⟨fun hm=>(List.mem_append.1 hm).elim h1 (fun hm=>hji (List.mem_singleton.1 hm)),h2⟩
theorem XR.app {l:List VV}{is:List Nat}{azz:List Value}(h:XR c l is azz):∀ {m:List VV} {js:List Nat} {bs:List Value},XR c m js bs->XR c (l++m) (is++js) (azz++bs):=by
 induction h with
 | nil=>intro m js bs k;exact k
 | pl h t ih=>intro m js bs k;exact .pl h (ih k)
 | nw h t ih=>intro m js bs k;exact .nw h (ih k)
 | nl t ih=>intro m js bs k;exact .nl (ih k)
 | al h t ih=>intro m js bs k;exact .al h (ih k)
 | er h t ih=>intro m js bs k;exact .er h (ih k)
theorem IK:∀ (T:Ty) {cs:List VV} {azz:List Value} {h:List VO} {used:List Nat} {K:T.den->List VV->List VO->Prop},All2 (RL c) cs azz->Left c h used->used.Nodup->xp T cs h K ->
 ∃ x r h' is a1 a2,K x r h'/\azz=a1++a2/\XR c (aFA T x) is a1/\All2 (RL c) r a2/\Left c h' (used++is)/\(used++is).Nodup:=by
 intro T
 induction T with
 | int k =>
   intro cs azz h used K hr hl hn hx
   unfold xp at hx
   split at hx
   ·split at hx
    ·rename_i e;subst e
     cases hr with
     | cons hr t=>obtain⟨rfl,hp⟩:=hr;exact⟨_,_,h,[],[_],_,hx,rfl,.pl hp .nil,t,by rw[List.append_nil];exact hl,by rw[List.append_nil];exact hn⟩
    ·exact hx.elim
   ·exact hx.elim
 | bool =>
   intro cs azz h used K hr hl hn hx
   unfold xp at hx
   split at hx
   ·cases hr with
    | cons hr t=>obtain⟨rfl,hp⟩:=hr;exact⟨_,_,h,[],[_],_,hx,rfl,.pl hp .nil,t,by rw[List.append_nil];exact hl,by rw[List.append_nil];exact hn⟩
   ·exact hx.elim
 | str =>
   intro cs azz h used K hr hl hn hx
   unfold xp at hx
   split at hx
   ·cases hr with
    | cons hr t=>obtain⟨rfl,hp⟩:=hr;exact⟨_,_,h,[],[_],_,hx,rfl,.pl hp .nil,t,by rw[List.append_nil];exact hl,by rw[List.append_nil];exact hn⟩
   ·exact hx.elim
 | flt =>
   intro cs azz h used K hr hl hn hx
   unfold xp at hx
   split at hx
   ·cases hr with
    | cons hr t=>obtain⟨rfl,hp⟩:=hr;exact⟨_,_,h,[],[_],_,hx,rfl,.pl hp .nil,t,by rw[List.append_nil];exact hl,by rw[List.append_nil];exact hn⟩
   ·exact hx.elim
 | cpx =>
   intro cs azz h used K hr hl hn hx
   unfold xp at hx
   split at hx
   ·cases hr with
    | cons hr t=>obtain⟨rfl,hp⟩:=hr;exact⟨_,_,h,[],[_],_,hx,rfl,.pl hp .nil,t,by rw[List.append_nil];exact hl,by rw[List.append_nil];exact hn⟩
   ·exact hx.elim
 | slc T ih =>
   intro cs azz h used K hr hl hn hx
   unfold xp at hx
   split at hx
   ·rename_i i r
    split at hx
    ·rename_i t' l hg
     obtain⟨e,hx⟩:=Ty.at_inv hx
     subst e
     obtain⟨k1,k2⟩:=hl i _ _ _ _ hg
     cases hr with
     | cons hr t =>
       have ha:=t6 (c:=c) (show R2 c (.own i) _ from hr) k2
       subst ha
       exact⟨_,_,_,[i],[_],_,hx,rfl,.nw k2 .nil,t,hl.use i,by
        rw[List.nodup_append]
        exact⟨hn,by simp,fun a ha b hb e=>k1 (by rw[List.mem_singleton]at hb;subst hb;subst e;exact ha)⟩⟩
    ·exact hx.elim
   ·cases hr with
    | cons hr t=>obtain⟨rfl,hp⟩:=hr;exact⟨_,_,h,[],[_],_,hx,rfl,.nl .nil,t,by rw[List.append_nil];exact hl,by rw[List.append_nil];exact hn⟩
   ·exact hx.elim
 | ref T ih =>
   intro cs azz h used K hr hl hn hx
   exact hx.elim
 | unit =>
   intro cs azz h used K hr hl hn hx
   exact⟨(),cs,h,[],[],azz,hx,rfl,.nil,hr,by rw[List.append_nil];exact hl,by rw[List.append_nil];exact hn⟩
 | pair A B iha ihb =>
   intro cs azz h used K hr hl hn hx
   unfold xp at hx
   obtain⟨x,r,h1,is,a1,a2,k1,rfl,k3,k4,k5,k6⟩:=iha hr hl hn hx
   obtain⟨y,r',h2,js,b1,b2,g1,rfl,g3,g4,g5,g6⟩:=ihb k4 k5 k6 k1
   exact⟨(x,y),r',h2,is++js,a1++b1,b2,g1,by rw[List.append_assoc],k3.app g3,g4,by rw[<- List.append_assoc];exact g5,by rw[<- List.append_assoc];exact g6⟩
theorem XR.len {l:List VV}{is:List Nat}{azz:List Value}(h:XR c l is azz):l.length=azz.length:=by
 induction h with
 | nil=>rfl
 | pl h t ih=>simp[ih]
 | nw h t ih=>simp[ih]
 | nl t ih=>simp[ih]
 | al h t ih=>simp[ih]
 | er h t ih=>simp[ih]
theorem aIV {F0:Fz}{H0 H:aB}(hok:Ok F0 H0 c H){i:Nat}{q:Bool}{T:Ty}{l:List T.den}{a:Value}(hi:c.h[i]? = some (.lst q T l true))(h:RL c (.own i) a):RL c (.fz false T l) a:=by
 have ha:a=sl (c.ρ i) l.length:=t6 (c:=c) h hi
 refine⟨_,_,ha,?_⟩
 have hlst:=(hok.obj i _ hi).lst _ _ _ _ rfl
 have hext:(dR q c.n0 c.F).ext (dR false c.n0 c.F):=rE (fun e=>by cases e)
 cases hb:c.ρ i with
 | none =>
   have:=hlst.1 hb
   subst this
   exact⟨Nat.le_refl _,.inl rfl⟩
 | some b =>
   obtain⟨azz,ex,k1,k2,k3,_⟩:=hlst.2 b hb
   refine(k2.mono hext).slice (b:=b) (B:=⟨azz,T.w,ex,true⟩) rfl ?_ (.inr rfl)
   unfold dR
   rw[if_neg (by simp)]
   exact k3 rfl
theorem T4 (T:Ty){cs:List VV}{azz:List Value}{h:List VO}{used:List Nat}{K:List T.den->List VV->List VO->Prop}(hr:All2 (RL c) cs azz)(hl:Left c h used)(hn:used.Nodup)(hx:xpA .z (.slc T) cs h K) :
 ∃ x r h' is a a2,K x r h'/\azz=[a]++a2/\XR c [.nw T x] is [a]/\(x=[]->a = .slice none 0 0)/\All2 (RL c) r a2/\Left c h' (used++is)/\(used++is).Nodup:=by
 unfold xpA at hx
 split at hx
 ·rename_i i r
  split at hx
  ·rename_i t' l hg
   obtain⟨e,hx⟩:=Ty.at_inv hx
   subst e
   obtain⟨hne,hx⟩:=hx
   obtain⟨k1,k2⟩:=hl i _ _ _ _ hg
   cases hr with
   | cons hr t =>
     have ha:=t6 (c:=c) (show R2 c (.own i) _ from hr) k2
     subst ha
     exact⟨_,_,_,[i],_,_,hx,rfl,.nw k2 .nil,fun e=>absurd e hne,t,hl.use i,by
      rw[List.nodup_append]
      exact⟨hn,by simp,fun a ha b hb e=>k1 (by rw[List.mem_singleton]at hb;subst hb;subst e;exact ha)⟩⟩
  ·exact hx.elim
 ·cases hr with
  | cons hr t=>obtain⟨rfl,hp⟩:=hr;exact⟨_,_,h,[],_,_,hx,rfl,.nl .nil,fun _=>rfl,t,by rw[List.append_nil];exact hl,by rw[List.append_nil];exact hn⟩
 ·exact hx.elim
theorem SJ {F0:Fz}{H0 H:aB}(hok:Ok F0 H0 c H):∀ (al:Al) (T:Ty) {cs:List VV} {azz:List Value} {h:List VO} {used:List Nat} {K:T.den->List VV->List VO->Prop},All2 (RL c) cs azz->Left c h used->used.Nodup->xpA al T cs h K ->
 ∃ x r h' is a1 a2,K x r h'/\azz=a1++a2/\XR c (VD al T x) is a1/\All2 (RL c) r a2/\Left c h' (used++is)/\(used++is).Nodup:=by
 intro al
 induction al with
 | n=>intro T cs azz h used K hr hl hn hx;cases T <;> exact IK _ hr hl hn hx
 | f =>
   intro T cs azz h used K hr hl hn hx
   cases T with
   | slc T =>
     have fin:∀ {v:VV} {r:List VV} {l:List T.den},All2 (RL c) (v::r) azz->(∀ a,RL c v a->RL c (.fz false T l) a)->K l r h->∃ x r h' is a1 a2,K x r h'/\azz=a1++a2/\XR c (VD .f (.slc T) x) is a1/\All2 (RL c) r a2/\Left c h' (used++is)/\(used++is).Nodup:=by
      intro v r l hrr hv hk
      cases hrr with
      | cons h1 t=>exact⟨_,_,h,[],[_],_,hk,rfl,.al (hv _ h1) .nil,t,by rw[List.append_nil];exact hl,by rw[List.append_nil];exact hn⟩
     unfold xpA at hx
     split at hx
     ·obtain⟨e,hx⟩:=Ty.at_inv hx
      subst e
      exact fin hr (fun a=>fzA) hx
     ·split at hx
      ·rename_i hg
       obtain⟨e,hx⟩:=Ty.at_inv hx
       subst e
       cases hr with
       | cons hr t =>
         have hi:c.h[_]? = _:=(hl _ _ _ _ _ hg).2
         exact fin (.cons hr t) (fun a hra=>aIV hok hi hra) hx
      ·exact hx.elim
     ·exact fin hr (fun a ha=>by obtain⟨rfl,_⟩:=ha;exact⟨none,_,rfl,⟨Nat.zero_le _,.inl rfl⟩⟩) hx
     ·exact hx.elim
   | _=>exact IK _ hr hl hn hx
 | z =>
   intro T cs azz h used K hr hl hn hx
   cases T with
   | slc T =>
     obtain⟨x,r,h',is,a,a2,k1,k2,k3,_,k4,k5,k6⟩:=T4 T hr hl hn hx
     exact⟨x,r,h',is,[a],a2,k1,k2,k3,k4,k5,k6⟩
   | _=>exact IK _ hr hl hn hx
 | p x y ihx ihy =>
   intro T cs azz h used K hr hl hn hx
   cases T with
   | pair A B =>
     unfold xpA at hx
     obtain⟨u,r,h1,is,a1,a2,k1,rfl,k3,k4,k5,k6⟩:=ihx A hr hl hn hx
     obtain⟨v,r',h2,js,b1,b2,g1,rfl,g3,g4,g5,g6⟩:=ihy B k4 k5 k6 k1
     exact⟨(u,v),r',h2,is++js,a1++b1,b2,g1,by rw[List.append_assoc],k3.app g3,g4,by rw[<- List.append_assoc];exact g5,by rw[<- List.append_assoc];exact g6⟩
   | _=>exact IK _ hr hl hn hx
theorem aEE {v:VV}{a:Value}(hv:okL v=true)(h:R2 c v a):RL c v a:=by
 cases v <;> first|exact h|cases hv
theorem WQ {F0:Fz}{H0 H:aB}(hok':Ok F0 H0 c H):∀ (rt:IL) (al:List Al) {vs:List VV} {azz:List Value} {h:List VO} {used:List Nat} {K:aAj rt->Prop},All2 (R2 c) vs azz->Left c h used->used.Nodup->QX rt al vs h K ->
 ∃ x is,K x/\XZ c (kK rt al x) is azz/\(used++is).Nodup:=by
 intro rt
 induction rt with
 | nil =>
   intro al vs azz h used K hr hl hn hx
   unfold QX at hx
   split at hx
   ·cases hr;exact⟨(),[],hx,.nil,by rw[List.append_nil];exact hn⟩
   ·exact hx.elim
 | cons p rt ih =>
   obtain⟨g,T⟩:=p
   intro al vs azz h used K hr hl hn hx
   unfold QX at hx
   split at hx
   ·rename_i v r
    split at hx
    ·rename_i hg
     cases hr with
     | cons hv t =>
       rename_i a azz
       cases g with
       | true =>
         cases v with
         | agg l =>
           obtain⟨bs,rfl,h2⟩:=QS hv
           obtain⟨x,left,h1,is,a1,a2,k1,k2,k3,k4,k5,k6⟩:=SJ hok' (al.headD .n) T h2 hl hn hx
           split at k1
           ·cases k4
            rw[List.append_nil]at k2
            subst k2
            obtain⟨y,js,g1,g2,g3⟩:=ih al.tail t k5 k6 k1
            refine⟨(x,y),is++js,g1,?_,by rw[<- List.append_assoc];exact g3⟩
            have e0:zmk true (al.headD .n) T=[]:=by cases al.headD .n <;> rfl
            show XZ c ((true,VD (al.headD .n) T x++zmk true (al.headD .n) T)::kK rt al.tail y) _ _
            rw[e0,List.append_nil]
            have:=XZ.s (XS.agg k3 .nil) g2
            rwa [List.append_nil]at this
           ·exact k1.elim
         | _=>cases hg.1
       | false =>
         have hok:okL v=true:=hg.2.resolve_left (by simp)
         have hleaf:=aEE hok hv
         have hvc:dK v=[v]:=by cases v <;> first|rfl|cases hok
         rw[hvc]at hx
         by_cases hzz:∃ T',al.headD .n = .z/\T = .slc T'
         ·obtain⟨T',e1,rfl⟩:=hzz
          rw[e1]at hx
          obtain⟨x,left,h1,is,a1,a2,k1,k2,k3,kz,k4,k5,k6⟩:=T4 T' (.cons hleaf .nil) hl hn hx
          split at k1
          ·cases k4
           cases k2
           obtain⟨y,js,g1,g2,g3⟩:=ih al.tail t k5 k6 k1
           refine⟨(x,y),is++js,g1,?_,by rw[<- List.append_assoc];exact g3⟩
           show XZ c ((false,VD (al.headD .n) (.slc T') x++zmk false (al.headD .n) (.slc T'))::kK rt al.tail y) _ _
           rw[e1]
           exact .z k3 kz g2
          ·exact k1.elim
         have e0:zmk false (al.headD .n) T=[]:=by
          cases e1:al.headD .n <;> cases T <;> first|rfl|exact absurd ⟨_,e1,rfl⟩ hzz
         obtain⟨x,left,h1,is,a1,a2,k1,k2,k3,k4,k5,k6⟩:=SJ hok' (al.headD .n) T (.cons hleaf .nil) hl hn hx
         split at k1
         ·cases k4
          rw[List.append_nil]at k2
          subst k2
          obtain⟨y,js,g1,g2,g3⟩:=ih al.tail t k5 k6 k1
          have hlen:=k3.len
          match he:VD (al.headD .n) T x with
          | [z] =>
            rw[he]at k3
            refine⟨(x,y),is++js,g1,?_,by rw[<- List.append_assoc];exact g3⟩
            show XZ c ((false,VD (al.headD .n) T x++zmk false (al.headD .n) T)::kK rt al.tail y) _ _
            rw[e0,he,List.append_nil]
            have:=XZ.s (XS.one k3 .nil) g2
            rwa [List.append_nil]at this
          | []=>rw[he]at hlen;simp at hlen
          | _::_::_=>rw[he]at hlen;simp at hlen
         ·exact k1.elim
    ·exact hx.elim
   ·exact hx.elim
theorem Z7 (args:List Value):∀ d,start args.toArray d=args.getD d undef:=by
 intro d
 unfold start
 rw[Array.getD_eq_getD_getElem?,List.getD_eq_getElem?_getD]
 simp
theorem SQ {R:VV->Value->Prop}(hu:∀ a,R .undef a):∀ {vs:List VV} {azz:List Value} (k:Nat),All2 R vs azz->∀ d,k<=d->R (cO (NM (List.range' k vs.length) vs) d) (azz.getD (d-k) undef)
 | [],[],k,.nil,d,_=>hu _
 | v::vs,a::azz,k,.cons h t,d,hd=>by
   show R (if k=d then v else cO (NM (List.range' (k+1) vs.length) vs) d) _
   by_cases e:k=d
   ·rw[if_pos e,show d-k=0 by omega];exact h
   ·rw[if_neg e,show d-k=(d-(k+1))+1 by omega,List.getD_cons_succ]
    exact SQ hu (k+1) t d (by omega)
theorem NZ {vs:List VV}{azz:List Value}(h:All2 (R2 c) vs azz):Tok c (EC vs) (start azz.toArray):=by
 intro d
 rw[Z7]
 unfold EC
 rw[List.range_eq_range']
 have:=SQ (R:=R2 c) (fun _=>trivial) 0 h d (Nat.zero_le _)
 rwa [Nat.sub_zero]at this
theorem aB2 (F:Fz)(H:aB)(hs:Nat->Value->Prop)(hF:∀ b B,F b=some B->blk? H b=some B):Ok F H (GW F H hs) H where
 n0:=rfl
 pre:=Pre.refl H
 fz:=hF
 low:=fun b _=>rfl
 obj:=fun i o h=>by simp[GW]at h
 inj:=fun i j b _ h=>by cases h
 bj:=fun i j b _ _ h=>by cases h
 dom:=fun _ _=>rfl
theorem ZL {ct:Tab}{en:tS}{f:FuncId}{fn:Func}{cd:Code}{rt:IL}(al:List Al){args:List VV}{Q:List (Bool×List VV)->Prop}
 (hf:G.P.funcs[f]? = some fn) (hb:bod fn=some cd) (hfo:okF f fn cd=true) (hsz:args.length<=fn.ntmps) (htab:SL G ct en cd) (hO:∀ f args Q,G.O f args Q->mS G.P f args Q) (hI:∀ J,G.I=some J->cC G.P J)
 (hv:aAc G ct en fn cd rt al args fun r=>Q (kK rt al r)):mS G.P f args Q:=by
 intro F fl H azz hF hfl ha
 refine aDl hf hb hfo (by simp;rw[<- ha.len];exact hsz) ?_
 have hco:fA fn.ntmps cd=true:=by
  have hfo:=O0 hfo
  unfold F7 at hfo
  simp only[Bool.and_eq_true]at hfo
  exact hfo.1.1
 have hr:wE F H LD ⟨EC args,[]⟩ (start azz.toArray) H:=⟨GW F H LD,rfl,rfl,aB2 F H LD hF,NZ ha⟩
 have he:aFy G H LD fl:=⟨hO,hfl,hI⟩
 unfold aAc at hv
 have key:∃ s',wE F H LD s' (start azz.toArray) H/\vwp G ct en cd 1 s' (fun e s=>match e with
  | .normal | .ret=>QC G s fn.results.toList fun vs=>QX rt al vs s.h fun r=>Q (kK rt al r)
  | _=>False):=by
  unfold xW at hv
  split at hv
  ·rename_i E hE
   obtain⟨y,h1,h2⟩:=GE hr hv
   exact⟨_,h2,(htab 1 E hE 1 cd rfl y _ h1).it⟩
  ·exact⟨_,hr,hv⟩
 obtain⟨s',hr',hv'⟩:=key
 refine TF (n:=fn.ntmps) he htab cd 1 (Nat.le_refl _) ⟨1,rfl⟩ hco hr' hv' ?_
 intro e s2 ta2 H2 hr2 hk
 have fin:(QC G s2 fn.results.toList fun vs=>QX rt al vs s2.h fun r=>Q (kK rt al r))->∃ vs,eE G.P ta2 H2 fn.results.toList=some vs/\∃ sl,Q sl/\aFr F H H2 sl (xC vs):=by
  intro hk
  obtain⟨c2,hc2,hrel⟩:=hr2
  obtain⟨vs,as2,h1,h2,h3⟩:=zO hrel hk
  obtain⟨x,is,g1,g2,g3⟩:=WQ hrel.2.1 rt al (h:=s2.h) (used:=[]) h2 (fun i q t l fr e=>⟨by simp,by rw[hrel.1];exact dX e (by intro e;cases e)⟩) List.nodup_nil h1
  exact⟨as2,h3,_,g1,.inl ⟨c2,is,as2,hrel.2.1,g2,by simpa using g3,rfl⟩⟩
 cases e with
 | normal=>exact fin hk
 | ret=>exact fin hk
 | _=>exact hk.elim
theorem S7:∀ (a b:List (Nat×VV)) (i:Nat),cO (a++b) i=if (a.any fun p=>p.1==i)=true then cO a i else cO b i
 | [],b,i=>by simp
 | (d,v)::a,b,i=>by
   show(if d=i then v else cO (a++b) i)=_
   by_cases e:d=i
   ·rw[if_pos e,if_pos (by simp[e])]
    show v=if d=i then v else cO a i
    rw[if_pos e]
   ·rw[if_neg e,S7 a b i]
    have h1:((d,v)::a).any (fun p=>p.1==i)=a.any fun p=>p.1==i:=by simp[e]
    rw[h1]
    show _=if _ then(if d=i then v else cO a i)else _
    rw[if_neg e]
theorem P4:∀ (a:List (Nat×VV)) (i:Nat),(a.any fun p=>p.1==i)=false->cO a i = .undef
 | [],_,_=>rfl
 | (d,v)::a,i,h=>by
   simp only[List.any_cons,Bool.or_eq_false_iff,beq_eq_false_iff_ne]at h
   show(if d=i then v else cO a i)=_
   rw[if_neg h.1]
   exact P4 a i h.2
theorem LU (n:Nat):∀ (a:List (Nat×VV)) (i:Nat),cO (GV n a) (i+n)=cO a i
 | [],_=>rfl
 | (d,v)::a,i=>by
   show(if d+n=i+n then v else cO (GV n a) (i+n))=if d=i then v else cO a i
   rw[LU n a i]
   by_cases e:d=i
   ·rw[if_pos e,if_pos (by omega)]
   ·rw[if_neg e,if_neg (by omega)]
theorem EF (n:Nat):∀ (a:List (Nat×VV)) (i:Nat),i<n->cO (GV n a) i = .undef
 | [],_,_=>rfl
 | (d,v)::a,i,h=>by
   show(if d+n=i then v else cO (GV n a) i)=_
   rw[if_neg (by omega)]
   exact EF n a i h
theorem xO (n:Nat):∀ (a:List (Nat×VV)) (i:Nat),cO (o5 n a) i=cO a (i+n)
 | [],_=>rfl
 | (d,v)::a,i=>by
   unfold o5
   by_cases h:n<=d
   ·rw[if_pos h]
    show(if d-n=i then v else cO (o5 n a) i)=if d=i+n then v else cO a (i+n)
    rw[xO n a i]
    by_cases e:d=i+n
    ·rw[if_pos e,if_pos (by omega)]
    ·rw[if_neg e,if_neg (by omega)]
   ·rw[if_neg h,xO n a i]
    show _=if d=i+n then v else cO a (i+n)
    rw[if_neg (by omega)]
theorem WS (args:List VV):∀ i,((EC args).any fun p=>p.1==i)=true->i<args.length:=by
 intro i h
 rw[List.any_eq_true]at h
 obtain⟨p,hp,hi⟩:=h
 have:∀ (ks:List Nat) (vs:List VV) (p:Nat×VV),p∈NM ks vs->p.1∈ks:=by
  intro ks
  induction ks with
  | nil=>intro vs p hp;cases vs <;> simp[NM]at hp
  | cons k ks ih =>
    intro vs p hp
    cases vs with
    | nil=>simp[NM]at hp
    | cons v vs =>
      simp only[NM,List.mem_cons]at hp
      rcases hp with rfl|hp
      ·simp
      ·exact List.mem_cons_of_mem _ (ih vs p hp)
 have h2:=this _ _ _ hp
 rw[List.mem_range]at h2
 have:p.1=i:=by simpa using hi
 omega
theorem aGf {v:VV}{a:Value}(hv:r1B v=true)(h:R2 c v a):R1 c v a:=by
 cases v <;> first|exact h|cases hv
theorem aB8:∀ {vs:List VV} {azz:List Value},vs.all r1B=true->All2 (R2 c) vs azz->All2 (R1 c) vs azz
 | [],_,_,.nil => .nil
 | _::_,_,hv,.cons h t=>by
   simp only[List.all_cons,Bool.and_eq_true]at hv
   exact .cons (aGf hv.1 h) (aB8 hv.2 t)
theorem IX {P:Program}{t t2:aC}{m:Nat}:∀ {rs:List ResultVar},(rs.all fun | .tmp d=>d<m | .cell d _=>d<m)=true->Agree m t t2->eE P t H rs=eE P t2 H rs
 | [],_,_=>rfl
 | r::rs,h,ha=>by
   simp only[List.all_cons,Bool.and_eq_true]at h
   simp only[eE]
   rw[IX h.2 ha]
   cases r with
   | tmp d=>simp only[p7];rw[ha d (of_decide_eq_true h.1)]
   | cell d ty=>simp only[p7];rw[ha d (of_decide_eq_true h.1)]
theorem aGy {G1:Cfg}{ct:Tab}{en:tS}{F:FuncId}{fn:Func}{cd:Code}
 (hf:G1.P.funcs[F]? = some fn) (hb:bod fn=some cd) (hfo:okF F fn cd=true) (htab:SL G1 ct en cd) (hO:∀ f args Q,G1.O f args Q->mS G1.P f args Q) (hI:∀ J,G1.I=some J->cC G1.P J) :
 cC G1.P ⟨fun g=>g==F,fun _ args s k=>UW G1 ct en fn cd args s k⟩:=by
 intro g args s k hB hr F0 H0 c H fl ta az hrel hfl ha
 have hg:g=F:=by simpa using hB
 subst hg
 have hr:UW G1 ct en fn cd args s k:=hr
 unfold UW at hr
 split at hr
 case isFalse=>exact hr.elim
 rename_i hlen
 refine aDl hf hb hfo (by simp;rw[<- ha.len];exact hlen) ?_
 have hco:fA fn.ntmps cd=true:=by
  have hfo:=O0 hfo
  unfold F7 at hfo
  simp only[Bool.and_eq_true]at hfo
  exact hfo.1.1
 have hres:(fn.results.toList.all fun | .tmp d=>d<fn.ntmps | .cell d _=>d<fn.ntmps)=true:=by
  have hfo:=O0 hfo
  unfold F7 at hfo
  simp only[Bool.and_eq_true]at hfo
  exact hfo.2
 generalize hn:fn.ntmps=n at *
 let t2:aC:=fun i=>if i<n then start az.toArray i else ta (i-n)
 have htok:Tok c (EC args++GV n s.t) t2:=by
  intro i
  rw[S7]
  by_cases hi:i<n
  ·have e2:t2 i=start az.toArray i:=if_pos hi
   rw[e2]
   have h1:=NZ ha i
   split
   ·exact h1
   ·rename_i hk
    rw[EF n s.t i hi]
    rw[P4 _ _ (Bool.eq_false_iff.2 hk)]at h1
    exact h1
  ·have e2:t2 i=ta (i-n):=if_neg hi
   rw[e2]
   split
   ·rename_i hk
    have:=WS args i hk
    omega
   ·have:=LU n s.t (i-n)
    rw[show i-n+n=i by omega]at this
    rw[this]
    exact hrel.2.2 (i-n)
 have hr0:wE F0 H0 c.hs ⟨EC args++GV n s.t,s.h⟩ t2 H:=⟨c,rfl,hrel.1,hrel.2.1,htok⟩
 have he:aFy G1 H0 c.hs fl:=⟨hO,hfl,hI⟩
 have key:∃ s',wE F0 H0 c.hs s' t2 H/\vwp G1 ct en cd 1 s' (fun e s2=>match e with
  | .normal | .ret=>QC G1 s2 fn.results.toList fun vs=>if vs.all r1B=true then k (QH vs) ⟨o5 n s2.t,s2.h⟩else False
  | _=>False):=by
  unfold xW at hr
  split at hr
  ·rename_i E hE
   obtain⟨y,h1,h2⟩:=GE hr0 hr
   exact⟨_,h2,(htab 1 E hE 1 cd rfl y _ h1).it⟩
  ·exact⟨_,hr0,hr⟩
 obtain⟨s',hr',hv'⟩:=key
 have hW:W G1.P fl cd t2 H fun e ta' H'=>∃ s2,wE F0 H0 c.hs s2 ta' H'/\(match e with
  | .normal | .ret=>QC G1 s2 fn.results.toList fun vs=>if vs.all r1B=true then k (QH vs) ⟨o5 n s2.t,s2.h⟩else False
  | _=>False):=TF (n:=n) he htab cd 1 (Nat.le_refl _) ⟨1,rfl⟩ hco hr' hv' fun e s2 ta' H' h1 h2=>⟨s2,h1,h2⟩
 have hF:=aFa (t:=start az.toArray) hco (fun i hi=>(if_pos hi).symm) hW
 obtain⟨N,e,t',H',h1,t2',h2,h3,s2,⟨c2,q1,q2⟩,h5⟩:=hF
 refine⟨N,e,t',H',h1,?_⟩
 have fin:(QC G1 s2 fn.results.toList fun vs=>if vs.all r1B=true then k (QH vs) ⟨o5 n s2.t,s2.h⟩else False)->∃ vs,eE G1.P t' H' fn.results.toList=some vs/\∃ vv s2 c2,c2.hs=c.hs/\Rel F0 H0 c2 s2 ta H'/\R2 c2 vv (xC vs)/\k vv s2:=by
  intro hk
  obtain⟨vs,as2,g1,g2,g3⟩:=zO q2 hk
  split at g1
  case isFalse=>exact g1.elim
  rename_i hvs
  refine⟨as2,(IX hres h2).trans g3,QH vs,⟨o5 n s2.t,s2.h⟩,c2,q1,⟨q2.1,q2.2.1,fun i => ?_⟩,LJ (aB8 hvs g2),g1⟩
  have h6:=q2.2.2 (i+n)
  rw[h3 (i+n) (by omega)]at h6
  have e2:t2 (i+n)=ta i:=by
   show(if i+n<n then _ else ta (i+n-n))=ta i
   rw[if_neg (by omega),Nat.add_sub_cancel]
  have h6:R2 c2 (cO s2.t (i+n)) (t2 (i+n)):=h6
  rw[e2]at h6
  rw[xO]
  exact h6
 cases e with
 | normal=>exact fin h5
 | ret=>exact fin h5
 | _=>exact h5.elim
def OA (J K:Inl):Inl:=⟨fun g=>J.B g||K.B g,fun g a s k=>match J.B g with
 | true=>J.run g a s k
 | false=>K.run g a s k⟩
theorem aBH {P:Program}{J K:Inl}(hJ:cC P J)(hK:cC P K):cC P (OA J K):=fun g args s k hB hr=>by
 have hB:(J.B g||K.B g)=true:=hB
 have hr:(match J.B g with
  | true=>J.run g args s k
  | false=>K.run g args s k):=hr
 cases h:J.B g with
 | true=>rw[h]at hr;exact hJ g args s k h hr
 | false =>
   rw[h]at hr hB
   exact hK g args s k (by simpa using hB) hr
theorem aBl {ct:Tab}{en:tS}{f:FuncId}{fn:Func}{cd:Code}{rt:IL}(al:List Al){args:List VV}{Q:List (Bool×List VV)->Prop}{R:Prop}
 (hf:G.P.funcs[f]? = some fn) (hb:bod fn=some cd) (hfo:okF f fn cd=true) (hsz:args.length<=fn.ntmps) (htab:SL G ct en cd) (hO:∀ f args Q,G.O f args Q->mS G.P f args Q) (hI:∀ J,G.I=some J->cC G.P J)
 (h:R) (e:(aAc G ct en fn cd rt al args fun r=>Q (kK rt al r))=R):mS G.P f args Q :=
 ZL al hf hb hfo hsz htab hO hI (e.symm▸h)
theorem aDe {ct:Tab}{en:tS}{cd:Code}{m:Nat}{s:VS}{k:dU->VS->Prop}{R:Prop}(h:R)(e:vwp G ct en cd m s k=R):Tl (vwp G ct en cd m s k):=⟨e.symm▸h⟩
theorem Loop.map {S S':Type}{σ:S->S'}{B:S->(S->Prop)->Prop}{B':S'->(S'->Prop)->Prop}(h:∀ s X,B s (fun s=>X (σ s))->B' (σ s) X){s:S}(hl:Loop B s):Loop B' (σ s) :=
 fun X hX=>hl (fun s=>X (σ s)) fun s hs=>hX _ (h s X hs)
theorem Loop.inv {S:Type}{B:S->(S->Prop)->Prop}(I:Nat->S->Prop){n:Nat}{s:S}(h0:I n s)(step:∀ n s X,I n s->(∀ m s',m<n->I m s'->X s')->B s X):Loop B s:=by
 intro X hX
 have:∀ n s,I n s->X s:=by
  intro n
  induction n using Nat.strongRecOn with
  | _ n ih=>exact fun s hs=>hX s (step n s X hs fun m s' hm hs'=>ih m hm s' hs')
 exact this n s h0
theorem aCx {S:Type}{ct:Tab}{en:tS}{m:Nat}{s:VS}{k:dU->VS->Prop}{cd b:Code}(hu:G.un=0)(hc:cd = .loop b)(σ:S->VS)(y0:S){B:S->(S->Prop)->Prop}(hs:xF en m s=σ y0)
 (hB:∀ y X,LB k en m (xW ct (2*m) (vwp G ct en b (2*m))) (σ y) X=B y fun y=>X (σ y)) (h:Loop B y0):Tl (vwp G ct en cd m s k):=by
 subst hc
 refine⟨?_⟩
 simp only[vwp,hu]
 rw[hs]
 exact Loop.map (fun y X hb=>by rw[hB];exact hb) h
theorem TW {S:Type}{ct:Tab}{en:tS}{f m:Nat}{s:VS}{k:dU->VS->Prop}{root c:Code}(hu:G.un=0)(hs:jS f root m=some c)(hc:jS 70 root m=some (.loop ((jS 70 root (2*m)).getD .skip)))(σ:S->VS)(y0:S){B:S->(S->Prop)->Prop}(h1:xF en m s=σ y0)
 (h2:∀ y X,LB k en m (xW ct (2*m) (vwp G ct en ((jS 70 root (2*m)).getD .skip) (2*m))) (σ y) X=B y fun y=>X (σ y)) (h:Loop B y0):Tl (vwp G ct en c m s k) :=
 aCx hu (YY hs hc) σ y0 h1 h2 h
theorem aC8 {ct:Tab}{en:tS}{f m:Nat}{s:VS}{k:dU->VS->Prop}{root c:Code}(hs:jS f root m=some c){R:Prop}(hc:jS 70 root m=some ((jS 70 root m).getD .skip))(e:vwp G ct en ((jS 70 root m).getD .skip) m s k=R)(h:R):Tl (vwp G ct en c m s k):=by
 have:=YY hs hc
 subst this
 exact aDe h e
theorem aA0 {c:Ctx}{x:Lf}{v:VV}{a:Value}{K:x.den->Prop}(hr:R2 c v a)(h:HN x v K):∃ d,K d/\R2 c (MG x d) a:=by
 unfold HN at h
 split at h
 ·split at h
  ·obtain⟨e,h⟩:=Ty.at_inv h
   subst e
   exact⟨_,h,hr⟩
  ·obtain⟨rfl,_⟩:=dN hr
   exact⟨[],h,none,_,rfl,⟨Nat.zero_le _,.inl rfl⟩⟩
  ·exact h.elim
 ·obtain⟨d,rfl,h1⟩:=yK h
  exact⟨d,h1,hr⟩
theorem LY {c:Ctx}{x:Lf}{v:VV}{a:Value}{K:x.den->Prop}(hr:RL c v a)(h:HN x v K):∃ d,K d/\RL c (MG x d) a:=by
 unfold HN at h
 split at h
 ·split at h
  ·obtain⟨e,h⟩:=Ty.at_inv h
   subst e
   exact⟨_,h,hr⟩
  ·obtain⟨rfl,_⟩:=hr
   exact⟨[],h,none,_,rfl,⟨Nat.zero_le _,.inl rfl⟩⟩
  ·exact h.elim
 ·obtain⟨d,rfl,h1⟩:=yK h
  exact⟨d,h1,hr⟩
theorem vE {c:Ctx}:∀ {l:List Lf} {vs:List VV} {azz:List Value} {K:O3 l->Prop},All2 (RL c) vs azz->W6 l vs K->∃ d,K d/\All2 (RL c) (LM l d) azz
 | [],vs,azz,K,hr,h=>by
   unfold W6 at h
   split at h
   ·exact⟨(),h,hr⟩
   ·exact h.elim
 | x::l,vs,azz,K,hr,h=>by
   unfold W6 at h
   split at h
   ·cases hr with
    | cons hr t =>
      obtain⟨a,h1,h2⟩:=LY hr h
      obtain⟨b,h3,h4⟩:=vE t h1
      exact⟨(a,b),h3,.cons h2 h4⟩
   ·exact h.elim
theorem YA {c:Ctx}{x:Lf}{v:VV}{a:Value}{K:x.den->Prop}(hr:R1 c v a)(h:HN x v K):∃ d,K d/\R1 c (MG x d) a:=by
 have:∃ d,K d/\RL c (MG x d) a:=by
  refine LY ?_ h
  cases v <;> first|exact hr|skip
  ·exfalso
   cases x <;> simp[HN,unF,TR,PL]at h
   rename_i o t;cases o <;> simp[HN,unF]at h
  ·exfalso
   cases x <;> simp[HN,unF,TR,PL]at h
   rename_i o t;cases o <;> simp[HN,unF]at h
  ·exfalso
   cases x <;> simp[HN,unF,TR,PL]at h
   rename_i o t;cases o <;> simp[HN,unF]at h
 obtain⟨d,k1,k2⟩:=this
 exact⟨d,k1,W2 k2⟩
theorem YJ {c:Ctx}{x:Cp}{v:VV}{a:Value}{K:x.den->Prop}(hr:R1 c v a)(h:aDw x v K):∃ d,K d/\R1 c (aAD x d) a:=by
 unfold aDw at h
 split at h
 ·exact YA hr h
 ·split at h
  ·obtain⟨azz,h1,h2⟩:=hr
   obtain⟨d,k1,k2⟩:=vE h2 h
   exact⟨d,k1,azz,h1,k2⟩
  ·exact h.elim
 ·split at h
  ·obtain⟨b,B,h1,h2,h3⟩:=hr
   obtain⟨d,k1,k2⟩:=vE h3 h
   exact⟨d,k1,b,B,h1,h2,k2⟩
  ·exact h.elim
theorem Q4 {c:Ctx}:∀ {l:List Cp} {vs:List VV} {azz:List Value} {K:aAr l->Prop},All2 (R1 c) vs azz->aDJ l vs K->∃ d,K d/\All2 (R1 c) (aBY l d) azz
 | [],vs,azz,K,hr,h=>by
   unfold aDJ at h
   split at h
   ·exact⟨(),h,hr⟩
   ·exact h.elim
 | x::l,vs,azz,K,hr,h=>by
   unfold aDJ at h
   split at h
   ·cases hr with
    | cons hr t =>
      obtain⟨a,h1,h2⟩:=YJ hr h
      obtain⟨b,h3,h4⟩:=Q4 t h1
      exact⟨(a,b),h3,.cons h2 h4⟩
   ·exact h.elim
theorem WR {c:Ctx}{x:Sh}{v:VV}{a:Value}{K:x.den->Prop}(hr:R2 c v a)(h:aDH x v K):∃ d,K d/\R2 c (ZO x d) a:=by
 unfold aDH at h
 split at h
 ·exact aA0 hr h
 ·split at h
  ·obtain⟨azz,rfl,h2⟩:=QS hr
   obtain⟨d,k1,k2⟩:=vE h2 h
   exact⟨d,k1,azz,rfl,k2⟩
  ·exact h.elim
 ·split at h
  ·obtain⟨b,B,rfl,h2,h3⟩:=aBI hr
   obtain⟨d,k1,k2⟩:=vE h3 h
   exact⟨d,k1,b,B,rfl,h2,k2⟩
  ·exact h.elim
 ·split at h
  ·split at h
   ·rename_i e
    subst e
    obtain⟨azz,e1,h2⟩:=hr
    obtain⟨d,k1,k2⟩:=Q4 h2 h
    exact⟨d,k1,azz,e1,k2⟩
   ·exact h.elim
  ·exact h.elim
theorem S0 {c:Ctx}:∀ {l:List Sh} {vs:List VV} {azz:List Value} {K:uJ l->Prop},All2 (R2 c) vs azz->unA l vs K->∃ d,K d/\All2 (R2 c) (vG l d) azz
 | [],vs,azz,K,hr,h=>by
   unfold unA at h
   split at h
   ·exact⟨(),h,hr⟩
   ·exact h.elim
 | x::l,vs,azz,K,hr,h=>by
   unfold unA at h
   split at h
   ·cases hr with
    | cons hr t =>
      obtain⟨a,h1,h2⟩:=WR hr h
      obtain⟨b,h3,h4⟩:=S0 t h1
      exact⟨(a,b),h3,.cons h2 h4⟩
   ·exact h.elim
theorem XC {P:Program}{O:FuncId->List VV->(List (Bool×List VV)->Prop)->Prop}(hO:∀ f args Q,O f args Q->mS P f args Q){f0:FuncId}(sh:List Sh)(D:uJ sh->(List (Bool×List VV)->Prop)->Prop)(hD:∀ x Q,D x Q->mS P f0 (vG sh x) Q) :
 ∀ f args Q,(if f=f0 then unA sh args (fun x=>D x Q)else O f args Q)->mS P f args Q:=by
 intro f args Q h
 by_cases e:f=f0
 ·rw[if_pos e]at h
  subst e
  intro F fl H azz hF hfl ha
  obtain⟨d,h1,h2⟩:=S0 ha h
  exact hD d Q h1 F fl H azz hF hfl h2
 ·rw[if_neg e]at h
  exact hO f args Q h
theorem aBf {P:Program}{O:FuncId->List VV->(List (Bool×List VV)->Prop)->Prop}(hO:∀ f args Q,O f args Q->mS P f args Q){f0:FuncId}(gs:List Nat)(sh:List Sh)(D:uJ sh->(List (Bool×List VV)->Prop)->Prop)(hD:∀ x Q,D x Q->mS P f0 (vG sh x) Q) :
 ∀ f args Q,(if f=f0 then(if aFc (YU args) gs=true then unA sh args (fun x=>D x Q)else O f args Q)else O f args Q)->mS P f args Q:=by
 intro f args Q h
 by_cases e:f=f0
 ·rw[if_pos e]at h
  by_cases e2:aFc (YU args) gs=true
  ·rw[if_pos e2]at h
   exact XC hO sh D hD f args Q (by rw[if_pos e];exact h)
  ·rw[if_neg e2]at h
   exact hO f args Q h
 ·rw[if_neg e]at h
  exact hO f args Q h
structure Tb (P:Program) where
 O:FuncId->List VV->QT->Prop
 ok:∀ f args Q,O f args Q->mS P f args Q
def Tb.none {P:Program}:Tb P:=⟨fun _ _ _=>False,fun _ _ _ h=>h.elim⟩
def Tb.add {P:Program}(t:Tb P)(f0:FuncId)(sh:List Sh){D:uJ sh->QT->Prop}(hD:∀ x Q,D x Q->mS P f0 (vG sh x) Q):Tb P :=
 ⟨fun f args Q=>if f=f0 then unA sh args (fun x=>D x Q)else t.O f args Q,XC t.ok sh D hD⟩
def Tb.addF {P:Program}(t:Tb P)(f0:FuncId)(gs:List Nat)(sh:List Sh){D:uJ sh->QT->Prop}(hD:∀ x Q,D x Q->mS P f0 (vG sh x) Q):Tb P :=
 ⟨fun f args Q=>if f=f0 then(if aFc (YU args) gs=true then unA sh args (fun x=>D x Q)else t.O f args Q)else t.O f args Q,aBf t.ok gs sh D hD⟩
@[reducible] def Tb.cfg {P:Program} (t:Tb P) (tt:TypeId->Option Ty) (I:Option Inl) (hv:Bool) (un:Nat):Cfg:=⟨P,tt,t.O,fun _ _ _=>False,I,hv,un⟩
theorem Tb.told {P:Program}(t:Tb P){tt:TypeId->Option Ty}{I:Option Inl}{hv:Bool}{un:Nat}{ct:Tab}{en:tS}{f:FuncId}{fn:Func}{cd:Code}{rt:IL}(al:List Al){args:List VV}{Q:QT}{R:Prop}(hI:∀ J,I=some J->cC P J)(htab:SL (t.cfg tt I hv un) ct en cd)
 (hf:P.funcs[f]? = some fn) (hb:bod fn=some cd) (hfo:okF f fn cd=true) (hsz:args.length<=fn.ntmps) (h:R) (e:(aAc (t.cfg tt I hv un) ct en fn cd rt al args fun r=>Q (kK rt al r))=R):mS P f args Q :=
 aBl (G:=t.cfg tt I hv un) al hf hb hfo hsz htab t.ok hI h e
theorem hI0 {P:Program}:∀ J,(Option.none:Option Inl)=some J->cC P J:=fun J h=>by cases h
theorem hI1 {P:Program}{K:Inl}(h:cC P K):∀ J,some K=some J->cC P J:=fun J e=>by cases e;exact h
abbrev bd (fn:Func):Code:=(bod fn).getD .skip
def lk:List (Nat×Ent)->Tab
 | []=>fun _ => .none
 | p::l=>fun n=>if n=p.1 then some p.2 else lk l n
def EOk (G:Cfg)(ct:Tab)(en:tS)(root:Code)(p:Nat×Ent):Prop :=
 ∀ f c,jS f root p.1=some c->∀ x k,p.2.P x k->Tl (vwp G ct en c p.1 (V5 p.2.live p.2.sh p.2.ob x) k)
def ZM (G:Cfg)(ct:Tab)(en:tS)(root:Code):List (Nat×Ent)->Prop
 | []=>True
 | p::l=>EOk G ct en root p/\ZM G ct en root l
theorem aFk {G:Cfg}{ct:Tab}{en:tS}{root:Code}:∀ {l:List (Nat×Ent)},ZM G ct en root l->∀ n E,lk l n=some E->EOk G ct en root (n,E)
 | [],_,n,E,e=>by cases e
 | p::l,⟨h1,h2⟩,n,E,e=>by
   unfold lk at e
   split at e
   ·rename_i hn;subst hn;cases e;exact h1
   ·exact aFk h2 n E e
theorem aH5 {G:Cfg}{en:tS}{root:Code}{l:List (Nat×Ent)}(h:ZM G (lk l) en root l):SL G (lk l) en root :=
 fun n E e f c hs x k hp=>aFk h n E e f c hs x k hp
theorem aD {G:Cfg}{S:Type}{ct:Tab}{en:tS}{f m:Nat}{k:dU->VS->Prop}{root c:Code}{live:List Nat}{sh:List Sh}{ob:List OSh}{x:uJ sh×RR ob}(hs:jS f root m=some c)(u:S->uJ sh×RR ob)(y0:S){B:S->(S->Prop)->Prop}(h:Loop B y0)
 (hc:jS 70 root m=some (.loop ((jS 70 root (2*m)).getD .skip)):=by kernel_rfl) (h1:xF en m (V5 live sh ob x)=V5 live sh ob (u y0):=by kernel_rfl)
 (h2:∀ y X,LB k en m (xW ct (2*m) (vwp G ct en ((jS 70 root (2*m)).getD .skip) (2*m))) (V5 live sh ob (u y)) X=B y fun y=>X (V5 live sh ob (u y)):=by intros;kernel_rfl) (hu:G.un=0:=by rfl):Tl (vwp G ct en c m (V5 live sh ob x) k) :=
 TW hu hs hc (fun y=>V5 live sh ob (u y)) y0 h1 h2 h
theorem dV {G:Cfg}{S:Type}{ct:Tab}{en:tS}{f m:Nat}{k:dU->VS->Prop}{root c:Code}{s:VS}(hs:jS f root m=some c)(σ:S->VS)(y0:S){B:S->(S->Prop)->Prop}(h:Loop B y0)
 (hc:jS 70 root m=some (.loop ((jS 70 root (2*m)).getD .skip)):=by kernel_rfl) (h1:xF en m s=σ y0:=by kernel_rfl)
 (h2:∀ y X,LB k en m (xW ct (2*m) (vwp G ct en ((jS 70 root (2*m)).getD .skip) (2*m))) (σ y) X=B y fun y=>X (σ y):=by intros;kernel_rfl) (hu:G.un=0:=by rfl):Tl (vwp G ct en c m s k) :=
 TW hu hs hc σ y0 h1 h2 h
theorem aI {G:Cfg}{ct:Tab}{en:tS}{f m:Nat}{s:VS}{k:dU->VS->Prop}{root c:Code}(hs:jS f root m=some c){R:Prop}(h:R)(hc:jS 70 root m=some ((jS 70 root m).getD .skip):=by kernel_rfl)(e:vwp G ct en ((jS 70 root m).getD .skip) m s k=R:=by kernel_rfl):Tl (vwp G ct en c m s k) :=
 aC8 hs hc e h
@[reducible] def RD:IL->Type
  | []=>Unit
  | [p]=>p.2.den
  | p::q::l=>p.2.den×RD (q::l)
def RD.up:(rt:IL)->RD rt->aAj rt
 | [],_=>()
 | [_],r=>(r,())
 | _::q::l,r=>(r.1,RD.up (q::l) r.2)
theorem SZ:∀ (sh:List Sh) (x:uJ sh),(vG sh x).length=sh.length
 | [],_=>rfl
 | _::l,x=>congrArg (· + 1) (SZ l x.2)
theorem KH {P:Program}(t:Tb P){tt:TypeId->Option Ty}{I:Option Inl}{hv:Bool}{un:Nat}{f:FuncId}{fn:Func}(hf:P.funcs[f]? = some fn){res:List Nat}{cos:List (Nat×List Co)}{l:List (Nat×Ent)}{sh:List Sh}{al:List Al}{rt:IL}{D:uJ sh->(RD rt->Prop)->Prop}
 (hI:∀ J,I=some J->cC P J) (htab:ZM (t.cfg tt I hv un) (lk l) (XU (bd fn) res cos) (bd fn) l)
 (h:∀ x (Q:QT),D x (fun r=>Q (kK rt al (RD.up rt r)))->∃ R:Prop,R/\(aAc (t.cfg tt I hv un) (lk l) (XU (bd fn) res cos) fn (bd fn) rt al (vG sh x) fun r=>Q (kK rt al r))=R)
 (hb:bod fn=some (bd fn)) (ho:okF f fn (bd fn)=true) (hs:Nat.ble sh.length fn.ntmps=true) (x:uJ sh) (Q:QT) (hx:D x fun r=>Q (kK rt al (RD.up rt r))):mS P f (vG sh x) Q:=by
 obtain⟨R,h1,e⟩:=h x Q hx
 exact t.told al hI (aH5 htab) hf hb ho (by rw[SZ];exact Nat.le_of_ble_eq_true hs) h1 e
def Tb.put {P:Program}(t:Tb P)(tt:TypeId->Option Ty)(f:FuncId){fn:Func}(hf:P.funcs[f]? = some fn)(res:List Nat)(cos:List (Nat×List Co))(l:List (Nat×Ent))(sh:List Sh)(al:List Al)(rt:IL)(D:uJ sh->(RD rt->Prop)->Prop)
    (htab:ZM (t.cfg tt .none false 0) (lk l) (XU (bd fn) res cos) (bd fn) l)
    (h:∀ x (Q:QT),D x (fun r=>Q (kK rt al (RD.up rt r)))->∃ R:Prop,R/\(aAc (t.cfg tt .none false 0) (lk l) (XU (bd fn) res cos) fn (bd fn) rt al (vG sh x) fun r=>Q (kK rt al r))=R)
    (hb:bod fn=some (bd fn):=by kernel_rfl) (ho:okF f fn (bd fn)=true:=by kernel_rfl) (hs:Nat.ble sh.length fn.ntmps=true:=by kernel_rfl):Tb P :=
 t.add f sh (KH t hf hI0 htab h hb ho hs)
def Tb.putX {P:Program}(t:Tb P)(tt:TypeId->Option Ty)(f:FuncId){fn:Func}(hf:P.funcs[f]? = some fn)(res:List Nat)(cos:List (Nat×List Co))(l:List (Nat×Ent))(sh:List Sh)(al:List Al)(rt:IL)(D:uJ sh->(RD rt->Prop)->Prop)(gs:List Nat)(I:Option Inl)(hv:Bool)(un:Nat)
    (hI:∀ J,I=some J->cC P J) (htab:ZM (t.cfg tt I hv un) (lk l) (XU (bd fn) res cos) (bd fn) l)
    (h:∀ x (Q:QT),D x (fun r=>Q (kK rt al (RD.up rt r)))->∃ R:Prop,R/\(aAc (t.cfg tt I hv un) (lk l) (XU (bd fn) res cos) fn (bd fn) rt al (vG sh x) fun r=>Q (kK rt al r))=R)
    (hb:bod fn=some (bd fn):=by kernel_rfl) (ho:okF f fn (bd fn)=true:=by kernel_rfl) (hs:Nat.ble sh.length fn.ntmps=true:=by kernel_rfl):Tb P :=
 t.addF f gs sh (KH t hf hI htab h hb ho hs)
def QY (G:Cfg)(f:FuncId)(fn:Func)(l:List (Nat×Ent))(res:List Nat)(cos:List (Nat×List Co)):Inl:=⟨fun g=>g==f,fun _ args s k=>UW G (lk l) (XU (bd fn) res cos) fn (bd fn) args s k⟩
theorem sX {G:Cfg}{f:FuncId}{fn:Func}{l:List (Nat×Ent)}{res:List Nat}{cos:List (Nat×List Co)}(hf:G.P.funcs[f]? = some fn)(hO:∀ f args Q,G.O f args Q->mS G.P f args Q)(hI:∀ J,G.I=some J->cC G.P J)
 (htab:ZM G (lk l) (XU (bd fn) res cos) (bd fn) l) (hb:bod fn=some (bd fn):=by kernel_rfl) (ho:okF f fn (bd fn)=true:=by kernel_rfl):cC G.P (QY G f fn l res cos) :=
 aGy hf hb ho (aH5 htab) hO hI
end
end Go.Mach
