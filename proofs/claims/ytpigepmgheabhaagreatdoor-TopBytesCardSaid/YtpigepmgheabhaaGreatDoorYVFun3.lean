/- Part of the proof. No condition. -/
import Derived.Test.YtpigepmgheabhaaGreatDoorYVHav
import Derived.Test.YtpigepmgheabhaaGreatDoorYFrame
import Derived.KernelRfl
namespace Go.Mach
set_option linter.unusedVariables false
set_option linter.unusedSimpArgs false
section
variable {G:Cfg} {F0:Fz} {H0:Base} {c c':Ctx} {H H':aD} {s:VS} {ta:aE} {n fl:Nat} {ops:Array Oper}
def zS (c:Ctx)(b:Nat):Option Nat->Prop
 | some i=>c.ρ i=some b
 | none=>∃ B,c.F b=some B
theorem aFd {v:VV}{a:Value}(h:RL c v a){locs:List (Option Nat)}(hl:zR v=some locs):∀ b∈bK a,∃ x∈locs,zS c b x:=by
 cases v with
 | pl v =>
   obtain⟨rfl,hp⟩:=h
   intro b hb
   cases a <;> simp only[bK]at hb <;> try (cases hb;done)
   case pointer x=>cases x with
    | none=>cases hb
    | some _=>cases hp
   case slice x _ _=>cases x with
    | none=>cases hb
    | some _=>cases hp
 | own i =>
   cases hl
   intro b hb
   simp only[RL]at h
   cases hi:c.h[i]? with
   | none=>rw[hi]at h;exact h.elim
   | some o =>
     rw[hi]at h
     refine⟨some i,by simp,?_⟩
     cases o with
     | box _ _=>exact h.elim
     | lst _ _ _ _ =>
       simp only at h
       subst h
       cases hρ:c.ρ i with
       | none=>rw[hρ]at hb;cases hb
       | some b'=>rw[hρ]at hb;simp[sl,bK]at hb;subst hb;exact hρ
     | dead _ =>
       obtain⟨_,_,rfl⟩:=h
       cases hρ:c.ρ i with
       | none=>rw[hρ]at hb;cases hb
       | some b'=>rw[hρ]at hb;simp[bK]at hb;subst hb;exact hρ
 | ptr i off =>
   cases hl
   intro b hb
   obtain⟨b',cs,fr,h1,h2,rfl⟩:=h
   simp[bK]at hb
   subst hb
   exact⟨some i,by simp,h2⟩
 | mptr i off =>
   cases hl
   intro b hb
   rcases h with rfl|⟨b',h1,h2,rfl⟩
   ·cases hb
   ·simp[bK]at hb
    subst hb
    exact⟨some i,by simp,h1⟩
 | eptr i ix off =>
   cases hl
   intro b hb
   obtain⟨b',h1,h2⟩:=h
   have:b=b':=by
    split at h2
    ·obtain⟨_,rfl⟩:=h2;simpa [bK] using hb
    ·obtain⟨_,rfl⟩:=h2;simpa [bK] using hb
    ·exact h2.elim
   subst this
   exact⟨some i,by simp,h1⟩
 | fptr o t l ix off =>
   cases hl
   intro b hb
   obtain⟨b',q,B,x,cs,rfl,h2,_⟩:=h
   simp[bK]at hb
   subst hb
   exact⟨none,by simp,B,pV _ _ h2⟩
 | hof i=>cases hl
 | er b=>cases hl
 | bs l=>exact h.elim
 | undef=>cases hl
 | fz o t l=>cases hl
 | agg l=>exact h.elim
 | tup l=>exact h.elim
 | bx l off=>exact h.elim
 | fn f l=>exact h.elim
 | nw t l=>exact h.elim
theorem BH {v:VV}{a:Value}(h:R2 c v a){locs:List (Option Nat)}(hl:zR v=some locs):∀ b∈bK a,∃ x∈locs,zS c b x:=by
 cases v
 case tup l=>obtain⟨azz,rfl,_⟩:=h;intro b hb;cases hb
 case fn f l=>obtain⟨azz,rfl,_⟩:=h;intro b hb;cases hb
 case agg l=>obtain⟨azz,rfl,_⟩:=h;intro b hb;cases hb
 case bx l off =>
  obtain⟨b',B,rfl,h2,_⟩:=h
  cases hl
  intro b hb
  simp[bK]at hb
  subst hb
  exact⟨none,by simp,B,h2⟩
 case bs l=>cases hl
 all_goals exact aFd (yT (fun _ e=>by cases e) (fun _ _ e=>by cases e) (fun _ e=>by cases e) (BP (fun _ e=>by cases e) (fun _ _ e=>by cases e) h)) hl
theorem E6:∀ {vs:List VV} {azz:List Value},All2 (R2 c) vs azz->∀ {locs:List (Option Nat)},G6 vs=some locs->∀ b∈azz.flatMap bK,∃ x∈locs,zS c b x
 | _,_,.nil,locs,h,b,hb=>by cases hb
 | v::vs,a::azz,.cons h t,locs,hl,b,hb=>by
   unfold G6 at hl
   split at hl
   ·rename_i x y h1 h2
    cases hl
    rw[jA,AD]at hb
    rcases hb with hb|hb
    ·obtain⟨z,h3,h4⟩:=BH h h1 b hb;exact⟨z,lU _ h3,h4⟩
    ·obtain⟨z,h3,h4⟩:=E6 t h2 b hb;exact⟨z,gA _ h3,h4⟩
   ·cases hl
theorem AK {op:Op}(ht:Tok c s.t ta)(hx:∀ x∈op.operands.toList,aG n x=true){locs:List (Option Nat)}(hl:aAG op s.t=some locs):∀ b∈cI op (eval ta),∃ x∈locs,zS c b x:=by
 cases op
 case load ty a=>exact BH (cD ht (hx a (by simp[Op.operands]))) hl
 case store ty a y=>exact BH (cD ht (hx a (by simp[Op.operands]))) hl
 case convert p d x=>exact BH (cD ht (hx x (by simp[Op.operands]))) hl
 case call cl =>
  have hargs:=iS ht (l:=cl.args.toList) (fun x h=>hx x (by simp only[Op.operands,Call.operands,tT];exact gA _ h))
  have e2:(cl.args.map (eval ta)).toList=cl.args.toList.map (eval ta):=by simp
  simp only[aAG,cI]at hl⊢
  cases hc:cl.callee with
  | builtin bt =>
    rw[hc]at hl
    cases bt <;> first
     | (simp only[e2];exact E6 hargs hl)
     | (intro b hb;cases hb)
  | value f=>intro b hb;cases hb
  | invoke f m=>intro b hb;cases hb
 all_goals (intro b hb;cases hb)
theorem OI {op:Op}(ht:Tok c s.t ta)(hx:∀ x∈op.operands.toList,aG n x=true){locs:List (Option Nat)}(hl:wrV op s.t=some locs):∀ b∈j0 op (eval ta),∃ x∈locs,zS c b x:=by
 cases op
 case store ty a y=>exact BH (cD ht (hx a (by simp[Op.operands]))) hl
 case convert p d x =>
  rw[NF]
  unfold wrV at hl
  simp only at hl
  by_cases hs:p=d
  ·rw[aA hs]at hl⊢
   exact BH (cD ht (hx x (by simp[Op.operands]))) hl
  ·rw[aC hs]
   intro b hb;cases hb
 case call cl =>
  have hax:∀ x∈cl.args.toList,aG n x=true:=fun x h=>hx x (by simp only[Op.operands,Call.operands,tT];exact gA _ h)
  have key:∀ locs,(match cl.args.toList with
   | x::_=>zR (evV s.t x)
   | []=>some [])=some locs->∀ b∈(cl.args.map (eval ta))[0]?.elim [] bK,∃ x∈locs,zS c b x:=by
   intro locs hl b hb
   have e3:(cl.args.map (eval ta))[0]? = (cl.args.toList.map (eval ta))[0]? := by
    rw[<- nF];simp
   rw[e3]at hb
   split at hl
   ·rename_i x l e4
    rw[e4]at hb
    exact BH (cD ht (hax x (by rw[e4];exact cN))) hl b (by simpa using hb)
   ·rename_i e4;rw[e4]at hb;simp at hb
  simp only[wrV,j0]at hl⊢
  cases hc:cl.callee with
  | builtin bt =>
    rw[hc]at hl
    cases bt <;> first
     | exact key _ hl
     | (intro b hb;cases hb)
  | value f=>intro b hb;cases hb
  | invoke f m=>intro b hb;cases hb
 all_goals (intro b hb;cases hb)
theorem SB (hr:Rel F0 H0 c s ta H){x y:List (Option Nat)}{xs ys:List Nat}(h:PY s.h (some x) (some y)=true)(hx:∀ b∈xs,∃ z∈x,zS c b z)(hy:∀ b∈ys,∃ z∈y,zS c b z):A4 xs ys=true:=by
 obtain⟨hh,hok,ht⟩:=hr
 have h:(x.all fun x=>y.all fun y=>wK s.h x y)=true:=by
  cases x with
  | nil=>rfl
  | cons _ _ =>
    cases y with
    | nil=>simp
    | cons _ _=>exact h
 simp only[bW]at h
 unfold A4
 simp only[bW,bne_iff_ne]
 intro b hb b' hb' e
 subst e
 obtain⟨z,hz,hz2⟩:=hx b hb
 obtain⟨w,hw,hw2⟩:=hy b hb'
 have ha:=h z hz w hw
 have own:∀ i,c.ρ i=some b->wK.ownB (aP s.h i)=true->c.F b=none/\c.h[i]? ≠ some (.dead false):=by
  intro i hi ho
  have hlt:=hok.lt hi
  have hg:c.h[i]? = some (aP s.h i):=by
   rw[<- hh]
   unfold aP
   grind
  have ob:=hok.obj i _ hg
  cases e:aP s.h i with
  | box cs fr =>
    rw[e]at ho hg
    obtain⟨b',azz,k1,_,_,_,k5⟩:=ob.box cs fr e
    rw[hi]at k1;cases k1
    refine⟨k5 (by cases fr <;> first|rfl|cases ho),by rw[hg];intro e;cases e⟩
  | lst q t l fr =>
    rw[e]at ho hg
    obtain⟨azz,ex,_,_,_,k4⟩:=(ob.lst q t l fr e).2 b hi
    refine⟨k4 (by cases fr <;> first|rfl|cases ho),by rw[hg];intro e;cases e⟩
  | dead d =>
    rw[e]at ho hg
    have:d=true:=ho
    subst this
    exact⟨ob.dead b e hi,by rw[hg];intro e;cases e⟩
 cases z with
 | some i =>
   cases w with
   | some j =>
     unfold wK at ha
     simp only[aH,iX,bne_iff_ne]at ha
     have bx:∀ i j,i≠j->c.ρ i=some b->c.ρ j=some b->wK.boxB (aP s.h i)=true->False:=fun i j hij hi hj hb=>by
      have hg:c.h[i]? = some (aP s.h i):=by
       rw[<- hh]
       unfold aP
       rw[cH,aM (hok.lt hi)];rfl
      have:=hok.bj i j b _ hij hi hj hg
      cases e:aP s.h i with
      | box cs fr=>rw[e]at this;cases this
      | lst _ _ _ _=>rw[e]at hb;cases hb
      | dead _=>rw[e]at hb;cases hb
     rcases ha.2 with ha2|ha2
     ·rcases ha2 with e|e
      ·exact bx i j ha.1 hz2 hw2 e
      ·exact bx j i (fun e=>ha.1 e.symm) hw2 hz2 e
     ·rcases hok.inj i j b ha.1 hz2 hw2 with e|e
      ·exact(own i hz2 ha2.1).2 e
      ·exact(own j hw2 ha2.2).2 e
   | none =>
     obtain⟨B,hB⟩:=hw2
     rw[(own i hz2 ha).1]at hB;cases hB
 | none =>
   cases w with
   | some j =>
     obtain⟨B,hB⟩:=hz2
     rw[(own j hw2 ha).1]at hB;cases hB
   | none=>cases ha
theorem N3 (hr:Rel F0 H0 c s ta H){X Y:Option (List (Option Nat))}{xs ys:List Nat}(h:PY s.h X Y=true)(hx:∀ x,X=some x->∀ b∈xs,∃ z∈x,zS c b z)(hy:∀ y,Y=some y->∀ b∈ys,∃ z∈y,zS c b z):A4 xs ys=true:=by
 cases X with
 | some x =>
   cases Y with
   | some y=>exact SB hr h (hx x rfl) (hy y rfl)
   | none =>
     cases x with
     | nil =>
       have:xs=[]:=List.eq_nil_iff_forall_not_mem.2 fun b hb=>by obtain⟨z,hz,_⟩:=hx [] rfl b hb;cases hz
       rw[this];rfl
     | cons _ _=>cases h
 | none =>
   cases Y with
   | none=>cases h
   | some y =>
     cases y with
     | nil =>
       have:ys=[]:=List.eq_nil_iff_forall_not_mem.2 fun b hb=>by obtain⟨z,hz,_⟩:=hy [] rfl b hb;cases hz
       rw[this];unfold A4;simp
     | cons _ _=>cases h
theorem wW (hr:Rel F0 H0 c s ta H)(hop:∀ o∈ops.toList,gO n ops o=true){p:Nat×Nat}(h:D6 ops s p=true):dE ops ta p=true:=by
 unfold D6 at h
 unfold dE
 split at h
 ·rename_i oi oj h1 h2
  rw[h1,h2]
  have m1:oi∈ops.toList:=by rw[<- nF]at h1;exact fW h1
  have m2:oj∈ops.toList:=by rw[<- nF]at h2;exact fW h2
  simp only[aH]at h⊢
  obtain⟨ha,hb⟩:=h
  exact⟨N3 hr ha (fun x e=>OI hr.2.2 (dN (hop oi m1)) e) (fun y e=>AK hr.2.2 (dN (hop oj m2)) e),
   N3 hr hb (fun x e=>AK hr.2.2 (dN (hop oi m1)) e) (fun y e=>OI hr.2.2 (dN (hop oj m2)) e)⟩
 ·cases h
theorem I2 {id:Nat}{draw:Bool}{k:VS->Prop}(he:Env G H0 c fl n ops)(hr:Rel F0 H0 c s ta H)(hop:∀ o∈ops.toList,gO n ops o=true)(hv:wO G ops draw s k){Q:bE->aE->aD->Prop}
 (hQ:∀ ta' H',After F0 H0 c k ta' H'->Q .normal ta' H'):W G.P fl (.region id ops draw) ta H Q:=by
 unfold wO at hv
 split at hv
 ·refine R6 (ops.toList.map fun _=>true) [] (.inr ⟨rfl,rfl⟩) ?_
  refine t8 ?_ (n8 (ops.size+1) none ops.toList _ he hr trivial hop (fun j w d e=>by cases e) hv)
  grind
 ·split at hv
  ·rename_i hd
   refine R6 (oV ops (aI ops.toList #[]) 0 ops.toList) (b7 ops (aI ops.toList #[])) (.inl ⟨rfl,?_⟩) ?_
   ·unfold oE
    simp only[hd,lP]
    simp
   ·refine t8 ?_ (n8 (ops.size+1) none ops.toList _ he hr trivial hop (fun j w d e=>by cases e) hv)
    rintro t' H' ⟨⟨s',c',hle,hr',hk⟩,_⟩
    split at hk
    ·rename_i hcl
     refine⟨?_,hQ t' H' ⟨s',c',hle,hr',hk⟩⟩
     rw[bW]at hcl⊢
     exact fun p hp=>wW hr' hop (hcl p hp)
    ·exact hk.elim
  ·exact hv.elim
theorem D0:∀ {l:List Oper} {p:List Oper} {o:Oper},IW l=some (p,o)->l=p++[o]
 | [],p,o,h=>by cases h
 | [x],p,o,h=>by cases h;rfl
 | x::y::l,p,o,h=>by
   simp only[IW]at h
   split at h
   ·rename_i e;cases e
   ·rename_i q z e
    cases h
    have:=D0 (l:=y::l) e
    rw[this];rfl
   ·cases h
theorem A5 {b:Array Nat}:∀ (p:List Oper) (i:Nat) (l:List Oper),(oV ops b i (p++l)).drop p.length=oV ops b (i+p.length) l
 | [],i,l=>rfl
 | x::p,i,l=>by
   simp only[List.cons_append,oV,List.length_cons,List.drop_succ_cons]
   rw[A5 p (i+1) l,show i+1+p.length=i+(p.length+1) by omega]
def aAy (P:Program)(J:Inl):Prop:=∀ (g:FuncId) (args:List VV) (s:VS) (k:VV->VS->Prop),J.B g=true->J.run g args s k ->
 ∀ (F0:Fz) (H0:Base) (c:Ctx) (H:aD) (fl:Nat) (ta:aE) (az:List Value),Rel F0 H0 c s ta H->Fl fl H0->All2 (R2 c) args az ->
   WCall P fl g az.toArray H fun v H'=>∃ vv s2 c2,c2.hs=c.hs/\Rel F0 H0 c2 s2 ta H'/\R2 c2 vv v/\k vv s2
def X3 (P:Program)(J:Inl):Prop:=∀ (g:FuncId) (args:List VV) (s:VS) (k:VV->VS->Prop) (X:List Nat),J.B g=true->J.lk g args s X=true->J.run g args s k ->
 ∀ (F0:Fz) (H0:Base) (c:Ctx) (H:aD) (fl:Nat) (ta:aE) (az:List Value) (X':List Nat),Rel F0 H0 c s ta H->Fl fl H0->All2 (R2 c) args az->(∀ b∈X',∃ j∈X,c.ρ j=some b) ->
   ∃ N v H',cM (f9 P N) X' fl g az.toArray H=some (v,H')/\∃ vv s2 c2,Le c c2/\Rel F0 H0 c2 s2 ta H'/\R2 c2 vv v/\k vv s2
def fB (P:Program)(J:Inl):Prop:=aAy P J/\X3 P J
theorem J7 {B:FuncId->Bool}{op:Op}{g:FuncId}{azz:List Operand}(h:T3 B op=some (g,azz)):∃ cl,op = .call cl/\cl.callee = .value (.func g)/\azz=cl.args.toList/\B g=true:=by
 unfold T3 at h
 split at h
 ·rename_i c
  split at h
  ·rename_i f hc
   split at h
   ·rename_i hb
    cases h
    exact⟨c,rfl,hc,rfl,hb⟩
   ·cases h
  ·cases h
 ·cases h
theorem BK {J:Inl}(hO:∀ f args Q,G.O f args Q->fH G.P f args Q)(hfl:Fl fl H0)(hI:fB G.P J){k:VS->Prop}{Q:aE->aD->Prop}:∀ (l:List Oper) {c:Ctx} {s:VS} {ta:aE} {H:aD},
 Rel F0 H0 c s ta H->(∀ o∈l,gO n ops o=true)->S3 G J l s k->(∀ ta' H' s' c',c'.hs=c.hs->Rel F0 H0 c' s' ta' H'->k s'->Q ta' H')->WOps G.P fl ops l ta H Q
 | [],c,s,ta,H,hr,hop,hv,hQ=>hQ _ _ _ _ rfl hr hv
 | o::l,c,s,ta,H,hr,hop,hv,hQ=>by
   unfold S3 at hv
   split at hv
   ·exact hv.elim
   rename_i hg
   have hw:bS ops ta o=true:=by unfold bS;rw[hg]
   have hopo:=hop o (cN ..)
   have hopl:∀ x∈l,gO n ops x=true:=fun x h=>hop x (dA _ h)
   have hfl1:fl<=H.length:=hr.2.1.flen hfl
   split at hv
   ·rename_i g azz hcb
    split at hv
    case h_2=>exact hv.elim
    rename_i hgood
    obtain⟨cl,hopc,hc,rfl,hb⟩:=J7 hcb
    have hx:=(dN hopo)
    rw[hopc]at hx
    have hax:∀ x∈cl.args.toList,aG n x=true:=fun x h=>hx x (by simp only[Op.operands,Call.operands,tT];exact gA _ h)
    have hargs:All2 (R2 c) (cl.args.toList.map (evV s.t)) (cl.args.toList.map (eval ta)):=iS hr.2.2 hax
    show WOp G.P fl fl ops o ta H _
    unfold WOp
    rw[aA hw]
    have hp:aJ G.P fl o.op (eval ta) H=some (.enter g (cl.args.toList.map (eval ta)).toArray,H):=by
     have:cl.args.map (eval ta)=(cl.args.toList.map (eval ta)).toArray:=by apply Array.toList_inj.1;simp
     rw[hopc]
     simp only[aJ,fP,hc,eval,hgood,aO,this]
     simp
    simp only[hp]
    refine WCall.mono (hI.1 g _ _ _ hb hv F0 H0 c H fl ta _ hr hfl hargs) ?_
    rintro v H' ⟨vv,s2,c2,g1,g2,g3,g4⟩
    have hr2:Rel F0 H0 c2 (VS.set s2 o.dst vv) _ H':=⟨by rw[NE];exact g2.1,g2.2.1,Tok.put (Le.refl c2) g2.2.2 g3⟩
    exact BK hO hfl hI l hr2 hopl g4 fun ta' H' s' c' e1 e2 e3=>hQ ta' H' s' c' (e1.trans g1) e2 e3
   ·exact oI ⟨hO,hfl⟩ hr hopo hw hv hfl1 fun ta' H' _ _ ⟨s',c',hle',hr',hk'⟩=>BK hO hfl hI l hr' hopl hk' fun ta' H' s' c2 e1 e2 e3=>hQ ta' H' s' c2 (e1.trans hle'.hs) e2 e3
def aCZ (P:Program)(fl:Nat)(ops:Array Oper)(b:Array Nat)(i:Nat)(X:List Nat)(Z:List (Nat×List Nat))(l:List Oper)(t:aE)(H:aD)(K:aE->aD->Prop):Prop :=
 ∃ N t' H',fL P (f9 P N) fl ops b i X Z l t H=some (t',H')/\K t' H'
theorem aGI {P:Program}{fl:Nat}{t:aE}{H:aD}{Q:bE->aE->aD->Prop}{ops:Array Oper}{id:Nat}(h0:(gU ops (aI ops.toList #[])&&sG ops (aI ops.toList #[])&&(b7 ops (aI ops.toList #[])).all (fun p=>c7 ops p.1&&c7 ops p.2))=true)
 (h:aCZ P fl ops (aI ops.toList #[]) 0 [] [] ops.toList t H fun t' H'=>(b7 ops (aI ops.toList #[])).all (dE ops t')=true/\Q .normal t' H'):W P fl (.region id ops true) t H Q:=by
 obtain⟨N,t',H',h1,h2,h3⟩:=h
 simp only[aH]at h0
 refine⟨N,.normal,t',H',?_,h3⟩
 simp only[aU,cZ,aO,h0.1.1,h0.1.2,h0.2,oZ,h1,h2]
def XRel (c:Ctx)(X X':List Nat):Prop:=(∀ b∈X',∃ j∈X,c.ρ j=some b)/\(∀ j∈X,j<c.h.length/\∀ b,c.ρ j=some b->b∈X')
def ZRel (c:Ctx)(Z Z':List (Nat×List Nat)):Prop:=∀ z'∈Z',∃ z∈Z,z.1=z'.1/\∀ j∈z.2,j<c.h.length/\∀ b,c.ρ j=some b->b∈z'.2
theorem XRel.le {c c':Ctx}{X X':List Nat}(h:XRel c X X')(hle:Le c c'):XRel c' X X' :=
 ⟨fun b hb=>let ⟨j,h1,h2⟩:=h.1 b hb;⟨j,h1,(hle.ρ j (h.2 j h1).1).trans h2⟩,fun j hj=>⟨dC (h.2 j hj).1 hle.len,fun b e=>(h.2 j hj).2 b ((hle.ρ j (h.2 j hj).1).symm.trans e)⟩⟩
theorem ZRel.le {c c':Ctx}{Z Z':List (Nat×List Nat)}(h:ZRel c Z Z')(hle:Le c c'):ZRel c' Z Z':=fun z' hz' =>
 let ⟨z,h1,h2,h3⟩:=h z' hz';⟨z,h1,h2,fun j hj=>⟨dC (h3 j hj).1 hle.len,fun b e=>(h3 j hj).2 b ((hle.ρ j (h3 j hj).1).symm.trans e)⟩⟩
theorem O4 {op:Op}(ht:Tok c s.t ta)(hx:∀ x∈op.operands.toList,aG n x=true){b:Array Nat}{i:Nat}{Z Z':List (Nat×List Nat)}(hZ:ZRel c Z Z')(h:OU b i Z (aAG op s.t)=true):CS b i Z' (cI op (eval ta))=true:=by
 unfold CS
 rw[bW]
 intro z' hz'
 obtain⟨z,h1,h2,h3⟩:=hZ z' hz'
 unfold OU at h
 rw[bW]at h
 have:=h z h1
 rw[h2]at this
 simp only[iX]at this⊢
 rcases this with h4|h4
 ·exact .inl h4
 ·right
  rw[bW]
  intro x hxm
  unfold aE8 at h4
  split at h4
  case h_2=>cases h4
  rename_i l hl
  obtain⟨y,hy,hy2⟩:=AK ht hx hl x hxm
  rw[bW]at h4
  have h5:=h4 y hy
  cases y with
  | none=>cases h5
  | some j =>
    simp only[List.any_eq_true]at h5
    obtain⟨j',hj',e⟩:=h5
    have:=Nat.eq_of_beq_eq_true e
    subst this
    exact List.contains_iff_mem.2 ((h3 _ hj').2 x hy2)
theorem WM {P:Program}{N M:Nat}(hNM:N<=M)(X:List Nat)(fl:Nat)(f:FuncId)(args:Array Value)(H:aD)(r:Value×aD)(h:cM (f9 P N) X fl f args H=some r):cM (f9 P M) X fl f args H=some r :=
 N5 (eC P hNM) X fl f args H r h
theorem A1 {J:Inl}(hO:∀ f args Q,G.O f args Q->fH G.P f args Q)(hfl:Fl fl H0)(hI:fB G.P J){b:Array Nat}{k:VS->Prop}{Q:aE->aD->Prop}:∀ (l:List Oper) (i:Nat) {X X':List Nat} {Z Z':List (Nat×List Nat)} {c:Ctx} {s:VS} {ta:aE} {H:aD},
 Rel F0 H0 c s ta H->(∀ o∈l,gO n ops o=true)->XRel c X X'->ZRel c Z Z'->N1 G J ops b i X Z l s k->(∀ ta' H' s' c',c'.hs=c.hs->Rel F0 H0 c' s' ta' H'->k s'->Q ta' H')->aCZ G.P fl ops b i X' Z' l ta H Q
 | [],i,X,X',Z,Z',c,s,ta,H,hr,hop,hX,hZ,hv,hQ=>⟨0,ta,H,rfl,hQ _ _ _ _ rfl hr hv⟩
 | o::l,i,X,X',Z,Z',c,s,ta,H,hr,hop,hX,hZ,hv,hQ=>by
   unfold N1 at hv
   split at hv
   ·exact hv.elim
   rename_i hg
   have hw:bS ops ta o=true:=by unfold bS;rw[hg]
   have hopo:=hop o (cN ..)
   have hopl:∀ x∈l,gO n ops x=true:=fun x h=>hop x (dA _ h)
   have hfl1:fl<=H.length:=hr.2.1.flen hfl
   split at hv
   ·exact hv.elim
   rename_i hchk
   have hchk':=O4 hr.2.2 (dN hopo) hZ hchk
   split at hv
   ·rename_i g azz hcb
    split at hv
    case h_2=>exact hv.elim
    rename_i hcond
    simp only[aH]at hcond
    obtain⟨⟨hgood,hap⟩,hlk⟩:=hcond
    obtain⟨cl,hopc,hc,rfl,hb⟩:=J7 hcb
    have hx:=(dN hopo)
    rw[hopc]at hx
    have hax:∀ x∈cl.args.toList,aG n x=true:=fun x h=>hx x (by simp only[Op.operands,Call.operands,tT];exact gA _ h)
    have hargs:All2 (R2 c) (cl.args.toList.map (evV s.t)) (cl.args.toList.map (eval ta)):=iS hr.2.2 hax
    have hp:aJ G.P fl o.op (eval ta) H=some (.enter g (cl.args.toList.map (eval ta)).toArray,H):=by
     have:cl.args.map (eval ta)=(cl.args.toList.map (eval ta)).toArray:=by apply Array.toList_inj.1;simp
     rw[hopc]
     simp only[aJ,fP,hc,eval,hgood,aO,this]
     simp
    have hk4:aK o.op=4:=by rw[hopc];simp only[aK,hc]
    have hflag:(aK o.op==4&&(bH ops b i||qS ops b i o))=true:=by rw[hk4,hap];rfl
    have hload:nL o.op=false:=by rw[hopc];rfl
    have key:∃ N v H',cM (f9 G.P N) (cond (eH ops b i o) X' []) fl g (cl.args.toList.map (eval ta)).toArray H=some (v,H')/\∃ vv s2 c2,Le c c2/\Rel F0 H0 c2 s2 ta H'/\R2 c2 vv v/\N1 G J ops b (i+1) X (cond (eH ops b i o) ((i,X)::Z) Z) l (VS.set s2 o.dst vv) k:=by
     refine hI.2 g _ s _ _ hb hlk hv F0 H0 c H fl ta _ _ hr hfl hargs ?_
     intro x hxm
     cases hsa:eH ops b i o with
     | true=>rw[hsa,cond_true]at hxm;rw[cond_true];exact hX.1 x hxm
     | false=>rw[hsa,cond_false]at hxm;cases hxm
    obtain⟨N,v,H',h1,vv,s2,c2,hle,g2,g3,g4⟩:=key
    have hr2:Rel F0 H0 c2 (VS.set s2 o.dst vv) (lN ta o.dst v) H':=⟨by rw[NE];exact g2.1,g2.2.1,Tok.put (Le.refl c2) g2.2.2 g3⟩
    have hZ2:ZRel c2 (cond (eH ops b i o) ((i,X)::Z) Z) (if eH ops b i o=true then(i,X')::Z' else Z'):=by
     cases hsa:eH ops b i o with
     | false =>
       rw[cond_false,aC (by simp)]
       exact hZ.le hle
     | true =>
       rw[cond_true,aA rfl]
       intro z' hz'
       rcases List.mem_cons.1 hz' with e|e
       ·subst e
        exact⟨_,cN ..,rfl,(hX.le hle).2⟩
       ·obtain⟨z,q1,q2⟩:=(hZ.le hle) z' e
        exact⟨z,dA _ q1,q2⟩
    obtain⟨M,t',H2,q1,q2⟩:=A1 hO hfl hI l (i+1) hr2 hopl (hX.le hle) hZ2 g4 fun ta' H' s' c' e1 e2 e3=>hQ ta' H' s' c' (e1.trans hle.hs) e2 e3
    refine⟨max N M,t',H2,?_,q2⟩
    have hs:cF G.P (if eH ops b i o=true then cM (f9 G.P (max N M)) X' else f9 G.P (max N M)) fl (if (aK o.op==4&&(bH ops b i||qS ops b i o))=true then fl else H.length) ops o ta H=some (lN ta o.dst v,H'):=by
     rw[aA hflag]
     have hc2:(if eH ops b i o=true then cM (f9 G.P (max N M)) X' else f9 G.P (max N M)) fl g (cl.args.toList.map (eval ta)).toArray H=some (v,H'):=by
      have h2:=WM (Nat.le_max_left N M) _ _ _ _ _ _ h1
      cases hsa:eH ops b i o with
      | true=>rw[hsa,cond_true]at h2;rw[aA rfl];exact h2
      | false =>
        rw[hsa,cond_false]at h2
        rw[aC (by simp)]
        unfold cM at h2
        split at h2
        ·rename_i v2 K2 e2
         have e2:f9 G.P (max N M) fl g (cl.args.toList.map (eval ta)).toArray H=some (v2,K2):=e2
         have h2:some (v2,K2)=some (v,H'):=h2
         rw[e2];exact h2
        ·cases h2
     simp only[cF,hw,aO,hp,hc2]
    simp only[fL,hchk',aO]
    rw[hs]
    simp only[hload,eK,aS]
    exact qB (eC G.P (Nat.le_max_right N M)) _ _ _ _ _ _ _ q1
   ·split at hv
    ·exact hv.elim
    rename_i hsa
    split at hv
    case h_2=>exact hv.elim
    rename_i Y hY
    have hstep:=oI (flc:=if (aK o.op==4&&(bH ops b i||qS ops b i o))=true then fl else H.length) ⟨hO,hfl⟩ hr hopo hw hv (by split <;> omega) (K:=fun ta' H'=>aCZ G.P fl ops b (i+1) (if nL o.op then cI o.op (eval ta)++X' else X') Z' l ta' H' Q) fun ta' H' _ _ ⟨s',c',hle',hr',hk'⟩=>by
     refine A1 hO hfl hI l (i+1) hr' hopl ?_ (hZ.le hle') hk' fun ta' H' s' c2 e1 e2 e3=>hQ ta' H' s' c2 (e1.trans hle'.hs) e2 e3
     have hXY:XRel c (Y++X) (if nL o.op then cI o.op (eval ta)++X' else X'):=by
      unfold aC0 at hY
      split at hY
      ·rename_i ty a hop2
       have hx:=dN hopo
       rw[hop2]at hx
       have hra:=cD hr.2.2 (hx a (by simp[Op.operands]))
       split at hY
       case h_2=>cases hY
       rename_i j off hev
       split at hY
       case h_2=>cases hY
       rename_i cs hgo
       cases hY
       rw[hev]at hra
       obtain⟨bb,cs2,fr2,r1,r2,r3⟩:=hra
       have hacc:cI o.op (eval ta)=[bb]:=by rw[hop2];simp only[cI,r3,bK]
       have hl:nL o.op=true:=by rw[hop2];rfl
       rw[aA hl,hacc]
       refine⟨fun x hxm => ?_,fun j' hj' => ?_⟩
       ·rcases List.mem_append.1 hxm with e|e
        ·rw[nN]at e
         subst e
         exact⟨j,lU _ (List.mem_singleton.2 rfl),r2⟩
        ·obtain⟨y,y1,y2⟩:=hX.1 x e
         exact⟨y,gA _ y1,y2⟩
       ·rcases List.mem_append.1 hj' with e|e
        ·rw[nN]at e
         subst e
         refine⟨bB r1,fun x ex => ?_⟩
         rw[r2]at ex;cases ex
         exact lU _ (List.mem_singleton.2 rfl)
        ·exact⟨(hX.2 j' e).1,fun x ex=>gA _ ((hX.2 j' e).2 x ex)⟩
      ·rename_i hnl
       cases hY
       have hl:nL o.op=false:=by
        unfold nL
        split
        ·rename_i e;exact absurd e (hnl _ _)
        ·rfl
       rw[hl,aC (by simp)]
       exact hX
     exact hXY.le hle'
    obtain⟨N,t1,H1,h1,M,t',H2,q1,q2⟩:=WOp.run hstep
    refine⟨max N M,t',H2,?_,q2⟩
    simp only[fL,hchk',aO,hsa,eK,aS]
    rw[jT (eC G.P (Nat.le_max_left N M)) h1]
    exact qB (eC G.P (Nat.le_max_right N M)) _ _ _ _ _ _ _ q1
theorem TQ {B:FuncId->Bool}:∀ {l p:List Oper} {q:List Oper×Oper×FuncId×List Operand×List Oper},LC B p l=some q ->
 p++l=q.1++q.2.1::q.2.2.2.2/\q.2.1.guard=none/\∃ cl,q.2.1.op = .call cl/\cl.callee = .value (.func q.2.2.1)/\q.2.2.2.1=cl.args.toList/\B q.2.2.1=true
 | [],p,q,h=>by cases h
 | o::l,p,q,h=>by
   have next:LC B (p++[o]) l=some q->p++o::l=q.1++q.2.1::q.2.2.2.2/\q.2.1.guard=none/\∃ cl,q.2.1.op = .call cl/\cl.callee = .value (.func q.2.2.1)/\q.2.2.2.1=cl.args.toList/\B q.2.2.1=true:=fun h=>by
    have:=TQ h
    rw[bM]at this
    exact this
   unfold LC at h
   split at h
   ·rename_i cl hg hop
    split at h
    ·rename_i g hc
     split at h
     ·rename_i hb
      cases h
      exact⟨rfl,hg,cl,hop,hc,rfl,hb⟩
     ·exact next h
    ·exact next h
   ·exact next h
theorem UZ {id:Nat}{draw:Bool}{k:VS->Prop}{J:Inl}{pre post:List Oper}{o:Oper}{g':FuncId}{args:List Operand}(he:Env G H0 c fl n ops)(hI:fB G.P J)(hr:Rel F0 H0 c s ta H)(hop:∀ o∈ops.toList,gO n ops o=true)
 (hm:QB J.B ops draw=some (pre,o,g',args,post)) (hv:qV G ops (ops.size+1) none pre s fun s1=>match tC G.P g' with
    | true=>J.run g' (args.map (evV s1.t)) s1 fun v s2=>qV G ops (ops.size+1) none post (VS.set s2 o.dst v) fun s'=>match !draw||(b7 ops (aI ops.toList #[])).all (D6 ops s')with
      | true=>k s'
      | false=>False
    | false=>False) {Q:bE->aE->aD->Prop}
 (hQ:∀ ta' H' s' c',c'.hs=c.hs->Rel F0 H0 c' s' ta' H'->k s'->Q .normal ta' H'):W G.P fl (.region id ops draw) ta H Q:=by
 unfold QB at hm
 split at hm
 ·cases hm
 rename_i p1 o1 g1 as1 r1 hat
 obtain⟨hl,hg,cl,hopc,hc,has,hb⟩:=TQ hat
 rw[List.nil_append]at hl
 dsimp only at hl hg hopc hc has hb
 have key:∃ (g:List Bool) (cl:List (Nat×Nat)),((draw=true/\oE ops g cl=true)\/(draw=false/\g=ops.toList.map fun _=>true))/\(g.drop p1.length).headD false=true/\some (p1,o1,g1,as1,r1)=some (pre,o,g',args,post)/\((draw=false/\cl=[])\/(draw=true/\cl=b7 ops (aI ops.toList #[]))):=by
  split at hm
  ·refine⟨_,[],.inr ⟨rfl,rfl⟩,?_,hm,.inl ⟨rfl,rfl⟩⟩
   rw[hl]
   simp
  ·split at hm
   ·rename_i hd
    simp only[aH]at hd
    obtain⟨⟨h1,h2⟩,h3⟩:=hd
    refine⟨oV ops (aI ops.toList #[]) 0 ops.toList,b7 ops (aI ops.toList #[]),.inl ⟨rfl,?_⟩,?_,hm,.inr ⟨rfl,rfl⟩⟩
    ·unfold oE
     simp only[h1,h2,lP,DZ,oZ]
    ·have e1:oV ops (aI ops.toList #[]) 0 ops.toList=oV ops (aI ops.toList #[]) 0 (p1++o1::r1):=by rw[<- hl]
     rw[e1,A5 p1 0 (o1::r1),e9]
     have hk:aK o1.op=4:=by rw[hopc];simp only[aK,hc]
     simp only[oV,List.headD_cons,hk,h3,DZ,oZ]
   ·cases hm
 obtain⟨g,ch,hd,hhead,he3,hch⟩:=key
 simp only[aX,Prod.mk.injEq]at he3
 obtain⟨rfl,rfl,rfl,rfl,rfl⟩:=he3
 refine R6 g ch hd ?_
 rw[hl]
 refine n7 p1 ?_
 have hopp:∀ x∈p1,gO n ops x=true:=fun x hx=>hop x (by rw[hl];exact lU _ hx)
 have hopo:gO n ops o1=true:=hop o1 (by rw[hl];simp)
 have hopr:∀ x∈r1,gO n ops x=true:=fun x hx=>hop x (by rw[hl];exact gA _ (dA _ hx))
 refine t8 ?_ (n8 (ops.size+1) none p1 g he hr trivial hopp (fun j w d e=>by cases e) hv)
 rintro t1 H1 ⟨⟨s1,c1,hle,hr1,hk⟩,_⟩
 show WOp G.P fl (if (g.drop p1.length).headD false then fl else H1.length) ops o1 t1 H1 fun t' H'=>WDrawn G.P fl ops (g.drop p1.length).tail r1 t' H' _
 rw[hhead,aA rfl]
 have hw:bS ops t1 o1=true:=by unfold bS;rw[hg]
 split at hk
 case h_2=>exact hk.elim
 rename_i hgood
 have hx:=(dN hopo)
 rw[hopc]at hx
 have hax:∀ x∈cl.args.toList,aG n x=true:=fun x h=>hx x (by simp only[Op.operands,Call.operands,tT];exact gA _ h)
 subst has
 have hargs:All2 (R2 c1) (cl.args.toList.map (evV s1.t)) (cl.args.toList.map (eval t1)):=iS hr1.2.2 hax
 unfold WOp
 rw[aA hw]
 have hp:aJ G.P fl o1.op (eval t1) H1=some (.enter g1 (cl.args.toList.map (eval t1)).toArray,H1):=by
  have:cl.args.map (eval t1)=(cl.args.toList.map (eval t1)).toArray:=by apply Array.toList_inj.1;simp
  rw[hopc]
  simp only[aJ,fP,hc,eval,hgood,aO,this]
  simp
 simp only[hp]
 refine WCall.mono (hI.1 g1 _ _ _ hb hk F0 H0 c1 H1 fl t1 _ hr1 he.fl hargs) ?_
 rintro v H' ⟨vv,s2,c2,g1,g2,g3,g4⟩
 have hr2:Rel F0 H0 c2 (VS.set s2 o1.dst vv) _ H':=⟨by rw[NE];exact g2.1,g2.2.1,Tok.put (Le.refl c2) g2.2.2 g3⟩
 refine t8 ?_ (n8 (ops.size+1) none r1 (g.drop p1.length).tail (c:=c2) ⟨he.O,he.fl⟩ hr2 trivial hopr (fun j w d e=>by cases e) g4)
 rintro t3 H3 ⟨⟨s3,c3,hle3,hr3,hk3⟩,_⟩
 split at hk3
 case h_2=>exact hk3.elim
 rename_i hcl
 refine⟨?_,hQ t3 H3 s3 c3 (hle3.hs.trans (g1.trans hle.hs)) hr3 hk3⟩
 rcases hch with⟨_,rfl⟩|⟨rfl,rfl⟩
 ·rfl
 ·simp only[Bool.not_true,Bool.false_or]at hcl
  rw[bW]at hcl⊢
  exact fun p hp=>wW hr3 hop (hcl p hp)
theorem zX {id:Nat}{draw:Bool}{k:VS->Prop}(he:Env G H0 c fl n ops)(hI:∀ J,G.I=some J->fB G.P J)(hr:Rel F0 H0 c s ta H)(hop:∀ o∈ops.toList,gO n ops o=true)(hv:G0 G ops draw s k){Q:bE->aE->aD->Prop}
 (hQ:∀ ta' H' s' c',c'.hs=c.hs->Rel F0 H0 c' s' ta' H'->k s'->Q .normal ta' H'):W G.P fl (.region id ops draw) ta H Q:=by
 have plain:wO G ops draw s k->W G.P fl (.region id ops draw) ta H Q:=fun h0 =>
  I2 he hr hop h0 fun ta' H' ⟨s',c',hle,hr',hk⟩=>hQ ta' H' s' c' hle.hs hr' hk
 unfold G0 at hv
 split at hv
 ·exact plain hv
 rename_i J hJ
 split at hv
 ·split at hv
  ·exact T7 (BK he.O he.fl (hI J hJ) _ hr hop hv hQ)
  ·exact hv.elim
 ·split at hv
  case h_2=>exact hv.elim
  rename_i hcond
  simp only[aH]at hcond
  obtain⟨⟨⟨hdr,h1⟩,h2⟩,h3⟩:=hcond
  subst hdr
  refine aGI (by rw[h1,h2,h3];rfl) (A1 he.O he.fl (hI J hJ) _ 0 hr hop ⟨fun b hb=>(by cases hb),fun j hj=>(by cases hj)⟩ (fun z hz=>by cases hz) hv fun ta' H' s' c' e1 e2 e3 => ?_)
  split at e3
  case h_2=>exact e3.elim
  rename_i hcl
  refine⟨?_,hQ ta' H' s' c' e1 e2 e3⟩
  rw[bW]at hcl⊢
  exact fun p hp=>wW e2 hop (hcl p hp)
 split at hv
 ·split at hv
  ·exact plain hv
  ·rename_i hm
   exact UZ he (hI J hJ) hr hop hm hv hQ
 rename_i pre o f args he2
 unfold X4 at he2
 split at he2
 case h_2=>cases he2
 rename_i pre' o' hlast
 have hl:=D0 hlast
 split at he2
 case h_2=>cases he2
 rename_i cl hg hopc
 split at he2
 case h_2=>cases he2
 rename_i f' hc
 have key:∃ g:List Bool,((draw=true/\oE ops g []=true)\/(draw=false/\g=ops.toList.map fun _=>true))/\(g.drop pre'.length).headD false=true/\some (pre',o',f',cl.args.toList)=some (pre,o,f,args):=by
  split at he2
  ·refine⟨_,.inr ⟨rfl,rfl⟩,?_,he2⟩
   rw[hl]
   simp
  ·split at he2
   ·rename_i hd
    simp only[aH,List.isEmpty_iff]at hd
    obtain⟨⟨h1,h2⟩,h3⟩:=hd
    refine⟨oV ops (aI ops.toList #[]) 0 ops.toList,.inl ⟨rfl,?_⟩,?_,he2⟩
    ·unfold oE
     simp only[h1,h2,List.all_nil,lP,Bool.and_true,DZ,oZ]
    ·have e1:oV ops (aI ops.toList #[]) 0 ops.toList=oV ops (aI ops.toList #[]) 0 (pre'++[o']):=by rw[<- hl]
     rw[e1,A5 pre' 0 [o'],e9]
     have hk:aK o'.op=4:=by rw[hopc];simp only[aK,hc]
     simp only[oV,List.headD_cons,hk,h3,DZ,oZ]
   ·cases he2
 obtain⟨g,hd,hhead,he3⟩:=key
 simp only[aX,Prod.mk.injEq]at he3
 obtain⟨rfl,rfl,rfl,rfl⟩:=he3
 refine R6 g [] hd ?_
 rw[hl]
 refine n7 pre' ?_
 have hopp:∀ x∈pre',gO n ops x=true:=fun x hx=>hop x (by rw[hl];exact lU _ hx)
 have hopo:gO n ops o'=true:=hop o' (by rw[hl];simp)
 refine t8 ?_ (n8 (ops.size+1) none pre' g he hr trivial hopp (fun j w d e=>by cases e) hv)
 rintro t1 H1 ⟨⟨s1,c1,hle,hr1,hk⟩,_⟩
 show WOp G.P fl (if (g.drop pre'.length).headD false then fl else H1.length) ops o' t1 H1 fun t' H'=>WDrawn G.P fl ops (g.drop pre'.length).tail [] t' H' _
 rw[hhead,aA rfl]
 have hw:bS ops t1 o'=true:=by unfold bS;rw[hg]
 have fin:∀ t' H' s' c',c'.hs=c.hs->Rel F0 H0 c' s' t' H'->k s'->WDrawn G.P fl ops (g.drop pre'.length).tail [] t' H' fun t' H'=>([]:List (Nat×Nat)).all (dE ops t')=true/\Q .normal t' H':=by
  intro t' H' s' c' h1 h2 h3
  have:∀ gs:List Bool,WDrawn G.P fl ops gs [] t' H' fun t' H'=>([]:List (Nat×Nat)).all (dE ops t')=true/\Q .normal t' H':=by
   intro gs
   cases gs <;> exact⟨rfl,hQ t' H' s' c' h1 h2 h3⟩
  exact this _
 have hfl1:fl<=H1.length:=hr1.2.1.flen he.fl
 have one:vC G o' s1 k->WOp G.P fl fl ops o' t1 H1 fun t' H'=>WDrawn G.P fl ops (g.drop pre'.length).tail [] t' H' fun t' H'=>([]:List (Nat×Nat)).all (dE ops t')=true/\Q .normal t' H':=fun hv1 =>
  oI (he.le hle) hr1 hopo hw hv1 hfl1 fun t' H' _ _ ⟨s',c',hle',hr',hk'⟩=>fin t' H' s' c' (hle'.hs.trans hle.hs) hr' hk'
 split at hk
 ·rename_i g' caps hev
  split at hk
  ·rename_i hb
   simp only[aH]at hb
   have hx:=(dN hopo)
   rw[hopc]at hx
   have hfx:aG n f'=true:=hx f' (by simp only[Op.operands,Call.operands,hc];simp)
   have hax:∀ x∈cl.args.toList,aG n x=true:=fun x h=>hx x (by simp only[Op.operands,Call.operands,tT];exact gA _ h)
   have hf:=cD hr1.2.2 hfx
   rw[hev]at hf
   obtain⟨cp,e1,hcp⟩:=hf
   have hargs:All2 (R2 c1) (cl.args.toList.map (evV s1.t)++caps) (cl.args.toList.map (eval t1)++cp):=(iS hr1.2.2 hax).app (hcp.mono fun v a h=>rD h)
   unfold WOp
   rw[aA hw]
   have hp:aJ G.P fl o'.op (eval t1) H1=some (.enter g' (cl.args.toList.map (eval t1)++cp).toArray,H1):=by
    have:cl.args.map (eval t1)=(cl.args.toList.map (eval t1)).toArray:=by apply Array.toList_inj.1;simp
    rw[hopc]
    simp only[aJ,fP,hc,e1,hb.2,aO,this]
    simp
   simp only[hp]
   refine WCall.mono ((hI J hJ).1 g' _ _ _ hb.1 hk F0 H0 c1 H1 fl t1 _ hr1 he.fl hargs) ?_
   rintro v H' ⟨vv,s2,c2,g1,g2,g3,g4⟩
   exact fin _ _ _ c2 (g1.trans hle.hs) ⟨by rw[NE];exact g2.1,g2.2.1,Tok.put (Le.refl c2) g2.2.2 g3⟩ g4
  ·exact one hk
 ·exact one hk
theorem aEs {cells:List Value}{q:Nat}{v:Value}(h:InB cells q 1 [v]):cells[q]? = some v:=by
 obtain⟨h1,h2⟩:=h
 have hlt:q<cells.length:=by omega
 rw[wF hlt,List.take_succ_cons,List.take_zero]at h2
 grind
theorem KA {id:Nat}{draw:Bool}{live:List Nat}{k:VS->Prop}(he:Env G H0 c fl n ops)(hI:∀ J,G.I=some J->fB G.P J)(hr:Rel F0 H0 c s ta H)(hop:∀ o∈ops.toList,gO n ops o=true)(hv:KT G ops draw live s k){Q:bE->aE->aD->Prop}
 (hQ:∀ ta' H' s' c',c'.hs=c.hs->Rel F0 H0 c' s' ta' H'->k s'->Q .normal ta' H'):W G.P fl (.region id ops draw) ta H Q:=by
 unfold KT at hv
 split at hv
 ·exact zX he hI hr hop hv hQ
 split at hv
 ·exact zX he hI hr hop hv hQ
 rename_i pre o ty a x he2
 unfold TL at he2
 split at he2
 case h_2=>cases he2
 rename_i pre' o' hlast
 have hl:=D0 hlast
 split at he2
 case h_2=>cases he2
 rename_i ty' a' x' hg hdst hopc
 have key:∃ g:List Bool,((draw=true/\oE ops g []=true)\/(draw=false/\g=ops.toList.map fun _=>true))/\some (pre',o',ty',a',x')=some (pre,o,ty,a,x):=by
  split at he2
  ·exact⟨_,.inr ⟨rfl,rfl⟩,he2⟩
  ·split at he2
   ·rename_i hd
    simp only[aH,List.isEmpty_iff]at hd
    obtain⟨h1,h2⟩:=hd
    refine⟨oV ops (aI ops.toList #[]) 0 ops.toList,.inl ⟨rfl,?_⟩,he2⟩
    unfold oE
    simp only[h1,h2,List.all_nil,lP,Bool.and_true,DZ,oZ]
   ·cases he2
 obtain⟨g,hd,he3⟩:=key
 simp only[aX,Prod.mk.injEq]at he3
 obtain⟨rfl,rfl,rfl,rfl,rfl⟩:=he3
 refine R6 g [] hd ?_
 rw[hl]
 refine n7 pre' ?_
 have hopp:∀ x∈pre',gO n ops x=true:=fun x hx=>hop x (by rw[hl];exact lU _ hx)
 have hopo:gO n ops o'=true:=hop o' (by rw[hl];simp)
 refine t8 ?_ (n8 (ops.size+1) none pre' g he hr trivial hopp (fun j w d e=>by cases e) hv)
 rintro t1 H1 ⟨⟨s1,c1,hle,hr1,hk⟩,_⟩
 show WOp G.P fl (if (g.drop pre'.length).headD false then fl else H1.length) ops o' t1 H1 fun t' H'=>WDrawn G.P fl ops (g.drop pre'.length).tail [] t' H' _
 have hw:bS ops t1 o'=true:=by unfold bS;rw[hg]
 have fin:∀ t' H' s' c',c'.hs=c.hs->Rel F0 H0 c' s' t' H'->k s'->WDrawn G.P fl ops (g.drop pre'.length).tail [] t' H' fun t' H'=>([]:List (Nat×Nat)).all (dE ops t')=true/\Q .normal t' H':=by
  intro t' H' s' c' h1 h2 h3
  have:∀ gs:List Bool,WDrawn G.P fl ops gs [] t' H' fun t' H'=>([]:List (Nat×Nat)).all (dE ops t')=true/\Q .normal t' H':=by
   intro gs
   cases gs <;> exact⟨rfl,hQ t' H' s' c' h1 h2 h3⟩
  exact this _
 have hfl1:fl<=H1.length:=hr1.2.1.flen he.fl
 have hflc:(if (g.drop pre'.length).headD false then fl else H1.length)<=H1.length:=by split <;> omega
 have one:vC G o' s1 k->WOp G.P fl (if (g.drop pre'.length).headD false then fl else H1.length) ops o' t1 H1 fun t' H'=>WDrawn G.P fl ops (g.drop pre'.length).tail [] t' H' fun t' H'=>([]:List (Nat×Nat)).all (dE ops t')=true/\Q .normal t' H':=fun hv1 =>
  oI (he.le hle) hr1 hopo hw hv1 hflc fun t' H' _ _ ⟨s',c',hle',hr',hk'⟩=>fin t' H' s' c' (hle'.hs.trans hle.hs) hr' hk'
 split at hk
 ·rename_i kd l ix kd' v ha hx
  split at hk
  case isFalse=>exact hk.elim
  rename_i hc
  obtain⟨rfl,hsz⟩:=hc
  have hxs:=dN hopo
  rw[hopc]at hxs
  have hax:aG n a'=true:=hxs a' (by simp[Op.operands])
  have hxx:aG n x'=true:=hxs x' (by simp[Op.operands])
  have h1:=cD hr1.2.2 hax
  have h2:=cD hr1.2.2 hxx
  rw[ha]at h1
  rw[hx]at h2
  obtain⟨b,q,B,y,cs,e1,e2,e3,e4,e5⟩:=CK h1
  obtain⟨e6,_⟩:=cY h2
  have e5:cs=[.int kd y]:=e5
  subst e5
  have hq:=aEs e4
  have hb:c1.n0 b=false:=by
   unfold cA at e2
   split at e2
   ·cases e2
   ·rename_i hn;simp at hn;exact hn
  have hF:c1.F b=some B:=pV _ _ e2
  have hbk:=hr1.2.1.fz b B hF
  have hn0:=hr1.2.1.n0
  have hqlt:q<B.cells.length:=(List.getElem?_eq_some_iff.1 hq).1
  have hsb:tB G.P ty' B (q+0) (eval t1 x')=some { B with cells:=B.cells.set q (.int kd v) }:=by
   unfold tB
   rw[e6]
   rw[aA ⟨hsz,by show q+0+1<=_;omega,rfl⟩]
   rfl
  obtain⟨H',f1,f2,f3⟩:=xY (P:=G.P) (fl:=fl) hbk (he.fl b (by rw[<- hn0];exact hb)) hsb
  unfold WOp
  rw[aA hw]
  have hp:aJ G.P fl o'.op (eval t1) H1=some (.skip,H'):=by
   rw[hopc]
   simp only[aJ,e1,f1,Option.map_some]
  simp only[hp]
  rw[hdst]
  show WDrawn G.P fl ops (g.drop pre'.length).tail [] t1 H' _
  obtain⟨s2,c2,k1,k2,k3⟩:=Y9 hr1 hb hF rfl (.inr ⟨q,y,hq,rfl⟩) f3 f2 hk
  exact fin _ _ _ c2 (k1.trans hle.hs) k2 k3
 ·exact one hk
end
end Go.Mach
namespace Go.Mach
set_option linter.unusedVariables false
set_option linter.unusedSimpArgs false
section
variable {G:Cfg} {F0:Fz} {H0:Base} {c c':Ctx} {H H':aD} {s:VS} {ta:aE} {n fl:Nat} {ops:Array Oper}
theorem j5:∀ (n:Nat) {h:List VO} {todo acc:List Nat},acc.Nodup->(mP n h todo acc).Nodup
 | 0,h,todo,acc,hn=>hn
 | n+1,h,[],acc,hn=>hn
 | n+1,h,i::todo,acc,hn=>by
   unfold mP
   split
   ·exact j5 n hn
   ·rename_i hc
    refine j5 n ?_
    rw[LQ]
    refine⟨hn,by simp,?_⟩
    intro a ha b hb e
    rw[nN]at hb
    subst hb;subst e
    have:acc.contains a=true:=by simpa using ha
    rw[this]at hc;cases hc
theorem xU:∀ {ids:List Nat} {i n j:Nat},fY i ids n=some j->n<=j/\ids[j-n]? = some i
 | [],i,n,j,h=>by cases h
 | x::ids,i,n,j,h=>by
   unfold fY at h
   split at h
   ·rename_i e;cases h;subst e;exact⟨aF _,by simp⟩
   ·obtain⟨h1,h2⟩:=xU h
    refine⟨by omega,?_⟩
    rw[show j-n=(j-(n+1))+1 by omega,List.getElem?_cons_succ]
    exact h2
def jW (c:Ctx)(ids:List Nat):Ctx:=⟨c.n0,c.F,fun j=>(ids[j]?).bind c.ρ,ids.map fun i=>qP ids (aP c.h i),c.hs⟩
theorem EV {ids:List Nat}{i j:Nat}(h:fY i ids 0=some j):(jW c ids).ρ j=c.ρ i/\(jW c ids).h[j]? = some (qP ids (aP c.h i)):=by
 have:=(xU h).2
 rw[Nat.sub_zero]at this
 refine⟨?_,?_⟩
 ·show(ids[j]?).bind c.ρ=_
  rw[this];rfl
 ·show(ids.map _)[j]? = _
  rw[b8,this];rfl
theorem wA (ids:List Nat){v:VV}{a:Value}(h:RL c v a):RL (jW c ids) (L4 ids v) a:=by
 cases v with
 | pl v=>exact h
 | fz o t l=>exact h
 | fptr o t l ix off=>exact h
 | hof i=>exact h
 | mptr i off=>trivial
 | er b=>exact h
 | bs l=>exact h.elim
 | own i =>
   unfold L4
   simp only
   split
   ·rename_i j hj
    obtain⟨k1,k2⟩:=EV (c:=c) hj
    simp only[RL]at h⊢
    rw[k1,k2]
    cases hi:c.h[i]? with
    | none=>rw[hi]at h;exact h.elim
    | some o =>
      rw[hi]at h
      rw[dP hi]
      cases o <;> exact h
   ·trivial
 | ptr i off =>
   unfold L4
   simp only
   split
   ·rename_i j hj
    obtain⟨k1,k2⟩:=EV (c:=c) hj
    obtain⟨b,cs,fr,h1,h2,h3⟩:=h
    rw[dP h1]at k2
    exact⟨b,_,fr,k2,k1.trans h2,h3⟩
   ·trivial
 | eptr i ix off =>
   unfold L4
   simp only
   split
   ·rename_i j hj
    obtain⟨k1,k2⟩:=EV (c:=c) hj
    obtain⟨b,h1,h2⟩:=h
    refine⟨b,k1.trans h1,?_⟩
    rw[k2]
    cases hi:c.h[i]? with
    | none=>rw[hi]at h2;exact h2.elim
    | some o =>
      rw[hi]at h2
      rw[dP hi]
      cases o <;> exact h2
   ·trivial
 | undef=>trivial
 | agg l=>exact h.elim
 | tup l=>exact h.elim
 | bx l off=>exact h.elim
 | fn f l=>exact h.elim
 | nw t l=>exact h.elim
theorem LM (ids:List Nat){v:VV}{a:Value}(h:R1 c v a):R1 (jW c ids) (aA8 ids v) a:=by
 cases v
 case agg l=>obtain⟨azz,h1,h2⟩:=h;exact⟨azz,h1,h2.mapL fun v a h=>wA ids h⟩
 case bx l off=>obtain⟨b,B,h1,h2,h3⟩:=h;exact⟨b,B,h1,h2,h3.mapL fun v a h=>wA ids h⟩
 case bs l=>obtain⟨b,B,k,h1,h2,h4,h3⟩:=h;exact⟨b,B,k,by simpa using h1,h2,h4,h3.mapL fun v a h=>wA ids h⟩
 all_goals exact FU (wA ids (yT (fun _ e=>by cases e) (fun _ _ e=>by cases e) (fun _ e=>by cases e) h))
theorem w9 (ids:List Nat){v:VV}{a:Value}(h:R2 c v a):R2 (jW c ids) (D9 ids v) a:=by
 cases v
 case tup l=>obtain⟨azz,h1,h2⟩:=h;exact⟨azz,h1,h2.mapL fun v a h=>LM ids h⟩
 case fn f l=>obtain⟨azz,h1,h2⟩:=h;exact⟨azz,h1,h2.mapL fun v a h=>LM ids h⟩
 all_goals exact rD (LM ids (BP (fun _ e=>by cases e) (fun _ _ e=>by cases e) h))
theorem Ok.clean (h:Ok F0 H0 c H){ids:List Nat}(hn:ids.Nodup):Ok F0 H0 (jW c ids) H where
 n0:=h.n0
 pre:=h.pre
 fz:=h.fz
 low:=h.low
 obj:=fun j o hj=>by
  have hj:(ids.map fun i=>qP ids (aP c.h i))[j]? = some o:=hj
  rw[b8]at hj
  cases e:ids[j]? with
  | none=>rw[e]at hj;cases hj
  | some i =>
    rw[e]at hj
    have hj:qP ids (aP c.h i)=o:=by simpa using hj
    subst hj
    have hρ:(jW c ids).ρ j=c.ρ i:=by show(ids[j]?).bind c.ρ=_;rw[e];rfl
    cases hi:c.h[i]? with
    | none =>
      have hg:aP c.h i = .dead false:=by unfold aP;rw[cH,hi];rfl
      have hnone:c.ρ i=none:=h.dom i (List.getElem?_eq_none_iff.1 hi)
      rw[hg]
      exact {
       lo:=fun b e=>by rw[hρ,hnone]at e;cases e
       box:=fun _ _ e=>(by cases e)
       lst:=fun _ _ _ _ e=>(by cases e)
       dead:=fun _ e=>(by cases e) }
    | some o =>
      rw[dP hi]
      have ob:=h.obj i o hi
      exact {
       lo:=fun b e=>ob.lo b (by rw[<- hρ];exact e)
       box:=fun cs fr e=>by
        cases o with
        | box cs' fr' =>
          cases e
          obtain⟨b,azz,k1,k2,k3,k4⟩:=ob.box _ _ rfl
          exact⟨b,azz,hρ.trans k1,k2,k3.mapL fun v a h=>wA ids h,k4⟩
        | lst _ _ _ _=>cases e
        | dead _=>cases e
       lst:=fun q t l fr e=>by
        cases o with
        | box cs' fr'=>cases e
        | dead _=>cases e
        | lst q' t' l' fr'=>rw[hρ];exact ob.lst q t l fr e
       dead:=fun b e e'=>by
        cases o with
        | box cs' fr'=>cases e
        | lst _ _ _ _=>cases e
        | dead x=>exact ob.dead b e (by rw[<- hρ];exact e') }
 inj:=fun i j b hij hi hj=>by
  have hi:(ids[i]?).bind c.ρ=some b:=hi
  have hj:(ids[j]?).bind c.ρ=some b:=hj
  show(ids.map fun i=>qP ids (aP c.h i))[i]? = _\/(ids.map fun i=>qP ids (aP c.h i))[j]? = _
  rw[b8,b8]
  cases e1:ids[i]? with
  | none=>rw[e1]at hi;cases hi
  | some x =>
    cases e2:ids[j]? with
    | none=>rw[e2]at hj;cases hj
    | some y =>
      rw[e1]at hi
      rw[e2]at hj
      have hxy:x≠y:=by
       intro e
       subst e
       have h1:=List.getElem?_eq_some_iff.1 e1
       have h2:=List.getElem?_eq_some_iff.1 e2
       obtain⟨l1,g1⟩:=h1
       obtain⟨l2,g2⟩:=h2
       have hp:=List.pairwise_iff_getElem.1 hn
       grind
      rcases h.inj x y b hxy hi hj with e|e
      ·left;simp only[Option.map_some,dP e];rfl
      ·right;simp only[Option.map_some,dP e];rfl
 bj:=fun i j b o hij hi hj ho=>by
  have hi:(ids[i]?).bind c.ρ=some b:=hi
  have hj:(ids[j]?).bind c.ρ=some b:=hj
  have ho:(ids.map fun i=>qP ids (aP c.h i))[i]? = some o:=ho
  rw[b8]at ho
  cases e1:ids[i]? with
  | none=>rw[e1]at hi;cases hi
  | some x =>
    cases e2:ids[j]? with
    | none=>rw[e2]at hj;cases hj
    | some y =>
      rw[e1]at hi ho
      rw[e2]at hj
      have hxy:x≠y:=by
       intro e
       subst e
       obtain⟨l1,g1⟩:=List.getElem?_eq_some_iff.1 e1
       obtain⟨l2,g2⟩:=List.getElem?_eq_some_iff.1 e2
       have hp:=List.pairwise_iff_getElem.1 hn
       rcases Nat.lt_trichotomy i j with hlt|he|hlt
       ·exact hp i j l1 l2 hlt (g1.trans g2.symm)
       ·exact hij he
       ·exact hp j i l2 l1 hlt (g2.trans g1.symm)
      simp only[Option.map_some,aX]at ho
      subst ho
      cases hx:c.h[x]? with
      | none =>
        have hg:aP c.h x = .dead false:=by unfold aP;rw[cH,hx];rfl
        rw[hg];rfl
      | some p =>
        rw[dP hx]
        have:=h.bj x y b p hxy hi hj hx
        cases p with
        | box _ _=>cases this
        | lst _ _ _ _=>rfl
        | dead _=>rfl
 dom:=fun j hj=>by
  have hj:(ids.map fun i=>qP ids (aP c.h i)).length<=j:=hj
  rw[e8]at hj
  show(ids[j]?).bind c.ρ=none
  rw[List.getElem?_eq_none_iff.2 hj];rfl
theorem EO {R:VV->Value->Prop}(hu:∀ a,R .undef a):∀ (live:List Nat) (vs:List VV) {ta:aE},All2 R vs (live.map ta)->∀ d,R (bQ (CX live vs) d) (ta d)
 | [],vs,ta,h,d=>by cases h;exact hu _
 | x::live,[],ta,h,d=>by cases h
 | x::live,v::vs,ta,h,d=>by
   cases h with
   | cons h t =>
     show R (if x=d then v else bQ (CX live vs) d) (ta d)
     split
     ·rename_i e;subst e;exact h
     ·exact EO hu live vs t d
theorem RW {R:VV->Value->Prop}{f:Nat->VV}{ta:aE}(h:∀ d,R (f d) (ta d)):∀ live:List Nat,All2 R (live.map f) (live.map ta)
 | [] => .nil
 | x::l => .cons (h x) (RW h l)
theorem E5 (hr:Rel F0 H0 c s ta H)(live:List Nat):∃ c',c'.hs=c.hs/\c'.n0=c.n0/\c'.h=(HJ live s).2/\Ok F0 H0 c' H/\All2 (R2 c') (HJ live s).1 (live.map ta):=by
 obtain⟨hh,hok,ht⟩:=hr
 have hn:=j5 (2*s.h.length+40) (h:=s.h) (todo:=(live.map (bQ s.t)).flatMap GK) (acc:=[]) List.nodup_nil
 refine⟨jW c (mP (2*s.h.length+40) s.h ((live.map (bQ s.t)).flatMap GK) []),rfl,rfl,?_,hok.clean hn,?_⟩
 ·show(List.map _ _)=_
  rw[hh];rfl
 ·show All2 _ ((live.map (bQ s.t)).map _) _
  rw[List.map_map]
  exact RW (fun d=>w9 _ (ht d)) live
theorem R5 {a b:VV}(h:JE a b=true):a=b:=by
 unfold JE at h
 grind
theorem M3:∀ {a b:List VV},PE a b=true->a=b
 | [],[],_=>rfl
 | [],_::_,h=>by cases h
 | _::_,[],h=>by cases h
 | a::l,b::r,h=>by
   unfold PE at h
   simp only[aH]at h
   rw[R5 h.1,M3 h.2]
theorem aCI {a b:VV}(h:I7 a b=true):a=b:=by
 unfold I7 at h
 split at h
 ·simp only[aH,eP]at h
  rw[h.1,M3 h.2]
 ·exact R5 h
theorem tW {x:Lf}{v:VV}{K:x.den->Prop}(h:unF x v K):∃ d,v=E8 x d/\K d:=by
 unfold unF at h
 split at h
 ·split at h
  ·split at h
   ·rename_i e;subst e;exact⟨_,rfl,h⟩
   ·exact h.elim
  ·exact h.elim
 ·split at h
  ·exact⟨_,rfl,h⟩
  ·exact h.elim
 ·split at h
  ·exact⟨_,rfl,h⟩
  ·exact h.elim
 ·split at h
  ·rename_i x;exact⟨x,rfl,h⟩
  ·exact h.elim
 ·split at h
  ·rename_i a b;exact⟨(a,b),rfl,h⟩
  ·exact h.elim
 ·split at h
  ·split at h
   ·rename_i e
    subst e
    obtain⟨e,h⟩:=Ty.at_inv h
    subst e
    exact⟨_,rfl,h⟩
   ·exact h.elim
  ·exact h.elim
 ·split at h
  ·rename_i e;exact⟨(),(aCI e).symm,h⟩
  ·exact h.elim
 ·split at h
  ·split at h
   ·rename_i e
    subst e
    obtain⟨e,h⟩:=Ty.at_inv h
    subst e
    dsimp only at h
    split at h
    ·exact⟨_,rfl,h⟩
    ·exact h.elim
   ·exact h.elim
  ·exact h.elim
theorem qF:∀ {l:List Lf} {vs:List VV} {K:KY l->Prop},unL l vs K->∃ d,vs=F6 l d/\K d
 | [],vs,K,h=>by
   unfold unL at h
   split at h
   ·exact⟨(),rfl,h⟩
   ·exact h.elim
 | x::l,vs,K,h=>by
   unfold unL at h
   split at h
   ·obtain⟨a,rfl,h1⟩:=tW h
    obtain⟨b,rfl,h2⟩:=qF h1
    exact⟨(a,b),rfl,h2⟩
   ·exact h.elim
theorem UG {x:Cp}{v:VV}{K:x.den->Prop}(h:aFT x v K):∃ d,v=UE x d/\K d:=by
 unfold aFT at h
 split at h
 ·exact tW h
 ·split at h
  ·obtain⟨d,rfl,h1⟩:=qF h;exact⟨d,rfl,h1⟩
  ·exact h.elim
 ·split at h
  ·obtain⟨d,rfl,h1⟩:=qF h;exact⟨d,rfl,h1⟩
  ·exact h.elim
theorem ON:∀ {l:List Cp} {vs:List VV} {K:VU l->Prop},unC l vs K->∃ d,vs=XK l d/\K d
 | [],vs,K,h=>by
   unfold unC at h
   split at h
   ·exact⟨(),rfl,h⟩
   ·exact h.elim
 | x::l,vs,K,h=>by
   unfold unC at h
   split at h
   ·obtain⟨a,rfl,h1⟩:=UG h
    obtain⟨b,rfl,h2⟩:=ON h1
    exact⟨(a,b),rfl,h2⟩
   ·exact h.elim
theorem UR {x:Sh}{v:VV}{K:x.den->Prop}(h:aF2 x v K):∃ d,v=UM x d/\K d:=by
 unfold aF2 at h
 split at h
 ·exact tW h
 ·split at h
  ·obtain⟨d,rfl,h1⟩:=qF h;exact⟨d,rfl,h1⟩
  ·exact h.elim
 ·split at h
  ·obtain⟨d,rfl,h1⟩:=qF h;exact⟨d,rfl,h1⟩
  ·exact h.elim
 ·split at h
  ·split at h
   ·rename_i e
    subst e
    obtain⟨d,rfl,h1⟩:=ON h;exact⟨d,rfl,h1⟩
   ·exact h.elim
  ·exact h.elim
theorem EH:∀ {l:List Sh} {vs:List VV} {K:jK l->Prop},unS l vs K->∃ d,vs=jS l d/\K d
 | [],vs,K,h=>by
   unfold unS at h
   split at h
   ·exact⟨(),rfl,h⟩
   ·exact h.elim
 | x::l,vs,K,h=>by
   unfold unS at h
   split at h
   ·obtain⟨a,rfl,h1⟩:=UR h
    obtain⟨b,rfl,h2⟩:=EH h1
    exact⟨(a,b),rfl,h2⟩
   ·exact h.elim
theorem WN {x:OSh}{v:VO}{K:x.den->Prop}(h:aGT x v K):∃ d,v=aAZ x d/\K d:=by
 unfold aGT at h
 split at h
 ·split at h
  ·split at h
   ·rename_i e;subst e;obtain⟨d,rfl,h1⟩:=qF h;exact⟨d,rfl,h1⟩
   ·exact h.elim
  ·exact h.elim
 ·split at h
  ·split at h
   ·rename_i e
    obtain⟨rfl,rfl⟩:=e
    obtain⟨e,h⟩:=Ty.at_inv h
    subst e
    exact⟨_,rfl,h⟩
   ·exact h.elim
  ·exact h.elim
 ·split at h
  ·exact⟨(),rfl,h⟩
  ·exact h.elim
theorem EP:∀ {l:List OSh} {vs:List VO} {K:B4 l->Prop},unO l vs K->∃ d,vs=IU l d/\K d
 | [],vs,K,h=>by
   unfold unO at h
   split at h
   ·exact⟨(),rfl,h⟩
   ·exact h.elim
 | x::l,vs,K,h=>by
   unfold unO at h
   split at h
   ·obtain⟨a,rfl,h1⟩:=WN h
    obtain⟨b,rfl,h2⟩:=EP h1
    exact⟨(a,b),rfl,h2⟩
   ·exact h.elim
def qO (F0:Fz)(H0:Base)(hs:Nat->Value->Prop)(s:VS)(ta:aE)(H:aD):Prop:=∃ c,c.hs=hs/\Rel F0 H0 c s ta H
theorem WD {hs:Nat->Value->Prop}(hr:qO F0 H0 hs s ta H)(live:List Nat):qO F0 H0 hs (aHi live s) ta H:=by
 obtain⟨c,hc,hr⟩:=hr
 obtain⟨c',h1,h2,h3,h4,h5⟩:=E5 hr live
 exact⟨c',h1.trans hc,h3,h4,EO (fun _=>trivial) live _ h5⟩
theorem aCH {i:Nat}{q:Bool}{T:Ty}{l:List T.den}{fr:Bool}{a:Value}(hok:Ok F0 H0 c H)(hi:aP c.h i = .lst q T l fr)(hr:RL c (.own i) a) :
 ∃ c',Le c c'/\c'.hs=c.hs/\c'.h=freeze c.h [i]/\Ok F0 H0 c' H/\RL c' (.fz q T l) a:=by
 obtain⟨c1,k1,k2,kn,kρ,k3,k4⟩:=hok.freezes [i]
 refine⟨c1,k1,k1.hs,k2,k3,?_⟩
 have hl:RL c1 (eA c.h (.own i)) a:=oO hok k1 kρ hr fun j hj=>k4 j (by simpa [kH] using hj)
 have hres:eA c.h (.own i) = .fz q T l:=by unfold eA;simp only[hi]
 rw[hres]at hl
 exact hl
theorem fzA {q:Bool}{T:Ty}{l:List T.den}{a:Value}(h:RL c (.fz q T l) a):RL c (.fz false T l) a:=by
 obtain⟨ad,k,h1,h2⟩:=h
 have hext:(cA q c.n0 c.F).ext (cA false c.n0 c.F):=jJ (fun e=>by cases e)
 exact⟨ad,k,h1,h2.mono hext (RT.mono hext T)⟩
theorem FJ {fz:Bool}{T:Ty}{v v':VV}{h':List VO}{a:Value}(hok:Ok F0 H0 c H)(hr:RL c v a)(hc:conv fz T c.h v=some (v',h')):∃ c',Le c c'/\c'.h=h'/\Ok F0 H0 c' H/\RL c' v' a:=by
 unfold conv at hc
 split at hc
 ·cases hc
  obtain⟨rfl,_⟩:=hr
  exact⟨_,gT _ _,rfl,hok.addNil true T (Pre.refl H),rU (c:=c) (a:=none) (q:=true) (l:=([]:List T.den)) rfl⟩
 ·cases hc
  obtain⟨rfl,_⟩:=hr
  exact⟨c,Le.refl c,rfl,hok,none,_,rfl,⟨eJ _,.inl rfl⟩⟩
 ·split at hc
  ·rename_i hg
   cases hc
   obtain⟨c',h1,h2,h3,h4,h5⟩:=aCH hok hg hr
   exact⟨c',h1,h3,h4,fzA h5⟩
  ·cases hc
 ·cases hc
  exact⟨c,Le.refl c,rfl,hok,fzA hr⟩
 ·cases hc
theorem aHq {v:VV}{a:Value}{fz:Bool}{T:Ty}{h:List VO}{r:VV×List VO}(hc:conv fz T h v=some r)(hr:R2 c v a):RL c v a:=by
 unfold conv at hc
 split at hc
 ·exact hr
 ·exact hr
 ·exact hr
 ·exact hr
 ·cases hc
theorem aBe {fz:Bool}{T:Ty}{h h':List VO}{v v':VV}(hc:conv fz T h v=some (v',h')){i:Nat}{cs:List VV}{fr:Bool}(hi:h[i]? = some (.box cs fr))(hv:∀ j,v = .own j->j≠i):h'[i]? = some (.box cs fr):=by
 unfold conv at hc
 split at hc
 ·grind
 ·cases hc;exact hi
 ·rename_i j
  split at hc
  ·cases hc
   show(h.set j (eU (aP h j)))[i]? = _
   rw[dK (hv j rfl)];exact hi
  ·cases hc
 ·cases hc;exact hi
 ·cases hc
theorem Y8 {hs:Nat->Value->Prop}(co:Co)(hr:qO F0 H0 hs s ta H):qO F0 H0 hs (co1 s co) ta H:=by
 obtain⟨c,hc,hh,hok,ht⟩:=hr
 unfold co1
 split
 ·split
  ·rename_i v h' hcv
   rw[<- hh]at hcv
   have hd:=ht co.d
   obtain⟨c',h1,h2,h3,h4⟩:=FJ hok (aHq hcv hd) hcv
   refine⟨c',h1.hs.trans hc,h2,h3,?_⟩
   intro i
   show R2 c' (if co.d=i then v else bQ s.t i) _
   split
   ·rename_i e;subst e;exact rD (FU h4)
   ·exact R2.mono h1 _ _ (ht i)
  ·exact⟨c,hc,hh,hok,ht⟩
 ·rename_i q hq
  split
  ·rename_i i off hl
   split
   ·rename_i cs fr hg
    split
    ·rename_i u hu
     split
     ·rename_i v h' hcv
      rw[<- hh]at hcv hg
      have hi:=cV hg (by intro e;cases e)
      obtain⟨b,azz,k1,k2,k3,k4,k5⟩:=(hok.obj i _ hi).box _ _ rfl
      obtain⟨a,m1,m2⟩:=k3.get hu
      obtain⟨c',h1,h2,h3,h4⟩:=FJ hok m2 hcv
      have hi':c'.h[i]? = some (.box cs fr):=by
       rw[h2]
       refine aBe hcv hi fun j e => ?_
       intro e2
       subst e;subst e2
       simp only[RL,hi]at m2
      have hle:Le c' (kU c' i (.box (cs.set q v) fr)):=pS hi' trivial
      have ob:=h3.obj i _ hi'
      obtain⟨b',as',n1,n2,n3,n4,n5⟩:=ob.box _ _ rfl
      have hbb:b'=b:=by
       rw[h1.ρ i (bB hi),k1]at n1
       exact(eR n1).symm
      subst hbb
      rw[k2]at n2
      cases n2
      refine⟨kU c' i (.box (cs.set q v) fr),hle.hs.trans (h1.hs.trans hc),?_,?_,?_⟩
      ·show c'.h.set i _=_;rw[h2]
      ·exact {
        n0:=h3.n0,pre:=h3.pre,fz:=h3.fz,low:=h3.low
        obj:=fun j p hj=>by
         rcases w6 hj with⟨rfl,rfl⟩|⟨hne,hj'⟩
         ·exact {
           lo:=fun b e=>ob.lo b e
           box:=fun cs2 fr2 e=>by
            cases e
            refine⟨b',azz,n1,k2,?_,n4,n5⟩
            have hset:azz.set q a=azz:=by
             apply wQ
             grind
            have:=(n3.mono (RL.mono hle)).set q (RL.mono hle _ _ h4)
            rw[hset]at this
            exact this
           lst:=fun _ _ _ _ e=>(by cases e)
           dead:=fun _ e=>(by cases e) }
         ·exact(h3.obj j p hj').mono hle rfl (fun _ _=>rfl) (fun _ _ _ hB=>hB) (aF _)
        inj:=fun j k b' hjk hj hk=>by
         show(c'.h.set i _)[j]? = _\/(c'.h.set i _)[k]? = _
         rcases h3.inj j k b' hjk hj hk with e|e
         ·left
          by_cases hji:i=j
          ·subst hji;rw[hi']at e;cases e
          ·rw[dK hji];exact e
         ·grind
        bj:=h3.bj.set hi' (fun _=>rfl)
        dom:=fun j hj=>h3.dom j (by have:(c'.h.set i (.box (cs.set q v) fr)).length<=j:=hj;simpa using this) }
      ·exact fun d=>R2.mono (h1.trans hle) _ _ (ht d)
     ·exact⟨c,hc,hh,hok,ht⟩
    ·exact⟨c,hc,hh,hok,ht⟩
   ·exact⟨c,hc,hh,hok,ht⟩
  ·exact⟨c,hc,hh,hok,ht⟩
theorem F2 {hs:Nat->Value->Prop}:∀ (cs:List Co) {s:VS},qO F0 H0 hs s ta H->qO F0 H0 hs (aC4 cs s) ta H
 | [],s,h=>h
 | c::cs,s,h=>F2 cs (Y8 c h)
theorem iC {hs:Nat->Value->Prop}(hr:qO F0 H0 hs s ta H)(en:nJ)(m:Nat):qO F0 H0 hs (sA en m s) ta H:=by
 unfold sA
 split
 ·exact WD (F2 _ hr) _
 ·exact hr
theorem AN {hs:Nat->Value->Prop}{live:List Nat}{sh:List Sh}{ob:List OSh}{K:jK sh×B4 ob->Prop}(hr:qO F0 H0 hs s ta H)(h:aFa live sh ob s K):∃ x,K x/\qO F0 H0 hs (OP live sh ob x) ta H:=by
 obtain⟨c,hc,hr⟩:=hr
 obtain⟨c',h1,h2,h3,h4,h5⟩:=E5 hr live
 unfold aFa at h
 obtain⟨a,e1,h⟩:=EH h
 obtain⟨b,e2,h⟩:=EP h
 refine⟨(a,b),h,c',h1.trans hc,?_,h4,?_⟩
 ·rw[h3,e2];rfl
 ·rw[e1]at h5
  exact EO (fun _=>trivial) live _ h5
def gS:Nat->Code->Nat->Option Code
 | 0,_,_=>none
 | f+1,root,n=>if n<=1 then some root else
   match gS f root (n / 2)with
   | some (.seq a b)=>if n%2=0 then some a else some b
   | some (.cond _ x y)=>if n%2=0 then some x else some y
   | some (.block _ b)=>some b
   | some (.loop b)=>some b
   | _=>none
theorem TS {root:Code}:∀ {f f' n:Nat} {c c':Code},gS f root n=some c->gS f' root n=some c'->c=c':=by
 intro f
 induction f with
 | zero=>intro f' n c c' h;cases h
 | succ f ih =>
   intro f' n c c' h h'
   cases f' with
   | zero=>cases h'
   | succ f' =>
     unfold gS at h h'
     grind
theorem aAq {P:Program}{x:Code}{t:aE}{Q:bE->aE->aD->Prop}(h:W P fl x t H fun e t1 H1=>match e with
 | .normal=>W P fl (.loop x) t1 H1 Q
 | e=>Q e t1 H1):W P fl (.loop x) t H Q:=by
 obtain⟨N,e,t1,H1,h1,h2⟩:=h
 cases e with
 | normal =>
   obtain⟨M,e2,t2,H2,h3,h4⟩:=h2
   simp only[aU]at h3
   refine⟨max N M+1,e2,t2,H2,?_,h4⟩
   simp only[aU,fV]
   rw[qI (eC P (show N<=max N M+1 by omega)) (show N<=max N M+1 by omega) _ _ _ _ h1]
   exact AE (qI (eC P (show M<=max N M+1 by omega)) (show M<=max N M+1 by omega) x) (show M<=max N M by omega) _ _ _ h3
 | _ =>
   refine⟨N+1,_,t1,H1,?_,h2⟩
   simp only[aU,fV]
   rw[qI (eC P (Nat.le_succ N)) (Nat.le_succ N) _ _ _ _ h1]
structure Tl (p:Prop):Prop where
 it:p
def NX (G:Cfg)(ct:Tab)(en:nJ)(root:Code):Prop :=
 ∀ n E,ct n=some E->∀ f c,gS f root n=some c->∀ x k,E.P x k->Tl (vwp G ct en c n (OP E.live E.sh E.ob x) k)
theorem aA7 {root a b:Code}{f m:Nat}(hm:1<=m)(h:gS f root m=some (.seq a b)):gS (f+1) root (2*m)=some a/\gS (f+1) root (2*m+1)=some b:=by
 constructor
 ·unfold gS
  grind
 ·unfold gS
  grind
theorem ZL {root a b:Code}{o:Operand}{f m:Nat}(hm:1<=m)(h:gS f root m=some (.cond o a b)):gS (f+1) root (2*m)=some a/\gS (f+1) root (2*m+1)=some b:=by
 constructor
 ·unfold gS
  grind
 ·unfold gS
  grind
theorem W5 {root b:Code}{f m:Nat}(hm:1<=m)(h:(∃ id,gS f root m=some (.block id b))\/gS f root m=some (.loop b)):gS (f+1) root (2*m)=some b:=by
 unfold gS
 rw[aC (by omega),show 2*m / 2=m by omega]
 rcases h with⟨id,h⟩|h <;> rw[h]
structure aEr (G:Cfg)(H0:Base)(hs:Nat->Value->Prop)(fl:Nat):Prop where
 O:∀ f args Q,G.O f args Q->fH G.P f args Q
 fl:Fl fl H0
 I:∀ J,G.I=some J->fB G.P J
theorem MZ {hs:Nat->Value->Prop}{ct:Tab}{en:nJ}{root:Code}(he:aEr G H0 hs fl)(htab:NX G ct en root):∀ (c:Code) (m:Nat) {s:VS} {k:bE->VS->Prop} {ta:aE} {H:aD} {Q:bE->aE->aD->Prop},1<=m->(∃ f,gS f root m=some c)->bD n c=true ->
 qO F0 H0 hs s ta H->vwp G ct en c m s k->(∀ e s' ta' H',qO F0 H0 hs s' ta' H'->k e s'->Q e ta' H')->W G.P fl c ta H Q:=by
 intro c
 have cut:∀ (x:Code) (m:Nat) {s:VS} {k:bE->VS->Prop} {ta:aE} {H:aD},(∃ f,gS f root m=some x)->qO F0 H0 hs s ta H->rK ct m (vwp G ct en x m) s k->∃ s',qO F0 H0 hs s' ta H/\vwp G ct en x m s' k:=by
  intro x m s k ta H hsub hr h
  unfold rK at h
  split at h
  ·rename_i E hE
   obtain⟨y,h1,h2⟩:=AN hr h
   obtain⟨f,hf⟩:=hsub
   exact⟨_,h2,(htab m E hE f x hf y k h1).it⟩
  ·exact⟨s,hr,h⟩
 induction c with
 | skip =>
   intro m s k ta H Q hm hsub hco hr hv hQ
   exact aFM (hQ _ _ _ _ (iC hr en m) hv)
 | label l =>
   intro m s k ta H Q hm hsub hco hr hv hQ
   exact aEL (hQ _ _ _ _ (iC hr en m) hv)
 | exit id =>
   intro m s k ta H Q hm hsub hco hr hv hQ
   exact aFO (hQ _ _ _ _ (iC hr en m) hv)
 | ret =>
   intro m s k ta H Q hm hsub hco hr hv hQ
   exact aH4 (hQ _ _ _ _ (iC hr en m) hv)
 | region id ops draw =>
   intro m s k ta H Q hm hsub hco hr hv hQ
   obtain⟨c,hc,hr⟩:=hr
   have hop:∀ o∈ops.toList,gO n ops o=true:=by
    unfold bD at hco
    exact fun o ho=>List.all_eq_true.1 hco o ho
   refine KA (n:=n) ⟨he.O,he.fl⟩ he.I hr hop hv ?_
   rintro ta' H' s' c' hle hr' hk
   exact hQ _ _ _ _ (iC ⟨c',hle.trans hc,hr'⟩ en m) hk
 | seq a b iha ihb =>
   intro m s k ta H Q hm hsub hco hr hv hQ
   obtain⟨f,hf⟩:=hsub
   obtain⟨ka,kb⟩:=aA7 hm hf
   simp only[bD,aH]at hco
   obtain⟨s1,hr1,hv1⟩:=cut a (2*m) ⟨_,ka⟩ hr hv
   refine aHG (iha (2*m) (by omega) ⟨_,ka⟩ hco.1 hr1 hv1 ?_)
   intro e s' ta' H' hr' hk
   cases e with
   | normal =>
     obtain⟨s2,hr2,hv2⟩:=cut b (2*m+1) ⟨_,kb⟩ hr' hk
     exact ihb (2*m+1) (by omega) ⟨_,kb⟩ hco.2 hr2 hv2 hQ
   | _=>exact hQ _ _ _ _ hr' hk
 | cond o x y ihx ihy =>
   intro m s k ta H Q hm hsub hco hr hv hQ
   obtain⟨f,hf⟩:=hsub
   obtain⟨kx,ky⟩:=ZL hm hf
   simp only[bD,aH]at hco
   have hv:(match evV s.t o with
    | .pl (.bool b)=>if b=true then rK ct (2*m) (vwp G ct en x (2*m)) s k else rK ct (2*m+1) (vwp G ct en y (2*m+1)) s k
    | _=>False):=hv
   obtain⟨c,hc,hrc⟩:=hr
   have hev:=cD hrc.2.2 hco.1.1
   split at hv
   ·rename_i b heq
    rw[heq]at hev
    refine aFA (cY hev).1 (fun hb => ?_) (fun hb => ?_)
    ·rw[aA hb]at hv
     obtain⟨s1,hr1,hv1⟩:=cut x (2*m) ⟨_,kx⟩ ⟨c,hc,hrc⟩ hv
     exact ihx (2*m) (by omega) ⟨_,kx⟩ hco.1.2 hr1 hv1 hQ
    ·rw[aC (by rw[hb];simp)]at hv
     obtain⟨s1,hr1,hv1⟩:=cut y (2*m+1) ⟨_,ky⟩ ⟨c,hc,hrc⟩ hv
     exact ihy (2*m+1) (by omega) ⟨_,ky⟩ hco.2 hr1 hv1 hQ
   ·exact hv.elim
 | block id b ih =>
   intro m s k ta H Q hm hsub hco hr hv hQ
   obtain⟨f,hf⟩:=hsub
   have kb:=W5 (b:=b) hm (.inl ⟨id,hf⟩)
   obtain⟨s1,hr1,hv1⟩:=cut b (2*m) ⟨_,kb⟩ hr hv
   refine aDL (ih (2*m) (by omega) ⟨_,kb⟩ hco hr1 hv1 ?_)
   intro e s' ta' H' hr' hk
   cases e with
   | exit id'=>exact hQ _ _ _ _ hr' hk
   | _=>exact hQ _ _ _ _ hr' hk
 | loop b ih =>
   intro m s k ta H Q hm hsub hco hr hv hQ
   obtain⟨f,hf⟩:=hsub
   have kb:=W5 (b:=b) hm (.inr hf)
   have step:∀ (X:VS->Prop),(∀ s,X s->∀ ta H,qO F0 H0 hs s ta H->W G.P fl (.loop b) ta H Q)->∀ s,LB k en m (rK ct (2*m) (vwp G ct en b (2*m))) s X->∀ ta H,qO F0 H0 hs s ta H->W G.P fl (.loop b) ta H Q:=by
    intro X hX s hB ta H hr
    refine aAq ?_
    obtain⟨s1,hr1,hv1⟩:=cut b (2*m) ⟨_,kb⟩ hr hB
    refine ih (2*m) (by omega) ⟨_,kb⟩ hco hr1 hv1 ?_
    intro e s' ta' H' hr' hk
    cases e with
    | normal=>exact hX _ hk ta' H' (iC hr' en m)
    | _=>exact hQ _ _ _ _ hr' hk
   unfold vwp at hv
   split at hv
   ·exact hv (fun s=>∀ ta H,qO F0 H0 hs s ta H->W G.P fl (.loop b) ta H Q) (fun s hB=>step _ (fun _ h=>h) s hB) ta H (iC hr en m)
   ·rename_i u _
    have key:∀ (u:Nat) s,unr (LB k en m (rK ct (2*m) (vwp G ct en b (2*m)))) u s->∀ ta H,qO F0 H0 hs s ta H->W G.P fl (.loop b) ta H Q:=by
     intro u
     induction u with
     | zero=>intro s h;exact h.elim
     | succ u ihu=>intro s h;exact step _ ihu s h
    exact key _ _ hv ta H (iC hr en m)
 | rangeFunc f ps a b _ _=>intro m s k ta H Q hm hsub hco;simp[bD]at hco
 | scope b _=>intro m s k ta H Q hm hsub hco;simp[bD]at hco
 | goto l=>intro m s k ta H Q hm hsub hco hr hv;simp[vwp]at hv
 | refuse w=>intro m s k ta H Q hm hsub hco;simp[bD]at hco
end
end Go.Mach
namespace Go.Mach
set_option linter.unusedVariables false
set_option linter.unusedSimpArgs false
section
variable {G:Cfg} {F0:Fz} {H0:Base} {c c':Ctx} {H H':aD} {s:VS} {ta:aE} {n fl:Nat} {ops:Array Oper}
theorem uC (hr:Rel F0 H0 c s ta H):∀ {rs:List ResultVar} {K:List VV->Prop},GH G s rs K->∃ vs azz,K vs/\All2 (R2 c) vs azz/\bV G.P ta H rs=some azz
 | [],K,h=>⟨[],[],h,.nil,rfl⟩
 | .tmp d::rs,K,h=>by
   obtain⟨vs,azz,h1,h2,h3⟩:=uC hr (rs:=rs) h
   exact⟨_,_,h1,.cons (hr.2.2 d) h2,by simp only[bV,iU,h3]⟩
 | .cell d ty::rs,K,h=>by
   unfold GH at h
   split at h
   ·rename_i i off he
    split at h
    ·rename_i cs fr hg
     have hd:=hr.2.2 d
     rw[he]at hd
     obtain⟨b,cs',fr',k1,k2,k3⟩:=wC hd
     have hi:=cV hg (by intro e;cases e)
     rw[hr.1,hi]at k1;cases k1
     obtain⟨b',azz,m1,m2,m3,_⟩:=(hr.2.1.obj i _ (by rw[hr.1];exact hi)).box _ _ rfl
     rw[k2]at m1;cases m1
     obtain⟨v,a,g1,g2,g3⟩:=oX (es:=0) (ex:=true) (al:=true) m3 h
     obtain⟨vs,as',h1,h2,h3⟩:=uC hr (rs:=rs) g1
     exact⟨_,_,h1,.cons (rD g2) h2,by simp only[bV,iU,k3,vX m2 g3,h3]⟩
    ·exact h.elim
   ·exact h.elim
def Left (c:Ctx)(h:List VO)(used:List Nat):Prop:=∀ i q t l fr,aP h i = .lst q t l fr->i∉used/\c.h[i]? = some (.lst q t l fr)
theorem Left.use {h:List VO}{used:List Nat}(hl:Left c h used)(i:Nat):Left c (h.set i (.dead false)) (used++[i]):=by
 intro j q t l fr e
 have hji:j≠i:=by
  intro e2
  subst e2
  unfold aP at e
  grind
 have e3:aP h j = .lst q t l fr:=by
  rw[<- e]
  unfold aP
  grind
 obtain⟨h1,h2⟩:=hl j q t l fr e3
 grind
theorem XR.app {l:List VV}{is:List Nat}{azz:List Value}(h:XR c l is azz):∀ {m:List VV} {js:List Nat} {bs:List Value},XR c m js bs->XR c (l++m) (is++js) (azz++bs):=by
 induction h with
 | nil=>intro m js bs k;exact k
 | pl h t ih=>intro m js bs k;exact .pl h (ih k)
 | nw h t ih=>intro m js bs k;exact .nw h (ih k)
 | nl t ih=>intro m js bs k;exact .nl (ih k)
 | al h t ih=>intro m js bs k;exact .al h (ih k)
 | er h t ih=>intro m js bs k;exact .er h (ih k)
theorem DD:∀ (T:Ty) {cs:List VV} {azz:List Value} {h:List VO} {used:List Nat} {K:T.den->List VV->List VO->Prop},All2 (RL c) cs azz->Left c h used->used.Nodup->xp T cs h K ->
 ∃ x r h' is a1 a2,K x r h'/\azz=a1++a2/\XR c (aDF T x) is a1/\All2 (RL c) r a2/\Left c h' (used++is)/\(used++is).Nodup:=by
 intro T
 induction T with
 | int k =>
   intro cs azz h used K hr hl hn hx
   unfold xp at hx
   split at hx
   ·split at hx
    ·rename_i e;subst e
     cases hr with
     | cons hr t=>obtain⟨rfl,hp⟩:=hr;exact⟨_,_,h,[],[_],_,hx,rfl,.pl hp .nil,t,by rw[bJ];exact hl,by rw[bJ];exact hn⟩
    ·exact hx.elim
   ·exact hx.elim
 | bool =>
   intro cs azz h used K hr hl hn hx
   unfold xp at hx
   split at hx
   ·cases hr with
    | cons hr t=>obtain⟨rfl,hp⟩:=hr;exact⟨_,_,h,[],[_],_,hx,rfl,.pl hp .nil,t,by rw[bJ];exact hl,by rw[bJ];exact hn⟩
   ·exact hx.elim
 | str =>
   intro cs azz h used K hr hl hn hx
   unfold xp at hx
   split at hx
   ·cases hr with
    | cons hr t=>obtain⟨rfl,hp⟩:=hr;exact⟨_,_,h,[],[_],_,hx,rfl,.pl hp .nil,t,by rw[bJ];exact hl,by rw[bJ];exact hn⟩
   ·exact hx.elim
 | flt =>
   intro cs azz h used K hr hl hn hx
   unfold xp at hx
   split at hx
   ·cases hr with
    | cons hr t=>obtain⟨rfl,hp⟩:=hr;exact⟨_,_,h,[],[_],_,hx,rfl,.pl hp .nil,t,by rw[bJ];exact hl,by rw[bJ];exact hn⟩
   ·exact hx.elim
 | cpx =>
   intro cs azz h used K hr hl hn hx
   unfold xp at hx
   split at hx
   ·cases hr with
    | cons hr t=>obtain⟨rfl,hp⟩:=hr;exact⟨_,_,h,[],[_],_,hx,rfl,.pl hp .nil,t,by rw[bJ];exact hl,by rw[bJ];exact hn⟩
   ·exact hx.elim
 | slc T ih =>
   intro cs azz h used K hr hl hn hx
   unfold xp at hx
   split at hx
   ·rename_i i r
    split at hx
    ·rename_i t' l hg
     obtain⟨e,hx⟩:=Ty.at_inv hx
     subst e
     obtain⟨k1,k2⟩:=hl i _ _ _ _ hg
     cases hr with
     | cons hr t =>
       have ha:=pJ (c:=c) (show R2 c (.own i) _ from hr) k2
       subst ha
       exact⟨_,_,_,[i],[_],_,hx,rfl,.nw k2 .nil,t,hl.use i,by
        rw[LQ]
        exact⟨hn,by simp,fun a ha b hb e=>k1 (by rw[nN]at hb;subst hb;subst e;exact ha)⟩⟩
    ·exact hx.elim
   ·cases hr with
    | cons hr t=>obtain⟨rfl,hp⟩:=hr;exact⟨_,_,h,[],[_],_,hx,rfl,.nl .nil,t,by rw[bJ];exact hl,by rw[bJ];exact hn⟩
   ·exact hx.elim
 | ref T ih =>
   intro cs azz h used K hr hl hn hx
   exact hx.elim
 | unit =>
   intro cs azz h used K hr hl hn hx
   exact⟨(),cs,h,[],[],azz,hx,rfl,.nil,hr,by rw[bJ];exact hl,by rw[bJ];exact hn⟩
 | pair A B iha ihb =>
   intro cs azz h used K hr hl hn hx
   unfold xp at hx
   obtain⟨x,r,h1,is,a1,a2,k1,rfl,k3,k4,k5,k6⟩:=iha hr hl hn hx
   obtain⟨y,r',h2,js,b1,b2,g1,rfl,g3,g4,g5,g6⟩:=ihb k4 k5 k6 k1
   exact⟨(x,y),r',h2,is++js,a1++b1,b2,g1,by rw[bM],k3.app g3,g4,by rw[<- bM];exact g5,by rw[<- bM];exact g6⟩
theorem XR.len {l:List VV}{is:List Nat}{azz:List Value}(h:XR c l is azz):l.length=azz.length:=by
 induction h with
 | nil=>rfl
 | pl h t ih=>simp[ih]
 | nw h t ih=>simp[ih]
 | nl t ih=>simp[ih]
 | al h t ih=>simp[ih]
 | er h t ih=>simp[ih]
theorem aGt {F0:Fz}{H0:Base}{H:aD}(hok:Ok F0 H0 c H){i:Nat}{q:Bool}{T:Ty}{l:List T.den}{a:Value}(hi:c.h[i]? = some (.lst q T l true))(h:RL c (.own i) a):RL c (.fz false T l) a:=by
 have ha:a=sl (c.ρ i) l.length:=pJ (c:=c) h hi
 refine⟨_,_,ha,?_⟩
 have hlst:=(hok.obj i _ hi).lst _ _ _ _ rfl
 have hext:(cA q c.n0 c.F).ext (cA false c.n0 c.F):=jJ (fun e=>by cases e)
 cases hb:c.ρ i with
 | none =>
   have:=hlst.1 hb
   subst this
   exact⟨aF _,.inl rfl⟩
 | some b =>
   obtain⟨azz,ex,k1,k2,k3,_⟩:=hlst.2 b hb
   refine(k2.mono hext).slice (b:=b) (B:=⟨azz,T.w,ex,true⟩) rfl ?_ (.inr rfl)
   unfold cA
   rw[aC (by simp)]
   exact k3 rfl
theorem NJ (T:Ty){cs:List VV}{azz:List Value}{h:List VO}{used:List Nat}{K:List T.den->List VV->List VO->Prop}(hr:All2 (RL c) cs azz)(hl:Left c h used)(hn:used.Nodup)(hx:xpA .z (.slc T) cs h K) :
 ∃ x r h' is a a2,K x r h'/\azz=[a]++a2/\XR c [.nw T x] is [a]/\(x=[]->a = .slice none 0 0)/\All2 (RL c) r a2/\Left c h' (used++is)/\(used++is).Nodup:=by
 unfold xpA at hx
 split at hx
 ·rename_i i r
  split at hx
  ·rename_i t' l hg
   obtain⟨e,hx⟩:=Ty.at_inv hx
   subst e
   obtain⟨hne,hx⟩:=hx
   obtain⟨k1,k2⟩:=hl i _ _ _ _ hg
   cases hr with
   | cons hr t =>
     have ha:=pJ (c:=c) (show R2 c (.own i) _ from hr) k2
     subst ha
     exact⟨_,_,_,[i],_,_,hx,rfl,.nw k2 .nil,fun e=>absurd e hne,t,hl.use i,by
      rw[LQ]
      exact⟨hn,by simp,fun a ha b hb e=>k1 (by rw[nN]at hb;subst hb;subst e;exact ha)⟩⟩
  ·exact hx.elim
 ·cases hr with
  | cons hr t=>obtain⟨rfl,hp⟩:=hr;exact⟨_,_,h,[],_,_,hx,rfl,.nl .nil,fun _=>rfl,t,by rw[bJ];exact hl,by rw[bJ];exact hn⟩
 ·exact hx.elim
theorem NS {F0:Fz}{H0:Base}{H:aD}(hok:Ok F0 H0 c H):∀ (al:Al) (T:Ty) {cs:List VV} {azz:List Value} {h:List VO} {used:List Nat} {K:T.den->List VV->List VO->Prop},All2 (RL c) cs azz->Left c h used->used.Nodup->xpA al T cs h K ->
 ∃ x r h' is a1 a2,K x r h'/\azz=a1++a2/\XR c (QE al T x) is a1/\All2 (RL c) r a2/\Left c h' (used++is)/\(used++is).Nodup:=by
 intro al
 induction al with
 | n=>intro T cs azz h used K hr hl hn hx;cases T <;> exact DD _ hr hl hn hx
 | f =>
   intro T cs azz h used K hr hl hn hx
   cases T with
   | slc T =>
     have fin:∀ {v:VV} {r:List VV} {l:List T.den},All2 (RL c) (v::r) azz->(∀ a,RL c v a->RL c (.fz false T l) a)->K l r h->∃ x r h' is a1 a2,K x r h'/\azz=a1++a2/\XR c (QE .f (.slc T) x) is a1/\All2 (RL c) r a2/\Left c h' (used++is)/\(used++is).Nodup:=by
      intro v r l hrr hv hk
      cases hrr with
      | cons h1 t=>exact⟨_,_,h,[],[_],_,hk,rfl,.al (hv _ h1) .nil,t,by rw[bJ];exact hl,by rw[bJ];exact hn⟩
     unfold xpA at hx
     split at hx
     ·obtain⟨e,hx⟩:=Ty.at_inv hx
      subst e
      exact fin hr (fun a=>fzA) hx
     ·split at hx
      ·rename_i hg
       obtain⟨e,hx⟩:=Ty.at_inv hx
       subst e
       cases hr with
       | cons hr t =>
         have hi:c.h[_]? = _:=(hl _ _ _ _ _ hg).2
         exact fin (.cons hr t) (fun a hra=>aGt hok hi hra) hx
      ·exact hx.elim
     ·exact fin hr (fun a ha=>by obtain⟨rfl,_⟩:=ha;exact⟨none,_,rfl,⟨eJ _,.inl rfl⟩⟩) hx
     ·exact hx.elim
   | _=>exact DD _ hr hl hn hx
 | z =>
   intro T cs azz h used K hr hl hn hx
   cases T with
   | slc T =>
     obtain⟨x,r,h',is,a,a2,k1,k2,k3,_,k4,k5,k6⟩:=NJ T hr hl hn hx
     exact⟨x,r,h',is,[a],a2,k1,k2,k3,k4,k5,k6⟩
   | _=>exact DD _ hr hl hn hx
 | p x y ihx ihy =>
   intro T cs azz h used K hr hl hn hx
   cases T with
   | pair A B =>
     unfold xpA at hx
     obtain⟨u,r,h1,is,a1,a2,k1,rfl,k3,k4,k5,k6⟩:=ihx A hr hl hn hx
     obtain⟨v,r',h2,js,b1,b2,g1,rfl,g3,g4,g5,g6⟩:=ihy B k4 k5 k6 k1
     exact⟨(u,v),r',h2,is++js,a1++b1,b2,g1,by rw[bM],k3.app g3,g4,by rw[<- bM];exact g5,by rw[<- bM];exact g6⟩
   | _=>exact DD _ hr hl hn hx
theorem aBm {v:VV}{a:Value}(hv:okL v=true)(h:R2 c v a):RL c v a:=by
 cases v <;> first|exact h|cases hv
theorem R3 {F0:Fz}{H0:Base}{H:aD}(hok':Ok F0 H0 c H):∀ (rt:CG) (al:List Al) {vs:List VV} {azz:List Value} {h:List VO} {used:List Nat} {K:UU rt->Prop},All2 (R2 c) vs azz->Left c h used->used.Nodup->IM rt al vs h K ->
 ∃ x is,K x/\XZ c (f5 rt al x) is azz/\(used++is).Nodup:=by
 intro rt
 induction rt with
 | nil =>
   intro al vs azz h used K hr hl hn hx
   unfold IM at hx
   split at hx
   ·cases hr;exact⟨(),[],hx,.nil,by rw[bJ];exact hn⟩
   ·exact hx.elim
 | cons p rt ih =>
   obtain⟨g,T⟩:=p
   intro al vs azz h used K hr hl hn hx
   unfold IM at hx
   split at hx
   ·rename_i v r
    split at hx
    ·rename_i hg
     cases hr with
     | cons hv t =>
       rename_i a azz
       cases g with
       | true =>
         cases v with
         | agg l =>
           obtain⟨bs,rfl,h2⟩:=JS hv
           obtain⟨x,left,h1,is,a1,a2,k1,k2,k3,k4,k5,k6⟩:=NS hok' (al.headD .n) T h2 hl hn hx
           split at k1
           ·cases k4
            rw[bJ]at k2
            subst k2
            obtain⟨y,js,g1,g2,g3⟩:=ih al.tail t k5 k6 k1
            refine⟨(x,y),is++js,g1,?_,by rw[<- bM];exact g3⟩
            have e0:zmk true (al.headD .n) T=[]:=by cases al.headD .n <;> rfl
            show XZ c ((true,QE (al.headD .n) T x++zmk true (al.headD .n) T)::f5 rt al.tail y) _ _
            rw[e0,bJ]
            have:=XZ.s (XS.agg k3 .nil) g2
            rwa [bJ]at this
           ·exact k1.elim
         | _=>cases hg.1
       | false =>
         have hok:okL v=true:=hg.2.resolve_left (by simp)
         have hleaf:=aBm hok hv
         have hvc:c8 v=[v]:=by cases v <;> first|rfl|cases hok
         rw[hvc]at hx
         by_cases hzz:∃ T',al.headD .n = .z/\T = .slc T'
         ·obtain⟨T',e1,rfl⟩:=hzz
          rw[e1]at hx
          obtain⟨x,left,h1,is,a1,a2,k1,k2,k3,kz,k4,k5,k6⟩:=NJ T' (.cons hleaf .nil) hl hn hx
          split at k1
          ·cases k4
           cases k2
           obtain⟨y,js,g1,g2,g3⟩:=ih al.tail t k5 k6 k1
           refine⟨(x,y),is++js,g1,?_,by rw[<- bM];exact g3⟩
           show XZ c ((false,QE (al.headD .n) (.slc T') x++zmk false (al.headD .n) (.slc T'))::f5 rt al.tail y) _ _
           rw[e1]
           exact .z k3 kz g2
          ·exact k1.elim
         have e0:zmk false (al.headD .n) T=[]:=by
          cases e1:al.headD .n <;> cases T <;> first|rfl|exact absurd ⟨_,e1,rfl⟩ hzz
         obtain⟨x,left,h1,is,a1,a2,k1,k2,k3,k4,k5,k6⟩:=NS hok' (al.headD .n) T (.cons hleaf .nil) hl hn hx
         split at k1
         ·cases k4
          rw[bJ]at k2
          subst k2
          obtain⟨y,js,g1,g2,g3⟩:=ih al.tail t k5 k6 k1
          have hlen:=k3.len
          match he:QE (al.headD .n) T x with
          | [z] =>
            rw[he]at k3
            refine⟨(x,y),is++js,g1,?_,by rw[<- bM];exact g3⟩
            show XZ c ((false,QE (al.headD .n) T x++zmk false (al.headD .n) T)::f5 rt al.tail y) _ _
            rw[e0,he,bJ]
            have:=XZ.s (XS.one k3 .nil) g2
            rwa [bJ]at this
          | []=>rw[he]at hlen;simp at hlen
          | _::_::_=>rw[he]at hlen;simp at hlen
         ·exact k1.elim
    ·exact hx.elim
   ·exact hx.elim
theorem WC (args:List Value):∀ d,start args.toArray d=args.getD d undef:=by
 intro d
 unfold start
 rw[nT,cH]
 simp
theorem N4 {R:VV->Value->Prop}(hu:∀ a,R .undef a):∀ {vs:List VV} {azz:List Value} (k:Nat),All2 R vs azz->∀ d,k<=d->R (bQ (CX (List.range' k vs.length) vs) d) (azz.getD (d-k) undef)
 | [],[],k,.nil,d,_=>hu _
 | v::vs,a::azz,k,.cons h t,d,hd=>by
   show R (if k=d then v else bQ (CX (List.range' (k+1) vs.length) vs) d) _
   by_cases e:k=d
   ·rw[aA e,show d-k=0 by omega];exact h
   ·rw[aC e,show d-k=(d-(k+1))+1 by omega,List.getD_cons_succ]
    exact N4 hu (k+1) t d (by omega)
theorem JY {vs:List VV}{azz:List Value}(h:All2 (R2 c) vs azz):Tok c (lS vs) (start azz.toArray):=by
 intro d
 rw[WC]
 unfold lS
 rw[List.range_eq_range']
 have:=N4 (R:=R2 c) (fun _=>trivial) 0 h d (eJ _)
 rwa [Nat.sub_zero]at this
theorem yH (F:Fz)(H:aD)(hs:Nat->Value->Prop)(hF:∀ b B,F b=some B->blk? H b=some B):Ok F (bs H) (sR F H hs) H where
 n0:=rfl
 pre:=PreB.refl H
 fz:=hF
 low:=fun b _=>rfl
 obj:=fun i o h=>by simp[sR]at h
 inj:=fun i j b _ h=>by cases h
 bj:=fun i j b _ _ h=>by cases h
 dom:=fun _ _=>rfl
theorem WI {ct:Tab}{en:nJ}{f:FuncId}{fn:Func}{cd:Code}{rt:CG}(al:List Al){args:List VV}{Q:List (Bool×List VV)->Prop}
 (hf:G.P.funcs[f]? = some fn) (hb:bod fn=some cd) (hfo:okF f fn cd=true) (hsz:args.length<=fn.ntmps) (htab:NX G ct en cd) (hO:∀ f args Q,G.O f args Q->fH G.P f args Q) (hI:∀ J,G.I=some J->fB G.P J)
 (hv:U3 G ct en fn cd rt al args fun r=>Q (f5 rt al r)):fH G.P f args Q:=by
 intro F fl H azz hF hfl ha
 refine aC5 hf hb hfo (by simp;rw[<- ha.len];exact hsz) ?_
 have hco:bD fn.ntmps cd=true:=by
  have hfo:=HS hfo
  unfold q7 at hfo
  simp only[aH]at hfo
  exact hfo.1.1
 have hr:qO F (bs H) tP ⟨lS args,[]⟩ (start azz.toArray) H:=⟨sR F H tP,rfl,rfl,yH F H tP hF,JY ha⟩
 have he:aEr G (bs H) tP fl:=⟨hO,Fl.bs hfl,hI⟩
 unfold U3 at hv
 have key:∃ s',qO F (bs H) tP s' (start azz.toArray) H/\vwp G ct en cd 1 s' (fun e s=>match e with
  | .normal | .ret=>GH G s fn.results.toList fun vs=>IM rt al vs s.h fun r=>Q (f5 rt al r)
  | _=>False):=by
  unfold rK at hv
  split at hv
  ·rename_i E hE
   obtain⟨y,h1,h2⟩:=AN hr hv
   exact⟨_,h2,(htab 1 E hE 1 cd rfl y _ h1).it⟩
  ·exact⟨_,hr,hv⟩
 obtain⟨s',hr',hv'⟩:=key
 refine MZ (n:=fn.ntmps) he htab cd 1 (aF _) ⟨1,rfl⟩ hco hr' hv' ?_
 intro e s2 ta2 H2 hr2 hk
 have fin:(GH G s2 fn.results.toList fun vs=>IM rt al vs s2.h fun r=>Q (f5 rt al r))->∃ vs,bV G.P ta2 H2 fn.results.toList=some vs/\∃ sl,Q sl/\aE2 F H H2 sl (iE vs):=by
  intro hk
  obtain⟨c2,hc2,hrel⟩:=hr2
  obtain⟨vs,as2,h1,h2,h3⟩:=uC hrel hk
  obtain⟨x,is,g1,g2,g3⟩:=R3 hrel.2.1 rt al (h:=s2.h) (used:=[]) h2 (fun i q t l fr e=>⟨by simp,by rw[hrel.1];exact cV e (by intro e;cases e)⟩) List.nodup_nil h1
  exact⟨as2,h3,_,g1,.inl ⟨c2,is,as2,hrel.2.1,g2,by simpa using g3,rfl⟩⟩
 cases e with
 | normal=>exact fin hk
 | ret=>exact fin hk
 | _=>exact hk.elim
theorem M8:∀ (a b:List (Nat×VV)) (i:Nat),bQ (a++b) i=if (a.any fun p=>p.1==i)=true then bQ a i else bQ b i
 | [],b,i=>by simp
 | (d,v)::a,b,i=>by
   show(if d=i then v else bQ (a++b) i)=_
   by_cases e:d=i
   ·rw[aA e,aA (by simp[e])]
    show v=if d=i then v else bQ a i
    rw[aA e]
   ·rw[aC e,M8 a b i]
    have h1:((d,v)::a).any (fun p=>p.1==i)=a.any fun p=>p.1==i:=by simp[e]
    rw[h1]
    show _=if _ then(if d=i then v else bQ a i)else _
    rw[aC e]
theorem KJ:∀ (a:List (Nat×VV)) (i:Nat),(a.any fun p=>p.1==i)=false->bQ a i = .undef
 | [],_,_=>rfl
 | (d,v)::a,i,h=>by
   simp only[List.any_cons,ER,beq_eq_false_iff_ne]at h
   show(if d=i then v else bQ a i)=_
   rw[aC h.1]
   exact KJ a i h.2
theorem E7 (n:Nat):∀ (a:List (Nat×VV)) (i:Nat),bQ (wX n a) (i+n)=bQ a i
 | [],_=>rfl
 | (d,v)::a,i=>by
   show(if d+n=i+n then v else bQ (wX n a) (i+n))=if d=i then v else bQ a i
   rw[E7 n a i]
   by_cases e:d=i
   ·rw[aA e,aA (by omega)]
   ·rw[aC e,aC (by omega)]
theorem xF (n:Nat):∀ (a:List (Nat×VV)) (i:Nat),i<n->bQ (wX n a) i = .undef
 | [],_,_=>rfl
 | (d,v)::a,i,h=>by
   show(if d+n=i then v else bQ (wX n a) i)=_
   rw[aC (by omega)]
   exact xF n a i h
theorem TO (args:List VV):∀ i,((lS args).any fun p=>p.1==i)=true->i<args.length:=by
 intro i h
 rw[List.any_eq_true]at h
 obtain⟨p,hp,hi⟩:=h
 have:∀ (ks:List Nat) (vs:List VV) (p:Nat×VV),p∈CX ks vs->p.1∈ks:=by
  intro ks
  induction ks with
  | nil=>intro vs p hp;cases vs <;> simp[CX]at hp
  | cons k ks ih =>
    intro vs p hp
    cases vs with
    | nil=>simp[CX]at hp
    | cons v vs =>
      simp only[CX,DY]at hp
      grind
 have h2:=this _ _ _ hp
 grind
theorem aEq {v:VV}{a:Value}(hv:r1B v=true)(h:R2 c v a):R1 c v a:=by
 cases v <;> first|exact h|cases hv
theorem XI:∀ {vs:List VV} {azz:List Value},vs.all r1B=true->All2 (R2 c) vs azz->All2 (R1 c) vs azz
 | [],_,_,.nil => .nil
 | _::_,_,hv,.cons h t=>by
   simp only[List.all_cons,aH]at hv
   exact .cons (aEq hv.1 h) (XI hv.2 t)
theorem DC {P:Program}{t t2:aE}{m:Nat}:∀ {rs:List ResultVar},(rs.all fun | .tmp d=>d<m | .cell d _=>d<m)=true->Agree m t t2->bV P t H rs=bV P t2 H rs
 | [],_,_=>rfl
 | r::rs,h,ha=>by
   simp only[List.all_cons,aH]at h
   simp only[bV]
   rw[DC h.2 ha]
   cases r with
   | tmp d=>simp only[iU];rw[ha d (tX h.1)]
   | cell d ty=>simp only[iU];rw[ha d (tX h.1)]
theorem ZR {ct:Tab}{en:nJ}{f:FuncId}{fn:Func}{cd:Code}{rt:CG}(al:List Al){args:List VV}{Q:List (Bool×List VV)->Prop}{R:Prop}
 (hf:G.P.funcs[f]? = some fn) (hb:bod fn=some cd) (hfo:okF f fn cd=true) (hsz:args.length<=fn.ntmps) (htab:NX G ct en cd) (hO:∀ f args Q,G.O f args Q->fH G.P f args Q) (hI:∀ J,G.I=some J->fB G.P J)
 (h:R) (e:(U3 G ct en fn cd rt al args fun r=>Q (f5 rt al r))=R):fH G.P f args Q :=
 WI al hf hb hfo hsz htab hO hI (e.symm▸h)
theorem aB9 {ct:Tab}{en:nJ}{cd:Code}{m:Nat}{s:VS}{k:bE->VS->Prop}{R:Prop}(h:R)(e:vwp G ct en cd m s k=R):Tl (vwp G ct en cd m s k):=⟨e.symm▸h⟩
theorem Loop.map {S S':Type}{σ:S->S'}{B:S->(S->Prop)->Prop}{B':S'->(S'->Prop)->Prop}(h:∀ s X,B s (fun s=>X (σ s))->B' (σ s) X){s:S}(hl:Loop B s):Loop B' (σ s) :=
 fun X hX=>hl (fun s=>X (σ s)) fun s hs=>hX _ (h s X hs)
theorem Loop.inv {S:Type}{B:S->(S->Prop)->Prop}(I:Nat->S->Prop){n:Nat}{s:S}(h0:I n s)(step:∀ n s X,I n s->(∀ m s',m<n->I m s'->X s')->B s X):Loop B s:=by
 intro X hX
 have:∀ n s,I n s->X s:=by
  intro n
  induction n using Nat.strongRecOn with
  | _ n ih=>grind
 exact this n s h0
theorem aBj {S:Type}{ct:Tab}{en:nJ}{m:Nat}{s:VS}{k:bE->VS->Prop}{cd b:Code}(hu:G.un=0)(hc:cd = .loop b)(σ:S->VS)(y0:S){B:S->(S->Prop)->Prop}(hs:sA en m s=σ y0)
 (hB:∀ y X,LB k en m (rK ct (2*m) (vwp G ct en b (2*m))) (σ y) X=B y fun y=>X (σ y)) (h:Loop B y0):Tl (vwp G ct en cd m s k):=by
 subst hc
 refine⟨?_⟩
 simp only[vwp,hu]
 rw[hs]
 exact Loop.map (fun y X hb=>by rw[hB];exact hb) h
theorem NG {S:Type}{ct:Tab}{en:nJ}{f m:Nat}{s:VS}{k:bE->VS->Prop}{root c:Code}(hu:G.un=0)(hs:gS f root m=some c)(hc:gS 70 root m=some (.loop ((gS 70 root (2*m)).getD .skip)))(σ:S->VS)(y0:S){B:S->(S->Prop)->Prop}(h1:sA en m s=σ y0)
 (h2:∀ y X,LB k en m (rK ct (2*m) (vwp G ct en ((gS 70 root (2*m)).getD .skip) (2*m))) (σ y) X=B y fun y=>X (σ y)) (h:Loop B y0):Tl (vwp G ct en c m s k) :=
 aBj hu (TS hs hc) σ y0 h1 h2 h
theorem ZF {ct:Tab}{en:nJ}{f m:Nat}{s:VS}{k:bE->VS->Prop}{root c:Code}(hs:gS f root m=some c){R:Prop}(hc:gS 70 root m=some ((gS 70 root m).getD .skip))(e:vwp G ct en ((gS 70 root m).getD .skip) m s k=R)(h:R):Tl (vwp G ct en c m s k):=by
 have:=TS hs hc
 subst this
 exact aB9 h e
theorem WK {c:Ctx}{x:Lf}{v:VV}{a:Value}{K:x.den->Prop}(hr:R2 c v a)(h:B8 x v K):∃ d,K d/\R2 c (E8 x d) a:=by
 unfold B8 at h
 split at h
 ·split at h
  ·obtain⟨e,h⟩:=Ty.at_inv h
   subst e
   exact⟨_,h,hr⟩
  ·obtain⟨rfl,_⟩:=cY hr
   exact⟨[],h,none,_,rfl,⟨eJ _,.inl rfl⟩⟩
  ·exact h.elim
 ·obtain⟨d,rfl,h1⟩:=tW h
  exact⟨d,h1,hr⟩
theorem FK {c:Ctx}{x:Lf}{v:VV}{a:Value}{K:x.den->Prop}(hr:RL c v a)(h:B8 x v K):∃ d,K d/\RL c (E8 x d) a:=by
 unfold B8 at h
 split at h
 ·split at h
  ·obtain⟨e,h⟩:=Ty.at_inv h
   subst e
   exact⟨_,h,hr⟩
  ·obtain⟨rfl,_⟩:=hr
   exact⟨[],h,none,_,rfl,⟨eJ _,.inl rfl⟩⟩
  ·exact h.elim
 ·obtain⟨d,rfl,h1⟩:=tW h
  exact⟨d,h1,hr⟩
theorem qN {c:Ctx}:∀ {l:List Lf} {vs:List VV} {azz:List Value} {K:KY l->Prop},All2 (RL c) vs azz->TK l vs K->∃ d,K d/\All2 (RL c) (F6 l d) azz
 | [],vs,azz,K,hr,h=>by
   unfold TK at h
   split at h
   ·exact⟨(),h,hr⟩
   ·exact h.elim
 | x::l,vs,azz,K,hr,h=>by
   unfold TK at h
   split at h
   ·cases hr with
    | cons hr t =>
      obtain⟨a,h1,h2⟩:=FK hr h
      obtain⟨b,h3,h4⟩:=qN t h1
      exact⟨(a,b),h3,.cons h2 h4⟩
   ·exact h.elim
theorem QZ {c:Ctx}{x:Lf}{v:VV}{a:Value}{K:x.den->Prop}(hr:R1 c v a)(h:B8 x v K):∃ d,K d/\R1 c (E8 x d) a:=by
 have:∃ d,K d/\RL c (E8 x d) a:=by
  refine FK ?_ h
  cases v <;> first|exact hr|skip
  ·exfalso
   cases x <;> simp[B8,unF,I7,JE]at h
   rename_i o t;cases o <;> simp[B8,unF]at h
  ·exfalso
   cases x <;> simp[B8,unF,I7,JE]at h
   rename_i o t;cases o <;> simp[B8,unF]at h
  ·exfalso
   cases x <;> simp[B8,unF,I7,JE]at h
   rename_i o t;cases o <;> simp[B8,unF]at h
 obtain⟨d,k1,k2⟩:=this
 exact⟨d,k1,FU k2⟩
theorem SZ {c:Ctx}{x:Cp}{v:VV}{a:Value}{K:x.den->Prop}(hr:R1 c v a)(h:aAk x v K):∃ d,K d/\R1 c (UE x d) a:=by
 unfold aAk at h
 split at h
 ·exact QZ hr h
 ·split at h
  ·obtain⟨azz,h1,h2⟩:=hr
   obtain⟨d,k1,k2⟩:=qN h2 h
   exact⟨d,k1,azz,h1,k2⟩
  ·exact h.elim
 ·split at h
  ·obtain⟨b,B,h1,h2,h3⟩:=hr
   obtain⟨d,k1,k2⟩:=qN h3 h
   exact⟨d,k1,b,B,h1,h2,k2⟩
  ·exact h.elim
theorem JN {c:Ctx}:∀ {l:List Cp} {vs:List VV} {azz:List Value} {K:VU l->Prop},All2 (R1 c) vs azz->aBV l vs K->∃ d,K d/\All2 (R1 c) (XK l d) azz
 | [],vs,azz,K,hr,h=>by
   unfold aBV at h
   split at h
   ·exact⟨(),h,hr⟩
   ·exact h.elim
 | x::l,vs,azz,K,hr,h=>by
   unfold aBV at h
   split at h
   ·cases hr with
    | cons hr t =>
      obtain⟨a,h1,h2⟩:=SZ hr h
      obtain⟨b,h3,h4⟩:=JN t h1
      exact⟨(a,b),h3,.cons h2 h4⟩
   ·exact h.elim
theorem Q5 {c:Ctx}{x:Sh}{v:VV}{a:Value}{K:x.den->Prop}(hr:R2 c v a)(h:aCX x v K):∃ d,K d/\R2 c (UM x d) a:=by
 unfold aCX at h
 split at h
 ·exact WK hr h
 ·split at h
  ·obtain⟨azz,rfl,h2⟩:=JS hr
   obtain⟨d,k1,k2⟩:=qN h2 h
   exact⟨d,k1,azz,rfl,k2⟩
  ·exact h.elim
 ·split at h
  ·obtain⟨b,B,rfl,h2,h3⟩:=X9 hr
   obtain⟨d,k1,k2⟩:=qN h3 h
   exact⟨d,k1,b,B,rfl,h2,k2⟩
  ·exact h.elim
 ·split at h
  ·split at h
   ·rename_i e
    subst e
    obtain⟨azz,e1,h2⟩:=hr
    obtain⟨d,k1,k2⟩:=JN h2 h
    exact⟨d,k1,azz,e1,k2⟩
   ·exact h.elim
  ·exact h.elim
theorem NW {c:Ctx}:∀ {l:List Sh} {vs:List VV} {azz:List Value} {K:jK l->Prop},All2 (R2 c) vs azz->unA l vs K->∃ d,K d/\All2 (R2 c) (jS l d) azz
 | [],vs,azz,K,hr,h=>by
   unfold unA at h
   split at h
   ·exact⟨(),h,hr⟩
   ·exact h.elim
 | x::l,vs,azz,K,hr,h=>by
   unfold unA at h
   split at h
   ·cases hr with
    | cons hr t =>
      obtain⟨a,h1,h2⟩:=Q5 hr h
      obtain⟨b,h3,h4⟩:=NW t h1
      exact⟨(a,b),h3,.cons h2 h4⟩
   ·exact h.elim
theorem T6 {P:Program}{O:FuncId->List VV->(List (Bool×List VV)->Prop)->Prop}(hO:∀ f args Q,O f args Q->fH P f args Q){f0:FuncId}(sh:List Sh)(D:jK sh->(List (Bool×List VV)->Prop)->Prop)(hD:∀ x Q,D x Q->fH P f0 (jS sh x) Q) :
 ∀ f args Q,(if f=f0 then unA sh args (fun x=>D x Q)else O f args Q)->fH P f args Q:=by
 intro f args Q h
 by_cases e:f=f0
 ·rw[aA e]at h
  subst e
  intro F fl H azz hF hfl ha
  obtain⟨d,h1,h2⟩:=NW ha h
  exact hD d Q h1 F fl H azz hF hfl h2
 ·rw[aC e]at h
  exact hO f args Q h
theorem YX {P:Program}{O:FuncId->List VV->(List (Bool×List VV)->Prop)->Prop}(hO:∀ f args Q,O f args Q->fH P f args Q){f0:FuncId}(gs:List Nat)(sh:List Sh)(D:jK sh->(List (Bool×List VV)->Prop)->Prop)(hD:∀ x Q,D x Q->fH P f0 (jS sh x) Q) :
 ∀ f args Q,(if f=f0 then(if aEH (SI args) gs=true then unA sh args (fun x=>D x Q)else O f args Q)else O f args Q)->fH P f args Q:=by
 intro f args Q h
 by_cases e:f=f0
 ·rw[aA e]at h
  by_cases e2:aEH (SI args) gs=true
  ·rw[aA e2]at h
   exact T6 hO sh D hD f args Q (by rw[aA e];exact h)
  ·rw[aC e2]at h
   exact hO f args Q h
 ·rw[aC e]at h
  exact hO f args Q h
structure Tb (P:Program) where
 O:FuncId->List VV->QT->Prop
 ok:∀ f args Q,O f args Q->fH P f args Q
def Tb.none {P:Program}:Tb P:=⟨fun _ _ _=>False,fun _ _ _ h=>h.elim⟩
def Tb.add {P:Program}(t:Tb P)(f0:FuncId)(sh:List Sh){D:jK sh->QT->Prop}(hD:∀ x Q,D x Q->fH P f0 (jS sh x) Q):Tb P :=
 ⟨fun f args Q=>if f=f0 then unA sh args (fun x=>D x Q)else t.O f args Q,T6 t.ok sh D hD⟩
def Tb.addF {P:Program}(t:Tb P)(f0:FuncId)(gs:List Nat)(sh:List Sh){D:jK sh->QT->Prop}(hD:∀ x Q,D x Q->fH P f0 (jS sh x) Q):Tb P :=
 ⟨fun f args Q=>if f=f0 then(if aEH (SI args) gs=true then unA sh args (fun x=>D x Q)else t.O f args Q)else t.O f args Q,YX t.ok gs sh D hD⟩
@[reducible] def Tb.cfg {P:Program} (t:Tb P) (tt:TypeId->Option Ty) (I:Option Inl) (hv:Bool) (un:Nat):Cfg:=⟨P,tt,t.O,fun _ _ _=>False,I,hv,un⟩
theorem Tb.told {P:Program}(t:Tb P){tt:TypeId->Option Ty}{I:Option Inl}{hv:Bool}{un:Nat}{ct:Tab}{en:nJ}{f:FuncId}{fn:Func}{cd:Code}{rt:CG}(al:List Al){args:List VV}{Q:QT}{R:Prop}(hI:∀ J,I=some J->fB P J)(htab:NX (t.cfg tt I hv un) ct en cd)
 (hf:P.funcs[f]? = some fn) (hb:bod fn=some cd) (hfo:okF f fn cd=true) (hsz:args.length<=fn.ntmps) (h:R) (e:(U3 (t.cfg tt I hv un) ct en fn cd rt al args fun r=>Q (f5 rt al r))=R):fH P f args Q :=
 ZR (G:=t.cfg tt I hv un) al hf hb hfo hsz htab t.ok hI h e
theorem hI0 {P:Program}:∀ J,(Option.none:Option Inl)=some J->fB P J:=fun J h=>by cases h
theorem hI1 {P:Program}{K:Inl}(h:fB P K):∀ J,some K=some J->fB P J:=fun J e=>by cases e;exact h
abbrev bd (fn:Func):Code:=(bod fn).getD .skip
def lk:List (Nat×Ent)->Tab
 | []=>fun _ => .none
 | p::l=>fun n=>if n=p.1 then some p.2 else lk l n
def EOk (G:Cfg)(ct:Tab)(en:nJ)(root:Code)(p:Nat×Ent):Prop :=
 ∀ f c,gS f root p.1=some c->∀ x k,p.2.P x k->Tl (vwp G ct en c p.1 (OP p.2.live p.2.sh p.2.ob x) k)
def SV (G:Cfg)(ct:Tab)(en:nJ)(root:Code):List (Nat×Ent)->Prop
 | []=>True
 | p::l=>EOk G ct en root p/\SV G ct en root l
theorem aEf {G:Cfg}{ct:Tab}{en:nJ}{root:Code}:∀ {l:List (Nat×Ent)},SV G ct en root l->∀ n E,lk l n=some E->EOk G ct en root (n,E)
 | [],_,n,E,e=>by cases e
 | p::l,⟨h1,h2⟩,n,E,e=>by
   unfold lk at e
   split at e
   ·rename_i hn;subst hn;cases e;exact h1
   ·exact aEf h2 n E e
theorem aGW {G:Cfg}{en:nJ}{root:Code}{l:List (Nat×Ent)}(h:SV G (lk l) en root l):NX G (lk l) en root :=
 fun n E e f c hs x k hp=>aEf h n E e f c hs x k hp
theorem cP {G:Cfg}{S:Type}{ct:Tab}{en:nJ}{f m:Nat}{k:bE->VS->Prop}{root c:Code}{live:List Nat}{sh:List Sh}{ob:List OSh}{x:jK sh×B4 ob}(hs:gS f root m=some c)(u:S->jK sh×B4 ob)(y0:S){B:S->(S->Prop)->Prop}(h:Loop B y0)
 (hc:gS 70 root m=some (.loop ((gS 70 root (2*m)).getD .skip)):=by kernel_rfl) (h1:sA en m (OP live sh ob x)=OP live sh ob (u y0):=by kernel_rfl)
 (h2:∀ y X,LB k en m (rK ct (2*m) (vwp G ct en ((gS 70 root (2*m)).getD .skip) (2*m))) (OP live sh ob (u y)) X=B y fun y=>X (OP live sh ob (u y)):=by intros;kernel_rfl) (hu:G.un=0:=by rfl):Tl (vwp G ct en c m (OP live sh ob x) k) :=
 NG hu hs hc (fun y=>OP live sh ob (u y)) y0 h1 h2 h
theorem mA {G:Cfg}{S:Type}{ct:Tab}{en:nJ}{f m:Nat}{k:bE->VS->Prop}{root c:Code}{s:VS}(hs:gS f root m=some c)(σ:S->VS)(y0:S){B:S->(S->Prop)->Prop}(h:Loop B y0)
 (hc:gS 70 root m=some (.loop ((gS 70 root (2*m)).getD .skip)):=by kernel_rfl) (h1:sA en m s=σ y0:=by kernel_rfl)
 (h2:∀ y X,LB k en m (rK ct (2*m) (vwp G ct en ((gS 70 root (2*m)).getD .skip) (2*m))) (σ y) X=B y fun y=>X (σ y):=by intros;kernel_rfl) (hu:G.un=0:=by rfl):Tl (vwp G ct en c m s k) :=
 NG hu hs hc σ y0 h1 h2 h
theorem fQ {G:Cfg}{ct:Tab}{en:nJ}{f m:Nat}{s:VS}{k:bE->VS->Prop}{root c:Code}(hs:gS f root m=some c){R:Prop}(h:R)(hc:gS 70 root m=some ((gS 70 root m).getD .skip):=by kernel_rfl)(e:vwp G ct en ((gS 70 root m).getD .skip) m s k=R:=by kernel_rfl):Tl (vwp G ct en c m s k) :=
 ZF hs hc e h
@[reducible] def RD:CG->Type
  | []=>Unit
  | [p]=>p.2.den
  | p::q::l=>p.2.den×RD (q::l)
def RD.up:(rt:CG)->RD rt->UU rt
 | [],_=>()
 | [_],r=>(r,())
 | _::q::l,r=>(r.1,RD.up (q::l) r.2)
theorem DW:∀ (sh:List Sh) (x:jK sh),(jS sh x).length=sh.length
 | [],_=>rfl
 | _::l,x=>congrArg (· + 1) (DW l x.2)
theorem V8 {P:Program}(t:Tb P){tt:TypeId->Option Ty}{I:Option Inl}{hv:Bool}{un:Nat}{f:FuncId}{fn:Func}(hf:P.funcs[f]? = some fn){res:List Nat}{cos:List (Nat×List Co)}{l:List (Nat×Ent)}{sh:List Sh}{al:List Al}{rt:CG}{D:jK sh->(RD rt->Prop)->Prop}
 (hI:∀ J,I=some J->fB P J) (htab:SV (t.cfg tt I hv un) (lk l) (L9 (bd fn) res cos) (bd fn) l)
 (h:∀ x (Q:QT),D x (fun r=>Q (f5 rt al (RD.up rt r)))->∃ R:Prop,R/\(U3 (t.cfg tt I hv un) (lk l) (L9 (bd fn) res cos) fn (bd fn) rt al (jS sh x) fun r=>Q (f5 rt al r))=R)
 (hb:bod fn=some (bd fn)) (ho:okF f fn (bd fn)=true) (hs:Nat.ble sh.length fn.ntmps=true) (x:jK sh) (Q:QT) (hx:D x fun r=>Q (f5 rt al (RD.up rt r))):fH P f (jS sh x) Q:=by
 obtain⟨R,h1,e⟩:=h x Q hx
 exact t.told al hI (aGW htab) hf hb ho (by rw[DW];exact Nat.le_of_ble_eq_true hs) h1 e
def Tb.put {P:Program}(t:Tb P)(tt:TypeId->Option Ty)(f:FuncId){fn:Func}(hf:P.funcs[f]? = some fn)(res:List Nat)(cos:List (Nat×List Co))(l:List (Nat×Ent))(sh:List Sh)(al:List Al)(rt:CG)(D:jK sh->(RD rt->Prop)->Prop)
    (htab:SV (t.cfg tt .none false 0) (lk l) (L9 (bd fn) res cos) (bd fn) l)
    (h:∀ x (Q:QT),D x (fun r=>Q (f5 rt al (RD.up rt r)))->∃ R:Prop,R/\(U3 (t.cfg tt .none false 0) (lk l) (L9 (bd fn) res cos) fn (bd fn) rt al (jS sh x) fun r=>Q (f5 rt al r))=R)
    (hb:bod fn=some (bd fn):=by kernel_rfl) (ho:okF f fn (bd fn)=true:=by kernel_rfl) (hs:Nat.ble sh.length fn.ntmps=true:=by kernel_rfl):Tb P :=
 t.add f sh (V8 t hf hI0 htab h hb ho hs)
def Tb.putX {P:Program}(t:Tb P)(tt:TypeId->Option Ty)(f:FuncId){fn:Func}(hf:P.funcs[f]? = some fn)(res:List Nat)(cos:List (Nat×List Co))(l:List (Nat×Ent))(sh:List Sh)(al:List Al)(rt:CG)(D:jK sh->(RD rt->Prop)->Prop)(gs:List Nat)(I:Option Inl)(hv:Bool)(un:Nat)
    (hI:∀ J,I=some J->fB P J) (htab:SV (t.cfg tt I hv un) (lk l) (L9 (bd fn) res cos) (bd fn) l)
    (h:∀ x (Q:QT),D x (fun r=>Q (f5 rt al (RD.up rt r)))->∃ R:Prop,R/\(U3 (t.cfg tt I hv un) (lk l) (L9 (bd fn) res cos) fn (bd fn) rt al (jS sh x) fun r=>Q (f5 rt al r))=R)
    (hb:bod fn=some (bd fn):=by kernel_rfl) (ho:okF f fn (bd fn)=true:=by kernel_rfl) (hs:Nat.ble sh.length fn.ntmps=true:=by kernel_rfl):Tb P :=
 t.addF f gs sh (V8 t hf hI htab h hb ho hs)
end
end Go.Mach
