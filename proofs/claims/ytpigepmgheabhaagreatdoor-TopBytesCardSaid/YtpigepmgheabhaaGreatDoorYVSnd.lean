/- Part of the proof. No condition. -/
import Derived.Test.YtpigepmgheabhaaGreatDoorYVReg2
namespace Go.Mach
set_option linter.unusedVariables false
set_option linter.unusedSimpArgs false
def gOk (ops:Array Oper)(g:Option (Nat×Bool))(ta:aE):Prop :=
 match g with
 | none=>True
 | some (j,w)=>∃ d,(ops[j]?).bind (·.dst)=some d/\ta d = .bool w
def Rel (F0:Fz)(H0:Base)(c:Ctx)(s:VS)(ta:aE)(H:aD):Prop:=c.h=s.h/\Ok F0 H0 c H/\Tok c s.t ta
def After (F0:Fz)(H0:Base)(c:Ctx)(k:VS->Prop)(ta:aE)(H:aD):Prop:=∃ s' c',Le c c'/\Rel F0 H0 c' s' ta H/\k s'
section
variable {G:Cfg} {F0:Fz} {H0:Base} {c c':Ctx} {H H':aD} {s:VS} {ta:aE} {n fl:Nat} {k:VS->Prop} {ops:Array Oper}
theorem After.le (hle:Le c c')(h:After F0 H0 c' k ta H):After F0 H0 c k ta H:=let ⟨s',c2,h1,h2⟩:=h;⟨s',c2,hle.trans h1,h2⟩
theorem SN {g:Option (Nat×Bool)}{o:Oper}(hg:gOk ops g ta)(e:o.guard=g):bS ops ta o=true:=by
 unfold bS
 rw[e]
 unfold gOk at hg
 cases g with
 | none=>rfl
 | some p=>grind
theorem Tok.put {c:Ctx}{s:VS}{h:List VO}(hle:Le c c')(ht:Tok c s.t ta){o:Option Nat}{v:VV}{a:Value}(hv:R2 c' v a):Tok c' (VS.set ⟨s.t,h⟩ o v).t (lN ta o a):=by
 cases o with
 | none=>exact ht.mono hle
 | some d=>exact(ht.mono hle).set hv d
structure Env (G:Cfg)(H0:Base)(c:Ctx)(fl n:Nat)(ops:Array Oper):Prop where
 O:∀ f args Q,G.O f args Q->fH G.P f args Q
 fl:Fl fl H0
theorem Env.le (h:Env G H0 c fl n ops)(hle:Le c c'):Env G H0 c' fl n ops:=⟨h.O,h.fl⟩
theorem iR {α β:Type}{f:α->β}{o:Option α}{r:β}(h:o.map f=some r):∃ a,r=f a:=by
 cases o with
 | none=>cases h
 | some a=>exact⟨a,(eR h).symm⟩
theorem TA {P:Program}{op:Op}{ev:Operand->Value}{r:tG}(hq:oG op=true)(h:aJ P fl op ev H=some (r,H')):Pre H H':=by
 have same:H=H'->Pre H H':=fun e=>e▸Pre.refl H
 cases op <;> try (cases hq;done)
 case alloc t =>
  simp only[aJ]at h
  split at h
  ·cases h;exact Pre.push _ _
  ·cases h
 case box t x =>
  simp only[aJ]at h
  cases h;exact Pre.push _ _
 case slice=>obtain⟨a,e⟩:=iR h;exact same (e7 e).2.symm
 case nilCheck x =>
  simp only[aJ]at h
  split at h
  ·exact same (e7 (eR h)).2
  ·exact same (e7 (eR h)).2
  ·cases h
 case build t parts =>
  simp only[aJ]at h
  split at h
  ·split at h
   ·exact same (e7 (eR h)).2
   ·cases h
  ·split at h
   ·exact same (e7 (eR h)).2
   ·cases h
  ·cases h
 case buildSlice t len parts =>
  simp only[aJ]at h
  split at h
  ·split at h
   ·split at h
    ·split at h
     ·cases h;exact Pre.push _ _
     ·cases h
    ·cases h
   ·cases h
  ·cases h
 case makeSlice t l c =>
  simp only[aJ]at h
  split at h
  ·split at h
   ·split at h
    ·cases h;exact Pre.push _ _
    ·cases h
   ·cases h
  ·cases h
 case move x=>exact same (e7 (eR h)).2
 case makeFunc=>exact same (e7 (eR h)).2
 case assign x=>exact same (e7 (eR h)).2
 case load ty x =>
  simp only[aJ]at h
  split at h
  ·obtain⟨a,e⟩:=iR h;exact same (e7 e).2.symm
  ·cases h
 case binOp=>obtain⟨a,e⟩:=iR h;exact same (e7 e).2.symm
 case unOp=>obtain⟨a,e⟩:=iR h;exact same (e7 e).2.symm
 case fieldAddr=>obtain⟨a,e⟩:=iR h;exact same (e7 e).2.symm
 case field=>obtain⟨a,e⟩:=iR h;exact same (e7 e).2.symm
 case indexAddr=>obtain⟨a,e⟩:=iR h;exact same (e7 e).2.symm
 case sliceToArrayPointer=>obtain⟨a,e⟩:=iR h;exact same (e7 e).2.symm
 case index=>obtain⟨a,e⟩:=iR h;exact same (e7 e).2.symm
 case extract =>
  simp only[aJ]at h
  split at h
  ·obtain⟨a,e⟩:=iR h;exact same (e7 e).2.symm
  ·cases h
 case pick =>
  simp only[aJ]at h
  split at h
  ·exact same (e7 (eR h)).2
  ·cases h
 case convert s d x =>
  simp only[aJ]at h
  cases hm:kY P fl s d (ev x) H with
  | some v=>rw[hm]at h;exact same (e7 (eR h)).2
  | none =>
  rw[hm]at h
  cases hc:kF P s d (ev x) H with
  | none=>rw[hc]at h;cases h
  | some q =>
    rw[hc]at h
    have e:q.2=H':=(e7 (eR h)).2
    subst e
    unfold kF at hc
    split at hc
    ·cases hc;exact Pre.refl _
    ·cases hc;exact Pre.refl _
    ·cases hc;exact Pre.refl _
    ·split at hc
     ·cases hc;exact Pre.refl _
     ·cases hc
    ·split at hc
     ·split at hc
      ·cases hc;exact Pre.push _ _
      ·cases hc
     ·cases hc
    ·split at hc
     ·cases hc;exact Pre.refl _
     ·split at hc
      ·cases hc;exact Pre.refl _
      ·split at hc
       ·split at hc
        ·cases hc;exact Pre.refl _
        ·cases hc
       ·cases hc
     ·cases hc
    ·cases hc
 case call cl =>
  simp only[aJ,fP]at h
  cases hc:cl.callee with
  | value f =>
    rw[hc]at h
    simp only at h
    split at h
    ·split at h
     ·exact same (e7 (eR h)).2
     ·cases h
    ·cases h
  | invoke r m=>simp[oG,hc]at hq
  | builtin b =>
    rw[hc]at h
    cases b <;> try (simp[oG,hc]at hq;done)
    all_goals simp only at h
    case len=>obtain⟨a,e⟩:=iR h;exact same (e7 e).2.symm
    case complex =>
     split at h
     ·split at h
      ·exact same (e7 (eR h)).2
      ·cases h
     ·cases h
    case real =>
     split at h
     ·exact same (e7 (eR h)).2
     ·cases h
    case imag =>
     split at h
     ·exact same (e7 (eR h)).2
     ·cases h
    all_goals
     split at h
     ·obtain⟨a,e⟩:=iR h;exact same (e7 e).2.symm
     ·cases h
theorem oI (he:Env G H0 c fl n ops)(hr:Rel F0 H0 c s ta H){o:Oper}(hop:gO n ops o=true)(hw:bS ops ta o=true)(hv:vC G o s k){flc:Nat}(hflc:flc<=H.length){K:aE->aD->Prop}
 (hK:∀ ta' H',(∀ d,o.dst≠some d->ta' d=ta d)->(oG o.op=true->Pre H H')->After F0 H0 c k ta' H'->K ta' H'):WOp G.P fl flc ops o ta H K:=by
 obtain⟨hh,hok,ht⟩:=hr
 have hoth:∀ (a:Value) d,o.dst≠some d->lN ta o.dst a d=ta d:=by
  intro a d hd
  cases e:o.dst with
  | none=>rfl
  | some x=>rw[e]at hd;exact sF _ _ _ _ (fun e'=>hd (by rw[e']))
 have hprim:∀ hv:b9 G o.op s.t s.h (fun v h=>k (VS.set ⟨s.t,h⟩ o.dst v)),WOp G.P fl flc ops o ta H K:=by
  intro hv
  rw[<- hh]at hv
  obtain⟨v,h',a,H',hk,hp,c',hle,e1,hok',hr'⟩:=VY (fl:=fl) he.fl hok ht (dN hop) hv
  have hA:After F0 H0 c k (lN ta o.dst a) H':=⟨_,c',hle,⟨by rw[NE];exact e1,hok',Tok.put hle ht hr'⟩,hk⟩
  unfold WOp
  rw[aA hw]
  rcases hp with hp|⟨hp,rfl⟩
  ·simp only[hp];exact hK _ _ (hoth a) (fun hq=>TA hq hp) hA
  ·simp only[hp];exact hK _ _ (hoth undef) (fun hq=>TA hq hp) hA
 unfold vC at hv
 cases hopc:o.op with
 | call cl =>
   rw[hopc]at hv
   simp only at hv
   cases hc:cl.callee with
   | value f =>
     rw[hc]at hv
     simp only at hv
     have hx:=dN hop
     rw[hopc]at hx
     have hfx:aG n f=true:=hx f (by simp only[Op.operands,Call.operands,hc];simp)
     have hax:∀ x∈cl.args.toList,aG n x=true:=fun x h=>hx x (by simp only[Op.operands,Call.operands,tT];exact gA _ h)
     rw[<- hh]at hv
     obtain⟨g,first,cp,e1,e2,e3⟩:=Q1 he.O hok hflc (cD ht hfx) (iS ht hax) hv
     unfold WOp
     rw[aA hw]
     have hp:aJ G.P fl o.op (eval ta) H=some (.enter g (first++(cl.args.toList.map (eval ta)).toArray++cp),H):=by
      have:cl.args.map (eval ta)=(cl.args.toList.map (eval ta)).toArray:=by apply Array.toList_inj.1;simp
      rw[hopc]
      simp only[aJ,fP,hc,e1,e2,aO,this]
     simp only[hp]
     refine WCall.mono e3 ?_
     rintro v H' ⟨v',c',hk,hle,hok',hr',hpre⟩
     exact hK _ _ (hoth v) (fun _=>hpre) ⟨_,c',hle,⟨by rw[NE],hok',Tok.put hle ht hr'⟩,hk⟩
   | builtin b=>grind
   | invoke r m=>grind
 | _=>grind
theorem n7 {P:Program}{K:aE->aD->Prop}:∀ (a:List Oper) {b:List Oper} {fs:List Bool} {t:aE} {H:aD},WDrawn P fl ops fs a t H (fun t' H'=>WDrawn P fl ops (fs.drop a.length) b t' H' K)->WDrawn P fl ops fs (a++b) t H K
 | [],b,fs,t,H,h=>by
   have h:WDrawn P fl ops (fs.drop 0) b t H K:=by cases fs <;> exact h
   simpa using h
 | o::a,b,fs,t,H,h=>by
   have h:WOp P fl (if fs.headD false then fl else H.length) ops o t H fun t' H'=>WDrawn P fl ops fs.tail a t' H' fun t' H'=>WDrawn P fl ops (fs.drop (o::a).length) b t' H' K:=h
   show WOp P fl (if fs.headD false then fl else H.length) ops o t H fun t' H'=>WDrawn P fl ops fs.tail (a++b) t' H' K
   have key:∀ t' H',(WDrawn P fl ops fs.tail a t' H' fun t' H'=>WDrawn P fl ops (fs.drop (o::a).length) b t' H' K)->WDrawn P fl ops fs.tail (a++b) t' H' K:=fun t' H' h=>n7 a (by
    have e:fs.tail.drop a.length=fs.drop (o::a).length:=by cases fs <;> simp
    rw[e];exact h)
   unfold WOp at h⊢
   split at h
   ·rename_i hw
    rw[aA hw]
    split at h
    ·exact key _ _ h
    ·exact key _ _ h
    ·exact h.mono fun v H' h=>key _ _ h
    ·exact h.elim
   ·rename_i hw
    rw[aC hw];exact key _ _ h
theorem MT {j:Nat}{w:Bool}{d:Nat}(hj:(ops[j]?).bind (·.dst)=some d):∀ (l:List Oper) (known:List Nat) (ta:aE) (fs:List Bool) (H:aD) {K:aE->aD->Prop},X6 ops j w known l=true->ta d = .bool (!w)->(∀ o∈l,o.dst≠some d) ->
 (∀ x∈known,ta x=undef)->(∀ ta',(∀ x,x∉jL l->ta' x=ta x)->(∀ x,x∈jL l->ta' x=undef)->K ta' H)->WDrawn G.P fl ops fs l ta H K
 | [],known,ta,fs,H,K,_,_,_,_,hK=>aEh (hK ta (fun _ _=>rfl) fun _ h=>by cases h)
 | o::l,known,ta,fs,H,K,ho,hd,hnd,hkn,hK=>by
   unfold X6 at ho
   simp only[aH]at ho
   obtain⟨h1,h2⟩:=ho
   have hw:bS ops ta o=false:=by
    unfold bS
    split at h1
    ·cases h1
    ·rename_i j' w' e
     rw[e]
     simp only[iX,aH,eP]at h1
     rcases h1 with⟨rfl,rfl⟩|h1
     ·simp only[hj,hd];cases w' <;> rfl
     ·split at h1
      ·rename_i x hx
       simp only[hx,hkn x (by simpa using h1)]
       rfl
      ·cases h1
   refine aGX hw ?_
   have hne:=hnd o cN
   have hoth:∀ x,o.dst≠some x->lN ta o.dst undef x=ta x:=by
    intro x hx
    cases e:o.dst with
    | none=>rfl
    | some y=>rw[e]at hx;exact sF _ _ _ _ (fun e'=>hx (by rw[e']))
   refine MT hj l _ _ _ H h2 (by rw[hoth d hne];exact hd) (fun x hx=>hnd x (dA _ hx)) ?_ fun ta' ht hu=>hK ta' (fun x hx => ?_) (fun x hx => ?_)
   ·intro x hx
    cases e:o.dst with
    | none=>rw[e]at hx;exact hkn x hx
    | some y =>
      rw[e]at hx
      show xV ta y undef x=undef
      by_cases hxy:x=y
      ·subst hxy;exact tO _ _ _
      ·rw[sF _ _ _ _ hxy]
       grind
   ·have h3:x∉jL l:=fun h=>hx ((eD o l x).2 (.inr h))
    rw[ht x h3]
    exact hoth x (fun e=>hx ((eD o l x).2 (.inl e)))
   ·by_cases hm:x∈jL l
    ·exact hu x hm
    ·rw[ht x hm]
     rcases(eD o l x).1 hx with h|h
     ·rw[h];exact tO _ _ _
     ·exact absurd h hm
theorem Ok.grow (h:Ok F0 H0 c H)(hp:Pre H H'):Ok F0 H0 c H' where
 n0:=h.n0
 pre:=h.pre.trans hp
 fz:=fun b B e=>hp.blk (h.fz b B e)
 low:=h.low
 obj:=fun i o hi=>(h.obj i o hi).mono (Le.refl c) rfl (fun _ _=>rfl) (fun b B _ hB=>hp.blk hB) hp.len
 inj:=h.inj
 bj:=h.bj
 dom:=h.dom
theorem JC {d:Nat}:∀ {l:List Oper},d∈jL l->∃ z∈l,z.dst=some d
 | [],h=>by cases h
 | z::l,h=>by
   rcases(eD z l d).1 h with h|h
   ·exact⟨z,cN,h⟩
   ·obtain⟨z',h1,h2⟩:=JC h;exact⟨z',dA _ h1,h2⟩
theorem n8:∀ (m:Nat) (g:Option (Nat×Bool)) (l:List Oper) {c:Ctx} {s:VS} {ta:aE} {H:aD} {k:VS->Prop} (fs:List Bool),Env G H0 c fl n ops->Rel F0 H0 c s ta H->gOk ops g ta->(∀ o∈l,gO n ops o=true) ->
 (∀ j w d,g=some (j,w)->(ops[j]?).bind (·.dst)=some d->∀ o∈l,o.dst≠some d)->qV G ops m g l s k->WDrawn G.P fl ops fs l ta H fun ta' H'=>After F0 H0 c k ta' H'/\(∀ d,d∉jL l->ta' d=ta d)/\((∀ o∈l,oG o.op=true)->Pre H H'):=by
 intro m
 induction m with
 | zero=>intro g l c s ta H k fs _ _ _ _ _ h;exact h.elim
 | succ m ih =>
   intro g l c s ta H k fs he hr hg hop hgd hv
   cases l with
   | nil=>exact aEh ⟨⟨s,c,Le.refl c,hr,hv⟩,fun _ _=>rfl,fun _=>Pre.refl _⟩
   | cons o rest =>
     unfold qV at hv
     split at hv
     ·rename_i hge
      have hge:=LA hge
      show WOp G.P fl (if fs.headD false then fl else H.length) ops o ta H _
      refine oI he hr (hop o cN) (SN hg hge) hv (by split;exact hr.2.1.flen he.fl;exact aF _) ?_
      rintro ta' H' hoth hpre ⟨s',c',hle,hr',hk⟩
      refine t8 (fun t H h=>⟨After.le hle h.1,fun d hd=>(h.2.1 d (fun hm=>hd ((eD o rest d).2 (.inr hm)))).trans (hoth d (fun e=>hd ((eD o rest d).2 (.inl e)))),fun hq=>(hpre (hq o cN)).trans (h.2.2 fun z hz=>hq z (dA _ hz))⟩) (ih g rest fs.tail (he.le hle) hr' ?_ (fun x hx=>hop x (dA _ hx)) (fun j w d e1 e2 x hx=>hgd j w d e1 e2 x (dA _ hx)) hk)
      unfold gOk at hg⊢
      cases g with
      | none=>trivial
      | some p =>
        obtain⟨d,h1,h2⟩:=hg
        exact⟨d,h1,by rw[hoth d (hgd _ _ d rfl h1 o cN)];exact h2⟩
     ·split at hv
      ·rename_i body res rest' j w hsp hgo
       have hl:o::rest=body++res::rest':=by
        have:=KM g (o::rest)
        rw[hsp]at this;exact this
       have hgres:=LA (N7 g hsp)
       rw[hl]at hop hgd⊢
       clear hsp hgo
       split at hv
       ·rename_i d cc x y r hd hres hrr
        split at hv
        ·rename_i b hcond hlook
         simp only[aH,eP,bne_iff_ne,bW]at hcond
         obtain⟨⟨⟨⟨hcd,hrd⟩,hbody⟩,hoff⟩,hconst⟩:=hcond
         subst hcd
         have hapd:∀ z∈body,z.dst≠some cc:=by
          intro z hz e
          have:=(hbody z hz).1
          unfold aAa at this
          rw[e]at this
          simp at this
         have hq:∀ z∈body,oG z.op=true:=fun z hz=>(hbody z hz).2
         have htd:ta cc = .bool b:=by
          have:=hr.2.2 cc
          rw[hlook]at this
          exact(cY this).1
         have hcd2:cc∉jL body:=fun hm=>by obtain⟨z,hz,e⟩:=JC hm;exact hapd z hz e
         have hgdb:∀ p d,g=some p->(ops[p.1]?).bind (·.dst)=some d->d∉jL body:=by
          intro p d e1 e2 hm
          obtain⟨z,hz,e⟩:=JC hm
          exact hgd p.1 p.2 d e1 e2 z (lU _ hz) e
         have gkeep:∀ ta3:aE,(∀ d,d∉jL body->ta3 d=ta d)->gOk ops g ta3:=by
          intro ta3 h3
          unfold gOk at hg⊢
          cases g with
          | none=>trivial
          | some p =>
            obtain⟨d,h1,h2⟩:=hg
            exact⟨d,h1,by rw[h3 d (hgdb p d rfl h1)];exact h2⟩
         have hco:∀ ta3:aE,eval ta3 (if w=true then y else x) = .bool (!w):=by
          intro ta3
          unfold OG at hconst
          split at hconst
          ·rename_i e;rw[e];simp only[aX]at hconst;rw[hconst];rfl
          ·cases hconst
         have back:∀ (tt:List (Nat×VV)) (v:Bool) (c3:Ctx) (ta3:aE) (H3:aD) (fs':List Bool),Pre H H3->Le c c3->c3.h=s.h->Ok F0 H0 c3 H3->Tok c3 tt ta3->(∀ d,d∉jL body->ta3 d=ta d)->eval ta3 (if b=true then x else y) = .bool v ->
          qV G ops m g rest' ⟨(r,.pl (.bool v))::tt,s.h⟩ k->WDrawn G.P fl ops fs' (res::rest') ta3 H3 fun ta' H'=>After F0 H0 c k ta' H'/\(∀ d,d∉jL (body++res::rest')->ta' d=ta d)/\((∀ o∈body++res::rest',oG o.op=true)->Pre H H'):=by
          intro tt v c3 ta3 H3 fs' hp3 hle3 hh3 hok3 ht3 hoth hev hk
          have hg3:=gkeep ta3 hoth
          refine aEz (v := .bool v) (SN hg3 hgres) ?_ ?_
          ·rw[hres]
           have e1:eval ta3 (.tmp cc) = .bool b:=(hoth cc hcd2).trans htd
           simp only[aJ,e1]
           cases b
           ·have hev:eval ta3 y = .bool v:=hev
            simp[hev]
           ·have hev:eval ta3 x = .bool v:=hev
            simp[hev]
          ·rw[hrr]
           have hset:Tok c3 ((r,.pl (.bool v))::tt) (xV ta3 r (.bool v)):=ht3.set (show R2 c3 (.pl (.bool v)) (.bool v)from⟨rfl,rfl⟩) r
           have hg4:gOk ops g (xV ta3 r (.bool v)):=by
            unfold gOk at hg3⊢
            cases g with
            | none=>trivial
            | some p =>
              obtain⟨d,h1,h2⟩:=hg3
              refine⟨d,h1,?_⟩
              rw[sF _ _ _ _ (fun e=>hgd _ _ d rfl h1 res (gA _ cN) (by rw[hrr,e]))]
              exact h2
           refine t8 ?_ (ih g rest' (s:=⟨(r,.pl (.bool v))::tt,s.h⟩) fs'.tail (he.le hle3) ⟨hh3,hok3,hset⟩ hg4 (fun z hz=>hop z (gA _ (dA _ hz))) (fun j w d e1 e2 z hz=>hgd j w d e1 e2 z (gA _ (dA _ hz))) hk)
           rintro t4 H4 ⟨hA,hB,hC⟩
           refine⟨After.le hle3 hA,fun d hdd => ?_,fun hq4=>hp3.trans (hC fun z hz=>hq4 z (gA _ (dA _ hz)))⟩
           rw[SY]at hdd
           have h1:d∉jL body:=fun h=>hdd (lU _ h)
           have h2:d∉jL rest':=fun h=>hdd (gA _ ((eD res rest' d).2 (.inr h)))
           have h3:d≠r:=fun h=>hdd (gA _ ((eD res rest' d).2 (.inl (by rw[hrr,h]))))
           rw[hB d h2]
           show xV ta3 r _ d=_
           rw[sF _ _ _ _ h3]
           exact hoth d h1
         have hopb:∀ z∈body,gO n ops z=true:=fun z hz=>hop z (lU _ hz)
         have run:b=w->∀ (tt:VS->List (Nat×VV)) (J:VS->Bool->Prop),(∀ s2,tt s2=nX body s.t\/tt s2=m9 s.h.length body s2.t s.t)->(∀ s2 v,J s2 v->qV G ops m g rest' ⟨(r,.pl (.bool v))::tt s2,s.h⟩ k) ->
          (qV G ops m (some (j,w)) body s fun s2=>A0 (evV s2.t (if b=true then x else y)) (J s2))->WDrawn G.P fl ops fs (body++res::rest') ta H fun ta' H'=>After F0 H0 c k ta' H'/\(∀ d,d∉jL (body++res::rest')->ta' d=ta d)/\((∀ o∈body++res::rest',oG o.op=true)->Pre H H'):=by
          intro hbw tt J htt hJ hrun
          refine n7 body ?_
          refine t8 ?_ (ih (some (j,w)) body fs he hr ⟨cc,hd,by rw[htd,hbw]⟩ hopb (fun j' w' d' e1 e2 z hz=>by
           cases e1
           rw[hd]at e2;cases e2
           exact hapd z hz) hrun)
          rintro ta2 H2 ⟨⟨s2,c2,hle2,⟨hh2,hok2,ht2⟩,hk2⟩,hoth,hpre⟩
          have hp2:=hpre hq
          unfold A0 at hk2
          split at hk2
          ·rename_i v hev
           refine back (tt s2) v c ta2 H2 _ hp2 (Le.refl c) hr.1 (hr.2.1.grow hp2) ?_ hoth ?_ (hJ s2 v hk2)
           ·intro d
            rcases htt s2 with et|et <;> rw[et]
            ·by_cases hdm:d∈jL body
             ·rw[(oR body s.t d).1 hdm];trivial
             ·rw[(oR body s.t d).2 hdm,hoth d hdm]
              exact hr.2.2 d
            ·by_cases hdm:d∈jL body
             ·rw[(oP s.h.length s2.t body s.t d).1 hdm]
              have h2:=ht2 d
              unfold EZ
              split
              ·rename_i i off e
               split
               ·rename_i hi
                rw[e]at h2
                obtain⟨b',cs',fr',g1,g2,g3⟩:=h2
                refine .inr ⟨b',?_,by rw[hr.1];exact hi,g3⟩
                rw[<- hle2.ρ i (by rw[hr.1];exact hi)]
                exact g2
               ·trivial
              ·trivial
             ·rw[(oP s.h.length s2.t body s.t d).2 hdm,hoth d hdm]
              exact hr.2.2 d
           ·have hxo:aG n (if b=true then x else y)=true:=by
             have:=dN (hop res (gA _ cN))
             rw[hres]at this
             split
             ·exact this x (by simp[Op.operands])
             ·exact this y (by simp[Op.operands])
            have:=cD ht2 hxo
            rw[hev]at this
            exact(cY this).1
          ·exact hk2.elim
         have skip:b=(!w)->∀ tt:List (Nat×VV),(tt=nX body s.t\/∃ t2,tt=m9 s.h.length body t2 s.t)->qV G ops m g rest' ⟨(r,.pl (.bool (!w)))::tt,s.h⟩ k->WDrawn G.P fl ops fs (body++res::rest') ta H fun ta' H'=>After F0 H0 c k ta' H'/\(∀ d,d∉jL (body++res::rest')->ta' d=ta d)/\((∀ o∈body++res::rest',oG o.op=true)->Pre H H'):=by
          intro hbw tt htt hk
          refine n7 body ?_
          refine MT (j:=j) (w:=w) (d:=cc) hd body [] ta fs H hoff (by rw[htd,hbw]) hapd (fun x hx=>by cases hx) fun ta' hoth hund => ?_
          refine back tt (!w) c ta' H _ (Pre.refl H) (Le.refl c) hr.1 hr.2.1 ?_ hoth ?_ hk
          ·intro d
           rcases htt with et|⟨t2,et⟩ <;> rw[et]
           ·by_cases hdm:d∈jL body
            ·rw[(oR body s.t d).1 hdm];trivial
            ·rw[(oR body s.t d).2 hdm,hoth d hdm]
             exact hr.2.2 d
           ·by_cases hdm:d∈jL body
            ·rw[(oP s.h.length t2 body s.t d).1 hdm]
             unfold EZ
             split
             ·split
              ·exact .inl (hund d hdm)
              ·trivial
             ·trivial
            ·rw[(oP s.h.length t2 body s.t d).2 hdm,hoth d hdm]
             exact hr.2.2 d
          ·have:=hco ta'
           rw[hbw]
           cases w <;> exact this
         split at hv
         ·rename_i htot
          have htot':∀ z∈body,rZ z.op=true:=by simpa [bW] using htot
          by_cases hbw:b=w
          ·refine run hbw (fun s2=>m9 s.h.length body s2.t s.t) (fun s2 v=>qV G ops m g rest' ⟨(r,.pl (.bool (if w=true then b&&v else b||v)))::m9 s.h.length body s2.t s.t,s.h⟩ k) (fun s2 => .inr rfl) (fun s2 v h => ?_) ?_
           ·rw[hbw]at h
            cases w <;> simpa using h
           ·rw[hbw]at hv⊢
            exact hv
          ·have hbw2:b=(!w):=by cases b <;> cases w <;> simp_all
           obtain⟨s2,h2⟩:=VL _ _ _ _ _ htot' hv
           refine skip hbw2 (m9 s.h.length body s2.t s.t) (.inr ⟨_,rfl⟩) ?_
           unfold A0 at h2
           split at h2
           ·rw[hbw2]at h2
            cases w <;> simpa using h2
           ·exact h2.elim
         ·unfold jn at hv
          cases b <;> cases w
          ·exact run rfl (fun _=>nX body s.t) (fun _=>_) (fun _ => .inl rfl) (fun _ v h=>h) (by simpa using hv)
          ·exact skip rfl _ (.inl rfl) (by simpa using hv)
          ·exact skip rfl _ (.inl rfl) (by simpa using hv)
          ·exact run rfl (fun _=>nX body s.t) (fun _=>_) (fun _ => .inl rfl) (fun _ v h=>h) (by simpa using hv)
        ·exact hv.elim
       ·exact hv.elim
      ·exact hv.elim
end
end Go.Mach
