/- Part of the proof. No condition. -/
import Derived.Test.YtpigepmgheabhaaGreatDoorYRun
namespace Go.Mach
theorem AE {f g:aE->aD->Option (bE×aE×aD)}(hfg:∀ t H r,f t H=some r->g t H=some r):∀ {m m':Nat},m<=m'->∀ t H r,fV f m t H=some r->fV g m' t H=some r
 | 0,_,_,_,_,_,h=>by cases h
 | m+1,0,hm,_,_,_,_=>by omega
 | m+1,m'+1,hm,t,H,r,h=>by
   simp only[fV]at h⊢
   split at h
   ·rename_i t1 H1 hf
    rw[hfg _ _ _ hf]
    exact AE hfg (by omega) _ _ _ h
   ·rename_i hne
    cases hf:f t H with
    | none=>rw[hf]at h;cases h
    | some r' =>
      rw[hfg _ _ _ hf]
      obtain⟨e,t1,H1⟩:=r'
      rw[hf]at h
      cases e with
      | normal=>exact absurd hf (hne _ _)
      | _=>exact h
section
variable {P:Program} {call call':aQ} (hc:∀ fl f args H r,call fl f args H=some r->call' fl f args H=some r)
include hc
theorem jT {fl flc:Nat}{ops:Array Oper}{o:Oper}{t:aE}{H:aD}{r:aE×aD}(h:cF P call fl flc ops o t H=some r):cF P call' fl flc ops o t H=some r:=by
 unfold cF at h⊢
 split at h
 ·rename_i hw
  rw[aA hw]
  split at h
  ·exact h
  ·exact h
  ·rename_i f args H1 hp
   split at h
   ·rename_i v H2 hcall
    simp only[hc _ _ _ _ _ hcall]
    exact h
   ·cases h
  ·cases h
 ·rename_i hw
  rw[aC hw];exact h
theorem wP {fl:Nat}{ops:Array Oper}:∀ (l:List Oper) (t:aE) (H:aD) (r:aE×aD),kQ P call fl ops l t H=some r->kQ P call' fl ops l t H=some r
 | [],_,_,_,h=>h
 | o::l,t,H,r,h=>by
   simp only[kQ]at h⊢
   split at h
   ·rename_i t1 H1 hs
    rw[jT hc hs]
    exact wP l _ _ _ h
   ·cases h
theorem sU {fl:Nat}{ops:Array Oper}{b:Array Nat}:∀ (l:List Oper) (i:Nat) (t:aE) (H:aD) (r:aE×aD),eB P call fl ops b i l t H=some r->eB P call' fl ops b i l t H=some r
 | [],_,_,_,_,h=>h
 | o::l,i,t,H,r,h=>by
   simp only[eB]at h⊢
   split at h
   ·rename_i t1 H1 hs
    rw[jT hc hs]
    exact sU l _ _ _ _ h
   ·cases h
theorem N5 (X:List Nat)(fl:Nat)(f:FuncId)(args:Array Value)(H:aD)(r:Value×aD)(h:cM call X fl f args H=some r):cM call' X fl f args H=some r:=by
 unfold cM at h⊢
 split at h
 ·rename_i v K hk
  rw[hc _ _ _ _ _ hk]
  exact h
 ·cases h
theorem qB {fl:Nat}{ops:Array Oper}{b:Array Nat}:∀ (l:List Oper) (i:Nat) (X:List Nat) (Z:List (Nat×List Nat)) (t:aE) (H:aD) (r:aE×aD),fL P call fl ops b i X Z l t H=some r->fL P call' fl ops b i X Z l t H=some r
 | [],_,_,_,_,_,_,h=>h
 | o::l,i,X,Z,t,H,r,h=>by
   simp only[fL]at h⊢
   split at h
   ·rename_i hk
    rw[aA hk]
    split at h
    ·rename_i t1 H1 hs
     have hs':cF P (if eH ops b i o then cM call' X else call') fl (if aK o.op==4&&(bH ops b i||qS ops b i o)then fl else H.length) ops o t H=some (t1,H1):=by
      by_cases hsa:eH ops b i o=true
      ·rw[aA hsa]at hs⊢
       exact jT (N5 hc X) hs
      ·rw[aC hsa]at hs⊢
       exact jT hc hs
     rw[hs']
     exact qB l _ _ _ _ _ _ h
    ·cases h
   ·cases h
theorem HI {fl:Nat}{ops:Array Oper}{draw:Bool}{t:aE}{H:aD}{r:aE×aD}(h:cZ P call fl ops draw t H=some r):cZ P call' fl ops draw t H=some r:=by
 unfold cZ at h⊢
 split at h
 ·rename_i hd
  rw[aA hd]
  simp only at h⊢
  split at h
  ·rename_i hs
   rw[aA hs]
   split at h
   ·rename_i t1 H1 hr
    split at hr
    ·rename_i hse
     rw[aA hse,qB hc _ _ _ _ _ _ _ hr]
     exact h
    ·rename_i hse
     rw[aC hse,sU hc _ _ _ _ _ hr]
     exact h
   ·cases h
  ·cases h
 ·rename_i hd
  rw[aC hd]
  exact wP hc _ _ _ _ h
theorem qI {m m':Nat}(hm:m<=m'){fl:Nat}:∀ (c:Code) (t:aE) (H:aD) (r:bE×aE×aD),aU P call m fl c t H=some r->aU P call' m' fl c t H=some r:=by
 intro c
 induction c with
 | region id ops draw =>
   intro t H r h
   simp only[aU]at h⊢
   split at h
   ·rename_i hr
    rw[HI hc hr];exact h
   ·cases h
 | seq a b iha ihb =>
   intro t H r h
   simp only[aU]at h⊢
   cases ha:aU P call m fl a t H with
   | none=>rw[ha]at h;cases h
   | some r1 =>
     rw[ha]at h
     rw[iha _ _ _ ha]
     obtain⟨e,t1,H1⟩:=r1
     cases e with
     | normal=>exact ihb _ _ _ h
     | _=>exact h
 | cond c x y ihx ihy =>
   intro t H r h
   simp only[aU]at h⊢
   split at h
   ·exact ihx _ _ _ h
   ·exact ihy _ _ _ h
   ·cases h
 | block id b ih =>
   intro t H r h
   simp only[aU]at h⊢
   cases hb:aU P call m fl b t H with
   | none=>rw[hb]at h;cases h
   | some r1 =>
     rw[hb]at h
     rw[ih _ _ _ hb]
     exact h
 | loop b ih =>
   intro t H r h
   simp only[aU]at h⊢
   exact AE ih hm _ _ _ h
 | _=>intro t H r h;exact h
end
theorem eC (P:Program):∀ {N M:Nat},N<=M->∀ fl f args H r,f9 P N fl f args H=some r->f9 P M fl f args H=some r
 | 0,_,_,_,_,_,_,_,h=>by cases h
 | N+1,0,hm,_,_,_,_,_,_=>by omega
 | N+1,M+1,hm,fl,f,args,H,r,h=>by
   simp only[f9]at h⊢
   cases hf:P.funcs[f]? with
   | none=>simp[hf]at h
   | some fn =>
     simp only[hf]at h⊢
     cases hb:bod fn with
     | none=>simp[hb]at h
     | some c =>
       simp only[hb]at h⊢
       split at h
       ·rename_i hok
        rw[aA hok]
        cases hx:aU P (f9 P N) N fl c (start args) H with
        | none=>rw[hx]at h;cases h
        | some r1 =>
          rw[hx]at h
          rw[qI (eC P (show N<=M by omega)) (by omega) _ _ _ _ hx]
          exact h
       ·rename_i hok
        rw[aC hok]
        exact h
def WCall (P:Program)(fl:Nat)(f:FuncId)(args:Array Value)(H:aD)(R:Value->aD->Prop):Prop :=
 ∃ N v H',f9 P N fl f args H=some (v,H')/\R v H'
theorem WCall.mono {P:Program}{fl:Nat}{f:FuncId}{args:Array Value}{H:aD}{R R':Value->aD->Prop}(h:WCall P fl f args H R)(hr:∀ v H',R v H'->R' v H'):WCall P fl f args H R' :=
 let ⟨N,v,H',hc,hR⟩:=h;⟨N,v,H',hc,hr _ _ hR⟩
def WOp (P:Program)(fl flc:Nat)(ops:Array Oper)(o:Oper)(t:aE)(H:aD)(K:aE->aD->Prop):Prop :=
 if bS ops t o then
  match aJ P fl o.op (eval t) H with
  | some (.value v,H')=>K (lN t o.dst v) H'
  | some (.skip,H')=>K (lN t o.dst undef) H'
  | some (.enter f args,H')=>WCall P flc f args H' fun v H2=>K (lN t o.dst v) H2
  | none=>False
 else K (lN t o.dst undef) H
def WOps (P:Program)(fl:Nat)(ops:Array Oper):List Oper->aE->aD->(aE->aD->Prop)->Prop
 | [],t,H,K=>K t H
 | o::l,t,H,K=>WOp P fl fl ops o t H fun t' H'=>WOps P fl ops l t' H' K
def WDrawn (P:Program)(fl:Nat)(ops:Array Oper):List Bool->List Oper->aE->aD->(aE->aD->Prop)->Prop
 | _,[],t,H,K=>K t H
 | g,o::l,t,H,K=>WOp P fl (if g.headD false then fl else H.length) ops o t H fun t' H'=>WDrawn P fl ops g.tail l t' H' K
def W (P:Program)(fl:Nat)(c:Code)(t:aE)(H:aD)(Q:bE->aE->aD->Prop):Prop :=
 ∃ N e t' H',aU P (f9 P N) N fl c t H=some (e,t',H')/\Q e t' H'
section
variable {P:Program} {fl:Nat} {t:aE} {H:aD} {Q:bE->aE->aD->Prop}
theorem WOp.run {flc:Nat}{ops:Array Oper}{o:Oper}{K:aE->aD->Prop}(h:WOp P fl flc ops o t H K):∃ N t' H',cF P (f9 P N) fl flc ops o t H=some (t',H')/\K t' H':=by
 unfold WOp at h
 unfold cF
 split at h
 ·rename_i hw
  simp only[hw,aO]
  split at h
  ·rename_i hp
   exact⟨0,_,_,by simp only[hp],h⟩
  ·rename_i hp
   exact⟨0,_,_,by simp only[hp],h⟩
  ·rename_i hp
   obtain⟨N,v,H2,hc,hK⟩:=h
   exact⟨N,_,H2,by simp only[hp,hc],hK⟩
  ·exact h.elim
 ·rename_i hw
  simp only[hw,eK,aS]
  exact⟨0,_,_,rfl,h⟩
theorem WOps.run {ops:Array Oper}:∀ (l:List Oper) {t:aE} {H:aD} {K:aE->aD->Prop},WOps P fl ops l t H K->∃ N t' H',kQ P (f9 P N) fl ops l t H=some (t',H')/\K t' H'
 | [],t,H,K,h=>⟨0,t,H,rfl,h⟩
 | o::l,t,H,K,h=>by
   obtain⟨N,t1,H1,h1,h2⟩:=WOp.run h
   obtain⟨M,t2,H2,h3,h4⟩:=WOps.run l h2
   refine⟨max N M,t2,H2,?_,h4⟩
   simp only[kQ,jT (eC P (Nat.le_max_left N M)) h1]
   exact wP (eC P (Nat.le_max_right N M)) _ _ _ _ h3
def oV (ops:Array Oper)(b:Array Nat)(i:Nat):List Oper->List Bool
 | []=>[]
 | o::l=>(aK o.op==4&&bH ops b i)::oV ops b (i+1) l
theorem WDrawn.run {ops:Array Oper}{b:Array Nat}:∀ (l:List Oper) (i:Nat) {t:aE} {H:aD} {K:aE->aD->Prop},WDrawn P fl ops (oV ops b i l) l t H K ->
 ∃ N t' H',eB P (f9 P N) fl ops b i l t H=some (t',H')/\K t' H'
 | [],i,t,H,K,h=>⟨0,t,H,rfl,h⟩
 | o::l,i,t,H,K,h=>by
   have h:WOp P fl (if aK o.op==4&&bH ops b i then fl else H.length) ops o t H (fun t' H'=>WDrawn P fl ops (oV ops b (i+1) l) l t' H' K):=h
   obtain⟨N,t1,H1,h1,h2⟩:=WOp.run h
   obtain⟨M,t2,H2,h3,h4⟩:=WDrawn.run l (i+1) h2
   refine⟨max N M,t2,H2,?_,h4⟩
   simp only[eB]
   rw[jT (eC P (Nat.le_max_left N M)) h1]
   exact sU (eC P (Nat.le_max_right N M)) _ _ _ _ _ h3
theorem T7 {id:Nat}{ops:Array Oper}(h:WOps P fl ops ops.toList t H (Q .normal)):W P fl (.region id ops false) t H Q:=by
 obtain⟨N,t',H',h1,h2⟩:=WOps.run _ h
 exact⟨N,.normal,t',H',by simp[aU,cZ,h1],h2⟩
def oE (ops:Array Oper)(g:List Bool)(cl:List (Nat×Nat)):Bool :=
 let b:=aI ops.toList #[]
 xH ops b&&(b7 ops b).all (fun p=>c7 ops p.1&&c7 ops p.2)&&oV ops b 0 ops.toList==g&&b7 ops b==cl
theorem aDd {id:Nat}{ops:Array Oper}(g:List Bool)(cl:List (Nat×Nat))(hok:oE ops g cl=true)
 (h:WDrawn P fl ops g ops.toList t H fun t' H'=>cl.all (dE ops t')=true/\Q .normal t' H'):W P fl (.region id ops true) t H Q:=by
 simp only[oE,xH,aH,eP,AP]at hok
 obtain⟨⟨⟨⟨h1,hse⟩,h2⟩,h3⟩,h4⟩:=hok
 rw[<- h3]at h
 obtain⟨N,t',H',h5,h6,h7⟩:=WDrawn.run _ _ h
 rw[<- h4]at h6
 refine⟨N,.normal,t',H',?_,h7⟩
 simp only[aU,cZ,aO,h1,h2,hse,eK,aS,oZ,h5,h6]
theorem aHG {x y:Code}(h:W P fl x t H fun e t1 H1=>match e with | .normal=>W P fl y t1 H1 Q|e=>Q e t1 H1):W P fl (.seq x y) t H Q:=by
 obtain⟨N,e,t1,H1,h1,h2⟩:=h
 cases e with
 | normal =>
   obtain⟨M,e2,t2,H2,h3,h4⟩:=h2
   refine⟨max N M,e2,t2,H2,?_,h4⟩
   simp only[aU,qI (eC P (Nat.le_max_left N M)) (Nat.le_max_left N M) _ _ _ _ h1]
   exact qI (eC P (Nat.le_max_right N M)) (Nat.le_max_right N M) _ _ _ _ h3
 | _=>exact⟨N,_,t1,H1,by simp only[aU,h1],h2⟩
theorem aFA {c:Operand}{x y:Code}{b:Bool}(hc:eval t c = .bool b)(h1:b=true->W P fl x t H Q)(h2:b=false->W P fl y t H Q):W P fl (.cond c x y) t H Q:=by
 cases b with
 | true =>
   obtain⟨N,e,t1,H1,h,hq⟩:=h1 rfl
   exact⟨N,e,t1,H1,by simp only[aU,hc,h],hq⟩
 | false =>
   obtain⟨N,e,t1,H1,h,hq⟩:=h2 rfl
   exact⟨N,e,t1,H1,by simp only[aU,hc,h],hq⟩
theorem aDL {id:Nat}{x:Code}(h:W P fl x t H fun e t1 H1=>match e with | .exit id'=>Q (if id'=id then .normal else .exit id') t1 H1|e=>Q e t1 H1):W P fl (.block id x) t H Q:=by
 obtain⟨N,e,t1,H1,h1,h2⟩:=h
 cases e with
 | exit id'=>exact⟨N,_,t1,H1,by simp only[aU,h1],h2⟩
 | _=>exact⟨N,_,t1,H1,by simp only[aU,h1],h2⟩
theorem aFM (h:Q .normal t H):W P fl .skip t H Q:=⟨0,_,t,H,rfl,h⟩
theorem aEL {l:Nat}(h:Q .normal t H):W P fl (.label l) t H Q:=⟨0,_,t,H,rfl,h⟩
theorem aFO {id:Nat}(h:Q (.exit id) t H):W P fl (.exit id) t H Q:=⟨0,_,t,H,rfl,h⟩
theorem aH4 (h:Q .ret t H):W P fl .ret t H Q:=⟨0,_,t,H,rfl,h⟩
theorem aC5 {f:FuncId}{args:Array Value}{fn:Func}{c:Code}{R:Value->aD->Prop}(hf:P.funcs[f]? = some fn)(hb:bod fn=some c)(hok:okF f fn c=true)(hsz:args.size<=fn.ntmps)
 (h:W P fl c (start args) H fun e t' H'=>match e with
  | .normal | .ret=>∃ vs,bV P t' H' fn.results.toList=some vs/\R (iE vs) H'
  | _=>False):WCall P fl f args H R:=by
 obtain⟨N,e,t',H',h1,h2⟩:=h
 cases e with
 | normal =>
   obtain⟨vs,h3,h4⟩:=h2
   exact⟨N+1,iE vs,H',by simp only[f9,hf,hb,hok,lP,cK,aA hsz,h1,h3,Option.map_some],h4⟩
 | ret =>
   obtain⟨vs,h3,h4⟩:=h2
   exact⟨N+1,iE vs,H',by simp only[f9,hf,hb,hok,lP,cK,aA hsz,h1,h3,Option.map_some],h4⟩
 | _=>exact h2.elim
end
end Go.Mach
