/- Part of the proof. No condition. -/
import Derived.Test.YtcfpfefadlnmcaaGreatYRun
namespace Go.Mach
theorem SX {f g:aJ->aE->Option (f9×aJ×aE)}(hfg:∀ t H r,f t H=some r->g t H=some r):∀ {m m':Nat},m<=m'->∀ t H r,GA f m t H=some r->GA g m' t H=some r
 | 0,_,_,_,_,_,h=>by cases h
 | m+1,0,hm,_,_,_,_=>by omega
 | m+1,m'+1,hm,t,H,r,h=>by
   simp only[GA]at h⊢
   split at h
   ·rename_i t1 H1 hf
    rw[hfg _ _ _ hf]
    exact SX hfg (by omega) _ _ _ h
   ·rename_i hne
    cases hf:f t H with
    | none=>rw[hf]at h;cases h
    | some r' =>
      rw[hfg _ _ _ hf]
      obtain⟨e,t1,H1⟩:=r'
      rw[hf]at h
      cases e with
      | normal=>exact absurd hf (hne _ _)
      | _=>exact h
section
variable {P:Program} {call call':nS} (hc:∀ fl f args H r,call fl f args H=some r->call' fl f args H=some r)
include hc
theorem FT {fl flc:Nat}{ops:Array Oper}{o:Oper}{t:aJ}{H:aE}{r:aJ×aE}(h:o8 P call fl flc ops o t H=some r):o8 P call' fl flc ops o t H=some r:=by
 unfold o8 at h⊢
 split at h
 ·rename_i hw
  rw[aB hw]
  split at h
  ·exact h
  ·exact h
  ·rename_i f args H1 hp
   split at h
   ·rename_i v H2 hcall
    simp only[hc _ _ _ _ _ hcall]
    exact h
   ·cases h
  ·cases h
 ·rename_i hw
  rw[aA hw];exact h
theorem OI {fl:Nat}{ops:Array Oper}:∀ (l:List Oper) (t:aJ) (H:aE) (r:aJ×aE),yS P call fl ops l t H=some r->yS P call' fl ops l t H=some r
 | [],_,_,_,h=>h
 | o::l,t,H,r,h=>by
   simp only[yS]at h⊢
   split at h
   ·rename_i t1 H1 hs
    rw[FT hc hs]
    exact OI l _ _ _ h
   ·cases h
theorem HL {fl:Nat}{ops:Array Oper}{b:Array Nat}:∀ (l:List Oper) (i:Nat) (t:aJ) (H:aE) (r:aJ×aE),oT P call fl ops b i l t H=some r->oT P call' fl ops b i l t H=some r
 | [],_,_,_,_,h=>h
 | o::l,i,t,H,r,h=>by
   simp only[oT]at h⊢
   split at h
   ·rename_i t1 H1 hs
    rw[FT hc hs]
    exact HL l _ _ _ _ h
   ·cases h
theorem aAC {fl:Nat}{ops:Array Oper}{draw:Bool}{t:aJ}{H:aE}{r:aJ×aE}(h:j8 P call fl ops draw t H=some r):j8 P call' fl ops draw t H=some r:=by
 unfold j8 at h⊢
 split at h
 ·rename_i hd
  rw[aB hd]
  simp only at h⊢
  split at h
  ·rename_i hs
   rw[aB hs]
   split at h
   ·rename_i t1 H1 hr
    rw[HL hc _ _ _ _ _ hr]
    exact h
   ·cases h
  ·cases h
 ·rename_i hd
  rw[aA hd]
  exact OI hc _ _ _ _ h
theorem D2 {m m':Nat}(hm:m<=m'){fl:Nat}:∀ (c:Code) (t:aJ) (H:aE) (r:f9×aJ×aE),lD P call m fl c t H=some r->lD P call' m' fl c t H=some r:=by
 intro c
 induction c with
 | region id ops draw =>
   intro t H r h
   simp only[lD]at h⊢
   split at h
   ·rename_i hr
    rw[aAC hc hr];exact h
   ·cases h
 | seq a b iha ihb =>
   intro t H r h
   simp only[lD]at h⊢
   cases ha:lD P call m fl a t H with
   | none=>rw[ha]at h;cases h
   | some r1 =>
     rw[ha]at h
     rw[iha _ _ _ ha]
     obtain⟨e,t1,H1⟩:=r1
     cases e with
     | normal=>exact ihb _ _ _ h
     | _=>exact h
 | cond c x y ihx ihy =>
   intro t H r h
   simp only[lD]at h⊢
   split at h
   ·exact ihx _ _ _ h
   ·exact ihy _ _ _ h
   ·cases h
 | block id b ih =>
   intro t H r h
   simp only[lD]at h⊢
   cases hb:lD P call m fl b t H with
   | none=>rw[hb]at h;cases h
   | some r1 =>
     rw[hb]at h
     rw[ih _ _ _ hb]
     exact h
 | loop b ih =>
   intro t H r h
   simp only[lD]at h⊢
   exact SX ih hm _ _ _ h
 | _=>intro t H r h;exact h
end
theorem oZ (P:Program):∀ {N M:Nat},N<=M->∀ fl f args H r,xM P N fl f args H=some r->xM P M fl f args H=some r
 | 0,_,_,_,_,_,_,_,h=>by cases h
 | N+1,0,hm,_,_,_,_,_,_=>by omega
 | N+1,M+1,hm,fl,f,args,H,r,h=>by
   simp only[xM]at h⊢
   cases hf:P.funcs[f]? with
   | none=>simp[hf]at h
   | some fn =>
     simp only[hf]at h⊢
     cases hb:bod fn with
     | none=>simp[hb]at h
     | some c =>
       simp only[hb]at h⊢
       split at h
       ·rename_i hok
        rw[aB hok]
        cases hx:lD P (xM P N) N fl c (start args) H with
        | none=>rw[hx]at h;cases h
        | some r1 =>
          rw[hx]at h
          rw[D2 (oZ P (show N<=M by omega)) (by omega) _ _ _ _ hx]
          exact h
       ·rename_i hok
        rw[aA hok]
        exact h
def WCall (P:Program)(fl:Nat)(f:FuncId)(args:Array Value)(H:aE)(R:Value->aE->Prop):Prop :=
 ∃ N v H',xM P N fl f args H=some (v,H')/\R v H'
theorem WCall.mono {P:Program}{fl:Nat}{f:FuncId}{args:Array Value}{H:aE}{R R':Value->aE->Prop}(h:WCall P fl f args H R)(hr:∀ v H',R v H'->R' v H'):WCall P fl f args H R' :=
 let ⟨N,v,H',hc,hR⟩:=h;⟨N,v,H',hc,hr _ _ hR⟩
def WOp (P:Program)(fl flc:Nat)(ops:Array Oper)(o:Oper)(t:aJ)(H:aE)(K:aJ->aE->Prop):Prop :=
 if gN ops t o then
  match bX P fl o.op (eval t) H with
  | some (.value v,H')=>K (C6 t o.dst v) H'
  | some (.skip,H')=>K (C6 t o.dst undef) H'
  | some (.enter f args,H')=>WCall P flc f args H' fun v H2=>K (C6 t o.dst v) H2
  | none=>False
 else K (C6 t o.dst undef) H
def WOps (P:Program)(fl:Nat)(ops:Array Oper):List Oper->aJ->aE->(aJ->aE->Prop)->Prop
 | [],t,H,K=>K t H
 | o::l,t,H,K=>WOp P fl fl ops o t H fun t' H'=>WOps P fl ops l t' H' K
def WDrawn (P:Program)(fl:Nat)(ops:Array Oper):List Bool->List Oper->aJ->aE->(aJ->aE->Prop)->Prop
 | _,[],t,H,K=>K t H
 | g,o::l,t,H,K=>WOp P fl (if g.headD false then fl else H.length) ops o t H fun t' H'=>WDrawn P fl ops g.tail l t' H' K
def W (P:Program)(fl:Nat)(c:Code)(t:aJ)(H:aE)(Q:f9->aJ->aE->Prop):Prop :=
 ∃ N e t' H',lD P (xM P N) N fl c t H=some (e,t',H')/\Q e t' H'
section
variable {P:Program} {fl:Nat} {t:aJ} {H:aE} {Q:f9->aJ->aE->Prop}
theorem WOp.run {flc:Nat}{ops:Array Oper}{o:Oper}{K:aJ->aE->Prop}(h:WOp P fl flc ops o t H K):∃ N t' H',o8 P (xM P N) fl flc ops o t H=some (t',H')/\K t' H':=by
 unfold WOp at h
 unfold o8
 split at h
 ·rename_i hw
  simp only[hw,bS]
  split at h
  ·rename_i hp
   exact⟨0,_,_,by simp only[hp],h⟩
  ·rename_i hp
   exact⟨0,_,_,by simp only[hp],h⟩
  ·rename_i hp
   obtain⟨N,v,H2,hc,hK⟩:=h
   exact⟨N,_,H2,by simp only[hp,hc],hK⟩
  ·exact h.elim
 ·rename_i hw
  simp only[hw,eW,cN]
  exact⟨0,_,_,rfl,h⟩
theorem WOps.run {ops:Array Oper}:∀ (l:List Oper) {t:aJ} {H:aE} {K:aJ->aE->Prop},WOps P fl ops l t H K->∃ N t' H',yS P (xM P N) fl ops l t H=some (t',H')/\K t' H'
 | [],t,H,K,h=>⟨0,t,H,rfl,h⟩
 | o::l,t,H,K,h=>by
   obtain⟨N,t1,H1,h1,h2⟩:=WOp.run h
   obtain⟨M,t2,H2,h3,h4⟩:=WOps.run l h2
   refine⟨max N M,t2,H2,?_,h4⟩
   simp only[yS,FT (oZ P (Nat.le_max_left N M)) h1]
   exact OI (oZ P (Nat.le_max_right N M)) _ _ _ _ h3
def BP (ops:Array Oper)(b:Array Nat)(i:Nat):List Oper->List Bool
 | []=>[]
 | o::l=>(cL o.op==4&&lQ ops b i)::BP ops b (i+1) l
theorem WDrawn.run {ops:Array Oper}{b:Array Nat}:∀ (l:List Oper) (i:Nat) {t:aJ} {H:aE} {K:aJ->aE->Prop},WDrawn P fl ops (BP ops b i l) l t H K ->
 ∃ N t' H',oT P (xM P N) fl ops b i l t H=some (t',H')/\K t' H'
 | [],i,t,H,K,h=>⟨0,t,H,rfl,h⟩
 | o::l,i,t,H,K,h=>by
   have h:WOp P fl (if cL o.op==4&&lQ ops b i then fl else H.length) ops o t H (fun t' H'=>WDrawn P fl ops (BP ops b (i+1) l) l t' H' K):=h
   obtain⟨N,t1,H1,h1,h2⟩:=WOp.run h
   obtain⟨M,t2,H2,h3,h4⟩:=WDrawn.run l (i+1) h2
   refine⟨max N M,t2,H2,?_,h4⟩
   simp only[oT]
   rw[FT (oZ P (Nat.le_max_left N M)) h1]
   exact HL (oZ P (Nat.le_max_right N M)) _ _ _ _ _ h3
theorem aKB {id:Nat}{ops:Array Oper}(h:WOps P fl ops ops.toList t H (Q .normal)):W P fl (.region id ops false) t H Q:=by
 obtain⟨N,t',H',h1,h2⟩:=WOps.run _ h
 exact⟨N,.normal,t',H',by simp[lD,j8,h1],h2⟩
def A2 (ops:Array Oper)(g:List Bool)(cl:List (Nat×Nat)):Bool :=
 let b:=cY ops.toList #[]
 GK ops b&&(n6 ops b).all (fun p=>wT ops p.1&&wT ops p.2)&&BP ops b 0 ops.toList==g&&n6 ops b==cl
theorem aLf {id:Nat}{ops:Array Oper}(g:List Bool)(cl:List (Nat×Nat))(hok:A2 ops g cl=true)
 (h:WDrawn P fl ops g ops.toList t H fun t' H'=>cl.all (nW ops t')=true/\Q .normal t' H'):W P fl (.region id ops true) t H Q:=by
 simp only[A2,aI,dS]at hok
 obtain⟨⟨⟨h1,h2⟩,h3⟩,h4⟩:=hok
 rw[<- h3]at h
 obtain⟨N,t',H',h5,h6,h7⟩:=WDrawn.run _ _ h
 rw[<- h4]at h6
 refine⟨N,.normal,t',H',?_,h7⟩
 simp only[lD,j8,bS,h1,h2,Bool.and_self,h5,h6]
theorem aN9 {x y:Code}(h:W P fl x t H fun e t1 H1=>match e with | .normal=>W P fl y t1 H1 Q|e=>Q e t1 H1):W P fl (.seq x y) t H Q:=by
 obtain⟨N,e,t1,H1,h1,h2⟩:=h
 cases e with
 | normal =>
   obtain⟨M,e2,t2,H2,h3,h4⟩:=h2
   refine⟨max N M,e2,t2,H2,?_,h4⟩
   simp only[lD,D2 (oZ P (Nat.le_max_left N M)) (Nat.le_max_left N M) _ _ _ _ h1]
   exact D2 (oZ P (Nat.le_max_right N M)) (Nat.le_max_right N M) _ _ _ _ h3
 | _=>exact⟨N,_,t1,H1,by simp only[lD,h1],h2⟩
theorem aMV {c:Operand}{x y:Code}{b:Bool}(hc:eval t c = .bool b)(h1:b=true->W P fl x t H Q)(h2:b=false->W P fl y t H Q):W P fl (.cond c x y) t H Q:=by
 cases b with
 | true =>
   obtain⟨N,e,t1,H1,h,hq⟩:=h1 rfl
   exact⟨N,e,t1,H1,by simp only[lD,hc,h],hq⟩
 | false =>
   obtain⟨N,e,t1,H1,h,hq⟩:=h2 rfl
   exact⟨N,e,t1,H1,by simp only[lD,hc,h],hq⟩
theorem aKv {id:Nat}{x:Code}(h:W P fl x t H fun e t1 H1=>match e with | .exit id'=>Q (if id'=id then .normal else .exit id') t1 H1|e=>Q e t1 H1):W P fl (.block id x) t H Q:=by
 obtain⟨N,e,t1,H1,h1,h2⟩:=h
 cases e with
 | exit id'=>exact⟨N,_,t1,H1,by simp only[lD,h1],h2⟩
 | _=>exact⟨N,_,t1,H1,by simp only[lD,h1],h2⟩
theorem aMP (h:Q .normal t H):W P fl .skip t H Q:=⟨0,_,t,H,rfl,h⟩
theorem aLL {l:Nat}(h:Q .normal t H):W P fl (.label l) t H Q:=⟨0,_,t,H,rfl,h⟩
theorem aMt {id:Nat}(h:Q (.exit id) t H):W P fl (.exit id) t H Q:=⟨0,_,t,H,rfl,h⟩
theorem aN2 (h:Q .ret t H):W P fl .ret t H Q:=⟨0,_,t,H,rfl,h⟩
theorem aKT {f:FuncId}{args:Array Value}{fn:Func}{c:Code}{R:Value->aE->Prop}(hf:P.funcs[f]? = some fn)(hb:bod fn=some c)(hok:okF f fn c=true)(hsz:args.size<=fn.ntmps)
 (h:W P fl c (start args) H fun e t' H'=>match e with
  | .normal | .ret=>∃ vs,iD P t' H' fn.results.toList=some vs/\R (F1 vs) H'
  | _=>False):WCall P fl f args H R:=by
 obtain⟨N,e,t',H',h1,h2⟩:=h
 cases e with
 | normal =>
   obtain⟨vs,h3,h4⟩:=h2
   exact⟨N+1,F1 vs,H',by simp only[xM,hf,hb,hok,BX,aT,aB hsz,h1,h3,Option.map_some],h4⟩
 | ret =>
   obtain⟨vs,h3,h4⟩:=h2
   exact⟨N+1,F1 vs,H',by simp only[xM,hf,hb,hok,BX,aT,aB hsz,h1,h3,Option.map_some],h4⟩
 | _=>exact h2.elim
end
end Go.Mach
