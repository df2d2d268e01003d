/- Part of the proof. No condition. -/
import Derived.Test.YtcfpfefadlnmcaaGreatYRun
namespace Go.Mach
theorem GA {f g:aC->aB->Option (dU×aC×aB)}(hfg:∀ t H r,f t H=some r->g t H=some r):∀ {m m':Nat},m<=m'->∀ t H r,w9 f m t H=some r->w9 g m' t H=some r
 | 0,_,_,_,_,_,h=>by cases h
 | m+1,0,hm,_,_,_,_=>by omega
 | m+1,m'+1,hm,t,H,r,h=>by
   simp only[w9]at h⊢
   split at h
   ·rename_i t1 H1 hf
    rw[hfg _ _ _ hf]
    exact GA hfg (by omega) _ _ _ h
   ·rename_i hne
    cases hf:f t H with
    | none=>rw[hf]at h;cases h
    | some r' =>
      rw[hfg _ _ _ hf]
      obtain⟨e,t1,H1⟩:=r'
      rw[hf]at h
      cases e with
      | normal=>exact absurd hf (hne _ _)
      | _=>exact h
section
variable {P:Program} {call call':iW} (hc:∀ fl f args H r,call fl f args H=some r->call' fl f args H=some r)
include hc
theorem wY {fl flc:Nat}{ops:Array Oper}{o:Oper}{t:aC}{H:aB}{r:aC×aB}(h:jZ P call fl flc ops o t H=some r):jZ P call' fl flc ops o t H=some r:=by
 unfold jZ at h⊢
 split at h
 ·rename_i hw
  rw[if_pos hw]
  split at h
  ·exact h
  ·exact h
  ·rename_i f args H1 hp
   split at h
   ·rename_i v H2 hcall
    simp only[hc _ _ _ _ _ hcall]
    exact h
   ·cases h
  ·cases h
 ·rename_i hw
  rw[if_neg hw];exact h
theorem EA {fl:Nat}{ops:Array Oper}:∀ (l:List Oper) (t:aC) (H:aB) (r:aC×aB),qI P call fl ops l t H=some r->qI P call' fl ops l t H=some r
 | [],_,_,_,h=>h
 | o::l,t,H,r,h=>by
   simp only[qI]at h⊢
   split at h
   ·rename_i t1 H1 hs
    rw[wY hc hs]
    exact EA l _ _ _ h
   ·cases h
theorem xU {fl:Nat}{ops:Array Oper}{b:Array Nat}:∀ (l:List Oper) (i:Nat) (t:aC) (H:aB) (r:aC×aB),jW P call fl ops b i l t H=some r->jW P call' fl ops b i l t H=some r
 | [],_,_,_,_,h=>h
 | o::l,i,t,H,r,h=>by
   simp only[jW]at h⊢
   split at h
   ·rename_i t1 H1 hs
    rw[wY hc hs]
    exact xU l _ _ _ _ h
   ·cases h
theorem P1 {fl:Nat}{ops:Array Oper}{draw:Bool}{t:aC}{H:aB}{r:aC×aB}(h:fZ P call fl ops draw t H=some r):fZ P call' fl ops draw t H=some r:=by
 unfold fZ at h⊢
 split at h
 ·rename_i hd
  rw[if_pos hd]
  simp only at h⊢
  split at h
  ·rename_i hs
   rw[if_pos hs]
   split at h
   ·rename_i t1 H1 hr
    rw[xU hc _ _ _ _ _ hr]
    exact h
   ·cases h
  ·cases h
 ·rename_i hd
  rw[if_neg hd]
  exact EA hc _ _ _ _ h
theorem uZ {m m':Nat}(hm:m<=m'){fl:Nat}:∀ (c:Code) (t:aC) (H:aB) (r:dU×aC×aB),gU P call m fl c t H=some r->gU P call' m' fl c t H=some r:=by
 intro c
 induction c with
 | region id ops draw =>
   intro t H r h
   simp only[gU]at h⊢
   split at h
   ·rename_i hr
    rw[P1 hc hr];exact h
   ·cases h
 | seq a b iha ihb =>
   intro t H r h
   simp only[gU]at h⊢
   cases ha:gU P call m fl a t H with
   | none=>rw[ha]at h;cases h
   | some r1 =>
     rw[ha]at h
     rw[iha _ _ _ ha]
     obtain⟨e,t1,H1⟩:=r1
     cases e with
     | normal=>exact ihb _ _ _ h
     | _=>exact h
 | cond c x y ihx ihy =>
   intro t H r h
   simp only[gU]at h⊢
   split at h
   ·exact ihx _ _ _ h
   ·exact ihy _ _ _ h
   ·cases h
 | block id b ih =>
   intro t H r h
   simp only[gU]at h⊢
   cases hb:gU P call m fl b t H with
   | none=>rw[hb]at h;cases h
   | some r1 =>
     rw[hb]at h
     rw[ih _ _ _ hb]
     exact h
 | loop b ih =>
   intro t H r h
   simp only[gU]at h⊢
   exact GA ih hm _ _ _ h
 | _=>intro t H r h;exact h
end
theorem jY (P:Program):∀ {N M:Nat},N<=M->∀ fl f args H r,qC P N fl f args H=some r->qC P M fl f args H=some r
 | 0,_,_,_,_,_,_,_,h=>by cases h
 | N+1,0,hm,_,_,_,_,_,_=>by omega
 | N+1,M+1,hm,fl,f,args,H,r,h=>by
   simp only[qC]at h⊢
   cases hf:P.funcs[f]? with
   | none=>simp[hf]at h
   | some fn =>
     simp only[hf]at h⊢
     cases hb:bod fn with
     | none=>simp[hb]at h
     | some c =>
       simp only[hb]at h⊢
       split at h
       ·rename_i hok
        rw[if_pos hok]
        cases hx:gU P (qC P N) N fl c (start args) H with
        | none=>rw[hx]at h;cases h
        | some r1 =>
          rw[hx]at h
          rw[uZ (jY P (show N<=M by omega)) (by omega) _ _ _ _ hx]
          exact h
       ·rename_i hok
        rw[if_neg hok]
        exact h
def WCall (P:Program)(fl:Nat)(f:FuncId)(args:Array Value)(H:aB)(R:Value->aB->Prop):Prop :=
 ∃ N v H',qC P N fl f args H=some (v,H')/\R v H'
theorem WCall.mono {P:Program}{fl:Nat}{f:FuncId}{args:Array Value}{H:aB}{R R':Value->aB->Prop}(h:WCall P fl f args H R)(hr:∀ v H',R v H'->R' v H'):WCall P fl f args H R' :=
 let ⟨N,v,H',hc,hR⟩:=h;⟨N,v,H',hc,hr _ _ hR⟩
def WOp (P:Program)(fl flc:Nat)(ops:Array Oper)(o:Oper)(t:aC)(H:aB)(K:aC->aB->Prop):Prop :=
 if dZ ops t o then
  match aT P fl o.op (eval t) H with
  | some (.value v,H')=>K (uS t o.dst v) H'
  | some (.skip,H')=>K (uS t o.dst undef) H'
  | some (.enter f args,H')=>WCall P flc f args H' fun v H2=>K (uS t o.dst v) H2
  | none=>False
 else K (uS t o.dst undef) H
def WOps (P:Program)(fl:Nat)(ops:Array Oper):List Oper->aC->aB->(aC->aB->Prop)->Prop
 | [],t,H,K=>K t H
 | o::l,t,H,K=>WOp P fl fl ops o t H fun t' H'=>WOps P fl ops l t' H' K
def WDrawn (P:Program)(fl:Nat)(ops:Array Oper):List Bool->List Oper->aC->aB->(aC->aB->Prop)->Prop
 | _,[],t,H,K=>K t H
 | g,o::l,t,H,K=>WOp P fl (if g.headD false then fl else H.length) ops o t H fun t' H'=>WDrawn P fl ops g.tail l t' H' K
def W (P:Program)(fl:Nat)(c:Code)(t:aC)(H:aB)(Q:dU->aC->aB->Prop):Prop :=
 ∃ N e t' H',gU P (qC P N) N fl c t H=some (e,t',H')/\Q e t' H'
section
variable {P:Program} {fl:Nat} {t:aC} {H:aB} {Q:dU->aC->aB->Prop}
theorem WOp.run {flc:Nat}{ops:Array Oper}{o:Oper}{K:aC->aB->Prop}(h:WOp P fl flc ops o t H K):∃ N t' H',jZ P (qC P N) fl flc ops o t H=some (t',H')/\K t' H':=by
 unfold WOp at h
 unfold jZ
 split at h
 ·rename_i hw
  simp only[hw,if_true]
  split at h
  ·rename_i hp
   exact⟨0,_,_,by simp only[hp],h⟩
  ·rename_i hp
   exact⟨0,_,_,by simp only[hp],h⟩
  ·rename_i hp
   obtain⟨N,v,H2,hc,hK⟩:=h
   exact⟨N,_,H2,by simp only[hp,hc],hK⟩
  ·exact h.elim
 ·rename_i hw
  simp only[hw,Bool.false_eq_true,if_false]
  exact⟨0,_,_,rfl,h⟩
theorem WOps.run {ops:Array Oper}:∀ (l:List Oper) {t:aC} {H:aB} {K:aC->aB->Prop},WOps P fl ops l t H K->∃ N t' H',qI P (qC P N) fl ops l t H=some (t',H')/\K t' H'
 | [],t,H,K,h=>⟨0,t,H,rfl,h⟩
 | o::l,t,H,K,h=>by
   obtain⟨N,t1,H1,h1,h2⟩:=WOp.run h
   obtain⟨M,t2,H2,h3,h4⟩:=WOps.run l h2
   refine⟨max N M,t2,H2,?_,h4⟩
   simp only[qI,wY (jY P (Nat.le_max_left N M)) h1]
   exact EA (jY P (Nat.le_max_right N M)) _ _ _ _ h3
def tM (ops:Array Oper)(b:Array Nat)(i:Nat):List Oper->List Bool
 | []=>[]
 | o::l=>(bA o.op==4&&iB ops b i)::tM ops b (i+1) l
theorem WDrawn.run {ops:Array Oper}{b:Array Nat}:∀ (l:List Oper) (i:Nat) {t:aC} {H:aB} {K:aC->aB->Prop},WDrawn P fl ops (tM ops b i l) l t H K ->
 ∃ N t' H',jW P (qC P N) fl ops b i l t H=some (t',H')/\K t' H'
 | [],i,t,H,K,h=>⟨0,t,H,rfl,h⟩
 | o::l,i,t,H,K,h=>by
   have h:WOp P fl (if bA o.op==4&&iB ops b i then fl else H.length) ops o t H (fun t' H'=>WDrawn P fl ops (tM ops b (i+1) l) l t' H' K):=h
   obtain⟨N,t1,H1,h1,h2⟩:=WOp.run h
   obtain⟨M,t2,H2,h3,h4⟩:=WDrawn.run l (i+1) h2
   refine⟨max N M,t2,H2,?_,h4⟩
   simp only[jW]
   rw[wY (jY P (Nat.le_max_left N M)) h1]
   exact xU (jY P (Nat.le_max_right N M)) _ _ _ _ _ h3
theorem aCy {id:Nat}{ops:Array Oper}(h:WOps P fl ops ops.toList t H (Q .normal)):W P fl (.region id ops false) t H Q:=by
 obtain⟨N,t',H',h1,h2⟩:=WOps.run _ h
 exact⟨N,.normal,t',H',by simp[gU,fZ,h1],h2⟩
def sV (ops:Array Oper)(g:List Bool)(cl:List (Nat×Nat)):Bool :=
 let b:=bK ops.toList #[]
 yE ops b&&(i9 ops b).all (fun p=>pM ops p.1&&pM ops p.2)&&tM ops b 0 ops.toList==g&&i9 ops b==cl
theorem aEe {id:Nat}{ops:Array Oper}(g:List Bool)(cl:List (Nat×Nat))(hok:sV ops g cl=true)
 (h:WDrawn P fl ops g ops.toList t H fun t' H'=>cl.all (jA ops t')=true/\Q .normal t' H'):W P fl (.region id ops true) t H Q:=by
 simp only[sV,Bool.and_eq_true,beq_iff_eq]at hok
 obtain⟨⟨⟨h1,h2⟩,h3⟩,h4⟩:=hok
 rw[<- h3]at h
 obtain⟨N,t',H',h5,h6,h7⟩:=WDrawn.run _ _ h
 rw[<- h4]at h6
 refine⟨N,.normal,t',H',?_,h7⟩
 simp only[gU,fZ,if_true,h1,h2,Bool.and_self,h5,h6]
theorem aHy {x y:Code}(h:W P fl x t H fun e t1 H1=>match e with | .normal=>W P fl y t1 H1 Q|e=>Q e t1 H1):W P fl (.seq x y) t H Q:=by
 obtain⟨N,e,t1,H1,h1,h2⟩:=h
 cases e with
 | normal =>
   obtain⟨M,e2,t2,H2,h3,h4⟩:=h2
   refine⟨max N M,e2,t2,H2,?_,h4⟩
   simp only[gU,uZ (jY P (Nat.le_max_left N M)) (Nat.le_max_left N M) _ _ _ _ h1]
   exact uZ (jY P (Nat.le_max_right N M)) (Nat.le_max_right N M) _ _ _ _ h3
 | _=>exact⟨N,_,t1,H1,by simp only[gU,h1],h2⟩
theorem aGB {c:Operand}{x y:Code}{b:Bool}(hc:eval t c = .bool b)(h1:b=true->W P fl x t H Q)(h2:b=false->W P fl y t H Q):W P fl (.cond c x y) t H Q:=by
 cases b with
 | true =>
   obtain⟨N,e,t1,H1,h,hq⟩:=h1 rfl
   exact⟨N,e,t1,H1,by simp only[gU,hc,h],hq⟩
 | false =>
   obtain⟨N,e,t1,H1,h,hq⟩:=h2 rfl
   exact⟨N,e,t1,H1,by simp only[gU,hc,h],hq⟩
theorem aEn {id:Nat}{x:Code}(h:W P fl x t H fun e t1 H1=>match e with | .exit id'=>Q (if id'=id then .normal else .exit id') t1 H1|e=>Q e t1 H1):W P fl (.block id x) t H Q:=by
 obtain⟨N,e,t1,H1,h1,h2⟩:=h
 cases e with
 | exit id'=>exact⟨N,_,t1,H1,by simp only[gU,h1],h2⟩
 | _=>exact⟨N,_,t1,H1,by simp only[gU,h1],h2⟩
theorem aGt (h:Q .normal t H):W P fl .skip t H Q:=⟨0,_,t,H,rfl,h⟩
theorem aF6 {l:Nat}(h:Q .normal t H):W P fl (.label l) t H Q:=⟨0,_,t,H,rfl,h⟩
theorem aGP {id:Nat}(h:Q (.exit id) t H):W P fl (.exit id) t H Q:=⟨0,_,t,H,rfl,h⟩
theorem aHv (h:Q .ret t H):W P fl .ret t H Q:=⟨0,_,t,H,rfl,h⟩
theorem aDl {f:FuncId}{args:Array Value}{fn:Func}{c:Code}{R:Value->aB->Prop}(hf:P.funcs[f]? = some fn)(hb:bod fn=some c)(hok:okF f fn c=true)(hsz:args.size<=fn.ntmps)
 (h:W P fl c (start args) H fun e t' H'=>match e with
  | .normal | .ret=>∃ vs,eE P t' H' fn.results.toList=some vs/\R (xC vs) H'
  | _=>False):WCall P fl f args H R:=by
 obtain⟨N,e,t',H',h1,h2⟩:=h
 cases e with
 | normal =>
   obtain⟨vs,h3,h4⟩:=h2
   exact⟨N+1,xC vs,H',by simp only[qC,hf,hb,hok,Bool.true_and,decide_eq_true_eq,if_pos hsz,h1,h3,Option.map_some],h4⟩
 | ret =>
   obtain⟨vs,h3,h4⟩:=h2
   exact⟨N+1,xC vs,H',by simp only[qC,hf,hb,hok,Bool.true_and,decide_eq_true_eq,if_pos hsz,h1,h3,Option.map_some],h4⟩
 | _=>exact h2.elim
end
end Go.Mach
