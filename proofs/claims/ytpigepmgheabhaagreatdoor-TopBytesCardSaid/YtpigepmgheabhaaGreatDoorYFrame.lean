/- Part of the proof. No condition. -/
import Derived.Test.YtpigepmgheabhaaGreatDoorYW
import Derived.Test.YtpigepmgheabhaaGreatDoorYTrace
namespace Go.Mach
set_option linter.unusedVariables false
set_option linter.unusedSimpArgs false
theorem V0 {P:Program}{fl:Nat}{op:Op}{ev ev':Operand->Value}{H:aD}(h:∀ x∈op.operands,ev x=ev' x):aJ P fl op ev H=aJ P fl op ev' H:=by
 have parts:∀ ps:Array (Nat×Operand),(∀ x∈(ps.toList.map (·.2)).toArray,ev x=ev' x)->(ps.toList.map fun p=>(p.1,ev p.2))=ps.toList.map fun p=>(p.1,ev' p.2):=by
  intro ps hp
  apply List.map_congr_left
  intro p hm
  rw[hp p.2 (List.mem_toArray.2 (List.mem_map_of_mem hm))]
 have opt:∀ o:Option Operand,(∀ x∈o,ev x=ev' x)->o.map ev=o.map ev':=by
  intro o ho
  cases o with
  | none=>rfl
  | some x=>simp only[Option.map_some,ho x rfl]
 cases op <;> try rfl
 case move x=>simp only[aJ,h x (by simp[Op.operands])]
 case assign x=>simp only[aJ,h x (by simp[Op.operands])]
 case pick c a b=>simp only[aJ,h c (by simp[Op.operands]),h a (by simp[Op.operands]),h b (by simp[Op.operands])]
 case box t x=>simp only[aJ,h x (by simp[Op.operands])]
 case build t ps=>simp only[aJ,parts ps (fun x hx=>h x (by simpa [Op.operands] using hx))]
 case buildSlice t n ps=>simp only[aJ,parts ps (fun x hx=>h x (by simpa [Op.operands] using hx))]
 case load t a=>simp only[aJ,h a (by simp[Op.operands])]
 case store t a x=>simp only[aJ,h a (by simp[Op.operands]),h x (by simp[Op.operands])]
 case nilCheck x=>simp only[aJ,h x (by simp[Op.operands])]
 case binOp o t x y t2=>simp only[aJ,h x (by simp[Op.operands]),h y (by simp[Op.operands])]
 case unOp o t x=>simp only[aJ,h x (by simp[Op.operands])]
 case convert s d x=>simp only[aJ,h x (by simp[Op.operands])]
 case makeFunc fn first caps =>
  have e1:first.map ev=first.map ev':=TX fun x hx=>h x (by simp[Op.operands,hx])
  have e2:caps.map ev=caps.map ev':=TX fun x hx=>h x (by simp[Op.operands,hx])
  simp only[aJ,e1,e2]
 case makeSlice t l c=>simp only[aJ,h l (by simp[Op.operands]),h c (by simp[Op.operands])]
 case slice t x lo hi mx =>
  simp only[aJ,h x (by simp[Op.operands]),opt lo (fun y hy=>h y (by cases hy;simp[Op.operands])),opt hi (fun y hy=>h y (by cases hy;simp[Op.operands])),opt mx (fun y hy=>h y (by cases hy;simp[Op.operands]))]
 case fieldAddr s x f=>simp only[aJ,h x (by simp[Op.operands])]
 case field s x f=>simp only[aJ,h x (by simp[Op.operands])]
 case indexAddr t x ix=>simp only[aJ,h x (by simp[Op.operands]),h ix (by simp[Op.operands])]
 case index t x ix=>simp only[aJ,h x (by simp[Op.operands]),h ix (by simp[Op.operands])]
 case extract x i=>simp only[aJ,h x (by simp[Op.operands])]
 case sliceToArrayPointer t x=>simp only[aJ,h x (by simp[Op.operands])]
 case makeInterface t x=>simp only[aJ,h x (by simp[Op.operands])]
 case call c =>
  have e1:c.args.map ev=c.args.map ev':=TX fun x hx=>h x (by simp[Op.operands,Call.operands,hx])
  have e2:∀ f,c.callee = .value f->ev f=ev' f:=fun f hf=>h f (by simp[Op.operands,Call.operands,hf])
  simp only[aJ]
  unfold fP
  simp only[e1]
  cases hc:c.callee with
  | value f=>simp only[e2 f hc]
  | _=>rfl
def Agree (n:Nat)(t t2:aE):Prop:=∀ i,i<n->t i=t2 i
def Above (n:Nat)(t t2:aE):Prop:=∀ i,n<=i->t2 i=t i
theorem Agree.eval {n:Nat}{t t2:aE}(h:Agree n t t2){x:Operand}(hx:aG n x=true):eval t x=eval t2 x:=by
 cases x with
 | tmp i=>exact h i (by simpa [aG] using hx)
 | _=>rfl
theorem Agree.put {n:Nat}{t t2:aE}(h:Agree n t t2)(d:Option Tmp)(v:Value):Agree n (lN t d v) (lN t2 d v):=by
 intro i hi
 cases d with
 | none=>exact h i hi
 | some x =>
   show xV t x v i=xV t2 x v i
   unfold xV
   split
   ·rfl
   ·exact h i hi
theorem Above.put {n:Nat}{t t2:aE}(h:Above n t t2){d:Option Tmp}(hd:d.all (· < n)=true)(v:Value):Above n t (lN t2 d v):=by
 intro i hi
 cases d with
 | none=>exact h i hi
 | some x =>
   have:x<n:=by simpa using hd
   show xV t2 x v i=t i
   unfold xV
   rw[aC (fun e=>by subst e;exact absurd this (Nat.not_lt.2 hi))]
   exact h i hi
section
variable {P:Program} {call:aQ} {n:Nat}
theorem uD {ops:Array Oper}{o:Oper}(h:gO n ops o=true):(∀ x∈o.op.operands,aG n x=true)/\o.dst.all (· < n)=true/\(match o.guard with
 | some (j,_)=>((ops[j]?).bind (·.dst)).all (· < n)
 | none=>true)=true:=by
 unfold gO at h
 simp only[aH,bW]at h
 exact⟨fun x hx=>h.1.1 x (by simpa using hx),h.1.2,h.2⟩
theorem O1 {ops:Array Oper}{o:Oper}{t t2:aE}(ha:Agree n t t2)(ho:gO n ops o=true):bS ops t o=bS ops t2 o:=by
 have hg:=(uD ho).2.2
 unfold bS
 split
 ·rfl
 ·rename_i j w e
  rw[e]at hg
  split
  ·rename_i d hd
   simp only[hd,Option.all_some,cK]at hg
   rw[ha d hg]
  ·rfl
theorem uU {fl flc:Nat}{ops:Array Oper}{o:Oper}{t t0 t2:aE}{H:aD}{t2':aE}{H':aD}(ha:Agree n t t2)(hb:Above n t0 t2)(ho:gO n ops o=true)(h:cF P call fl flc ops o t2 H=some (t2',H')) :
 ∃ t',cF P call fl flc ops o t H=some (t',H')/\Agree n t' t2'/\Above n t0 t2':=by
 obtain⟨h1,h2,h3⟩:=uD ho
 have hw:=O1 ha ho
 have hp:aJ P fl o.op (eval t) H=aJ P fl o.op (eval t2) H:=V0 fun x hx=>ha.eval (h1 x hx)
 unfold cF at h⊢
 rw[hw]
 by_cases hw2:bS ops t2 o=true
 ·rw[aA hw2]at h⊢
  rw[hp]
  cases hpr:aJ P fl o.op (eval t2) H with
  | none=>rw[hpr]at h;cases h
  | some r =>
    obtain⟨a,H1⟩:=r
    rw[hpr]at h
    cases a with
    | value v=>cases h;exact⟨_,rfl,ha.put _ _,hb.put h2 _⟩
    | skip=>cases h;exact⟨_,rfl,ha.put _ _,hb.put h2 _⟩
    | enter f args =>
      simp only at h⊢
      cases hc:call flc f args H1 with
      | none=>rw[hc]at h;cases h
      | some q =>
        obtain⟨v,H2⟩:=q
        rw[hc]at h
        cases h
        exact⟨_,rfl,ha.put _ _,hb.put h2 _⟩
 ·rw[aC hw2]at h⊢
  cases h
  exact⟨_,rfl,ha.put _ _,hb.put h2 _⟩
theorem BV {fl:Nat}{ops:Array Oper}:∀ {l:List Oper} {t t0 t2:aE} {H:aD} {t2':aE} {H':aD},(∀ o∈l,gO n ops o=true)->Agree n t t2->Above n t0 t2->kQ P call fl ops l t2 H=some (t2',H') ->
 ∃ t',kQ P call fl ops l t H=some (t',H')/\Agree n t' t2'/\Above n t0 t2'
 | [],t,t0,t2,H,t2',H',ho,ha,hb,h=>by cases h;exact⟨t,rfl,ha,hb⟩
 | o::l,t,t0,t2,H,t2',H',ho,ha,hb,h=>by
   simp only[kQ]at h⊢
   cases hs:cF P call fl fl ops o t2 H with
   | none=>rw[hs]at h;cases h
   | some r =>
     obtain⟨t3,H3⟩:=r
     rw[hs]at h
     obtain⟨t4,k1,k2,k3⟩:=uU ha hb (ho o cN) hs
     rw[k1]
     exact BV (fun o hm=>ho o (dA _ hm)) k2 k3 h
theorem wB {fl:Nat}{ops:Array Oper}{b:Array Nat}:∀ {l:List Oper} {i:Nat} {t t0 t2:aE} {H:aD} {t2':aE} {H':aD},(∀ o∈l,gO n ops o=true)->Agree n t t2->Above n t0 t2->eB P call fl ops b i l t2 H=some (t2',H') ->
 ∃ t',eB P call fl ops b i l t H=some (t',H')/\Agree n t' t2'/\Above n t0 t2'
 | [],i,t,t0,t2,H,t2',H',ho,ha,hb,h=>by cases h;exact⟨t,rfl,ha,hb⟩
 | o::l,i,t,t0,t2,H,t2',H',ho,ha,hb,h=>by
   simp only[eB]at h⊢
   cases hs:cF P call fl (if aK o.op==4&&bH ops b i then fl else H.length) ops o t2 H with
   | none=>rw[hs]at h;cases h
   | some r =>
     obtain⟨t3,H3⟩:=r
     rw[hs]at h
     obtain⟨t4,k1,k2,k3⟩:=uU ha hb (ho o cN) hs
     rw[k1]
     exact wB (fun o hm=>ho o (dA _ hm)) k2 k3 h
theorem zF {fl:Nat}{ops:Array Oper}{b:Array Nat}:∀ {l:List Oper} {i:Nat} {X:List Nat} {Z:List (Nat×List Nat)} {t t0 t2:aE} {H:aD} {t2':aE} {H':aD},(∀ o∈l,gO n ops o=true)->Agree n t t2->Above n t0 t2->fL P call fl ops b i X Z l t2 H=some (t2',H') ->
 ∃ t',fL P call fl ops b i X Z l t H=some (t',H')/\Agree n t' t2'/\Above n t0 t2'
 | [],i,X,Z,t,t0,t2,H,t2',H',ho,ha,hb,h=>by cases h;exact⟨t,rfl,ha,hb⟩
 | o::l,i,X,Z,t,t0,t2,H,t2',H',ho,ha,hb,h=>by
   have hac:cI o.op (eval t)=cI o.op (eval t2):=mE fun x hx=>ha.eval ((uD (ho o cN)).1 x hx)
   simp only[fL]at h⊢
   rw[hac]
   split at h
   ·rename_i hk
    rw[aA hk]
    cases hs:cF P (if eH ops b i o then cM call X else call) fl (if aK o.op==4&&(bH ops b i||qS ops b i o)then fl else H.length) ops o t2 H with
    | none=>rw[hs]at h;cases h
    | some r =>
      obtain⟨t3,H3⟩:=r
      rw[hs]at h
      obtain⟨t4,k1,k2,k3⟩:=uU ha hb (ho o cN) hs
      rw[k1]
      exact zF (fun o hm=>ho o (dA _ hm)) k2 k3 h
   ·cases h
theorem MK {ops:Array Oper}{t t2:aE}(ho:∀ o∈ops.toList,gO n ops o=true)(ha:Agree n t t2)(p:Nat×Nat):dE ops t p=dE ops t2 p:=by
 unfold dE
 have key:∀ (i:Nat) (o:Oper),ops[i]? = some o->cI o.op (eval t)=cI o.op (eval t2)/\j0 o.op (eval t)=j0 o.op (eval t2):=by
  intro i o hi
  have hm:o∈ops.toList:=by
   rw[<- nF]at hi
   exact fW hi
  have:=(uD (ho o hm)).1
  exact⟨mE fun x hx=>ha.eval (this x hx),uV fun x hx=>ha.eval (this x hx)⟩
 cases h1:ops[p.1]? with
 | none=>rfl
 | some o1 =>
   cases h2:ops[p.2]? with
   | none=>rfl
   | some o2=>simp only[(key _ _ h1).1,(key _ _ h1).2,(key _ _ h2).1,(key _ _ h2).2]
theorem GF {fl:Nat}{ops:Array Oper}{draw:Bool}{t t0 t2:aE}{H:aD}{t2':aE}{H':aD}(ho:∀ o∈ops.toList,gO n ops o=true)(ha:Agree n t t2)(hb:Above n t0 t2)(h:cZ P call fl ops draw t2 H=some (t2',H')) :
 ∃ t',cZ P call fl ops draw t H=some (t',H')/\Agree n t' t2'/\Above n t0 t2':=by
 unfold cZ at h⊢
 cases draw with
 | false=>exact BV ho ha hb h
 | true =>
   simp only[aO]at h⊢
   split at h
   ·rename_i hd
    rw[aA hd]
    split at h
    ·rename_i t3 H3 hr
     have hr':∃ t4,(if sG ops (aI ops.toList #[])=true then fL P call fl ops (aI ops.toList #[]) 0 [] [] ops.toList t H else eB P call fl ops (aI ops.toList #[]) 0 ops.toList t H)=some (t4,H3)/\Agree n t4 t3/\Above n t0 t3:=by
      split at hr
      ·rename_i hse;rw[aA hse];exact zF ho ha hb hr
      ·rename_i hse;rw[aC hse];exact wB ho ha hb hr
     obtain⟨t4,k1,k2,k3⟩:=hr'
     rw[k1]
     split at h
     ·rename_i hc
      cases h
      simp only
      rw[aA (by
       rw[bW]at hc⊢
       intro p hp
       rw[MK ho k2]
       exact hc p hp)]
      exact⟨_,rfl,k2,k3⟩
     ·cases h
    ·cases h
   ·cases h
theorem FD {body:aE->aD->Option (bE×aE×aD)}(hbody:∀ (t t0 t2:aE) (H:aD) (e:bE) (t2':aE) (H':aD),Agree n t t2->Above n t0 t2->body t2 H=some (e,t2',H')->∃ t',body t H=some (e,t',H')/\Agree n t' t2'/\Above n t0 t2') :
 ∀ {k:Nat} {t t0 t2:aE} {H:aD} {e:bE} {t2':aE} {H':aD},Agree n t t2->Above n t0 t2->fV body k t2 H=some (e,t2',H')->∃ t',fV body k t H=some (e,t',H')/\Agree n t' t2'/\Above n t0 t2'
 | 0,t,t0,t2,H,e,t2',H',ha,hb,h=>by cases h
 | k+1,t,t0,t2,H,e,t2',H',ha,hb,h=>by
   simp only[fV]at h⊢
   cases hs:body t2 H with
   | none=>rw[hs]at h;cases h
   | some r =>
     obtain⟨e3,t3,H3⟩:=r
     rw[hs]at h
     obtain⟨t4,k1,k2,k3⟩:=hbody _ _ _ _ _ _ _ ha hb hs
     rw[k1]
     cases e3 with
     | normal=>exact FD (body:=body) hbody k2 k3 (by simpa using h)
     | _=>cases h;exact⟨_,rfl,k2,k3⟩
theorem UW {m fl:Nat}:∀ {c:Code},bD n c=true->∀ {t t0 t2:aE} {H:aD} {e:bE} {t2':aE} {H':aD},Agree n t t2->Above n t0 t2->aU P call m fl c t2 H=some (e,t2',H') ->
 ∃ t',aU P call m fl c t H=some (e,t',H')/\Agree n t' t2'/\Above n t0 t2':=by
 intro c
 induction c with
 | skip=>intro ho t t0 t2 H e t2' H' ha hb h;cases h;exact⟨_,rfl,ha,hb⟩
 | label l=>intro ho t t0 t2 H e t2' H' ha hb h;cases h;exact⟨_,rfl,ha,hb⟩
 | exit id=>intro ho t t0 t2 H e t2' H' ha hb h;cases h;exact⟨_,rfl,ha,hb⟩
 | ret=>intro ho t t0 t2 H e t2' H' ha hb h;cases h;exact⟨_,rfl,ha,hb⟩
 | region id ops draw =>
   intro ho t t0 t2 H e t2' H' ha hb h
   simp only[aU]at h⊢
   cases hs:cZ P call fl ops draw t2 H with
   | none=>rw[hs]at h;cases h
   | some r =>
     obtain⟨t3,H3⟩:=r
     rw[hs]at h
     cases h
     obtain⟨t4,k1,k2,k3⟩:=GF (fun o hm=>List.all_eq_true.1 ho o hm) ha hb hs
     rw[k1]
     exact⟨_,rfl,k2,k3⟩
 | seq a b iha ihb =>
   intro ho t t0 t2 H e t2' H' ha hb h
   simp only[bD,aH]at ho
   simp only[aU]at h⊢
   cases hs:aU P call m fl a t2 H with
   | none=>rw[hs]at h;cases h
   | some r =>
     obtain⟨e3,t3,H3⟩:=r
     rw[hs]at h
     obtain⟨t4,k1,k2,k3⟩:=iha ho.1 ha hb hs
     rw[k1]
     cases e3 with
     | normal=>exact ihb ho.2 k2 k3 h
     | _=>cases h;exact⟨_,rfl,k2,k3⟩
 | cond o x y ihx ihy =>
   intro ho t t0 t2 H e t2' H' ha hb h
   simp only[bD,aH]at ho
   simp only[aU]at h⊢
   rw[ha.eval ho.1.1]
   split at h
   ·exact ihx ho.1.2 ha hb h
   ·exact ihy ho.2 ha hb h
   ·cases h
 | block id b ih =>
   intro ho t t0 t2 H e t2' H' ha hb h
   simp only[aU]at h⊢
   cases hs:aU P call m fl b t2 H with
   | none=>rw[hs]at h;cases h
   | some r =>
     obtain⟨e3,t3,H3⟩:=r
     rw[hs]at h
     obtain⟨t4,k1,k2,k3⟩:=ih ho ha hb hs
     rw[k1]
     cases e3 <;> cases h <;> exact⟨_,rfl,k2,k3⟩
 | loop b ih =>
   intro ho t t0 t2 H e t2' H' ha hb h
   simp only[aU]at h⊢
   exact FD (body:=aU P call m fl b) (fun t t0 t2 H e t2' H' ha hb h=>ih ho ha hb h) ha hb h
 | rangeFunc f ps a b _ _=>intro ho;simp[bD]at ho
 | scope b _=>intro ho;simp[bD]at ho
 | goto l=>intro ho t t0 t2 H e t2' H' ha hb h;cases h;exact⟨_,rfl,ha,hb⟩
 | refuse w=>intro ho;simp[bD]at ho
theorem aDP {fl:Nat}{c:Code}{t t2:aE}{H:aD}{Q:bE->aE->aD->Prop}(ho:bD n c=true)(ha:Agree n t t2)(h:W P fl c t2 H Q) :
 W P fl c t H fun e t' H'=>∃ t2',Agree n t' t2'/\Above n t2 t2'/\Q e t2' H':=by
 obtain⟨N,e,t2',H',h1,h2⟩:=h
 obtain⟨t',k1,k2,k3⟩:=UW ho ha (fun i hi=>rfl) h1
 exact⟨N,e,t',H',k1,t2',k2,k3,h2⟩
end
end Go.Mach
