/- Part of the proof. No condition. -/
import Derived.Test.YtcfpfefadlnmcaaGreatYW
import Derived.Test.YtcfpfefadlnmcaaGreatYTrace
namespace Go.Mach
set_option linter.unusedVariables false
set_option linter.unusedSimpArgs false
theorem aHE {P:Program}{fl:Nat}{op:Op}{ev ev':Operand->Value}{H:aE}(h:∀ x∈op.operands,ev x=ev' x):bX P fl op ev H=bX P fl op ev' H:=by
 have parts:∀ ps:Array (Nat×Operand),(∀ x∈(ps.toList.map (·.2)).toArray,ev x=ev' x)->(ps.toList.map fun p=>(p.1,ev p.2))=ps.toList.map fun p=>(p.1,ev' p.2):=by
  intro ps hp
  apply List.map_congr_left
  intro p hm
  rw[hp p.2 (List.mem_toArray.2 (List.mem_map_of_mem hm))]
 have opt:∀ o:Option Operand,(∀ x∈o,ev x=ev' x)->o.map ev=o.map ev':=by
  intro o ho
  cases o with
  | none=>rfl
  | some x=>simp only[Option.map_some,ho x rfl]
 cases op <;> try rfl
 case move x=>simp only[bX,h x (by simp[Op.operands])]
 case assign x=>simp only[bX,h x (by simp[Op.operands])]
 case pick c a b=>simp only[bX,h c (by simp[Op.operands]),h a (by simp[Op.operands]),h b (by simp[Op.operands])]
 case box t x=>simp only[bX,h x (by simp[Op.operands])]
 case build t ps=>simp only[bX,parts ps (fun x hx=>h x (by simpa [Op.operands] using hx))]
 case buildSlice t n ps=>simp only[bX,parts ps (fun x hx=>h x (by simpa [Op.operands] using hx))]
 case load t a=>simp only[bX,h a (by simp[Op.operands])]
 case store t a x=>simp only[bX,h a (by simp[Op.operands]),h x (by simp[Op.operands])]
 case nilCheck x=>simp only[bX,h x (by simp[Op.operands])]
 case binOp o t x y t2=>simp only[bX,h x (by simp[Op.operands]),h y (by simp[Op.operands])]
 case unOp o t x=>simp only[bX,h x (by simp[Op.operands])]
 case convert s d x=>simp only[bX,h x (by simp[Op.operands])]
 case makeFunc fn first caps =>
  have e1:first.map ev=first.map ev':=aFe fun x hx=>h x (by simp[Op.operands,hx])
  have e2:caps.map ev=caps.map ev':=aFe fun x hx=>h x (by simp[Op.operands,hx])
  simp only[bX,e1,e2]
 case makeSlice t l c=>simp only[bX,h l (by simp[Op.operands]),h c (by simp[Op.operands])]
 case slice t x lo hi mx =>
  simp only[bX,h x (by simp[Op.operands]),opt lo (fun y hy=>h y (by cases hy;simp[Op.operands])),opt hi (fun y hy=>h y (by cases hy;simp[Op.operands])),opt mx (fun y hy=>h y (by cases hy;simp[Op.operands]))]
 case fieldAddr s x f=>simp only[bX,h x (by simp[Op.operands])]
 case field s x f=>simp only[bX,h x (by simp[Op.operands])]
 case indexAddr t x ix=>simp only[bX,h x (by simp[Op.operands]),h ix (by simp[Op.operands])]
 case index t x ix=>simp only[bX,h x (by simp[Op.operands]),h ix (by simp[Op.operands])]
 case extract x i=>simp only[bX,h x (by simp[Op.operands])]
 case sliceToArrayPointer t x=>simp only[bX,h x (by simp[Op.operands])]
 case makeInterface t x=>simp only[bX,h x (by simp[Op.operands])]
 case call c =>
  have e1:c.args.map ev=c.args.map ev':=aFe fun x hx=>h x (by simp[Op.operands,Call.operands,hx])
  have e2:∀ f,c.callee = .value f->ev f=ev' f:=fun f hf=>h f (by simp[Op.operands,Call.operands,hf])
  simp only[bX]
  unfold vW
  simp only[e1]
  cases hc:c.callee with
  | value f=>simp only[e2 f hc]
  | _=>rfl
def Agree (n:Nat)(t t2:aJ):Prop:=∀ i,i<n->t i=t2 i
def Above (n:Nat)(t t2:aJ):Prop:=∀ i,n<=i->t2 i=t i
theorem Agree.eval {n:Nat}{t t2:aJ}(h:Agree n t t2){x:Operand}(hx:aS n x=true):eval t x=eval t2 x:=by
 cases x with
 | tmp i=>exact h i (by simpa [aS] using hx)
 | _=>rfl
theorem Agree.put {n:Nat}{t t2:aJ}(h:Agree n t t2)(d:Option Tmp)(v:Value):Agree n (C6 t d v) (C6 t2 d v):=by
 intro i hi
 cases d with
 | none=>exact h i hi
 | some x =>
   show UM t x v i=UM t2 x v i
   unfold UM
   split
   ·rfl
   ·exact h i hi
theorem Above.put {n:Nat}{t t2:aJ}(h:Above n t t2){d:Option Tmp}(hd:d.all (· < n)=true)(v:Value):Above n t (C6 t2 d v):=by
 intro i hi
 cases d with
 | none=>exact h i hi
 | some x =>
   have:x<n:=by simpa using hd
   show UM t2 x v i=t i
   unfold UM
   rw[aA (fun e=>by subst e;exact absurd this (Nat.not_lt.2 hi))]
   exact h i hi
section
variable {P:Program} {call:nS} {n:Nat}
theorem SJ {ops:Array Oper}{o:Oper}(h:tH n ops o=true):(∀ x∈o.op.operands,aS n x=true)/\o.dst.all (· < n)=true/\(match o.guard with
 | some (j,_)=>((ops[j]?).bind (·.dst)).all (· < n)
 | none=>true)=true:=by
 unfold tH at h
 simp only[aI,jG]at h
 exact⟨fun x hx=>h.1.1 x (by simpa using hx),h.1.2,h.2⟩
theorem aDq {ops:Array Oper}{o:Oper}{t t2:aJ}(ha:Agree n t t2)(ho:tH n ops o=true):gN ops t o=gN ops t2 o:=by
 have hg:=(SJ ho).2.2
 unfold gN
 split
 ·rfl
 ·rename_i j w e
  rw[e]at hg
  split
  ·rename_i d hd
   simp only[hd,Option.all_some,aT]at hg
   rw[ha d hg]
  ·rfl
theorem UU {fl flc:Nat}{ops:Array Oper}{o:Oper}{t t0 t2:aJ}{H:aE}{t2':aJ}{H':aE}(ha:Agree n t t2)(hb:Above n t0 t2)(ho:tH n ops o=true)(h:o8 P call fl flc ops o t2 H=some (t2',H')) :
 ∃ t',o8 P call fl flc ops o t H=some (t',H')/\Agree n t' t2'/\Above n t0 t2':=by
 obtain⟨h1,h2,h3⟩:=SJ ho
 have hw:=aDq ha ho
 have hp:bX P fl o.op (eval t) H=bX P fl o.op (eval t2) H:=aHE fun x hx=>ha.eval (h1 x hx)
 unfold o8 at h⊢
 rw[hw]
 by_cases hw2:gN ops t2 o=true
 ·rw[aB hw2]at h⊢
  rw[hp]
  cases hpr:bX P fl o.op (eval t2) H with
  | none=>rw[hpr]at h;cases h
  | some r =>
    obtain⟨a,H1⟩:=r
    rw[hpr]at h
    cases a with
    | value v=>cases h;exact⟨_,rfl,ha.put _ _,hb.put h2 _⟩
    | skip=>cases h;exact⟨_,rfl,ha.put _ _,hb.put h2 _⟩
    | enter f args =>
      simp only at h⊢
      cases hc:call flc f args H1 with
      | none=>rw[hc]at h;cases h
      | some q =>
        obtain⟨v,H2⟩:=q
        rw[hc]at h
        cases h
        exact⟨_,rfl,ha.put _ _,hb.put h2 _⟩
 ·rw[aA hw2]at h⊢
  cases h
  exact⟨_,rfl,ha.put _ _,hb.put h2 _⟩
theorem TS {fl:Nat}{ops:Array Oper}:∀ {l:List Oper} {t t0 t2:aJ} {H:aE} {t2':aJ} {H':aE},(∀ o∈l,tH n ops o=true)->Agree n t t2->Above n t0 t2->yS P call fl ops l t2 H=some (t2',H') ->
 ∃ t',yS P call fl ops l t H=some (t',H')/\Agree n t' t2'/\Above n t0 t2'
 | [],t,t0,t2,H,t2',H',ho,ha,hb,h=>by cases h;exact⟨t,rfl,ha,hb⟩
 | o::l,t,t0,t2,H,t2',H',ho,ha,hb,h=>by
   simp only[yS]at h⊢
   cases hs:o8 P call fl fl ops o t2 H with
   | none=>rw[hs]at h;cases h
   | some r =>
     obtain⟨t3,H3⟩:=r
     rw[hs]at h
     obtain⟨t4,k1,k2,k3⟩:=UU ha hb (ho o jO) hs
     rw[k1]
     exact TS (fun o hm=>ho o (lY _ hm)) k2 k3 h
theorem OL {fl:Nat}{ops:Array Oper}{b:Array Nat}:∀ {l:List Oper} {i:Nat} {t t0 t2:aJ} {H:aE} {t2':aJ} {H':aE},(∀ o∈l,tH n ops o=true)->Agree n t t2->Above n t0 t2->oT P call fl ops b i l t2 H=some (t2',H') ->
 ∃ t',oT P call fl ops b i l t H=some (t',H')/\Agree n t' t2'/\Above n t0 t2'
 | [],i,t,t0,t2,H,t2',H',ho,ha,hb,h=>by cases h;exact⟨t,rfl,ha,hb⟩
 | o::l,i,t,t0,t2,H,t2',H',ho,ha,hb,h=>by
   simp only[oT]at h⊢
   cases hs:o8 P call fl (if cL o.op==4&&lQ ops b i then fl else H.length) ops o t2 H with
   | none=>rw[hs]at h;cases h
   | some r =>
     obtain⟨t3,H3⟩:=r
     rw[hs]at h
     obtain⟨t4,k1,k2,k3⟩:=UU ha hb (ho o jO) hs
     rw[k1]
     exact OL (fun o hm=>ho o (lY _ hm)) k2 k3 h
theorem aCB {ops:Array Oper}{t t2:aJ}(ho:∀ o∈ops.toList,tH n ops o=true)(ha:Agree n t t2)(p:Nat×Nat):nW ops t p=nW ops t2 p:=by
 unfold nW
 have key:∀ (i:Nat) (o:Oper),ops[i]? = some o->pI o.op (eval t)=pI o.op (eval t2)/\xY o.op (eval t)=xY o.op (eval t2):=by
  intro i o hi
  have hm:o∈ops.toList:=by
   rw[<- yC]at hi
   exact sR hi
  have:=(SJ (ho o hm)).1
  exact⟨O7 fun x hx=>ha.eval (this x hx),RV fun x hx=>ha.eval (this x hx)⟩
 cases h1:ops[p.1]? with
 | none=>rfl
 | some o1 =>
   cases h2:ops[p.2]? with
   | none=>rfl
   | some o2=>simp only[(key _ _ h1).1,(key _ _ h1).2,(key _ _ h2).1,(key _ _ h2).2]
theorem YN {fl:Nat}{ops:Array Oper}{draw:Bool}{t t0 t2:aJ}{H:aE}{t2':aJ}{H':aE}(ho:∀ o∈ops.toList,tH n ops o=true)(ha:Agree n t t2)(hb:Above n t0 t2)(h:j8 P call fl ops draw t2 H=some (t2',H')) :
 ∃ t',j8 P call fl ops draw t H=some (t',H')/\Agree n t' t2'/\Above n t0 t2':=by
 unfold j8 at h⊢
 cases draw with
 | false=>exact TS ho ha hb h
 | true =>
   simp only[bS]at h⊢
   split at h
   ·rename_i hd
    rw[aB hd]
    split at h
    ·rename_i t3 H3 hr
     obtain⟨t4,k1,k2,k3⟩:=OL ho ha hb hr
     rw[k1]
     split at h
     ·rename_i hc
      cases h
      simp only
      rw[aB (by
       rw[jG]at hc⊢
       intro p hp
       rw[aCB ho k2]
       exact hc p hp)]
      exact⟨_,rfl,k2,k3⟩
     ·cases h
    ·cases h
   ·cases h
theorem W2 {body:aJ->aE->Option (f9×aJ×aE)}(hbody:∀ (t t0 t2:aJ) (H:aE) (e:f9) (t2':aJ) (H':aE),Agree n t t2->Above n t0 t2->body t2 H=some (e,t2',H')->∃ t',body t H=some (e,t',H')/\Agree n t' t2'/\Above n t0 t2') :
 ∀ {k:Nat} {t t0 t2:aJ} {H:aE} {e:f9} {t2':aJ} {H':aE},Agree n t t2->Above n t0 t2->GA body k t2 H=some (e,t2',H')->∃ t',GA body k t H=some (e,t',H')/\Agree n t' t2'/\Above n t0 t2'
 | 0,t,t0,t2,H,e,t2',H',ha,hb,h=>by cases h
 | k+1,t,t0,t2,H,e,t2',H',ha,hb,h=>by
   simp only[GA]at h⊢
   cases hs:body t2 H with
   | none=>rw[hs]at h;cases h
   | some r =>
     obtain⟨e3,t3,H3⟩:=r
     rw[hs]at h
     obtain⟨t4,k1,k2,k3⟩:=hbody _ _ _ _ _ _ _ ha hb hs
     rw[k1]
     cases e3 with
     | normal=>exact W2 (body:=body) hbody k2 k3 (by simpa using h)
     | _=>cases h;exact⟨_,rfl,k2,k3⟩
theorem aHU {m fl:Nat}:∀ {c:Code},jA n c=true->∀ {t t0 t2:aJ} {H:aE} {e:f9} {t2':aJ} {H':aE},Agree n t t2->Above n t0 t2->lD P call m fl c t2 H=some (e,t2',H') ->
 ∃ t',lD P call m fl c t H=some (e,t',H')/\Agree n t' t2'/\Above n t0 t2':=by
 intro c
 induction c with
 | skip=>intro ho t t0 t2 H e t2' H' ha hb h;cases h;exact⟨_,rfl,ha,hb⟩
 | label l=>intro ho t t0 t2 H e t2' H' ha hb h;cases h;exact⟨_,rfl,ha,hb⟩
 | exit id=>intro ho t t0 t2 H e t2' H' ha hb h;cases h;exact⟨_,rfl,ha,hb⟩
 | ret=>intro ho t t0 t2 H e t2' H' ha hb h;cases h;exact⟨_,rfl,ha,hb⟩
 | region id ops draw =>
   intro ho t t0 t2 H e t2' H' ha hb h
   simp only[lD]at h⊢
   cases hs:j8 P call fl ops draw t2 H with
   | none=>rw[hs]at h;cases h
   | some r =>
     obtain⟨t3,H3⟩:=r
     rw[hs]at h
     cases h
     obtain⟨t4,k1,k2,k3⟩:=YN (fun o hm=>List.all_eq_true.1 ho o hm) ha hb hs
     rw[k1]
     exact⟨_,rfl,k2,k3⟩
 | seq a b iha ihb =>
   intro ho t t0 t2 H e t2' H' ha hb h
   simp only[jA,aI]at ho
   simp only[lD]at h⊢
   cases hs:lD P call m fl a t2 H with
   | none=>rw[hs]at h;cases h
   | some r =>
     obtain⟨e3,t3,H3⟩:=r
     rw[hs]at h
     obtain⟨t4,k1,k2,k3⟩:=iha ho.1 ha hb hs
     rw[k1]
     cases e3 with
     | normal=>exact ihb ho.2 k2 k3 h
     | _=>cases h;exact⟨_,rfl,k2,k3⟩
 | cond o x y ihx ihy =>
   intro ho t t0 t2 H e t2' H' ha hb h
   simp only[jA,aI]at ho
   simp only[lD]at h⊢
   rw[ha.eval ho.1.1]
   split at h
   ·exact ihx ho.1.2 ha hb h
   ·exact ihy ho.2 ha hb h
   ·cases h
 | block id b ih =>
   intro ho t t0 t2 H e t2' H' ha hb h
   simp only[lD]at h⊢
   cases hs:lD P call m fl b t2 H with
   | none=>rw[hs]at h;cases h
   | some r =>
     obtain⟨e3,t3,H3⟩:=r
     rw[hs]at h
     obtain⟨t4,k1,k2,k3⟩:=ih ho ha hb hs
     rw[k1]
     cases e3 <;> cases h <;> exact⟨_,rfl,k2,k3⟩
 | loop b ih =>
   intro ho t t0 t2 H e t2' H' ha hb h
   simp only[lD]at h⊢
   exact W2 (body:=lD P call m fl b) (fun t t0 t2 H e t2' H' ha hb h=>ih ho ha hb h) ha hb h
 | rangeFunc f ps a b _ _=>intro ho;simp[jA]at ho
 | scope b _=>intro ho;simp[jA]at ho
 | goto l=>intro ho t t0 t2 H e t2' H' ha hb h;cases h;exact⟨_,rfl,ha,hb⟩
 | refuse w=>intro ho;simp[jA]at ho
theorem aLk {fl:Nat}{c:Code}{t t2:aJ}{H:aE}{Q:f9->aJ->aE->Prop}(ho:jA n c=true)(ha:Agree n t t2)(h:W P fl c t2 H Q) :
 W P fl c t H fun e t' H'=>∃ t2',Agree n t' t2'/\Above n t2 t2'/\Q e t2' H':=by
 obtain⟨N,e,t2',H',h1,h2⟩:=h
 obtain⟨t',k1,k2,k3⟩:=aHU ho ha (fun i hi=>rfl) h1
 exact⟨N,e,t',H',k1,t2',k2,k3,h2⟩
end
end Go.Mach
