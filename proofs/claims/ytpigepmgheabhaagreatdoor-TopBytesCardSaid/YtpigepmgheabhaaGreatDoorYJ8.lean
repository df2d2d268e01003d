/- Part of the proof. No condition. -/
import Derived.Test.YtpigepmgheabhaaGreatDoorYJ7
import Derived.Test.YtpigepmgheabhaaGreatDoorYTrace
namespace Go.Mach.J
open Go Go.Mach
section
variable {P:Program}
def ZC (lo:Bool)(fl:Nat)(H:aD):Nat:=if lo then fl else H.length
theorem aF5 {o:KO}{op:Op}{lo:Bool}(hks:KS P o op):∀ f,loF lo o = .mk f->∀ call ck fl T t K H k,f8 call ck->TRel T t->c6 K H->f ck fl fl T K k ->
 ∃ v K' H',rA P call fl (ZC lo fl H) op (eval t) H=some (v,H')/\c6 K' H'/\k v K':=by
 intro f hf call ck fl T t K H k hS hT hH h
 cases o with
 | mk g =>
   cases lo with
   | true =>
     cases hf
     exact hks call ck fl fl T t K H k hS hT hH h
   | false =>
     cases hf
     obtain⟨n,tr⟩:=K
     have:=hH.1
     simp only at this
     subst this
     exact hks call ck fl H.length T t ⟨H.length,tr⟩ H k hS hT hH h
def isV (b:Bool):Value->Bool
 | .bool c=>c==b
 | _=>false
theorem uP {call:aQ}{fl flc:Nat}{ops:Array Oper}{o:Oper}{t:aE}{H H':aD}{v:Value}(hw:bS ops t o=true)(h:rA P call fl flc o.op (eval t) H=some (v,H')) :
 cF P call fl flc ops o t H=some (lN t o.dst v,H'):=by
 unfold rA at h
 unfold cF
 rw[aA hw]
 cases hp:aJ P fl o.op (eval t) H with
 | none=>rw[hp]at h;cases h
 | some r =>
   obtain⟨r,H1⟩:=r
   rw[hp]at h
   cases r with
   | value u=>cases h;rfl
   | skip=>cases h;rfl
   | enter f args=>simp only at h⊢;rw[h]
theorem IE {call:aQ}{fl flc:Nat}{ops:Array Oper}{o:Oper}{t:aE}{H:aD}(hw:bS ops t o=false):cF P call fl flc ops o t H=some (lN t o.dst undef,H):=by
 unfold cF
 rw[aC (by rw[hw];exact Bool.false_ne_true)]
theorem RI {v:Value}{k:Bool->Prop}{e:Prop}(h:W7 v k e):(∃ b,v = .bool b/\k b)\/((∀ b,v ≠ .bool b)/\e):=by
 cases v with
 | bool b=>exact .inl ⟨b,rfl,h⟩
 | _=>exact .inr ⟨(fun b h=>by cases h),h⟩
theorem RA {v:Value}{b:Bool}{p q:Prop}(h:RG v b p q):((∃ c,v = .bool c/\(c==b)=true)/\p)\/(isV b v=false/\q):=by
 rcases RI h with⟨c,rfl,h1⟩|⟨h1,h2⟩
 ·cases c <;> cases b
  ·exact .inl ⟨⟨false,rfl,rfl⟩,h1⟩
  ·exact .inr ⟨rfl,h1⟩
  ·exact .inr ⟨rfl,h1⟩
  ·exact .inl ⟨⟨true,rfl,rfl⟩,h1⟩
 ·refine .inr ⟨?_,h2⟩
  cases v with
  | bool c=>exact absurd rfl (h1 c)
  | _=>rfl
theorem B7 {call:aQ}{ck:KC}{fl:Nat}{ops:Array Oper}{o:Oper}{lo:Bool}{r:KR}{T:TT}{t:aE}{K:HT}{H:aD}{k:TT->HT->Prop}(hS:f8 call ck)(hT:TRel T t)(hH:c6 K H)
 (h:sQ ck fl (OC P ops o lo r) T K k):∃ T' t' K' H',cF P call fl (ZC lo fl H) ops o t H=some (t',H')/\TRel T' t'/\c6 K' H'/\sQ ck fl r T' K' k:=by
 have hop:=aF5 (lo:=lo) (aAc (P:=P) o.op)
 have hput:∀ {d:Nat} {v:Value} {T:TT} {k:TT->Prop} {w:WF},d<256->cw d = .mk w->o.dst=some d->TRel T t->w v T k->∃ T',TRel T' (lN t o.dst v)/\k T':=by
  intro d v T k w hd hw ho hT h
  obtain⟨h1,h2⟩:=aCi (k:=k) hd hT (by rw[hw];exact h)
  exact⟨_,by rw[ho];exact h1,h2⟩
 unfold OC at h
 split at h
 ·rename_i f hf hg
  have hw:bS ops t o=true:=by unfold bS;rw[hg]
  split at h
  ·rename_i d hd
   split at h
   ·rename_i hd256
    split at h
    rename_i w hcw
    obtain⟨v,K',H',h1,h2,h3⟩:=hop f hf call ck fl T t K H (fun v K=>w v T fun T=>sQ ck fl r T K k) hS hT hH h
    obtain⟨T',h4,h5⟩:=hput (k:=fun T=>sQ ck fl r T K' k) hd256 hcw hd hT h3
    exact⟨T',_,K',H',uP hw h1,h4,h2,h5⟩
   ·exact h.elim
  ·rename_i hd
   obtain⟨v,K',H',h1,h2,h3⟩:=hop f hf call ck fl T t K H (fun _ K=>sQ ck fl r T K k) hS hT hH h
   exact⟨T,_,K',H',uP hw h1,by rw[hd];exact hT,h2,h3⟩
 ·rename_i f j b hf hg
  split at h
  ·rename_i gd hgd
   have hwant:∀ c:Bool,isV b (t gd)=c->bS ops t o=c:=by
    intro c hc
    unfold bS
    rw[hg]
    simp only[hgd]
    rw[<- hc]
    cases t gd <;> rfl
   split at h
   ·rename_i g d hcg hd
    split at h
    ·rename_i hd256
     split at h
     rename_i w hcw
     have h0:=bP (x := .tmp gd) (k:=fun v=>RG v b (f ck fl fl T K fun v K=>w v T fun T=>sQ ck fl r T K k) (w undef T fun T=>sQ ck fl r T K k)) hT (by rw[hcg];exact h)
     rcases RA h0 with⟨⟨c,hc,hcb⟩,h1⟩|⟨hn,h1⟩
     ·have hw:=hwant true (by simp only[eval]at hc;rw[hc];exact hcb)
      obtain⟨v,K',H',h1,h2,h3⟩:=hop f hf call ck fl T t K H (fun v K=>w v T fun T=>sQ ck fl r T K k) hS hT hH h1
      obtain⟨T',h4,h5⟩:=hput (k:=fun T=>sQ ck fl r T K' k) hd256 hcw hd hT h3
      exact⟨T',_,K',H',uP hw h1,h4,h2,h5⟩
     ·have hw:=hwant false hn
      obtain⟨T',h4,h5⟩:=hput (k:=fun T=>sQ ck fl r T K k) hd256 hcw hd hT h1
      exact⟨T',_,K,H,IE hw,h4,hH,h5⟩
    ·exact h.elim
   ·rename_i g hcg hd
    have h0:=bP (x := .tmp gd) (k:=fun v=>RG v b (f ck fl fl T K fun _ K=>sQ ck fl r T K k) (sQ ck fl r T K k)) hT (by rw[hcg];exact h)
    rcases RA h0 with⟨⟨c,hc,hcb⟩,h1⟩|⟨hn,h1⟩
    ·have hw:=hwant true (by simp only[eval]at hc;rw[hc];exact hcb)
     obtain⟨v,K',H',h1,h2,h3⟩:=hop f hf call ck fl T t K H (fun _ K=>sQ ck fl r T K k) hS hT hH h1
     exact⟨T,_,K',H',uP hw h1,by rw[hd];exact hT,h2,h3⟩
    ·have hw:=hwant false hn
     exact⟨T,_,K,H,IE hw,by rw[hd];exact hT,hH,h1⟩
  ·exact h.elim
theorem aAY {call:aQ}{ck:KC}{fl:Nat}{ops:Array Oper}(hS:f8 call ck):∀ (l:List Oper) {T:TT} {t:aE} {K:HT} {H:aD} {k:TT->HT->Prop},TRel T t->c6 K H->sQ ck fl (cRg P ops l) T K k ->
 ∃ T' t' K' H',kQ P call fl ops l t H=some (t',H')/\TRel T' t'/\c6 K' H'/\k T' K'
 | [],T,t,K,H,k,hT,hH,h=>⟨T,t,K,H,rfl,hT,hH,h⟩
 | o::l,T,t,K,H,k,hT,hH,h=>by
   obtain⟨T1,t1,K1,H1,h1,h2,h3,h4⟩:=B7 hS hT hH h
   obtain⟨T2,t2,K2,H2,h5,h6,h7,h8⟩:=aAY hS l h2 h3 h4
   refine⟨T2,t2,K2,H2,?_,h6,h7,h8⟩
   simp only[ZC,aO]at h1
   simp only[kQ,h1,h5]
theorem aCq {call:aQ}{ck:KC}{fl:Nat}{ops:Array Oper}{b:Array Nat}(hS:f8 call ck):∀ (l:List Oper) (i:Nat) {T:TT} {t:aE} {K:HT} {H:aD} {k:TT->HT->Prop},TRel T t->c6 K H->sQ ck fl (cDr P ops b i l) T K k ->
 ∃ T' t' K' H',eB P call fl ops b i l t H=some (t',H')/\TRel T' t'/\c6 K' H'/\k T' K'
 | [],_,T,t,K,H,k,hT,hH,h=>⟨T,t,K,H,rfl,hT,hH,h⟩
 | o::l,i,T,t,K,H,k,hT,hH,h=>by
   obtain⟨T1,t1,K1,H1,h1,h2,h3,h4⟩:=B7 hS hT hH h
   obtain⟨T2,t2,K2,H2,h5,h6,h7,h8⟩:=aCq hS l (i+1) h2 h3 h4
   refine⟨T2,t2,K2,H2,?_,h6,h7,h8⟩
   simp only[eB]
   rw[show(if (aK o.op==4&&bH ops b i)=true then fl else H.length)=ZC (aK o.op==4&&bH ops b i) fl H from rfl,h1]
   exact h5
theorem M1 {T:TT}{t:aE}(hT:TRel T t){op:Op}(h:(EX op).all (fun d=>Nat.blt d 256)=true):∀ x∈op.operands,eval T.fn x=eval t x:=by
 intro x hx
 cases x with
 | tmp d =>
   have:d∈EX op:=List.mem_filterMap.2 ⟨.tmp d,by simpa using hx,rfl⟩
   have:=List.all_eq_true.1 h d this
   exact hT d (by simpa [Nat.blt_eq] using this)
 | _=>rfl
theorem aCb {ops:Array Oper}{T:TT}{t:aE}(hT:TRel T t)(h:A3 ops=true)(p:Nat×Nat):dE ops T.fn p=dE ops t p:=by
 have key:∀ (i:Nat) (o:Oper),ops[i]? = some o->cI o.op (eval T.fn)=cI o.op (eval t)/\j0 o.op (eval T.fn)=j0 o.op (eval t):=by
  intro i o hi
  have hm:o∈ops.toList:=by
   rw[<- nF]at hi
   exact fW hi
  have:=M1 hT (List.all_eq_true.1 h o hm)
  exact⟨mE this,uV this⟩
 unfold dE
 cases h1:ops[p.1]? with
 | none=>rfl
 | some o1 =>
   cases h2:ops[p.2]? with
   | none=>rfl
   | some o2=>simp only[(key _ _ h1).1,(key _ _ h1).2,(key _ _ h2).1,(key _ _ h2).2]
theorem EB {ops:Array Oper}{T:TT}{t:aE}(hT:TRel T t)(ht:A3 ops=true):∀ {l:List (Nat×Nat)} {p:Prop},LK ops l T p->l.all (dE ops t)=true/\p
 | [],_,h=>⟨rfl,h⟩
 | x::l,p,h=>by
   obtain⟨h1,h2⟩:=bU.1 (show chk (dE ops T.fn x) (LK ops l T p)from h)
   obtain⟨h3,h4⟩:=EB hT ht h2
   refine⟨?_,h4⟩
   rw[List.all_cons,h3,<- aCb hT ht,h1]
   rfl
theorem E4:∀ (X:List Nat) {K:HT} {H:aD} {k:HT->Prop},c6 K H->W9 X K k->∃ K',c6 K' (kV X H)/\k K'
 | [],K,H,k,hH,h=>⟨K,hH,h⟩
 | x::X,K,H,k,hH,h=>by
   obtain⟨n,t⟩:=K
   have hsz:=hH.1
   simp only at hsz
   rcases cO.1 (show ifB (Nat.blt x n) (vF ⟨n,t⟩ x none (fun H=>W9 X H k)) (W9 X ⟨n,t⟩ k)from h)with⟨h1,h2⟩|⟨h1,h2⟩
   ·have h1:x<n:=by simpa [Nat.blt_eq] using h1
    cases hx:H[x]? with
    | none=>rw[O2]at hx;omega
    | some B =>
      obtain⟨K1,h3,h4⟩:=J0 (L:={ B with alive:=false }) hH h1 h2
      have he:rQ H x=H.set x { B with alive:=false }:=by unfold rQ;rw[hx]
      show ∃ K',c6 K' (kV X (rQ H x))/\k K'
      rw[he]
      exact E4 X h3 h4
   ·have h1 : ¬ x<n:=by simpa [<- Bool.not_eq_true,Nat.blt_eq] using h1
    have he:rQ H x=H:=by unfold rQ;rw[qX (by omega)]
    show ∃ K',c6 K' (kV X (rQ H x))/\k K'
    rw[he]
    exact E4 X hH h2
theorem rT {K0:HT}{H0:aD}(h0:c6 K0 H0):∀ (X:List Nat) {K:HT} {H:aD} {k:HT->Prop},H0.length<=H.length->c6 K H->CL X K0 K k->∃ K',c6 K' (gG X H0 H)/\k K'
 | [],K,H,k,_,hH,h=>⟨K,hH,h⟩
 | x::X,K,H,k,hl,hH,h=>by
   obtain⟨n,t⟩:=K0
   have hsz:=h0.1
   simp only at hsz
   show ∃ K',c6 K' (gG X H0 (lF H0 H x))/\k K'
   rcases cO.1 (show ifB (Nat.blt x n) (aAW (pth x) t fun o=>vF K x o (fun H=>CL X ⟨n,t⟩ H k)) (CL X ⟨n,t⟩ K k)from h)with⟨h1,h2⟩|⟨h1,h2⟩
   ·have h1:x<n:=by simpa [Nat.blt_eq] using h1
    have h3:=(wZ (pth x) t (fun o=>vF K x o (fun H=>CL X ⟨n,t⟩ H k))).1 h2
    have hxK:x<K.size:=by rw[hH.1];omega
    cases hx:H0[x]? with
    | none=>rw[O2]at hx;omega
    | some B =>
      have he:lF H0 H x=H.set x B:=by unfold lF;rw[hx]
      rw[he]
      cases hg:t.get (pth x)with
      | none =>
        rw[hg]at h3
        obtain⟨K1,h4,h5⟩:=J0 (L:=B) hH hxK h3
        exact rT h0 X (by rw[List.length_set];exact hl) h4 h5
      | some C =>
        rw[hg]at h3
        obtain⟨L,hL,hC⟩:=h0.2.2 x C h1 hg
        rw[hx]at hL
        cases hL
        obtain⟨K1,h4,h5⟩:=QP hH hxK hC h3
        exact rT h0 X (by rw[List.length_set];exact hl) h4 h5
   ·have h1 : ¬ x<n:=by simpa [<- Bool.not_eq_true,Nat.blt_eq] using h1
    have he:lF H0 H x=H:=by unfold lF;rw[qX (by omega)]
    rw[he]
    exact rT h0 X hl hH h2
theorem aCO {call:aQ}{ck:KC}(hk:CallerKept call)(hS:f8 call ck)(X:List Nat):f8 (cM call X) (aEP X ck):=by
 intro fl f args T H k hH h
 obtain⟨K1,h1,h2⟩:=E4 X hH h
 obtain⟨v,K2,H2,h3,h4,h5⟩:=hS fl f args K1 (kV X H) _ h1 h2
 have hl:H.length<=H2.length:=by have:=(hk _ _ _ _ _ _ h3).len;rw[eO]at this;exact this
 obtain⟨K3,h6,h7⟩:=rT hH X hl h4 h5
 exact⟨v,K3,_,by unfold cM;rw[h3],h6,h7⟩
theorem LU {call:aQ}{ck:KC}{fl:Nat}{ops:Array Oper}{b:Array Nat}(hk:CallerKept call)(hS:f8 call ck)(ht:A3 ops=true):∀ (l:List Oper) (i:Nat) (X:List Nat) (Z:List (Nat×List Nat)) {T:TT} {t:aE} {K:HT} {H:aD} {k:TT->HT->Prop},(∀ o∈l,o∈ops.toList)->TRel T t->c6 K H ->
 aEo P ck fl ops b l i X Z T K k->∃ T' t' K' H',fL P call fl ops b i X Z l t H=some (t',H')/\TRel T' t'/\c6 K' H'/\k T' K'
 | [],_,_,_,T,t,K,H,k,_,hT,hH,h=>⟨T,t,K,H,rfl,hT,hH,h⟩
 | o::l,i,X,Z,T,t,K,H,k,hm,hT,hH,h=>by
   have hac:cI o.op (eval T.fn)=cI o.op (eval t):=mE (M1 hT (List.all_eq_true.1 ht o (hm o cN)))
   obtain⟨h1,h2⟩:=bU.1 (show chk (CS b i Z (cI o.op (eval T.fn))) _ from h)
   rw[hac]at h1 h2
   simp only[fL]
   rw[aA h1]
   have hm':∀ o∈l,o∈ops.toList:=fun p hp=>hm p (dA _ hp)
   rcases cO.1 h2 with⟨h3,h4⟩|⟨h3,h4⟩
   ·obtain⟨T1,t1,K1,H1,h5,h6,h7,h8⟩:=B7 (aCO hk hS X) hT hH h4
    obtain⟨T2,t2,K2,H2,h9,h10,h11,h12⟩:=LU hk hS ht l (i+1) _ _ hm' h6 h7 h8
    refine⟨T2,t2,K2,H2,?_,h10,h11,h12⟩
    rw[aA h3,aA h3]
    unfold ZC at h5
    rw[h5]
    exact h9
   ·have h3' : ¬ eH ops b i o=true:=by rw[h3];exact Bool.false_ne_true
    obtain⟨T1,t1,K1,H1,h5,h6,h7,h8⟩:=B7 hS hT hH h4
    obtain⟨T2,t2,K2,H2,h9,h10,h11,h12⟩:=LU hk hS ht l (i+1) _ _ hm' h6 h7 h8
    refine⟨T2,t2,K2,H2,?_,h10,h11,h12⟩
    rw[aC h3',aC h3']
    unfold ZC at h5
    rw[h5]
    exact h9
theorem aAp {call:aQ}{ck:KC}{fl:Nat}{ops:Array Oper}{draw:Bool}{T:TT}{t:aE}{K:HT}{H:aD}{k:TT->HT->Prop}(hk:CallerKept call)(hS:f8 call ck)(hT:TRel T t)(hH:c6 K H)
 (h:aFz P ck fl ops draw T K k):∃ T' t' K' H',cZ P call fl ops draw t H=some (t',H')/\TRel T' t'/\c6 K' H'/\k T' K':=by
 unfold aFz at h
 cases draw with
 | false =>
   obtain⟨T',t',K',H',h1,h2,h3,h4⟩:=aAY hS ops.toList hT hH (show sQ ck fl (cRg P ops ops.toList) T K k from h)
   refine⟨T',t',K',H',?_,h2,h3,h4⟩
   unfold cZ
   simp only[eK,aS]
   exact h1
 | true =>
   unfold cZ
   simp only[aO]
   by_cases hs:sG ops (aI ops.toList #[])=true
   ·simp only[aFw,aA hs]at h
    by_cases hc:(gU ops (aI ops.toList #[])&&(b7 ops (aI ops.toList #[])).all (fun p=>c7 ops p.1&&c7 ops p.2)&&A3 ops)=true
    ·rw[aA hc]at h
     simp only[aH]at hc
     obtain⟨T',t',K',H',h1,h2,h3,h4⟩:=LU hk hS hc.2 ops.toList 0 [] [] (fun _ h=>h) hT hH h
     obtain⟨h5,h6⟩:=EB h2 hc.2 h4
     refine⟨T',t',K',H',?_,h2,h3,h6⟩
     simp only[hc.1.1,hc.1.2,oZ,aO,hs,h1,h5]
    ·rw[aC hc]at h
     exact h.elim
   ·simp only[aFw,aC hs]at h
    have main:∀ (k':TT->HT->Prop),sQ ck fl (XH P ops) T K k'->gU ops (aI ops.toList #[])=true/\(b7 ops (aI ops.toList #[])).all (fun p=>c7 ops p.1&&c7 ops p.2)=true/\A3 ops=true /\
     ∃ T' t' K' H',eB P call fl ops (aI ops.toList #[]) 0 ops.toList t H=some (t',H')/\TRel T' t'/\c6 K' H'/\k' T' K':=by
     intro k' h
     unfold XH at h
     split at h
     ·rename_i hc
      simp only[aH,xH]at hc
      exact⟨hc.1.1.1,hc.1.2,hc.2,aCq hS ops.toList 0 hT hH h⟩
     ·exact h.elim
    cases hcl:b7 ops (aI ops.toList #[])with
    | nil =>
      rw[hcl]at h
      obtain⟨e1,e2,e3,T',t',K',H',h1,h2,h3,h4⟩:=main k h
      rw[hcl]at e2
      refine⟨T',t',K',H',?_,h2,h3,h4⟩
      simp only[e1,e2,oZ,aO,aC hs,h1,List.all_nil]
    | cons x l =>
      rw[hcl]at h
      obtain⟨e1,e2,e3,T',t',K',H',h1,h2,h3,h4⟩:=main (fun T H=>LK ops (x::l) T (k T H)) h
      rw[hcl]at e2
      obtain⟨h5,h6⟩:=EB h2 e3 h4
      refine⟨T',t',K',H',?_,h2,h3,h6⟩
      simp only[e1,e2,oZ,aO,aC hs,h1,h5]
def nJ (kn:TT->HT->Prop)(x:bE->TT->HT->Prop)(e:bE)(T:TT)(H:HT):Prop:=match e with
 | .normal=>kn T H
 | e=>x e T H
def XS (f:aE->aD->Option (bE×aE×aD))(g:XT):Prop:=∀ T t K H kn x,TRel T t->c6 K H->g T K kn x ->
 ∃ e T' t' K' H',f t H=some (e,t',H')/\TRel T' t'/\c6 K' H'/\nJ kn x e T' K'
theorem RB {f:aE->aD->Option (bE×aE×aD)}{g:XT}(hf:XS f g):∀ (m:Nat) (T:TT) (t:aE) (K:HT) (H:aD) (x:bE->TT->HT->Prop),TRel T t->c6 K H->aBZ g m T K x ->
 ∃ e T' t' K' H',fV f m t H=some (e,t',H')/\TRel T' t'/\c6 K' H'/\nJ (fun _ _=>False) x e T' K'
 | 0,_,_,_,_,_,_,_,h=>h.elim
 | m+1,T,t,K,H,x,hT,hH,h=>by
   obtain⟨e,T1,t1,K1,H1,h1,h2,h3,h4⟩:=hf T t K H (fun T K=>aBZ g m T K x) x hT hH h
   cases e with
   | normal =>
     obtain⟨e2,T2,t2,K2,H2,h5,h6,h7,h8⟩:=RB hf m T1 t1 K1 H1 x h2 h3 h4
     exact⟨e2,T2,t2,K2,H2,by simp only[fV,h1,h5],h6,h7,h8⟩
   | exit i=>exact⟨.exit i,T1,t1,K1,H1,by simp only[fV,h1],h2,h3,h4⟩
   | goto i=>exact⟨.goto i,T1,t1,K1,H1,by simp only[fV,h1],h2,h3,h4⟩
   | ret=>exact⟨.ret,T1,t1,K1,H1,by simp only[fV,h1],h2,h3,h4⟩
theorem aBK {call:aQ}{ck:KC}(hk:CallerKept call)(hS:f8 call ck)(m fl:Nat):∀ (c:Code),XS (aU P call m fl c) (RK P ck m fl c):=by
 intro c
 induction c with
 | skip=>intro T t K H kn x hT hH h;exact⟨.normal,T,t,K,H,rfl,hT,hH,h⟩
 | label l=>intro T t K H kn x hT hH h;exact⟨.normal,T,t,K,H,rfl,hT,hH,h⟩
 | exit id=>intro T t K H kn x hT hH h;exact⟨.exit id,T,t,K,H,rfl,hT,hH,h⟩
 | goto l=>intro T t K H kn x hT hH h;exact⟨.goto l,T,t,K,H,rfl,hT,hH,h⟩
 | ret=>intro T t K H kn x hT hH h;exact⟨.ret,T,t,K,H,rfl,hT,hH,h⟩
 | rangeFunc=>intro T t K H kn x hT hH h;exact h.elim
 | scope=>intro T t K H kn x hT hH h;exact h.elim
 | refuse=>intro T t K H kn x hT hH h;exact h.elim
 | region id ops draw =>
   intro T t K H kn x hT hH h
   obtain⟨T',t',K',H',h1,h2,h3,h4⟩:=aAp (P:=P) hk hS hT hH h
   exact⟨.normal,T',t',K',H',by simp only[aU,h1],h2,h3,h4⟩
 | seq a b iha ihb =>
   intro T t K H kn x hT hH h
   obtain⟨e,T1,t1,K1,H1,h1,h2,h3,h4⟩:=iha T t K H (fun T K=>RK P ck m fl b T K kn x) x hT hH h
   cases e with
   | normal =>
     obtain⟨e2,T2,t2,K2,H2,h5,h6,h7,h8⟩:=ihb T1 t1 K1 H1 kn x h2 h3 h4
     exact⟨e2,T2,t2,K2,H2,by simp only[aU,h1,h5],h6,h7,h8⟩
   | exit i=>exact⟨.exit i,T1,t1,K1,H1,by simp only[aU,h1],h2,h3,h4⟩
   | goto i=>exact⟨.goto i,T1,t1,K1,H1,by simp only[aU,h1],h2,h3,h4⟩
   | ret=>exact⟨.ret,T1,t1,K1,H1,by simp only[aU,h1],h2,h3,h4⟩
 | cond c a b iha ihb =>
   intro T t K H kn x hT hH h
   have h1:=bP (k:=fun v=>JH v fun d=>ifB d (RK P ck m fl a T K kn x) (RK P ck m fl b T K kn x)) hT h
   obtain⟨d,hd,h2⟩:=HK h1
   rcases cO.1 h2 with⟨rfl,h3⟩|⟨rfl,h3⟩
   ·obtain⟨e,T1,t1,K1,H1,h4,h5⟩:=iha T t K H kn x hT hH h3
    exact⟨e,T1,t1,K1,H1,by simp only[aU,hd,h4],h5⟩
   ·obtain⟨e,T1,t1,K1,H1,h4,h5⟩:=ihb T t K H kn x hT hH h3
    exact⟨e,T1,t1,K1,H1,by simp only[aU,hd,h4],h5⟩
 | block id a ih =>
   intro T t K H kn x hT hH h
   obtain⟨e,T1,t1,K1,H1,h1,h2,h3,h4⟩:=ih T t K H kn _ hT hH h
   cases e with
   | normal=>exact⟨.normal,T1,t1,K1,H1,by simp only[aU,h1],h2,h3,h4⟩
   | exit i =>
     rcases cO.1 h4 with⟨h5,h6⟩|⟨h5,h6⟩
     ·have h5:i=id:=Nat.eq_of_beq_eq_true h5
      exact⟨.normal,T1,t1,K1,H1,by simp only[aU,h1,h5,aO],h2,h3,h6⟩
     ·have h5:i≠id:=Nat.ne_of_beq_eq_false h5
      exact⟨.exit i,T1,t1,K1,H1,by simp only[aU,h1,h5,aS],h2,h3,h6⟩
   | goto i=>exact⟨.goto i,T1,t1,K1,H1,by simp only[aU,h1],h2,h3,h4⟩
   | ret=>exact⟨.ret,T1,t1,K1,H1,by simp only[aU,h1],h2,h3,h4⟩
 | loop a ih =>
   intro T t K H kn x hT hH h
   obtain⟨e,T1,t1,K1,H1,h1,h2,h3,h4⟩:=RB ih m T t K H x hT hH h
   cases e with
   | normal=>exact h4.elim
   | exit i=>exact⟨.exit i,T1,t1,K1,H1,by simp only[aU];exact h1,h2,h3,h4⟩
   | goto i=>exact⟨.goto i,T1,t1,K1,H1,by simp only[aU];exact h1,h2,h3,h4⟩
   | ret=>exact⟨.ret,T1,t1,K1,H1,by simp only[aU];exact h1,h2,h3,h4⟩
theorem aFx:TRel T0 fun _=>undef:=fun i _=>by
 unfold TT.get T0
 rw[aCf,aCf]
theorem OH:∀ (l:List Value) (i:Nat) {T:TT} {t:aE} {k:TT->Prop},i+l.length<=256->TRel T t ->
 List.rec (motive:=fun _=>Nat->TT->Prop) (fun _ T=>k T) (fun v _ ih i T=>wr (cw i) v T fun T=>cG (Nat.succ i) fun i=>ih i T) l i T ->
 ∃ T',TRel T' (fun j=>if i<=j/\j<i+l.length then l.getD (j-i) undef else t j)/\k T'
 | [],i,T,t,k,_,hT,h=>⟨T,fun j hj=>(hT j hj).trans (aC (by simp only[List.length_nil];omega)).symm,h⟩
 | v::l,i,T,t,k,hl,hT,h=>by
   simp only[List.length_cons]at hl
   obtain⟨h1,h2⟩:=aCi (k:=fun T=>cG (Nat.succ i) fun i=>List.rec (motive:=fun _=>Nat->TT->Prop) (fun _ T=>k T) (fun v _ ih i T=>wr (cw i) v T fun T=>cG (Nat.succ i) fun i=>ih i T) l i T) (by omega) hT h
   have h3:=(aZ (n:=Nat.succ i)).1 h2
   obtain⟨T',h4,h5⟩:=OH l (i+1) (by omega) h1 h3
   refine⟨T',fun j hj => ?_,h5⟩
   rw[h4 j hj]
   simp only[List.length_cons]
   by_cases h6:i+1<=j/\j<i+1+l.length
   ·rw[aA h6,aA (by omega),show j-i=(j-(i+1))+1 from by omega,List.getD_cons_succ]
   ·rw[aC h6]
    by_cases h7:j=i
    ·subst h7
     rw[aA (by omega),tO,Nat.sub_self,List.getD_cons_zero]
    ·rw[aC (by omega),sF _ _ _ _ h7]
theorem QJ {T:TT}{t:aE}{K:HT}{H:aD}(hT:TRel T t)(hH:c6 K H):∀ (rs:List ResultVar) {k:List Value->Prop},aBn P T K rs k->∃ vs,bV P t H rs=some vs/\k vs
 | [],_,h=>⟨[],rfl,h⟩
 | r::rs,k,h=>by
   cases r with
   | tmp d =>
     have h1:=bP (x := .tmp d) (k:=fun v=>aBn P T K rs fun l=>k (v::l)) hT h
     obtain⟨vs,h2,h3⟩:=QJ hT hH rs (k:=fun l=>k (t d::l)) h1
     exact⟨_,by simp only[bV,iU,h2],h3⟩
   | cell a ty =>
     have hks:=aAc (P:=P) (.load ty (.tmp a))
     have hno:f8 (fun _ _ _ _=>none) noK:=fun _ _ _ _ _ _ _ h=>h.elim
     have h0:aHS (cop P (.load ty (.tmp a))) noK 0 0 T K (fun v _=>aBn P T K rs fun l=>k (v::l)):=h
     have:∃ v K' H',rA P (fun _ _ _ _=>none) 0 0 (.load ty (.tmp a)) (eval t) H=some (v,H')/\c6 K' H'/\aBn P T K rs (fun l=>k (v::l)):=by
      cases hc:cop P (.load ty (.tmp a))with
      | mk f =>
        rw[hc]at hks h0
        exact hks _ _ _ _ _ _ _ _ _ hno hT hH h0
     obtain⟨v,K',H',h1,_,h2⟩:=this
     obtain⟨vs,h3,h4⟩:=QJ hT hH rs h2
     refine⟨v::vs,?_,h4⟩
     unfold rA at h1
     simp only[aJ,eval]at h1
     simp only[bV,iU,h3]
     split at h1
     ·rename_i u H1 hp
      cases h1
      split at hp
      ·rename_i p hpp
       cases hl:lD P ty H p with
       | none=>rw[hl]at hp;cases hp
       | some u =>
         rw[hl]at hp
         cases hp
         rw[hpp]
         simp only[hl]
      ·cases hp
     ·rename_i H1 hp
      split at hp
      ·rename_i p hpp
       cases hl:lD P ty H p with
       | none=>rw[hl]at hp;cases hp
       | some u=>rw[hl]at hp;cases hp
      ·cases hp
     ·rename_i f args H1 hp
      split at hp
      ·rename_i p hpp
       cases hl:lD P ty H p with
       | none=>rw[hl]at hp;cases hp
       | some u=>rw[hl]at hp;cases hp
      ·cases hp
     ·cases h1
theorem aB4 {l:List Value}{k:Value->Prop}(h:JM l k):k (iE l):=by
 cases l with
 | nil=>exact h
 | cons v r=>cases r with
   | nil=>exact h
   | cons w r=>exact h
theorem X8 {T:TT}{t:aE}{K:HT}{H:aD}(hT:TRel T t)(hH:c6 K H){rs:List ResultVar}{k:Value->HT->Prop}(h:aFS P rs k T K):∃ vs,bV P t H rs=some vs/\k (iE vs) K:=by
 obtain⟨vs,h1,h2⟩:=QJ hT hH rs h
 exact⟨vs,h1,aB4 (k:=fun v=>k v K) h2⟩
theorem aCW {xb:FuncId->Bool}{xf:aQ}{xk ck:KC}{n:Nat}(hX:f8 xf xk)(hS:f8 (jI xb xf P n) ck)(hk:CallerKept (jI xb xf P n)):f8 (jI xb xf P (n+1)) (kfn xb P xk ck n):=by
 intro fl f args K H k hH h
 unfold kfn at h
 simp only[jI]
 cases hc:aEJ xb P f with
 | no=>rw[hc]at h;exact h.elim
 | ext =>
   rw[hc]at h
   unfold aEJ at hc
   split at hc
   ·rename_i fn hfn
    split at hc
    ·rename_i c hb
     split at hc
     ·split at hc <;> cases hc
     ·rename_i hok
      rw[hfn]
      simp only[hb]
      rw[aC (by rw[aH];exact fun h=>hok h.1)]
      exact hX fl f args K H k hH h
    ·cases hc
   ·cases hc
 | ok c nt rs =>
   rw[hc]at h
   unfold aEJ at hc
   split at hc
   ·rename_i fn hfn
    split at hc
    ·rename_i c' hb
     split at hc
     ·rename_i hok
      split at hc
      ·rename_i hnt
       cases hc
       obtain⟨h1,h2⟩:=bU.1 (show chk (Nat.ble args.length fn.ntmps) _ from h)
       have h1:args.length<=fn.ntmps:=by simpa [Nat.ble_eq] using h1
       obtain⟨T1,h3,h4⟩:=OH args 0 (by omega) aFx h2
       have hst:TRel T1 (start ⟨args⟩):=by
        intro i hi
        rw[h3 i hi]
        unfold start
        simp only[eJ,true_and,e9,Nat.sub_zero]
        split
        ·rename_i hlt
         rw[nT,List.getElem?_toArray,cH]
        ·rename_i hlt
         rw[nT,List.getElem?_toArray,qX (by omega)]
         rfl
       obtain⟨e,T2,t2,K2,H2,h5,h6,h7,h8⟩:=aBK (P:=P) hk hS n fl c T1 _ K H _ _ hst hH h4
       have hcond:(okG xb f fn c&&decide ((⟨args⟩:Array Value).size<=fn.ntmps))=true:=by
        rw[aH]
        exact⟨hok,by simpa using h1⟩
       rw[hfn]
       simp only[hb]
       rw[aA hcond,h5]
       cases e with
       | normal =>
         obtain⟨vs,h9,h10⟩:=X8 h6 h7 h8
         exact⟨_,K2,H2,by simp only[h9,Option.map_some],h7,h10⟩
       | ret =>
         obtain⟨vs,h9,h10⟩:=X8 h6 h7 h8
         exact⟨_,K2,H2,by simp only[h9,Option.map_some],h7,h10⟩
       | exit i=>exact h8.elim
       | goto i=>exact h8.elim
      ·cases hc
     ·cases hc
    ·cases hc
   ·cases hc
theorem aAd {xb:FuncId->Bool}{xf:aQ}{xk:KC}:f8 (jI xb xf P 0) (wH xb P xk 0):=fun _ _ _ _ _ _ _ h=>h.elim
theorem BO {xb:FuncId->Bool}{xf:aQ}{xk:KC}(hX:f8 xf xk)(hk:∀ N,CallerKept (jI xb xf P N)):∀ n,f8 (jI xb xf P n) (wH xb P xk n)
 | 0=>aAd
 | n+1=>aCW hX (BO hX hk n) (hk n)
end
end Go.Mach.J
