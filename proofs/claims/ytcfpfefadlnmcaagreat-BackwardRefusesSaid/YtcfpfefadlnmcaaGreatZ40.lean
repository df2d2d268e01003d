/- Part of the proof. No condition. -/
import Derived.Test.YtcfpfefadlnmcaaGreatZ39
import Derived.Test.YtcfpfefadlnmcaaGreatZ37
import Derived.Test.YtcfpfefadlnmcaaGreatZ38
import Derived.Test.YtcfpfefadlnmcaaGreatYVTold
namespace Go.Proofs.YtcfpfefadlnmcaaGreat
open IntKind (i8 i16 i32 i64 u8 u16 u32 u64)
open Go.Mach Go.RowKit
set_option maxRecDepth 100000
set_option linter.unusedVariables false
set_option linter.unusedSimpArgs false
theorem aOS {v:Int}{w:List (Int×Int×Int)}{B:Nat}{L:List Int}{K0:List Int->Prop}(hw:w.length<=1000000)(hx:L.length<=8192)(hr:∀ z∈w,0<=z.1/\(B:Int)+z.1<(L.length:Int))
 (h:K0 (NF (i32.wrap v) L (w.map fun z=>(B:Int)+z.1))):oP v (B:Int) (w.length:Int) 0 w L K0:=by
 refine⟨⟨?_⟩⟩
 have hget:∀ i,i<w.length->(w.map fun z=>(B:Int)+z.1).getD i 0=(B:Int)+(w.getD i (0,0,0)).1:=fun i hi=>by
  rw[aW,aW,mO,aQ hi];rfl
 have hlm:(w.map fun z=>(B:Int)+z.1).length=w.length:=FH _
 generalize (w.map fun z=>(B:Int)+z.1)=l at h hget hlm
 refine Loop.range (B:=i7 v (B:Int) (w.length:Int) w _) w.length (fun i:Nat=>((i:Int),NF (i32.wrap v) L (l.take i))) (fun _=>True) trivial ?_ ?_
 ·intro i hi _ X hX
  have hX:=hX trivial
  unfold i7
  rw[aB (aF (show(i:Int)<(w.length:Int) by omega))]
  dsimp only at hX⊢
  have hm:=hr (w.getD i (0,0,0)) (by rw[aW,aQ hi];exact fZ hi)
  simp only[Int.toNat_natCast,QO]
  rw[aC ((B:Int)+(w.getD i (0,0,0)).1),aC ((i:Int)+1)]
  refine⟨by omega,by omega,by omega,?_⟩
  rw[aA5 (by omega),hget i hi]at hX
  exact hX
 ·intro _ X
  unfold i7
  rw[aA (by simp),<- hlm,rJ]
  exact h
theorem aMl {n m H V P Q:Nat}{k s:Int}{X gd:List Int}(g:PoolIn (n*m) H V P Q k s X)(hn:1<=n/\n<=4096)(hm:1<=m/\m<=4096)(hg:gd.length=n*m*(P*Q)){K0:List Int->Prop}(h:K0 (bkF gd (pZ H V k s P Q) X (n*m*(P*Q)))) :
 oU [(n:Int),m,H,V] k s gd (gd.length:Int) [(n:Int),m,P,Q] K0 (0,X):=by
 have hx:=g.hx
 have bx:=g.bx
 obtain⟨s1,s2⟩:=g.small
 have hsz:n*m*(P*Q)<=n*m*(H*V):=Nat.mul_le_mul_left _ (dE s1 s2)
 refine⟨?_⟩
 rw[<- hg]at h
 refine Loop.range (B:=iS [(n:Int),m,H,V] k s gd (gd.length:Int) [(n:Int),m,P,Q] K0) gd.length (fun i:Nat=>((i:Int),bkF gd (pZ H V k s P Q) X i)) (fun _=>True) trivial ?_ ?_
 ·intro t ht _ Y hY
  have hY:=hY trivial
  unfold iS
  rw[aB (aF (show(t:Int)<(gd.length:Int) by omega))]
  dsimp only at hY⊢
  obtain⟨a,i,p,q,ha,hi,hp,hq,hat,hw,wl,wn,wr,wc⟩:=aLp g hn hm (t:=t) (by omega)
  refine⟨by omega,hat _ ?_⟩
  simp only[List.getD_cons_zero,List.getD_cons_succ,Int.toNat_natCast]
  refine⟨by simp,by simp,by simp,by simp,by simp,by simp,by simp,by simp,by simp,aDC ?_⟩
  rw[hw]
  refine aOS wl (by rw[Y7];omega) (by rw[Y7];exact wr) ?_
  rw[aC ((t:Int)+1),<- wc]
  rw[aA9]at hY
  exact hY
 ·intro _ Y
  unfold iS
  rw[aA (by simp)]
  exact h
theorem aGt {g:T3}{d:List Int}{k s:Int}{Q:T3×Int->Prop}(h:Q (JK g d k s)):rV g d k s Q:=by
 refine⟨CP (by simp) ?_⟩
 have e1:([g]:List T3).all bB=bB g:=by simp
 rw[e1]
 unfold JK at h
 refine f7 (b := !bB g) (c := !decide (0<szF d)) (fun _ P hP=>oZ hP) (fun v ev => ?_) rfl
 by_cases hs:bB g=true/\0<szF d
 rotate_left
 ·have e:abE g d k s=1:=by unfold abE;rw[aA hs]
  rw[e]at h
  rw[aB]
  ·exact h
  ·rw[ev]
   simp only[cJ,oR,fB]
   by_cases hm:bB g=true
   ·exact .inr fun hh=>hs ⟨hm,hh⟩
   ·exact .inl (Bool.eq_false_iff.2 hm)
 rw[ev,aA (by rw[hs.1,aF hs.2];decide)]
 obtain⟨hm,hz⟩:=hs
 refine aJF ?_
 refine f7 (b := !(TG d k s).2) (c := !decide ((TG d k s).1=g.1)) (fun hb P hP=>GD (by unfold TG;split <;> simp) hP) (fun v ev => ?_) rfl
 by_cases hl:((d.length:Int) != 4)=true
 ·have e:abE g d k s=2:=by unfold abE;rw[aB ⟨hm,hz⟩,aA (by rintro⟨⟨h1,_⟩,_⟩;simp[h1]at hl)]
  rw[e]at h
  have e2:(TG d k s).2=false:=by unfold TG;rw[aB hl]
  rw[ev,e2,aB (by rfl)]
  exact h
 have hl4:(d.length:Int)=4:=by simpa using hl
 have e2:TG d k s=([d.getD 0 0,d.getD 1 0,bA (d.getD 2 0) k s 0,bA (d.getD 3 0) k s 0],decide (0<bA (d.getD 2 0) k s 0)&&decide (0<bA (d.getD 3 0) k s 0)):=by unfold TG;rw[aA hl]
 by_cases hc:(0<bA (d.getD 2 0) k s 0/\0<bA (d.getD 3 0) k s 0)/\g.1=abD d k s
 rotate_left
 ·have e:abE g d k s=2:=by unfold abE;rw[aB ⟨hm,hz⟩,aA (by rintro⟨⟨_,h1⟩,h2⟩;exact hc ⟨h1,h2⟩)]
  rw[e]at h
  rw[aB]
  ·exact h
  ·rw[ev,e2]
   simp only[cJ,oR,fB,JD]
   by_cases h1:0<bA (d.getD 2 0) k s 0
   ·by_cases h2:0<bA (d.getD 3 0) k s 0
    ·exact .inr fun h3=>hc ⟨⟨h1,h2⟩,h3.symm⟩
    ·exact .inl (.inr h2)
   ·exact .inl (.inl h1)
 obtain⟨hpq,hd⟩:=hc
 have e:abE g d k s=0:=by unfold abE;rw[aB ⟨hm,hz⟩,aB ⟨⟨by omega,hpq⟩,hd⟩]
 rw[e,aA (by simp)]at h
 rw[ev,e2,aA (by rw[aF hpq.1,aF hpq.2,aF (show [d.getD 0 0,d.getD 1 0,bA (d.getD 2 0) k s 0,bA (d.getD 3 0) k s 0]=g.1 from hd.symm)];simp)]
 obtain⟨a1,a2,a3,_⟩:=lO hpq.1
 refine⟨by omega,aLS a2 (aG7 ?_)⟩
 obtain⟨_,_,ge,_⟩:=lN.1 hm
 have hle:0<=aAH k/\aAH k<=4:=by
  rcases(by omega:k=1\/k=2\/k=3\/k=4\/k=5)with e|e|e|e|e <;> subst e <;> decide
 have hex : -128<=i64.wrap (g.2.1-aAH k)/\i64.wrap (g.2.1-aAH k)<=128:=by
  rw[aC _];omega
 rw[aEV hex hz]
 refine⟨?_⟩
 rw[aA (by simp)]
 obtain⟨a,b,c,dd,ed⟩:=aN7 (l:=d) (by omega)
 subst ed
 obtain⟨n,m,H,V,rfl,rfl,rfl,rfl,n1,m1,H1,V1,hb,hsz⟩:=aBp hz
 obtain⟨_,w2,_,_⟩:=tP hz
 have wn:=w2 (n:Int) (by simp)
 have wm:=w2 (m:Int) (by simp)
 unfold aGw at h
 simp only[List.getD_cons_succ,List.getD_cons_zero,abD]at h hd hpq a1⊢
 obtain⟨P,eP,_⟩:=pT (n:=(H:Int)) (k:=k) (s:=s) (p:=0)
 obtain⟨R,eQ,_⟩:=pT (n:=(V:Int)) (k:=k) (s:=s) (p:=0)
 obtain⟨b1,_⟩:=lO hpq.2
 rw[eP,eQ]at h hd hpq⊢
 have en:((n:Int)*(m:Int)).toNat=n*m:=by rw[<- jR];exact bJ _
 rw[en,hsz]at h
 rw[hsz]
 simp only[Int.toNat_natCast]at h⊢
 obtain⟨_,_,_,_,e4,_,_,_,_,_,hgl,_,_⟩:=S1 hm (by rw[hd];rfl)
 rw[hd]at e4
 simp only[List.cons.injEq,Int.natCast_inj,and_true]at e4
 obtain⟨rfl,rfl,rfl,rfl⟩:=e4
 exact aMl ⟨by rw[vU,cK (n*m)],by rw[<- cK];exact hb,by omega,by omega,a2,a3,eP,eQ,by omega,by omega⟩ (by omega) (by omega) (by rw[hgl,cK (n*m)]) h
theorem aHX {g:T3}{fr d:List Int}{Q:T3×Int->Prop}(h:Q (JI g fr d)):qY g fr d Q:=by
 refine⟨CP (by simp) ?_⟩
 have e1:([g]:List T3).all bB=bB g:=by simp
 rw[e1]
 unfold JI at h
 refine f7 (b := !bB g) (c := !decide (0<szF d)) (fun _ P hP=>oZ hP) (fun v ev => ?_) rfl
 by_cases hs:bB g=true/\0<szF d
 rotate_left
 ·have e:mxE g fr d=1:=by unfold mxE;rw[aA hs]
  rw[e]at h
  rw[aB]
  ·exact h
  ·rw[ev]
   simp only[cJ,oR,fB]
   by_cases hm:bB g=true
   ·exact .inr fun hh=>hs ⟨hm,hh⟩
   ·exact .inl (Bool.eq_false_iff.2 hm)
 rw[ev,aA (by rw[hs.1,aF hs.2];decide)]
 by_cases hl:fr.length=g.2.2.length
 rotate_left
 ·have e:mxE g fr d=2:=by unfold mxE;rw[aB hs,aA hl]
  rw[e]at h
  rw[aB (by simp only[pA,ne_eq];omega)]
  exact h
 rw[aA (by simp[hl])]
 obtain⟨hd1,_,hd3,hd4⟩:=tP hs.2
 obtain⟨k1,k2,_⟩:=dD hs.1
 obtain⟨_,_,ge,_⟩:=lN.1 hs.1
 refine⟨by omega,aG7 ?_⟩
 rw[aEV (by omega) hs.2]
 refine⟨?_⟩
 have hK1:(fr.all fun a=>inP a 0 (szF d-1))=false->Q (Z3,1):=fun hf=>by
  have e:mxE g fr d=1:=by unfold mxE;rw[aB hs,aB hl,aA (by rw[hf];simp)]
  rw[e]at h
  exact h
 refine Loop.range (B:=iV fr (fr.length:Int) g.2.2 _ _) fr.length (fun i:Nat=>((i:Int),aFF g.2.2 fr (List.replicate (szF d).toNat 0) i)) (fun i=>(fr.take i).all (fun a=>inP a 0 (szF d-1))=true) rfl ?_ ?_
 ·intro i hi hI X hX
  unfold iV
  rw[aB (aF (show(i:Int)<(fr.length:Int) by omega))]
  dsimp only at hX⊢
  rw[bJ]
  refine⟨by omega,?_⟩
  rw[aBB,vU]
  cases hb:inP (fr.getD i 0) 0 (szF d-1)with
  | false =>
    rw[aB]
    ·exact hK1 (aA3 (d:=0) hi hb)
    ·unfold inP at hb
     simp only[JD,fB]at hb
     simp only[cJ,aT]
     omega
  | true =>
    have hb':=hb
    unfold inP at hb'
    simp only[aK,aT]at hb'
    rw[aA (by simp only[cJ,aT];omega)]
    refine⟨by omega,by omega,by omega,?_⟩
    have hX:=hX (by rw[OJ (d:=0) hi,hI,hb];rfl)
    rw[WM]at hX
    rw[aC ((i:Int)+1)]
    exact hX
 ·intro hI X
  unfold iV
  rw[aA (by simp)]
  rw[rJ]at hI
  have e:mxE g fr d=0:=by unfold mxE;rw[aB hs,aB hl,aB hI]
  rw[e,aA (by simp)]at h
  exact h
theorem aLz {g x:T3}{Q:T3×Int->Prop}(h:Q (rbF g x)):qC g x Q:=by
 refine⟨CP (by simp) ?_⟩
 have e1:([g,x]:List T3).all bB=(bB g&&bB x):=aD0
 rw[e1]
 unfold rbF at h
 by_cases hm:bB g=true/\bB x=true
 rotate_left
 ·rw[aA hm]at h
  rw[aB]
  ·exact h
  ·simp only[oR,JD]
   by_cases h1:bB g=true
   ·exact .inr (Bool.eq_false_iff.2 fun h2=>hm ⟨h1,h2⟩)
   ·exact .inl (Bool.eq_false_iff.2 h1)
 rw[aB hm]at h
 obtain⟨hm,hx⟩:=hm
 rw[aA (by rw[hm,hx];decide)]
 obtain⟨h1,h2,_⟩:=dD hm
 refine GD (by omega) ?_
 by_cases he:g.1=x.1
 rotate_left
 ·rw[aA he]at h
  rw[kG he,aB (by rfl)]
  exact h
 rw[aB he]at h
 rw[aF he,aA (by simp)]
 have hlen:x.2.2.length=g.2.2.length:=by
  have a:=(lN.1 hm).2.1
  have b:=(lN.1 hx).2.1
  rw[he]at a
  omega
 refine⟨by omega,⟨?_⟩⟩
 refine Loop.range (B:=iB g.2.2 (g.2.2.length:Int) x.2.2 _) g.2.2.length (fun i:Nat=>((i:Int),tab i fun i=>if 0<x.2.2.getD i 0 then g.2.2.getD i 0 else 0)) (fun _=>True) trivial ?_ ?_
 ·intro i hi _ X hX
  have hX:=hX trivial
  unfold iB
  dsimp only at hX⊢
  rw[aB (aF (show(i:Int)<(g.2.2.length:Int) by omega))]
  rw[PR]at hX
  rw[bJ,aC ((i:Int)+1)]
  refine⟨by omega,by omega,?_⟩
  by_cases hz:x.2.2.getD i 0<=0
  ·rw[aB (aF hz)]
   rw[aA (by omega)]at hX
   exact⟨by simp[tab];omega,hX⟩
  ·rw[aA (by simpa using hz)]
   rw[aB (by omega)]at hX
   exact⟨by simp[tab];omega,hX⟩
 ·intro _ X
  unfold iB
  dsimp only
  rw[aA (by simp)]
  exact h
theorem aLB {g:T3}{d:List Int}{Q:T3×Int->Prop}(h:Q (HX g d)):t6 g d Q:=by
 refine⟨CP (by simp) ?_⟩
 have e1:([g]:List T3).all bB=bB g:=by simp
 rw[e1]
 unfold HX at h
 refine f7 (b := !bB g) (c := !decide (0<szF d)) (fun _ P hP=>oZ hP) (fun v ev => ?_) rfl
 by_cases hs:bB g=true/\0<szF d
 rotate_left
 ·rw[aA hs]at h
  rw[aB]
  ·exact h
  ·rw[ev]
   simp only[cJ,oR,fB]
   by_cases hm:bB g=true
   ·exact .inr fun hh=>hs ⟨hm,hh⟩
   ·exact .inl (Bool.eq_false_iff.2 hm)
 rw[aB hs]at h
 rw[ev,aA (by rw[hs.1,aF hs.2];decide)]
 refine A9 ?_
 by_cases he:szF d=(g.2.2.length:Int)
 rotate_left
 ·rw[aA he]at h
  rw[aB (by simpa using he)]
  exact h
 rw[aB he]at h
 rw[aA (by simpa using he)]
 obtain⟨hd1,_⟩:=tP hs.2
 obtain⟨k1,k2,_⟩:=dD hs.1
 exact⟨by omega,by omega,h⟩
theorem aJr {a b:List Int}{Q:List Int->Prop}(h1:1<=a.length)(h2:a.length<=1000000)(h3:b.length<=1000000)(h:Q (a++b)):oH [a,b] Q:=by
 have key:vW ((a.length:Int)+b.length) (fun r3=>pM [a,b] (([a,b]:List (List Int)).length:Int) (fun y4=>Q y4) (0,r3)):=by
  refine⟨⟨by omega,by omega⟩,⟨?_⟩⟩
  refine Loop.range (B:=uA [a,b] (([a,b]:List (List Int)).length:Int) _) 2 (fun i=>((i:Int),([a,b].take i).flatten)) (fun _=>True) trivial ?_ ?_
  ·intro i hi _ X hX
   have hX:=hX trivial
   match i,hi with
   | 0,_ =>
     refine⟨by simp,by simp;omega,?_⟩
     rw[aC _ (by simp) (by simp)]
     simpa using hX
   | 1,_ =>
     refine⟨by simp,by simp;omega,?_⟩
     rw[aC _ (by simp) (by simp)]
     simpa using hX
  ·intro _ X
   show Q ([a,b].take 2).flatten
   simpa using h
 refine⟨⟨?_⟩⟩
 refine Loop.range (B:=tX [a,b] (([a,b]:List (List Int)).length:Int) _) 2 (fun i=>((match i with|0=>0|1=>(a.length:Int)|_=>(a.length:Int)+b.length),(i:Int))) (fun _=>True) trivial ?_ ?_
 ·intro i hi _ X hX
  have hX:=hX trivial
  match i,hi with
  | 0,_ =>
    refine⟨by simp,?_⟩
    show(if decide (i64.wrap (0+(a.length:Int))<0)=true then False else lH 0 (fun y1=>X (i64.wrap (0+(a.length:Int)),y1)))
    rw[Int.zero_add,aC _,aA (by simp)]
    exact⟨hX⟩
  | 1,_ =>
    refine⟨by simp,?_⟩
    show(if decide (i64.wrap ((a.length:Int)+(b.length:Int))<0)=true then False else lH 1 (fun y1=>X (i64.wrap ((a.length:Int)+(b.length:Int)),y1)))
    rw[aC _,aA (by simp;omega)]
    exact⟨hX⟩
 ·intro _ X
  exact key
theorem aNK {l:List T3}{Q:Bool->Prop}(hl:l.length<=10000000000000)(h:Q (l.any fun t => !bB t)):cD l Q:=by
 refine⟨⟨⟨?_⟩⟩⟩
 refine Loop.range (B:=bD l (l.length:Int) _ _) l.length (fun i=>(i:Int)) (fun i=>∀ j,j<i->bB (l.getD j Z3)=true) (fun j hj=>absurd hj (by omega)) ?_ ?_
 ·intro i hi hI X hX
  unfold bD
  rw[aB (aF (show(i:Int)<(l.length:Int) by omega))]
  refine⟨by omega,⟨qD ?_⟩⟩
  simp only[Int.toNat_natCast]
  cases hb:bB (l.getD i Z3)with
  | false =>
    rw[aB (by rfl)]
    have:(l.any fun t => !bB t)=true:=by
     rw[HQ]
     refine⟨l[i],fZ _,?_⟩
     rw[aW,aQ hi]at hb
     rw[show bB l[i]=false from hb];rfl
    rw[this]at h
    rw[aF (show(0:Int)<=(i:Int) by omega)]
    exact h
  | true =>
    rw[aA (by simp),aC _]
    refine hX fun j hj => ?_
    by_cases hji:j=i
    ·subst hji;exact hb
    ·exact hI j (by omega)
 ·intro hI X
  unfold bD
  rw[aA (by simp)]
  have:(l.any fun t => !bB t)=false:=by
   rw[OE]
   intro x hx
   obtain⟨j,hj,rfl⟩:=List.mem_iff_getElem.1 hx
   have:=hI j hj
   rw[aW,aQ hj]at this
   rw[show bB l[j]=true from this];simp
  rw[this]at h
  exact h
theorem aN0 {l:List Lay}{Q:Bool->Prop}(hl:l.length<=10000000000000)(h:Q (l.any fun x=>x.1==3)):cG l Q:=by
 refine⟨⟨⟨?_⟩⟩⟩
 refine Loop.range (B:=bH l (l.length:Int) _ _) l.length (fun i=>(i:Int)) (fun i=>∀ j,j<i->((l.getD j cA).1==3)=false) (fun j hj=>absurd hj (by omega)) ?_ ?_
 ·intro i hi hI X hX
  unfold bH
  rw[aB (aF (show(i:Int)<(l.length:Int) by omega))]
  refine⟨by omega,⟨?_⟩⟩
  simp only[Int.toNat_natCast]
  show if ((l.getD i cA).1==3)=true then _ else _
  cases hb:((l.getD i cA).1==3)with
  | true =>
    rw[aB rfl]
    have:(l.any fun x=>x.1==3)=true:=by
     rw[HQ]
     refine⟨l[i],fZ _,?_⟩
     rw[aW,aQ hi]at hb
     exact hb
    rw[this]at h
    rw[aF (show(0:Int)<=(i:Int) by omega)]
    exact h
  | false =>
    rw[aA (by simp),aC _]
    refine hX fun j hj => ?_
    by_cases hji:j=i
    ·subst hji;exact hb
    ·exact hI j (by omega)
 ·intro hI X
  unfold bH
  rw[aA (by simp)]
  have:(l.any fun x=>x.1==3)=false:=by
   rw[OE]
   intro x hx
   obtain⟨j,hj,rfl⟩:=List.mem_iff_getElem.1 hx
   have:=hI j hj
   rw[aW,aQ hj]at this
   simpa using this
  rw[this]at h
  exact h
def ZY (m:Mdl)(ps:List Prm)(T:List T3)(st:Int)(g:T3):Bool :=
 ((((decide (st<0)||decide (1000000<st)) || !zU m ps)||((T.length:Int) != (m.2.length:Int)+1)) || !bB g)||T.any fun t => !bB t
def aCE (m:Mdl)(T:List T3):Bool:=(List.range (m.2.length+1)).any fun i => !decide ((T.getD i Z3).1=(T.getD 0 Z3).1.take 1++(aU m).1.getD i [])
def aIz (m:Mdl)(T:List T3)(F:List (List Int))(g:T3):Bool :=
 (((F.length:Int) != (T.length:Int))&&((m.2.any fun x=>x.1==3)||decide (0<(F.length:Int)))) || !decide (g.1=(T.getD (T.length-1) Z3).1)
def GM (m:Mdl)(ps:List Prm)(T:List T3)(F:List (List Int))(st:Int)(g:T3):Int :=
 if ZY m ps T st g=true then 1 else if aCE m T=true then 2 else if aIz m T F g=true then 2 else 0
structure aNy (m:Mdl)(ps:List Prm)(T:List T3)(g:T3)(st:Int):Prop where
 st:0<=st/\st<=1000000
 ps:zU m ps=true
 len:T.length=m.2.length+1
 g:bB g=true
 t:∀ i,i<T.length->bB (T.getD i Z3)=true
theorem SY {m:Mdl}{ps:List Prm}{T:List T3}{st:Int}{g:T3}(h:ZY m ps T st g=false):aNy m ps T g st:=by
 unfold ZY at h
 simp only[eI,fB,xS,GU,OE]at h
 obtain⟨⟨⟨⟨⟨h1,h2⟩,h3⟩,h4⟩,h5⟩,h6⟩:=h
 refine⟨by omega,h3,by omega,h5,fun i hi => ?_⟩
 have:=h6 _ (fZ hi)
 rw[aW,aQ hi]
 simpa using this
theorem aMm {m:Mdl}{ps:List Prm}{T:List T3}{F:List (List Int)}{st s:Int}{g:T3}{Q:Int->Prop}(hl:m.2.length<=1000000)(hT:T.length<=1000000)(h:Q (GM m ps T F st g)) :
 zW m.1.1 m.1.2.1 m.1.2.2 m.2 ps T F s st g Q:=by
 refine⟨?_⟩
 refine f7 (c:=decide (1000000<st)) (fun _ P hP=>hP) (fun v1 e1 => ?_) rfl
 refine f7 (c := !zU m ps) (fun _ P hP=>aJ8 (m:=m) (by omega) hP) (fun v3 e3 => ?_) rfl
 refine f7 (c:=(T.length:Int) != (m.2.length:Int)+1) (fun _ P hP=>by rw[aC _];exact hP) (fun v6 e6 => ?_) rfl
 refine f7 (c := !bB g) (fun _ P hP=>qD hP) (fun v8 e8 => ?_) rfl
 refine f7 (c:=T.any fun t => !bB t) (fun _ P hP=>aNK (by omega) hP) (fun v11 e11 => ?_) rfl
 have e:v11=ZY m ps T st g:=by rw[e11,e8,e6,e3,e1];rfl
 unfold GM at h
 rw[<- e]at h
 clear e11 e8 e6 e3 e1
 cases v11 with
 | true=>rw[aB rfl]at h⊢;exact h
 | false =>
   rw[aA (by simp)]at h
   rw[aA (by simp)]
   have k:=SY e.symm
   obtain⟨hm,hok⟩:=uC (m:=m) (by
    have:=k.ps
    unfold zU at this
    simp only[aK,dR]at this
    exact this.1.1)
   have hlen:=k.len
   have hsl:=hok.len
   refine⟨aAF (m:=m) (by omega) ⟨?_⟩⟩
   have h2:aCE m T=true->Q 2:=fun hb=>by rw[aB hb]at h;exact h
   have d0:=dD (k.t 0 (by omega))
   refine Loop.range (B:=nK T ((aU m).1.length:Int) (aU m).1 _ _) (m.2.length+1) (fun i=>(i:Int)) (fun i=>∀ j,j<i->(T.getD j Z3).1=(T.getD 0 Z3).1.take 1++(aU m).1.getD j []) (fun j hj=>absurd hj (by omega)) ?_ ?_
   ·intro i hi hI X hX
    unfold nK
    rw[aB (aF (show(i:Int)<((aU m).1.length:Int) by omega))]
    simp only[Int.toNat_natCast]
    have hd:=hok.at_ (i:=i) (by omega)
    refine⟨by omega,by omega,by omega,⟨(fun e0=>by have:=d0.2.2.1;rw[show(T.getD 0 ([],0,[])).1=[]from e0]at this;simp at this),by omega,by omega,by have:=d0.2.2.1;show(1:Int)<=((T.getD 0 Z3).1.length:Int);omega⟩,?_⟩
    show oH [(T.getD 0 Z3).1.take 1,(aU m).1.getD i []] _
    refine aJr (by rw[C2];omega) (by rw[C2];omega) (by omega) (OR (by have:=(dD (k.t i (by omega))).1;show(T.getD i Z3).1.length<=_;omega) ?_)
    show if (!decide ((T.getD i Z3).1=(T.getD 0 Z3).1.take 1++(aU m).1.getD i []))=true then _ else _
    by_cases he:(T.getD i Z3).1=(T.getD 0 Z3).1.take 1++(aU m).1.getD i []
    ·rw[aA (by rw[aF he];simp),aC _]
     refine hX fun j hj => ?_
     by_cases hji:j=i
     ·subst hji;exact he
     ·exact hI j (by omega)
    ·rw[aB (by rw[kG he];rfl)]
     refine h2 ?_
     unfold aCE
     rw[HQ]
     exact⟨i,List.mem_range.2 hi,by rw[kG he];rfl⟩
   ·intro hI X
    unfold nK
    rw[aA (by simp;omega)]
    have hb2:aCE m T=false:=by
     unfold aCE
     rw[OE]
     intro j hj
     rw[aF (hI j (List.mem_range.1 hj))]
     simp
    rw[hb2,aA (by simp)]at h
    refine aN0 (by omega) ?_
    refine AB (c:=(m.2.any fun x=>x.1==3)||decide (0<(F.length:Int))) (fun _ P hP=>f7 (c:=decide (0<(F.length:Int))) (fun _ P hP=>hP) (fun v ev=>by rw[ev];exact hP) rfl) (fun v17 e17 => ?_) rfl
    refine f7 (c := !decide (g.1=(T.getD (T.length-1) Z3).1)) (fun _ P hP => ?_) (fun v21 e21 => ?_) rfl
    ·rw[aC _]
     have e0:((T.length:Int)-1).toNat=T.length-1:=by omega
     rw[e0]
     exact⟨by omega,OR (by have:=(dD k.g).1;omega) hP⟩
    ·have e3:v21=aIz m T F g:=by rw[e21,e17];rfl
     rw[<- e3]at h
     clear e3 e21
     cases v21 <;> exact h
abbrev G3:=Bool×T3×T3
abbrev fE:G3:=(false,([],0,[]),([],0,[]))
noncomputable def mM (st s:Int)(a:T3)(e i what:Int):T3×Int:=if (e != 0)=true then(Z3,e)else vY a 8 s (YK st i what)
theorem FI {mx my mz:Int}{L:List Lay}{P:List Prm}{T:List T3}{F:List (List Int)}{back:List (List T3)}{s st:Int}{a:T3}{e i what:Int}{Q:T3×Int->Prop}(h:Q (mM st s a e i what)):mV mx my mz L P T F back s st a e i what Q:=by
 refine⟨?_⟩
 unfold mM at h
 by_cases he:(e != 0)=true
 ·rw[aB he]at h⊢;exact h
 ·rw[aA he]at h⊢
  exact aMY (aHs h)
noncomputable def MA (st s:Int)(back:List (List T3))(i:Int)(g:T3):Int×List (List T3) :=
 match back.getD i.toNat []with
 | [t]=>if ((mM st s (addF t g).1 (addF t g).2 i 1).2 != 0)=true then((mM st s (addF t g).1 (addF t g).2 i 1).2,back)else(0,back.set i.toNat [(mM st s (addF t g).1 (addF t g).2 i 1).1])
 | _=>(0,back.set i.toNat [g])
theorem aA8 (st s:Int)(back:List (List T3))(i:Int)(g:T3):(MA st s back i g).2.length=back.length:=by
 unfold MA
 split
 ·split <;> simp
 ·simp
theorem aKi {l:List T3}{A:Prop}{B:T3->Prop}(h:match l with | [t]=>B t|_=>A):rsp l A B:=by
 refine⟨fun hn => ?_,fun x hx => ?_⟩
 ·match l,hn,h with
  | [],_,h=>exact h
  | [x],hn,_=>exact absurd rfl (hn x)
  | _::_::_,_,h=>exact h
 ·subst hx;exact h
noncomputable def QX (st s e kd fr:Int)(g:T3)(back:List (List T3)):Int×List (List T3):=if ((e==0)&&(kd==7))=true then MA st s back fr g else(e,back)
theorem aL1 {g:T3}{e mx my mz kd fr s st:Int}{L:List Lay}{P:List Prm}{T:List T3}{F:List (List Int)}{back:List (List T3)}{K:Int×List (List T3)->Prop}(hf:kd=7->0<=fr/\fr<(back.length:Int))(h:K (QX st s e kd fr g back)) :
 cE g e mx my mz L P T F s st kd fr back K:=by
 refine⟨?_⟩
 unfold QX at h
 by_cases hc:((e==0)&&(kd==7))=true
 ·rw[aB hc]at h⊢
  have hf:=hf (by simp only[aK,dR]at hc;exact hc.2)
  refine⟨hf,aKi ?_⟩
  unfold MA at h
  split
  ·rename_i t ht
   rw[ht]at h
   refine aKH (FI ?_)
   dsimp only at h⊢
   by_cases he:((mM st s (addF t g).1 (addF t g).2 fr 1).2 != 0)=true
   ·rw[aB he]at h⊢;exact⟨h⟩
   ·rw[aA he]at h⊢;exact⟨hf,⟨h⟩⟩
  ·rename_i hn
   split at h
   ·rename_i t ht;exact absurd ht (hn t)
   ·exact⟨hf,⟨h⟩⟩
 ·rw[aA hc]at h⊢;exact⟨h⟩
noncomputable def AA (st s n e kd fr:Int)(g nx:T3)(back:List (List T3)):Int×List (List T3) :=
 if (e==0)=true then QX st s (MA st s back (n-1) nx).1 kd fr g (MA st s back (n-1) nx).2 else QX st s e kd fr g back
theorem aFA {n:Int}{g nx:T3}{e mx my mz kd fr s st:Int}{L:List Lay}{P:List Prm}{T:List T3}{F:List (List Int)}{back:List (List T3)}{K:Int×List (List T3)->Prop}(hn:1<=n/\n<=(back.length:Int)/\back.length<=1000000)(hf:kd=7->0<=fr/\fr<(back.length:Int))(h:K (AA st s n e kd fr g nx back)) :
 bF n g e mx my mz L P T F s st kd fr nx.1 nx.2.1 nx.2.2 back K:=by
 refine⟨?_⟩
 unfold AA at h
 rw[aC (n-1)]
 by_cases hc:(e==0)=true
 ·rw[aB hc]at h⊢
  refine⟨by omega,aKi ?_⟩
  unfold MA at h
  split
  ·rename_i t ht
   rw[ht]at h
   refine aKH (FI ?_)
   dsimp only at h⊢
   by_cases he:((mM st s (addF t nx).1 (addF t nx).2 (n-1) 1).2 != 0)=true
   ·rw[aB he]at h⊢;exact aL1 hf h
   ·rw[aA he]at h⊢;exact⟨by omega,aL1 (by rw[ET];exact hf) h⟩
  ·rename_i hn2
   split at h
   ·rename_i t ht;exact absurd ht (hn2 t)
   ·exact⟨by omega,aL1 (by rw[ET];exact hf) h⟩
 ·rw[aA hc]at h⊢;exact aL1 hf h
theorem aGN {α:Type}{l m:List α}{i:Nat}{d:α}(h:i<l.length):(l++m).getD i d=l.getD i d:=by
 rw[aW,iJ h,aW]
theorem aJv {α:Type}{l:List α}{x d:α}:(l++[x]).getD l.length d=x:=by
 rw[aW,FA (aJ _)];simp
theorem RG:∀ (r:List Lay) (i:Int) (l:List (List Int)),l≠[]->(dP r i l).2.2=0 ->
 (∃ m,(dP r i l).1=l++m)/\(dP r i l).1.length=l.length+r.length/\∀ j,j<r.length->(dP r i l).1.getD (l.length+j) []=gH (r.getD j cA) ((dP r i l).1.take (l.length+j)) ((dP r i l).1.getD (l.length+j-1) [])/\(dP r i l).1.getD (l.length+j) []≠[]
 | [],i,l,_,_=>⟨⟨[],by simp[dP]⟩,by simp[dP],fun j hj=>absurd hj (by simp)⟩
 | x::r,i,l,hl,h=>by
   unfold dP at h⊢
   by_cases h1:gH x l (l.getD (l.length-1) [])=[]
   ·rw[aB h1]at h;cases h
   rw[aA h1]at h⊢
   by_cases h2:8192<yQ (gH x l (l.getD (l.length-1) []))
   ·rw[aB h2]at h;cases h
   rw[aA h2]at h⊢
   have hpos:=List.length_pos_iff.2 hl
   obtain⟨⟨m,e1⟩,e2,e3⟩:=RG r (i+1) (l++[gH x l (l.getD (l.length-1) [])]) (by simp) h
   have k1:(dP r (i+1) (l++[gH x l (l.getD (l.length-1) [])])).1.take l.length=l:=by
    rw[e1,gZ,List.take_left]
   have k2:(dP r (i+1) (l++[gH x l (l.getD (l.length-1) [])])).1.getD l.length []=gH x l (l.getD (l.length-1) []):=by
    rw[e1,aGN (by simp),aJv]
   have k3:(dP r (i+1) (l++[gH x l (l.getD (l.length-1) [])])).1.getD (l.length-1) []=l.getD (l.length-1) []:=by
    rw[e1,gZ,aGN (by omega)]
   refine⟨⟨_::m,by rw[e1,gZ];rfl⟩,by rw[e2];simp;omega,fun j hj => ?_⟩
   cases j with
   | zero =>
     rw[Nat.add_zero,k1,k2,k3]
     exact⟨rfl,h1⟩
   | succ j =>
     have:=e3 j (by simpa using hj)
     rw[mR,List.length_singleton,show l.length+1+j=l.length+(j+1) by omega]at this
     exact this
theorem aEh {m:Mdl}(h:(aU m).2.2=0):(aU m).1.length=m.2.length+1/\(aU m).1.getD 0 []=inL m/\∀ i,i<m.2.length ->
 (aU m).1.getD (i+1) []=gH (m.2.getD i cA) ((aU m).1.take (i+1)) ((aU m).1.getD i [])/\(aU m).1.getD (i+1) []≠[]:=by
 obtain⟨hm,_⟩:=uC h
 unfold aU at h⊢
 rw[aB hm]at h⊢
 by_cases h8:8192<yQ (inL m)
 ·rw[aB h8]at h;cases h
 rw[aA h8]at h⊢
 obtain⟨⟨k,e1⟩,e2,e3⟩:=RG m.2 0 [inL m] (by simp) h
 refine⟨by rw[e2];simp;omega,by rw[e1];rfl,fun i hi => ?_⟩
 have:=e3 i hi
 rw[List.length_singleton,SI 1 i,show i+1-1=i by omega]at this
 exact this
theorem aBG {d:List Int}{c:Int}{x:Lay}(h:oL d c x≠[]):d.length=3:=by
 unfold oL at h
 split at h
 ·assumption
 ·exact absurd rfl h
theorem aIx {x:Lay}{l:List (List Int)}{d:List Int}(hx:x.1=2\/x.1=3\/x.1=4)(h:gH x l d≠[]):d.length=3:=by
 unfold gH at h
 rw[aA (by omega)]at h
 split at h
 ·exact aBG h
 ·rw[aB (by omega)]at h
  exact aBG h
noncomputable def onV (x:Lay)(p:Prm)(g t:T3)(fr:List Int)(st s n:Int):T3×Int :=
 if x.1=5 then rbF g t
 else if x.1=6 then HX g t.1
 else if x.1=7 then(g,0)
 else if x.1=1 then mM st s (aEM g p.1).1 (aEM g p.1).2 n 2
 else if x.1=2 then mM st s (IB g p.1 (t.1.getD 2 0) (t.1.getD 3 0) x.2.2.2.1 x.2.2.2.2.1).1 (IB g p.1 (t.1.getD 2 0) (t.1.getD 3 0) x.2.2.2.1 x.2.2.2.2.1).2 n 2
 else if x.1=3 then mM st s (JI g fr t.1).1 (JI g fr t.1).2 n 2
 else if x.1=4 then mM st s (JK g t.1 x.2.2.1 x.2.2.2.1).1 (JK g t.1 x.2.2.1 x.2.2.2.1).2 n 2
 else mM st s Z3 0 n 2
theorem aOb {n:Nat}{g t:T3}{mx my mz s st:Int}{L:List Lay}{P:List Prm}{T:List T3}{F:List (List Int)}{back:List (List T3)}{K:Int×List (List T3)->Prop}(hn:1<=n/\n<=L.length/\L.length<=100000)(hP:P.length=L.length)(hb:back.length=L.length+1)
 (ag:All8 g.2.2) (ap:Prm8 (P.getD (n-1) gL)) (ht:t.1.length<=1000000) (hconv:(L.getD (n-1) cA).1=2->4<=t.1.length) (hmax:(L.getD (n-1) cA).1=3->n<F.length) (hadd:(L.getD (n-1) cA).1=7->0<=(L.getD (n-1) cA).2.2.2.2.2.1/\(L.getD (n-1) cA).2.2.2.2.2.1<(back.length:Int))
 (h:K (AA st s n (onV (L.getD (n-1) cA) (P.getD (n-1) gL) g t (F.getD n []) st s n).2 (L.getD (n-1) cA).1 (L.getD (n-1) cA).2.2.2.2.2.1 g (onV (L.getD (n-1) cA) (P.getD (n-1) gL) g t (F.getD n []) st s n).1 back)) :
 d8 (n:Int) g mx my mz L P T F s st (L.getD (n-1) cA).1 (L.getD (n-1) cA).2.2.2.2.2.1 t.1 t.2.1 t.2.2 back K:=by
 refine⟨?_⟩
 have ew:i64.wrap ((n:Int)-1)=((n-1:Nat):Int):=by rw[aC _];omega
 rw[ew]
 simp only[Int.toNat_natCast]
 show ck (aG ((n-1:Nat):Int) L.length) _
 refine⟨by omega,by omega,?_⟩
 revert hconv hmax hadd h ap
 generalize hx:L.getD (n-1) (0,0,0,0,0,0,false)=x
 generalize hp:P.getD (n-1) (([],0,[]),[],[],0,[])=p
 intro ap hconv hmax hadd h
 have hnb:1<=(n:Int)/\(n:Int)<=(back.length:Int)/\back.length<=1000000:=by omega
 unfold onV at h
 by_cases h5:x.1=5
 ·simp only[aB h5]at h
  rw[aB (by simpa using h5)]
  exact aG0 (aFA hnb hadd h)
 simp only[aA h5]at h
 rw[aA (by simpa using h5)]
 by_cases h6:x.1=6
 ·simp only[aB h6]at h
  rw[aB (by simpa using h6)]
  exact aHk (by omega) (aFA hnb hadd h)
 simp only[aA h6]at h
 rw[aA (by simpa using h6)]
 by_cases h7:x.1=7
 ·simp only[aB h7]at h
  rw[aB (by simpa using h7)]
  exact aFA hnb hadd h
 simp only[aA h7]at h
 rw[aA (by simpa using h7)]
 by_cases h1:x.1=1
 ·simp only[aB h1]at h
  rw[aB (by simpa using h1)]
  exact aOM ag ap.1 ⟨FI (aFA hnb hadd h)⟩
 simp only[aA h1]at h
 rw[aA (by simpa using h1)]
 by_cases h2:x.1=2
 ·simp only[aB h2]at h
  rw[aB (by simpa using h2)]
  have:=hconv h2
  exact⟨by omega,by omega,aLe ag ap.1 ⟨FI (aFA hnb hadd h)⟩⟩
 simp only[aA h2]at h
 rw[aA (by simpa using h2)]
 refine⟨?_⟩
 by_cases h3:x.1=3
 ·simp only[aB h3]at h
  rw[aB (by simpa using h3)]
  have:=hmax h3
  exact⟨by omega,aJL ⟨FI (aFA hnb hadd h)⟩⟩
 simp only[aA h3]at h
 rw[aA (by simpa using h3)]
 by_cases h4:x.1=4
 ·simp only[aB h4]at h
  rw[aB (by simpa using h4)]
  exact aIT ⟨FI (aFA hnb hadd h)⟩
 simp only[aA h4]at h
 rw[aA (by simpa using h4)]
 exact⟨FI (aFA hnb hadd h)⟩
def GJ (x:Lay)(g t:T3):G3×Int :=
 if x.1=1 then(if (aDv g t).2=0 then(if (aED g).2=0 then((true,(aDv g t).1,(aED g).1),0)else(fE,(aED g).2))else(fE,(aDv g t).2))
 else(if (uP g t x.2.2.1 x.2.2.2.1 x.2.2.2.2.1).2=0 then(if (PO g).2=0 then((true,(uP g t x.2.2.1 x.2.2.2.1 x.2.2.2.2.1).1,(PO g).1),0)else(fE,(PO g).2))else(fE,(uP g t x.2.2.1 x.2.2.2.1 x.2.2.2.2.1).2))
theorem aOf {a b:Int}{W B:T3}{K0:Bool×List Int×Int×List Int×List Int×Int×List Int->Prop}{K1:Int->Prop}(h:a=0->b=0->K0 (true,W.1,W.2.1,W.2.2,B.1,B.2.1,B.2.2))(h1:a=0->b≠0->K1 b)(h2:a≠0->K1 a) :
 bQ a b true W.1 W.2.1 B.1 B.2.1 W.2.2 B.2.2 (fun y=>dY y.1 (fun _=>K0 (y.2.1,y.2.2.1,y.2.2.2.1,y.2.2.2.2.1,y.2.2.2.2.2.1,y.2.2.2.2.2.2.1,y.2.2.2.2.2.2.2)) (fun _=>K1 y.1)):=by
 refine⟨?_⟩
 by_cases ha:a=0
 ·rw[aB (by simpa using ha)]
  refine⟨?_⟩
  by_cases hb:b=0
  ·rw[aA (by simpa using hb)]
   refine⟨?_⟩
   dsimp only
   rw[aA (by simp)]
   exact h ha hb
  ·rw[aB (by simpa using hb)]
   refine⟨?_⟩
   dsimp only
   rw[aB (by simpa using hb)]
   exact h1 ha hb
 ·rw[aA (by simpa using ha)]
  refine⟨?_⟩
  rw[aB (by simpa using ha)]
  refine⟨?_⟩
  dsimp only
  rw[aB (by simpa using ha)]
  exact h2 ha
def aOT (G:G3):Bool×List Int×Int×List Int×List Int×Int×List Int:=(G.1,G.2.1.1,G.2.1.2.1,G.2.1.2.2,G.2.2.1,G.2.2.2.1,G.2.2.2.2)
theorem aO6 {g t:T3}{x:Lay}{w:Bool}{K0:Bool×List Int×Int×List Int×List Int×Int×List Int->Prop}{K1:Int->Prop}(ag:All8 g.2.2)(at8:All8 t.2.2)(h0:w=true->(GJ x g t).2=0->K0 (aOT (GJ x g t).1))(h1:w=true->(GJ x g t).2≠0->K1 (GJ x g t).2)(h2:w=false->K0 (aOT fE)) :
 gK g w x.1 x.2.2.1 x.2.2.2.1 x.2.2.2.2.1 t.1 t.2.1 t.2.2 false 0 0 K0 K1:=by
 refine⟨?_⟩
 cases w with
 | false=>rw[aA (by simp)];exact h2 rfl
 | true =>
   have h0:=h0 rfl
   have h1:=h1 rfl
   rw[aB rfl]
   unfold GJ at h0 h1
   by_cases hk:x.1=1
   ·simp only[aB hk]at h0 h1
    rw[aB (by simpa using hk)]
    refine aO4 ag at8 (aNs ag (aOf (fun ha hb => ?_) (fun ha hb => ?_) (fun ha => ?_)))
    ·simp only[aB ha,aB hb]at h0
     exact h0 trivial
    ·simp only[aB ha,aA hb]at h1
     exact h1 hb
    ·simp only[aA ha]at h1
     exact h1 ha
   ·simp only[aA hk]at h0 h1
    rw[aA (by simpa using hk)]
    refine aKJ ag at8 (aNO ag (aOf (fun ha hb => ?_) (fun ha hb => ?_) (fun ha => ?_)))
    ·simp only[aB ha,aB hb]at h0
     exact h0 trivial
    ·simp only[aB ha,aA hb]at h1
     exact h1 hb
    ·simp only[aA ha]at h1
     exact h1 ha
def aC2 (x:Lay):Bool:=((x.1==1)||(x.1==2)) && !x.2.2.2.2.2.2
def grV (x:Lay)(g t:T3):G3×Int:=if aC2 x=true then GJ x g t else(fE,0)
noncomputable def aAn (m:Mdl)(ps:List Prm)(T:List T3)(F:List (List Int))(st s:Int)(n:Nat)(back:List (List T3))(g:T3):(G3×Int)×List (List T3) :=
 if (grV (m.2.getD (n-1) cA) g (T.getD (n-1) Z3)).2=0 then
  (((grV (m.2.getD (n-1) cA) g (T.getD (n-1) Z3)).1,(AA st s n (onV (m.2.getD (n-1) cA) (ps.getD (n-1) gL) g (T.getD (n-1) Z3) (F.getD n []) st s n).2 (m.2.getD (n-1) cA).1 (m.2.getD (n-1) cA).2.2.2.2.2.1 g (onV (m.2.getD (n-1) cA) (ps.getD (n-1) gL) g (T.getD (n-1) Z3) (F.getD n []) st s n).1 back).1),
    (AA st s n (onV (m.2.getD (n-1) cA) (ps.getD (n-1) gL) g (T.getD (n-1) Z3) (F.getD n []) st s n).2 (m.2.getD (n-1) cA).1 (m.2.getD (n-1) cA).2.2.2.2.2.1 g (onV (m.2.getD (n-1) cA) (ps.getD (n-1) gL) g (T.getD (n-1) Z3) (F.getD n []) st s n).1 back).2)
 else((fE,(grV (m.2.getD (n-1) cA) g (T.getD (n-1) Z3)).2),back)
noncomputable def pF (m:Mdl)(ps:List Prm)(T:List T3)(F:List (List Int))(st s:Int)(n:Nat)(back:List (List T3)):(G3×Int)×List (List T3) :=
 match back.getD n []with
 | [g]=>aAn m ps T F st s n back g
 | _=>((fE,0),back)
noncomputable def qM (m:Mdl)(ps:List Prm)(T:List T3)(F:List (List Int))(st s:Int):Nat->List G3->List (List T3)->List G3×Int×Int
 | 0,out,_=>(out,0,0)
 | n+1,out,back=>if (pF m ps T F st s (n+1) back).1.2=0 then qM m ps T F st s n (out.set n (pF m ps T F st s (n+1) back).1.1) (pF m ps T F st s (n+1) back).2 else([],((n+1:Nat):Int),(pF m ps T F st s (n+1) back).1.2)
noncomputable def UG (m:Mdl)(ps:List Prm)(T:List T3)(F:List (List Int))(g:T3)(s st:Int):List G3×Int×Int :=
 if GM m ps T F st g=0 then qM m ps T F st s m.2.length (List.replicate m.2.length fE) ((List.replicate T.length []).set m.2.length [g])else([],0,GM m ps T F st g)
def Bk8 (back:List (List T3)):Prop:=∀ l∈back,∀ t∈l,All8 t.2.2
theorem QI {st s:Int}{a:T3}{e i w:Int}:All8 (mM st s a e i w).1.2.2:=by
 unfold mM
 split
 ·intro y hy;cases hy
 ·exact aKq
theorem Bk8.set {back:List (List T3)}(h:Bk8 back){i:Nat}{t:T3}(ht:All8 t.2.2):Bk8 (back.set i [t]):=by
 intro l hl t' ht'
 rcases List.mem_or_eq_of_mem_set hl with h1|h1
 ·exact h l h1 t' ht'
 ·subst h1
  rw[G6]at ht'
  subst ht';exact ht
theorem Bk8.at_ {back:List (List T3)}(h:Bk8 back){i:Nat}{t:T3}(ht:back.getD i []=[t]):All8 t.2.2:=by
 rw[aW]at ht
 cases hi:back[i]? with
 | none=>rw[hi]at ht;cases ht
 | some l =>
   rw[hi]at ht
   have ht:l=[t]:=ht
   exact h l (s7 hi) t (by rw[ht];exact List.mem_singleton.2 rfl)
theorem aO9 {st s:Int}{back:List (List T3)}{i:Int}{g:T3}(h:Bk8 back)(hg:All8 g.2.2):Bk8 (MA st s back i g).2:=by
 unfold MA
 split
 ·split
  ·exact h
  ·exact h.set QI
 ·exact h.set hg
theorem aMX {st s e kd fr:Int}{g:T3}{back:List (List T3)}(h:Bk8 back)(hg:All8 g.2.2):Bk8 (QX st s e kd fr g back).2:=by
 unfold QX
 split
 ·exact aO9 h hg
 ·exact h
theorem aIN {st s e kd fr:Int}{g:T3}{back:List (List T3)}:(QX st s e kd fr g back).2.length=back.length:=by
 unfold QX
 split
 ·exact aA8 _ _ _ _ _
 ·rfl
theorem aOs {st s n e kd fr:Int}{g nx:T3}{back:List (List T3)}(h:Bk8 back)(hg:All8 g.2.2)(hx:All8 nx.2.2):Bk8 (AA st s n e kd fr g nx back).2:=by
 unfold AA
 split
 ·exact aMX (aO9 h hx) hg
 ·exact aMX h hg
theorem aKK {st s n e kd fr:Int}{g nx:T3}{back:List (List T3)}:(AA st s n e kd fr g nx back).2.length=back.length:=by
 unfold AA
 split
 ·rw[aIN,aA8]
 ·exact aIN
theorem on8 {x:Lay}{p:Prm}{g t:T3}{fr:List Int}{st s n:Int}(hg:All8 g.2.2):All8 (onV x p g t fr st s n).1.2.2:=by
 unfold onV
 split
 ·unfold rbF
  split
  ·split
   ·intro y hy
    unfold tab at hy
    obtain⟨i,_,rfl⟩:=List.mem_map.1 hy
    split
    ·exact hg.at_ i
    ·omega
   ·intro y hy;cases hy
  ·intro y hy;cases hy
 split
 ·unfold HX
  split
  ·split
   ·exact hg
   ·intro y hy;cases hy
  ·intro y hy;cases hy
 split
 ·exact hg
 split
 ·exact QI
 split
 ·exact QI
 split
 ·exact QI
 split
 ·exact QI
 ·exact QI
theorem aKr {m:Mdl}{ps:List Prm}{T:List T3}{F:List (List Int)}{st s:Int}{n:Nat}{back:List (List T3)}(h:Bk8 back):Bk8 (pF m ps T F st s n back).2/\(pF m ps T F st s n back).2.length=back.length:=by
 unfold pF
 split
 ·rename_i g hg
  have g8:=h.at_ hg
  unfold aAn
  split
  ·exact⟨aOs h g8 (on8 g8),aKK⟩
  ·exact⟨h,rfl⟩
 ·exact⟨h,rfl⟩
theorem aNq {n:Nat}{e:Int}{out:List G3}{G:G3}{K0 K1:List G3->Prop}(hn:1<=n/\n<=out.length/\n<=1000000)(h0:e=0->K0 (out.set (n-1) G))(h1:e≠0->K1 []) :
 j7 (n:Int) e out G.1 G.2.1.1 G.2.1.2.1 G.2.1.2.2 G.2.2.1 G.2.2.2.1 G.2.2.2.2 K0 K1:=by
 refine⟨?_⟩
 by_cases he:e=0
 ·rw[aA (by simpa using he)]
  have ew:i64.wrap ((n:Int)-1)=((n-1:Nat):Int):=by rw[aC _];omega
  rw[ew]
  simp only[Int.toNat_natCast]
  exact⟨by omega,h0 he⟩
 ·rw[aB (by simpa using he)]
  exact h1 he
structure aKD (m:Mdl)(ps:List Prm)(T:List T3)(F:List (List Int)):Prop where
 len:m.2.length<=12
 pl:ps.length=m.2.length
 t:T.length=m.2.length+1
 p8:∀ p∈ps,Prm8 p
 t8:Ten8 T
 dims:∀ i,i<T.length->(T.getD i Z3).1.length<=4
 conv:∀ i,i<m.2.length->(m.2.getD i cA).1=2->4<=(T.getD i Z3).1.length
 max:∀ i,i<m.2.length->(m.2.getD i cA).1=3->i+1<F.length
 add:∀ i,i<m.2.length->(m.2.getD i cA).1=7->0<=(m.2.getD i cA).2.2.2.2.2.1/\(m.2.getD i cA).2.2.2.2.2.1<(m.2.length:Int)
theorem aN2 {m:Mdl}{ps:List Prm}{T:List T3}{F:List (List Int)}{s st mx my mz:Int}(r:aKD m ps T F){K0:List G3->Prop}{K1:List G3×Int×Int->Prop}{out:List G3}{back:List (List T3)}
 (ho:out.length=m.2.length) (hb:back.length=m.2.length+1) (h8:Bk8 back) (h0:(qM m ps T F st s m.2.length out back).2.2=0->K0 (qM m ps T F st s m.2.length out back).1) (h1:(qM m ps T F st s m.2.length out back).2.2≠0->K1 (qM m ps T F st s m.2.length out back)) :
 C8 mx my mz m.2 ps T F s st K0 K1 ((m.2.length:Int),out,back):=by
 refine⟨?_⟩
 have hl:=r.len
 obtain⟨z,hz⟩:∃ z,qM m ps T F st s m.2.length out back=z:=⟨_,rfl⟩
 rw[hz]at h0 h1
 refine Loop.rangeI (B:=tQ mx my mz m.2 ps T F s st K0 K1) m.2.length
  (fun i z'=>z'.1=((m.2.length-i:Nat):Int)/\z'.2.1.length=m.2.length/\z'.2.2.length=m.2.length+1/\Bk8 z'.2.2/\qM m ps T F st s (m.2.length-i) z'.2.1 z'.2.2=z) ⟨rfl,ho,hb,h8,hz⟩ ?_ ?_
 ·rintro i hi ⟨z1,out,back⟩ ⟨rfl,e1,e2,h8,hq⟩ X hX
  unfold tQ
  dsimp only at e1 e2 h8 hq⊢
  obtain⟨n,hn⟩:∃ n,m.2.length-i=n+1:=⟨m.2.length-i-1,by omega⟩
  rw[hn]at hq⊢
  rw[aB (aF (show(0:Int)<((n+1:Nat):Int) by omega))]
  have ew:i64.wrap (((n+1:Nat):Int)-1)=(n:Int):=by rw[aC _];omega
  rw[ew]
  simp only[Int.toNat_natCast]
  refine⟨by omega,by rw[r.t];omega,by omega,?_⟩
  have hX':∀ (o:List G3) (b:List (List T3)),o.length=m.2.length->b.length=m.2.length+1->Bk8 b->qM m ps T F st s n o b=z->X ((n:Int),o,b):=fun o b k1 k2 k3 k4 =>
   hX _ ⟨by show(n:Int)=_;omega,k1,k2,k3,by rw[show m.2.length-(i+1)=n by omega];exact k4⟩
  unfold qM at hq
  have fin:∀ (G:G3) (e:Int) (b:List (List T3)),pF m ps T F st s (n+1) back=((G,e),b)->b.length=m.2.length+1->Bk8 b ->
   j7 ((n+1:Nat):Int) e out G.1 G.2.1.1 G.2.1.2.1 G.2.1.2.2 G.2.2.1 G.2.2.2.1 G.2.2.2.2 (fun y=>X ((n:Int),y,b)) (fun y=>K1 (y,((n+1:Nat):Int),e)):=by
   intro G e b he hb hb8
   rw[he]at hq
   refine aNq (by omega) (fun h => ?_) (fun h => ?_)
   ·simp only[aB h]at hq
    rw[CB]
    exact hX' _ _ (by rw[ET];exact e1) hb hb8 hq
   ·simp only[aA h]at hq
    subst hq
    exact h1 h
  refine aKi ?_
  obtain⟨l8,ll⟩:=aKr (m:=m) (ps:=ps) (T:=T) (F:=F) (st:=st) (s:=s) (n:=n+1) h8
  split
  ·rename_i g hg
   have g8:=h8.at_ hg
   have hL:pF m ps T F st s (n+1) back=aAn m ps T F st s (n+1) back g:=by unfold pF;rw[hg]
   rw[hL]at fin l8 ll
   unfold aAn at fin l8 ll
   rw[CB]at fin l8 ll
   have hni:n<m.2.length:=by omega
   have wt:aC2 (m.2.getD n cA)=true->grV (m.2.getD n cA) g (T.getD n Z3)=GJ (m.2.getD n cA) g (T.getD n Z3):=fun h=>by unfold grV;rw[aB h]
   have wf:aC2 (m.2.getD n cA)=false->grV (m.2.getD n cA) g (T.getD n Z3)=(fE,0):=fun h=>by unfold grV;rw[aA (by rw[h];simp)]
   have cont:∀ G:G3,(grV (m.2.getD n cA) g (T.getD n Z3)).1=G->(grV (m.2.getD n cA) g (T.getD n Z3)).2=0 ->
    d8 ((n+1:Nat):Int) g mx my mz m.2 ps T F s st (m.2.getD n cA).1 (m.2.getD n cA).2.2.2.2.2.1 (T.getD n Z3).1 (T.getD n Z3).2.1 (T.getD n Z3).2.2 back (fun y=>j7 ((n+1:Nat):Int) y.1 out G.1 G.2.1.1 G.2.1.2.1 G.2.1.2.2 G.2.2.1 G.2.2.2.1 G.2.2.2.2 (fun y4=>X ((n:Int),y4,y.2)) (fun y5=>K1 (y5,((n+1:Nat):Int),y.1))):=by
    intro G hG h0
    have k:=aOb (n:=n+1) (g:=g) (t:=T.getD n Z3) (mx:=mx) (my:=my) (mz:=mz) (s:=s) (st:=st) (L:=m.2) (P:=ps) (T:=T) (F:=F) (back:=back)
     (K:=fun y=>j7 ((n+1:Nat):Int) y.1 out G.1 G.2.1.1 G.2.1.2.1 G.2.1.2.2 G.2.2.1 G.2.2.2.1 G.2.2.2.2 (fun y4=>X ((n:Int),y4,y.2)) (fun y5=>K1 (y5,((n+1:Nat):Int),y.1)))
     (by omega) r.pl e2 g8 (Prm8.at_ r.p8 _) (by have:=r.dims n (by rw[r.t];omega);omega) (by rw[CB];exact r.conv n hni) (by rw[CB];exact r.max n hni) (by rw[CB,e2];intro h7;have:=r.add n hni h7;omega)
    rw[CB]at k
    refine k ?_
    rw[aB h0,hG]at fin
    rw[aB h0]at l8 ll
    exact fin _ _ _ rfl (ll.trans e2) l8
   refine aO6 g8 (r.t8.at_ n) (fun hw he => ?_) (fun hw he => ?_) (fun hw => ?_)
   ·rw[wt hw]at cont
    exact cont _ rfl he
   ·have:=fin fE (GJ (m.2.getD n cA) g (T.getD n Z3)).2 back (by rw[wt hw,aA he]) e2 h8
    exact this
   ·rw[wf hw]at cont
    exact cont fE rfl rfl
  ·rename_i hn2
   have hL:pF m ps T F st s (n+1) back=((fE,0),back):=by
    unfold pF
    split
    ·rename_i g hg;exact absurd hg (hn2 g)
    ·rfl
   exact fin fE 0 back hL e2 h8
 ·rintro⟨z1,out,back⟩ ⟨rfl,e1,e2,h8,hq⟩ X
  unfold tQ
  dsimp only at hq⊢
  rw[Nat.sub_self]at hq⊢
  rw[aA (by simp)]
  unfold qM at hq
  subst hq
  exact h0 rfl
theorem aCh {m:Mdl}{ps:List Prm}{T:List T3}{F:List (List Int)}{st:Int}{g:T3}(h:GM m ps T F st g=0):aNy m ps T g st/\(∀ i,i<m.2.length+1->(T.getD i Z3).1=(T.getD 0 Z3).1.take 1++(aU m).1.getD i [])/\aIz m T F g=false:=by
 unfold GM at h
 split at h
 ·cases h
 rename_i h1
 split at h
 ·cases h
 rename_i h2
 split at h
 ·cases h
 rename_i h3
 refine⟨SY (by simpa using h1),fun i hi => ?_,by simpa using h3⟩
 unfold aCE at h2
 simp only[HQ,not_exists,not_and]at h2
 have:=h2 i (List.mem_range.2 hi)
 simpa using this
theorem aFE {m:Mdl}{ps:List Prm}(h:zU m ps=true):(aU m).2.2=0:=by
 unfold zU at h
 simp only[aK,dR]at h
 exact h.1.1
theorem aGF {m:Mdl}{ps:List Prm}{T:List T3}{F:List (List Int)}{st:Int}{g:T3}(hp:∀ p∈ps,Prm8 p)(h8:Ten8 T)(h:GM m ps T F st g=0):aKD m ps T F:=by
 obtain⟨k,hd,h3⟩:=aCh h
 obtain⟨w1,w2⟩:=aBD k.ps
 obtain⟨_,⟨k1,k2⟩,k3⟩:=nP w1
 obtain⟨s1,s2,s3⟩:=aEh (aFE k.ps)
 have d0:=dD (k.t 0 (by have:=k.len;omega))
 refine⟨k2,w2,k.len,hp,h8,fun i hi=>(dD (k.t i hi)).1,fun i hi hx => ?_,fun i hi hx => ?_,fun i hi hx => ?_⟩
 ·have:=aIx (.inl hx) (by rw[<- (s3 i hi).1];exact(s3 i hi).2)
  rw[hd i (by omega),mR,C2,this]
  omega
 ·unfold aIz at h3
  have ha:(m.2.any fun x=>x.1==3)=true:=by
   rw[HQ]
   refine⟨m.2[i],fZ _,?_⟩
   rw[aW,aQ hi]at hx
   simpa using hx
  simp only[ha,MU,R0,eI,GU]at h3
  have:=k.len
  omega
 ·have:=MM (k3 i hi) hx
  rw[aC ((i:Int)-1)]at this
  omega
theorem aKA {m:Mdl}{ps:List Prm}{T:List T3}{F:List (List Int)}{g:T3}{s st:Int}{Q:List G3×Int×Int->Prop}(hl:m.2.length<=1000000)(hT:T.length<=1000000)(hp:∀ p∈ps,Prm8 p)(h8:Ten8 T)(hg:All8 g.2.2)(h:Q (UG m ps T F g s st)):D6 m ps (T,F) g s st Q:=by
 refine⟨aMm hl hT ?_⟩
 unfold UG at h
 by_cases he:GM m ps T F st g=0
 rotate_left
 ·rw[aA he]at h
  rw[aB (by simpa using he)]
  exact h
 rw[aB he]at h
 rw[aA (by simpa using he)]
 have r:=aGF hp h8 he
 have hl2:=r.len
 have ht:=r.t
 refine⟨by show(0:Int)<=(T.length:Int)/\((8:Nat):Int)*(T.length:Int)<=_;omega,⟨by omega,by rw[vU];simp only[Int.toNat_natCast];omega⟩,⟨by omega,by omega⟩,?_⟩
 simp only[Int.toNat_natCast]
 refine aN2 r (by rw[vU]) (by rw[ET,vU];exact ht) ?_ (fun h0 => ?_) (fun h1=>h)
 ·refine Bk8.set (fun l hl t ht => ?_) hg
  have:=aEO hl
  subst this;cases ht
 ·have key:∀ (n:Nat) (o:List G3) (b:List (List T3)),(qM m ps T F st s n o b).2.2=0->(qM m ps T F st s n o b).2.1=0:=by
   intro n
   induction n with
   | zero=>intro o b _;rfl
   | succ n ih =>
     intro o b hz
     unfold qM at hz⊢
     split
     ·rename_i h2;rw[aB h2]at hz;exact ih _ _ hz
     ·rename_i h2;rw[aA h2]at hz;exact absurd hz h2
  have k2:=key _ _ _ h0
  generalize qM m ps T F st s m.2.length (List.replicate m.2.length fE) ((List.replicate T.length []).set m.2.length [g])=z at h h0 k2⊢
  obtain⟨a,b,c⟩:=z
  dsimp only at h0 k2⊢
  subst h0 k2
  exact h
end Go.Proofs.YtcfpfefadlnmcaaGreat

namespace Go.Proofs.YtcfpfefadlnmcaaGreat
open Go.Mach Go.RowKit
set_option maxRecDepth 100000
set_option linter.unusedVariables false
set_option linter.unusedSimpArgs false
def unB (back:List (List T3)):List T3:=back.map fun l=>l.getD 0 Z3
def BN (back:List (List T3)):Prop:=∀ l∈back,l=[]\/∃ t:T3,l=[t]/\t.1≠[]
theorem aHy (back:List (List T3)):(unB back).length=back.length:=FH _
theorem aEe (back:List (List T3))(i:Nat)(t:T3):unB (back.set i [t])=(unB back).set i t:=by unfold unB;rw[List.map_set];rfl
theorem BN.set {back:List (List T3)}(h:BN back){i:Nat}{t:T3}(ht:t.1≠[]):BN (back.set i [t]):=by
 intro l hl
 rcases List.mem_or_eq_of_mem_set hl with h1|h1
 ·exact h l h1
 ·exact .inr ⟨t,h1,ht⟩
theorem BN.at_ {back:List (List T3)}(h:BN back)(i:Nat):(back.getD i []=[]/\(unB back).getD i Z3=Z3)\/∃ t:T3,back.getD i []=[t]/\t.1≠[]/\(unB back).getD i Z3=t:=by
 unfold unB
 rw[aW,aW,mO]
 cases hi:back[i]? with
 | none=>exact .inl ⟨rfl,rfl⟩
 | some l =>
   rcases h l (s7 hi)with h1|⟨t,h1,ht⟩
   ·subst h1;exact .inl ⟨rfl,rfl⟩
   ·subst h1;exact .inr ⟨t,rfl,ht,rfl⟩
theorem aEZ {l:List Int}(h:l≠[]):(0:Int)<(l.length:Int):=by
 have:=List.length_pos_iff.2 h
 omega
theorem AV {st s:Int}{a:T3}{e i w:Int}(h:(mM st s a e i w).2=0):(mM st s a e i w).1.1≠[]:=by
 unfold mM at h⊢
 split at h
 ·rename_i h1;exact absurd h (by simpa using h1)
 ·rename_i h1
  rw[aA h1]
  unfold vY at h⊢
  split at h
  ·cases h
  ·rename_i h2
   rw[aA h2]
   split at h
   ·cases h
   ·rename_i h3
    rw[aA h3]
    simp only[cJ,oR,jA,Bool.not_eq_false]at h2
    have hm:=h2.1.1
    intro e0
    unfold mD at hm
    have e0:a.1=[]:=e0
    rw[e0]at hm
    simp[szF]at hm
theorem aHw {st s i:Int}{g:T3}{back:List (List T3)}(h:(MA st s back i g).1≠0):(MA st s back i g).2=back:=by
 unfold MA at h⊢
 split
 ·split
  ·rfl
  ·rename_i t ht h1
   rw[ht]at h
   simp only[aA h1]at h
   exact absurd rfl h
 ·rename_i hn
  split at h
  ·rename_i t ht;exact absurd ht (hn t)
  ·exact absurd rfl h
theorem aMz {st s i:Int}{g:T3}{back:List (List T3)}(h:BN back)(hg:g.1≠[]):BN (MA st s back i g).2:=by
 unfold MA
 split
 ·split
  ·exact h
  ·rename_i h1
   exact h.set (AV (by simpa using h1))
 ·exact h.set hg
theorem aHm {st s i:Int}{g:T3}{back:List (List T3)}{A:Int->Prop}{B:List T3->Prop}(hB:BN back)(hi:0<=i/\i<(back.length:Int))
 (h0:(MA st s back i g).1=0->B (unB (MA st s back i g).2)) (h1:(MA st s back i g).1≠0->A (MA st s back i g).1) :
 ck (aG i (unB back).length) (if (decide (0<((((unB back).getD i.toNat Z3).1).length:Int)))=true then ck (aG i (unB back).length) (n8 ((unB back).getD i.toNat Z3) g (fun r5=>if (r5.2 != 0)=true then A r5.2 else gY st i 1 (fun r6=>j0 r5.1 8 s r6 (fun r7=>if (r7.2 != 0)=true then A r7.2 else ck (aG i (unB back).length) (B ((unB back).set i.toNat r7.1))))))else ck (aG i (unB back).length) (B ((unB back).set i.toNat g))):=by
 rw[aHy]
 refine⟨hi,?_⟩
 unfold MA at h0 h1
 rcases hB.at_ i.toNat with⟨e1,e2⟩|⟨t,e1,et,e2⟩
 ·rw[e1]at h0 h1
  rw[e2,aA (by simp)]
  refine⟨hi,?_⟩
  have:=h0 (by trivial)
  rw[aEe]at this
  exact this
 ·rw[e1]at h0 h1
  rw[e2,aB (aF (aEZ et))]
  refine⟨hi,aMi ?_⟩
  unfold mM at h0 h1
  dsimp only at h0 h1
  by_cases he:((addF t g).2 != 0)=true
  ·simp only[aB he]at h0 h1
   rw[aB he]
   exact h1 (by simpa using he)
  ·simp only[aA he]at h0 h1
   rw[aA he]
   refine aJz (aFT ?_)
   by_cases hs:((vY (addF t g).1 8 s (YK st i 1)).2 != 0)=true
   ·simp only[aB hs]at h0 h1
    rw[aB hs]
    exact h1 (by simpa using hs)
   ·simp only[aA hs]at h0 h1
    rw[aA hs]
    have:=h0 (by trivial)
    rw[aEe]at this
    exact⟨hi,this⟩
theorem aJm {e s st kd fr:Int}{g:T3}{back:List (List T3)}{K:Int×List T3->Prop}(hB:BN back)(hf:kd=7->0<=fr/\fr<(back.length:Int))(h:K ((QX st s e kd fr g back).1,unB (QX st s e kd fr g back).2)) :
 aN e s st kd fr g.1 g.2.1 g.2.2 (unB back) K:=by
 refine⟨?_⟩
 unfold QX at h
 by_cases hc:((e==0)&&(kd==7))=true
 ·rw[aB hc]at h⊢
  have hf:=hf (by simp only[aK,dR]at hc;exact hc.2)
  exact aHm (A:=fun e=>aP (fun _=>K (e,unB back))) (B:=fun b=>aP (fun _=>K (0,b))) hB hf (fun h0=>⟨by rw[h0]at h;exact h⟩) (fun h1=>⟨by rw[aHw h1]at h;exact h⟩)
 ·rw[aA hc]at h⊢;exact⟨h⟩
theorem aGD {st s e kd fr:Int}{g nx:T3}{back:List (List T3)}(h7:kd=7->nx=g):QX st s e kd fr g back=QX st s e kd fr nx back:=by
 unfold QX
 split
 ·rename_i hc
  simp only[aK,dR]at hc
  rw[h7 hc.2]
 ·rfl
theorem aJU {n e s st kd fr:Int}{g nx:T3}{back:List (List T3)}{K:Int×List T3->Prop}(hB:BN back)(hx:e=0->nx.1≠[])(hn:1<=n/\n<=(back.length:Int)/\back.length<=1000000)(hf:kd=7->0<=fr/\fr<(back.length:Int))(h7:kd=7->nx=g)(h:K ((AA st s n e kd fr g nx back).1,unB (AA st s n e kd fr g nx back).2)) :
 bX n e s st kd fr nx.1 nx.2.1 nx.2.2 (unB back) K:=by
 refine⟨?_⟩
 unfold AA at h
 rw[aC (n-1)]
 by_cases hc:(e==0)=true
 ·rw[aB hc]at h⊢
  rw[aGD h7]at h
  refine aHm (A:=fun e=>aN e s st kd fr nx.1 nx.2.1 nx.2.2 (unB back) K) (B:=fun b=>aN 0 s st kd fr nx.1 nx.2.1 nx.2.2 b K) hB (by omega) (fun h0 => ?_) (fun h1 => ?_)
  ·rw[h0]at h
   exact aJm (aMz hB (hx (by simpa using hc))) (by rw[aA8];exact hf) h
  ·rw[aHw h1]at h
   exact aJm hB hf h
 ·rw[aA hc]at h⊢
  rw[aGD h7]at h
  exact aJm hB hf h
theorem aJj {x:Lay}{p:Prm}{g t:T3}{fr:List Int}{st s n:Int}{Q:T3×T3×Int->Prop}(ag:All8 g.2.2)(ap:All8 p.1.2.2)(hg:g.1≠[])(hk:1<=x.1/\x.1<=7)(hc:x.1=2->4<=t.1.length)
 (h1:x.1≠7->∀ (a:T3) (e:Int),onV x p g t fr st s n=mM st s a e n 2->Q (Z3,a,e)) (h2:∀ (T:T3) (e:Int),onV x p g t fr st s n=(T,e)->(e=0->T.1≠[])->(x.1=7->T=g)->Q (T,Z3,e)):t7 x p g t fr Q:=by
 refine⟨?_⟩
 unfold onV at h1 h2
 by_cases k1:x.1=1
 ·rw[aB (by simpa using k1)]
  simp only[aA (show ¬ x.1=5 by omega),aA (show ¬ x.1=6 by omega),aA (show ¬ x.1=7 by omega),aB k1]at h1
  exact aNF ag ap ⟨h1 (by omega) _ _ rfl⟩
 rw[aA (by simpa using k1)]
 by_cases k2:x.1=2
 ·rw[aB (by simpa using k2)]
  simp only[aA (show ¬ x.1=5 by omega),aA (show ¬ x.1=6 by omega),aA (show ¬ x.1=7 by omega),aA k1,aB k2]at h1
  have:=hc k2
  exact⟨by omega,by omega,aNW ag ap ⟨h1 (by omega) _ _ rfl⟩⟩
 rw[aA (by simpa using k2)]
 by_cases k3:x.1=3
 ·rw[aB (by simpa using k3)]
  simp only[aA (show ¬ x.1=5 by omega),aA (show ¬ x.1=6 by omega),aA (show ¬ x.1=7 by omega),aA k1,aA k2,aB k3]at h1
  exact aHX ⟨h1 (by omega) _ _ rfl⟩
 rw[aA (by simpa using k3)]
 by_cases k4:x.1=4
 ·rw[aB (by simpa using k4)]
  simp only[aA (show ¬ x.1=5 by omega),aA (show ¬ x.1=6 by omega),aA (show ¬ x.1=7 by omega),aA k1,aA k2,aA k3,aB k4]at h1
  exact aGt ⟨h1 (by omega) _ _ rfl⟩
 rw[aA (by simpa using k4)]
 by_cases k5:x.1=5
 ·rw[aB (by simpa using k5)]
  simp only[aB k5]at h2
  refine aLz (h2 _ _ rfl (fun h0 => ?_) (fun h7=>by omega))
  unfold rbF at h0⊢
  split
  ·split
   ·exact hg
   ·rename_i h3 h4;rw[aB h3,aA h4]at h0;cases h0
  ·rename_i h3;rw[aA h3]at h0;cases h0
 rw[aA (by simpa using k5)]
 by_cases k6:x.1=6
 ·rw[aB (by simpa using k6)]
  simp only[aA k5,aB k6]at h2
  refine aLB (h2 _ _ rfl (fun h0 => ?_) (fun h7=>by omega))
  unfold HX at h0⊢
  split
  ·rename_i h3
   split
   ·have:=(tP h3.2).1.1
    intro e;rw[show t.1=[]from e]at this;simp at this
   ·rename_i h4;rw[aB h3,aA h4]at h0;cases h0
  ·rename_i h3;rw[aA h3]at h0;cases h0
 rw[aA (by simpa using k6)]
 have k7:x.1=7:=by omega
 simp only[aA k5,aA k6,aB k7]at h2
 exact h2 _ _ rfl (fun _=>hg) (fun _=>rfl)
theorem aCU {n:Nat}{x:Lay}{p:Prm}{g t:T3}{fr:List Int}{st s:Int}{back:List (List T3)}{K:Int×List T3->Prop}(hB:BN back)(hn:1<=n/\n<=back.length/\back.length<=1000000)(hf:x.1=7->0<=x.2.2.2.2.2.1/\x.2.2.2.2.2.1<(back.length:Int))
 (ag:All8 g.2.2) (ap:All8 p.1.2.2) (hg:g.1≠[]) (hk:1<=x.1/\x.1<=7) (hc:x.1=2->4<=t.1.length)
 (h:K ((AA st s n (onV x p g t fr st s n).2 x.1 x.2.2.2.2.2.1 g (onV x p g t fr st s n).1 back).1,unB (AA st s n (onV x p g t fr st s n).2 x.1 x.2.2.2.2.2.1 g (onV x p g t fr st s n).1 back).2)) :
 bY (n:Int) fr s st x.1 x.2.1 x.2.2.1 x.2.2.2.1 x.2.2.2.2.1 x.2.2.2.2.2.1 x.2.2.2.2.2.2 p.1.1 p.1.2.1 p.1.2.2 p.2.1 p.2.2.1 p.2.2.2.1 p.2.2.2.2 g.1 g.2.1 g.2.2 t.1 t.2.1 t.2.2 (unB back) K:=by
 refine⟨aJj (x:=x) (p:=p) (g:=g) (t:=t) (st:=st) (s:=s) (n:=(n:Int)) ag ap hg hk hc (fun h7 a e he => ?_) (fun T e he hT h7 => ?_)⟩
 ·rw[he]at h
  by_cases h0:e=0
  ·subst h0
   rw[aB (by simp)]
   refine aJz (aFT ?_)
   have e3:mM st s a 0 n 2=vY a 8 s (YK st n 2):=by unfold mM;rw[aA (by simp)]
   rw[e3]at h
   exact aJU hB (fun h0=>by have:=AV (st:=st) (s:=s) (a:=a) (e:=0) (i:=n) (w:=2);rw[e3]at this;exact this h0) (by omega) hf (fun h=>absurd h h7) h
  ·rw[aA (by simp[h0])]
   have e3:mM st s a e n 2=(Z3,e):=by unfold mM;rw[aB (by simpa using h0)]
   rw[e3]at h
   exact aJU (g:=g) (nx:=Z3) hB (fun h=>absurd h h0) (by omega) hf (fun h=>absurd h h7) h
 ·rw[he]at h
  rw[aA (by
   simp only[aK,dR,not_and]
   intro h0
   have:=aEZ (hT h0)
   omega)]
  exact aJU (g:=g) (nx:=T) hB hT (by omega) hf h7 h
theorem aI9 {n:Nat}{x:Lay}{p:Prm}{g t:T3}{F:List (List Int)}{st s:Int}{back:List (List T3)}{K:Int×List T3->Prop}(hB:BN back)(hn:1<=n/\n<=back.length/\back.length<=1000000)(hf:x.1=7->0<=x.2.2.2.2.2.1/\x.2.2.2.2.2.1<(back.length:Int))
 (ag:All8 g.2.2) (ap:All8 p.1.2.2) (hg:g.1≠[]) (hk:1<=x.1/\x.1<=7) (hc:x.1=2->4<=t.1.length) (hF:F≠[]->n<F.length)
 (h:K ((AA st s n (onV x p g t (F.getD n []) st s n).2 x.1 x.2.2.2.2.2.1 g (onV x p g t (F.getD n []) st s n).1 back).1,unB (AA st s n (onV x p g t (F.getD n []) st s n).2 x.1 x.2.2.2.2.2.1 g (onV x p g t (F.getD n []) st s n).1 back).2)) :
 bE (n:Int) s st x.1 x.2.1 x.2.2.1 x.2.2.2.1 x.2.2.2.2.1 x.2.2.2.2.2.1 x.2.2.2.2.2.2 p.1.1 p.1.2.1 p.1.2.2 p.2.1 p.2.2.1 p.2.2.2.1 p.2.2.2.2 F g.1 g.2.1 g.2.2 t.1 t.2.1 t.2.2 (unB back) K:=by
 refine⟨?_⟩
 by_cases h0:F=[]
 ·rw[aA (by rw[h0];simp)]
  have e:F.getD n []=[]:=by rw[h0];rfl
  rw[e]at h
  exact aCU hB hn hf ag ap hg hk hc h
 ·have:=hF h0
  rw[aB (aF (by omega)),bJ]
  exact⟨by omega,aCU hB hn hf ag ap hg hk hc h⟩
theorem aHA {x:Lay}{g t:T3}{Q:G3×Int->Prop}(ag:All8 g.2.2)(at8:All8 t.2.2)(h:Q (GJ x g t)):rY x g t Q:=by
 refine⟨?_⟩
 unfold GJ at h
 have key:∀ {a b:T3×Int},Q (if a.2=0 then(if b.2=0 then(((true,a.1,b.1):G3),(0:Int))else(fE,b.2))else(fE,a.2)) ->
  (if (a.2==0)=true then if (b.2 != 0)=true then Q (fE,b.2)else Q ((true,(a.1,b.1)),0)else if (a.2 != 0)=true then Q (fE,a.2)else Q ((true,(a.1,b.1)),0)):=fun {a b} hq=>by
  by_cases h1:a.2=0
  ·rw[aB (by simpa using h1)]
   rw[aB h1]at hq
   by_cases h2:b.2=0
   ·rw[aA (by simpa using h2)]
    rw[aB h2]at hq
    exact hq
   ·rw[aB (by simpa using h2)]
    rw[aA h2]at hq
    exact hq
  ·rw[aA (by simpa using h1),aB (by simpa using h1)]
   rw[aA h1]at hq
   exact hq
 by_cases k:x.1=1
 ·rw[aB (by simpa using k)]
  rw[aB k]at h
  exact aNa ag at8 (aMn ag (key h))
 ·rw[aA (by simpa using k)]
  rw[aA k]at h
  exact aMj ag at8 (aNc ag (key h))
end Go.Proofs.YtcfpfefadlnmcaaGreat

namespace Go.Proofs.YtcfpfefadlnmcaaGreat
open IntKind (i8 i16 i32 i64 u8 u16 u32 u64)
open Go.Mach Go.RowKit
set_option maxRecDepth 100000
set_option linter.unusedVariables false
set_option linter.unusedSimpArgs false
theorem aFq {m:Mdl}{ps:List Prm}{T:List T3}{F:List (List Int)}{st:Int}{g:T3}(h:ZY m ps T st g=true):GM m ps T F st g=1:=by unfold GM;rw[aB h]
theorem aG2 {m:Mdl}{ps:List Prm}{T:List T3}{F:List (List Int)}{st:Int}{g:T3}{Q:Int->Prop}(hl:m.2.length<=1000000)(hT:T.length<=1000000)(mp:zU m ps=true)(hst:0<=st/\st<=1000000)(h:Q (GM m ps T F st g)):rS m (T,F) g Q:=by
 refine⟨?_⟩
 refine f7 (c := !bB g) (fun _ P hP=>aDi hP) (fun v ev => ?_) rfl
 rw[aC ((m.2.length:Int)+1)]at ev
 have h1:ZY m ps T st g=true->Q 1:=fun hb=>by rw[aFq hb]at h;exact h
 have eb:ZY m ps T st g=(v||T.any fun t => !bB t):=by
  unfold ZY
  rw[ev,kG (by omega),kG (by omega),mp]
  simp
 cases v with
 | true=>rw[aB rfl];exact h1 (by rw[eb];rfl)
 | false =>
 rw[aA (by simp)]
 refine⟨?_⟩
 refine Loop.range (B:=iZ T (T.length:Int) _ _) T.length (fun i=>(i:Int)) (fun i=>∀ j,j<i->bB (T.getD j Z3)=true) (fun j hj=>absurd hj (by omega)) ?_ ?_
 ·intro i hi hI X hX
  unfold iZ
  rw[aB (aF (show(i:Int)<(T.length:Int) by omega))]
  refine⟨by omega,aDi ?_⟩
  rw[bJ]
  cases hm:bB (T.getD i ([],(0,[])))with
  | false =>
    rw[aB (by rfl)]
    refine h1 ?_
    rw[eb,PU,HQ]
    refine⟨T[i],fZ hi,?_⟩
    rw[aW,aQ hi]at hm
    have hm:bB T[i]=false:=hm
    rw[hm];rfl
  | true =>
    rw[aA (by simp),aC _]
    refine hX fun j hj => ?_
    by_cases hji:j=i
    ·subst hji;exact hm
    ·exact hI j (by omega)
 intro hM X0
 unfold iZ
 rw[aA (by simp)]
 have hb1:ZY m ps T st g=false:=by
  rw[eb,PU,OE]
  intro t ht
  obtain⟨i,hi,rfl⟩:=List.mem_iff_getElem.1 ht
  have:=hM i hi
  rw[aW,aQ hi]at this
  have this:bB T[i]=true:=this
  rw[this];simp
 have k:=SY hb1
 obtain⟨hm,hok⟩:=uC (m:=m) (by
  have:=k.ps
  unfold zU at this
  simp only[aK,dR]at this
  exact this.1.1)
 have hlen:=k.len
 have hsl:=hok.len
 unfold GM at h
 rw[aA (by rw[hb1];simp)]at h
 have h2:aCE m T=true->Q 2:=fun hb=>by rw[aB hb]at h;exact h
 have d0:=dD (k.t 0 (by omega))
 refine I9 (m:=m) (by omega) ⟨?_⟩
 refine Loop.rangeI (B:=iT T (T.length:Int) m.2 T (aU m).1 _ _) T.length (fun i s=>s.2=(i:Int)/\s.1=((m.2.take (i-1)).any fun x=>x.1==3)/\∀ j,j<i->(T.getD j Z3).1=(T.getD 0 Z3).1.take 1++(aU m).1.getD j []) ⟨rfl,rfl,fun j hj=>absurd hj (by omega)⟩ ?_ ?_
 ·rintro i hi ⟨b,i'⟩ ⟨e1,e2,e3⟩ X hX
  dsimp only at e1 e2
  subst e1
  unfold iT
  dsimp only
  rw[aB (aF (show(i:Int)<(T.length:Int) by omega))]
  have di:=dD (k.t i hi)
  simp only[Int.toNat_natCast]
  have di':1<=(T.getD i ([],(0,[]))).1.length:=di.2.2.1
  have d0':1<=(T.getD 0 ([],(0,[]))).1.length:=d0.2.2.1
  refine⟨by omega,⟨(fun e0=>by rw[e0]at di';simp at di'),by omega,by omega,by omega⟩,by omega,GD (by rw[E5,C2];have:=di.1;show _<=1000000;have:(T.getD i ([],(0,[]))).1.length<=4:=di.1;omega) ?_⟩
  rw[rJ]
  refine f7 (c:=((T.getD i ([],(0,[]))).1.getD 0 0 != (T.getD 0 ([],(0,[]))).1.getD 0 0)) (fun _ P hP=>⟨by omega,by omega,by omega,hP⟩) (fun v ev => ?_) rfl
  have key:v = !decide ((T.getD i Z3).1=(T.getD 0 Z3).1.take 1++(aU m).1.getD i []):=by
   rw[ev]
   show(!decide (List.drop 1 (T.getD i Z3).1=(aU m).1.getD i [])||((T.getD i Z3).1.getD 0 0 != (T.getD 0 Z3).1.getD 0 0))=_
   have di2:1<=(T.getD i Z3).1.length:=di'
   have d02:1<=(T.getD 0 Z3).1.length:=d0'
   generalize (T.getD i Z3).1=u at di2⊢
   generalize (T.getD 0 Z3).1=w at d02⊢
   generalize (aU m).1.getD i []=z
   match u,di2,w,d02 with
   | a::u,_,c::w,_ =>
     show(!decide (u=z)||(a != c)) = !decide (a::u=c::z)
     by_cases q1:u=z
     ·by_cases q2:a=c
      ·simp[q1,q2]
      ·simp[q1,q2]
     ·simp[q1]
  cases v with
  | true=>rw[aB rfl];exact h2 (by
   unfold aCE
   rw[HQ]
   exact⟨i,List.mem_range.2 (by omega),key.symm⟩)
  | false =>
    rw[aA (by simp)]
    have hX':∀ b',b'=((m.2.take (i+1-1)).any fun x=>x.1==3)->X (b',i64.wrap ((i:Int)+1)):=fun b' hb'=>hX _ ⟨by rw[aC _];rfl,hb',fun j hj=>by
     by_cases hji:j=i
     ·subst hji;simpa using key
     ·exact e3 j (by omega)⟩
    have en:0<i->(m.2.take (i+1-1)).any (fun x=>x.1==3)=(b||((m.2.getD (i-1) cA).1==3)):=fun h0=>by
     rw[e2]
     obtain⟨q,rfl⟩:∃ q,i=q+1:=⟨i-1,by omega⟩
     rw[CB,CB,FP (by omega) cA,List.any_append]
     simp
    refine f7 (b:=b) (c:=decide (0<(i:Int))&&((m.2.getD (i-1) cA).1==3)) (fun _ P hP => ?_) (fun v2 ev2=>hX' v2 ?_) rfl
    ·refine AB (c:=((m.2.getD (i-1) cA).1==3)) (fun h0 P hP => ?_) (fun v ev=>by rw[ev];exact hP) rfl
     have h0:0<(i:Int):=by simpa using h0
     rw[aC ((i:Int)-1),show((i:Int)-1).toNat=i-1 by omega]
     exact⟨by omega,hP⟩
    ·by_cases h0:0<i
     ·rw[en h0,ev2,aF (by omega),E1]
     ·have:i=0:=by omega
      subst this
      rw[ev2,e2];rfl
 ·rintro⟨b,i'⟩ ⟨e1,e2,e3⟩ X
  dsimp only at e1 e2
  subst e1
  unfold iT
  dsimp only
  rw[aA (by simp)]
  have hb2:aCE m T=false:=by
   unfold aCE
   rw[OE]
   intro j hj
   rw[aF (e3 j (by have:=List.mem_range.1 hj;omega))]
   simp
  rw[hb2,aA (by simp)]at h
  rw[hlen,CB,rJ]at e2
  refine f7 (c := !decide (g.1=(T.getD (T.length-1) Z3).1)) (fun _ P hP => ?_) (fun v ev => ?_) rfl
  ·rw[aC ((T.length:Int)-1),show((T.length:Int)-1).toNat=T.length-1 by omega]
   exact⟨by omega,GD (by have:=(dD k.g).1;omega) hP⟩
  ·have e4:v=aIz m T F g:=by rw[ev,e2];rfl
   rw[<- e4]at h
   cases v with
   | true=>rw[aB rfl]at h⊢;exact h
   | false=>rw[aA (by simp)]at h⊢;exact h
theorem aKW {l:List (List Int)}(h:l≠[]):(0:Int)<(l.length:Int):=by
 have:=List.length_pos_iff.2 h
 omega
theorem aKV {l:List G3}{n:Nat}(hn:n<l.length)(h:l.getD n fE=fE):l.set n fE=l:=by
 have e:l[n]=fE:=by rw[aW,aQ hn]at h;exact h
 rw[<- e];exact List.set_getElem_self hn
theorem aO3 {st s n e kd fr:Int}{g nx:T3}{back:List (List T3)}(h:BN back)(hg:g.1≠[])(hx:e=0->nx.1≠[]):BN (AA st s n e kd fr g nx back).2:=by
 have ad:∀ (e:Int) (b:List (List T3)),BN b->BN (QX st s e kd fr g b).2:=fun e b hb=>by
  unfold QX
  split
  ·exact aMz hb hg
  ·exact hb
 unfold AA
 split
 ·rename_i hc
  exact ad _ _ (aMz h (hx (by simpa using hc)))
 ·exact ad _ _ h
theorem aOo {x:Lay}{p:Prm}{g t:T3}{fr:List Int}{st s n:Int}(hg:g.1≠[])(h:(onV x p g t fr st s n).2=0):(onV x p g t fr st s n).1.1≠[]:=by
 unfold onV at h⊢
 split
 ·rename_i k;rw[aB k]at h
  unfold rbF at h⊢
  split
  ·split
   ·exact hg
   ·rename_i h3 h4;rw[aB h3,aA h4]at h;cases h
  ·rename_i h3;rw[aA h3]at h;cases h
 rename_i k5;rw[aA k5]at h
 split
 ·rename_i k;rw[aB k]at h
  unfold HX at h⊢
  split
  ·rename_i h3
   split
   ·have:=(tP h3.2).1.1
    intro e;rw[show t.1=[]from e]at this;simp at this
   ·rename_i h4;rw[aB h3,aA h4]at h;cases h
  ·rename_i h3;rw[aA h3]at h;cases h
 rename_i k6;rw[aA k6]at h
 split
 ·exact hg
 rename_i k7;rw[aA k7]at h
 split
 ·rename_i k;rw[aB k]at h;exact AV h
 rename_i k1;rw[aA k1]at h
 split
 ·rename_i k;rw[aB k]at h;exact AV h
 rename_i k2;rw[aA k2]at h
 split
 ·rename_i k;rw[aB k]at h;exact AV h
 rename_i k3;rw[aA k3]at h
 split
 ·rename_i k;rw[aB k]at h;exact AV h
 ·rename_i k;rw[aA k]at h;exact AV h
structure aOl (m:Mdl)(T:List T3)(F:List (List Int)):Prop where
 kind:∀ i,i<m.2.length->1<=(m.2.getD i cA).1/\(m.2.getD i cA).1<=7
 from_:F≠[]->F.length=m.2.length+1
theorem aMN {m:Mdl}{ps:List Prm}{T:List T3}{F:List (List Int)}{s st:Int}(r:aKD m ps T F)(r2:aOl m T F){K0:List G3->Prop}{K1:List G3×Int×Int->Prop}{out:List G3}{back:List (List T3)}
 (ho:out.length=m.2.length) (hb:back.length=m.2.length+1) (h8:Bk8 back) (hN:BN back) (hO:∀ j,j<m.2.length->out.getD j fE=fE) (h0:(qM m ps T F st s m.2.length out back).2.2=0->K0 (qM m ps T F st s m.2.length out back).1) (h1:(qM m ps T F st s m.2.length out back).2.2≠0->K1 (qM m ps T F st s m.2.length out back)) :
 oD ps m.2 T F s st K0 K1 ((m.2.length:Int),out,unB back):=by
 refine⟨?_⟩
 have hl:=r.len
 have hpl:=r.pl
 have htl:=r.t
 obtain⟨z,hz⟩:∃ z,qM m ps T F st s m.2.length out back=z:=⟨_,rfl⟩
 rw[hz]at h0 h1
 refine Loop.rangeI (B:=iD ps m.2 T F s st K0 K1) m.2.length
  (fun i z'=>z'.1=((m.2.length-i:Nat):Int)/\z'.2.1.length=m.2.length/\(∀ j,j<m.2.length-i->z'.2.1.getD j fE=fE)/\∃ back,z'.2.2=unB back/\back.length=m.2.length+1/\Bk8 back/\BN back/\qM m ps T F st s (m.2.length-i) z'.2.1 back=z) ⟨rfl,ho,fun j hj=>hO j (by omega),back,rfl,hb,h8,hN,hz⟩ ?_ ?_
 ·rintro i hi ⟨z1,out,rb⟩ ⟨rfl,e1,e3,back,e4,e2,h8,hN,hq⟩ X hX
  dsimp only at e1 e3 e4 hq
  subst e4
  unfold iD
  dsimp only
  obtain⟨n,hn⟩:∃ n,m.2.length-i=n+1:=⟨m.2.length-i-1,by omega⟩
  rw[hn]at hq e3⊢
  rw[aB (aF (show(1:Int)<=((n+1:Nat):Int) by omega))]
  have ew:i64.wrap (((n+1:Nat):Int)-1)=(n:Int):=by rw[aC _];omega
  rw[ew]
  simp only[Int.toNat_natCast]
  rw[aHy]
  refine⟨by omega,?_⟩
  have hout:out.set n fE=out:=aKV (by omega) (e3 n (by omega))
  have hX':∀ (o:List G3) (b:List (List T3)),o.length=m.2.length->(∀ j,j<n->o.getD j fE=fE)->b.length=m.2.length+1->Bk8 b->BN b->qM m ps T F st s n o b=z->X ((n:Int),o,unB b):=fun o b k1 k0 k2 k3 k4 k5 =>
   hX _ ⟨by show(n:Int)=_;omega,k1,(fun j hj=>k0 j (by omega)),b,rfl,k2,k3,k4,by rw[show m.2.length-(i+1)=n by omega];exact k5⟩
  unfold qM at hq
  have fin:∀ (G:G3) (e:Int) (b:List (List T3)),pF m ps T F st s (n+1) back=((G,e),b)->b.length=m.2.length+1->Bk8 b->BN b ->
   eC e (fun _=>dF ((n+1:Nat):Int) (fun y=>X (y,out.set n G,unB b))) (fun y=>K1 (y,((n+1:Nat):Int),e)):=by
   intro G e b he hb hb8 hbn
   rw[he]at hq
   refine⟨?_⟩
   by_cases h:e=0
   ·rw[aA (by simpa using h)]
    simp only[aB h]at hq
    refine⟨?_⟩
    rw[ew]
    exact hX' _ _ (by rw[ET];exact e1) (fun j hj=>by rw[aW,fS (by omega),<- aW];exact e3 j (by omega)) hb hb8 hbn hq
   ·rw[aB (by simpa using h)]
    simp only[aA h]at hq
    subst hq
    exact h1 h
  obtain⟨l8,ll⟩:=aKr (m:=m) (ps:=ps) (T:=T) (F:=F) (st:=st) (s:=s) (n:=n+1) h8
  rcases hN.at_ (n+1)with⟨b1,b2⟩|⟨g,b1,bg,b2⟩
  ·have hL:pF m ps T F st s (n+1) back=((fE,0),back):=by unfold pF;rw[b1]
   have b2:(unB back).getD (n+1) ([],(0,[]))=Z3:=b2
   rw[b2,aB (by rfl)]
   have:=(fin fE 0 back hL e2 h8 hN).1
   rw[hout,aA (by simp)]at this
   exact this
  ·have b2:(unB back).getD (n+1) ([],(0,[]))=g:=b2
   rw[b2,aA (by have:=aEZ bg;simp only[dR];omega)]
   have g8:=h8.at_ b1
   have hL:pF m ps T F st s (n+1) back=aAn m ps T F st s (n+1) back g:=by unfold pF;rw[b1]
   rw[hL]at fin l8 ll
   unfold aAn at fin l8 ll
   rw[CB]at fin l8 ll
   have hni:n<m.2.length:=by omega
   refine⟨by omega,by omega,by omega,by omega,by omega,?_⟩
   have cont:∀ G:G3,(grV (m.2.getD n cA) g (T.getD n Z3)).1=G->(grV (m.2.getD n cA) g (T.getD n Z3)).2=0->∀ K:Int×List T3->Prop,
    (∀ (e:Int) (b:List (List T3)),eC e (fun _=>dF ((n+1:Nat):Int) (fun y=>X (y,out.set n G,unB b))) (fun y=>K1 (y,((n+1:Nat):Int),e))->K (e,unB b)) ->
    bE ((n+1:Nat):Int) s st (m.2.getD n cA).1 (m.2.getD n cA).2.1 (m.2.getD n cA).2.2.1 (m.2.getD n cA).2.2.2.1 (m.2.getD n cA).2.2.2.2.1 (m.2.getD n cA).2.2.2.2.2.1 (m.2.getD n cA).2.2.2.2.2.2 (ps.getD n gL).1.1 (ps.getD n gL).1.2.1 (ps.getD n gL).1.2.2 (ps.getD n gL).2.1 (ps.getD n gL).2.2.1 (ps.getD n gL).2.2.2.1 (ps.getD n gL).2.2.2.2 F g.1 g.2.1 g.2.2 (T.getD n Z3).1 (T.getD n Z3).2.1 (T.getD n Z3).2.2 (unB back) K:=by
    intro G hG h0 K hK
    refine aI9 (n:=n+1) hN (by omega) (fun h7=>by have:=r.add n hni h7;omega) g8 (Prm8.at_ r.p8 _).1 bg (r2.kind n hni) (r.conv n hni) (fun hF=>by have:=r2.from_ hF;omega) (hK _ _ ?_)
    rw[aB h0,hG]at fin
    rw[aB h0]at l8 ll
    exact fin _ _ _ rfl (ll.trans e2) l8 (aO3 hN bg fun h=>aOo bg h)
   by_cases hw:aC2 (m.2.getD n cA)=true
   ·have hw':=hw
    unfold aC2 at hw'
    rw[aB (by exact hw')]
    have wt:grV (m.2.getD n cA) g (T.getD n Z3)=GJ (m.2.getD n cA) g (T.getD n Z3):=by unfold grV;rw[aB hw]
    refine aHA g8 (r.t8.at_ n) ?_
    rw[wt]at cont fin
    by_cases he:(GJ (m.2.getD n cA) g (T.getD n Z3)).2=0
    ·rw[aA (by simpa using he)]
     exact cont _ rfl he _ fun e b h=>h
    ·rw[aB (by simpa using he)]
     rw[aA he]at fin
     have:=(fin fE _ back rfl e2 h8 hN).1
     rw[aB (by simpa using he)]at this
     refine⟨?_⟩
     rw[aB (by simpa using he)]
     exact this
   ·have hw':=hw
    unfold aC2 at hw'
    rw[aA (by exact hw')]
    have wt:grV (m.2.getD n cA) g (T.getD n Z3)=(fE,0):=by unfold grV;rw[aA hw]
    rw[wt]at cont
    refine cont fE rfl rfl _ fun e b h => ?_
    rw[hout]at h
    exact h
 ·rintro⟨z1,out,rb⟩ ⟨rfl,e1,e3,back,e4,e2,h8,hN,hq⟩ X
  unfold iD
  dsimp only at hq⊢
  rw[Nat.sub_self]at hq⊢
  rw[aA (by simp)]
  unfold qM at hq
  subst hq
  exact h0 rfl
theorem aCd {m:Mdl}{ps:List Prm}{T:List T3}{F:List (List Int)}{st s:Int}:∀ (n:Nat) (o:List G3) (b:List (List T3)),(qM m ps T F st s n o b).2.2=0->(qM m ps T F st s n o b).2.1=0
 | 0,_,_,_=>rfl
 | n+1,o,b,hz=>by
   unfold qM at hz⊢
   split
   ·rename_i h2;rw[aB h2]at hz;exact aCd n _ _ hz
   ·rename_i h2;rw[aA h2]at hz;exact absurd hz h2
theorem aL2 {m:Mdl}{ps:List Prm}{T:List T3}{F:List (List Int)}{g:T3}{s st:Int}{Q:List G3×Int×Int->Prop}(hl:m.2.length<=1000000)(hT:T.length<=1000000)(hp:∀ p∈ps,Prm8 p)(h8:Ten8 T)(hg:All8 g.2.2)(h:Q (UG m ps T F g s st)):p7 m ps (T,F) g s st Q:=by
 refine⟨aHr ?_⟩
 unfold UG at h
 refine f7 (b := !inP st 0 1000000) (c := !zU m ps) (fun _ P hP=>aES (m:=m) (by omega) hP) (fun v ev => ?_) rfl
 cases v with
 | true =>
   rw[aB rfl]
   have hb:ZY m ps T st g=true:=by
    unfold ZY
    have ev:=ev.symm
    simp only[cJ,oR]at ev
    simp only[cJ,oR,aT]
    rcases ev with ev|ev
    ·unfold inP at ev
     simp only[JD,fB]at ev
     exact .inl (.inl (.inl (.inl (by omega))))
    ·exact .inl (.inl (.inl (.inr ev)))
   rw[aFq hb,aA (by decide)]at h
   exact h
 | false =>
 rw[aA (by simp)]
 have ev:=ev.symm
 simp only[eI,xS,inP,aK,aT]at ev
 refine aG2 (st:=st) (ps:=ps) hl hT ev.2 (by omega) ?_
 by_cases he:GM m ps T F st g=0
 rotate_left
 ·rw[aA he]at h
  rw[aB (by simpa using he)]
  exact h
 rw[aB he]at h
 rw[aA (by simpa using he)]
 have r:=aGF hp h8 he
 have hl2:=r.len
 have ht:=r.t
 obtain⟨k,hd,h3⟩:=aCh he
 obtain⟨w1,_⟩:=aBD k.ps
 have r2:aOl m T F:=⟨fun i hi=>by
  have:=R5 ((nP w1).2.2 i hi)
  omega,fun hF=>by
  unfold aIz at h3
  have:=aKW hF
  rw[aF this]at h3
  simp only[S5,R0,eI,GU]at h3
  omega⟩
 have ew:i64.wrap ((m.2.length:Int)+1)=((m.2.length+1:Nat):Int):=by rw[aC _];omega
 show ck _ (ck _ (ck _ _))
 rw[ew]
 simp only[Int.toNat_natCast]
 refine⟨by omega,⟨by omega,by rw[vU];omega⟩,by omega,?_⟩
 rw[ht]at h
 have eu:(List.replicate (m.2.length+1) Z3).set m.2.length g=unB ((List.replicate (m.2.length+1) []).set m.2.length [g]):=by
  rw[aEe]
  unfold unB
  rw[List.map_replicate];rfl
 have eu:(List.replicate (m.2.length+1) (([],(0,[])):T3)).set m.2.length g=unB ((List.replicate (m.2.length+1) []).set m.2.length [g]):=eu
 rw[eu]
 have gd:=(dD k.g).2.2.1
 refine aMN r r2 (by rw[vU]) (by rw[ET,vU]) ?_ ?_ (fun j hj => ?_) (fun h0 => ?_) (fun h1=>h)
 ·refine Bk8.set (fun l hl t ht => ?_) hg
  have:=aEO hl
  subst this;cases ht
 ·refine BN.set (fun l hl => .inl (aEO hl)) (fun e=>by rw[e]at gd;simp at gd)
 ·rw[aW,List.getElem?_replicate,aB hj];rfl
 ·have k2:=aCd _ _ _ h0
  have h0:(qM m ps T F st s m.2.length (List.replicate m.2.length fE) ((List.replicate (m.2.length+1) []).set m.2.length [g])).2.2=0:=h0
  have k2:(qM m ps T F st s m.2.length (List.replicate m.2.length fE) ((List.replicate (m.2.length+1) []).set m.2.length [g])).2.1=0:=k2
  revert h h0 k2
  show Q (qM m ps T F st s m.2.length (List.replicate m.2.length fE) ((List.replicate (m.2.length+1) []).set m.2.length [g]))->_->_->Q ((qM m ps T F st s m.2.length (List.replicate m.2.length fE) ((List.replicate (m.2.length+1) []).set m.2.length [g])).1,0,0)
  generalize qM m ps T F st s m.2.length (List.replicate m.2.length fE) ((List.replicate (m.2.length+1) []).set m.2.length [g])=z
  obtain⟨a,b,c⟩:=z
  rintro h h0 k2
  dsimp only at h0 k2⊢
  subst h0 k2
  exact h
end Go.Proofs.YtcfpfefadlnmcaaGreat

namespace Go.Proofs.YtcfpfefadlnmcaaGreat
open IntKind (i8 i16 i32 i64 u8 u16 u32 u64)
open Go.Mach
set_option maxRecDepth 100000
set_option linter.unusedVariables false
set_option linter.unusedSimpArgs false
theorem aLq (a:Int):∃ v,∀ Q:Int->Prop,Q v->gS a Q:=⟨_,fun Q h=>⟨⟨by decide,by decide,by decide,h⟩⟩⟩
theorem TF {a:Int}{Q:Int->Prop}(h:∀ r,Q r):gS a Q:=let ⟨v,k⟩:=aLq a;k Q (h v)
theorem aLX {a b c:Int}{Q:Int->Prop}(h:∀ r,Q r):qE a b c Q:=⟨TF fun _=>TF fun _=>TF h⟩
theorem aHL {a b c n:Int}{Q:Int->Prop}(h:∀ r,Q r):wI a b c n Q:=by
 refine⟨?_⟩
 split
 ·exact h 0
 ·rename_i hn
  have hn:=Bool.eq_false_iff.2 hn
  simp only[eI,fB]at hn
  have e:u64.wrap n=n:=by
   simp only[IntKind.wrap,IntKind.bits,IntKind.signed]
   simp
   omega
  rw[e]
  refine⟨by omega,by omega,aLX fun r=>⟨?_⟩⟩
  refine Loop.rangeI (B:=kX n _ (fun _=>Q 0) (fun y=>Q y)) 100 (fun i s=>s.2=(i:Int)) rfl ?_ ?_
  ·rintro i hi ⟨s1,s2⟩ rfl X hX
   unfold kX
   dsimp only
   rw[aB (aF (show(i:Int)<100 by omega))]
   split
   ·exact⟨by rw[e];omega,h _⟩
   ·refine TF fun r => ?_
    rw[aC ((i:Int)+1)]
    exact hX _ rfl
  ·rintro⟨s1,s2⟩ rfl X
   unfold kX
   rw[aA (by simp)]
   exact h 0
theorem aJe (n:Nat):All8 (List.replicate n 0):=fun y hy=>by rw[(List.mem_replicate.1 hy).2];omega
theorem ZD {l:List Int}{x:Int}(h:All8 l)(hx : -128<=x/\x<=127):All8 (l++[x]):=fun y hy=>by
 rcases List.mem_append.1 hy with hy|hy
 ·exact h y hy
 ·rw[List.mem_singleton.1 hy];exact hx
theorem aMG {x:Lay}{d:List Int}(h:0<szF (ofF x d).1):1<=(ofF x d).2/\(ofF x d).2<=4096:=by
 obtain⟨_,hd,_⟩:=tP h
 unfold ofF at hd⊢
 split
 ·rename_i e;rw[aB e]at hd;exact hd _ (by simp)
 ·rename_i e
  rw[aA e]at hd
  split
  ·rename_i e2;rw[aB e2]at hd;exact hd _ (by simp)
  ·rename_i e2
   have:(ofF x d).1=[]:=by unfold ofF;rw[aA e,aA e2]
   rw[this]at h
   exact absurd h (by decide)
theorem aNB {m:Mdl}{s:Int}{Q:List Prm×Int->Prop}(hl:m.2.length<=10000000000000)(h:∀ ps e,(e=0->ps.length=m.2.length/\∀ p∈ps,Prm8 p/\p.1.2.2.length<=1000000/\p.2.2.2.2.length<=1000000)->Q (ps,e)):vP m s Q:=by
 refine⟨I9 hl ?_⟩
 have e0:aU ((m.1.1,m.1.2.1,m.1.2.2),m.2)=aU m:=rfl
 rw[e0]
 split
 ·rename_i hb
  exact h _ _ (fun e=>absurd e (by simpa using hb))
 ·rename_i hb
  have hb:(aU m).2.2=0:=by simpa using hb
  obtain⟨hm,q2,q3⟩:=D2 hb
  obtain⟨_,⟨k1,k2⟩,_⟩:=nP hm
  refine⟨?_⟩
  refine Loop.rangeI (B:=lG s m.2 (m.2.length:Int) (aU m).1 (fun y=>Q (y,0)) (fun _=>Q ([],1))) m.2.length
   (fun i z=>z.1=(i:Int)/\z.2.length=i/\∀ p∈z.2,Prm8 p/\p.1.2.2.length<=1000000/\p.2.2.2.2.length<=1000000) ⟨rfl,rfl,fun p hp=>(by cases hp)⟩ ?_ ?_
  ·rintro i hi ⟨z1,z2⟩ ⟨rfl,e1,h8⟩ X hX
   unfold lG
   dsimp only at e1 h8⊢
   rw[aB (aF (show(i:Int)<(m.2.length:Int) by omega))]
   refine⟨by omega,by omega,?_⟩
   simp only[Int.toNat_natCast]
   have hdi:=aDB hb (i:=i) (by omega)
   refine aFQ hdi.sz.2.2.2.1 ?_
   have n1:∀ {K:Int->Prop},K ((i:Int)+1)->nA (i:Int) K:=fun {K} hK=>⟨by
    rw[aC ((i:Int)+1)]
    exact hK⟩
   split
   ·refine⟨by simp;omega,n1 (hX _ ⟨rfl,by simp[e1],fun p hp => ?_⟩)⟩
    rcases List.mem_append.1 hp with hp|hp
    ·exact h8 p hp
    ·rw[List.mem_singleton.1 hp]
     exact⟨⟨fun y hy=>(by cases hy),fun y hy=>(by cases hy)⟩,by simp,by simp⟩
   ·refine oZ ?_
    split
    ·exact h _ _ (fun e=>absurd e (by decide))
    ·rename_i hs
     have hs:0<szF (ofF (m.2.getD i (0,0,0,0,0,0,false)) ((aU m).1.getD i [])).1:=by simpa using hs
     have hb2:=aMG hs
     refine⟨by omega,A9 ?_⟩
     have hz:=HM (ofF (m.2.getD i (0,0,0,0,0,0,false)) ((aU m).1.getD i [])).1
     refine⟨by omega,⟨?_⟩⟩
     generalize (ofF _ _)=w at *
     refine⟨?_⟩
     rw[vU]
     refine Loop.rangeI (B:=lK s (i:Int) ((szF w.1).toNat:Int) _) (szF w.1).toNat (fun j y=>y.1=(j:Int)/\y.2.length=j/\All8 y.2) ⟨rfl,rfl,fun y hy=>(by cases hy)⟩ ?_ ?_
     ·rintro j hj ⟨y1,y2⟩ ⟨rfl,f1,f2⟩ Y hY
      unfold lK
      dsimp only at f1 f2⊢
      rw[aB (aF (show(j:Int)<((szF w.1).toNat:Int) by omega))]
      refine aHL fun r=>⟨by simp;omega,?_⟩
      rw[aC ((j:Int)+1)]
      exact hY _ ⟨rfl,by simp[f1],ZD f2 (O2 _)⟩
     ·rintro⟨y1,y2⟩ ⟨rfl,f1,f2⟩ Y
      dsimp only at f1 f2
      unfold lK
      rw[aA (by simp)]
      refine⟨by simp;omega,n1 (hX _ ⟨rfl,by simp[e1],fun p hp => ?_⟩)⟩
      rcases List.mem_append.1 hp with hp|hp
      ·exact h8 p hp
      ·rw[List.mem_singleton.1 hp]
       exact⟨⟨f2,aJe _⟩,by dsimp only;omega,by dsimp only;rw[vU];omega⟩
  ·rintro⟨z1,z2⟩ ⟨rfl,e1,h8⟩ X
   unfold lG
   rw[aA (by simp)]
   exact h _ _ fun _=>⟨e1,h8⟩
theorem aAw {kd:IntKind}{v:Int}{T:Ty}{l m:List T.den}(h:SE kd v (.slc T) l m):m.length=l.length:=h.1
theorem SE8 {v:Int}{l m:List Int}(hv : -128<=v/\v<=127)(h:SE .i8 v (.slc aI) l m)(h8:All8 l):All8 m:=by
 intro y hy
 obtain⟨i,hi⟩:=List.mem_iff_getElem?.1 hy
 have hlt:=(List.getElem?_eq_some_iff.1 hi).1
 have:=h.2 i _ y (aQ (by have:=h.1;omega)) hi
 rcases this with e|⟨_,e⟩
 ·rw[e];exact h8 _ (fZ _)
 ·rw[e];exact hv
abbrev aOP:Ty := .pair (.pair (.slc aD) (.pair (.int .i64) (.slc aI))) (.pair (.slc aX) (.pair (.slc aD) (.pair (.int .i64) (.slc aI))))
def shp (p:Prm):Nat×Nat:=(p.1.2.2.length,p.2.2.2.2.length)
theorem SEp {v:Int}{l m:List Prm}(hv : -128<=v/\v<=127)(h:SE .i8 v (.slc aOP) l m):m.map shp=l.map shp/\((∀ p∈l,Prm8 p)->∀ p∈m,Prm8 p):=by
 have key:∀ (i:Nat) (x y:Prm),l[i]? = some x->m[i]? = some y->shp y=shp x/\(Prm8 x->Prm8 y):=by
  intro i x y hx hy
  obtain⟨⟨_,_,h1⟩,_,_,_,h2⟩:=h.2 i x y hx hy
  have h1:SE .i8 v (.slc aI) x.1.2.2 y.1.2.2:=h1
  have h2:SE .i8 v (.slc aI) x.2.2.2.2 y.2.2.2.2:=h2
  exact⟨Prod.ext h1.1 h2.1,fun k=>⟨SE8 hv h1 k.1,SE8 hv h2 k.2⟩⟩
 constructor
 ·refine V3 fun i => ?_
  rw[mO,mO]
  by_cases hi:i<l.length
  ·have hj:i<m.length:=by rw[aAw h];exact hi
   rw[aQ hi,aQ hj]
   exact congrArg some (key i _ _ (aQ hi) (aQ hj)).1
  ·rw[HT (by rw[aAw h];omega),HT (by omega)]
 ·intro k p hp
  obtain⟨i,hi⟩:=List.mem_iff_getElem?.1 hp
  have hlt:=(List.getElem?_eq_some_iff.1 hi).1
  have hl:i<l.length:=by have:=aAw h;omega
  exact(key i _ p (aQ hl) hi).2 (k _ (fZ _))
theorem aB0 {l m:List Prm}(h:m.map shp=l.map shp)(i:Nat):m.length=l.length/\shp (m.getD i gL)=shp (l.getD i gL):=by
 have hl:m.length=l.length:=by have:=congrArg List.length h;simpa using this
 refine⟨hl,?_⟩
 have:=congrArg (fun x=>x[i]?) h
 simp only[mO]at this
 rw[aW,aW]
 cases e1:m[i]? with
 | none =>
   rw[e1]at this
   cases e2:l[i]? with
   | none=>rfl
   | some x=>rw[e2]at this;cases this
 | some y =>
   rw[e1]at this
   cases e2:l[i]? with
   | none=>rw[e2]at this;cases this
   | some x=>rw[e2]at this;simpa using this
structure MdOk (ps0:List Prm)(by_ x:List Int)(ps:List Prm):Prop where
 b8:All8 by_
 x8:All8 x
 p8:∀ p∈ps,Prm8 p
 sh:ps.map shp=ps0.map shp
theorem MdOk.step {ps0 ps qs:List Prm}{b x b2 x2:List Int}(h:MdOk ps0 b x ps){i:Nat}(h1:SE .i8 (b.getD i 0) (.slc aI) b b2)(h2:SE .i8 (b.getD i 0) (.slc aI) x x2)(h3:SE .i8 (b.getD i 0) (.slc aOP) ps qs):MdOk ps0 b2 x2 qs :=
 have hv:=h.b8.at_ i
 ⟨SE8 hv h1 h.b8,SE8 hv h2 h.x8,(SEp hv h3).2 h.p8,(SEp hv h3).1.trans h.sh⟩
theorem aMS {ps0:List Prm}{j n:Nat}{k:Int}{b x:List Int}{ps:List Prm}{K:Int×List Int×List Int×List Prm->Prop}(hj:j<ps0.length)(hn:n=(ps0.getD j gL).1.2.2.length)(hn2:n<=1000000000)(hk:0<=k/\k<=10000000000000)(hb:b.length<=1000000000000000)(h0:MdOk ps0 b x ps)
 (h:∀ k' b' x' ps',(k'=k+n)->b'.length=b.length->MdOk ps0 b' x' ps'->K (k',b',x',ps')):rW (j:Int) (n:Int) K (k,0,b,x,ps):=by
 refine⟨?_⟩
 refine Loop.rangeI (B:=kY (j:Int) (n:Int) K) n (fun i z=>z.1=k+i/\z.2.1=(i:Int)/\z.2.2.1.length=b.length/\MdOk ps0 z.2.2.1 z.2.2.2.1 z.2.2.2.2) ⟨by simp,rfl,rfl,h0⟩ ?_ ?_
 ·rintro i hi ⟨z1,z2,b1,x1,p1⟩ ⟨rfl,rfl,e1,g⟩ X hX
  unfold kY
  dsimp only at e1 g⊢
  rw[aB (aF (show(i:Int)<(n:Int) by omega))]
  have n7:∀ {K:Int->Prop},K (k+(i+1:Nat))->nB (k+(i:Int)) K:=fun {K} hK=>⟨by
   rw[aC _]
   exact cast (congrArg K (by omega)) hK⟩
  refine AB (b:=decide (k+(i:Int)<(b1.length:Int))) (c:=(b1.getD (k+(i:Int)).toNat 0 != (-128))) (fun hlt P hP=>⟨⟨by omega,by simpa using hlt⟩,hP⟩) (fun v e => ?_) rfl
  rw[aC ((i:Int)+1)]
  cases v with
  | false =>
    rw[aA (by simp)]
    exact n7 (hX _ ⟨rfl,rfl,e1,g⟩)
  | true =>
    rw[aB rfl]
    have hlt:k+(i:Int)<(b1.length:Int):=by
     have:=e.symm
     simp only[aK,aT]at this
     exact this.1
    obtain⟨s1,s2⟩:=aB0 g.sh j
    have s3:(p1.getD j gL).1.2.2.length=(ps0.getD j gL).1.2.2.length:=congrArg Prod.fst s2
    simp only[Int.toNat_natCast]
    refine⟨by omega,by omega,⟨by omega,by show(i:Int)<((p1.getD j gL).1.2.2.length:Int);omega⟩,?_⟩
    intro m1 h1 m2 h2 m3 h3
    exact n7 (hX _ ⟨rfl,rfl,(aAw h1).trans e1,g.step h1 h2 h3⟩)
 ·rintro⟨z1,z2,b1,x1,p1⟩ ⟨rfl,rfl,e1,g⟩ X
  unfold kY
  rw[aA (by simp)]
  exact h _ _ _ _ rfl e1 g
theorem aLY {ps0:List Prm}{j n:Nat}{k:Int}{b x:List Int}{ps:List Prm}{K:Int×List Int×List Int×List Prm->Prop}(hj:j<ps0.length)(hn:n=(ps0.getD j gL).2.2.2.2.length)(hn2:n<=1000000000)(hk:0<=k/\k<=10000000000000)(hb:b.length<=1000000000000000)(h0:MdOk ps0 b x ps)
 (h:∀ k' b' x' ps',(k'=k+n)->b'.length=b.length->MdOk ps0 b' x' ps'->K (k',b',x',ps')):rG (j:Int) (n:Int) K (k,0,b,x,ps):=by
 refine⟨?_⟩
 refine Loop.rangeI (B:=lJ (j:Int) (n:Int) K) n (fun i z=>z.1=k+i/\z.2.1=(i:Int)/\z.2.2.1.length=b.length/\MdOk ps0 z.2.2.1 z.2.2.2.1 z.2.2.2.2) ⟨by simp,rfl,rfl,h0⟩ ?_ ?_
 ·rintro i hi ⟨z1,z2,b1,x1,p1⟩ ⟨rfl,rfl,e1,g⟩ X hX
  unfold lJ
  dsimp only at e1 g⊢
  rw[aB (aF (show(i:Int)<(n:Int) by omega))]
  have n7:∀ {K:Int->Prop},K (k+(i+1:Nat))->nF (k+(i:Int)) K:=fun {K} hK=>⟨by
   rw[aC _]
   exact cast (congrArg K (by omega)) hK⟩
  refine AB (b:=decide (k+(i:Int)<(b1.length:Int))) (c:=(b1.getD (k+(i:Int)).toNat 0 != (-128))) (fun hlt P hP=>⟨⟨by omega,by simpa using hlt⟩,hP⟩) (fun v e => ?_) rfl
  rw[aC ((i:Int)+1)]
  cases v with
  | false =>
    rw[aA (by simp)]
    exact n7 (hX _ ⟨rfl,rfl,e1,g⟩)
  | true =>
    rw[aB rfl]
    have hlt:k+(i:Int)<(b1.length:Int):=by
     have:=e.symm
     simp only[aK,aT]at this
     exact this.1
    obtain⟨s1,s2⟩:=aB0 g.sh j
    have s3:(p1.getD j gL).2.2.2.2.length=(ps0.getD j gL).2.2.2.2.length:=congrArg Prod.snd s2
    simp only[Int.toNat_natCast]
    refine⟨by omega,by omega,⟨by omega,by show(i:Int)<((p1.getD j gL).2.2.2.2.length:Int);omega⟩,?_⟩
    intro m1 h1 m2 h2 m3 h3
    exact n7 (hX _ ⟨rfl,rfl,(aAw h1).trans e1,g.step h1 h2 h3⟩)
 ·rintro⟨z1,z2,b1,x1,p1⟩ ⟨rfl,rfl,e1,g⟩ X
  unfold lJ
  rw[aA (by simp)]
  exact h _ _ _ _ rfl e1 g
theorem aLl {ps:List Prm}{b x:List Int}{K:List Int×List Int×List Prm->Prop}(hl:ps.length<=1000)(hs:∀ p∈ps,p.1.2.2.length<=1000000/\p.2.2.2.2.length<=1000000)(hb:b.length<=1000000000000000)(h0:MdOk ps b x ps)
 (h:∀ b' x' ps',MdOk ps b' x' ps'->K (b',x',ps')):rB (ps.length:Int) K (0,0,b,x,ps):=by
 refine⟨?_⟩
 refine Loop.rangeI (B:=kW (ps.length:Int) K) ps.length (fun i z=>(0<=z.1/\z.1<=i*2000000)/\z.2.1=(i:Int)/\z.2.2.1.length=b.length/\MdOk ps z.2.2.1 z.2.2.2.1 z.2.2.2.2) ⟨⟨Int.le_refl _,by simp⟩,rfl,rfl,h0⟩ ?_ ?_
 ·rintro i hi ⟨k,z2,b1,x1,p1⟩ ⟨hk,rfl,e1,g⟩ X hX
  unfold kW
  dsimp only at hk e1 g⊢
  rw[aB (aF (show(i:Int)<(ps.length:Int) by omega))]
  obtain⟨s1,s2⟩:=aB0 g.sh i
  have hm:ps.getD i gL∈ps:=by rw[aW,aQ hi];exact fZ _
  obtain⟨m1,m2⟩:=hs _ hm
  refine⟨by omega,?_⟩
  simp only[Int.toNat_natCast]
  refine aMS (ps0:=ps) hi (congrArg Prod.fst s2) (by have:(p1.getD i gL).1.2.2.length=_:=congrArg Prod.fst s2;show(p1.getD i gL).1.2.2.length<=_;rw[this];show(ps.getD i gL).1.2.2.length<=_;omega) (by omega) (by omega) g ?_
  intro k' b2 x2 p2 ek eb g2
  obtain⟨t1,t2⟩:=aB0 g2.sh i
  have w1:(p1.getD i gL).1.2.2.length=(ps.getD i gL).1.2.2.length:=congrArg Prod.fst s2
  have w2:(p2.getD i gL).2.2.2.2.length=(ps.getD i gL).2.2.2.2.length:=congrArg Prod.snd t2
  have ek:k'=k+((p1.getD i gL).1.2.2.length:Nat):=ek
  dsimp only
  refine⟨by omega,aLY (ps0:=ps) hi w2 (by show(p2.getD i gL).2.2.2.2.length<=_;omega) (by omega) (by omega) g2 ?_⟩
  intro k3 b3 x3 p3 ek3 eb3 g3
  have ek3:k3=k'+((p2.getD i gL).2.2.2.2.length:Nat):=ek3
  rw[aC ((i:Int)+1)]
  exact hX _ ⟨⟨by dsimp only;omega,by dsimp only;omega⟩,rfl,by dsimp only;omega,g3⟩
 ·rintro⟨k,z2,b1,x1,p1⟩ ⟨hk,rfl,e1,g⟩ X
  unfold kW
  rw[aA (by simp)]
  exact h _ _ _ g
theorem aLU {n:Nat}{x:List Int}{K:List Int->Prop}(hn:n<=1000000)(hx:All8 x)(h:∀ l,All8 l->K l):rQ (n:Int) x K (0,[]):=by
 refine⟨?_⟩
 refine Loop.rangeI (B:=lE (n:Int) x K) n (fun i z=>z.1=(i:Int)/\z.2.length=i/\All8 z.2) ⟨rfl,rfl,fun y hy=>(by cases hy)⟩ ?_ ?_
 ·rintro i hi ⟨z1,l⟩ ⟨rfl,e1,g⟩ X hX
  unfold lE
  dsimp only at e1 g⊢
  rw[aB (aF (show(i:Int)<(n:Int) by omega))]
  refine⟨by decide,?_⟩
  refine AB (b:=decide ((i:Int)<(x.length:Int))) (c:=(x.getD i 0 != (-128))) (fun hlt P hP=>⟨⟨by omega,by simpa using hlt⟩,by rw[bJ];exact hP⟩) (fun v e => ?_) rfl
  rw[aC ((i:Int)+1)]
  cases v with
  | false =>
    rw[aA (by simp)]
    refine⟨?_⟩
    exact⟨by simp;omega,hX _ ⟨rfl,by simp[e1],ZD g (O2 _)⟩⟩
  | true =>
    rw[aB rfl]
    have hlt:(i:Int)<(x.length:Int):=by
     have:=e.symm
     simp only[aK,aT]at this
     exact this.1
    refine⟨⟨by omega,hlt⟩,⟨?_⟩⟩
    exact⟨by simp;omega,hX _ ⟨rfl,by simp[e1],ZD g (hx.at_ _)⟩⟩
 ·rintro⟨z1,l⟩ ⟨rfl,e1,g⟩ X
  unfold lE
  rw[aA (by simp)]
  exact h _ g
abbrev aNb:=Mdl×Int×List Int×Int×List Int×Int
theorem aNg {n:aNb}{Q:List Prm×T3×Int->Prop}(hl:n.1.2.length<=10000000000000)(hb:n.2.2.1.length<=1000000000000000)(b8:All8 n.2.2.1)(x8:All8 n.2.2.2.2.1)
 (h:∀ ps x e,(e=0->ps.length=n.1.2.length/\(∀ p∈ps,Prm8 p)/\All8 x.2.2/\(aU n.1).2.2=0)->Q (ps,x,e)):wH n Q:=by
 obtain⟨m,seed,by_,N,X,ex⟩:=n
 dsimp only at hl hb b8 x8 h
 refine⟨I9 hl ?_⟩
 have e0:aU ((m.1.1,m.1.2.1,m.1.2.2),m.2)=aU m:=rfl
 dsimp only
 rw[e0]
 split
 ·rename_i he
  exact h _ _ _ (fun e=>absurd e (by simpa using he))
 ·rename_i he
  have he:(aU m).2.2=0:=by simpa using he
  obtain⟨hm,q2,q3⟩:=D2 he
  obtain⟨hin,⟨k1,k2⟩,_⟩:=nP hm
  refine⟨?_⟩
  have bad:∀ e:Int,e≠0->Q ([],([],(0,[])),e):=fun e he=>h _ _ _ fun e1=>absurd e1 he
  refine Loop.rangeI (B:=lD ((aU m).1.length:Int) m.1.1 m.1.2.1 m.1.2.2 m.2 (aU m).1 _ _) (aU m).1.length (fun i z=>z.2=(i:Int)) rfl ?_ ?_
  ·rintro i hi ⟨z1,z2⟩ rfl Y hY
   unfold lD
   dsimp only
   rw[aB (aF (show(i:Int)<((aU m).1.length:Int) by omega))]
   refine⟨by omega,?_⟩
   rw[aC ((i:Int)+1)]
   have n3:∀ r:Int,nL z1 ((aU m).1.getD ((i:Int)).toNat []) r fun y=>Y (y,(i:Int)+1):=fun r=>⟨A9 (hY _ rfl)⟩
   split
   ·rename_i h0
    have h0:0<i:=by simpa using h0
    refine aIH hl (A9 ?_)
    rw[aC ((i:Int)-1)]
    refine AB (b:=(((B5 ((m.1.1,m.1.2.1,m.1.2.2),m.2) (i:Int)).1.length:Int)==0)) (c:=((m.2.getD ((i:Int)-1).toNat cA).1==1||(m.2.getD ((i:Int)-1).toNat cA).1==2)) (fun _ P hP=>⟨by omega,?_⟩) (fun v e => ?_) rfl
    ·refine f7 (b:=(m.2.getD ((i:Int)-1).toNat cA).1==1) (c:=(m.2.getD ((i:Int)-1).toNat cA).1==2) (fun _ P' hP'=>⟨by omega,hP'⟩) (fun v e => ?_) rfl
     rw[e];exact hP
    ·split
     ·exact bad 1 (by decide)
     ·exact n3 _
   ·exact n3 0
  ·rintro⟨z1,z2⟩ rfl Y
   unfold lD
   rw[aA (by simp)]
   dsimp only
   split
   ·exact bad 10 (by decide)
   ·refine aNB hl fun ps e hps => ?_
    dsimp only
    split
    ·rename_i he
     exact bad e (by simpa using he)
    ·rename_i he
     have he:e=0:=by simpa using he
     obtain⟨p1,p2⟩:=hps he
     have p1:ps.length=m.2.length:=p1
     refine aLl (by omega) (fun p hp=>(p2 p hp).2) hb ⟨b8,x8,fun p hp=>(p2 p hp).1,rfl⟩ ?_
     intro b' x' ps' g
     have gl:=(aB0 g.sh 0).1
     refine⟨by decide,by decide,A9 ?_⟩
     have hz:=HM [i64.wrap (1+(i64.wrap ((u64.wrap N).tmod 3))),m.1.1,m.1.2.1,m.1.2.2]
     have hz0:=AZ [i64.wrap (1+(i64.wrap ((u64.wrap N).tmod 3))),m.1.1,m.1.2.1,m.1.2.2]
     obtain⟨k,hk⟩:∃ k:Nat,szF [i64.wrap (1+(i64.wrap ((u64.wrap N).tmod 3))),m.1.1,m.1.2.1,m.1.2.2]=k:=⟨_,(Int.toNat_of_nonneg hz0).symm⟩
     rw[hk]at hz⊢
     exact aLU (by omega) g.x8 fun l hl8=>h _ _ _ fun _=>⟨by rw[gl];exact p1,g.p8,hl8,by assumption⟩
end Go.Proofs.YtcfpfefadlnmcaaGreat

namespace Go.Proofs.YtcfpfefadlnmcaaGreat
open Go.Mach Go.RowKit
set_option maxRecDepth 100000
set_option linter.unusedVariables false
set_option linter.unusedSimpArgs false
theorem aEE {s t:Int}:vY ([1,1],0,[16]) 8 s t=(([1,1],0,[16]),0):=by
 have h1:((!(mD ([1,1],0,[16]))||(decide ((8:Int)<2)))||(decide ((8:Int)<8)))=false:=by decide +kernel
 have h2:xY ([1,1],0,[16]) 8=0:=by decide +kernel
 unfold vY
 rw[h1,h2,aA (by simp),aA (by decide +kernel)]
 unfold aHx
 show(([1,1],_,[XI 8 s t 0 [16] 0]),0)=_
 unfold XI
 rw[aAr]
 decide +kernel
end Go.Proofs.YtcfpfefadlnmcaaGreat

namespace Go.Proofs.YtcfpfefadlnmcaaGreat
open Go.Mach
set_option maxRecDepth 100000
set_option linter.unusedVariables false
set_option linter.unusedSimpArgs false
end Go.Proofs.YtcfpfefadlnmcaaGreat

namespace Go.Proofs.YtcfpfefadlnmcaaGreat
open Go.Mach Go.RowKit
set_option maxRecDepth 100000
set_option linter.unusedVariables false
set_option linter.unusedSimpArgs false
abbrev mA:Mdl:=((1,(1,2)),[(6,(0,(0,(0,(0,(0,false)))))),(1,(1,(0,(0,(0,(0,false))))))])
abbrev pA1:Prm:=(([1,2],(0,[3,4])),([0,0],([1],(0,[5]))))
abbrev psA:List Prm:=[((([]:List Int),(0,([]:List Int))),(([]:List Int),(([]:List Int),(0,([]:List Int))))),pA1]
abbrev xA:T3:=([1,1,1,2],(0,[1,2]))
abbrev tA1:T3:=([1,2],0,[1,2])
abbrev tA2:T3:=([1,1],0,[16])
abbrev gA:T3:=([1,1],(0,[6]))
abbrev bA1:T3:=([1,2],0,[18,24])
abbrev bA0:T3:=([1,1,1,2],0,[18,24])
abbrev rA:G3:=(true,([1,2],0,[6,12]),([1],0,[6]))
theorem aLx (t:Int):rC (6,(0,(0,(0,(0,(0,false)))))) gL [xA] 1 t=(tA1,[],0):=by
 have h:TV (6,(0,(0,(0,(0,(0,false)))))) gL [xA]=(Z3,false,0):=by decide +kernel
 unfold rC
 rw[h,aA (by decide),aA (by decide),aA (by decide),aA (by decide)]
 decide +kernel
theorem aLr (t:Int):rC (1,(1,(0,(0,(0,(0,false)))))) pA1 [xA,tA1] 1 t=(tA2,[],0):=by
 have h:TV (1,(1,(0,(0,(0,(0,false)))))) pA1 [xA,tA1]=(([1,1],0,[16]),true,0):=by decide +kernel
 unfold rC
 rw[h,aA (by decide),aB rfl]
 dsimp only
 rw[aEE]
theorem aPF:aLh mA psA xA 1 0=(([xA,tA1,tA2],[[],[],[]]),0,0):=by
 have h1:((!inP 0 0 1000000 || !zU mA psA) || !bB xA)=false:=by decide +kernel
 have h2:(((xA.1.length:Int) != 4) || !decide (xA.1.drop 1=inL mA))=false:=by decide +kernel
 unfold aLh
 rw[h1,h2]
 simp only[eA,cB]
 unfold UJ
 show(if ((rC (6,(0,(0,(0,(0,(0,false)))))) gL [xA] 1 _).2.2 != 0)=true then _ else UJ psA 1 0 [(1,(1,(0,(0,(0,(0,false))))))] 1 ([xA]++[(rC (6,(0,(0,(0,(0,(0,false)))))) gL [xA] 1 _).1],[[]]++[(rC (6,(0,(0,(0,(0,(0,false)))))) gL [xA] 1 _).2.1]))=_
 rw[aLx,aA (by decide)]
 unfold UJ
 show(if ((rC (1,(1,(0,(0,(0,(0,false)))))) pA1 [xA,tA1] 1 _).2.2 != 0)=true then _ else UJ psA 1 0 [] 2 ([xA,tA1]++[(rC (1,(1,(0,(0,(0,(0,false)))))) pA1 [xA,tA1] 1 _).1],[[],[]]++[(rC (1,(1,(0,(0,(0,(0,false)))))) pA1 [xA,tA1] 1 _).2.1]))=_
 rw[aLr,aA (by decide)]
 rfl
theorem aNn {s t:Int}:vY bA1 8 s t=(bA1,0):=by
 have h1:((!(mD bA1)||(decide ((8:Int)<2)))||(decide ((8:Int)<8)))=false:=by decide +kernel
 have h2:xY bA1 8=0:=by decide +kernel
 unfold vY
 rw[h1,h2,aA (by simp),aA (by decide +kernel)]
 unfold aHx
 show(([1,2],_,[XI 8 s t 0 [18,24] 0,XI 8 s t 0 [18,24] 1]),0)=_
 unfold XI
 rw[aAr,aAr]
 decide +kernel
theorem aOd:pF mA psA [xA,tA1,tA2] [[],[],[]] 0 1 2 [[],[],[gA]]=((rA,0),[[],[bA1],[gA]]):=by
 have h1:grV (mA.2.getD (2-1) cA) gA ([xA,tA1,tA2].getD (2-1) Z3)=(rA,0):=by decide +kernel
 have h2:onV (mA.2.getD (2-1) cA) (psA.getD (2-1) gL) gA ([xA,tA1,tA2].getD (2-1) Z3) (([[],[],[]]:List (List Int)).getD 2 []) 0 1 ((2:Nat):Int)=(bA1,0):=by
  have h3:aEM gA pA1.1=(bA1,0):=by decide +kernel
  unfold onV
  rw[aA (by decide),aA (by decide),aA (by decide),aB (by decide)]
  show mM 0 1 (aEM gA pA1.1).1 (aEM gA pA1.1).2 _ 2=_
  rw[h3]
  unfold mM
  rw[aA (by decide)]
  exact aNn
 show aAn mA psA [xA,tA1,tA2] [[],[],[]] 0 1 2 [[],[],[gA]] gA=_
 unfold aAn
 rw[h1,h2,aB rfl]
 rfl
theorem aOU:pF mA psA [xA,tA1,tA2] [[],[],[]] 0 1 1 [[],[bA1],[gA]]=((fE,0),[[bA0],[bA1],[gA]]):=by
 have h1:grV (mA.2.getD (1-1) cA) bA1 ([xA,tA1,tA2].getD (1-1) Z3)=(fE,0):=by decide +kernel
 have h2:onV (mA.2.getD (1-1) cA) (psA.getD (1-1) gL) bA1 ([xA,tA1,tA2].getD (1-1) Z3) (([[],[],[]]:List (List Int)).getD 1 []) 0 1 ((1:Nat):Int)=(bA0,0):=by
  unfold onV
  rw[aA (by decide),aB (by decide)]
  decide +kernel
 show aAn mA psA [xA,tA1,tA2] [[],[],[]] 0 1 1 [[],[bA1],[gA]] bA1=_
 unfold aAn
 rw[h1,h2,aB rfl]
 rfl
theorem aOj:UG mA psA [xA,tA1,tA2] [[],[],[]] gA 1 0=([fE,rA],0,0):=by
 have h1:GM mA psA [xA,tA1,tA2] [[],[],[]] 0 gA=0:=by decide +kernel
 unfold UG
 rw[aB h1]
 show qM mA psA [xA,tA1,tA2] [[],[],[]] 0 1 2 [fE,fE] [[],[],[gA]]=_
 unfold qM
 rw[aOd,aB rfl]
 show qM mA psA [xA,tA1,tA2] [[],[],[]] 0 1 1 [fE,rA] [[],[bA1],[gA]]=_
 unfold qM
 rw[aOU,aB rfl]
 rfl
theorem UP {l:List Int}(h:(l.all fun y=>decide (-128<=y)&&decide (y<=127))=true):All8 l:=fun y hy=>by
 have:=List.all_eq_true.1 h y hy
 simpa using this
theorem UV {Q:Bool->Prop}(h:Q true):iN Q:=by
 have hp:∀ p∈psA,Prm8 p:=by
  intro p hp
  simp only[S9,List.not_mem_nil,or_false]at hp
  rcases hp with rfl|rfl <;> exact⟨UP (by decide),UP (by decide)⟩
 refine⟨⟨?_⟩⟩
 refine aOw (m:=mA) (ps:=psA) (x:=xA) (by decide) hp (UP (by decide)) ?_
 rw[aPF]
 refine⟨?_⟩
 refine aKA (m:=mA) (ps:=psA) (T:=[xA,tA1,tA2]) (F:=[[],[],[]]) (g:=gA) (by decide) (by decide) hp ?_ (UP (by decide)) ?_
 ·intro t ht
  simp only[S9,List.not_mem_nil,or_false]at ht
  rcases ht with rfl|rfl|rfl <;> exact UP (by decide)
 rw[aOj]
 unfold jn
 dsimp only
 rw[aB (by decide)]
 refine⟨by decide,?_⟩
 rw[aB (by decide)]
 refine⟨by decide,?_⟩
 rw[aB (by decide)]
 refine⟨by decide,by decide,?_⟩
 rw[aB (by decide)]
 refine⟨by decide,?_⟩
 rw[aB (by decide)]
 refine⟨by decide,by decide,?_⟩
 exact h
def RJ (a:T3):Prop:=a.1.length<=1000000/\a.2.2.length<=1000000
theorem u6:RJ Z3:=⟨by simp,by simp⟩
theorem aAT (R C n e:Int)(f:Nat->Nat->Int):RJ (vJ R C n e f).1:=by
 unfold vJ
 split
 ·exact u6
 split
 ·exact u6
 ·rename_i h
  have h:0<szF [R,C]:=by simpa using h
  obtain⟨k1,k2,k3,k4,k5,_⟩:=aEQ R C h
  obtain⟨R,rfl⟩:=gN (show 0<=R by omega)
  obtain⟨C,rfl⟩:=gN (show 0<=C by omega)
  refine⟨by simp,?_⟩
  show(m7 _ _ _).length<=_
  rw[AO]
  simp only[Int.toNat_natCast]
  rw[<- jR]at k5
  omega
theorem aJO (g x:T3):RJ (aDv g x).1:=by
 unfold aDv
 split
 ·exact u6
 split
 ·exact u6
 ·exact aAT _ _ _ _ _
theorem aI3 (g:T3):RJ (aED g).1:=by
 unfold aED
 have h:RJ (aFM g).1:=aAT _ _ _ _ _
 split
 ·exact u6
 split
 ·exact⟨by simp,h.2⟩
 ·exact h
theorem aE6 (g x:T3)(k s p:Int):RJ (uP g x k s p).1:=by
 unfold uP
 split
 ·exact u6
 ·rename_i h
  have h:wtE g x k s p=0:=by simpa using h
  unfold wtE at h
  split at h
  ·rename_i h1;exact absurd h (by simpa using h1)
  split at h
  ·cases h
  obtain⟨_,_,h3,_⟩:=zS h
  unfold SO at h3
  obtain⟨O,C,K,K',e1,e2,e3,e4,_,_,_,_,hb,_⟩:=aBp h3
  refine⟨by simp[SO],?_⟩
  show(w4 _ _ _ _ _).length<=_
  rw[R6,e1,e2,e3]
  have:K=K':=by omega
  subst this
  simp only[Int.toNat_natCast]
  omega
theorem aGj (g:T3):RJ (PO g).1:=by
 unfold PO
 split
 ·exact u6
 ·rename_i h
  have h:bsE g=0:=by simpa using h
  unfold bsE at h
  split at h
  ·rename_i h1;exact absurd h (by simpa using h1)
  obtain⟨_,_,h3,_⟩:=zS h
  have:=aKs h3
  refine⟨by simp,?_⟩
  show(aAI g).length<=_
  unfold aAI
  rw[Y3]
  omega
def CK (G:G3):Prop:=RJ G.2.1/\RJ G.2.2
theorem aGU (x:Lay)(g t:T3):CK (GJ x g t).1:=by
 unfold GJ
 have z:CK fE:=⟨u6,u6⟩
 split
 ·split
  ·split
   ·exact⟨aJO _ _,aI3 _⟩
   ·exact z
  ·exact z
 ·split
  ·split
   ·exact⟨aE6 _ _ _ _ _,aGj _⟩
   ·exact z
  ·exact z
theorem aF6 {m:Mdl}{ps:List Prm}{T:List T3}{F:List (List Int)}{st s:Int}{n:Nat}{back:List (List T3)}:CK (pF m ps T F st s n back).1.1:=by
 have z:CK fE:=⟨u6,u6⟩
 unfold pF
 split
 ·unfold aAn
  split
  ·unfold grV
   split
   ·exact aGU _ _ _
   ·exact z
  ·exact z
 ·exact z
theorem aAj {m:Mdl}{ps:List Prm}{T:List T3}{F:List (List Int)}{st s:Int}:∀ (n:Nat) (out:List G3) (back:List (List T3)),(∀ G∈out,CK G)->∀ G∈(qM m ps T F st s n out back).1,CK G
 | 0,out,back,h=>h
 | n+1,out,back,h=>by
   unfold qM
   split
   ·refine aAj n _ _ fun G hG => ?_
    rcases List.mem_or_eq_of_mem_set hG with h1|h1
    ·exact h G h1
    ·subst h1;exact aF6
   ·intro G hG;cases hG
theorem aJK {n:Nat}:∀ G∈List.replicate n fE,CK G:=fun G hG=>by rw[aEO hG];exact⟨u6,u6⟩
theorem aI1 {l:List G3}(h:∀ G∈l,CK G){i:Nat}(hi:i<l.length):CK (l.getD i fE):=by
 rw[aW,aQ hi]
 exact h _ (fZ _)
end Go.Proofs.YtcfpfefadlnmcaaGreat

namespace Go.Proofs.YtcfpfefadlnmcaaGreat
open Go.Mach Go.RowKit
set_option maxRecDepth 100000
set_option linter.unusedVariables false
abbrev aOc:Ty := .pair (.int .i64) (.pair (.int .i64) (.pair (.int .i64) (.pair (.int .i64) (.pair (.int .i64) (.pair (.int .i64) .bool)))))
abbrev aOp:Ty := .pair (.pair (.pair (.int .i64) (.pair (.int .i64) (.int .i64))) (.slc aOc)) (.pair (.int .u64) (.pair (.slc aI) (.pair (.int .i64) (.pair (.slc aI) (.int .i64)))))
theorem aIM {l:List Int}(h:QW (.slc aI) l):l.length<=1000000000000000/\All8 l:=by
 obtain⟨h1,h2⟩:=h
 refine⟨?_,fun y hy=>aMu (h2 y hy)⟩
 unfold reachBytes GQ IntKind.bits at h1
 simp at h1
 omega
theorem UR {n:aNb}(h:QW aOp n):n.1.2.length<=10000000000000/\n.2.2.1.length<=1000000000000000/\All8 n.2.2.1/\All8 n.2.2.2.2.1:=by
 obtain⟨⟨_,h1,_⟩,_,h2,_,h3,_⟩:=h
 refine⟨?_,(aIM h2).1,(aIM h2).2,(aIM h3).2⟩
 unfold reachBytes at h1
 have e:GQ aOc=49:=by decide
 rw[e]at h1
 have h1:n.1.2.length*49<=_:=h1
 omega
end Go.Proofs.YtcfpfefadlnmcaaGreat

namespace Go.Proofs.YtcfpfefadlnmcaaGreat
open Go.Mach Go.RowKit
set_option maxRecDepth 100000
set_option linter.unusedVariables false
set_option linter.unusedSimpArgs false
theorem aDH {a:T3}{Q:Bool->Prop}(ha:RJ a)(h:Q true):oI a a Q:=by
 refine⟨GD ha.1 ?_⟩
 rw[aF rfl,aA (by simp)]
 refine⟨?_⟩
 have:=ha.2
 refine Loop.range (B:=jH (a.2.2.length:Int) a.2.2 a.2.2 _ _) a.2.2.length (fun i=>(i:Int)) (fun _=>True) trivial (fun i hi _ X hX => ?_) (fun _ X => ?_)
 ·unfold jH
  rw[aB (aF (show(i:Int)<(a.2.2.length:Int) by omega))]
  refine⟨by omega,by omega,?_⟩
  rw[aA (by simp),aC _]
  exact hX trivial
 ·unfold jH
  rw[aA (by simp)]
  exact h
theorem aLZ {l:List G3}{Q:Bool->Prop}(hl:l.length<=1000000)(hs:∀ G∈l,CK G)(h:Q true):vN l l Q:=by
 refine⟨?_⟩
 rw[aA (by simp)]
 refine⟨?_⟩
 refine Loop.range (B:=kV l l (l.length:Int) _ _) l.length (fun i=>(i:Int)) (fun _=>True) trivial (fun i hi _ X hX => ?_) (fun _ X => ?_)
 ·unfold kV
  rw[aB (aF (show(i:Int)<(l.length:Int) by omega)),bJ]
  have hG:=aI1 hs hi
  have hG:CK (l.getD i (false,(([],(0,[])),([],(0,[]))))):=hG
  refine⟨by omega,by omega,?_⟩
  generalize l.getD i (false,(([],(0,[])),([],(0,[]))))=G at hG⊢
  refine f7 (c:=false) (fun _ P hP=>⟨by omega,by omega,aDH hG.1 hP⟩) (fun v e => ?_) rfl
  refine f7 (c:=false) (fun _ P hP=>⟨by omega,by omega,aDH hG.2 hP⟩) (fun v2 e2 => ?_) rfl
  have:v2=false:=by rw[e2,e];simp
  subst this
  rw[aA (by simp),aC _]
  exact hX trivial
 ·unfold kV
  rw[aA (by simp)]
  exact h
theorem aHD {m:Mdl}{ps:List Prm}{T:List T3}{F:List (List Int)}{g:T3}{s st:Int}(hl:m.2.length<=12):(UG m ps T F g s st).1.length<=12/\∀ G∈(UG m ps T F g s st).1,CK G:=by
 have key:∀ (n:Nat) (o:List G3) (b:List (List T3)),o.length<=12->(qM m ps T F st s n o b).1.length<=12:=by
  intro n
  induction n with
  | zero=>intro o b h;exact h
  | succ n ih =>
    intro o b h
    unfold qM
    split
    ·exact ih _ _ (by rw[ET];exact h)
    ·simp
 unfold UG
 split
 ·exact⟨key _ _ _ (by rw[vU];exact hl),aAj _ _ _ aJK⟩
 ·exact⟨by simp,fun G h=>by cases h⟩
abbrev aOY:Ty := .pair (.slc aD) (.pair (.int .i64) (.slc aI))
theorem aDF {t:T3}(h:QW aOY t):All8 t.2.2:=(aIM h.2.2).2
theorem aJB {l:List T3}(h:QW (.slc aOY) l):Ten8 l:=fun t ht=>aDF (h.2 t ht)
theorem aFa {n:aNb}{T:List T3}{F:List (List Int)}{g:T3}{st:Int}{Q:Bool->Prop}(hl:n.1.2.length<=10000000000000)(hb:n.2.2.1.length<=1000000000000000)(b8:All8 n.2.2.1)(x8:All8 n.2.2.2.2.1)(t8:Ten8 T)(g8:All8 g.2.2)(h:Q true):kK n T F g st Q:=by
 refine⟨?_⟩
 split
 ·exact UV h
 rename_i hn
 have hn:=Bool.eq_false_iff.2 hn
 simp only[eI,fB]at hn
 refine⟨?_⟩
 refine Loop.range (B:=eE F T (T.length:Int) _ _) T.length (fun i=>(i:Int)) (fun _=>True) trivial (fun i hi _ X hX => ?_) (fun _ X => ?_)
 ·unfold eE
  rw[aB (aF (show(i:Int)<(T.length:Int) by omega))]
  refine⟨by omega,?_⟩
  refine f7 (c:=decide ((i:Int)<(F.length:Int))&&decide (300<((F.getD i []).length:Int))) (fun _ P hP => ?_) (fun v e => ?_) rfl
  ·refine AB (c:=decide (300<((F.getD i []).length:Int))) (fun hi P hP => ?_) (fun v ev=>by rw[ev];exact hP) rfl
   have hi:(i:Int)<(F.length:Int):=by simpa using hi
   exact⟨by omega,hP⟩
  ·cases v with
   | true=>rw[aB rfl];exact UV h
   | false=>rw[aA (by simp),aC _];exact hX trivial
 unfold eE
 rw[aA (by simp)]
 refine aNg hl hb b8 x8 fun ps x e he => ?_
 dsimp only
 by_cases h0:e=0
 rotate_left
 ·rw[aB (by simpa using h0)];exact UV h
 rw[aA (by simpa using h0)]
 obtain⟨p1,p2,p3,_⟩:=he h0
 refine aKA (m:=n.1) (by omega) (by omega) p2 t8 g8 (aL2 (m:=n.1) (by omega) (by omega) p2 t8 g8 ⟨?_⟩)
 obtain⟨s1,s2⟩:=aHD (m:=n.1) (ps:=ps) (T:=T) (F:=F) (g:=g) (s:=1) (st:=st) (by omega)
 refine aLZ (by omega) s2 ?_
 refine AB (c:=true) (fun _ P hP=>UV hP) (fun v e => ?_) rfl
 rw[e]
 simpa using h
end Go.Proofs.YtcfpfefadlnmcaaGreat
