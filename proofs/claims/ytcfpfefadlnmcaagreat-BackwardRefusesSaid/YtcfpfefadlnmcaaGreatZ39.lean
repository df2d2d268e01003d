/- Part of the proof. No condition. -/
import Derived.Test.YtcfpfefadlnmcaaGreatZ38
import Derived.Test.YtcfpfefadlnmcaaGreatZ37
namespace Go.Proofs.YtcfpfefadlnmcaaGreat
open Go.Mach Go.RowKit
set_option maxRecDepth 100000
set_option linter.unusedVariables false
set_option linter.unusedSimpArgs false
theorem aIo {B:Int->(Int->Prop)->Prop}(a b:List Int)(hl:a.length=b.length){K0 K1:Prop}(step:∀ i:Nat,i<a.length->∀ X:Int->Prop,(a.getD i 0=b.getD i 0->X ((i+1:Nat):Int))->(a.getD i 0≠b.getD i 0->K1)->B (i:Int) X)(last:K0->∀ X,B (a.length:Int) X)(h:if a=b then K0 else K1):Go.Mach.Loop B 0:=by
 refine Loop.range (B:=B) (f:=fun i:Nat=>(i:Int)) a.length (fun i=>∀ j,j<i->a.getD j 0=b.getD j 0) (fun j hj=>absurd hj (by omega)) ?_ ?_
 ·intro i hi hI X hX
  refine step i hi X (fun e=>hX fun j hj => ?_) (fun e => ?_)
  ·by_cases g:j=i
   ·subst g;exact e
   ·exact hI j (by omega)
  ·rw[aA (fun g=>e (by rw[g]))]at h
   exact h
 ·intro hI X
  refine last ?_ X
  rw[aB (aHq hl hI)]at h
  exact h
theorem GD {a b:List Int}{Q:Bool->Prop}(hl:a.length<=1000000)(h:Q (decide (a=b))):bI a b Q:=by
 refine⟨?_⟩
 by_cases e:a.length=b.length
 ·rw[aA (by simp[e])]
  refine⟨?_⟩
  refine aIo (B:=i9 a b (a.length:Int) _ _) a b e (K0:=Q true) (K1:=Q false) ?_ ?_ ?_
  ·intro i hi X hX hK
   unfold i9
   rw[aB (by simpa using hi)]
   refine⟨by omega,by omega,?_⟩
   simp only[Int.toNat_natCast]
   by_cases g:a.getD i 0=b.getD i 0
   ·rw[aA (by simpa using g),aC _];exact hX g
   ·rw[aB (by simpa using g)];exact hK g
  ·intro hK X
   unfold i9
   rw[aA (by simp)]
   exact hK
  ·by_cases g:a=b
   ·rw[aB g];simpa [g] using h
   ·rw[aA g];simpa [g] using h
 ·rw[aB (by simp;omega)]
  rw[kG (fun g=>e (by rw[g]))]at h
  exact h
theorem QH {n k s p:Int}{Q:Int->Prop}(h:Q (bA n k s p)):fN n k s p Q:=by
 by_cases hp:0<=p/\p<k/\k<=5
 ·exact aNN (by omega) h
 ·refine⟨?_⟩
  unfold bA AD inP at h
  rw[aB (by simp;omega)]at h
  rw[aB (by simp;omega)]
  exact h
end Go.Proofs.YtcfpfefadlnmcaaGreat

namespace Go.Proofs.YtcfpfefadlnmcaaGreat
open IntKind (i8 i16 i32 i64 u8 u16 u32 u64)
open Go.Mach
set_option maxRecDepth 100000
set_option linter.unusedVariables false
set_option linter.unusedSimpArgs false
theorem M3 {a lo hi:Int}{Q:Bool->Prop}(h:Q (inP a lo hi)):cM a lo hi Q:=⟨h⟩
theorem aK7 {a:Int×Int×Int}{Q:Bool->Prop}(h:Q (uW a)):tZ a Q:=by
 refine⟨M3 ?_⟩
 unfold uW at h
 refine AB (c:=inP a.2.1 1 16) (fun _ P hP=>M3 hP) (fun v e => ?_) rfl
 refine AB (c:=inP a.2.2 1 16) (fun _ P hP=>M3 hP) (fun v2 e2 => ?_) rfl
 rw[e2,e]
 exact h
theorem aBe {K:Unit->Prop}(h:K ()):eB K:=⟨h⟩
theorem aMQ {x:Lay}{n:Int}{Q:Bool->Prop}(h:Q (vG x n)):p5 x n Q:=by
 obtain⟨kd,ou,k,st,pd,fr,fz⟩:=x
 refine⟨?_⟩
 dsimp only
 unfold vG at h
 dsimp only at h
 have fin:∀ {b:Bool} {k' st' fr':Int},(b&&((kd==kd)&&((ou==0)&&((k==k')&&((st==st')&&((pd==0)&&((fr==fr')&&((fz==false)&&(true)))))))))
  = (b&&((ou==0)&&((k==k')&&((st==st')&&((pd==0)&&((fr==fr')&&(fz==false))))))):=by
  intro b k' st' fr'
  simp
 by_cases h1:kd=1
 ·rw[aB h1]at h
  rw[aB (by simpa using h1)]
  refine M3 (aBe (cast (congrArg Q ?_) h))
  simp
 rw[aA h1]at h
 rw[aA (by simpa using h1)]
 by_cases h2:kd=2
 ·rw[aB h2]at h
  rw[aB (by simpa using h2)]
  refine M3 ?_
  refine AB (c:=inP k 1 5) (fun _ P hP=>M3 hP) (fun v e => ?_) rfl
  refine AB (c:=inP st 1 4) (fun _ P hP=>M3 hP) (fun v2 e2 => ?_) rfl
  refine AB (c:=inP pd 0 (i64.wrap (k-1))) (fun _ P hP=>M3 hP) (fun v3 e3 => ?_) rfl
  refine aBe (cast (congrArg Q ?_) h)
  rw[e3,e2,e]
  unfold aGs
  simp[Bool.and_assoc]
 rw[aA h2]at h
 rw[aA (by simpa using h2)]
 have win:∀ {K0:Bool×Int×Int×Int->Prop} {K1:Unit->Prop} {x1:Bool},K0 (aGs (kd,ou,k,st,pd,fr,fz),k,st,0)->jQ n x1 kd true k st fr 0 0 0 K0 K1:=by
  intro K0 K1 x1 hK
  refine⟨?_⟩
  rw[aB rfl]
  refine M3 ?_
  refine AB (c:=inP st 1 4) (fun _ P hP=>M3 hP) (fun v e => ?_) rfl
  rw[e]
  exact hK
 by_cases h3:kd=3
 ·rw[aB (.inl h3)]at h
  rw[aB (by simpa using h3)]
  have e3:(kd==3)=true:=by simpa using h3
  rw[e3]
  refine win (aBe (cast (congrArg Q ?_) h))
  rw[fin]
  simp
 rw[aA (by simpa using h3)]
 by_cases h4:kd=4
 ·rw[aB (.inr h4)]at h
  have e4:(kd==4)=true:=by simpa using h4
  rw[e4]
  refine win (aBe (cast (congrArg Q ?_) h))
  rw[fin]
  simp
 rw[aA (by omega)]at h
 have e4:(kd==4)=false:=by simpa using h4
 rw[e4]
 refine⟨?_⟩
 rw[aA (by simp)]
 by_cases h5:kd=5
 ·rw[aB (.inl h5)]at h
  have e5:(kd==5)=true:=by simpa using h5
  rw[aB e5,e5]
  refine⟨?_⟩
  rw[aB rfl]
  refine aBe (cast (congrArg Q ?_) h)
  rw[fin]
  simp
 rw[aA (by simpa using h5)]
 by_cases h6:kd=6
 ·rw[aB (.inr h6)]at h
  have e6:(kd==6)=true:=by simpa using h6
  rw[e6]
  refine⟨?_⟩
  rw[aB rfl]
  refine aBe (cast (congrArg Q ?_) h)
  rw[fin]
  simp
 rw[aA (by omega)]at h
 have e6:(kd==6)=false:=by simpa using h6
 rw[e6]
 refine⟨?_⟩
 rw[aA (by simp)]
 by_cases h7:kd=7
 ·rw[aB h7]at h
  rw[aB (by simpa using h7)]
  refine M3 (aBe (cast (congrArg Q ?_) h))
  rw[fin]
  simp
 ·rw[aA h7]at h
  rw[aA (by simpa using h7)]
  exact h
theorem aLi {m:Mdl}{Q:Bool->Prop}(hl:m.2.length<=10000000000000)(h:Q (zM m)):qB m Q:=by
 refine⟨aK7 ?_⟩
 unfold zM at h
 refine f7 (c := !inP (m.2.length:Int) 1 12) (fun _ P hP=>M3 hP) (fun v e => ?_) rfl
 cases v with
 | true =>
   rw[aB rfl]
   have e:(!uW m.1 || !inP (m.2.length:Int) 1 12)=true:=e.symm
   have:(uW m.1&&inP (m.2.length:Int) 1 12)=false:=by
    revert e
    cases uW m.1 <;> cases inP (m.2.length:Int) 1 12 <;> simp
   rw[this]at h
   exact h
 | false =>
   rw[aA (by simp)]
   have e:(!uW m.1 || !inP (m.2.length:Int) 1 12)=false:=e.symm
   have:(uW m.1&&inP (m.2.length:Int) 1 12)=true:=by
    revert e
    cases uW m.1 <;> cases inP (m.2.length:Int) 1 12 <;> simp
   rw[this,E1]at h
   refine⟨?_⟩
   refine Loop.range (B:=iC m.2 (m.2.length:Int) (fun _=>Q true) (fun _=>Q false)) m.2.length (fun i=>(i:Int)) (fun i=>∀ j,j<i->vG (m.2.getD j cA) j=true) (fun j hj=>absurd hj (by omega)) ?_ ?_
   ·intro i hi hI X hX
    unfold iC
    rw[aB (aF (show(i:Int)<(m.2.length:Int) by omega))]
    refine⟨by omega,aMQ ?_⟩
    simp only[Int.toNat_natCast]
    show if (!vG (m.2.getD i cA) i)=true then _ else _
    cases hb:vG (m.2.getD i cA) i with
    | true =>
      rw[aA (by simp),aC _]
      refine hX fun j hj => ?_
      by_cases hji:j=i
      ·subst hji;exact hb
      ·exact hI j (by omega)
    | false =>
      rw[aB (by rfl)]
      have:Q6 m.2=false:=by
       unfold Q6
       rw[VR]
       exact⟨i,List.mem_range.2 hi,by rw[hb];simp⟩
      rw[this]at h
      exact h
   ·intro hI X
    unfold iC
    rw[aA (by simp)]
    have:Q6 m.2=true:=by
     unfold Q6
     rw[jF]
     intro j hj
     exact hI j (List.mem_range.1 hj)
    rw[this]at h
    exact h
def DimOk (d:List Int):Prop:=(∃ n,d=[n]/\1<=n/\n<=4096)\/∃ c p q,d=[c,p,q]/\(1<=c/\c<=8)/\(1<=p/\p<=20)/\(1<=q/\q<=20)
theorem aO7 {c p q:Int}(h1:1<=c/\c<=8)(h2:1<=p/\p<=20)(h3:1<=q/\q<=20):1<=c*p*q/\c*p*q<=3200/\1<=c*p/\c*p<=160:=by
 have a1:c*p<=8*20:=zD h1.2 h2.2 (by omega) (by omega)
 have a2:1*1<=c*p:=zD h1.1 h2.1 (by omega) (by omega)
 have a3:c*p*q<=160*20:=zD (by omega) h3.2 (by omega) (by omega)
 have a4:1*1<=c*p*q:=zD (by omega) h3.1 (by omega) (by omega)
 omega
theorem DimOk.sz {d:List Int}(h:DimOk d):0<szF d/\yQ d=szF d/\szF d<=4096/\d≠[]/\d.length<=3/\1<=d.getD 0 0/\d.getD 0 0<=4096:=by
 rcases h with⟨n,rfl,h1,h2⟩|⟨c,p,q,rfl,h1,h2,h3⟩
 ·rw[aIQ h1 h2]
  refine⟨by omega,?_,by omega,by simp,by simp,by simpa using h1,by simpa using h2⟩
  show i64.wrap (1*n)=n
  rw[OU,aC _]
 ·obtain⟨a1,a2,a3,a4⟩:=aO7 h1 h2 h3
  have e:szF [c,p,q]=c*p*q:=by
   rw[aGa (by simp) (by intro d hd;simp at hd;omega) (by show c*(p*(q*1))<=8192;rw[MQ,<- MJ];omega)]
   show c*(p*(q*1))=_
   rw[MQ,MJ]
  rw[e]
  refine⟨by omega,?_,by omega,by simp,by simp,by simpa using h1.1,by show c<=4096;omega⟩
  show i64.wrap (i64.wrap (i64.wrap (1*c)*p)*q)=c*p*q
  rw[OU,aC c,aC (c*p),aC _]
theorem aMZ {n k s p:Int}(h:bA n k s p≠0):1<=bA n k s p/\bA n k s p<=20:=by
 have:=oC n k s p
 obtain⟨a,b,c,d,e,f⟩:=lO (n:=n) (k:=k) (s:=s) (p:=p) (by omega)
 have h1:(n+2*p-k) / s<=n+2*p-k:=U4 _ (by omega)
 omega
theorem aCu {d:List Int}{c:Int}{x:Lay}(hc:1<=c/\c<=8)(h:oL d c x≠[]):DimOk (oL d c x):=by
 unfold oL at h⊢
 split at h
 ·rename_i h3
  rw[aB h3]
  split at h
  ·exact absurd rfl h
  ·rename_i h4
   rw[aA h4]
   exact .inr ⟨_,_,_,rfl,hc,aMZ (fun e=>h4 (.inl e)),aMZ (fun e=>h4 (.inr e))⟩
 ·exact absurd rfl h
theorem R5 {x:Lay}{n:Int}(h:vG x n=true):(x.1=1/\1<=x.2.1/\x.2.1<=4096)\/(x.1=2/\1<=x.2.1/\x.2.1<=8)\/((x.1=3\/x.1=4)/\x.2.2.2.2.1=0)\/x.1=5\/x.1=6\/x.1=7:=by
 unfold vG at h
 split at h
 ·simp only[aK,inP,aT]at h
  exact .inl ⟨by assumption,h.1⟩
 split at h
 ·simp only[aK,inP,aT]at h
  exact .inr (.inl ⟨by assumption,h.1.1.1⟩)
 split at h
 ·simp only[aK,dR]at h
  exact .inr (.inr (.inl ⟨by assumption,h.2.2.1⟩))
 split at h
 ·rename_i e;rcases e with e|e
  ·exact .inr (.inr (.inr (.inl e)))
  ·exact .inr (.inr (.inr (.inr (.inl e))))
 split at h
 ·rename_i e;exact .inr (.inr (.inr (.inr (.inr e))))
 ·cases h
theorem VC {x:Lay}{l:List (List Int)}{d:List Int}{n:Int}(hm:vG x n=true)(hd:DimOk d)(h:gH x l d≠[]):DimOk (gH x l d):=by
 unfold gH at h⊢
 rcases R5 hm with⟨e,h1,h2⟩|⟨e,h1,h2⟩|⟨e,h1⟩|e|e|e
 ·rw[aB e]at h⊢
  split at h
  ·rename_i h3;rw[aB h3];exact .inl ⟨_,rfl,h1,h2⟩
  ·exact absurd rfl h
 ·rw[aA (by omega),aB e]at h⊢
  exact aCu ⟨h1,h2⟩ h
 ·rw[aA (by omega),aA (by omega),aB e]at h⊢
  refine aCu ?_ h
  unfold oL at h
  split at h
  ·rename_i h3
   rcases hd with⟨n,rfl,_⟩|⟨c,p,q,rfl,hc,_⟩
   ·simp at h3
   ·exact hc
  ·exact absurd rfl h
 ·rw[aA (by omega),aA (by omega),aA (by omega),aB e]
  exact hd
 ·rw[aA (by omega),aA (by omega),aA (by omega),aA (by omega),aB e]
  obtain⟨q1,q2,q3,_⟩:=hd.sz
  exact .inl ⟨_,rfl,by omega,by omega⟩
 ·rw[aA (by omega),aA (by omega),aA (by omega),aA (by omega),aA (by omega),aB e]at h⊢
  split at h
  ·rename_i h3;rw[aB h3];exact hd
  ·exact absurd rfl h
theorem I4 {a b k s p:Int}{Q:Int×Int->Prop}(h:Q (bA a k s p,bA b k s p)):eJ a b k s p Q:=⟨QH (QH h)⟩
theorem aLo {l:List Int}{K0:Int->Prop}(hl:l.length<=1000000)(h:K0 (yQ l)):iO l (l.length:Int) K0 (1,0):=by
 refine⟨?_⟩
 refine Loop.range (B:=kE l (l.length:Int) K0) l.length (fun i=>(yQ (l.take i),(i:Int))) (fun _=>True) trivial ?_ ?_
 ·intro i hi _ X hX
  unfold kE
  dsimp only
  rw[aB (aF (show(i:Int)<(l.length:Int) by omega))]
  refine⟨by omega,?_⟩
  rw[bJ,aC ((i:Int)+1)]
  have hX:=hX trivial
  have e:yQ (l.take (i+1))=i64.wrap (yQ (l.take i)*l.getD i 0):=by
   rw[FP hi 0];unfold yQ;rw[S3];rfl
  rw[e]at hX
  exact hX
 ·intro _ X
  unfold kE
  rw[aA (by simp)]
  dsimp only
  rw[rJ]
  exact h
theorem aKk {x:Lay}{d:List Int}{l:List (List Int)}{n:Int}{Q:List Int×Bool->Prop}(hm:vG x n=true)(hd:DimOk d)(hx:x.1=7->0<=x.2.2.2.2.2.1/\x.2.2.2.2.2.1<(l.length:Int))(h1:gH x l d≠[]->Q (gH x l d,true))(h2:gH x l d=[]->∀ r,Q (r,false)):uH x d l Q:=by
 obtain⟨z1,z2,z3,z4,z5,z6,z7⟩:=hd.sz
 refine⟨?_⟩
 have pl:∀ c:Int,(oL d c x≠[]->Q (oL d c x,true))->(oL d c x=[]->∀ r,Q (r,false))->(((d.length:Int) != 3)=true->Q ([],false))/\(((d.length:Int) != 3)=false->d.length=3/\dK (bA (d.getD 1 0) x.2.2.1 x.2.2.2.1 x.2.2.2.2.1) (bA (d.getD 2 0) x.2.2.1 x.2.2.2.1 x.2.2.2.2.1) fun y=>Q ([c,bA (d.getD 1 0) x.2.2.1 x.2.2.2.1 x.2.2.2.2.1,bA (d.getD 2 0) x.2.2.1 x.2.2.2.1 x.2.2.2.2.1],y)):=by
  intro c k1 k2
  refine⟨fun h => ?_,fun h => ?_⟩
  ·refine k2 ?_ _
   unfold oL
   rw[aA (by intro e;rw[e]at h;simp at h)]
  ·have h3:d.length=3:=by have:(d.length:Int)=3:=by simpa using h
                          omega
   refine⟨h3,⟨?_⟩⟩
   unfold oL at k1 k2
   rw[aB h3]at k1 k2
   obtain⟨a1,_⟩:=oC (d.getD 1 0) x.2.2.1 x.2.2.2.1 x.2.2.2.2.1
   obtain⟨b1,_⟩:=oC (d.getD 2 0) x.2.2.1 x.2.2.2.1 x.2.2.2.2.1
   by_cases h4:bA (d.getD 1 0) x.2.2.1 x.2.2.2.1 x.2.2.2.2.1=0\/bA (d.getD 2 0) x.2.2.1 x.2.2.2.1 x.2.2.2.2.1=0
   ·rw[aB h4]at k2
    have e:(decide (0<bA (d.getD 1 0) x.2.2.1 x.2.2.2.1 x.2.2.2.2.1)&&decide (0<bA (d.getD 2 0) x.2.2.1 x.2.2.2.1 x.2.2.2.2.1))=false:=by
     simp only[JD,fB];omega
    rw[e]
    exact k2 rfl _
   ·rw[aA h4]at k1
    have e:(decide (0<bA (d.getD 1 0) x.2.2.1 x.2.2.2.1 x.2.2.2.2.1)&&decide (0<bA (d.getD 2 0) x.2.2.1 x.2.2.2.1 x.2.2.2.2.1))=true:=by
     simp only[aK,aT];omega
    rw[e]
    exact k1 (by simp)
 have dd:0<d.length:=List.length_pos_iff.2 z4
 unfold gH at h1 h2
 rcases R5 hm with⟨e,_⟩|⟨e,_⟩|⟨e,_⟩|e|e|e
 ·rw[aB e]at h1 h2
  rw[aB (by simpa using e)]
  by_cases h3:d.length=1
  ·rw[aB h3]at h1
   have:((d.length:Int)==1)=true:=by simp[h3]
   rw[this];exact h1 (by simp)
  ·rw[aA h3]at h2
   have:((d.length:Int)==1)=false:=by simp;omega
   rw[this];exact h2 rfl _
 ·rw[aA (by omega),aB e]at h1 h2
  obtain⟨p1,p2⟩:=pl x.2.1 h1 h2
  have e2:(x.1==2)=true:=by simpa using e
  rw[aA (by simp[e]),aB e2,aB e2]
  split
  ·exact p1 (by assumption)
  ·rename_i hn
   obtain⟨g1,g2⟩:=p2 (by simpa using hn)
   exact⟨by omega,by omega,I4 ⟨by omega,g2⟩⟩
 ·rw[aA (by omega),aA (by omega),aB e]at h1 h2
  obtain⟨p1,p2⟩:=pl (d.getD 0 0) h1 h2
  rw[aA (by simp;omega),aA (by simp;omega)]
  rcases e with e|e
  ·have e2:(x.1==3)=true:=by simpa using e
   rw[aB e2,aB e2]
   split
   ·exact p1 (by assumption)
   ·rename_i hn
    obtain⟨g1,g2⟩:=p2 (by simpa using hn)
    refine⟨by omega,by omega,I4 ⟨by omega,?_⟩⟩
    rw[aA (by simp;omega)]
    exact g2
  ·have e2:(x.1==4)=true:=by simpa using e
   rw[aA (by simp;omega),aB e2]
   split
   ·exact p1 (by assumption)
   ·rename_i hn
    obtain⟨g1,g2⟩:=p2 (by simpa using hn)
    refine⟨by omega,by omega,I4 ⟨by omega,?_⟩⟩
    rw[aA (by simp;omega)]
    exact g2
 ·rw[aA (by omega),aA (by omega),aA (by omega),aB e]at h1 h2
  rw[aA (by simp;omega),aA (by simp;omega),aA (by simp;omega),aA (by simp;omega),aA (by simp;omega),aA (by simp;omega)]
  exact⟨by omega,h1 z4⟩
 ·rw[aA (by omega),aA (by omega),aA (by omega),aA (by omega),aB e]at h1 h2
  rw[aA (by simp;omega),aA (by simp;omega),aA (by simp;omega),aA (by simp;omega),aB (by simpa using e)]
  exact aLo (by omega) (h1 (by simp))
 ·rw[aA (by omega),aA (by omega),aA (by omega),aA (by omega),aA (by omega),aB e]at h1 h2
  rw[aA (by simp;omega),aA (by simp;omega),aA (by simp;omega),aA (by simp;omega),aA (by simp;omega),aB (by simpa using e)]
  refine⟨by omega,hx e,GD (by omega) ?_⟩
  by_cases h3:l.getD x.2.2.2.2.2.1.toNat []=d
  ·rw[aB h3]at h1
   rw[aF (show d=l.getD x.2.2.2.2.2.1.toNat []from h3.symm)]
   exact h1 z4
  ·rw[aA h3]at h2
   rw[kG (show ¬ d=l.getD x.2.2.2.2.2.1.toNat []from fun e=>h3 e.symm)]
   exact h2 rfl _
end Go.Proofs.YtcfpfefadlnmcaaGreat

namespace Go.Proofs.YtcfpfefadlnmcaaGreat
open Go.Mach
set_option maxRecDepth 100000
set_option linter.unusedVariables false
set_option linter.unusedSimpArgs false
theorem aEJ {m:Mdl}(h:zM m=true):(∃ c p q,inL m=[c,p,q]/\(1<=c/\c<=8)/\(1<=p/\p<=16)/\(1<=q/\q<=16))/\DimOk (inL m):=by
 obtain⟨⟨h1,h2,h3⟩,_⟩:=nP h
 exact⟨⟨_,_,_,rfl,h1,h2,h3⟩,.inr ⟨_,_,_,rfl,h1,by omega,by omega⟩⟩
theorem aAG {m:Mdl}(h:zM m=true):aU m=dP m.2 0 [inL m]:=by
 obtain⟨_,h2⟩:=aEJ h
 obtain⟨q1,q2,q3,_⟩:=h2.sz
 unfold aU
 rw[aB h,aA (by omega)]
theorem Q7 {x:Lay}{r:List Lay}{i:Int}{l:List (List Int)}{n:Int}(hm:vG x n=true)(hd:DimOk (l.getD (l.length-1) [])) :
 dP (x::r) i l=if gH x l (l.getD (l.length-1) [])=[]then([],i+1,2)else dP r (i+1) (l++[gH x l (l.getD (l.length-1) [])]):=by
 rw[dP]
 split
 ·rfl
 ·rename_i h
  have hg:=VC hm hd h
  obtain⟨q1,q2,q3,_⟩:=hg.sz
  rw[aA (by omega)]
theorem aJ2 {m:Mdl}{i:Nat}(h:zM m=true)(hi:i<m.2.length):vG (m.2.getD i cA) i=true/\((m.2.getD i cA).1=7->0<=(m.2.getD i cA).2.2.2.2.2.1/\(m.2.getD i cA).2.2.2.2.2.1<=(i:Int)-1):=by
 obtain⟨_,⟨k1,k2⟩,k3⟩:=nP h
 refine⟨k3 i hi,fun h7 => ?_⟩
 have:=MM (k3 i hi) h7
 rw[aC ((i:Int)-1)]at this
 exact this
theorem I9 {m:Mdl}{Q:List (List Int)×Int×Int->Prop}(hl:m.2.length<=10000000000000)(h:Q (aU m)):fF m Q:=by
 refine⟨aLi hl ?_⟩
 cases hm:zM ((m.1.1,m.1.2.1,m.1.2.2),m.2)with
 | false =>
   unfold aU at h
   have hm:zM m=false:=hm
   rw[hm,aA (by simp)]at h
   exact h
 | true =>
   have hm:zM m=true:=hm
   rw[aA (by simp)]
   rw[aAG hm]at h
   obtain⟨_,⟨k1,k2⟩,k3⟩:=nP hm
   refine⟨?_⟩
   refine Loop.rangeI (B:=jI m.2 (m.2.length:Int) (fun y=>Q (y,0,0)) (fun y=>Q ([],y.1,y.2))) m.2.length
    (fun i z=>z.1=(i:Int)/\z.2.length=i+1/\(∀ d∈z.2,DimOk d)/\Q (dP (m.2.drop i) i z.2))
    ⟨rfl,rfl,(fun d hd=>by rw[List.mem_singleton.1 hd];exact(aEJ hm).2),by rw[O0];exact h⟩ ?_ ?_
   ·rintro i hi ⟨z1,z2⟩ ⟨rfl,e1,hd,hq⟩ X hX
    unfold jI
    dsimp only at e1 hd hq⊢
    rw[aB (aF (show(i:Int)<(m.2.length:Int) by omega))]
    refine⟨by omega,by omega,?_⟩
    rw[aC ((i:Int)+1)]
    simp only[Int.toNat_natCast]
    rw[MK hi]at hq
    have eg:m.2.getD i cA=m.2[i]:=by rw[aW,aQ hi];rfl
    rw[<- eg]at hq
    have hdi:DimOk (z2.getD i []):=by
     rw[aW,aQ (by omega)]
     exact hd _ (fZ _)
    obtain⟨g1,g2⟩:=aJ2 hm hi
    have el:z2.length-1=i:=by omega
    rw[Q7 g1 (by rw[el];exact hdi),el]at hq
    refine aKk (n:=(i:Int)) g1 hdi (fun h7 => ?_) (fun hne => ?_) (fun he r => ?_)
    ·have:=g2 h7
     exact⟨this.1,by show(m.2.getD i cA).2.2.2.2.2.1<(z2.length:Int);omega⟩
    ·rw[aA (by simp)]
     have hg:=VC g1 hdi hne
     obtain⟨q1,q2,q3,_⟩:=hg.sz
     refine oZ ?_
     have q1':0<szF (gH (m.2.getD i cA) z2 (z2.getD i [])):=q1
     rw[aF q1',aA (by simp)]
     have hne' : ¬ gH (m.2.getD i cA) z2 (z2.getD i [])=[]:=hne
     rw[aA hne']at hq
     refine⟨by simp;omega,hX _ ⟨rfl,by simp[e1],?_,hq⟩⟩
     intro d hdm
     rcases List.mem_append.1 hdm with hdm|hdm
     ·exact hd d hdm
     ·rw[List.mem_singleton.1 hdm];exact hg
    ·rw[aB (by rfl)]
     have he':gH (m.2.getD i cA) z2 (z2.getD i [])=[]:=he
     rw[aB he']at hq
     exact hq
   ·rintro⟨z1,z2⟩ ⟨rfl,e1,hd,hq⟩ X
    unfold jI
    dsimp only at hq⊢
    rw[aA (by simp)]
    rw[SM]at hq
    exact hq
theorem RH:∀ (r:List Lay) (i:Nat) (l:List (List Int)),(∀ j,j<r.length->vG (r.getD j cA) ((i+j:Nat):Int)=true)->l≠[]->(∀ d∈l,DimOk d)->(dP r i l).2.2=0->∀ d∈(dP r i l).1,DimOk d
 | [],_,l,_,_,hd,_=>hd
 | x::r,i,l,hm,hl,hd,h=>by
   have hlast:DimOk (l.getD (l.length-1) []):=by
    have:=List.length_pos_iff.2 hl
    rw[aW,aQ (by omega)]
    exact hd _ (fZ _)
   have hx:vG x (i:Int)=true:=by
    have:=hm 0 (by simp)
    rw[Nat.add_zero]at this
    exact this
   rw[Q7 (n:=(i:Int)) hx hlast]at h⊢
   split at h
   ·exact absurd (show(2:Int)=0 from h) (by decide)
   ·rename_i hne
    rw[aA hne]
    have e:((i:Int)+1)=((i+1:Nat):Int):=by omega
    rw[e]at h⊢
    refine RH r (i+1) _ (fun j hj => ?_) (by simp) (fun d hdm => ?_) h
    ·have:=hm (j+1) (by simp;omega)
     rw[show i+1+j=i+(j+1) by omega]
     exact this
    ·rcases List.mem_append.1 hdm with hdm|hdm
     ·exact hd d hdm
     ·rw[List.mem_singleton.1 hdm];exact VC hx hlast hne
theorem D2 {m:Mdl}(h:(aU m).2.2=0):zM m=true/\(aU m).1.length=m.2.length+1/\∀ d∈(aU m).1,DimOk d:=by
 obtain⟨h1,h2⟩:=uC h
 refine⟨h1,h2.len,?_⟩
 have h0:=h
 rw[aAG h1]at h⊢
 obtain⟨_,_,k3⟩:=nP h1
 exact RH m.2 0 [inL m] (fun j hj=>by rw[pX];exact k3 j hj) (by simp) (fun d hd=>by rw[List.mem_singleton.1 hd];exact(aEJ h1).2) h
theorem aDB {m:Mdl}(h:(aU m).2.2=0){i:Nat}(hi:i<=m.2.length):DimOk ((aU m).1.getD i []):=by
 obtain⟨_,h2,h3⟩:=D2 h
 rw[aW,aQ (by omega)]
 exact h3 _ (fZ _)
theorem aFQ {x:Lay}{d:List Int}{Q:List Int×Int->Prop}(hd:d≠[])(h:Q (ofF x d)):pS x d Q:=by
 have:=List.length_pos_iff.2 hd
 refine⟨?_⟩
 unfold ofF at h
 by_cases h1:x.1=1
 ·rw[aB h1]at h
  rw[aB (by simpa using h1)]
  exact⟨by omega,h⟩
 ·rw[aA h1]at h
  rw[aA (by simpa using h1)]
  by_cases h2:x.1=2
  ·rw[aB h2]at h
   rw[aB (by simpa using h2)]
   exact⟨by omega,h⟩
  ·rw[aA h2]at h
   rw[aA (by simpa using h2)]
   exact h
theorem aIH {m:Mdl}{i:Int}{Q:List Int×Int->Prop}(hl:m.2.length<=10000000000000)(h:Q (B5 m i)):pW m i Q:=by
 refine⟨I9 hl ?_⟩
 unfold B5 at h
 have e0:aU ((m.1.1,m.1.2.1,m.1.2.2),m.2)=aU m:=rfl
 rw[e0]
 split
 ·rename_i hb
  rw[aB hb]at h
  exact h
 ·rename_i hb
  rw[aA hb]at h
  have hb:=Bool.eq_false_iff.2 hb
  simp only[eI,fB,ND]at hb
  obtain⟨⟨b1,b2⟩,b3⟩:=hb
  obtain⟨hm,q2,q3⟩:=D2 b1
  obtain⟨_,⟨k1,k2⟩,_⟩:=nP hm
  rw[aC (i-1)]
  have hdi:=aDB b1 (i:=(i-1).toNat) (by omega)
  refine⟨by omega,by omega,aFQ hdi.sz.2.2.2.1 (oZ ?_)⟩
  have e1:(ofF (m.2.getD (i-1).toNat cA) ((aU m).1.getD (i-1).toNat []))=ofF ((m.2.getD ((i-1).toNat) (0,(0,(0,(0,(0,(0,false))))))).1,(((m.2.getD ((i-1).toNat) (0,(0,(0,(0,(0,(0,false))))))).2).1,((((m.2.getD ((i-1).toNat) (0,(0,(0,(0,(0,(0,false))))))).2).2).1,(((((m.2.getD ((i-1).toNat) (0,(0,(0,(0,(0,(0,false))))))).2).2).2).1,((((((m.2.getD ((i-1).toNat) (0,(0,(0,(0,(0,(0,false))))))).2).2).2).2).1,(((((((m.2.getD ((i-1).toNat) (0,(0,(0,(0,(0,(0,false))))))).2).2).2).2).2).1,((((((m.2.getD ((i-1).toNat) (0,(0,(0,(0,(0,(0,false))))))).2).2).2).2).2).2)))))) ((aU m).1.getD (i-1).toNat []):=rfl
  rw[<- e1]
  by_cases hs:0<szF (ofF (m.2.getD (i-1).toNat cA) ((aU m).1.getD (i-1).toNat [])).1
  ·rw[aB hs]at h
   rw[aF hs,aA (by simp)]
   exact h
  ·rw[aA hs]at h
   rw[kG hs,aB (by rfl)]
   exact h
end Go.Proofs.YtcfpfefadlnmcaaGreat

namespace Go.Proofs.YtcfpfefadlnmcaaGreat
open IntKind (i8 i16 i32 i64 u8 u16 u32 u64)
open Go.Mach Go.RowKit
set_option maxRecDepth 100000
set_option linter.unusedVariables false
set_option linter.unusedSimpArgs false
theorem aL4 {l:List Int}{K0 K1:Unit->Prop}(hl:l.length<=1000000)(h:if -128∈l then K1 ()else K0 ()):oG l (l.length:Int) K0 K1 0:=by
 refine⟨?_⟩
 refine Loop.range (B:=l4 l (l.length:Int) K0 K1) l.length (fun i=>(i:Int)) (fun i=>∀ j,j<i->l.getD j 0 ≠ -128) (fun j hj=>absurd hj (by omega)) ?_ ?_
 ·intro i hi hI X hX
  unfold l4
  rw[aB (aF (show(i:Int)<(l.length:Int) by omega))]
  refine⟨by omega,?_⟩
  rw[bJ]
  have hget:l.getD i 0=l[i]:=by rw[aW,aQ hi];rfl
  by_cases hv:l.getD i 0 = -128
  ·rw[aB (by rw[hv];rfl)]
   rw[aB (by rw[<- hv,hget];exact fZ hi)]at h
   exact h
  ·rw[aA (by simpa using hv),aC _]
   refine hX fun j hj => ?_
   by_cases hji:j=i
   ·subst hji;exact hv
   ·exact hI j (by omega)
 ·intro hI X
  unfold l4
  rw[aA (by simp)]
  rw[aA]at h
  ·exact h
  ·intro hm
   obtain⟨j,hj,e⟩:=List.getElem_of_mem hm
   apply hI j hj
   rw[aW,aQ hj,<- e];rfl
theorem aKh (e:Int):X5 e 64 = !(decide (e < -64)||decide (64<e)):=by
 unfold X5
 rw[aC (0-64),Bool.eq_iff_iff]
 simp only[aK,aT,oR,eI,fB]
 omega
theorem aDi {a:T3}{Q:Bool->Prop}(h:Q (bB a)):n9 a Q:=by
 refine⟨?_⟩
 refine oZ ?_
 unfold bB at h
 have key:∀ v:Bool,v = !(decide (0<szF a.1)&&((a.2.2.length:Int)==szF a.1))->(if ((v||decide (a.2.1 < -64))||decide (64<a.2.1))=true then Q false else oG a.2.2 (a.2.2.length:Int) (fun _=>Q true) (fun _=>Q false) 0):=by
  intro v hv
  rw[aKh]at h
  have hle:=HM a.1
  by_cases hc:((v||decide (a.2.1 < -64))||decide (64<a.2.1))=true
  ·rw[aB hc]
   have:(((decide (0<szF a.1)&&((a.2.2.length:Int)==szF a.1)) && !(decide (a.2.1 < -64)||decide (64<a.2.1))) && !decide (-128∈a.2.2))=false:=by
    rw[Bool.or_assoc]at hc
    cases hv2:v with
    | true =>
      rw[hv2]at hv
      cases hq:(decide (0<szF a.1)&&((a.2.2.length:Int)==szF a.1))with
      | true=>rw[hq]at hv;cases hv
      | false=>rfl
    | false =>
      rw[hv2,PU]at hc
      rw[hc];simp
   rw[this]at h;exact h
  ·rw[aA hc]
   simp only[cJ,jA]at hc
   have hv0:v=false:=by simpa using hc.1.1
   rw[hv0]at hv
   have hv':(decide (0<szF a.1)&&((a.2.2.length:Int)==szF a.1))=true:=by
    cases hq:(decide (0<szF a.1)&&((a.2.2.length:Int)==szF a.1))with
    | true=>rfl
    | false=>rw[hq]at hv;cases hv
   have hlen:a.2.2.length<=1000000:=by
    simp only[aK,aT,dR]at hv'
    omega
   refine aL4 hlen ?_
   have e1:decide (a.2.1 < -64)=false:=by simpa using hc.1.2
   have e2:decide (64<a.2.1)=false:=by simpa using hc.2
   rw[hv',e1,e2]at h
   by_cases hm : -128∈a.2.2
   ·rw[aB hm];simpa [hm] using h
   ·rw[aA hm];simpa [hm] using h
 show(if (!decide (0<szF a.1))=true then _ else _)
 by_cases hp:0<szF a.1
 ·rw[aA (by simp[hp])]
  refine A9 ?_
  exact key _ (by rw[aF hp];unfold bne;rw[E1])
 ·rw[aB (by simp[hp])]
  exact key true (by rw[kG hp];rfl)
theorem CP {l:List T3}{Q:Bool->Prop}(hl:l.length<=1000000)(h:Q (l.all bB)):cC l Q:=by
 refine⟨?_⟩
 refine⟨?_⟩
 refine Loop.range (B:=l9 l (l.length:Int) _ _) l.length (fun i=>(i:Int)) (fun i=>(l.take i).all bB=true) rfl ?_ ?_
 ·intro i hi hI X hX
  unfold l9
  rw[aB (aF (show(i:Int)<(l.length:Int) by omega))]
  refine⟨by omega,aDi ?_⟩
  simp only[Int.toNat_natCast]
  cases hm:bB (l.getD i ([],0,[]))with
  | true =>
    rw[aA (by simp[hm]),aC _]
    exact hX (by rw[OJ (d:=([],0,[])) hi,hI,hm];rfl)
  | false =>
    rw[aB (by simp[hm])]
    rw[aA3 hi hm]at h
    exact h
 ·intro hI X
  unfold l9
  rw[aA (by simp)]
  rw[rJ]at hI
  rw[hI]at h
  exact h
theorem aMH {n:Int}{Q:Bool->Prop}(h:Q (mE n)):vM n Q:=by
 refine⟨?_⟩
 unfold mE at h
 show(if (decide (0<=n)&&decide (n<=1023))=true then _ else _)
 by_cases h1:(decide (0<=n)&&decide (n<=1023))=true
 ·rw[aB h1]
  rw[h1]at h
  simp only[aK,aT]at h1
  refine⟨by omega,?_⟩
  rw[MQ,aC n]
  rw[show(2:Int) ^ min ((14:Int)).toNat (i64).bits=16384 by decide,aC (n*16384),aC _]
  exact h
 ·rw[aA h1]
  have e:(decide (0<=n)&&decide (n<=1023))=false:=by simpa using h1
  rw[e]at h
  exact h
theorem QB {d:List Int}{e n:Int}{Q:T3×Int->Prop}(h:Q (gQ d e n)):fD d e n Q:=by
 refine⟨?_⟩
 refine aMH ?_
 unfold gQ at h
 by_cases h1:(!mE n)=true
 ·rw[aB h1]at h⊢;exact h
 ·rw[aA h1]at h⊢
  refine⟨?_⟩
  by_cases h2:(decide (e < -128)||decide (128<e))=true
  ·rw[aB h2]at h⊢;exact h
  ·rw[aA h2]at h⊢
   refine oZ ?_
   by_cases h3:(!decide (0<szF d))=true
   ·rw[aB h3]at h⊢;exact h
   ·rw[aA h3]at h⊢
    have:=HM d
    have:=AZ d
    refine A9 ⟨⟨by omega,by omega⟩,h⟩
theorem aM3 {a b c:Int}{Q:Int->Prop}(h:Q (alF a b c)):pV a b c Q:=by
 refine⟨?_⟩
 refine⟨?_⟩
 refine⟨?_⟩
 refine⟨?_⟩
 refine⟨?_⟩
 refine⟨?_⟩
 unfold alF at h
 simp only at h
 have hb:=OL b (-1000) 1000 (by omega)
 have hc:=OL c (-1000) 1000 (by omega)
 have hv:=aAt a
 show(if decide (aO (-1000) (aV b 1000)<aO (-1000) (aV c 1000))=true then _ else _)
 generalize aO (-1000) (aV b 1000)=x at *
 generalize aO (-1000) (aV c 1000)=y at *
 show(if decide (x<y)=true then ck _ (Q ((vT a).fdiv _))else if decide (20<i64.wrap (x-y))=true then(if ((vT a)==0)=true then Q 0 else cF (vT a) (-1) 1 (fun r4=>eM r4 (i64.wrap (y+20)) y (fun y7=>Q y7)))else eM (vT a) x y _)
 generalize vT a=v at *
 have n63:∀ (p q:Int),-1000<=q->q<=p->p<=q+20->q<=1000->∀ K:Int->Prop,K (aO (-1048576) (aV (aO (-1048576) (aV v 1048576)*2 ^ (p-q).toNat) 1048576))->eM v p q K:=by
  intro p q h1 h2 h3 h4 K hK
  refine⟨?_⟩
  refine⟨?_⟩
  rw[aC (p-q),p9 (p-q)]
  refine⟨by omega,⟨?_⟩⟩
  have hm:=OL v (-1048576) 1048576 (by omega)
  have hp:=UT (p-q).toNat 20 (by omega)
  have:=FK (aO (-1048576) (aV v 1048576)) (2 ^ (p-q).toNat) 1048576 1048576 hm.1 hm.2 (by omega) hp.2 (by omega)
  rw[show min (p-q).toNat (i64).bits=(p-q).toNat from D4 (by show _<=64;omega)]
  rw[aC (aO (-1048576) (aV v 1048576)*2 ^ (p-q).toNat)]
  exact hK
 have n63':∀ (u:Int),-1<=u->u<=1->∀ K:Int->Prop,K (aO (-1048576) (aV (u*1048576) 1048576))->eM u (i64.wrap (y+20)) y K:=by
  intro u h1 h2 K hK
  refine⟨?_⟩
  refine⟨?_⟩
  rw[aC (y+20),show y+20-y=20 by omega,aC 20 (by omega) (by omega),p9 20 (by omega) (by omega)]
  refine⟨by omega,⟨?_⟩⟩
  have hu:aO (-1048576) (aV u 1048576)=u:=by unfold aO aV;split <;> split <;> omega
  rw[hu,show(2:Int) ^ min ((20:Int)).toNat (i64).bits=1048576 by decide]
  rw[aC (u*1048576)]
  exact hK
 by_cases h1:x-y<0
 ·rw[aB h1]at h
  rw[aB (aF (by omega)),aC (y-x)]
  have hs:0<=aV (y-x) 62/\aV (y-x) 62<=62:=by unfold aV;split <;> omega
  rw[p9 _]
  refine⟨hs.1,?_⟩
  rw[show min (aV (y-x) 62).toNat (i64).bits=(aV (y-x) 62).toNat from D4 (by show _<=64;omega)]
  rw[show(0:Int)-(x-y)=y-x by omega]at h
  exact h
 ·rw[aA h1]at h
  rw[aA (by simp;omega),aC (x-y)]
  by_cases h2:20<x-y
  ·rw[aB h2]at h
   rw[aB (aF h2)]
   by_cases h3:v=0
   ·rw[aB (by rw[h3];rfl)]
    rw[aA (by omega),aA (by omega)]at h
    exact h
   ·rw[aA (by simpa using h3)]
    refine⟨?_⟩
    have hu:=OL v (-1) 1 (by omega)
    refine n63' (aO (-1) (aV v 1)) hu.1 hu.2 _ ?_
    by_cases h4:0<v
    ·rw[aB h4]at h
     have:aO (-1) (aV v 1)=1:=by unfold aO aV;split <;> split <;> omega
     rw[this]
     exact h
    ·rw[aA h4,aB (by omega)]at h
     have:aO (-1) (aV v 1) = -1:=by unfold aO aV;split <;> split <;> omega
     rw[this]
     exact h
  ·rw[aA h2]at h
   rw[aA (by simp;omega)]
   exact n63 x y (by omega) (by omega) (by omega) (by omega) _ h
theorem aLk {rows cols r c k s p:Int}{i K:Nat}{acc:List (Int×Int×Int)}{K0:List (Int×Int×Int)->Prop}(hr:0<=r/\r<=100)(hc:0<=c/\c<=100)(hs:0<=s/\s<=4)(hp:0<=p/\p<=5)(hi:i<=5)(hK:K<=5)(hrows:0<=rows/\rows<=16)(hcols:0<=cols/\cols<=16)(ha:acc.length<=100000)
 (h:K0 (acc++rH rows cols (s*r-p) (s*c-p) i K)):qH rows cols r c s p i K K0 (0,acc):=by
 refine⟨?_⟩
 have m1:0<=s*r:=EX hs.1 hr.1
 have m2:s*r<=4*100:=zD hs.2 hr.2 hr.1 (by omega)
 have m3:0<=s*c:=EX hs.1 hc.1
 have m4:s*c<=4*100:=zD hs.2 hc.2 hc.1 (by omega)
 have eg:((0:Int),acc)=(fun j:Nat=>((j:Int),acc++rH rows cols (s*r-p) (s*c-p) i j)) 0:=by simp[rH]
 rw[eg]
 refine Loop.range (B:=kC rows cols r c s p i K K0) (f:=fun j:Nat=>((j:Int),acc++rH rows cols (s*r-p) (s*c-p) i j)) K (fun _=>True) trivial ?_ ?_
 ·intro j hj _ X hX
  have hX:=hX trivial
  unfold kC
  rw[aB (aF (show(j:Int)<(K:Int) by omega))]
  dsimp only at hX⊢
  have e1:i64.wrap (i64.wrap (i64.wrap (r*s)-p)+(i:Int))=s*r-p+i:=by
   rw[Int.mul_comm r s,aC (s*r),aC (s*r-p),aC _]
  have e2:i64.wrap (i64.wrap (i64.wrap (c*s)-p)+(j:Int))=s*c-p+j:=by
   rw[Int.mul_comm c s,aC (s*c),aC (s*c-p),aC _]
  rw[e1,e2]
  have hlen:=MC (rows:=rows) (cols:=cols) (cr:=s*r-p) (cc:=s*c-p) (i:=i) j
  rw[O9,<- gZ]at hX
  unfold tO at hX
  by_cases hin:(inP (s*r-p+i) 0 (rows-1)&&inP (s*c-p+j) 0 (cols-1))=true
  ·rw[aB hin]at hX
   simp only[aK]at hin
   have b1:0<=s*r-p+i/\s*r-p+i<=rows-1:=by simpa [inP] using hin.1
   have b2:0<=s*c-p+j/\s*c-p+j<=cols-1:=by simpa [inP] using hin.2
   have m5:0<=(s*r-p+i)*cols:=EX b1.1 hcols.1
   have m6:(s*r-p+i)*cols<=16*16:=zD (by omega) hcols.2 hcols.1 (by omega)
   rw[aB (by simp;omega)]
   refine⟨by simp only[mR,List.length_singleton];omega,⟨?_⟩⟩
   rw[aC ((j:Int)+1),aC ((s*r-p+i)*cols),aC ((s*r-p+i)*cols+(s*c-p+j))]
   exact hX
  ·rw[aA hin,dV]at hX
   rw[aA (by
    intro hh
    apply hin
    simp only[aK,aT]at hh
    rw[C1 (by omega) (by omega),C1 (by omega) (by omega)];rfl)]
   refine⟨?_⟩
   rw[aC ((j:Int)+1)]
   exact hX
 ·intro _ X
  unfold kC
  rw[aA (by simp)]
  exact h
theorem aDC {rows cols r c k s p:Int}{Q:List (Int×Int×Int)->Prop}(h:Q (fX rows cols r c k s p)):o8 rows cols r c k s p Q:=by
 refine⟨?_⟩
 obtain⟨m1,m2,m3⟩:=oC rows k s p
 obtain⟨n1,n2,n3⟩:=oC cols k s p
 refine f7 (b:=decide (r<0)||decide (c<0)) (c:=decide (bA rows k s p<=r)) (fun _ P hp=>QH hp) (fun v1 e1 => ?_) rfl
 refine f7 (c:=decide (bA cols k s p<=c)) (fun _ P hp=>QH hp) (fun v4 e4 => ?_) rfl
 have hv:v4=aDP rows cols r c k s p:=by
  rw[e4,e1,Bool.eq_iff_iff]
  unfold aDP inP
  simp only[cJ,aT,oR,JD,fB]
  omega
 unfold fX at h
 rw[<- hv]at h
 cases hv4:v4 with
 | true=>rw[hv4,aB rfl]at h;rw[aB rfl];exact h
 | false =>
   rw[hv4,aA (by simp)]at h
   rw[aA (by simp)]
   rw[hv4,e1]at e4
   have e4:=e4.symm
   simp only[eI,fB]at e4
   obtain⟨b1,b2,b3,b4,b5,_⟩:=lO (n:=rows) (k:=k) (s:=s) (p:=p) (by omega)
   obtain⟨c1,_⟩:=lO (n:=cols) (k:=k) (s:=s) (p:=p) (by omega)
   obtain⟨K,rfl⟩:=gN (show 0<=k by omega)
   rw[bJ]at h
   refine⟨?_⟩
   refine Loop.range (B:=kB rows cols r c K s p K _) (f:=fun i:Nat=>((i:Int),OB rows cols (s*r-p) (s*c-p) K i)) K (fun _=>True) trivial ?_ ?_
   ·intro i hi _ X hX
    have hX:=hX trivial
    unfold kB
    rw[aB (aF (show(i:Int)<(K:Int) by omega))]
    dsimp only at hX⊢
    have hl:=P6 (rows:=rows) (cols:=cols) (cr:=s*r-p) (cc:=s*c-p) (k:=K) i
    have hm:i*K<=5*5:=dE (by omega) (by omega)
    refine aLk (k:=K) (by omega) (by omega) (by omega) (by omega) (by omega) (by omega) (by omega) (by omega) (by omega) ?_
    rw[aC ((i:Int)+1)]
    rw[V0]at hX
    exact hX
   ·intro _ X
    unfold kB
    rw[aA (by simp)]
    exact h
theorem aMp {l:List Int}{K0:Int->Prop}(hl:l.length<=4)(hd:∀ d∈l,1<=d)(hp:dT l<=8192)(h:K0 (dT l)):pD l (l.length:Int) K0 (1,0):=by
 refine⟨?_⟩
 refine Loop.rangeI (B:=jL l (l.length:Int) K0) l.length (fun i st=>st.2=(i:Int)/\1<=st.1/\st.1*dT (l.drop i)=dT l) ⟨rfl,by show(1:Int)<=1;omega,by show 1*dT (l.drop 0)=_;rw[OU,O0]⟩ ?_ ?_
 ·rintro i hi ⟨acc,i'⟩ ⟨e1,e2,e3⟩ X hX
  simp only at e1 e2 e3
  subst e1
  unfold jL
  rw[aB (aF (show(i:Int)<(l.length:Int) by omega))]
  dsimp only
  refine⟨by omega,?_⟩
  rw[bJ]
  have hg:l.drop i=l.getD i 0::l.drop (i+1):=QE hi
  rw[hg]at e3
  have h1:=hd (l.getD i 0) (O6 hi)
  have h2:=JJ (l:=l.drop (i+1)) fun d hdd=>hd d (List.mem_of_mem_drop hdd)
  have e4:acc*l.getD i 0*dT (l.drop (i+1))=dT l:=by rw[MJ];exact e3
  have h3:=aB6 e2 h1
  have h4:acc*l.getD i 0<=acc*l.getD i 0*dT (l.drop (i+1)):=by
   have:=WA (c:=acc*l.getD i 0) h2 (by omega)
   omega
  rw[aC (acc*l.getD i 0),aC ((i:Int)+1)]
  exact hX _ ⟨by simp,h3,e4⟩
 ·rintro⟨acc,i'⟩ ⟨e1,e2,e3⟩ X
  simp only at e1 e2 e3
  subst e1
  unfold jL
  rw[aA (by simp)]
  rw[SM]at e3
  have:acc=dT l:=by simpa [dT] using e3
  dsimp only
  rw[this]
  exact h
def stF (d:List Int):List Int:=tab d.length fun i=>dT (d.drop (i+1))
theorem aHB {l:List Int}(hd:∀ d∈l,1<=d):∀ i,dT (l.drop i)<=dT l:=by
 intro i
 induction i with
 | zero=>rw[O0];exact Int.le_refl _
 | succ i ih =>
   rcases nJ i l.length with h|h
   ·have hg:l.drop i=l.getD i 0::l.drop (i+1):=QE h
    rw[hg]at ih
    have h1:=hd (l.getD i 0) (O6 h)
    have h2:=JJ (l:=l.drop (i+1)) fun d hdd=>hd d (List.mem_of_mem_drop hdd)
    have h3:dT (l.drop (i+1))<=l.getD i 0*dT (l.drop (i+1)):=by
     have:=PQ h1 (show 0<=dT (l.drop (i+1)) by omega)
     omega
    exact Int.le_trans h3 ih
   ·rw[List.drop_eq_nil_of_le (by omega)]
    exact JJ hd
theorem aGu {d:List Int}{Q:List Int->Prop}(hs:0<szF d)(h:Q (stF d)):sS d Q:=by
 obtain⟨h1,h2,h3,h4⟩:=tP hs
 refine⟨?_⟩
 refine oZ ?_
 rw[aA (by simp[hs])]
 refine⟨?_⟩
 refine Loop.range (B:=jT d (d.length:Int) _) (f:=fun i:Nat=>((i:Int),tab i fun i=>dT (d.drop (i+1)))) d.length (fun _=>True) trivial ?_ ?_
 ·intro i hi _ X hX
  have hX:=hX trivial
  unfold jT
  rw[aB (aF (show(i:Int)<(d.length:Int) by omega))]
  dsimp only at hX⊢
  have ei:i64.wrap ((i:Int)+1)=((i+1:Nat):Int):=by rw[aC _];omega
  rw[ei]
  refine⟨⟨?_,by omega,by omega,by omega⟩,?_⟩
  ·intro e;rw[e]at h1;simp at h1
  ·simp only[Int.toNat_natCast,rJ]
   have hb:=aHB (fun x hx=>(h2 x hx).1) (i+1)
   refine aMp (by rw[E5];omega) (fun x hx=>(h2 x (List.mem_of_mem_drop hx)).1) (by omega) ?_
   refine⟨by simp;omega,?_⟩
   have:tab (i+1) (fun i=>dT (d.drop (i+1)))=tab i (fun i=>dT (d.drop (i+1)))++[dT (d.drop (i+1))]:=by
    unfold tab;rw[sV,uM];rfl
   rw[this]at hX
   exact hX
 ·intro _ X
  unfold jT
  rw[aA (by simp)]
  exact h
theorem aPI {n O P R:Nat}:stF [(n:Int),O,P,R]=[((O*P*R:Nat):Int),((P*R:Nat):Int),(R:Int),1]:=by
 have e1:dT [(O:Int),P,R]=((O*P*R:Nat):Int):=by simp only[dT,Int.natCast_mul,MQ,MJ]
 have e2:dT [(P:Int),R]=((P*R:Nat):Int):=by simp only[dT,Int.natCast_mul,MQ]
 have e3:dT [(R:Int)]=(R:Int):=by simp only[dT,MQ]
 show [dT [(O:Int),P,R],dT [(P:Int),R],dT [(R:Int)],dT []]=_
 rw[e1,e2,e3]
 rfl
theorem dm {a b q r:Nat}(hr:r<b)(e:a=q*b+r):(a:Int).tdiv (b:Int)=(q:Int)/\(a:Int).tmod (b:Int)=(r:Int):=by
 subst e
 rw[OY (by omega),U3 (by omega),<- aBW,<- WL,FF hr,AE hr]
 exact⟨rfl,rfl⟩
theorem aCv {n O P R m o p q:Nat}{Q:List Int->Prop}(hs:0<szF [(n:Int),O,P,R])(hm:m<n)(ho:o<O)(hp:p<P)(hq:q<R)(h:Q [(m:Int),o,p,q]) :
 iK [(n:Int),O,P,R] ((ix4 O P R m o p q:Nat):Int) Q:=by
 obtain⟨a,b,c,d,e1,e2,e3,e4,b1,b2,b3,b4,s5,s6⟩:=aBp hs
 have e1:a=n:=by omega
 have e2:b=O:=by omega
 have e3:c=P:=by omega
 have e4:d=R:=by omega
 subst e1 e2 e3 e4
 have hlt:=EK hm ho hp hq
 have r3:p*d+q<c*d:=fM hp hq
 have r2:o*(c*d)+(p*d+q)<b*c*d:=by rw[cK];exact fM ho r3
 have ei:ix4 b c d m o p q=m*(b*c*d)+(o*(c*d)+(p*d+q)):=by
  unfold ix4
  simp only[eV,cK,yX]
 obtain⟨t0,u0⟩:=dm r2 ei
 obtain⟨t1,u1⟩:=dm (a:=o*(c*d)+(p*d+q)) r3 rfl
 obtain⟨t2,u2⟩:=dm (a:=p*d+q) hq rfl
 have k1:m<=ix4 b c d m o p q:=by rw[ei];have:m<=m*(b*c*d):=bK _ (by omega);omega
 have k2:o<=o*(c*d):=bK _ (by omega)
 have k3:p<=p*d:=bK _ (by omega)
 have k0:ix4 b c d m o p q<=8192:=by omega
 refine⟨?_⟩
 refine f7 (b:=decide (((ix4 b c d m o p q:Nat):Int)<0)) (c:=decide (szF [(a:Int),b,c,d]<=((ix4 b c d m o p q:Nat):Int))) (fun _ P hp=>A9 hp) (fun v1 e1 => ?_) rfl
 have hv:v1=false:=by
  rw[e1,s6]
  simp only[eI,fB]
  omega
 rw[hv,aA (by simp)]
 refine aGu hs ?_
 rw[aPI]
 refine⟨?_⟩
 refine Loop.range (B:=oW 4 [((b*c*d:Nat):Int),((c*d:Nat):Int),(d:Int),1] _) (f:=fun i:Nat=>match i with
  | 0=>(((ix4 b c d m o p q:Nat):Int),0,[])
  | 1=>(((o*(c*d)+(p*d+q):Nat):Int),1,[(m:Int)])
  | 2=>(((p*d+q:Nat):Int),2,[(m:Int),o])
  | 3=>((q:Int),3,[(m:Int),o,p])
  | _=>(0,4,[(m:Int),o,p,q])) 4 (fun _=>True) trivial ?_ ?_
 ·intro i hi _ X hX
  have hX:=hX trivial
  unfold oW
  match i,hi,hX with
  | 0,_,hX =>
    refine⟨by simp,by show((b*c*d:Nat):Int)≠0;omega,by simp,by show((b*c*d:Nat):Int)≠0;omega,?_⟩
    show X (((ix4 b c d m o p q:Nat):Int).tmod ((b*c*d:Nat):Int),i64.wrap (0+1),[]++[i64.wrap (((ix4 b c d m o p q:Nat):Int).tdiv ((b*c*d:Nat):Int))])
    rw[t0,u0,aC (m:Int)]
    exact hX
  | 1,_,hX =>
    refine⟨by simp,by show((c*d:Nat):Int)≠0;omega,by simp,by show((c*d:Nat):Int)≠0;omega,?_⟩
    show X (((o*(c*d)+(p*d+q):Nat):Int).tmod ((c*d:Nat):Int),i64.wrap (1+1),[(m:Int)]++[i64.wrap (((o*(c*d)+(p*d+q):Nat):Int).tdiv ((c*d:Nat):Int))])
    rw[t1,u1,aC (o:Int)]
    exact hX
  | 2,_,hX =>
    refine⟨by simp,by show(d:Int)≠0;omega,by simp,by show(d:Int)≠0;omega,?_⟩
    show X (((p*d+q:Nat):Int).tmod (d:Int),i64.wrap (2+1),[(m:Int),o]++[i64.wrap (((p*d+q:Nat):Int).tdiv (d:Int))])
    rw[t2,u2,aC (p:Int)]
    exact hX
  | 3,_,hX =>
    refine⟨by simp,by show(1:Int)≠0;omega,by simp,by show(1:Int)≠0;omega,?_⟩
    show X ((q:Int).tmod 1,i64.wrap (3+1),[(m:Int),o,p]++[i64.wrap ((q:Int).tdiv 1)])
    rw[Int.tmod_one,Int.tdiv_one,aC (q:Int)]
    exact hX
 ·intro _ X
  exact h
def w4 (n O P Q:Nat)(f:Nat->Nat->Nat->Nat->Int):List Int:=VZ n O P Q fun m o p q=>i32.wrap (f m o p q)
theorem R6 (n O P Q:Nat)(f:Nat->Nat->Nat->Nat->Int):(w4 n O P Q f).length=n*O*P*Q:=TK _ _ _ _ _
theorem aBY {n O P Q m o p q:Nat}{f:Nat->Nat->Nat->Nat->Int}(hm:m<n)(ho:o<O)(hp:p<P)(hq:q<Q):(w4 n O P Q f).getD (ix4 O P Q m o p q) 0=i32.wrap (f m o p q):=UL hm ho hp hq
theorem eZ {n O P Q:Nat}{f g:Nat->Nat->Nat->Nat->Int}(h:∀ m o p q,m<n->o<O->p<P->q<Q->f m o p q=g m o p q):w4 n O P Q f=w4 n O P Q g :=
 aHK fun m o p q hm ho hp hq=>by rw[h m o p q hm ho hp hq]
theorem aKc {n O P Q m0 o0 p0 q0:Nat}{f:Nat->Nat->Nat->Nat->Int}{v:Int}(hm:m0<n)(ho:o0<O)(hp:p0<P)(hq:q0<Q) :
 (w4 n O P Q f).set (ix4 O P Q m0 o0 p0 q0) (i32.wrap ((w4 n O P Q f).getD (ix4 O P Q m0 o0 p0 q0) 0+v))=w4 n O P Q fun m o p q=>f m o p q+if m=m0/\o=o0/\p=p0/\q=q0 then v else 0:=by
 refine QQ (by rw[ET];exact R6 _ _ _ _ _) (R6 _ _ _ _ _) fun m o p q h1 h2 h3 h4 => ?_
 have hl:=EK hm ho hp hq
 rw[ZV (by rw[R6];exact hl)]
 by_cases e:ix4 O P Q m0 o0 p0 q0=ix4 O P Q m o p q
 ·obtain⟨e1,e2,e3,e4⟩:=aDn ho hp hq h2 h3 h4 e
  rw[aB e,aBY h1 h2 h3 h4,aB ⟨e1.symm,e2.symm,e3.symm,e4.symm⟩,aBY hm ho hp hq,JM,e1,e2,e3,e4]
 ·rw[aA e,aBY h1 h2 h3 h4,aBY h1 h2 h3 h4,aA,Int.add_zero]
  rintro⟨rfl,rfl,rfl,rfl⟩
  exact e rfl
theorem aJo (n O P Q:Nat):List.replicate (n*O*P*Q) (0:Int)=w4 n O P Q fun _ _ _ _=>0:=by
 refine QQ (by simp) (R6 _ _ _ _ _) fun m o p q h1 h2 h3 h4 => ?_
 rw[QL (EK h1 h2 h3 h4),aBY h1 h2 h3 h4]
 show 0=i32.wrap 0
 decide
section
variable {n O C K P Q plane:Nat} {gd xd:List Int}
structure WF (n O C K P Q plane:Nat)(gd xd:List Int):Prop where
 hg:gd.length=n*O*P*Q
 hx:xd.length=n*C*plane
 bg:n*O*P*Q<=8192
 bx:n*C*plane<=8192
 bw:O*C*K*K<=8192
 ag:All8 gd
 ax:All8 xd
 hn:1<=n
 hO:1<=O
 hC:1<=C
 hP:1<=P
 hQ:1<=Q
def wtG (O C P Q plane:Nat)(gd xd:List Int)(i m o c a:Nat):Int:=gd.getD ((m*O+o)*P*Q+i) 0*xd.getD ((m*C+c)*plane+a) 0
theorem aPL (h:WF n O C K P Q plane gd xd){f:Nat->Nat->Nat->Nat->Int}{i m o a r q:Nat}{K0:List Int->Prop}(hi:i<P*Q)(hm:m<n)(ho:o<O)(ha:a<plane)(hr:r<K)(hq:q<K)
 (hk:K0 (w4 O C K K fun o' c' r' q'=>f o' c' r' q'+if o'=o/\r'=r/\q'=q then wtG O C P Q plane gd xd i m o c' a else 0)) :
 EQ K O C plane i m o C gd xd P Q a r q K0 (0,w4 O C K K f):=by
 refine⟨?_⟩
 have eg:((0:Int),w4 O C K K f)=(fun j:Nat=>((j:Int),w4 O C K K fun o' c' r' q'=>f o' c' r' q'+if o'=o/\c'<j/\r'=r/\q'=q then wtG O C P Q plane gd xd i m o c' a else 0)) 0:=by
  dsimp only
  congr 1
  refine eZ fun o' c' r' q' _ _ _ _ => ?_
  rw[aA (by omega)];omega
 rw[eg]
 refine Loop.range (B:=uY K O C plane i m o C gd xd P Q a r q K0) (f:=fun j:Nat=>((j:Int),w4 O C K K fun o' c' r' q'=>f o' c' r' q'+if o'=o/\c'<j/\r'=r/\q'=q then wtG O C P Q plane gd xd i m o c' a else 0)) C (fun _=>True) trivial ?_ ?_
 ·intro c hc _ X hX
  have hX:=hX trivial
  have k1:=h.bg;have k2:=h.bx;have k3:=h.bw
  have i1:=EK (P:=K) (Q:=K) ho hc hr hq
  have i2:(m*C+c)*plane+a<n*C*plane:=fM (fM hm hc) ha
  have i3:(m*O+o)*(P*Q)+i<n*O*(P*Q):=fM (fM hm ho) hi
  rw[<- cK,<- cK]at i3
  have j1:o*C+c<=(o*C+c)*K:=bK _ (by omega)
  have j2:(o*C+c)*K+r<=((o*C+c)*K+r)*K:=bK _ (by omega)
  have j3:m*C+c<=(m*C+c)*plane:=bK _ (by omega)
  have j4:m*O+o<=(m*O+o)*P:=bK _ h.hP
  have j5:(m*O+o)*P<=(m*O+o)*P*Q:=bK _ h.hQ
  unfold ix4 at i1
  have hc8:c<=8192:=by omega
  unfold uY
  rw[aB (aF (show(c:Int)<(C:Int) by omega))]
  dsimp only at hX⊢
  rw[ix (r:=o) (n:=C) (i:=c) (by omega),ix (r:=o*C+c) (n:=K) (i:=r) (by omega),ix (r:=(o*C+c)*K+r) (n:=K) (i:=q) (by omega)]
  rw[ix (r:=m) (n:=O) (i:=o) (by omega),xC (r:=m*O+o) (n:=P) (by omega),ix (r:=(m*O+o)*P) (n:=Q) (i:=i) (by omega)]
  rw[ix (r:=m) (n:=C) (i:=c) (by omega),ix (r:=m*C+c) (n:=plane) (i:=a) (by omega)]
  rw[R6]
  refine⟨by omega,by rw[h.hg];omega,by rw[h.hx];omega,by omega,?_⟩
  simp only[Int.toNat_natCast]
  rw[aC ((c:Int)+1),EE]
  have g8:=h.ag.at_ ((m*O+o)*P*Q+i)
  have x8:=h.ax.at_ ((m*C+c)*plane+a)
  rw[uK (gd.getD ((m*O+o)*P*Q+i) 0),uK (xd.getD ((m*C+c)*plane+a) 0)]
  have es:=aKc (n:=O) (O:=C) (P:=K) (Q:=K) (m0:=o) (o0:=c) (p0:=r) (q0:=q) (f:=fun o' c' r' q'=>f o' c' r' q'+if o'=o/\c'<c/\r'=r/\q'=q then wtG O C P Q plane gd xd i m o c' a else 0) (v:=gd.getD ((m*O+o)*P*Q+i) 0*xd.getD ((m*C+c)*plane+a) 0) ho hc hr hq
  unfold ix4 at es
  rw[es]
  have ef:(w4 O C K K fun o' c' r' q'=>(f o' c' r' q'+if o'=o/\c'<c/\r'=r/\q'=q then wtG O C P Q plane gd xd i m o c' a else 0)+if o'=o/\c'=c/\r'=r/\q'=q then gd.getD ((m*O+o)*P*Q+i) 0*xd.getD ((m*C+c)*plane+a) 0 else 0)=w4 O C K K fun o' c' r' q'=>f o' c' r' q'+if o'=o/\c'<c+1/\r'=r/\q'=q then wtG O C P Q plane gd xd i m o c' a else 0:=by
   refine eZ fun o' c' r' q' _ _ _ _ => ?_
   rw[vR]
   congr 1
   by_cases g:o'=o/\r'=r/\q'=q
   ·obtain⟨g1,g2,g3⟩:=g
    subst g1 g2 g3
    by_cases g4:c'=c
    ·subst g4
     rw[aA (by omega),aB ⟨rfl,rfl,rfl,rfl⟩,aB ⟨rfl,by omega,rfl,rfl⟩]
     unfold wtG;omega
    ·rw[aA (c:=_/\c'=c/\_) (by omega)]
     by_cases g5:c'<c
     ·rw[aB ⟨rfl,g5,rfl,rfl⟩,aB ⟨rfl,by omega,rfl,rfl⟩];omega
     ·rw[aA (by omega),aA (by omega)];omega
   ·rw[aA (fun hh=>g ⟨hh.1,hh.2.2⟩),aA (fun hh=>g ⟨hh.1,hh.2.2⟩),aA (fun hh=>g ⟨hh.1,hh.2.2⟩)];omega
  rw[ef]
  exact hX
 ·intro _ X
  unfold uY
  rw[aA (by simp)]
  have:(w4 O C K K fun o' c' r' q'=>f o' c' r' q'+if o'=o/\c'<C/\r'=r/\q'=q then wtG O C P Q plane gd xd i m o c' a else 0)=w4 O C K K fun o' c' r' q'=>f o' c' r' q'+if o'=o/\r'=r/\q'=q then wtG O C P Q plane gd xd i m o c' a else 0:=by
   refine eZ fun o' c' r' q' _ h2 _ _ => ?_
   congr 1
   by_cases g:o'=o/\r'=r/\q'=q
   ·rw[aB g,aB ⟨g.1,h2,g.2⟩]
   ·rw[aA g,aA (fun hh=>g ⟨hh.1,hh.2.2⟩)]
  dsimp only
  rw[this]
  exact hk
theorem aPE (h:WF n O C K P Q plane gd xd){f:Nat->Nat->Nat->Nat->Int}{i m a r q:Nat}{K0:List Int->Prop}(hi:i<P*Q)(hm:m<n)(ha:a<plane)(hr:r<K)(hq:q<K)
 (hk:K0 (w4 O C K K fun o' c' r' q'=>f o' c' r' q'+if r'=r/\q'=q then wtG O C P Q plane gd xd i m o' c' a else 0)) :
 FM K O C plane i m O gd xd P Q a r q K0 (0,w4 O C K K f):=by
 refine⟨?_⟩
 have hO:O<=8192:=by
  have:=h.bg
  have:=h.hn;have:=h.hP;have:=h.hQ
  have:O<=n*O:=wB _ (by omega)
  have:n*O<=n*O*P:=bK _ (by omega)
  have:n*O*P<=n*O*P*Q:=bK _ (by omega)
  omega
 have eg:((0:Int),w4 O C K K f)=(fun j:Nat=>((j:Int),w4 O C K K fun o' c' r' q'=>f o' c' r' q'+if o'<j/\r'=r/\q'=q then wtG O C P Q plane gd xd i m o' c' a else 0)) 0:=by
  dsimp only
  congr 1
  refine eZ fun o' c' r' q' _ _ _ _ => ?_
  rw[aA (by omega)];omega
 rw[eg]
 refine Loop.range (B:=u4 K O C plane i m O gd xd P Q a r q K0) (f:=fun j:Nat=>((j:Int),w4 O C K K fun o' c' r' q'=>f o' c' r' q'+if o'<j/\r'=r/\q'=q then wtG O C P Q plane gd xd i m o' c' a else 0)) O (fun _=>True) trivial ?_ ?_
 ·intro o ho _ X hX
  have hX:=hX trivial
  unfold u4
  rw[aB (aF (show(o:Int)<(O:Int) by omega))]
  dsimp only at hX⊢
  refine aPL h hi hm ho ha hr hq ?_
  rw[aC ((o:Int)+1)]
  have ef:(w4 O C K K fun o' c' r' q'=>(f o' c' r' q'+if o'<o/\r'=r/\q'=q then wtG O C P Q plane gd xd i m o' c' a else 0)+if o'=o/\r'=r/\q'=q then wtG O C P Q plane gd xd i m o c' a else 0)=w4 O C K K fun o' c' r' q'=>f o' c' r' q'+if o'<o+1/\r'=r/\q'=q then wtG O C P Q plane gd xd i m o' c' a else 0:=by
   refine eZ fun o' c' r' q' _ _ _ _ => ?_
   rw[vR]
   congr 1
   by_cases g:r'=r/\q'=q
   ·by_cases g4:o'=o
    ·subst g4
     rw[aA (by omega),aB ⟨rfl,g⟩,aB ⟨by omega,g⟩];omega
    ·rw[aA (c:=o'=o/\_) (by omega)]
     by_cases g5:o'<o
     ·rw[aB ⟨g5,g⟩,aB ⟨by omega,g⟩];omega
     ·rw[aA (by omega),aA (by omega)];omega
   ·rw[aA (fun hh=>g hh.2),aA (fun hh=>g hh.2),aA (fun hh=>g hh.2)];omega
  rw[ef]
  exact hX
 ·intro _ X
  unfold u4
  rw[aA (by simp)]
  have:(w4 O C K K fun o' c' r' q'=>f o' c' r' q'+if o'<O/\r'=r/\q'=q then wtG O C P Q plane gd xd i m o' c' a else 0)=w4 O C K K fun o' c' r' q'=>f o' c' r' q'+if r'=r/\q'=q then wtG O C P Q plane gd xd i m o' c' a else 0:=by
   refine eZ fun o' c' r' q' h2 _ _ _ => ?_
   congr 1
   by_cases g:r'=r/\q'=q
   ·rw[aB g,aB ⟨h2,g⟩]
   ·rw[aA g,aA (fun hh=>g hh.2)]
  dsimp only
  rw[this]
  exact hk
def wtM (n O C P Q plane:Nat)(gd xd:List Int)(i o c a:Nat):Int:=bC (fun m=>wtG O C P Q plane gd xd i m o c a) n
theorem aPW (h:WF n O C K P Q plane gd xd){f:Nat->Nat->Nat->Nat->Int}{i a r q:Nat}{K0:List Int->Prop}(hi:i<P*Q)(ha:a<plane)(hr:r<K)(hq:q<K)
 (hk:K0 (w4 O C K K fun o' c' r' q'=>f o' c' r' q'+if r'=r/\q'=q then wtM n O C P Q plane gd xd i o' c' a else 0)) :
 EZ K O C plane i n gd xd P Q a r q K0 (0,w4 O C K K f):=by
 refine⟨?_⟩
 have hn:n<=8192:=by
  have:=h.bg
  have:=h.hO;have:=h.hP;have:=h.hQ
  have:n<=n*O:=bK _ (by omega)
  have:n*O<=n*O*P:=bK _ (by omega)
  have:n*O*P<=n*O*P*Q:=bK _ (by omega)
  omega
 have eg:((0:Int),w4 O C K K f)=(fun j:Nat=>((j:Int),w4 O C K K fun o' c' r' q'=>f o' c' r' q'+if r'=r/\q'=q then bC (fun m=>wtG O C P Q plane gd xd i m o' c' a) j else 0)) 0:=by
  dsimp only
  congr 1
  refine eZ fun o' c' r' q' _ _ _ _ => ?_
  simp[bC]
 rw[eg]
 refine Loop.range (B:=uR K O C plane i n gd xd P Q a r q K0) (f:=fun j:Nat=>((j:Int),w4 O C K K fun o' c' r' q'=>f o' c' r' q'+if r'=r/\q'=q then bC (fun m=>wtG O C P Q plane gd xd i m o' c' a) j else 0)) n (fun _=>True) trivial ?_ ?_
 ·intro m hm _ X hX
  have hX:=hX trivial
  unfold uR
  rw[aB (aF (show(m:Int)<(n:Int) by omega))]
  dsimp only at hX⊢
  refine aPE h hi hm ha hr hq ?_
  rw[aC ((m:Int)+1)]
  have ef:(w4 O C K K fun o' c' r' q'=>(f o' c' r' q'+if r'=r/\q'=q then bC (fun m=>wtG O C P Q plane gd xd i m o' c' a) m else 0)+if r'=r/\q'=q then wtG O C P Q plane gd xd i m o' c' a else 0)=w4 O C K K fun o' c' r' q'=>f o' c' r' q'+if r'=r/\q'=q then bC (fun m=>wtG O C P Q plane gd xd i m o' c' a) (m+1)else 0:=by
   refine eZ fun o' c' r' q' _ _ _ _ => ?_
   rw[vR]
   congr 1
   by_cases g:r'=r/\q'=q
   ·rw[aB g,aB g,aB g];rfl
   ·rw[aA g,aA g,aA g];rfl
  rw[ef]
  exact hX
 ·intro _ X
  unfold uR
  rw[aA (by simp)]
  exact hk
def wtZ (n O C P Q plane:Nat)(gd xd:List Int)(i o c r q:Nat)(z:Int×Int×Int):Int:=if z.2.1=(r:Int)/\z.2.2=(q:Int)then wtM n O C P Q plane gd xd i o c z.1.toNat else 0
theorem aPR (h:WF n O C K P Q plane gd xd){f:Nat->Nat->Nat->Nat->Int}{i:Nat}{l:List (Int×Int×Int)}{K0:List Int->Prop}(hi:i<P*Q)(hl:InP K plane l)(hll:l.length<=1000000)
 (hk:K0 (w4 O C K K fun o' c' r' q'=>f o' c' r' q'+AY l (wtZ n O C P Q plane gd xd i o' c' r' q'))) :
 EP K n O C plane i (l.length:Int) gd xd P Q l K0 (0,w4 O C K K f):=by
 refine⟨?_⟩
 have eg:((0:Int),w4 O C K K f)=(fun j:Nat=>((j:Int),w4 O C K K fun o' c' r' q'=>f o' c' r' q'+bC (fun t=>wtZ n O C P Q plane gd xd i o' c' r' q' (l.getD t (0,0,0))) j)) 0:=by
  dsimp only
  congr 1
  refine eZ fun o' c' r' q' _ _ _ _ => ?_
  simp[bC]
 rw[eg]
 refine Loop.range (B:=uZ K n O C plane i (l.length:Int) gd xd P Q l K0) (f:=fun j:Nat=>((j:Int),w4 O C K K fun o' c' r' q'=>f o' c' r' q'+bC (fun t=>wtZ n O C P Q plane gd xd i o' c' r' q' (l.getD t (0,0,0))) j)) l.length (fun _=>True) trivial ?_ ?_
 ·intro t ht _ X hX
  have hX:=hX trivial
  unfold uZ
  rw[aB (aF (show(t:Int)<(l.length:Int) by omega))]
  dsimp only at hX⊢
  refine⟨by omega,?_⟩
  rw[bJ]
  obtain⟨a,r,q,ez,ha,hr,hq⟩:=hl (l.getD t (0,0,0)) (by rw[aW,aQ ht];exact fZ ht)
  simp only[bC,ez]at hX
  rw[ez]
  refine aPW h hi ha hr hq ?_
  rw[aC ((t:Int)+1)]
  have ef:(w4 O C K K fun o' c' r' q'=>(f o' c' r' q'+bC (fun t=>wtZ n O C P Q plane gd xd i o' c' r' q' (l.getD t (0,0,0))) t)+if r'=r/\q'=q then wtM n O C P Q plane gd xd i o' c' a else 0)=w4 O C K K fun o' c' r' q'=>f o' c' r' q'+(bC (fun t=>wtZ n O C P Q plane gd xd i o' c' r' q' (l.getD t (0,0,0))) t+wtZ n O C P Q plane gd xd i o' c' r' q' (↑a,↑r,↑q)):=by
   refine eZ fun o' c' r' q' _ _ _ _ => ?_
   rw[vR]
   congr 2
   unfold wtZ
   dsimp only
   rw[bJ]
   by_cases g:r'=r/\q'=q
   ·rw[aB g,aB (by omega)]
   ·rw[aA g,aA (by omega)]
  rw[ef]
  exact hX
 ·intro _ X
  unfold uZ
  rw[aA (by simp)]
  dsimp only
  have:(w4 O C K K fun o' c' r' q'=>f o' c' r' q'+bC (fun t=>wtZ n O C P Q plane gd xd i o' c' r' q' (l.getD t (0,0,0))) l.length)=w4 O C K K fun o' c' r' q'=>f o' c' r' q'+AY l (wtZ n O C P Q plane gd xd i o' c' r' q') :=
   eZ fun o' c' r' q' _ _ _ _=>by rw[EB l _ (0,0,0)]
  rw[this]
  exact hk
end
def aAx (n O C K P Q H V:Nat)(s p:Int)(gd xd:List Int)(o c r q:Nat):Int :=
 bC (fun i=>AY (fX H V ((i / Q:Nat):Int) ((i%Q:Nat):Int) K s p) (wtZ n O C P Q (H*V) gd xd i o c r q)) (P*Q)
theorem aPS {n O C K P Q H V:Nat}{gd xd:List Int}{s p:Int}(h:WF n O C K P Q (H*V) gd xd)(hK:K<=5){K0:List Int->Prop}
 (hk:K0 (w4 O C K K (aAx n O C K P Q H V s p gd xd))) :
 EJ K n O C ((H*V:Nat):Int) ((P*Q:Nat):Int) gd xd H V K s p P Q K0 (0,w4 O C K K fun _ _ _ _=>0):=by
 have hPQ:P*Q<=8192:=by
  have:=h.bg
  have:=h.hn;have:=h.hO
  have e:n*O*P*Q=n*O*(P*Q):=cK _ _ _
  have:P*Q<=n*O*(P*Q):=wB _ (zN (by omega) (by omega))
  omega
 have hQ:=h.hQ
 have hKK:K*K<=5*5:=dE hK hK
 refine⟨?_⟩
 refine Loop.range (B:=uS K n O C ((H*V:Nat):Int) ((P*Q:Nat):Int) gd xd H V K s p P Q K0) (f:=fun j:Nat=>((j:Int),w4 O C K K fun o c r q=>bC (fun i=>AY (fX H V ((i / Q:Nat):Int) ((i%Q:Nat):Int) K s p) (wtZ n O C P Q (H*V) gd xd i o c r q)) j)) (P*Q) (fun _=>True) trivial ?_ ?_
 ·intro i hi _ X hX
  have hX:=hX trivial
  unfold uS
  rw[aB (aF (show(i:Int)<((P*Q:Nat):Int) by omega))]
  dsimp only at hX⊢
  obtain⟨c1,c2,c3⟩:=PD hi
  have l1:i / Q<=i:=VP _ _
  have et:i64.wrap ((i:Int).tdiv (Q:Int))=((i / Q:Nat):Int):=by
   obtain⟨y,ey⟩:∃ y,i / Q=y:=⟨_,rfl⟩
   rw[OY (by omega),<- aBW,ey]
   rw[ey]at l1
   rw[aC _]
  have em:(i:Int).tmod (Q:Int)=((i%Q:Nat):Int):=by
   rw[U3 (by omega),<- WL]
  rw[et,em]
  refine⟨by omega,by omega,⟨?_⟩⟩
  refine PL ?_
  dsimp only
  have hwl:=GV (rows:=H) (cols:=V) (r:=((i / Q:Nat):Int)) (c:=((i%Q:Nat):Int)) (s:=s) (p:=p) (K:=K)
  refine aPR h hi LX (by omega) ?_
  rw[aC ((i:Int)+1)]
  exact hX
 ·intro _ X
  unfold uS
  rw[aA (by simp)]
  exact hk
def XN (g x:T3)(k s p:Int):Bool :=
 ((!(decide (0<bA (x.1.getD 2 0) k s p)&&decide (0<bA (x.1.getD 3 0) k s p))||(x.1.getD 0 0 != g.1.getD 0 0))||(g.1.getD 2 0 != bA (x.1.getD 2 0) k s p))||(g.1.getD 3 0 != bA (x.1.getD 3 0) k s p)
def SO (g x:T3)(k:Int):List Int:=[g.1.getD 1 0,x.1.getD 1 0,k,k]
def wtN (g:T3):Int:=g.1.getD 0 0*g.1.getD 2 0*g.1.getD 3 0
def wtE (g x:T3)(k s p:Int):Int :=
 if (lY [g,x] != 0)=true then lY [g,x]
 else if XN g x k s p=true then 2
 else(gQ (SO g x k) (g.2.1+x.2.1) (wtN g)).2
def aHH (g x:T3)(k s p:Int):List Int :=
 w4 (g.1.getD 1 0).toNat (x.1.getD 1 0).toNat k.toNat k.toNat
  (aAx (g.1.getD 0 0).toNat (g.1.getD 1 0).toNat (x.1.getD 1 0).toNat k.toNat (g.1.getD 2 0).toNat (g.1.getD 3 0).toNat (x.1.getD 2 0).toNat (x.1.getD 3 0).toNat s p g.2.2 x.2.2)
def uP (g x:T3)(k s p:Int):T3×Int:=if (wtE g x k s p != 0)=true then(Z3,wtE g x k s p)else((SO g x k,(g.2.1+x.2.1,aHH g x k s p)),0)
theorem ED {d:List Int}{e n:Int}(h:(gQ d e n).2≠0):(gQ d e n).1=Z3:=by
 unfold gQ at h⊢
 split
 ·rfl
 ·split
  ·rfl
  ·split
   ·rfl
   ·rename_i g1 g2 g3
    rw[aA g1,aA g2,aA g3]at h
    exact absurd rfl h
theorem aKJ {g x:T3}{k s p:Int}{Q:T3×Int->Prop}(ag:All8 g.2.2)(ax:All8 x.2.2)(hq:Q (uP g x k s p)):P1 g x k s p Q:=by
 refine⟨?_⟩
 unfold uP wtE at hq
 refine aDr (by simp) ?_
 show(if (lY [g,x] != 0)=true then _ else _)
 by_cases h2:(lY [g,x] != 0)=true
 ·rw[aB h2]
  simp only[h2,bO]at hq
  exact hq
 ·rw[aA h2]
  simp only[h2,eA,cB]at hq
  have hz:lY [g,x]=0:=by simpa using h2
  have hzz:=MP hz
  obtain⟨mg,lg⟩:=hzz g (by simp)
  obtain⟨mx,lx⟩:=hzz x (by simp)
  obtain⟨n,O,P,R,eg,g1,g2,g3,g4,g5,g6,g7,g8⟩:=S1 mg lg
  obtain⟨n',C,H,V,ex,x1,x2,x3,x4,x5,x6,x7,x8⟩:=S1 mx lx
  refine⟨by omega,by omega,by omega,by omega,by omega,aHO ?_⟩
  refine f7 (b := !(decide (0<bA (x.1.getD 2 0) k s p)&&decide (0<bA (x.1.getD 3 0) k s p))) (c:=x.1.getD 0 0 != g.1.getD 0 0) (fun _ P hp=>⟨by omega,hp⟩) (fun v3 e3 => ?_) rfl
  refine f7 (c:=g.1.getD 2 0 != bA (x.1.getD 2 0) k s p) (fun _ P hp=>⟨by omega,hp⟩) (fun v5 e5 => ?_) rfl
  refine f7 (c:=g.1.getD 3 0 != bA (x.1.getD 3 0) k s p) (fun _ P hp=>⟨by omega,hp⟩) (fun v7 e7 => ?_) rfl
  have hv:v7=XN g x k s p:=by rw[e7,e5,e3];rfl
  rw[<- hv]at hq
  cases v7 with
  | true=>exact hq
  | false =>
    rw[aA (by simp)]
    simp only[eA,cB]at hq
    have hv2:=hv.symm
    unfold XN at hv2
    simp only[eI,ND,xS,aK,aT]at hv2
    obtain⟨⟨⟨⟨o1,o2⟩,c1⟩,c2⟩,c3⟩:=hv2
    simp only[eg,ex,List.getD_cons_zero,List.getD_cons_succ]at o1 o2 c1 c2 c3
    have en:n'=n:=by omega
    subst en
    obtain⟨a1,a2,a3,a4,a5,a6⟩:=lO o1
    obtain⟨d1,_⟩:=lO o2
    obtain⟨K,rfl⟩:=gN (show 0<=k by omega)
    unfold wtN SO aHH at hq
    simp only[eg,ex,List.getD_cons_zero,List.getD_cons_succ,<- c2,<- c3]at hq⊢
    have k0:n'*O*P*R<=8192:=g5
    have k1:n'<=n'*O:=bK _ (by omega)
    have k2:n'*P*R<=8192:=by
     have e1:n'*P*R<=n'*O*P*R:=fP _ (fP _ k1)
     omega
    have k3:n'*P<=n'*P*R:=bK _ (by omega)
    have k4:H*V<=16*16:=dE (by omega) (by omega)
    have k5:P*R<=n'*(P*R):=wB _ (by omega)
    rw[<- cK]at k5
    rw[xC (r:=n') (n:=P) (by omega),xC (r:=n'*P) (n:=R) (by omega),aC (g.2.1+x.2.1)]
    rw[<- jR,<- jR]at hq
    refine Y2 ⟨?_⟩
    by_cases h9:(gQ [(O:Int),(C:Int),(K:Int),(K:Int)] (g.2.1+x.2.1) ((n'*P*R:Nat):Int)).2=0
    ·obtain⟨f1,f2,f3,f4⟩:=zS h9
     rw[f4]at hq⊢
     simp only[BC,eA,cB]at hq⊢
     obtain⟨q1,q2,q3,q4,e1,e2,e3,e4,_,_,_,_,s5,s6⟩:=aBp f3
     have r1:q1=O:=by omega
     have r2:q2=C:=by omega
     have r3:q3=K:=by omega
     have r4:q4=K:=by omega
     subst r1 r2 r3 r4
     rw[s6]
     have w:WF n' q1 q2 q4 P R (H*V) g.2.2 x.2.2:=⟨by omega,by rw[x6];exact cK _ _ _,k0,by rw[<- cK];exact x5,s5,ag,ax,by omega,by omega,by omega,by omega,by omega⟩
     rw[xC (r:=H) (n:=V) (by omega),xC (r:=P) (n:=R) (by omega),bJ,aJo]
     refine aPS w (by omega) ?_
     simp only[Int.toNat_natCast]at hq
     exact hq
    ·rw[aB (by simpa using h9)]
     rw[aB (by simpa using h9)]at hq
     rw[ED h9]
     exact hq
open Go.Mach Go.RowKit
set_option maxRecDepth 100000
set_option linter.unusedVariables false
set_option linter.unusedSimpArgs false
theorem aE4 {n i:Nat}{f:Nat->Int}{v:Int}(h:i<n):(tab n f).set i v=tab n fun j=>if j=i then v else f j:=by
 refine aAo (by simp) fun j hj => ?_
 rw[ZV (by simpa using h)]
 by_cases e:i=j
 ·rw[aB e,aB e.symm]
 ·rw[aA e,aA (fun hh=>e hh.symm),FL _ hj]
def sO (plane O:Nat)(gd:List Int)(o j:Nat):Int:=bC (fun i=>if i / plane%O=o then gd.getD i 0 else 0) j
theorem aP6 {plane O:Nat}{gd:List Int}{K0:List Int->Prop}(h8:All8 gd)(hl:gd.length<=8192)(hp:1<=plane)(hO:1<=O)(hO2:O<=8192)(hp2:plane<=8192)
 (hk:K0 (tab O fun o=>i32.wrap (sO plane O gd o gd.length))):MR O plane gd (gd.length:Int) K0 (0,List.replicate O 0):=by
 refine⟨?_⟩
 have eg:((0:Int),List.replicate O (0:Int))=(fun j:Nat=>((j:Int),tab O fun o=>i32.wrap (sO plane O gd o j))) 0:=by
  dsimp only
  congr 1
  refine aAo (by simp) fun i hi => ?_
  rw[QL hi]
  show 0=i32.wrap 0
  decide
 rw[eg]
 refine Loop.range (B:=zC O plane gd (gd.length:Int) K0) (f:=fun j:Nat=>((j:Int),tab O fun o=>i32.wrap (sO plane O gd o j))) gd.length (fun _=>True) trivial ?_ ?_
 ·intro i hi _ X hX
  have hX:=hX trivial
  unfold zC
  rw[aB (aF (show(i:Int)<(gd.length:Int) by omega))]
  dsimp only at hX⊢
  have l1:i / plane<=i:=VP _ _
  obtain⟨y,ey⟩:∃ y,i / plane=y:=⟨_,rfl⟩
  have et:i64.wrap ((i:Int).tdiv (plane:Int))=(y:Int):=by
   rw[OY (by omega),<- aBW,ey]
   rw[ey]at l1
   rw[aC _]
  have hm:=Nat.mod_lt y (show 0<O by omega)
  obtain⟨o,eo⟩:∃ o,y%O=o:=⟨_,rfl⟩
  have em:(y:Int).tmod (O:Int)=(o:Int):=by
   rw[U3 (by omega),<- WL,eo]
  rw[et,em,Y3]
  refine⟨by omega,by omega,by omega,by omega,by omega,?_⟩
  rw[bJ,bJ,FL _ (by omega),aE4 (by omega),aC ((i:Int)+1),JM,EE]
  have:(tab O fun j=>if j=o then i32.wrap (sO plane O gd o i+gd.getD i 0)else i32.wrap (sO plane O gd j i))=tab O fun o=>i32.wrap (sO plane O gd o (i+1)):=by
   refine QC fun j hj => ?_
   unfold sO
   simp only[bC]
   by_cases e:j=o
   ·subst e
    rw[aB rfl,aB (by rw[ey,eo])]
   ·rw[aA e,aA (by rw[ey,eo];exact fun hh=>e hh.symm),Int.add_zero]
  rw[this]
  exact hX
 ·intro _ X
  unfold zC
  rw[aA (by simp)]
  exact hk
def bsE (g:T3):Int:=if (lY [g] != 0)=true then lY [g]else(gQ [g.1.getD 1 0] g.2.1 (g.1.getD 0 0*(g.1.getD 2 0*g.1.getD 3 0))).2
def aAI (g:T3):List Int:=tab (g.1.getD 1 0).toNat fun o=>i32.wrap (sO (g.1.getD 2 0*g.1.getD 3 0).toNat (g.1.getD 1 0).toNat g.2.2 o g.2.2.length)
def PO (g:T3):T3×Int:=if (bsE g != 0)=true then(Z3,bsE g)else(([g.1.getD 1 0],(g.2.1,aAI g)),0)
theorem aNO {g:T3}{Q:T3×Int->Prop}(ag:All8 g.2.2)(hq:Q (PO g)):WK g Q:=by
 refine⟨?_⟩
 unfold PO bsE at hq
 refine aDr (by simp) ?_
 show(if (lY [g] != 0)=true then _ else _)
 by_cases h2:(lY [g] != 0)=true
 ·rw[aB h2]
  simp only[h2,bO]at hq
  exact hq
 ·rw[aA h2]
  simp only[h2,eA,cB]at hq
  have hz:lY [g]=0:=by simpa using h2
  obtain⟨mg,lg⟩:=MP hz g (by simp)
  obtain⟨n,O,P,R,eg,g1,g2,g3,g4,g5,g6,g7,g8⟩:=S1 mg lg
  refine⟨by omega,by omega,by omega,by omega,?_⟩
  unfold aAI at hq
  simp only[eg,List.getD_cons_zero,List.getD_cons_succ]at hq⊢
  have k1:P*R<=n*O*(P*R):=wB _ (zN (by omega) (by omega))
  rw[<- cK]at k1
  have k2:n<=n*O:=bK _ (by omega)
  have k3:n*P*R<=n*O*P*R:=fP _ (fP _ k2)
  have k4:O<=n*O:=wB _ (by omega)
  have k5:n*O<=n*O*P:=bK _ (by omega)
  have k6:n*O*P<=n*O*P*R:=bK _ (by omega)
  have k7:n*P*R=n*(P*R):=cK _ _ _
  rw[xC (r:=P) (n:=R) (by omega),xC (r:=n) (n:=P*R) (by omega)]
  rw[<- jR,<- jR]at hq
  refine Y2 ?_
  by_cases h9:(gQ [(O:Int)] g.2.1 ((n*(P*R):Nat):Int)).2=0
  ·obtain⟨f1,f2,f3,f4⟩:=zS h9
   rw[f4]at hq⊢
   simp only[BC,eA,cB]at hq⊢
   rw[(aKs f3).2.2,bJ]
   refine aP6 ag (by omega) (zN (by omega) (by omega)) (by omega) (by omega) (by omega) ?_
   simp only[Int.toNat_natCast]at hq
   exact hq
  ·rw[aB (by simpa using h9)]
   rw[aB (by simpa using h9)]at hq
   rw[ED h9]
   exact hq
def JC (s p r c k Q:Int)(y x:Nat):List (Int×Int×Int) :=
 if (inP (r-(s*y-p)) 0 (k-1)&&inP (c-(s*x-p)) 0 (k-1))=true then [((y:Int)*Q+x,r-(s*y-p),c-(s*x-p))]else []
def pU (s p r c k Q:Int)(y m:Nat):List (Int×Int×Int):=(List.range m).flatMap (JC s p r c k Q y)
def TY (s p r c k Q:Int)(P m:Nat):List (Int×Int×Int):=(List.range P).flatMap fun y=>pU s p r c k Q y m
theorem LU {s p r c k Q:Int}{y m:Nat}:pU s p r c k Q y (m+1)=pU s p r c k Q y m++JC s p r c k Q y m:=by
 unfold pU;rw[sV,R4];simp
theorem SX {s p r c k Q:Int}{P m:Nat}:TY s p r c k Q (P+1) m=TY s p r c k Q P m++pU s p r c k Q P m:=by
 unfold TY;rw[sV,R4];simp
theorem aDl {s p r c k Q:Int}{y x:Nat}:(JC s p r c k Q y x).length<=1:=by
 unfold JC;split <;> simp
theorem GB {s p r c k Q:Int}{y:Nat}:∀ m,(pU s p r c k Q y m).length<=m
 | 0=>by simp[pU]
 | m+1=>by
   rw[LU,mR]
   have:=GB (s:=s) (p:=p) (r:=r) (c:=c) (k:=k) (Q:=Q) (y:=y) m
   have:=aDl (s:=s) (p:=p) (r:=r) (c:=c) (k:=k) (Q:=Q) (y:=y) (x:=m)
   omega
theorem QD {s p r c k Q:Int}{m:Nat}:∀ P,(TY s p r c k Q P m).length<=P*m
 | 0=>by simp[TY]
 | P+1=>by
   rw[SX,mR,Nat.succ_mul]
   have:=QD (s:=s) (p:=p) (r:=r) (c:=c) (k:=k) (Q:=Q) (m:=m) P
   have:=GB (s:=s) (p:=p) (r:=r) (c:=c) (k:=k) (Q:=Q) (y:=P) m
   omega
theorem aFO {α:Type}{n k:Nat}{f:Nat->List α}(hk:k<n)(h:∀ i,i<n->i≠k->f i=[]):(List.range n).flatMap f=f k:=by
 induction n with
 | zero=>omega
 | succ n ih =>
   rw[sV,R4]
   simp only[OM,List.flatMap_nil,dV]
   by_cases e:k=n
   ·subst e
    have:(List.range k).flatMap f=[]:=by
     rw[List.flatMap_eq_nil_iff]
     intro i hi
     have:=List.mem_range.1 hi
     exact h i (by omega) (by omega)
    rw[this,List.nil_append]
   ·rw[ih (by omega) fun i hi=>h i (by omega),h n (by omega) (by omega),dV]
theorem V9 {α:Type}{n:Nat}{f:Nat->List α}(h:∀ i,i<n->f i=[]):(List.range n).flatMap f=[]:=by
 rw[List.flatMap_eq_nil_iff]
 exact fun i hi=>h i (List.mem_range.1 hi)
theorem aMo {a b r c V:Int}(h1:0<=b)(h2:b<V)(h3:0<=c)(h4:c<V)(e:a*V+b=r*V+c):a=r/\b=c:=by
 have h5:(a-r)*V=c-b:=by rw[Int.sub_mul];omega
 have h6:a-r=0:=by
  rcases Int.lt_trichotomy (a-r) 0 with h|h|h
  ·have:=PQ (show a-r <= -1 by omega) (show 0<=V by omega)
   omega
  ·exact h
  ·have:=PQ (show 1<=a-r by omega) (show 0<=V by omega)
   omega
 rw[h6]at h5
 omega
theorem aLL {rows cols cr cc r c:Int}{k:Nat}(hr:0<=r/\r<=rows-1)(hc:0<=c/\c<=cols-1)(u:Int->Int->List (Int×Int×Int)) :
 ((OB rows cols cr cc k k).flatMap fun w=>if w.1=r*cols+c then u w.2.1 w.2.2 else [])=if (inP (r-cr) 0 ((k:Int)-1)&&inP (c-cc) 0 ((k:Int)-1))=true then u (r-cr) (c-cc)else []:=by
 have key:∀ i j:Nat,((tO rows cols cr cc i j).flatMap fun w=>if w.1=r*cols+c then u w.2.1 w.2.2 else [])=if (i:Int)=r-cr/\(j:Int)=c-cc then u (r-cr) (c-cc)else []:=by
  intro i j
  unfold tO
  split
  ·rename_i hin
   simp only[aK]at hin
   have b1:0<=cr+i/\cr+i<=rows-1:=by simpa [inP] using hin.1
   have b2:0<=cc+j/\cc+j<=cols-1:=by simpa [inP] using hin.2
   simp only[OM,List.flatMap_nil,dV]
   by_cases e:(i:Int)=r-cr/\(j:Int)=c-cc
   ·rw[aB e,aB (by rw[show cr+i=r by omega,show cc+j=c by omega]),e.1,e.2]
   ·rw[aA e,aA]
    intro hh
    obtain⟨g1,g2⟩:=aMo b2.1 (by omega) hc.1 (by omega) hh
    exact e ⟨by omega,by omega⟩
  ·rename_i hin
   rw[List.flatMap_nil,aA]
   rintro⟨e1,e2⟩
   apply hin
   rw[C1 (by omega) (by omega),C1 (by omega) (by omega)];rfl
 unfold OB rH
 rw[List.flatMap_assoc]
 have:(fun i=>((List.range k).flatMap (tO rows cols cr cc i)).flatMap fun w=>if w.1=r*cols+c then u w.2.1 w.2.2 else [])=fun(i:Nat)=>(List.range k).flatMap fun(j:Nat)=>if (i:Int)=r-cr/\(j:Int)=c-cc then u (r-cr) (c-cc)else []:=by
  funext i
  rw[List.flatMap_assoc]
  congr 1
  funext j
  exact key i j
 rw[this]
 by_cases g:(inP (r-cr) 0 ((k:Int)-1)&&inP (c-cc) 0 ((k:Int)-1))=true
 ·rw[aB g]
  simp only[aK]at g
  have b1:0<=r-cr/\r-cr<=k-1:=by simpa [inP] using g.1
  have b2:0<=c-cc/\c-cc<=k-1:=by simpa [inP] using g.2
  obtain⟨a,ea⟩:=gN b1.1
  obtain⟨b,eb⟩:=gN b2.1
  rw[aFO (k:=a) (by omega) (fun i hi hia=>V9 fun j hj=>by rw[aA (by omega)]),aFO (k:=b) (by omega) (fun j hj hjb=>by rw[aA (by omega)]),aB (by omega)]
 ·rw[aA g]
  refine V9 fun i hi=>V9 fun j hj => ?_
  rw[aA]
  rintro⟨e1,e2⟩
  apply g
  rw[C1 (by omega) (by omega),C1 (by omega) (by omega)];rfl
theorem aKy {α β:Type}{m:List α}{f:α->List β}(h:∀ a,(f a).length<=1):(m.flatMap f).length<=m.length:=by
 induction m with
 | nil=>simp
 | cons a m ih =>
   rw[OM,mR,SK]
   have:=h a
   omega
theorem aMg {V r c Q:Int}{y x:Nat}{l acc:List (Int×Int×Int)}{K0:List (Int×Int×Int)->Prop}(hV:0<=V/\V<=1000)(hr:0<=r/\r<=1000)(hc:0<=c/\c<=1000)(hQ:0<=Q/\Q<=1000)(hy:y<=1000)(hx:x<=1000)(hl:l.length<=1000000)(ha:acc.length<=1000000)
 (hk:K0 (acc++l.flatMap fun w=>if w.1=r*V+c then [((y:Int)*Q+x,w.2.1,w.2.2)]else [])) :
 A3 V r c Q y x (l.length:Int) l K0 (0,acc):=by
 refine⟨?_⟩
 have m1:0<=r*V:=EX hr.1 hV.1
 have m2:r*V<=1000*1000:=zD hr.2 hV.2 hV.1 (by omega)
 have m3:0<=(y:Int)*Q:=EX (by omega) hQ.1
 have m4:(y:Int)*Q<=1000*1000:=zD (by omega) hQ.2 hQ.1 (by omega)
 have eg:((0:Int),acc)=(fun j:Nat=>((j:Int),acc++(l.take j).flatMap fun w=>if w.1=r*V+c then [((y:Int)*Q+x,w.2.1,w.2.2)]else [])) 0:=by simp
 rw[eg]
 refine Loop.range (B:=rM V r c Q y x (l.length:Int) l K0) (f:=fun j:Nat=>((j:Int),acc++(l.take j).flatMap fun w=>if w.1=r*V+c then [((y:Int)*Q+x,w.2.1,w.2.2)]else [])) l.length (fun _=>True) trivial ?_ ?_
 ·intro i hi _ X hX
  have hX:=hX trivial
  unfold rM
  rw[aB (aF (show(i:Int)<(l.length:Int) by omega))]
  dsimp only at hX⊢
  refine⟨by omega,?_⟩
  rw[bJ]
  have hg:l.getD i (0,0,0)=l[i]:=by rw[aW,aQ hi];rfl
  rw[hg,aC (r*V),aC (r*V+c),aC ((y:Int)*Q),aC ((y:Int)*Q+x)]
  rw[WT,aQ hi,R4,<- gZ]at hX
  simp only[Option.toList_some,OM,List.flatMap_nil,dV]at hX
  by_cases g:l[i].1=r*V+c
  ·rw[aB (by simpa using g)]
   rw[aB g]at hX
   refine⟨?_,⟨?_⟩⟩
   ·have hfl:((l.take i).flatMap fun w=>if w.1=r*V+c then [((y:Int)*Q+x,w.2.1,w.2.2)]else []).length<=1000000:=by
     have h1:=aKy (m:=l.take i) (f:=fun w=>if w.1=r*V+c then [((y:Int)*Q+x,w.2.1,w.2.2)]else []) fun w=>by split <;> simp
     rw[C2]at h1
     omega
    rw[mR]
    simp only[List.length_singleton]
    omega
   ·rw[aC ((i:Int)+1)]
    exact hX
  ·rw[aA (by simpa using g)]
   rw[aA g,dV]at hX
   refine⟨?_⟩
   rw[aC ((i:Int)+1)]
   exact hX
 ·intro _ X
  unfold rM
  rw[aA (by simp)]
  dsimp only
  rw[rJ]
  exact hk
theorem aMv {H V r c s p:Int}{k Q y:Nat}{acc:List (Int×Int×Int)}{K0:List (Int×Int×Int)->Prop}(hH:H<=16)(hV:V<=16)(hr:0<=r/\r<=H-1)(hc:0<=c/\c<=V-1)(hk5:k<=5)(hs:1<=s/\s<=4)(hp:0<=p/\p<=5)(hQ:Q<=25)(hy:y<=25)(ha:acc.length<=10000)
 (hk:K0 (acc++pU s p r c k Q y Q)):A0 V r c Q y Q H V k s p K0 (0,acc):=by
 refine⟨?_⟩
 have eg:((0:Int),acc)=(fun j:Nat=>((j:Int),acc++pU s p r c k Q y j)) 0:=by simp[pU]
 rw[eg]
 refine Loop.range (B:=qZ V r c Q y Q H V k s p K0) (f:=fun j:Nat=>((j:Int),acc++pU s p r c k Q y j)) Q (fun _=>True) trivial ?_ ?_
 ·intro x hx _ X hX
  have hX:=hX trivial
  unfold qZ
  rw[aB (aF (show(x:Int)<(Q:Int) by omega))]
  dsimp only at hX⊢
  refine aF9 (by omega) (by omega) (by omega) (by omega) (by omega) (by omega) (by omega) ?_
  have hl:=P6 (rows:=H) (cols:=V) (cr:=s*y-p) (cc:=s*x-p) (k:=k) k
  have hkk:k*k<=5*5:=dE hk5 hk5
  have hll:=GB (s:=s) (p:=p) (r:=r) (c:=c) (k:=k) (Q:=Q) (y:=y) x
  refine aMg (by omega) (by omega) (by omega) (by omega) (by omega) (by omega) (by omega) (by rw[mR];omega) ?_
  rw[aC ((x:Int)+1),aLL hr hc fun a b=>[((y:Int)*Q+x,a,b)],gZ]
  rw[LU]at hX
  exact hX
 ·intro _ X
  unfold qZ
  rw[aA (by simp)]
  exact hk
def WO (rows cols r c k s p:Int):Bool:=((decide (bA rows k s p<1)||decide (bA cols k s p<1)) || !inP r 0 (rows-1)) || !inP c 0 (cols-1)
def GO (rows cols r c k s p:Int):List (Int×Int×Int):=if WO rows cols r c k s p=true then []else TY s p r c k (bA cols k s p) (bA rows k s p).toNat (bA cols k s p).toNat
theorem aJE {rows cols r c k s p:Int}{Q:List (Int×Int×Int)->Prop}(hrc : -1000000<=rows/\rows<=1000000 /\ -1000000<=cols/\cols<=1000000)(h:Q (GO rows cols r c k s p)):IP rows cols r c k s p Q:=by
 refine⟨?_⟩
 refine⟨?_⟩
 refine RQ (RQ ?_)
 unfold GO WO at h
 dsimp only
 rw[aC (rows-1),aC (cols-1)]
 refine aG9 (b:=decide (bA rows k s p<1)||decide (bA cols k s p<1)) (c := !inP r 0 (rows-1)) (fun P hp=>Q9 hp) (fun v2 e2 => ?_) rfl
 refine aG9 (c := !inP c 0 (cols-1)) (fun P hp=>Q9 hp) (fun v5 e5 => ?_) rfl
 rw[<- e2,<- e5]at h
 cases hv:v5 with
 | true=>rw[hv,aB rfl]at h;rw[aB (by rfl)];exact h
 | false =>
   rw[hv,aA (by simp)]at h
   rw[aA (by simp)]
   rw[hv,e2]at e5
   have:=e5.symm
   simp only[eI,xS,fB]at this
   obtain⟨⟨⟨g1,g2⟩,g3⟩,g4⟩:=this
   obtain⟨b1,b2,b3,b4,b5,_⟩:=lO (n:=rows) (k:=k) (s:=s) (p:=p) (by omega)
   obtain⟨c1,_⟩:=lO (n:=cols) (k:=k) (s:=s) (p:=p) (by omega)
   have r1:0<=r/\r<=rows-1:=by simpa [inP] using g3
   have r2:0<=c/\c<=cols-1:=by simpa [inP] using g4
   obtain⟨P,eP,hP⟩:=pT (n:=rows) (k:=k) (s:=s) (p:=p)
   obtain⟨R,eR,hR⟩:=pT (n:=cols) (k:=k) (s:=s) (p:=p)
   obtain⟨K,rfl⟩:=gN (show 0<=k by omega)
   rw[eP,eR,bJ,bJ]at h
   rw[eP,eR]
   refine⟨?_⟩
   refine Loop.range (B:=q6 cols r c R P rows cols K s p _) (f:=fun y:Nat=>((y:Int),TY s p r c K R y R)) P (fun _=>True) trivial ?_ ?_
   ·intro y hy _ X hX
    have hX:=hX trivial
    unfold q6
    rw[aB (aF (show(y:Int)<(P:Int) by omega))]
    dsimp only at hX⊢
    have hl:=QD (s:=s) (p:=p) (r:=r) (c:=c) (k:=K) (Q:=R) (m:=R) y
    have hl2:y*R<=25*25:=dE (by omega) hR
    refine aMv (by omega) (by omega) r1 r2 (by omega) b3 (by omega) hR (by omega) (by omega) ?_
    rw[aC ((y:Int)+1)]
    rw[SX]at hX
    exact hX
   ·intro _ X
    unfold q6
    rw[aA (by simp)]
    exact h
open Go.Mach Go.RowKit
set_option maxRecDepth 100000
set_option linter.unusedVariables false
set_option linter.unusedSimpArgs false
theorem aFd {rows cols r c s p:Int}{K P Q:Nat}(eP:bA rows K s p=P)(eQ:bA cols K s p=Q):InP K (P*Q) (GO rows cols r c K s p):=by
 unfold GO
 split
 ·intro z hz;simp at hz
 ·rw[eP,eQ,bJ,bJ]
  intro z hz
  unfold TY pU at hz
  simp only[List.mem_flatMap,L7]at hz
  obtain⟨y,hy,x,hx,hz⟩:=hz
  unfold JC at hz
  split at hz
  ·rename_i g
   simp only[aK]at g
   have b1:0<=r-(s*y-p)/\r-(s*y-p)<=K-1:=by simpa [inP] using g.1
   have b2:0<=c-(s*x-p)/\c-(s*x-p)<=K-1:=by simpa [inP] using g.2
   obtain⟨a,ea⟩:=gN b1.1
   obtain⟨b,eb⟩:=gN b2.1
   refine⟨y*Q+x,a,b,?_,fM hy hx,by omega,by omega⟩
   rw[ea,eb,<- jR,<- Int.natCast_add]at hz
   simpa using hz
  ·simp at hz
theorem aCa {rows cols r c k s p:Int}:(GO rows cols r c k s p).length<=625:=by
 unfold GO
 split
 ·simp
 ·obtain⟨P,eP,hP⟩:=pT (n:=rows) (k:=k) (s:=s) (p:=p)
  obtain⟨Q,eQ,hQ⟩:=pT (n:=cols) (k:=k) (s:=s) (p:=p)
  rw[eP,eQ,bJ,bJ]
  have h1:=QD (s:=s) (p:=p) (r:=r) (c:=c) (k:=k) (Q:=Q) (m:=Q) P
  have h2:P*Q<=25*25:=dE hP hQ
  omega
def inG (gd wd:List Int)(O C plane K m c o:Nat)(z:Int×Int×Int):Int:=gd.getD ((m*O+o)*plane+z.1.toNat) 0*wd.getD (((o*C+c)*K+z.2.1.toNat)*K+z.2.2.toNat) 0
theorem aPV {C K plane m o c n O:Nat}{gd wd:List Int}{l:List (Int×Int×Int)}{t:Int}{K0:Int->Prop}(hx:gd.length=n*O*plane)(hw:wd.length=O*C*K*K)(bx:n*O*plane<=8192)(bw:O*C*K*K<=8192)(ax:All8 gd)(aw:All8 wd)(hm:m<n)(ho:o<O)(hc:c<C)(hl:InP K plane l)(hll:l.length<=1000000)
 (h:K0 (i64.wrap (t+AY l (inG gd wd O C plane K m c o)))):IM O C K plane m c o (l.length:Int) gd wd l K0 (i64.wrap t,0):=by
 refine⟨?_⟩
 have eg:(i64.wrap t,(0:Int))=(fun i:Nat=>(i64.wrap (t+bC (fun i=>inG gd wd O C plane K m c o (l.getD i (0,0,0))) i),(i:Int))) 0:=by simp[bC]
 rw[eg]
 refine Loop.range (B:=xM O C K plane m c o (l.length:Int) gd wd l K0) (f:=fun i:Nat=>(i64.wrap (t+bC (fun i=>inG gd wd O C plane K m c o (l.getD i (0,0,0))) i),(i:Int))) l.length (fun _=>True) trivial ?_ ?_
 ·intro i hi _ X hX
  have hX:=hX trivial
  unfold xM
  rw[aB (aF (show(i:Int)<(l.length:Int) by omega))]
  dsimp only at hX⊢
  refine⟨by omega,?_⟩
  rw[bJ]
  obtain⟨a,r,q,ez,ha,hr,hq⟩:=hl (l.getD i (0,0,0)) (by rw[aW,aQ hi];exact fZ hi)
  have g1:(m*O+o)*plane+a<n*O*plane:=fM (fM hm ho) ha
  have g2:((o*C+c)*K+r)*K+q<O*C*K*K:=fM (fM (fM ho hc) hr) hq
  have g3:m*O+o<=(m*O+o)*plane:=bK _ (by omega)
  have g5:(o*C+c)*K+r<=((o*C+c)*K+r)*K:=bK _ (by omega)
  have g7:o*C+c<=(o*C+c)*K:=bK _ (by omega)
  have ef:inG gd wd O C plane K m c o (l.getD i (0,0,0))=gd.getD ((m*O+o)*plane+a) 0*wd.getD (((o*C+c)*K+r)*K+q) 0:=by
   unfold inG;rw[ez];simp only[Int.toNat_natCast]
  simp only[bC,ef]at hX
  rw[ez]
  dsimp only
  rw[ix (r:=m) (n:=O) (i:=o) (by omega),ix (r:=m*O+o) (n:=plane) (i:=a) (by omega),ix (r:=o) (n:=C) (i:=c) (by omega),ix (r:=o*C+c) (n:=K) (i:=r) (by omega),ix (r:=(o*C+c)*K+r) (n:=K) (i:=q) (by omega)]
  refine⟨by omega,by omega,?_⟩
  simp only[Int.toNat_natCast]
  have b1:=ax.at_ ((m*O+o)*plane+a)
  have b2:=aw.at_ (((o*C+c)*K+r)*K+q)
  have b3:=YV b1 b2
  rw[aC (gd.getD ((m*O+o)*plane+a) 0),aC (wd.getD (((o*C+c)*K+r)*K+q) 0) (by omega) (by omega),aC (_*_),aC ((i:Int)+1),U8,vR]
  exact hX
 ·intro _ X
  unfold xM
  rw[aA (by simp)]
  rw[EB l _ (0,0,0)]at h
  exact h
theorem aPB {C K plane m c n O:Nat}{gd wd:List Int}{l:List (Int×Int×Int)}{t:Int}{K0:Int->Prop}(hx:gd.length=n*O*plane)(hw:wd.length=O*C*K*K)(bx:n*O*plane<=8192)(bw:O*C*K*K<=8192)(ax:All8 gd)(aw:All8 wd)(hm:m<n)(hc:c<C)(hl:InP K plane l)(hll:l.length<=1000000)(hO:O<=10000)
 (h:K0 (i64.wrap (t+bC (fun o=>AY l (inG gd wd O C plane K m c o)) O))):HA O C K plane m c O gd wd l K0 (i64.wrap t,0):=by
 refine⟨?_⟩
 have eg:(i64.wrap t,(0:Int))=(fun i:Nat=>(i64.wrap (t+bC (fun o=>AY l (inG gd wd O C plane K m c o)) i),(i:Int))) 0:=by simp[bC]
 rw[eg]
 refine Loop.range (B:=xF O C K plane m c O gd wd l K0) (f:=fun i:Nat=>(i64.wrap (t+bC (fun o=>AY l (inG gd wd O C plane K m c o)) i),(i:Int))) O (fun _=>True) trivial ?_ ?_
 ·intro o ho _ X hX
  have hX:=hX trivial
  unfold xF
  rw[aB (aF (show(o:Int)<(O:Int) by omega))]
  dsimp only at hX⊢
  refine aPV hx hw bx bw ax aw hm ho hc hl hll ?_
  rw[aC ((o:Int)+1),vR]
  exact hX
 ·intro _ X
  unfold xF
  rw[aA (by simp)]
  exact h
section
variable {n C O K H V P Q:Nat} {s p:Int} {gd wd:List Int}
def EI (H V C O K P Q:Nat)(s p:Int)(gd wd:List Int)(m c y x:Nat):Int:=i32.wrap (bC (fun o=>AY (GO H V y x K s p) (inG gd wd O C (P*Q) K m c o)) O)
structure aJC (n C O K H V P Q:Nat)(s p:Int)(gd wd:List Int):Prop where
 hg:gd.length=n*O*(P*Q)
 hw:wd.length=O*C*K*K
 bg:n*O*(P*Q)<=8192
 bw:O*C*K*K<=8192
 ag:All8 gd
 aw:All8 wd
 eP:bA H K s p=P
 eQ:bA V K s p=Q
 hH:1<=H/\H<=16
 hV:1<=V/\V<=16
 bo:n*C*H*V<=8192
 hC:C<=8192
 hO:O<=8192
 hn:n<=8192
theorem aPZ (g:aJC n C O K H V P Q s p gd wd){C0:Nat->Nat->Nat->Nat->Prop}{L:List Int}{m y x:Nat}{K0:List Int->Prop}(hm:m<n)(hy:y<H)(hx:x<V)(hL:Fill n C H V (EI H V C O K P Q s p gd wd) C0 L)
 (h:∀ L',Fill n C H V (EI H V C O K P Q s p gd wd) (fun m' c' y' x'=>C0 m' c' y' x'\/(m'=m/\y'=y/\x'=x)) L'->K0 L') :
 G4 H V O C K ((P*Q:Nat):Int) ((y*V+x:Nat):Int) m C gd wd (GO H V y x K s p) K0 (0,L):=by
 refine⟨?_⟩
 have hbo:=g.bo;have hC:=g.hC
 refine Loop.rangeI (B:=xH H V O C K ((P*Q:Nat):Int) ((y*V+x:Nat):Int) m C gd wd (GO H V y x K s p) K0) C (fun i st=>st.1=(i:Int)/\Fill n C H V (EI H V C O K P Q s p gd wd) (fun m' c' y' x'=>C0 m' c' y' x'\/(m'=m/\y'=y/\x'=x/\c'<i)) st.2) ⟨rfl,hL.mono fun m' c' y' x' _ _ _ _ hc=>hc.elim id fun h=>absurd h.2.2.2 (by omega)⟩ ?_ ?_
 ·rintro c hc ⟨c',M⟩ ⟨e1,hM⟩ X hX
  simp only at e1 hM
  subst e1
  unfold xH
  rw[aB (aF (show(c:Int)<(C:Int) by omega))]
  dsimp only
  have e0:((0:Int),(0:Int))=(i64.wrap 0,(0:Int)):=by decide
  rw[e0]
  have hll:=aCa (rows:=H) (cols:=V) (r:=y) (c:=x) (k:=K) (s:=s) (p:=p)
  refine aPB g.hg g.hw g.bg g.bw g.ag g.aw hm hc (aFd g.eP g.eQ) (by omega) (by have:=g.hO;omega) ?_
  have g1:=EK (P:=H) (Q:=V) hm hc hy hx
  have ei:ix4 C H V m c y x=(m*C+c)*H*V+(y*V+x):=by unfold ix4;rw[eV,yX]
  rw[ei]at g1
  have g2:m*C+c<=(m*C+c)*H:=bK _ (by omega)
  have g3:(m*C+c)*H<=(m*C+c)*H*V:=bK _ (by omega)
  rw[ix (r:=m) (n:=C) (i:=c) (by omega),xC (r:=m*C+c) (n:=H) (by omega),ix (r:=(m*C+c)*H) (n:=V) (i:=y*V+x) (by omega)]
  refine⟨by rw[hM.len];omega,?_⟩
  rw[bJ,aC ((c:Int)+1),aET,<- ei,Int.zero_add]
  refine hX _ ⟨by simp,?_⟩
  refine hM.set hm hc hy hx rfl fun m' c' y' x' _ _ _ _ hc => ?_
  rcases hc with hc|⟨c1,c2,c3,c4⟩
  ·exact .inl (.inl hc)
  ·rcases nJ c' c with c5|c5
   ·exact .inl (.inr ⟨c1,c2,c3,c5⟩)
   ·exact .inr ⟨c1,by omega,c2,c3⟩
 ·rintro⟨c',M⟩ ⟨e1,hM⟩ X
  simp only at e1 hM
  subst e1
  unfold xH
  rw[aA (by simp)]
  exact h _ (hM.mono fun m' c' y' x' _ h2 _ _ hc=>hc.elim .inl fun⟨a,b,c⟩ => .inr ⟨a,b,c,h2⟩)
theorem aPO (g:aJC n C O K H V P Q s p gd wd){C0:Nat->Nat->Nat->Nat->Prop}{L:List Int}{y x:Nat}{K0:List Int->Prop}(hy:y<H)(hx:x<V)(hL:Fill n C H V (EI H V C O K P Q s p gd wd) C0 L)
 (h:∀ L',Fill n C H V (EI H V C O K P Q s p gd wd) (fun m' c' y' x'=>C0 m' c' y' x'\/(y'=y/\x'=x)) L'->K0 L') :
 HE H V O C K ((P*Q:Nat):Int) ((y*V+x:Nat):Int) n gd wd (GO H V y x K s p) K0 (0,L):=by
 refine⟨?_⟩
 have hn:=g.hn
 refine Loop.rangeI (B:=xE H V O C K ((P*Q:Nat):Int) ((y*V+x:Nat):Int) n gd wd (GO H V y x K s p) K0) n (fun i st=>st.1=(i:Int)/\Fill n C H V (EI H V C O K P Q s p gd wd) (fun m' c' y' x'=>C0 m' c' y' x'\/(y'=y/\x'=x/\m'<i)) st.2) ⟨rfl,hL.mono fun m' c' y' x' _ _ _ _ hc=>hc.elim id fun h=>absurd h.2.2 (by omega)⟩ ?_ ?_
 ·rintro m hm ⟨m',M⟩ ⟨e1,hM⟩ X hX
  simp only at e1 hM
  subst e1
  unfold xE
  rw[aB (aF (show(m:Int)<(n:Int) by omega))]
  dsimp only
  refine aPZ g hm hy hx hM fun L' hL' => ?_
  rw[aC ((m:Int)+1)]
  refine hX _ ⟨by simp,hL'.mono fun m' c' y' x' _ _ _ _ hc => ?_⟩
  rcases hc with hc|⟨c1,c2,c3⟩
  ·exact .inl (.inl hc)
  ·rcases nJ m' m with c5|c5
   ·exact .inl (.inr ⟨c1,c2,c5⟩)
   ·exact .inr ⟨by omega,c1,c2⟩
 ·rintro⟨m',M⟩ ⟨e1,hM⟩ X
  simp only at e1 hM
  subst e1
  unfold xE
  rw[aA (by simp)]
  exact h _ (hM.mono fun m' c' y' x' h2 _ _ _ hc=>hc.elim .inl fun⟨a,b⟩ => .inr ⟨a,b,h2⟩)
theorem aP4 (g:aJC n C O K H V P Q s p gd wd){L:List Int}{K0:List Int->Prop}(hL:L.length=n*C*H*V)
 (h:K0 (VZ n C H V (EI H V C O K P Q s p gd wd))) :
 G5 H V n O C K ((P*Q:Nat):Int) ((H*V:Nat):Int) gd wd H V K s p P Q K0 (0,L):=by
 refine⟨?_⟩
 have hH:=g.hH;have hV:=g.hV
 have hHV:H*V<=16*16:=dE hH.2 hV.2
 refine Loop.rangeI (B:=xD H V n O C K ((P*Q:Nat):Int) ((H*V:Nat):Int) gd wd H V K s p P Q K0) (H*V) (fun i st=>st.1=(i:Int)/\Fill n C H V (EI H V C O K P Q s p gd wd) (fun m' c' y' x'=>y'*V+x'<i) st.2) ⟨rfl,hL,fun m' c' y' x' _ _ _ _ hc=>absurd hc (by omega)⟩ ?_ ?_
 ·rintro i hi ⟨i',M⟩ ⟨e1,hM⟩ X hX
  simp only at e1 hM
  subst e1
  unfold xD
  rw[aB (aF (show(i:Int)<((H*V:Nat):Int) by omega))]
  obtain⟨c1,c2,c3⟩:=PD hi
  obtain⟨y,ey⟩:∃ y,i / V=y:=⟨_,rfl⟩
  obtain⟨x,ex⟩:∃ x,i%V=x:=⟨_,rfl⟩
  rw[ey,ex]at c3
  rw[ey]at c1
  rw[ex]at c2
  dsimp only
  have et:i64.wrap ((i:Int).tdiv (V:Int))=(y:Int):=by
   rw[OY (by omega),<- aBW,ey,aC _]
  have em:(i:Int).tmod (V:Int)=(x:Int):=by
   rw[U3 (by omega),<- WL,ex]
  rw[et,em,aC ((i:Int)+1)]
  refine⟨by omega,by omega,⟨?_⟩⟩
  refine aJE (by show -1000000<=(H:Int)/\(H:Int)<=1000000 /\ -1000000<=(V:Int)/\(V:Int)<=1000000;omega) ?_
  dsimp only
  have ei:(i:Int)=((y*V+x:Nat):Int):=by omega
  have key:=aPO g c1 c2 hM (K0:=fun L'=>X ((i:Int)+1,L')) fun L' hL'=>hX _ ⟨by simp,hL'.mono fun m' c' y' x' _ _ hy' hx' hc => ?_⟩
  ·rw[<- ei]at key
   exact key
  ·rcases nJ (y'*V+x') i with c5|c5
   ·exact .inl c5
   ·refine .inr ?_
    have:y'*V+x'=y*V+x:=by omega
    exact aDe hx' c2 this
 ·rintro⟨i',M⟩ ⟨e1,hM⟩ X
  simp only at e1 hM
  subst e1
  unfold xD
  rw[aA (by simp)]
  rw[hM.all fun _ _ y' x' _ _ hy hx=>fM hy hx]
  exact h
end
def XK (g w:T3)(h v s p:Int):Bool :=
 (((!(decide (0<bA h (w.1.getD 2 0) s p)&&decide (0<bA v (w.1.getD 2 0) s p))||(w.1.getD 0 0 != g.1.getD 1 0))||(w.1.getD 3 0 != w.1.getD 2 0))||(g.1.getD 2 0 != bA h (w.1.getD 2 0) s p))||(g.1.getD 3 0 != bA v (w.1.getD 2 0) s p)
def ZG (g w:T3)(h v:Int):List Int:=[g.1.getD 0 0,w.1.getD 1 0,h,v]
def inN (g w:T3):Int:=g.1.getD 1 0*w.1.getD 2 0*w.1.getD 2 0
def inE (g w:T3)(h v s p:Int):Int :=
 if (lY [g,w] != 0)=true then lY [g,w]
 else if XK g w h v s p=true then 2
 else(gQ (ZG g w h v) (g.2.1+w.2.1) (inN g w)).2
def aHJ (g w:T3)(h v s p:Int):List Int :=
 VZ (g.1.getD 0 0).toNat (w.1.getD 1 0).toNat h.toNat v.toNat
  (EI h.toNat v.toNat (w.1.getD 1 0).toNat (g.1.getD 1 0).toNat (w.1.getD 2 0).toNat (g.1.getD 2 0).toNat (g.1.getD 3 0).toNat s p g.2.2 w.2.2)
def IB (g w:T3)(h v s p:Int):T3×Int:=if (inE g w h v s p != 0)=true then(Z3,inE g w h v s p)else((ZG g w h v,(g.2.1+w.2.1,aHJ g w h v s p)),0)
theorem aLe {g w:T3}{h v s p:Int}{Q:T3×Int->Prop}(ag:All8 g.2.2)(aw:All8 w.2.2)(hq:Q (IB g w h v s p)):R3 g w h v s p Q:=by
 refine⟨?_⟩
 unfold IB inE at hq
 refine aDr (by simp) ?_
 show(if (lY [g,w] != 0)=true then _ else _)
 by_cases h2:(lY [g,w] != 0)=true
 ·rw[aB h2]
  simp only[h2,bO]at hq
  exact hq
 ·rw[aA h2]
  simp only[h2,eA,cB]at hq
  have hz:lY [g,w]=0:=by simpa using h2
  have hzz:=MP hz
  obtain⟨mg,lg⟩:=hzz g (by simp)
  obtain⟨mw,lw⟩:=hzz w (by simp)
  obtain⟨n,O,P,R,eg,g1,g2,g3,g4,g5,g6,g7,g8⟩:=S1 mg lg
  obtain⟨O',C,K,K',ew,w1,w2,w3,w4,w5,w6,w7,w8⟩:=S1 mw lw
  refine⟨by omega,by omega,by omega,by omega,aHO ?_⟩
  refine f7 (b := !(decide (0<bA h (w.1.getD 2 0) s p)&&decide (0<bA v (w.1.getD 2 0) s p))) (c:=w.1.getD 0 0 != g.1.getD 1 0) (fun _ P hp=>⟨by omega,hp⟩) (fun v3 e3 => ?_) rfl
  refine f7 (c:=w.1.getD 3 0 != w.1.getD 2 0) (fun _ P hp=>⟨by omega,hp⟩) (fun v5 e5 => ?_) rfl
  refine f7 (c:=g.1.getD 2 0 != bA h (w.1.getD 2 0) s p) (fun _ P hp=>⟨by omega,hp⟩) (fun v7 e7 => ?_) rfl
  refine f7 (c:=g.1.getD 3 0 != bA v (w.1.getD 2 0) s p) (fun _ P hp=>⟨by omega,hp⟩) (fun v9 e9 => ?_) rfl
  have hv:v9=XK g w h v s p:=by rw[e9,e7,e5,e3];rfl
  rw[<- hv]at hq
  cases v9 with
  | true=>exact hq
  | false =>
    rw[aA (by simp)]
    simp only[eA,cB]at hq
    have hv2:=hv.symm
    unfold XK at hv2
    simp only[eI,ND,xS,aK,aT]at hv2
    obtain⟨⟨⟨⟨⟨o1,o2⟩,c1⟩,c2⟩,c3⟩,c4⟩:=hv2
    simp only[eg,ew,List.getD_cons_zero,List.getD_cons_succ]at o1 o2 c1 c2 c3 c4
    have eo:O'=O:=by omega
    have ek:K'=K:=by omega
    subst eo ek
    obtain⟨a1,a2,a3,a4,a5,a6⟩:=lO o1
    obtain⟨d1,_⟩:=lO o2
    obtain⟨H,rfl⟩:=gN (show 0<=h by omega)
    obtain⟨V,rfl⟩:=gN (show 0<=v by omega)
    unfold inN ZG aHJ at hq
    simp only[eg,ew,List.getD_cons_zero,List.getD_cons_succ,<- c3,<- c4]at hq⊢
    have k1:O'<=O'*C:=bK _ (by omega)
    have k2:O'*C<=O'*C*K':=bK _ (by omega)
    have k3:O'*C*K'<=O'*C*K'*K':=bK _ (by omega)
    have k4:O'*K'<=8192*5:=dE (by omega) (by omega)
    have k5:O'*K'*K'<=8192*5*5:=dE k4 (by omega)
    have k6:C<=O'*C:=wB _ (by omega)
    have k7:n<=n*O':=bK _ (by omega)
    have k8:n*O'<=n*O'*P:=bK _ (by omega)
    have k9:n*O'*P<=n*O'*P*R:=bK _ (by omega)
    have ka:H*V<=16*16:=dE (by omega) (by omega)
    have kb:P*R<=n*O'*(P*R):=wB _ (zN (by omega) (by omega))
    rw[<- cK]at kb
    rw[xC (r:=O') (n:=K') (by omega),xC (r:=O'*K') (n:=K') (by omega),aC (g.2.1+w.2.1)]
    rw[<- jR,<- jR]at hq
    refine Y2 ⟨?_⟩
    by_cases h9:(gQ [(n:Int),(C:Int),(H:Int),(V:Int)] (g.2.1+w.2.1) ((O'*K'*K':Nat):Int)).2=0
    ·obtain⟨f1,f2,f3,f4⟩:=zS h9
     rw[f4]at hq⊢
     simp only[BC,eA,cB]at hq⊢
     obtain⟨q1,q2,q3,q4,e1,e2,e3,e4,_,_,_,_,s5,s6⟩:=aBp f3
     have r1:q1=n:=by omega
     have r2:q2=C:=by omega
     have r3:q3=H:=by omega
     have r4:q4=V:=by omega
     subst r1 r2 r3 r4
     rw[s6]
     have gg:aJC q1 q2 O' K' q3 q4 P R s p g.2.2 w.2.2:=⟨by rw[g6];exact cK _ _ _,w6,by rw[<- cK];exact g5,w5,ag,aw,c3.symm,c4.symm,by omega,by omega,s5,by omega,by omega,by omega⟩
     rw[xC (r:=P) (n:=R) (by omega),xC (r:=q3) (n:=q4) (by omega),bJ]
     refine aP4 gg (by simp) ?_
     simp only[Int.toNat_natCast]at hq
     exact hq
    ·rw[aB (by simpa using h9)]
     rw[aB (by simpa using h9)]at hq
     rw[ED h9]
     exact hq
end Go.Proofs.YtcfpfefadlnmcaaGreat
namespace Go.Proofs.YtcfpfefadlnmcaaGreat
open IntKind (i8 i16 i32 i64 u8 u16 u32 u64)
end Go.Proofs.YtcfpfefadlnmcaaGreat
namespace Go.Proofs.YtcfpfefadlnmcaaGreat
open IntKind (i8 i16 i32 i64 u8 u16 u32 u64)
end Go.Proofs.YtcfpfefadlnmcaaGreat

namespace Go.Proofs.YtcfpfefadlnmcaaGreat
open IntKind (i8 i16 i32 i64 u8 u16 u32 u64)
open Go.Mach Go.RowKit
set_option maxRecDepth 100000
set_option linter.unusedVariables false
set_option linter.unusedSimpArgs false
theorem O7 {l:List T3}(h:∀ t∈l,bB t=true/\(t.1.length:Int)=4):lY l=0:=by
 unfold lY
 rw[aB (List.all_eq_true.2 fun t ht=>(h t ht).1),aB (List.all_eq_true.2 fun t ht=>by simpa using(h t ht).2)]
theorem aD0 {a b:T3}:[a,b].all bB=(bB a&&bB b):=by simp[List.all_cons]
theorem ZE {x w:T3}(h:([x,w].all bB)=false):lY [x,w]=1:=by
 unfold lY;rw[h];rfl
theorem aAV {x w:T3}(h:([x,w].all bB)=true)(hl : ¬ ((x.1.length:Int)=4/\(w.1.length:Int)=4)):lY [x,w]=2:=by
 unfold lY
 rw[aB h,aA]
 intro g
 apply hl
 simp only[List.all_cons,List.all_nil,R0,aK,dR]at g
 exact g
theorem aMC {r c k s p:Int}{Q y m:Nat}{acc:List (Int×Int×Int)}{K0:List (Int×Int×Int)->Prop}(hr:0<=r/\r<=100)(hc:0<=c/\c<=100)(hs:0<=s/\s<=4)(hp:0<=p/\p<=5)(hy:y<=25)(hQ:Q<=25)(hm:m<=25)(hk:0<=k/\k<=5)(ha:acc.length<=100000)
 (h:K0 (acc++pU s p r c k Q y m)):pC r c k s p Q y m K0 (0,acc):=by
 refine⟨?_⟩
 have m1:0<=s*(y:Int):=EX hs.1 (by omega)
 have m2:s*(y:Int)<=4*25:=zD hs.2 (by omega) (by omega) (by omega)
 have eg:((0:Int),acc)=(fun j:Nat=>((j:Int),acc++pU s p r c k Q y j)) 0:=by simp[pU]
 rw[eg]
 refine Loop.range (B:=jU r c k s p Q y m K0) (f:=fun j:Nat=>((j:Int),acc++pU s p r c k Q y j)) m (fun _=>True) trivial ?_ ?_
 ·intro x hx _ X hX
  have hX:=hX trivial
  unfold jU
  rw[aB (aF (show(x:Int)<(m:Int) by omega))]
  dsimp only at hX⊢
  have m3:0<=s*(x:Int):=EX hs.1 (by omega)
  have m4:s*(x:Int)<=4*25:=zD hs.2 (by omega) (by omega) (by omega)
  have e1:i64.wrap (r-i64.wrap (i64.wrap ((y:Int)*s)-p))=r-(s*y-p):=by
   rw[Int.mul_comm (y:Int) s,aC (s*(y:Int)),aC (s*(y:Int)-p),aC _]
  have e2:i64.wrap (c-i64.wrap (i64.wrap ((x:Int)*s)-p))=c-(s*x-p):=by
   rw[Int.mul_comm (x:Int) s,aC (s*(x:Int)),aC (s*(x:Int)-p),aC _]
  have hyQ:y*Q<=25*25:=dE hy hQ
  have e3:i64.wrap (i64.wrap ((y:Int)*(Q:Int))+(x:Int))=(y:Int)*Q+x:=by
   rw[ix (r:=y) (n:=Q) (i:=x) (by omega)];rw[Int.natCast_add,jR]
  rw[e1,e2,e3]
  have hlen:=GB (s:=s) (p:=p) (r:=r) (c:=c) (k:=k) (Q:=Q) (y:=y) x
  rw[LU,<- gZ]at hX
  unfold JC at hX
  by_cases hin:(inP (r-(s*y-p)) 0 (k-1)&&inP (c-(s*x-p)) 0 (k-1))=true
  ·rw[aB hin]at hX
   simp only[aK]at hin
   have b1:0<=r-(s*y-p)/\r-(s*y-p)<=k-1:=by simpa [inP] using hin.1
   have b2:0<=c-(s*x-p)/\c-(s*x-p)<=k-1:=by simpa [inP] using hin.2
   rw[aB (by simp only[aK,aT];omega)]
   refine⟨by simp only[mR,List.length_singleton];omega,⟨?_⟩⟩
   rw[aC ((x:Int)+1)]
   exact hX
  ·rw[aA hin,dV]at hX
   rw[aA (by
    intro hh
    apply hin
    simp only[aK,aT]at hh
    rw[C1 (by omega) (by omega),C1 (by omega) (by omega)];rfl)]
   refine⟨?_⟩
   rw[aC ((x:Int)+1)]
   exact hX
 ·intro _ X
  unfold jU
  rw[aA (by simp)]
  exact h
theorem aLO {rows cols r c k s p:Int}{Q:List (Int×Int×Int)->Prop}(h:Q (GO rows cols r c k s p)):sY rows cols r c k s p Q:=by
 refine⟨?_⟩
 refine QH (QH ?_)
 obtain⟨m1,m2,m3⟩:=oC rows k s p
 obtain⟨n1,n2,n3⟩:=oC cols k s p
 have hv:((((((bA rows k s p==0)||(bA cols k s p==0))||(decide (r<0)))||(decide (rows<=r)))||(decide (c<0)))||(decide (cols<=c)))=WO rows cols r c k s p:=by
  rw[Bool.eq_iff_iff]
  unfold WO inP
  simp only[cJ,aT,oR,JD,fB,dR]
  omega
 rw[hv]
 unfold GO at h
 by_cases hn:WO rows cols r c k s p=true
 ·rw[aB hn]at h⊢;exact h
 ·rw[aA hn]at h⊢
  unfold WO inP at hn
  simp only[cJ,aT,oR,JD,fB]at hn
  obtain⟨b1,b2,b3,b4,b5,_⟩:=lO (n:=rows) (k:=k) (s:=s) (p:=p) (by omega)
  obtain⟨c1,_⟩:=lO (n:=cols) (k:=k) (s:=s) (p:=p) (by omega)
  obtain⟨P,eP,hP⟩:=pT (n:=rows) (k:=k) (s:=s) (p:=p)
  obtain⟨R,eR,hR⟩:=pT (n:=cols) (k:=k) (s:=s) (p:=p)
  rw[eP,eR,bJ,bJ]at h
  rw[eP,eR]
  refine⟨?_⟩
  refine Loop.range (B:=jV r c k s p R P _) (f:=fun y:Nat=>((y:Int),TY s p r c k R y R)) P (fun _=>True) trivial ?_ ?_
  ·intro y hy _ X hX
   have hX:=hX trivial
   unfold jV
   rw[aB (aF (show(y:Int)<(P:Int) by omega))]
   dsimp only at hX⊢
   have hl:=QD (s:=s) (p:=p) (r:=r) (c:=c) (k:=k) (Q:=R) (m:=R) y
   have hl2:y*R<=25*25:=dE (by omega) hR
   refine aMC (by omega) (by omega) (by omega) (by omega) (by omega) hR hR (by omega) (by omega) ?_
   rw[aC ((y:Int)+1)]
   rw[SX]at hX
   exact hX
  ·intro _ X
   unfold jV
   rw[aA (by simp)]
   exact h
theorem ix5 {m C j H V a:Nat}(h:(m*C+j)*(H*V)+a<=100000000)(hp:1<=H)(hv:1<=V):i64.wrap (i64.wrap (i64.wrap (i64.wrap (i64.wrap ((m:Int)*C)+(j:Int))*H)*V)+(a:Int))=(((m*C+j)*(H*V)+a:Nat):Int):=by
 have e:(m*C+j)*(H*V)=(m*C+j)*H*V:=by rw[cK]
 have g1:m*C+j<=(m*C+j)*H:=bK _ hp
 have g2:(m*C+j)*H<=(m*C+j)*H*V:=bK _ hv
 rw[ix (r:=m) (n:=C) (i:=j) (by omega),xC (r:=m*C+j) (n:=H) (by omega),ix (r:=(m*C+j)*H) (n:=V) (i:=a) (by omega),e]
theorem aOm {C P Q K m c n O:Nat}{p0 q0:Int}{gd wd:List Int}{a r q:Nat}{t:Int}{K0:Int->Prop}(hx:gd.length=n*O*(P*Q))(hw:wd.length=O*C*K*K)(bx:n*O*(P*Q)<=8192)(bw:O*C*K*K<=8192)(ax:All8 gd)(aw:All8 wd)(hm:m<n)(hc:c<C)(ha:a<P*Q)(hr:r<K)(hq:q<K)(hO:O<=8192)(hP:1<=P)(hQ:1<=Q)
 (h:K0 (i64.wrap (t+bC (fun o=>inG gd wd O C (P*Q) K m c o ((a:Int),(r:Int),(q:Int))) O))):nM O C K P Q O gd wd [(m:Int),c,p0,q0] a r q K0 (i64.wrap t,0):=by
 refine⟨?_⟩
 have eg:(i64.wrap t,(0:Int))=(fun i:Nat=>(i64.wrap (t+bC (fun o=>inG gd wd O C (P*Q) K m c o ((a:Int),(r:Int),(q:Int))) i),(i:Int))) 0:=by simp[bC]
 rw[eg]
 refine Loop.range (B:=gP O C K P Q O gd wd [(m:Int),c,p0,q0] a r q K0) (f:=fun i:Nat=>(i64.wrap (t+bC (fun o=>inG gd wd O C (P*Q) K m c o ((a:Int),(r:Int),(q:Int))) i),(i:Int))) O (fun _=>True) trivial ?_ ?_
 ·intro o ho _ X hX
  have hX:=hX trivial
  unfold gP
  rw[aB (aF (show(o:Int)<(O:Int) by omega))]
  dsimp only at hX⊢
  simp only[List.getD_cons_zero,List.getD_cons_succ]
  have g1:(m*O+o)*(P*Q)+a<n*O*(P*Q):=fM (fM hm ho) ha
  have g2:((o*C+c)*K+r)*K+q<O*C*K*K:=fM (fM (fM ho hc) hr) hq
  have g5:(o*C+c)*K+r<=((o*C+c)*K+r)*K:=bK _ (by omega)
  have g7:o*C+c<=(o*C+c)*K:=bK _ (by omega)
  have ef:inG gd wd O C (P*Q) K m c o ((a:Int),(r:Int),(q:Int))=gd.getD ((m*O+o)*(P*Q)+a) 0*wd.getD (((o*C+c)*K+r)*K+q) 0:=by
   unfold inG;simp only[Int.toNat_natCast]
  simp only[bC,ef]at hX
  rw[ix5 (by omega) hP hQ,ix (r:=o) (n:=C) (i:=c) (by omega),ix (r:=o*C+c) (n:=K) (i:=r) (by omega),ix (r:=(o*C+c)*K+r) (n:=K) (i:=q) (by omega)]
  refine⟨by simp,by omega,by simp,by omega,?_⟩
  simp only[Int.toNat_natCast]
  have b1:=ax.at_ ((m*O+o)*(P*Q)+a)
  have b2:=aw.at_ (((o*C+c)*K+r)*K+q)
  have b3:=YV b1 b2
  rw[aC (gd.getD ((m*O+o)*(P*Q)+a) 0),aC (wd.getD (((o*C+c)*K+r)*K+q) 0) (by omega) (by omega),aC (_*_),aC ((o:Int)+1),U8,vR]
  exact hX
 ·intro _ X
  unfold gP
  rw[aA (by simp)]
  exact h
theorem aOv {C P Q K m c n O:Nat}{p0 q0:Int}{gd wd:List Int}{l:List (Int×Int×Int)}{t:Int}{K0:Int->Prop}(hx:gd.length=n*O*(P*Q))(hw:wd.length=O*C*K*K)(bx:n*O*(P*Q)<=8192)(bw:O*C*K*K<=8192)(ax:All8 gd)(aw:All8 wd)(hm:m<n)(hc:c<C)(hl:InP K (P*Q) l)(hll:l.length<=1000000)(hO:O<=8192)(hP:1<=P)(hQ:1<=Q)
 (h:K0 (i64.wrap (t+bC (fun o=>AY l (inG gd wd O C (P*Q) K m c o)) O))):nI O C K P Q (l.length:Int) gd wd [(m:Int),c,p0,q0] l K0 (i64.wrap t,0):=by
 refine⟨?_⟩
 rw[<- aGn l (fun z o=>inG gd wd O C (P*Q) K m c o z),EB l _ (0,0,0)]at h
 have eg:(i64.wrap t,(0:Int))=(fun i:Nat=>(i64.wrap (t+bC (fun i=>bC (fun o=>inG gd wd O C (P*Q) K m c o (l.getD i (0,0,0))) O) i),(i:Int))) 0:=by simp[bC]
 rw[eg]
 refine Loop.range (B:=gR O C K P Q (l.length:Int) gd wd [(m:Int),c,p0,q0] l K0) (f:=fun i:Nat=>(i64.wrap (t+bC (fun i=>bC (fun o=>inG gd wd O C (P*Q) K m c o (l.getD i (0,0,0))) O) i),(i:Int))) l.length (fun _=>True) trivial ?_ ?_
 ·intro i hi _ X hX
  have hX:=hX trivial
  unfold gR
  rw[aB (aF (show(i:Int)<(l.length:Int) by omega))]
  dsimp only at hX⊢
  refine⟨by omega,?_⟩
  rw[bJ]
  obtain⟨a,r,q,ez,ha,hr,hq⟩:=hl (l.getD i (0,0,0)) (by rw[aW,aQ hi];exact fZ hi)
  simp only[bC]at hX
  rw[ez]at hX
  rw[ez]
  refine aOm hx hw bx bw ax aw hm hc ha hr hq hO hP hQ ?_
  rw[aC ((i:Int)+1),vR]
  exact hX
 ·intro _ X
  unfold gR
  rw[aA (by simp)]
  exact h
theorem aNG {n C O K H V P Q:Nat}{s p:Int}{gd wd:List Int}(g:aJC n C O K H V P Q s p gd wd)(hs:0<szF [(n:Int),C,H,V])(hP:1<=P)(hQ:1<=Q){L:List Int}{K0:List Int->Prop}(hL:L.length=n*C*H*V)
 (h:K0 (VZ n C H V (EI H V C O K P Q s p gd wd))) :
 nG H V s p O C K P Q ((n*C*H*V:Nat):Int) gd wd [(n:Int),C,H,V] K0 (0,L):=by
 have hbo:=g.bo
 refine⟨?_⟩
 refine Loop.rangeI (B:=gU H V s p O C K P Q ((n*C*H*V:Nat):Int) gd wd [(n:Int),C,H,V] K0) (n*C*H*V) (fun i st=>st.1=(i:Int)/\Fill n C H V (EI H V C O K P Q s p gd wd) (fun m o y x=>ix4 C H V m o y x<i) st.2) ⟨rfl,hL,fun _ _ _ _ _ _ _ _ hc=>absurd hc (by omega)⟩ ?_ ?_
 ·rintro i hi ⟨i',M⟩ ⟨e1,hM⟩ X hX
  simp only at e1 hM
  subst e1
  obtain⟨m,c,y,x,hm,hc,hy,hx,ei⟩:=VB hi
  unfold gU
  rw[aB (aF (show(i:Int)<((n*C*H*V:Nat):Int) by omega))]
  dsimp only
  rw[aC ((i:Int)+1)]
  have key:∀ Q':List Int->Prop,Q' [(m:Int),c,y,x]->iK [(n:Int),C,H,V] (i:Int) Q':=by
   intro Q' hQ'
   rw[ei]
   exact aCv hs hm hc hy hx hQ'
  refine key _ ?_
  simp only[List.getD_cons_zero,List.getD_cons_succ]
  refine⟨by simp,by simp,aLO ?_⟩
  have hll:=aCa (rows:=H) (cols:=V) (r:=y) (c:=x) (k:=K) (s:=s) (p:=p)
  have e0:((0:Int),(0:Int))=(i64.wrap 0,(0:Int)):=by decide
  rw[e0]
  refine aOv g.hg g.hw g.bg g.bw g.ag g.aw hm hc (aFd g.eP g.eQ) (by omega) g.hO hP hQ ?_
  refine⟨by rw[hM.len];omega,?_⟩
  rw[bJ,aET,Int.zero_add]
  refine hX _ ⟨by simp,?_⟩
  have hset:=hM.set (C':=fun m' o' y' x'=>ix4 C H V m' o' y' x'<i+1) hm hc hy hx (v:=i32.wrap (bC (fun o=>AY (GO H V y x K s p) (inG gd wd O C (P*Q) K m c o)) O)) rfl fun m' o' y' x' hm' ho' hy' hx' hcc => ?_
  ·rw[<- ei]at hset
   exact hset
  ·rcases nJ (ix4 C H V m' o' y' x') i with c5|c5
   ·exact .inl c5
   ·refine .inr ?_
    have:ix4 C H V m' o' y' x'=ix4 C H V m c y x:=by omega
    exact aDn ho' hy' hx' hc hy hx this
 ·rintro⟨i',M⟩ ⟨e1,hM⟩ X
  simp only at e1 hM
  subst e1
  unfold gU
  rw[aA (by simp)]
  rw[hM.all fun _ _ _ _ h1 h2 h3 h4=>EK h1 h2 h3 h4]
  exact h
theorem aEt {g w:T3}{h v s p:Int}(hm:([g,w].all bB)=false):IB g w h v s p=(Z3,1):=by
 have hE:inE g w h v s p=1:=by
  unfold inE
  rw[ZE hm];rfl
 unfold IB
 rw[hE];rfl
theorem W3 {g w:T3}{h v s p:Int}(hm:([g,w].all bB)=true)(hl : ¬ ((g.1.length:Int)=4/\(w.1.length:Int)=4)\/XK g w h v s p=true):IB g w h v s p=(Z3,2):=by
 have hm':=hm
 rw[aD0]at hm'
 simp only[aK]at hm'
 have hE:inE g w h v s p=2:=by
  unfold inE
  by_cases h2:(g.1.length:Int)=4/\(w.1.length:Int)=4
  ·rw[O7 (fun t ht=>by
    rcases List.mem_cons.1 ht with e|e
    ·subst e;exact⟨hm'.1,h2.1⟩
    ·rcases List.mem_singleton.1 e with rfl
     exact⟨hm'.2,h2.2⟩)]
   rcases hl with hl|hl
   ·exact absurd h2 hl
   ·rw[hl];rfl
  ·rw[aAV hm h2];rfl
 unfold IB
 rw[hE];rfl
theorem aNW {g w:T3}{h v s p:Int}{Q:T3×Int->Prop}(ag:All8 g.2.2)(aw:All8 w.2.2)(hq:Q (IB g w h v s p)):pH g w h v s p Q:=by
 refine⟨?_⟩
 refine CP (by simp) ?_
 show(if (!([g,w].all bB))=true then _ else _)
 cases hm:[g,w].all bB with
 | false=>rw[aEt hm]at hq;exact hq
 | true =>
   rw[aA (by simp)]
   refine f7 (b:=((g.1.length:Int) != 4)||((w.1.length:Int) != 4)) (c:=g.1.getD 1 0 != w.1.getD 0 0) (fun hb P hp => ?_) (fun v2 e2 => ?_) rfl
   ·simp only[eI,ND]at hb
    exact⟨by omega,by omega,hp⟩
   ·refine f7 (c:=w.1.getD 2 0 != w.1.getD 3 0) (fun hb P hp => ?_) (fun v4 e4 => ?_) rfl
    ·rw[e2]at hb
     simp only[eI,ND]at hb
     exact⟨by omega,by omega,hp⟩
    ·cases v4 with
     | true =>
       rw[aB rfl]
       rw[W3 hm]at hq
       ·exact hq
       ·by_cases g1:(g.1.length:Int)=4/\(w.1.length:Int)=4
        ·right
         rw[e2]at e4
         have e4:=e4.symm
         simp only[cJ,pA,ne_eq]at e4
         unfold XK
         simp only[cJ,pA,ne_eq]
         have:g.1.getD 1 0=w.1.getD 0 0 ↔ w.1.getD 0 0=g.1.getD 1 0:=eq_comm
         have:w.1.getD 2 0=w.1.getD 3 0 ↔ w.1.getD 3 0=w.1.getD 2 0:=eq_comm
         grind
        ·left;exact g1
     | false =>
       rw[aA (by simp)]
       rw[e2]at e4
       have e4:=e4.symm
       simp only[eI,ND]at e4
       obtain⟨⟨⟨l1,l2⟩,c1⟩,c2⟩:=e4
       have hm2:=hm
       rw[aD0]at hm2
       simp only[aK]at hm2
       refine⟨by omega,by omega,by omega,by omega,I4 ?_⟩
       have r1:=oC h (w.1.getD 2 0) s p
       have r2:=oC v (w.1.getD 2 0) s p
       refine f7 (b:=(bA h (w.1.getD 2 0) s p==0)||(bA v (w.1.getD 2 0) s p==0)) (c:=bA h (w.1.getD 2 0) s p != g.1.getD 2 0) (fun hb P hp=>⟨by omega,hp⟩) (fun v7 e7 => ?_) rfl
       refine f7 (c:=bA v (w.1.getD 2 0) s p != g.1.getD 3 0) (fun hb P hp=>⟨by omega,hp⟩) (fun v9 e9 => ?_) rfl
       have hbad:XK g w h v s p=v9:=by
        rw[e9,e7,Bool.eq_iff_iff]
        unfold XK
        simp only[cJ,oR,JD,fB,pA,ne_eq,dR]
        have:g.1.getD 2 0=bA h (w.1.getD 2 0) s p ↔ bA h (w.1.getD 2 0) s p=g.1.getD 2 0:=eq_comm
        have:g.1.getD 3 0=bA v (w.1.getD 2 0) s p ↔ bA v (w.1.getD 2 0) s p=g.1.getD 3 0:=eq_comm
        grind
       cases v9 with
       | true =>
         rw[aB rfl]
         rw[W3 hm (.inr hbad)]at hq
         exact hq
       | false =>
         rw[aA (by simp)]
         have hb2:=hbad
         unfold XK at hb2
         simp only[eI,ND,xS,aK,aT]at hb2
         obtain⟨⟨⟨⟨⟨o1,o2⟩,d1⟩,d2⟩,d3⟩,d4⟩:=hb2
         obtain⟨n,O,P,R,eg,g1,g2,g3,g4,g5,g6,g7,g8⟩:=S1 hm2.1 l1
         obtain⟨O',C,K,K',ew,w1,w2,w3,w4,w5,w6,w7,w8⟩:=S1 hm2.2 l2
         simp only[eg,ew,List.getD_cons_zero,List.getD_cons_succ]at o1 o2 d1 d2 d3 d4⊢
         have eo:O'=O:=by omega
         have ek:K'=K:=by omega
         subst eo ek
         obtain⟨a1,a2,a3,a4,a5,a6⟩:=lO o1
         obtain⟨f1,_⟩:=lO o2
         obtain⟨H,rfl⟩:=gN (show 0<=h by omega)
         obtain⟨V,rfl⟩:=gN (show 0<=v by omega)
         have k1:O'<=O'*C:=bK _ (by omega)
         have k2:O'*C<=O'*C*K':=bK _ (by omega)
         have k3:O'*C*K'<=O'*C*K'*K':=bK _ (by omega)
         have k4:O'*K'<=8192*5:=dE (by omega) (by omega)
         have k5:O'*K'*K'<=8192*5*5:=dE k4 (by omega)
         have k6:C<=O'*C:=wB _ (by omega)
         have k7:n<=n*O':=bK _ (by omega)
         have k8:n*O'<=n*O'*P:=bK _ (by omega)
         have k9:n*O'*P<=n*O'*P*R:=bK _ (by omega)
         refine⟨?_⟩
         rw[xC (r:=O') (n:=K') (by omega),xC (r:=O'*K') (n:=K') (by omega),aC (g.2.1+w.2.1)]
         refine QB ?_
         have hE:inE g w H V s p=(gQ [(n:Int),(C:Int),(H:Int),(V:Int)] (g.2.1+w.2.1) ((O'*K'*K':Nat):Int)).2:=by
          unfold inE
          rw[hbad,O7 (fun t ht=>by
           rcases List.mem_cons.1 ht with e|e
           ·subst e;exact⟨hm2.1,l1⟩
           ·rcases List.mem_singleton.1 e with rfl
            exact⟨hm2.2,l2⟩)]
          simp only[eA,cB,BC]
          unfold ZG inN
          simp only[eg,ew,List.getD_cons_zero,List.getD_cons_succ,Int.natCast_mul]
         unfold IB at hq
         rw[hE]at hq
         by_cases h9:(gQ [(n:Int),(C:Int),(H:Int),(V:Int)] (g.2.1+w.2.1) ((O'*K'*K':Nat):Int)).2=0
         ·obtain⟨f1',f2,f3,f4⟩:=zS h9
          rw[f4]at hq⊢
          simp only[BC,eA,cB]at hq⊢
          obtain⟨q1,q2,q3,q4,e1,e2,e3,e4,_,_,_,_,s5,s6⟩:=aBp f3
          have t1:q1=n:=by omega
          have t2:q2=C:=by omega
          have t3:q3=H:=by omega
          have t4:q4=V:=by omega
          subst t1 t2 t3 t4
          have gg:aJC q1 q2 O' K' q3 q4 P R s p g.2.2 w.2.2:=⟨by rw[g6];exact cK _ _ _,w6,by rw[<- cK];exact g5,w5,ag,aw,d3.symm,d4.symm,by omega,by omega,s5,by omega,by omega,by omega⟩
          rw[vU]
          rw[s6,bJ,<- d3,<- d4]
          refine aNG gg f3 (by omega) (by omega) (by simp) ?_
          unfold ZG aHJ at hq
          simp only[eg,ew,List.getD_cons_zero,List.getD_cons_succ,Int.toNat_natCast]at hq
          exact hq
         ·rw[aB (by simpa using h9)]
          rw[aB (by simpa using h9)]at hq
          rw[ED h9]
          exact hq
theorem aOZ {plane O:Nat}{gd d:List Int}{K0:List Int->Prop}(h8:All8 gd)(hl:gd.length<=8192)(hp:1<=plane)(hO:1<=O)(hO2:O<=8192)(hp2:plane<=8192)(hd:1<d.length)(hd1:d.getD 1 0=(O:Int))
 (hk:K0 (tab O fun o=>i32.wrap (sO plane O gd o gd.length))):nW plane gd (gd.length:Int) d K0 (0,List.replicate O 0):=by
 refine⟨?_⟩
 have eg:((0:Int),List.replicate O (0:Int))=(fun j:Nat=>((j:Int),tab O fun o=>i32.wrap (sO plane O gd o j))) 0:=by
  dsimp only
  congr 1
  refine aAo (by simp) fun i hi => ?_
  rw[QL hi]
  show 0=i32.wrap 0
  decide
 rw[eg]
 refine Loop.range (B:=iA plane gd (gd.length:Int) d K0) (f:=fun j:Nat=>((j:Int),tab O fun o=>i32.wrap (sO plane O gd o j))) gd.length (fun _=>True) trivial ?_ ?_
 ·intro i hi _ X hX
  have hX:=hX trivial
  unfold iA
  rw[aB (aF (show(i:Int)<(gd.length:Int) by omega))]
  dsimp only at hX⊢
  have l1:i / plane<=i:=VP _ _
  obtain⟨y,ey⟩:∃ y,i / plane=y:=⟨_,rfl⟩
  have et:i64.wrap ((i:Int).tdiv (plane:Int))=(y:Int):=by
   rw[OY (by omega),<- aBW,ey]
   rw[ey]at l1
   rw[aC _]
  have hm:=Nat.mod_lt y (show 0<O by omega)
  obtain⟨o,eo⟩:∃ o,y%O=o:=⟨_,rfl⟩
  have em:(y:Int).tmod (O:Int)=(o:Int):=by
   rw[U3 (by omega),<- WL,eo]
  rw[hd1,et,em,Y3]
  refine⟨by omega,by omega,by omega,by omega,by omega,by omega,?_⟩
  rw[bJ,bJ,FL _ (by omega),aE4 (by omega),aC ((i:Int)+1),JM,EE]
  have:(tab O fun j=>if j=o then i32.wrap (sO plane O gd o i+gd.getD i 0)else i32.wrap (sO plane O gd j i))=tab O fun o=>i32.wrap (sO plane O gd o (i+1)):=by
   refine QC fun j hj => ?_
   unfold sO
   simp only[bC]
   by_cases e:j=o
   ·subst e
    rw[aB rfl,aB (by rw[ey,eo])]
   ·rw[aA e,aA (by rw[ey,eo];exact fun hh=>e hh.symm),Int.add_zero]
  rw[this]
  exact hX
 ·intro _ X
  unfold iA
  rw[aA (by simp)]
  exact hk
theorem aNc {g:T3}{Q:T3×Int->Prop}(ag:All8 g.2.2)(hq:Q (PO g)):qA g Q:=by
 refine⟨?_⟩
 refine CP (by simp) ?_
 show(if (!([g].all bB))=true then _ else _)
 have e1:[g].all bB=bB g:=by simp
 rw[e1]
 cases hm:bB g with
 | false =>
   have hE:bsE g=1:=by
    unfold bsE lY
    rw[e1,hm];rfl
   unfold PO at hq
   rw[hE]at hq
   exact hq
 | true =>
   rw[aA (by simp)]
   by_cases l1:(g.1.length:Int)=4
   ·rw[aA (by simp[l1])]
    obtain⟨n,O,P,R,eg,g1,g2,g3,g4,g5,g6,g7,g8⟩:=S1 hm l1
    refine⟨by omega,by omega,by omega,by omega,?_⟩
    have hc:lY [g]=0:=O7 fun t ht=>by
     rcases List.mem_singleton.1 ht with rfl
     exact⟨hm,l1⟩
    unfold PO bsE aAI at hq
    rw[hc]at hq
    simp only[eg,List.getD_cons_zero,List.getD_cons_succ,BC,eA,cB]at hq⊢
    have k1:P*R<=n*O*(P*R):=wB _ (zN (by omega) (by omega))
    rw[<- cK]at k1
    have k2:n<=n*O:=bK _ (by omega)
    have k3:n*P*R<=n*O*P*R:=fP _ (fP _ k2)
    have k4:O<=n*O:=wB _ (by omega)
    have k5:n*O<=n*O*P:=bK _ (by omega)
    have k6:n*O*P<=n*O*P*R:=bK _ (by omega)
    have k7:n*P*R=n*(P*R):=cK _ _ _
    rw[xC (r:=P) (n:=R) (by omega),xC (r:=n) (n:=P*R) (by omega)]
    rw[<- jR,<- jR]at hq
    refine QB ?_
    by_cases h9:(gQ [(O:Int)] g.2.1 ((n*(P*R):Nat):Int)).2=0
    ·obtain⟨f1,f2,f3,f4⟩:=zS h9
     rw[f4]at hq⊢
     simp only[BC,eA,cB]at hq⊢
     rw[(aKs f3).2.2,bJ]
     refine aOZ ag (by omega) (zN (by omega) (by omega)) (by omega) (by omega) (by omega) (by simp) (by simp) ?_
     simp only[Int.toNat_natCast]at hq
     exact hq
    ·rw[aB (by simpa using h9)]
     rw[aB (by simpa using h9)]at hq
     rw[ED h9]
     exact hq
   ·rw[aB (by simpa using l1)]
    have hE:bsE g=2:=by
     have hc:lY [g]=2:=by
      unfold lY
      rw[e1,hm,aB rfl,aA (by simpa using l1)]
     unfold bsE
     rw[hc];rfl
    unfold PO at hq
    rw[hE]at hq
    exact hq
section
variable {n O C K P Q H V:Nat} {gd xd:List Int}
theorem aOg (h:WF n O C K P Q (H*V) gd xd)(hH:1<=H)(hV:1<=V){f:Nat->Nat->Nat->Nat->Int}{y z o j a r q:Nat}{K0:List Int->Prop}(hy:y<P)(hz:z<Q)(ho:o<O)(hj:j<C)(ha:a<H*V)(hr:r<K)(hq:q<K)(hn:n<=8192)
 (hk:K0 (w4 O C K K fun o' c' r' q'=>f o' c' r' q'+if o'=o/\c'=j/\r'=r/\q'=q then wtM n O C P Q (H*V) gd xd (y*Q+z) o j a else 0)) :
 mL K O C H V P Q y z o j n gd xd a r q K0 (0,w4 O C K K f):=by
 refine⟨?_⟩
 have eg:((0:Int),w4 O C K K f)=(fun t:Nat=>((t:Int),w4 O C K K fun o' c' r' q'=>f o' c' r' q'+if o'=o/\c'=j/\r'=r/\q'=q then bC (fun m=>wtG O C P Q (H*V) gd xd (y*Q+z) m o j a) t else 0)) 0:=by
  dsimp only
  congr 1
  refine eZ fun o' c' r' q' _ _ _ _ => ?_
  simp[bC]
 rw[eg]
 refine Loop.range (B:=gB K O C H V P Q y z o j n gd xd a r q K0) (f:=fun t:Nat=>((t:Int),w4 O C K K fun o' c' r' q'=>f o' c' r' q'+if o'=o/\c'=j/\r'=r/\q'=q then bC (fun m=>wtG O C P Q (H*V) gd xd (y*Q+z) m o j a) t else 0)) n (fun _=>True) trivial ?_ ?_
 ·intro m hm _ X hX
  have hX:=hX trivial
  have k1:=h.bg;have k2:=h.bx;have k3:=h.bw
  have i1:=EK (P:=K) (Q:=K) ho hj hr hq
  have i2:(m*C+j)*(H*V)+a<n*C*(H*V):=fM (fM hm hj) ha
  have i3:=EK (n:=n) (P:=P) (Q:=Q) hm ho hy hz
  have j1:o*C+j<=(o*C+j)*K:=bK _ (by omega)
  have j2:(o*C+j)*K+r<=((o*C+j)*K+r)*K:=bK _ (by omega)
  have j4:m*O+o<=(m*O+o)*P:=bK _ h.hP
  have j5:(m*O+o)*P+y<=((m*O+o)*P+y)*Q:=bK _ h.hQ
  have ei:ix4 O P Q m o y z=(m*O+o)*P*Q+(y*Q+z):=by unfold ix4;rw[eV,yX]
  rw[ei]at i3
  have ei':((m*O+o)*P+y)*Q+z=(m*O+o)*P*Q+(y*Q+z):=ei
  unfold ix4 at i1
  unfold gB
  rw[aB (aF (show(m:Int)<(n:Int) by omega))]
  dsimp only at hX⊢
  rw[ix (r:=o) (n:=C) (i:=j) (by omega),ix (r:=o*C+j) (n:=K) (i:=r) (by omega),ix (r:=(o*C+j)*K+r) (n:=K) (i:=q) (by omega)]
  rw[ix (r:=m) (n:=O) (i:=o) (by omega),ix (r:=m*O+o) (n:=P) (i:=y) (by omega),ix (r:=(m*O+o)*P+y) (n:=Q) (i:=z) (by omega)]
  rw[ix5 (by omega) hH hV,R6,ei']
  refine⟨by omega,by rw[h.hg];omega,by rw[h.hx];omega,by omega,?_⟩
  simp only[Int.toNat_natCast]
  rw[aC ((m:Int)+1),EE]
  have g8:=h.ag.at_ ((m*O+o)*P*Q+(y*Q+z))
  have x8:=h.ax.at_ ((m*C+j)*(H*V)+a)
  rw[uK (gd.getD ((m*O+o)*P*Q+(y*Q+z)) 0),uK (xd.getD ((m*C+j)*(H*V)+a) 0)]
  have es:=aKc (n:=O) (O:=C) (P:=K) (Q:=K) (m0:=o) (o0:=j) (p0:=r) (q0:=q) (f:=fun o' c' r' q'=>f o' c' r' q'+if o'=o/\c'=j/\r'=r/\q'=q then bC (fun m=>wtG O C P Q (H*V) gd xd (y*Q+z) m o j a) m else 0) (v:=gd.getD ((m*O+o)*P*Q+(y*Q+z)) 0*xd.getD ((m*C+j)*(H*V)+a) 0) ho hj hr hq
  unfold ix4 at es
  rw[es]
  have ef:(w4 O C K K fun o' c' r' q'=>(f o' c' r' q'+if o'=o/\c'=j/\r'=r/\q'=q then bC (fun m=>wtG O C P Q (H*V) gd xd (y*Q+z) m o j a) m else 0)+if o'=o/\c'=j/\r'=r/\q'=q then gd.getD ((m*O+o)*P*Q+(y*Q+z)) 0*xd.getD ((m*C+j)*(H*V)+a) 0 else 0)=w4 O C K K fun o' c' r' q'=>f o' c' r' q'+if o'=o/\c'=j/\r'=r/\q'=q then bC (fun m=>wtG O C P Q (H*V) gd xd (y*Q+z) m o j a) (m+1)else 0:=by
   refine eZ fun o' c' r' q' _ _ _ _ => ?_
   rw[vR]
   congr 1
   by_cases g:o'=o/\c'=j/\r'=r/\q'=q
   ·rw[aB g,aB g,aB g];rfl
   ·rw[aA g,aA g,aA g];rfl
  rw[ef]
  exact hX
 ·intro _ X
  unfold gB
  rw[aA (by simp)]
  exact hk
theorem aOE (h:WF n O C K P Q (H*V) gd xd)(hH:1<=H)(hV:1<=V){f:Nat->Nat->Nat->Nat->Int}{y z o a r q:Nat}{K0:List Int->Prop}(hy:y<P)(hz:z<Q)(ho:o<O)(ha:a<H*V)(hr:r<K)(hq:q<K)(hn:n<=8192)(hC:C<=8192)
 (hk:K0 (w4 O C K K fun o' c' r' q'=>f o' c' r' q'+if o'=o/\r'=r/\q'=q then wtM n O C P Q (H*V) gd xd (y*Q+z) o' c' a else 0)) :
 mP K n O C H V P Q y z o C gd xd a r q K0 (0,w4 O C K K f):=by
 refine⟨?_⟩
 have eg:((0:Int),w4 O C K K f)=(fun t:Nat=>((t:Int),w4 O C K K fun o' c' r' q'=>f o' c' r' q'+if o'=o/\c'<t/\r'=r/\q'=q then wtM n O C P Q (H*V) gd xd (y*Q+z) o' c' a else 0)) 0:=by
  dsimp only
  congr 1
  refine eZ fun o' c' r' q' _ _ _ _ => ?_
  rw[aA (by omega)];omega
 rw[eg]
 refine Loop.range (B:=f9 K n O C H V P Q y z o C gd xd a r q K0) (f:=fun t:Nat=>((t:Int),w4 O C K K fun o' c' r' q'=>f o' c' r' q'+if o'=o/\c'<t/\r'=r/\q'=q then wtM n O C P Q (H*V) gd xd (y*Q+z) o' c' a else 0)) C (fun _=>True) trivial ?_ ?_
 ·intro j hj _ X hX
  have hX:=hX trivial
  unfold f9
  rw[aB (aF (show(j:Int)<(C:Int) by omega))]
  dsimp only at hX⊢
  refine aOg h hH hV hy hz ho hj ha hr hq hn ?_
  rw[aC ((j:Int)+1)]
  have ef:(w4 O C K K fun o' c' r' q'=>(f o' c' r' q'+if o'=o/\c'<j/\r'=r/\q'=q then wtM n O C P Q (H*V) gd xd (y*Q+z) o' c' a else 0)+if o'=o/\c'=j/\r'=r/\q'=q then wtM n O C P Q (H*V) gd xd (y*Q+z) o j a else 0)=w4 O C K K fun o' c' r' q'=>f o' c' r' q'+if o'=o/\c'<j+1/\r'=r/\q'=q then wtM n O C P Q (H*V) gd xd (y*Q+z) o' c' a else 0:=by
   refine eZ fun o' c' r' q' _ _ _ _ => ?_
   rw[vR]
   congr 1
   by_cases g:o'=o/\r'=r/\q'=q
   ·obtain⟨g1,g2,g3⟩:=g
    subst g1 g2 g3
    by_cases g4:c'=j
    ·subst g4
     rw[aA (by omega),aB ⟨rfl,rfl,rfl,rfl⟩,aB ⟨rfl,by omega,rfl,rfl⟩]
     omega
    ·rw[aA (c:=_/\c'=j/\_) (by omega)]
     by_cases g5:c'<j
     ·rw[aB ⟨rfl,g5,rfl,rfl⟩,aB ⟨rfl,by omega,rfl,rfl⟩];omega
     ·rw[aA (by omega),aA (by omega)];omega
   ·rw[aA (fun hh=>g ⟨hh.1,hh.2.2⟩),aA (fun hh=>g ⟨hh.1,hh.2.2⟩),aA (fun hh=>g ⟨hh.1,hh.2.2⟩)];omega
  rw[ef]
  exact hX
 ·intro _ X
  unfold f9
  rw[aA (by simp)]
  have:(w4 O C K K fun o' c' r' q'=>f o' c' r' q'+if o'=o/\c'<C/\r'=r/\q'=q then wtM n O C P Q (H*V) gd xd (y*Q+z) o' c' a else 0)=w4 O C K K fun o' c' r' q'=>f o' c' r' q'+if o'=o/\r'=r/\q'=q then wtM n O C P Q (H*V) gd xd (y*Q+z) o' c' a else 0:=by
   refine eZ fun o' c' r' q' _ h2 _ _ => ?_
   congr 1
   by_cases g:o'=o/\r'=r/\q'=q
   ·rw[aB g,aB ⟨g.1,h2,g.2⟩]
   ·rw[aA g,aA (fun hh=>g ⟨hh.1,hh.2.2⟩)]
  dsimp only
  rw[this]
  exact hk
theorem aOB (h:WF n O C K P Q (H*V) gd xd)(hH:1<=H)(hV:1<=V){f:Nat->Nat->Nat->Nat->Int}{y z a r q:Nat}{K0:List Int->Prop}(hy:y<P)(hz:z<Q)(ha:a<H*V)(hr:r<K)(hq:q<K)(hn:n<=8192)(hC:C<=8192)(hO:O<=8192)
 (hk:K0 (w4 O C K K fun o' c' r' q'=>f o' c' r' q'+if r'=r/\q'=q then wtM n O C P Q (H*V) gd xd (y*Q+z) o' c' a else 0)) :
 mH K n O C H V P Q y z O gd xd a r q K0 (0,w4 O C K K f):=by
 refine⟨?_⟩
 have eg:((0:Int),w4 O C K K f)=(fun t:Nat=>((t:Int),w4 O C K K fun o' c' r' q'=>f o' c' r' q'+if o'<t/\r'=r/\q'=q then wtM n O C P Q (H*V) gd xd (y*Q+z) o' c' a else 0)) 0:=by
  dsimp only
  congr 1
  refine eZ fun o' c' r' q' _ _ _ _ => ?_
  rw[aA (by omega)];omega
 rw[eg]
 refine Loop.range (B:=gG K n O C H V P Q y z O gd xd a r q K0) (f:=fun t:Nat=>((t:Int),w4 O C K K fun o' c' r' q'=>f o' c' r' q'+if o'<t/\r'=r/\q'=q then wtM n O C P Q (H*V) gd xd (y*Q+z) o' c' a else 0)) O (fun _=>True) trivial ?_ ?_
 ·intro o ho _ X hX
  have hX:=hX trivial
  unfold gG
  rw[aB (aF (show(o:Int)<(O:Int) by omega))]
  dsimp only at hX⊢
  refine aOE h hH hV hy hz ho ha hr hq hn hC ?_
  rw[aC ((o:Int)+1)]
  have ef:(w4 O C K K fun o' c' r' q'=>(f o' c' r' q'+if o'<o/\r'=r/\q'=q then wtM n O C P Q (H*V) gd xd (y*Q+z) o' c' a else 0)+if o'=o/\r'=r/\q'=q then wtM n O C P Q (H*V) gd xd (y*Q+z) o' c' a else 0)=w4 O C K K fun o' c' r' q'=>f o' c' r' q'+if o'<o+1/\r'=r/\q'=q then wtM n O C P Q (H*V) gd xd (y*Q+z) o' c' a else 0:=by
   refine eZ fun o' c' r' q' _ _ _ _ => ?_
   rw[vR]
   congr 1
   by_cases g:r'=r/\q'=q
   ·by_cases g4:o'=o
    ·subst g4
     rw[aA (by omega),aB ⟨rfl,g⟩,aB ⟨by omega,g⟩];omega
    ·rw[aA (c:=o'=o/\_) (by omega)]
     by_cases g5:o'<o
     ·rw[aB ⟨g5,g⟩,aB ⟨by omega,g⟩];omega
     ·rw[aA (by omega),aA (by omega)];omega
   ·rw[aA (fun hh=>g hh.2),aA (fun hh=>g hh.2),aA (fun hh=>g hh.2)];omega
  rw[ef]
  exact hX
 ·intro _ X
  unfold gG
  rw[aA (by simp)]
  have:(w4 O C K K fun o' c' r' q'=>f o' c' r' q'+if o'<O/\r'=r/\q'=q then wtM n O C P Q (H*V) gd xd (y*Q+z) o' c' a else 0)=w4 O C K K fun o' c' r' q'=>f o' c' r' q'+if r'=r/\q'=q then wtM n O C P Q (H*V) gd xd (y*Q+z) o' c' a else 0:=by
   refine eZ fun o' c' r' q' h2 _ _ _ => ?_
   congr 1
   by_cases g:r'=r/\q'=q
   ·rw[aB g,aB ⟨h2,g⟩]
   ·rw[aA g,aA (fun hh=>g hh.2)]
  dsimp only
  rw[this]
  exact hk
theorem aOq (h:WF n O C K P Q (H*V) gd xd)(hH:1<=H)(hV:1<=V){f:Nat->Nat->Nat->Nat->Int}{y z:Nat}{l:List (Int×Int×Int)}{K0:List Int->Prop}(hy:y<P)(hz:z<Q)(hl:InP K (H*V) l)(hll:l.length<=1000000)(hn:n<=8192)(hC:C<=8192)(hO:O<=8192)
 (hk:K0 (w4 O C K K fun o' c' r' q'=>f o' c' r' q'+AY l (wtZ n O C P Q (H*V) gd xd (y*Q+z) o' c' r' q'))) :
 mQ K n O C H V P Q y z (l.length:Int) gd xd l K0 (0,w4 O C K K f):=by
 refine⟨?_⟩
 have eg:((0:Int),w4 O C K K f)=(fun j:Nat=>((j:Int),w4 O C K K fun o' c' r' q'=>f o' c' r' q'+bC (fun t=>wtZ n O C P Q (H*V) gd xd (y*Q+z) o' c' r' q' (l.getD t (0,0,0))) j)) 0:=by
  dsimp only
  congr 1
  refine eZ fun o' c' r' q' _ _ _ _ => ?_
  simp[bC]
 rw[eg]
 refine Loop.range (B:=gI K n O C H V P Q y z (l.length:Int) gd xd l K0) (f:=fun j:Nat=>((j:Int),w4 O C K K fun o' c' r' q'=>f o' c' r' q'+bC (fun t=>wtZ n O C P Q (H*V) gd xd (y*Q+z) o' c' r' q' (l.getD t (0,0,0))) j)) l.length (fun _=>True) trivial ?_ ?_
 ·intro t ht _ X hX
  have hX:=hX trivial
  unfold gI
  rw[aB (aF (show(t:Int)<(l.length:Int) by omega))]
  dsimp only at hX⊢
  refine⟨by omega,?_⟩
  rw[bJ]
  obtain⟨a,r,q,ez,ha,hr,hq⟩:=hl (l.getD t (0,0,0)) (by rw[aW,aQ ht];exact fZ ht)
  simp only[bC,ez]at hX
  rw[ez]
  refine aOB h hH hV hy hz ha hr hq hn hC hO ?_
  rw[aC ((t:Int)+1)]
  have ef:(w4 O C K K fun o' c' r' q'=>(f o' c' r' q'+bC (fun t=>wtZ n O C P Q (H*V) gd xd (y*Q+z) o' c' r' q' (l.getD t (0,0,0))) t)+if r'=r/\q'=q then wtM n O C P Q (H*V) gd xd (y*Q+z) o' c' a else 0)=w4 O C K K fun o' c' r' q'=>f o' c' r' q'+(bC (fun t=>wtZ n O C P Q (H*V) gd xd (y*Q+z) o' c' r' q' (l.getD t (0,0,0))) t+wtZ n O C P Q (H*V) gd xd (y*Q+z) o' c' r' q' (↑a,↑r,↑q)):=by
   refine eZ fun o' c' r' q' _ _ _ _ => ?_
   rw[vR]
   congr 2
   unfold wtZ
   dsimp only
   rw[bJ]
   by_cases g:r'=r/\q'=q
   ·rw[aB g,aB (by omega)]
   ·rw[aA g,aA (by omega)]
  rw[ef]
  exact hX
 ·intro _ X
  unfold gI
  rw[aA (by simp)]
  dsimp only
  have:(w4 O C K K fun o' c' r' q'=>f o' c' r' q'+bC (fun t=>wtZ n O C P Q (H*V) gd xd (y*Q+z) o' c' r' q' (l.getD t (0,0,0))) l.length)=w4 O C K K fun o' c' r' q'=>f o' c' r' q'+AY l (wtZ n O C P Q (H*V) gd xd (y*Q+z) o' c' r' q') :=
   eZ fun o' c' r' q' _ _ _ _=>by rw[EB l _ (0,0,0)]
  rw[this]
  exact hk
def wtR (n O C K P Q H V:Nat)(s p:Int)(gd xd:List Int)(y o c r q:Nat)(m:Nat):Int:=bC (fun z=>AY (fX H V y z K s p) (wtZ n O C P Q (H*V) gd xd (y*Q+z) o c r q)) m
theorem aOL {s p:Int}(h:WF n O C K P Q (H*V) gd xd)(hH:1<=H)(hV:1<=V){f:Nat->Nat->Nat->Nat->Int}{y:Nat}{K0:List Int->Prop}(hy:y<P)(hK:K<=5)(hn:n<=8192)(hC:C<=8192)(hO:O<=8192)(hQ:Q<=8192)
 (hk:K0 (w4 O C K K fun o' c' r' q'=>f o' c' r' q'+wtR n O C K P Q H V s p gd xd y o' c' r' q' Q)) :
 mN K s p n O C H V P Q y Q gd xd K0 (0,w4 O C K K f):=by
 have hKK:K*K<=5*5:=dE hK hK
 refine⟨?_⟩
 have eg:((0:Int),w4 O C K K f)=(fun j:Nat=>((j:Int),w4 O C K K fun o' c' r' q'=>f o' c' r' q'+wtR n O C K P Q H V s p gd xd y o' c' r' q' j)) 0:=by
  dsimp only
  congr 1
  refine eZ fun o' c' r' q' _ _ _ _ => ?_
  simp[wtR,bC]
 rw[eg]
 refine Loop.range (B:=gE K s p n O C H V P Q y Q gd xd K0) (f:=fun j:Nat=>((j:Int),w4 O C K K fun o' c' r' q'=>f o' c' r' q'+wtR n O C K P Q H V s p gd xd y o' c' r' q' j)) Q (fun _=>True) trivial ?_ ?_
 ·intro z hz _ X hX
  have hX:=hX trivial
  unfold gE
  rw[aB (aF (show(z:Int)<(Q:Int) by omega))]
  dsimp only at hX⊢
  refine aDC ?_
  have hwl:=GV (rows:=H) (cols:=V) (r:=y) (c:=z) (s:=s) (p:=p) (K:=K)
  refine aOq h hH hV hy hz LX (by omega) hn hC hO ?_
  rw[aC ((z:Int)+1)]
  have ef:(w4 O C K K fun o' c' r' q'=>(f o' c' r' q'+wtR n O C K P Q H V s p gd xd y o' c' r' q' z)+AY (fX H V y z K s p) (wtZ n O C P Q (H*V) gd xd (y*Q+z) o' c' r' q'))=w4 O C K K fun o' c' r' q'=>f o' c' r' q'+wtR n O C K P Q H V s p gd xd y o' c' r' q' (z+1) :=
   eZ fun o' c' r' q' _ _ _ _=>by rw[vR];rfl
  rw[ef]
  exact hX
 ·intro _ X
  unfold gE
  rw[aA (by simp)]
  exact hk
theorem aOh {s p:Int}(h:WF n O C K P Q (H*V) gd xd)(hH:1<=H)(hV:1<=V){K0:List Int->Prop}(hK:K<=5)(hn:n<=8192)(hC:C<=8192)(hO:O<=8192)(hQ:Q<=8192)(hP:P<=8192)
 (hk:K0 (w4 O C K K (aAx n O C K P Q H V s p gd xd))) :
 mK K s p n O C H V P Q P gd xd K0 (0,w4 O C K K fun _ _ _ _=>0):=by
 refine⟨?_⟩
 refine Loop.range (B:=gC K s p n O C H V P Q P gd xd K0) (f:=fun j:Nat=>((j:Int),w4 O C K K fun o' c' r' q'=>bC (fun y=>wtR n O C K P Q H V s p gd xd y o' c' r' q' Q) j)) P (fun _=>True) trivial ?_ ?_
 ·intro y hy _ X hX
  have hX:=hX trivial
  unfold gC
  rw[aB (aF (show(y:Int)<(P:Int) by omega))]
  dsimp only at hX⊢
  refine aOL h hH hV hy hK hn hC hO hQ ?_
  rw[aC ((y:Int)+1)]
  exact hX
 ·intro _ X
  unfold gC
  rw[aA (by simp)]
  dsimp only
  have:(w4 O C K K fun o' c' r' q'=>bC (fun y=>wtR n O C K P Q H V s p gd xd y o' c' r' q' Q) P)=w4 O C K K (aAx n O C K P Q H V s p gd xd):=by
   refine eZ fun o' c' r' q' _ _ _ _ => ?_
   unfold aAx
   rw[<- aAf]
   refine BI fun y hy => ?_
   unfold wtR
   refine BI fun z hz => ?_
   rw[FF hz,AE hz]
  rw[this]
  exact hk
end
theorem aDz {g x:T3}{k s p:Int}(hm:([g,x].all bB)=false):uP g x k s p=(Z3,1):=by
 have hE:wtE g x k s p=1:=by
  unfold wtE
  rw[ZE hm];rfl
 unfold uP
 rw[hE];rfl
theorem T5 {g x:T3}{k s p:Int}(hm:([g,x].all bB)=true)(hl : ¬ ((g.1.length:Int)=4/\(x.1.length:Int)=4)\/XN g x k s p=true):uP g x k s p=(Z3,2):=by
 have hm':=hm
 rw[aD0]at hm'
 simp only[aK]at hm'
 have hE:wtE g x k s p=2:=by
  unfold wtE
  by_cases h2:(g.1.length:Int)=4/\(x.1.length:Int)=4
  ·rw[O7 (fun t ht=>by
    rcases List.mem_cons.1 ht with e|e
    ·subst e;exact⟨hm'.1,h2.1⟩
    ·rcases List.mem_singleton.1 e with rfl
     exact⟨hm'.2,h2.2⟩)]
   rcases hl with hl|hl
   ·exact absurd h2 hl
   ·rw[hl];rfl
  ·rw[aAV hm h2];rfl
 unfold uP
 rw[hE];rfl
theorem aMj {g x:T3}{k s p:Int}{Q:T3×Int->Prop}(ag:All8 g.2.2)(ax:All8 x.2.2)(hq:Q (uP g x k s p)):oT g x k s p Q:=by
 refine⟨?_⟩
 refine CP (by simp) ?_
 show(if (!([g,x].all bB))=true then _ else _)
 cases hm:[g,x].all bB with
 | false=>rw[aDz hm]at hq;exact hq
 | true =>
   rw[aA (by simp)]
   refine f7 (b:=((g.1.length:Int) != 4)||((x.1.length:Int) != 4)) (c:=g.1.getD 0 0 != x.1.getD 0 0) (fun hb P hp => ?_) (fun v2 e2 => ?_) rfl
   ·simp only[eI,ND]at hb
    exact⟨by omega,by omega,hp⟩
   ·cases v2 with
    | true =>
      rw[aB rfl]
      rw[T5 hm]at hq
      ·exact hq
      ·by_cases g1:(g.1.length:Int)=4/\(x.1.length:Int)=4
       ·right
        have e2:=e2.symm
        simp only[cJ,pA,ne_eq]at e2
        unfold XN
        simp only[cJ,pA,ne_eq]
        have:g.1.getD 0 0=x.1.getD 0 0 ↔ x.1.getD 0 0=g.1.getD 0 0:=eq_comm
        grind
       ·left;exact g1
    | false =>
      rw[aA (by simp)]
      have e2:=e2.symm
      simp only[eI,ND]at e2
      obtain⟨⟨l1,l2⟩,c1⟩:=e2
      have hm2:=hm
      rw[aD0]at hm2
      simp only[aK]at hm2
      refine⟨by omega,by omega,by omega,by omega,by omega,I4 ?_⟩
      have r1:=oC (x.1.getD 2 0) k s p
      have r2:=oC (x.1.getD 3 0) k s p
      refine f7 (b:=(bA (x.1.getD 2 0) k s p==0)||(bA (x.1.getD 3 0) k s p==0)) (c:=bA (x.1.getD 2 0) k s p != g.1.getD 2 0) (fun hb P hp=>⟨by omega,hp⟩) (fun v5 e5 => ?_) rfl
      refine f7 (c:=bA (x.1.getD 3 0) k s p != g.1.getD 3 0) (fun hb P hp=>⟨by omega,hp⟩) (fun v7 e7 => ?_) rfl
      have hbad:XN g x k s p=v7:=by
       rw[e7,e5,Bool.eq_iff_iff]
       unfold XN
       simp only[cJ,oR,JD,fB,pA,ne_eq,dR]
       have:g.1.getD 2 0=bA (x.1.getD 2 0) k s p ↔ bA (x.1.getD 2 0) k s p=g.1.getD 2 0:=eq_comm
       have:g.1.getD 3 0=bA (x.1.getD 3 0) k s p ↔ bA (x.1.getD 3 0) k s p=g.1.getD 3 0:=eq_comm
       grind
      cases v7 with
      | true =>
        rw[aB rfl]
        rw[T5 hm (.inr hbad)]at hq
        exact hq
      | false =>
        rw[aA (by simp)]
        have hb2:=hbad
        unfold XN at hb2
        simp only[eI,ND,xS,aK,aT]at hb2
        obtain⟨⟨⟨⟨o1,o2⟩,d1⟩,d2⟩,d3⟩:=hb2
        obtain⟨n,O,P,R,eg,g1,g2,g3,g4,g5,g6,g7,g8⟩:=S1 hm2.1 l1
        obtain⟨n',C,H,V,ex,x1,x2,x3,x4,x5,x6,x7,x8⟩:=S1 hm2.2 l2
        simp only[eg,ex,List.getD_cons_zero,List.getD_cons_succ]at o1 o2 d1 d2 d3⊢
        have en:n'=n:=by omega
        subst en
        obtain⟨a1,a2,a3,a4,a5,a6⟩:=lO o1
        obtain⟨f1,_⟩:=lO o2
        obtain⟨K,rfl⟩:=gN (show 0<=k by omega)
        have k1:n'<=n'*O:=bK _ (by omega)
        have k2:n'*P*R<=8192:=by
         have e1:n'*P*R<=n'*O*P*R:=fP _ (fP _ k1)
         omega
        have k3:n'*P<=n'*P*R:=bK _ (by omega)
        have k4:n'<=n'*P:=bK _ (by omega)
        have k5:P<=n'*P:=wB _ (by omega)
        have k6:R<=n'*P*R:=wB _ (zN (by omega) (by omega))
        have k7:O<=n'*O:=wB _ (by omega)
        have k8:n'*O<=n'*O*P:=bK _ (by omega)
        have k9:n'*O*P<=n'*O*P*R:=bK _ (by omega)
        have ka:C<=n'*C:=wB _ (by omega)
        have kb:n'*C<=n'*C*H:=bK _ (by omega)
        have kc:n'*C*H<=n'*C*H*V:=bK _ (by omega)
        rw[<- d2,<- d3,xC (r:=n') (n:=P) (by omega),xC (r:=n'*P) (n:=R) (by omega),aC (g.2.1+x.2.1)]
        refine QB ⟨?_⟩
        have hE:wtE g x K s p=(gQ [(O:Int),(C:Int),(K:Int),(K:Int)] (g.2.1+x.2.1) ((n'*P*R:Nat):Int)).2:=by
         unfold wtE
         rw[hbad,O7 (fun t ht=>by
          rcases List.mem_cons.1 ht with e|e
          ·subst e;exact⟨hm2.1,l1⟩
          ·rcases List.mem_singleton.1 e with rfl
           exact⟨hm2.2,l2⟩)]
         simp only[eA,cB,BC]
         unfold SO wtN
         simp only[eg,ex,List.getD_cons_zero,List.getD_cons_succ,Int.natCast_mul]
        unfold uP at hq
        rw[hE]at hq
        by_cases h9:(gQ [(O:Int),(C:Int),(K:Int),(K:Int)] (g.2.1+x.2.1) ((n'*P*R:Nat):Int)).2=0
        ·obtain⟨f1',f2,f3,f4⟩:=zS h9
         rw[f4]at hq⊢
         simp only[BC,eA,cB]at hq⊢
         obtain⟨q1,q2,q3,q4,e1,e2,e3,e4,_,_,_,_,s5,s6⟩:=aBp f3
         have t1:q1=O:=by omega
         have t2:q2=C:=by omega
         have t3:q3=K:=by omega
         have t4:q4=K:=by omega
         subst t1 t2 t3 t4
         have w:WF n' q1 q2 q4 P R (H*V) g.2.2 x.2.2:=⟨by omega,by rw[x6];exact cK _ _ _,g5,by rw[<- cK];exact x5,s5,ag,ax,by omega,by omega,by omega,by omega,by omega⟩
         rw[s6,bJ,aJo]
         refine aOh w (by omega) (by omega) (by omega) (by omega) (by omega) (by omega) (by omega) (by omega) ?_
         unfold SO aHH at hq
         simp only[eg,ex,List.getD_cons_zero,List.getD_cons_succ,Int.toNat_natCast]at hq
         exact hq
        ·rw[aB (by simpa using h9)]
         rw[aB (by simpa using h9)]at hq
         rw[ED h9]
         exact hq
end Go.Proofs.YtcfpfefadlnmcaaGreat

namespace Go.Proofs.YtcfpfefadlnmcaaGreat
open Go.Mach Go.RowKit
set_option maxRecDepth 100000
set_option linter.unusedVariables false
set_option linter.unusedSimpArgs false
def inC (n C:Nat)(g w:List Int)(r i:Nat):Int:=yC 0 (fun o=>g.getD (r*n+o) 0*w.getD (o*C+i) 0) n
theorem aOx {r i n C:Nat}{gd g wd w:List Int}{ge we:Int}(hg:r*n+n<=g.length)(hw:n*C<=w.length)(hi:i<C)(lg:g.length<=8192)(lw:w.length<=8192)(hn:n<=959)(bg:All8 g)(bw:All8 w){Q:Int->Prop}(h:Q (inC n C g w r i)):A8 (r:Int) (i:Int) (n:Int) gd ge g wd we w (C:Int) Q:=by
 refine⟨⟨?_⟩⟩
 refine Loop.range (B:=rP (r:Int) (i:Int) (n:Int) g w (C:Int) (n:Int) _) (f:=fun o=>(yC 0 (fun o=>g.getD (r*n+o) 0*w.getD (o*C+i) 0) o,(o:Int))) n (fun _=>True) trivial ?_ ?_
 ·intro o ho _ X hX
  unfold rP
  rw[aB (by simpa using ho)]
  dsimp only
  have hs:=JV (s:=0) (g:=fun o=>g.getD (r*n+o) 0*w.getD (o*C+i) 0) (n:=o) (by omega) (by omega) (fun o=>YV (bg.at_ _) (bw.at_ _))
  have hl:=fM (R:=n) ho hi
  rw[ix (r:=r) (n:=n) (i:=o) (by omega),ix (r:=o) (n:=C) (i:=i) (by omega)]
  refine⟨⟨by omega,by omega⟩,⟨by omega,by omega⟩,?_⟩
  simp only[Int.toNat_natCast]
  rw[mac hs (bg.at_ _) (bw.at_ _),aC ((o:Int)+1)]
  exact hX trivial
 ·intro _ X
  unfold rP
  rw[aA (by simp)]
  exact h
theorem aKT {n C:Nat}{g w:List Int}{r i:Nat}(hn:n<=959)(bg:All8 g)(bw:All8 w) : -16760832<=inC n C g w r i/\inC n C g w r i<=16760832:=QK (by omega) hn (fun i=>YV (bg.at_ _) (bw.at_ _))
def wgC (n R C:Nat)(g x:List Int)(o i:Nat):Int:=yC 0 (fun r=>g.getD (r*R+o) 0*x.getD (r*C+i) 0) n
theorem aOX {o i n R C:Nat}{gd g xd x:List Int}{ge xe:Int}(hg:n*R<=g.length)(hx:n*C<=x.length)(ho:o<R)(hi:i<C)(lg:g.length<=8192)(lx:x.length<=8192)(hn:n<=959)(bg:All8 g)(bx:All8 x){Q:Int->Prop}(h:Q (wgC n R C g x o i)):yV (o:Int) (i:Int) (n:Int) gd ge g (R:Int) xd xe x (C:Int) Q:=by
 refine⟨⟨?_⟩⟩
 refine Loop.range (B:=pY (o:Int) (i:Int) g (R:Int) x (C:Int) (n:Int) _) (f:=fun r=>(yC 0 (fun r=>g.getD (r*R+o) 0*x.getD (r*C+i) 0) r,(r:Int))) n (fun _=>True) trivial ?_ ?_
 ·intro r hr _ X hX
  unfold pY
  rw[aB (by simpa using hr)]
  dsimp only
  have hs:=JV (s:=0) (g:=fun r=>g.getD (r*R+o) 0*x.getD (r*C+i) 0) (n:=r) (by omega) (by omega) (fun o=>YV (bg.at_ _) (bx.at_ _))
  have h1:=fM (R:=n) hr ho
  have h2:=fM (R:=n) hr hi
  rw[ix (r:=r) (n:=R) (i:=o) (by omega),ix (r:=r) (n:=C) (i:=i) (by omega)]
  refine⟨⟨by omega,by omega⟩,⟨by omega,by omega⟩,?_⟩
  simp only[Int.toNat_natCast]
  rw[mac hs (bg.at_ _) (bx.at_ _),aC ((r:Int)+1)]
  exact hX trivial
 ·intro _ X
  unfold pY
  rw[aA (by simp)]
  exact h
theorem aJn {n R C:Nat}{g x:List Int}{o i:Nat}(hn:n<=959)(bg:All8 g)(bx:All8 x) : -16760832<=wgC n R C g x o i/\wgC n R C g x o i<=16760832:=QK (by omega) hn (fun i=>YV (bg.at_ _) (bx.at_ _))
def biC (n C:Nat)(g:List Int)(o:Nat):Int:=yC 0 (fun r=>g.getD (r*C+o) 0) n
theorem aOC {q o n C:Nat}{gd g:List Int}{ge:Int}(hg:n*C<=g.length)(ho:o<C)(lg:g.length<=8192)(hn:n<=959)(bg:All8 g){Q:Int->Prop}(h:Q (biC n C g o)):DX (q:Int) (o:Int) (n:Int) gd ge g (C:Int) Q:=by
 refine⟨⟨?_⟩⟩
 refine Loop.range (B:=tI (o:Int) g (C:Int) (n:Int) _) (f:=fun r=>(yC 0 (fun r=>g.getD (r*C+o) 0) r,(r:Int))) n (fun _=>True) trivial ?_ ?_
 ·intro r hr _ X hX
  unfold tI
  rw[aB (by simpa using hr)]
  dsimp only
  have hs:=JV (s:=0) (g:=fun r=>g.getD (r*C+o) 0) (n:=r) (by omega) (by omega) (fun k=>by have:=bg.at_ (k*C+o);omega)
  have h1:=fM (R:=n) hr ho
  rw[ix (r:=r) (n:=C) (i:=o) (by omega)]
  refine⟨⟨by omega,by omega⟩,?_⟩
  simp only[Int.toNat_natCast]
  rw[aP3 hs (bg.at_ _),aC ((r:Int)+1)]
  exact hX trivial
 ·intro _ X
  unfold tI
  rw[aA (by simp)]
  exact h
theorem aK1 {n C:Nat}{g:List Int}{o:Nat}(hn:n<=959)(bg:All8 g) : -16760832<=biC n C g o/\biC n C g o<=16760832:=QK (by omega) hn (fun k=>by have:=bg.at_ (k*C+o);omega)
theorem aJD {gd g wd w:List Int}{n2 ge we cl:Int}{R C n e:Int}{f:Nat->Nat->Int}{Q:T3×Int->Prop}
 (hc:mE n=true->0<szF [R,C]->∀ r q:Nat,r<R.toNat->q<C.toNat -> -2147483648<=f r q/\f r q<=2147483647/\∀ K:Int->Prop,K (f r q)->A8 (r:Int) (q:Int) n2 gd ge g wd we w cl K)
 (h:Q (vJ R C n e f)):oS R C n e n2 gd ge g wd we w cl Q:=by
 refine⟨?_⟩
 refine aAQ ?_
 unfold vJ at h
 by_cases h1:((!mE n||decide (128<e))||decide (e < -128))=true
 ·rw[aB h1]at h⊢;exact h
 ·rw[aA h1]at h⊢
  refine PB ?_
  by_cases h2:(!decide (0<szF [R,C]))=true
  ·rw[aB h2]at h⊢;exact h
  ·rw[aA h2]at h⊢
   have hfit:mE n=true:=by
    simp only[cJ,jA]at h1
    have:=h1.1.1
    cases hq:mE n with
    | true=>rfl
    | false=>rw[hq]at this;exact absurd rfl this
   have hsz:0<szF [R,C]:=by simpa using h2
   have hc:=hc hfit hsz
   obtain⟨k1,k2,k3,k4,k5,_⟩:=aEQ R C hsz
   obtain⟨R,rfl⟩:=gN (show 0<=R by omega)
   obtain⟨C,rfl⟩:=gN (show 0<=C by omega)
   have hRC:R*C<=8192:=by rw[<- jR]at k5;omega
   simp only[Int.toNat_natCast]at hc h
   refine⟨?_⟩
   refine Loop.range (B:=gF (C:Int) n2 gd ge g wd we w cl (R:Int) _) (f:=fun r=>((r:Int),m7 r C f)) R (fun _=>True) trivial ?_ ?_
   ·intro r hr _ X hX
    unfold gF
    rw[aB (by simpa using hr)]
    refine⟨?_⟩
    dsimp only
    have hl:=AO r C f
    have hrc:(r+1)*C<=R*C:=fP C hr
    rw[eV,jN]at hrc
    rw[show(0,m7 r C f)=((fun q:Nat=>((q:Int),m7 r C f++(List.range q).map (f r))) 0) by simp]
    refine Loop.range (f:=fun q=>((q:Int),m7 r C f++(List.range q).map (f r))) C (fun _=>True) trivial ?_ ?_
    ·intro q hcc _ Y hY
     unfold kO
     rw[aB (by simpa using hcc)]
     obtain⟨m1,m2,m3⟩:=hc r q hr hcc
     refine m3 _ ?_
     refine⟨?_,?_⟩
     ·simp only[mR,FH,V7,List.length_singleton,hl]
      omega
     ·have:=hY trivial
      simp only[sV,uM,List.map_cons,List.map_nil,<- gZ]at this
      rw[uK _ m1 m2,aC ((q:Int)+1)]
      exact this
    ·intro _ Y
     unfold kO
     rw[aA (by simp)]
     have:=hX trivial
     simp only[AX]at this
     dsimp only
     rw[aC ((r:Int)+1)]
     exact this
   ·intro _ X
    unfold gF
    rw[aA (by simp)]
    exact h
theorem aHT {gd g xd x:List Int}{n2 ge xe rws cl:Int}{R C n e:Int}{f:Nat->Nat->Int}{Q:T3×Int->Prop}
 (hc:mE n=true->0<szF [R,C]->∀ r q:Nat,r<R.toNat->q<C.toNat -> -2147483648<=f r q/\f r q<=2147483647/\∀ K:Int->Prop,K (f r q)->yV (r:Int) (q:Int) n2 gd ge g rws xd xe x cl K)
 (h:Q (vJ R C n e f)):n6 R C n e n2 gd ge g rws xd xe x cl Q:=by
 refine⟨?_⟩
 refine aAQ ?_
 unfold vJ at h
 by_cases h1:((!mE n||decide (128<e))||decide (e < -128))=true
 ·rw[aB h1]at h⊢;exact h
 ·rw[aA h1]at h⊢
  refine PB ?_
  by_cases h2:(!decide (0<szF [R,C]))=true
  ·rw[aB h2]at h⊢;exact h
  ·rw[aA h2]at h⊢
   have hfit:mE n=true:=by
    simp only[cJ,jA]at h1
    have:=h1.1.1
    cases hq:mE n with
    | true=>rfl
    | false=>rw[hq]at this;exact absurd rfl this
   have hsz:0<szF [R,C]:=by simpa using h2
   have hc:=hc hfit hsz
   obtain⟨k1,k2,k3,k4,k5,_⟩:=aEQ R C hsz
   obtain⟨R,rfl⟩:=gN (show 0<=R by omega)
   obtain⟨C,rfl⟩:=gN (show 0<=C by omega)
   have hRC:R*C<=8192:=by rw[<- jR]at k5;omega
   simp only[Int.toNat_natCast]at hc h
   refine⟨?_⟩
   refine Loop.range (B:=fT (C:Int) n2 gd ge g rws xd xe x cl (R:Int) _) (f:=fun r=>((r:Int),m7 r C f)) R (fun _=>True) trivial ?_ ?_
   ·intro r hr _ X hX
    unfold fT
    rw[aB (by simpa using hr)]
    refine⟨?_⟩
    dsimp only
    have hl:=AO r C f
    have hrc:(r+1)*C<=R*C:=fP C hr
    rw[eV,jN]at hrc
    rw[show(0,m7 r C f)=((fun q:Nat=>((q:Int),m7 r C f++(List.range q).map (f r))) 0) by simp]
    refine Loop.range (f:=fun q=>((q:Int),m7 r C f++(List.range q).map (f r))) C (fun _=>True) trivial ?_ ?_
    ·intro q hcc _ Y hY
     unfold j9
     rw[aB (by simpa using hcc)]
     obtain⟨m1,m2,m3⟩:=hc r q hr hcc
     refine m3 _ ?_
     refine⟨?_,?_⟩
     ·simp only[mR,FH,V7,List.length_singleton,hl]
      omega
     ·have:=hY trivial
      simp only[sV,uM,List.map_cons,List.map_nil,<- gZ]at this
      rw[uK _ m1 m2,aC ((q:Int)+1)]
      exact this
    ·intro _ Y
     unfold j9
     rw[aA (by simp)]
     have:=hX trivial
     simp only[AX]at this
     dsimp only
     rw[aC ((r:Int)+1)]
     exact this
   ·intro _ X
    unfold fT
    rw[aA (by simp)]
    exact h
theorem aJ0 {gd g:List Int}{n2 ge cl:Int}{R C n e:Int}{f:Nat->Nat->Int}{Q:T3×Int->Prop}
 (hc:mE n=true->0<szF [R,C]->∀ r q:Nat,r<R.toNat->q<C.toNat -> -2147483648<=f r q/\f r q<=2147483647/\∀ K:Int->Prop,K (f r q)->DX (r:Int) (q:Int) n2 gd ge g cl K)
 (h:Q (vJ R C n e f)):pK R C n e n2 gd ge g cl Q:=by
 refine⟨?_⟩
 refine aAQ ?_
 unfold vJ at h
 by_cases h1:((!mE n||decide (128<e))||decide (e < -128))=true
 ·rw[aB h1]at h⊢;exact h
 ·rw[aA h1]at h⊢
  refine PB ?_
  by_cases h2:(!decide (0<szF [R,C]))=true
  ·rw[aB h2]at h⊢;exact h
  ·rw[aA h2]at h⊢
   have hfit:mE n=true:=by
    simp only[cJ,jA]at h1
    have:=h1.1.1
    cases hq:mE n with
    | true=>rfl
    | false=>rw[hq]at this;exact absurd rfl this
   have hsz:0<szF [R,C]:=by simpa using h2
   have hc:=hc hfit hsz
   obtain⟨k1,k2,k3,k4,k5,_⟩:=aEQ R C hsz
   obtain⟨R,rfl⟩:=gN (show 0<=R by omega)
   obtain⟨C,rfl⟩:=gN (show 0<=C by omega)
   have hRC:R*C<=8192:=by rw[<- jR]at k5;omega
   simp only[Int.toNat_natCast]at hc h
   refine⟨?_⟩
   refine Loop.range (B:=gW (C:Int) n2 gd ge g cl (R:Int) _) (f:=fun r=>((r:Int),m7 r C f)) R (fun _=>True) trivial ?_ ?_
   ·intro r hr _ X hX
    unfold gW
    rw[aB (by simpa using hr)]
    refine⟨?_⟩
    dsimp only
    have hl:=AO r C f
    have hrc:(r+1)*C<=R*C:=fP C hr
    rw[eV,jN]at hrc
    rw[show(0,m7 r C f)=((fun q:Nat=>((q:Int),m7 r C f++(List.range q).map (f r))) 0) by simp]
    refine Loop.range (f:=fun q=>((q:Int),m7 r C f++(List.range q).map (f r))) C (fun _=>True) trivial ?_ ?_
    ·intro q hcc _ Y hY
     unfold lV
     rw[aB (by simpa using hcc)]
     obtain⟨m1,m2,m3⟩:=hc r q hr hcc
     refine m3 _ ?_
     refine⟨?_,?_⟩
     ·simp only[mR,FH,V7,List.length_singleton,hl]
      omega
     ·have:=hY trivial
      simp only[sV,uM,List.map_cons,List.map_nil,<- gZ]at this
      rw[uK _ m1 m2,aC ((q:Int)+1)]
      exact this
    ·intro _ Y
     unfold lV
     rw[aA (by simp)]
     have:=hX trivial
     simp only[AX]at this
     dsimp only
     rw[aC ((r:Int)+1)]
     exact this
   ·intro _ X
    unfold gW
    rw[aA (by simp)]
    exact h
def aEM (g w:T3):T3×Int :=
 if (sN 2 [g,w] != 0)=true then(Z3,sN 2 [g,w])
 else if (w.1.getD 0 0 != g.1.getD 1 0)=true then(Z3,2)
 else vJ (g.1.getD 0 0) (w.1.getD 1 0) (g.1.getD 1 0) (g.2.1+w.2.1) (inC (g.1.getD 1 0).toNat (w.1.getD 1 0).toNat g.2.2 w.2.2)
theorem aOM {g w:T3}{Q:T3×Int->Prop}(bg:All8 g.2.2)(bw:All8 w.2.2)(h:Q (aEM g w)):PX g w Q:=by
 refine⟨aDY (by simp) ?_⟩
 unfold aEM at h
 by_cases h2:(sN 2 [g,w] != 0)=true
 ·rw[aB h2]at h⊢;exact h
 rw[aA h2]at h⊢
 obtain⟨mg,mw,lg,lw⟩:=aG1 (by simpa using h2)
 obtain⟨R,n,eg,g1,g2,g3,g4,g5,g6,g7,g8⟩:=YC mg (by omega)
 obtain⟨D,C,ew,w1,w2,w3,w4,w5,w6,w7,w8⟩:=YC mw (by omega)
 rw[eg,ew]at h⊢
 refine⟨by simp,by simp,by simp,by simp,?_⟩
 by_cases h3:(([(D:Int),(C:Int)].getD 0 0) != ([(R:Int),(n:Int)].getD 1 0))=true
 ·rw[aB h3]at h⊢;exact h
 rw[aA h3]at h⊢
 have hD:D=n:=by
  have:(D:Int)=(n:Int):=by simpa using h3
  omega
 subst hD
 rw[aC (g.2.1+w.2.1)]
 refine aJD ?_ h
 intro hfit hsz r c hr hcc
 have hn:=E4 hfit
 simp only[List.getD_cons_zero,List.getD_cons_succ,Int.toNat_natCast]at hr hcc hn⊢
 have hb:=aKT (n:=D) (C:=C) (g:=g.2.2) (w:=w.2.2) (r:=r) (i:=c) (by omega) bg bw
 refine⟨by omega,by omega,fun K hK => ?_⟩
 have k1:(r+1)*D<=R*D:=fP D hr
 rw[eV,jN]at k1
 exact aOx (by omega) (by omega) hcc (by omega) (by omega) (by omega) bg bw hK
def aDv (g x:T3):T3×Int :=
 if (sN 2 [g,x] != 0)=true then(Z3,sN 2 [g,x])
 else if (x.1.getD 0 0 != g.1.getD 0 0)=true then(Z3,2)
 else vJ (g.1.getD 1 0) (x.1.getD 1 0) (g.1.getD 0 0) (g.2.1+x.2.1) (wgC (g.1.getD 0 0).toNat (g.1.getD 1 0).toNat (x.1.getD 1 0).toNat g.2.2 x.2.2)
theorem aO4 {g x:T3}{Q:T3×Int->Prop}(bg:All8 g.2.2)(bx:All8 x.2.2)(h:Q (aDv g x)):LV g x Q:=by
 refine⟨aDY (by simp) ?_⟩
 unfold aDv at h
 by_cases h2:(sN 2 [g,x] != 0)=true
 ·rw[aB h2]at h⊢;exact h
 rw[aA h2]at h⊢
 obtain⟨mg,mx,lg,lx⟩:=aG1 (by simpa using h2)
 obtain⟨n,R,eg,g1,g2,g3,g4,g5,g6,g7,g8⟩:=YC mg (by omega)
 obtain⟨D,C,ex,x1,x2,x3,x4,x5,x6,x7,x8⟩:=YC mx (by omega)
 rw[eg,ex]at h⊢
 refine⟨by simp,by simp,by simp,by simp,?_⟩
 by_cases h3:(([(D:Int),(C:Int)].getD 0 0) != ([(n:Int),(R:Int)].getD 0 0))=true
 ·rw[aB h3]at h⊢;exact h
 rw[aA h3]at h⊢
 have hD:D=n:=by
  have:(D:Int)=(n:Int):=by simpa using h3
  omega
 subst hD
 rw[aC (g.2.1+x.2.1)]
 refine aHT ?_ h
 intro hfit hsz o i ho hi
 have hn:=E4 hfit
 simp only[List.getD_cons_zero,List.getD_cons_succ,Int.toNat_natCast]at ho hi hn⊢
 have hb:=aJn (n:=D) (R:=R) (C:=C) (g:=g.2.2) (x:=x.2.2) (o:=o) (i:=i) (by omega) bg bx
 refine⟨by omega,by omega,fun K hK => ?_⟩
 exact aOX (by omega) (by omega) ho hi (by omega) (by omega) (by omega) bg bx hK
theorem aNE {n:Int}{x:T3}(h:sN n [x]=0):bB x=true/\(x.1.length:Int)=n:=by
 unfold sN at h
 split at h
 ·rename_i h1
  split at h
  ·rename_i h2
   simp only[List.all_cons,List.all_nil,R0,dR]at h1 h2
   exact⟨h1,h2⟩
  ·omega
 ·omega
def aFM (g:T3):T3×Int:=vJ 1 (g.1.getD 1 0) (g.1.getD 0 0) g.2.1 (fun _=>biC (g.1.getD 0 0).toNat (g.1.getD 1 0).toNat g.2.2)
def aED (g:T3):T3×Int :=
 if (sN 2 [g] != 0)=true then(Z3,sN 2 [g])
 else if ((aFM g).2==0)=true then(([g.1.getD 1 0],(aFM g).1.2),(aFM g).2)else aFM g
theorem aNs {g:T3}{Q:T3×Int->Prop}(bg:All8 g.2.2)(h:Q (aED g)):TB g Q:=by
 refine⟨aDY (by simp) ?_⟩
 unfold aED at h
 by_cases h2:(sN 2 [g] != 0)=true
 ·rw[aB h2]at h⊢;exact h
 rw[aA h2]at h⊢
 obtain⟨mg,lg⟩:=aNE (by simpa using h2)
 obtain⟨n,C,eg,g1,g2,g3,g4,g5,g6,g7,g8⟩:=YC mg (by omega)
 refine⟨by omega,by omega,?_⟩
 refine aJ0 (f:=fun _=>biC (g.1.getD 0 0).toNat (g.1.getD 1 0).toNat g.2.2) ?_ ?_
 ·intro hfit hsz r q hr hq
  have hn:=E4 hfit
  rw[eg]at hn hq⊢
  simp only[List.getD_cons_zero,List.getD_cons_succ,Int.toNat_natCast]at hr hq hn⊢
  have hb:=aK1 (n:=n) (C:=C) (g:=g.2.2) (o:=q) (by omega) bg
  refine⟨by omega,by omega,fun K hK => ?_⟩
  exact aOC (by omega) hq (by omega) (by omega) bg hK
 ·show if ((aFM g).2==0)=true then _ else _
  by_cases h3:((aFM g).2==0)=true
  ·rw[aB h3]at h⊢;exact⟨h⟩
  ·rw[aA h3]at h⊢;exact⟨h⟩
end Go.Proofs.YtcfpfefadlnmcaaGreat

namespace Go.Proofs.YtcfpfefadlnmcaaGreat
open IntKind (i8 i16 i32 i64 u8 u16 u32 u64)
open Go.Mach Go.RowKit
set_option maxRecDepth 100000
set_option linter.unusedVariables false
set_option linter.unusedSimpArgs false
theorem aJM (R C:Nat)(f:Nat->Nat->Int):tab (R*C) (fun p=>f (p / C) (p%C))=m7 R C f:=by
 refine aIV (by simp[tab]) fun r hr c hc => ?_
 rw[FL _ (fM hr hc),FF hc,AE hc]
theorem aFP {R C n e:Int}{f:Nat->Nat->Int}(h1:mE n=true)(h2 : -128<=e)(h3:e<=128)(h4:0<szF [R,C]):vJ R C n e f=(([R,C],(e,m7 R.toNat C.toNat f)),0):=by
 unfold vJ
 rw[aA (by simp[h1];omega),aA (by simp;omega)]
theorem aAZ (R C n e:Int)(f:Nat->Nat->Int):vJ R C n e f=if ((gQ [R,C] e n).2 != 0)=true then gQ [R,C] e n else(([R,C],(e,m7 R.toNat C.toNat f)),0):=by
 cases hf:mE n with
 | false =>
   have e1:gQ [R,C] e n=(Z3,3):=by unfold gQ;rw[aB (by rw[hf];rfl)]
   rw[e1]
   unfold vJ
   rw[aB (by rw[hf];rfl),aB (by rfl)]
 | true =>
   by_cases h2:128<e\/e < -128
   ·have e1:gQ [R,C] e n=(Z3,3):=by unfold gQ;rw[aA (by rw[hf];simp),aB (by simp;omega)]
    rw[e1]
    unfold vJ
    rw[aB (by simp;omega),aB (by rfl)]
   ·by_cases h3:0<szF [R,C]
    ·have e1:gQ [R,C] e n=(([R,C],(e,List.replicate (szF [R,C]).toNat 0)),0):=by unfold gQ;rw[aA (by rw[hf];simp),aA (by simp;omega),aA (by simp[h3])]
     rw[e1,aFP hf (by omega) (by omega) h3,aA (by simp)]
    ·have e1:gQ [R,C] e n=(Z3,1):=by unfold gQ;rw[aA (by rw[hf];simp),aA (by simp;omega),aB (by simp[h3])]
     rw[e1]
     unfold vJ
     rw[aA (by rw[hf];simp;omega),aB (by simp[h3]),aB (by rfl)]
theorem aHh {R C:Nat}(h:0<szF [(R:Int),(C:Int)]):(szF [(R:Int),(C:Int)]).toNat=R*C:=by
 have:=(aEQ _ _ h).2.2.2.2.2
 rw[this,<- jR,bJ]
theorem aFG {d:List Int}{e n:Int}(h : ¬ ((gQ d e n).2 != 0)=true):mE n=true/\0<szF d/\gQ d e n=((d,(e,List.replicate (szF d).toNat 0)),0):=by
 unfold gQ at h⊢
 by_cases h1:(!mE n)=true
 ·rw[aB h1]at h;exact absurd rfl h
 ·rw[aA h1]at h⊢
  by_cases h2:(decide (e < -128)||decide (128<e))=true
  ·rw[aB h2]at h;exact absurd rfl h
  ·rw[aA h2]at h⊢
   by_cases h3:(!decide (0<szF d))=true
   ·rw[aB h3]at h;exact absurd rfl h
   ·rw[aA h3]
    exact⟨by simpa using h1,by simpa using h3,rfl⟩
theorem aC3 {x w:T3}(h:(bB x&&bB w)=true):sN 2 [x,w]=if (((x.1.length:Int) != 2)||((w.1.length:Int) != 2))=true then 2 else 0:=by
 simp only[aK]at h
 unfold sN
 rw[aB (by simp[h.1,h.2])]
 by_cases h1:(x.1.length:Int)=2/\(w.1.length:Int)=2
 ·rw[aB (by simp[h1.1,h1.2]),aA (by simp[h1.1,h1.2])]
 ·rw[aA (by simpa using h1),aB (by simp;omega)]
theorem aCp {x w:T3}(h:(bB x&&bB w)=false):sN 2 [x,w]=1:=by
 unfold sN
 rw[aA (by simpa using h)]
theorem aGK {n i:Nat}{f:Nat->Int}(hi:i<n):(tab i f++List.replicate (n-i) 0).set i (f i)=tab (i+1) f++List.replicate (n-(i+1)) 0:=by
 have hl:(tab i f).length=i:=by simp[tab]
 rw[List.set_append_right _ _ (by omega),hl,Nat.sub_self,show n-i=(n-(i+1))+1 by omega,List.replicate_succ,List.set_cons_zero,PR,gZ]
 rfl
theorem aID {R C:Nat}{f:Nat->Nat->Int}{K:List Int->Prop}{B1:Int×List Int->(Int×List Int->Prop)->Prop}{B2:Nat->(List Int->Prop)->Int×List Int->(Int×List Int->Prop)->Prop}
 (h1:∀ i L X,i<R->Go.Mach.Loop (B2 i fun y=>X (((i+1:Nat):Int),y)) (0,L)->B1 ((i:Int),L) X) (h1e:∀ L X,K L->B1 ((R:Int),L) X)
 (h2:∀ i o L K2 Y,i<R->o<C->L.length=R*C->Y (((o+1:Nat):Int),L.set (i*C+o) (f i o))->B2 i K2 ((o:Int),L) Y) (h2e:∀ i L K2 Y,K2 L->B2 i K2 ((C:Int),L) Y)
 (h:K (m7 R C f)):Go.Mach.Loop B1 (0,List.replicate (R*C) 0):=by
 rw[<- aJM]at h
 generalize hF:(fun p=>f (p / C) (p%C))=F at h
 generalize hT:R*C=T at h h2
 have e0:((0:Int),List.replicate T (0:Int))=(fun i:Nat=>((i:Int),tab (i*C) F++List.replicate (T-i*C) 0)) 0:=by simp[tab]
 rw[e0]
 refine Loop.range (B:=B1) R (fun i:Nat=>((i:Int),tab (i*C) F++List.replicate (T-i*C) 0)) (fun _=>True) trivial (fun i hi _ X hX => ?_) (fun _ X => ?_)
 ·have hX:=hX trivial
  have hrow:(i+1)*C<=R*C:=fP C hi
  have hrow2:(i+1)*C=i*C+C:=by rw[eV,jN]
  refine h1 i _ X hi ?_
  have e1:((0:Int),tab (i*C) F++List.replicate (T-i*C) 0)=(fun o:Nat=>((o:Int),tab (i*C+o) F++List.replicate (T-(i*C+o)) 0)) 0:=rfl
  rw[e1]
  refine Loop.range (B:=B2 i _) C (fun o:Nat=>((o:Int),tab (i*C+o) F++List.replicate (T-(i*C+o)) 0)) (fun _=>True) trivial (fun o ho _ Y hY => ?_) (fun _ Y => ?_)
  ·have hY:=hY trivial
   refine h2 i o _ _ Y hi ho (by simp[tab];omega) ?_
   have eF:F (i*C+o)=f i o:=by rw[<- hF];dsimp only;rw[FF ho,AE ho]
   rw[<- eF,aGK (by omega)]
   exact hY
  ·refine h2e i _ _ Y ?_
   rw[<- hrow2]
   exact hX
 ·refine h1e _ X ?_
  rw[hT,Nat.sub_self,List.replicate_zero,dV]
  exact h
theorem aPA {n C R:Nat}{g w:List Int}{K:List Int->Prop}(hg:g.length=R*n)(hw:w.length=n*C)(lg:g.length<=8192)(lw:w.length<=8192)(hn:n<=959)(lr:R*C<=8192)(hR:R<=8192)(hC:C<=8192)(bg:All8 g)(bw:All8 w)(h:K (m7 R C (inC n C g w))) :
 mS (n:Int) (C:Int) (R:Int) g w K (0,List.replicate (R*C) 0):=by
 refine⟨?_⟩
 refine aID (B1:=gJ (n:Int) (C:Int) (R:Int) g w K) (B2:=fun i K2=>dC (n:Int) (C:Int) (i:Int) (C:Int) g w K2) (fun i L X hi hL => ?_) (fun L X hK => ?_) (fun i o L K2 Y hi ho hL hY => ?_) (fun i L K2 Y hK => ?_) h
 ·unfold gJ
  rw[aB (aF (show(i:Int)<(R:Int) by omega)),aC _]
  exact⟨hL⟩
 ·unfold gJ
  rw[aA (by simp)];exact hK
 ·show dC _ _ _ _ _ _ _ _ _
  unfold dC
  rw[aB (aF (show(o:Int)<(C:Int) by omega))]
  refine⟨?_⟩
  have hlt:=fM (R:=R) (n:=C) hi ho
  refine Loop.range (B:=gD (n:Int) (C:Int) (i:Int) (o:Int) (n:Int) g w _) (f:=fun j=>(yC 0 (fun j=>g.getD (i*n+j) 0*w.getD (j*C+o) 0) j,(j:Int))) n (fun _=>True) trivial ?_ ?_
  ·intro j hj _ Z hZ
   have hZ:=hZ trivial
   unfold gD
   rw[aB (aF (show(j:Int)<(n:Int) by omega))]
   dsimp only at hZ⊢
   have hs:=JV (s:=0) (g:=fun j=>g.getD (i*n+j) 0*w.getD (j*C+o) 0) (n:=j) (by omega) (by omega) (fun j=>YV (bg.at_ _) (bw.at_ _))
   have l1:=fM (R:=R) (n:=n) hi hj
   have l2:=fM (R:=n) (n:=C) hj ho
   rw[ix (r:=i) (n:=n) (i:=j) (by omega),ix (r:=j) (n:=C) (i:=o) (by omega)]
   refine⟨⟨by omega,by omega⟩,⟨by omega,by omega⟩,?_⟩
   simp only[Int.toNat_natCast]
   rw[mac hs (bg.at_ _) (bw.at_ _),aC ((j:Int)+1)]
   exact hZ
  ·intro _ Z
   unfold gD
   rw[aA (by simp)]
   dsimp only
   have hbd:=aKT (n:=n) (C:=C) (g:=g) (w:=w) (r:=i) (i:=o) hn bg bw
   have ee:yC 0 (fun j=>g.getD (i*n+j) 0*w.getD (j*C+o) 0) n=inC n C g w i o:=rfl
   rw[ee,ix (r:=i) (n:=C) (i:=o) (by omega)]
   refine⟨⟨by omega,by omega⟩,?_⟩
   rw[bJ,uK _,aC ((o:Int)+1)]
   exact hY
 ·show dC _ _ _ _ _ _ _ _ _
  unfold dC
  rw[aA (by simp)];exact hK
theorem aOQ {n C R:Nat}{g x:List Int}{K:List Int->Prop}(hg:g.length=n*R)(hx:x.length=n*C)(lg:g.length<=8192)(lx:x.length<=8192)(hn:n<=959)(lr:R*C<=8192)(hR:R<=8192)(hC:C<=8192)(bg:All8 g)(bx:All8 x)(h:K (m7 R C (wgC n R C g x))) :
 lQ (n:Int) (R:Int) (C:Int) (R:Int) g x K (0,List.replicate (R*C) 0):=by
 refine⟨?_⟩
 refine aID (B1:=fW (n:Int) (R:Int) (C:Int) (R:Int) g x K) (B2:=fun i K2=>dA (n:Int) (R:Int) (C:Int) (i:Int) (C:Int) g x K2) (fun i L X hi hL => ?_) (fun L X hK => ?_) (fun i o L K2 Y hi ho hL hY => ?_) (fun i L K2 Y hK => ?_) h
 ·unfold fW
  rw[aB (aF (show(i:Int)<(R:Int) by omega)),aC _]
  exact⟨hL⟩
 ·unfold fW
  rw[aA (by simp)];exact hK
 ·show dA _ _ _ _ _ _ _ _ _ _
  unfold dA
  rw[aB (aF (show(o:Int)<(C:Int) by omega))]
  refine⟨?_⟩
  have hlt:=fM (R:=R) (n:=C) hi ho
  refine Loop.range (B:=fU (R:Int) (C:Int) (i:Int) (o:Int) (n:Int) g x _) (f:=fun j=>(yC 0 (fun j=>g.getD (j*R+i) 0*x.getD (j*C+o) 0) j,(j:Int))) n (fun _=>True) trivial ?_ ?_
  ·intro j hj _ Z hZ
   have hZ:=hZ trivial
   unfold fU
   rw[aB (aF (show(j:Int)<(n:Int) by omega))]
   dsimp only at hZ⊢
   have hs:=JV (s:=0) (g:=fun j=>g.getD (j*R+i) 0*x.getD (j*C+o) 0) (n:=j) (by omega) (by omega) (fun j=>YV (bg.at_ _) (bx.at_ _))
   have l1:=fM (R:=n) (n:=R) hj hi
   have l2:=fM (R:=n) (n:=C) hj ho
   rw[ix (r:=j) (n:=R) (i:=i) (by omega),ix (r:=j) (n:=C) (i:=o) (by omega)]
   refine⟨⟨by omega,by omega⟩,⟨by omega,by omega⟩,?_⟩
   simp only[Int.toNat_natCast]
   rw[mac hs (bg.at_ _) (bx.at_ _),aC ((j:Int)+1)]
   exact hZ
  ·intro _ Z
   unfold fU
   rw[aA (by simp)]
   dsimp only
   have hbd:=aJn (n:=n) (R:=R) (C:=C) (g:=g) (x:=x) (o:=i) (i:=o) hn bg bx
   have ee:yC 0 (fun j=>g.getD (j*R+i) 0*x.getD (j*C+o) 0) n=wgC n R C g x i o:=rfl
   rw[ee,ix (r:=i) (n:=C) (i:=o) (by omega)]
   refine⟨⟨by omega,by omega⟩,?_⟩
   rw[bJ,uK _,aC ((o:Int)+1)]
   exact hY
 ·show dA _ _ _ _ _ _ _ _ _ _
  unfold dA
  rw[aA (by simp)];exact hK
theorem aOJ {O:Nat}{gd d:List Int}{K0:List Int->Prop}(h8:All8 gd)(hl:gd.length<=8192)(hO:1<=O)(hO2:O<=8192)(hd:1<d.length)(hd1:d.getD 1 0=(O:Int))
 (hk:K0 (tab O fun o=>i32.wrap (sO 1 O gd o gd.length))):nH gd (gd.length:Int) d K0 (0,List.replicate O 0):=by
 refine⟨?_⟩
 have eg:((0:Int),List.replicate O (0:Int))=(fun j:Nat=>((j:Int),tab O fun o=>i32.wrap (sO 1 O gd o j))) 0:=by
  dsimp only
  congr 1
  refine aAo (by simp) fun i hi => ?_
  rw[QL hi]
  show 0=i32.wrap 0
  decide
 rw[eg]
 refine Loop.range (B:=gO gd (gd.length:Int) d K0) (f:=fun j:Nat=>((j:Int),tab O fun o=>i32.wrap (sO 1 O gd o j))) gd.length (fun _=>True) trivial ?_ ?_
 ·intro i hi _ X hX
  have hX:=hX trivial
  unfold gO
  rw[aB (aF (show(i:Int)<(gd.length:Int) by omega))]
  dsimp only at hX⊢
  have hm:=Nat.mod_lt i (show 0<O by omega)
  obtain⟨o,eo⟩:∃ o,i%O=o:=⟨_,rfl⟩
  have em:(i:Int).tmod (O:Int)=(o:Int):=by
   rw[U3 (by omega),<- WL,eo]
  rw[hd1,em,Y3]
  refine⟨by omega,by omega,by omega,by omega,by omega,?_⟩
  rw[bJ,bJ,FL _ (by omega),aE4 (by omega),aC ((i:Int)+1),JM,EE]
  have:(tab O fun j=>if j=o then i32.wrap (sO 1 O gd o i+gd.getD i 0)else i32.wrap (sO 1 O gd j i))=tab O fun o=>i32.wrap (sO 1 O gd o (i+1)):=by
   refine QC fun j hj => ?_
   unfold sO
   simp only[bC]
   by_cases e:j=o
   ·subst e
    rw[aB rfl,aB (by rw[Nat.div_one,eo])]
   ·rw[aA e,aA (by rw[Nat.div_one,eo];exact fun hh=>e hh.symm),Int.add_zero]
  rw[this]
  exact hX
 ·intro _ X
  unfold gO
  rw[aA (by simp)]
  exact hk
theorem aMK {n C c:Nat}{g:List Int}(hc:c<C):sO 1 C g c (n*C)=biC n C g c:=by
 unfold sO biC
 rw[aAS,Int.zero_add,<- aAf]
 refine BI fun i _ => ?_
 rw[aIw (k:=c) hc fun j hj hne=>by rw[Nat.div_one,AE hj,aA hne],Nat.div_one,AE hc,aB rfl]
theorem aNF {g w:T3}{Q:T3×Int->Prop}(bg:All8 g.2.2)(bw:All8 w.2.2)(h:Q (aEM g w)):oQ g w Q:=by
 refine⟨?_⟩
 refine CP (by simp) ?_
 have eall:([g,w]:List T3).all bB=(bB g&&bB w):=aD0
 rw[eall]
 unfold aEM at h
 by_cases h0:(bB g&&bB w)=true
 rotate_left
 ·have h0':(bB g&&bB w)=false:=by simpa using h0
  rw[aCp h0',aB (by rfl)]at h
  rw[aB (by rw[h0'];rfl)]
  exact h
 rw[aA (by rw[h0];simp)]
 rw[aC3 h0]at h
 simp only[aK]at h0
 obtain⟨mg,mw⟩:=h0
 refine f7 (b:=((g.1.length:Int) != 2)||((w.1.length:Int) != 2)) (c:=(g.1.getD 1 0 != w.1.getD 0 0)) (fun hb P hP=>by
  simp only[eI,GU]at hb
  exact⟨by omega,by omega,hP⟩) (fun v ev => ?_) rfl
 by_cases h1:(((g.1.length:Int) != 2)||((w.1.length:Int) != 2))=true
 ·rw[aB h1,aB (by rfl)]at h
  rw[ev,h1,MU,aB rfl]
  exact h
 have h1':(((g.1.length:Int) != 2)||((w.1.length:Int) != 2))=false:=by simpa using h1
 rw[aA h1,aA (by decide)]at h
 rw[h1',PU]at ev
 simp only[eI,GU]at h1'
 obtain⟨R,n,eg,g1,g2,g3,g4,g5,g6,g7,g8⟩:=YC mg (by omega)
 obtain⟨m,C,ew,w1,w2,w3,w4,w5,w6,w7,w8⟩:=YC mw (by omega)
 rw[eg,ew]at h ev⊢
 simp only[List.getD_cons_zero,List.getD_cons_succ,Int.toNat_natCast]at h ev⊢
 by_cases h2:(m:Int)=(n:Int)
 rotate_left
 ·rw[aB (by simpa using h2)]at h
  rw[ev,aB (by simpa using fun e=>h2 e.symm)]
  exact h
 have h2:m=n:=by omega
 subst h2
 rw[aA (by simp)]at h
 rw[ev,aA (by simp)]
 refine⟨by simp,by simp,by simp,⟨?_⟩⟩
 rw[aC (g.2.1+w.2.1)]
 rw[aAZ]at h
 refine QB ?_
 by_cases h4:((gQ [(R:Int),(C:Int)] (g.2.1+w.2.1) (m:Int)).2 != 0)=true
 ·rw[aB h4]at h⊢
  exact h
 obtain⟨k1,k2,k3⟩:=aFG h4
 rw[aA h4]at h⊢
 rw[k3]
 dsimp only
 rw[aHh k2]
 have hn:=E4 k1
 have hRC:=(aEQ _ _ k2).2.2.2.2.1
 rw[<- jR]at hRC
 exact aPA g6 w6 (by omega) (by omega) (by omega) (by omega) (by omega) (by omega) bg bw h
theorem aNa {g x:T3}{Q:T3×Int->Prop}(bg:All8 g.2.2)(bx:All8 x.2.2)(h:Q (aDv g x)):oA g x Q:=by
 refine⟨?_⟩
 refine CP (by simp) ?_
 have eall:([g,x]:List T3).all bB=(bB g&&bB x):=aD0
 rw[eall]
 unfold aDv at h
 by_cases h0:(bB g&&bB x)=true
 rotate_left
 ·have h0':(bB g&&bB x)=false:=by simpa using h0
  rw[aCp h0',aB (by rfl)]at h
  rw[aB (by rw[h0'];rfl)]
  exact h
 rw[aA (by rw[h0];simp)]
 rw[aC3 h0]at h
 simp only[aK]at h0
 obtain⟨mg,mw⟩:=h0
 refine f7 (b:=((g.1.length:Int) != 2)||((x.1.length:Int) != 2)) (c:=(g.1.getD 0 0 != x.1.getD 0 0)) (fun hb P hP=>by
  simp only[eI,GU]at hb
  exact⟨by omega,by omega,hP⟩) (fun v ev => ?_) rfl
 by_cases h1:(((g.1.length:Int) != 2)||((x.1.length:Int) != 2))=true
 ·rw[aB h1,aB (by rfl)]at h
  rw[ev,h1,MU,aB rfl]
  exact h
 have h1':(((g.1.length:Int) != 2)||((x.1.length:Int) != 2))=false:=by simpa using h1
 rw[aA h1,aA (by decide)]at h
 rw[h1',PU]at ev
 simp only[eI,GU]at h1'
 obtain⟨n,R,eg,g1,g2,g3,g4,g5,g6,g7,g8⟩:=YC mg (by omega)
 obtain⟨m,C,ew,w1,w2,w3,w4,w5,w6,w7,w8⟩:=YC mw (by omega)
 rw[eg,ew]at h ev⊢
 simp only[List.getD_cons_zero,List.getD_cons_succ,Int.toNat_natCast]at h ev⊢
 by_cases h2:(m:Int)=(n:Int)
 rotate_left
 ·rw[aB (by simpa using h2)]at h
  rw[ev,aB (by simpa using fun e=>h2 e.symm)]
  exact h
 have h2:m=n:=by omega
 subst h2
 rw[aA (by simp)]at h
 rw[ev,aA (by simp)]
 refine⟨by simp,by simp,by simp,⟨?_⟩⟩
 rw[aC (g.2.1+x.2.1)]
 rw[aAZ]at h
 refine QB ?_
 by_cases h4:((gQ [(R:Int),(C:Int)] (g.2.1+x.2.1) (m:Int)).2 != 0)=true
 ·rw[aB h4]at h⊢
  exact h
 obtain⟨k1,k2,k3⟩:=aFG h4
 rw[aA h4]at h⊢
 rw[k3]
 dsimp only
 rw[aHh k2]
 have hn:=E4 k1
 have hRC:=(aEQ _ _ k2).2.2.2.2.1
 rw[<- jR]at hRC
 exact aOQ g6 w6 (by omega) (by omega) (by omega) (by omega) (by omega) (by omega) bg bx h
theorem aMn {g:T3}{Q:T3×Int->Prop}(bg:All8 g.2.2)(h:Q (aED g)):pJ g Q:=by
 refine⟨?_⟩
 refine CP (by simp) ?_
 have eall:([g]:List T3).all bB=bB g:=by simp
 rw[eall]
 have ed:sN 2 [g]=if bB g=true then(if ((g.1.length:Int) != 2)=true then 2 else 0)else 1:=by
  unfold sN
  by_cases hm:bB g=true
  ·rw[aB hm,aB (by simp[hm])]
   by_cases hl:(g.1.length:Int)=2
   ·rw[aB (by simp[hl]),aA (by simp[hl])]
   ·rw[aA (by simpa using hl),aB (by simpa using hl)]
  ·rw[aA hm,aA (by simpa using hm)]
 unfold aED aFM at h
 rw[ed]at h
 by_cases h0:bB g=true
 rotate_left
 ·rw[aA h0]at h
  rw[aB (by simpa using h0)]
  exact h
 rw[aB h0]at h
 rw[aA (by rw[h0];simp)]
 by_cases h1:((g.1.length:Int) != 2)=true
 ·rw[aB h1]at h
  rw[aB h1]
  exact h
 rw[aA h1]at h⊢
 obtain⟨n,C,eg,g1,g2,g3,g4,g5,g6,g7,g8⟩:=YC h0 (by simp at h1;omega)
 rw[eg]at h⊢
 simp only[List.getD_cons_zero,List.getD_cons_succ,Int.toNat_natCast]at h⊢
 rw[aA (show ¬ (((0:Int) != 0)=true) by decide)]at h
 have e1:szF [1,(C:Int)]=(C:Int):=by rw[aLf (by omega) (by omega) (by omega) (by omega) (by omega),OU]
 have e2:szF [(C:Int)]=(C:Int):=aIQ (by omega) (by omega)
 refine⟨by simp,by simp,QB ?_⟩
 by_cases hf:mE (n:Int)=true
 ·have k3:gQ [(C:Int)] g.2.1 (n:Int)=(([(C:Int)],(g.2.1,List.replicate C 0)),0):=by
   unfold gQ
   rw[aA (by rw[hf];simp),aA (by simp;omega),e2,aA (by simp;omega),bJ]
  have k4:=aFP (R:=1) (C:=(C:Int)) (n:=(n:Int)) (e:=g.2.1) (f:=fun _=>biC n C g.2.2) hf (by omega) (by omega) (by rw[e1];omega)
  rw[k4]at h
  rw[k3,aA (by simp)]
  have hn:=E4 hf
  refine aOJ bg (by omega) (by omega) (by omega) (by simp) (by simp) ?_
  have er:(tab C fun o=>i32.wrap (sO 1 C g.2.2 o g.2.2.length))=m7 (1:Int).toNat ((C:Int)).toNat (fun _=>biC n C g.2.2):=by
   rw[bJ]
   have er2:m7 (1:Int).toNat C (fun _=>biC n C g.2.2)=tab C (biC n C g.2.2):=by
    show(List.range 1).flatMap _=_
    simp[sV,tab]
   rw[er2]
   refine QC fun o ho => ?_
   rw[g6,aMK ho]
   have:=aK1 (n:=n) (C:=C) (g:=g.2.2) (o:=o) (by omega) bg
   exact uK _
  rw[er]
  exact h
 ·have hf':mE (n:Int)=false:=by simpa using hf
  have k3:gQ [(C:Int)] g.2.1 (n:Int)=(Z3,3):=by
   unfold gQ
   rw[aB (by rw[hf'];rfl)]
  have k4:vJ 1 (C:Int) (n:Int) g.2.1 (fun _=>biC n C g.2.2)=(Z3,3):=by
   unfold vJ
   rw[aB (by rw[hf'];rfl)]
  rw[k4]at h
  rw[k3,aB (by rfl)]
  exact h
def IsLen (x:Int)(k:Nat):Prop:=x<2 ^ k/\2 ^ k<=2*x+1
theorem IsLen.up {x c:Int}{j k:Nat}(hc:(2:Int) ^ j=c)(hcp:0<c)(hx:c<=x)(h:IsLen (x / c) k):IsLen x (j+k):=by
 have e:=Int.mul_ediv_add_emod x c
 have r0:=Int.emod_nonneg x (show c≠0 by omega)
 have r1:=Int.emod_lt_of_pos x hcp
 have hq:1<=x / c:=(Int.le_ediv_iff_mul_le hcp).2 (by omega)
 unfold IsLen at h⊢
 rw[Int.pow_add,hc]
 generalize x / c=q at *
 generalize x%c=r at *
 cases k with
 | zero=>rw[Int.pow_zero]at h;omega
 | succ m =>
   rw[Int.pow_succ]at h⊢
   generalize (2:Int) ^ m=P at *
   have k1:c*(q+1)<=c*(P*2):=WA (by omega) (by omega)
   have k2:c*(P*2)<=c*(q*2):=WA (by omega) (by omega)
   rw[Int.mul_add,MQ]at k1
   rw[<- MJ c q 2]at k2
   omega
theorem aN5:∀ i:Fin 256,i.1<2 ^ (qR.data.toList.getD i.1 0).toNat/\2 ^ (qR.data.toList.getD i.1 0).toNat<=2*i.1+1:=by decide +kernel
theorem aKP {x n:Int}(h0:0<=x)(h:x<256)(hn:0<=n)(hm:n<=56):∃ k:Nat,l31 x n=n+k/\k<=8/\IsLen x k:=by
 have ht:=aNH ⟨x.toNat,by omega⟩
 have hl:=aN5 ⟨x.toNat,by omega⟩
 simp only at ht hl
 unfold l31
 rw[aLv x (by omega) (by omega)]
 generalize (qR.data.toList.getD x.toNat 0).toNat=m at ht hl⊢
 refine⟨m,?_,ht,?_⟩
 ·rw[aC (m:Int),aC _]
 ·have e:((2 ^ m:Nat):Int)=2 ^ m:=by rw[Int.natCast_pow];rfl
  unfold IsLen
  rw[<- e]
  omega
theorem aJg {x n:Int}(h0:0<=x)(h:x<65536)(hn:0<=n)(hm:n<=48):∃ k:Nat,l15 x n=n+k/\k<=16/\IsLen x k:=by
 have e:(2:Int) ^ (min ((8:Int)).toNat (u64).bits)=256:=by decide +kernel
 unfold l15
 rw[e]
 split
 ·rw[aC _,aA4 _ (by omega)]
  obtain⟨k,h1,h2,h3⟩:=aKP (x:=x / 256) (n:=n+8) (by omega) (by omega) (by omega) (by omega)
  exact⟨8+k,by rw[h1];omega,by omega,h3.up (c:=256) (by decide) (by omega) (by omega)⟩
 ·obtain⟨k,h1,h2,h3⟩:=aKP (x:=x) (n:=n) (by omega) (by omega) (by omega) (by omega)
  exact⟨k,h1,by omega,h3⟩
theorem aM1 {x n:Int}(h0:0<=x)(h:x<4294967296)(hn:0<=n)(hm:n<=32):∃ k:Nat,l7 x n=n+k/\k<=32/\IsLen x k:=by
 have e:(2:Int) ^ (min ((16:Int)).toNat (u64).bits)=65536:=by decide +kernel
 unfold l7
 rw[e]
 split
 ·rw[aC _,aA4 _ (by omega)]
  obtain⟨k,h1,h2,h3⟩:=aJg (x:=x / 65536) (n:=n+16) (by omega) (by omega) (by omega) (by omega)
  exact⟨16+k,by rw[h1];omega,by omega,h3.up (c:=65536) (by decide) (by omega) (by omega)⟩
 ·obtain⟨k,h1,h2,h3⟩:=aJg (x:=x) (n:=n) (by omega) (by omega) (by omega) (by omega)
  exact⟨k,h1,by omega,h3⟩
theorem aMR {x:Int}(h0:0<=x)(h:x<=4611686018427387904):∃ k:Nat,aK3 x=k/\k<=64/\IsLen x k:=by
 have e:(2:Int) ^ (min ((32:Int)).toNat (u64).bits)=4294967296:=by decide +kernel
 unfold aK3
 rw[e]
 split
 ·rw[aA4 _ (by omega)]
  obtain⟨k,h1,h2,h3⟩:=aM1 (x:=x / 4294967296) (n:=32) (by omega) (by omega) (by omega) (by omega)
  exact⟨32+k,by rw[h1];omega,by omega,h3.up (c:=4294967296) (by decide) (by omega) (by omega)⟩
 ·obtain⟨k,h1,h2,h3⟩:=aM1 (x:=x) (n:=0) (by omega) (by omega) (by omega) (by omega)
  exact⟨k,by rw[h1];omega,by omega,h3⟩
theorem aGE {a s:Int}{Q:Int×Int->Prop}(h:Q (vT a,shF s)):mW a s Q:=by
 have hr:=UF s
 refine⟨⟨⟨?_⟩⟩⟩
 show Q (vT a,u64.wrap (shF s))
 rw[p9 _]
 exact h
theorem aLJ {a:Int}{Q:Int->Prop}(h:Q (aKM a)):xT a Q:=by
 refine⟨?_⟩
 refine aGE ?_
 show sX (fun y=>Q y) (0,aO (vT a) (i64.wrap (0-vT a)))
 have hv:=aAt a
 unfold aKM at h
 rw[aC (0-vT a)]at h⊢
 have hg:0<=aO (vT a) (0-vT a)/\aO (vT a) (0-vT a)<=4611686018427387904:=by
  unfold aO;split <;> omega
 generalize aO (vT a) (0-vT a)=g at hg h⊢
 rw[p9 g]at h
 obtain⟨k,e1,e2,e3,e4⟩:=aMR hg.1 hg.2
 rw[e1]at h
 refine⟨?_⟩
 have eg:((0:Int),g)=(fun i:Nat=>((i:Int),g / 2 ^ i)) 0:=by simp
 rw[eg]
 refine Loop.range (B:=l0 _) (f:=fun i:Nat=>((i:Int),g / 2 ^ i)) k (fun _=>True) trivial ?_ ?_
 ·intro i hi _ X hX
  have hX:=hX trivial
  unfold l0
  have p1:=UT (i+1) k hi
  have p2:=(UT i i (aJ _)).1
  have hpos:0<g / 2 ^ i:=by
   rw[Int.pow_succ]at p1
   have:1<=g / 2 ^ i:=(Int.le_ediv_iff_mul_le (by omega)).2 (by omega)
   omega
  rw[aB (aF (show 0<g / 2 ^ i from hpos))]
  refine⟨by omega,?_⟩
  have e:(2:Int) ^ (min ((1:Int)).toNat (i64).bits)=2:=by decide +kernel
  have e5:g / 2 ^ (i+1)=(g / 2 ^ i).fdiv 2:=by
   rw[aA4 _ (by omega),Int.pow_succ,Int.ediv_ediv,aA (by omega),Int.sub_zero]
  simp only[e]
  rw[aC ((i:Int)+1),<- e5]
  exact hX
 ·intro _ X
  unfold l0
  have:g / 2 ^ k=0:=Int.ediv_eq_zero_of_lt hg.1 e3
  simp only[this]
  rw[aA (by simp)]
  exact h
theorem aBH {a:Int}{P P':Int->Prop}(h:JZ a P)(k:∀ r,P r->P' r):gS a P':=⟨⟨h.it.1,h.it.2.1,h.it.2.2.1,k _ h.it.2.2.2⟩⟩
theorem aO0 {a b c:Int}{Q:Int->Prop}(h:Q (atF a b c)):qE a b c Q:=⟨aBH (aO5 h).it fun r1 h1=>aBH h1 fun r2 h2=>aBH h2 fun r3 h3=>h3⟩
theorem aI8 {a s r:Int}{Q:Int->Prop}(h:Q (chF a s r)):uE a s r Q:=⟨aGE ⟨(UF s).1,(UF s).1,h⟩⟩
theorem aNv:∀ i:Fin 32,0<=i64.wrap ((i64.wrap (1*2 ^ (min (i64.wrap (((i.1:Int)+1)-1)).toNat (i64).bits)))-1)/\i64.wrap ((i64.wrap (1*2 ^ (min (i64.wrap (((i.1:Int)+1)-1)).toNat (i64).bits)))-1)<=2147483647:=by decide +kernel
theorem aKw (b:Int):0<=aCA b/\aCA b<=2147483647:=by
 have hr:=aEd b
 have:=aNv ⟨(b32 b-1).toNat,by omega⟩
 simp only at this
 rw[show(((b32 b-1).toNat:Nat):Int)+1=b32 b by omega]at this
 exact this
theorem aKa {a b:Int}{Q:Int->Prop}(h:Q (clF a b)):vV a b Q:=by
 have hr:=aEd b
 have ht:=aKw b
 refine⟨⟨?_⟩⟩
 have ew:u64.wrap (i64.wrap (b32 b-1))=i64.wrap (b32 b-1):=by
  rw[aC _,p9 _]
 show ck (0<=u64.wrap (i64.wrap (b32 b-1))) (cF a (i64.wrap (0-i64.wrap ((i64.wrap (1*2 ^ (min (u64.wrap (i64.wrap (b32 b-1))).toNat (i64).bits)))-1))) (i64.wrap ((i64.wrap (1*2 ^ (min (u64.wrap (i64.wrap (b32 b-1))).toNat (i64).bits)))-1)) (fun r=>Q r))
 rw[ew]
 refine⟨by rw[aC _];omega,⟨?_⟩⟩
 show Q (aO (i64.wrap (0-aCA b)) (aV a (aCA b)))
 have e:clF a b=aO (i64.wrap (0-aCA b)) (aV a (aCA b)):=by
  unfold clF
  rw[aC (0-aCA b)]
  unfold vT aO aV
  generalize aCA b=t at ht
  split <;> split <;> split <;> split <;> (try split) <;> omega
 rw[<- e]
 exact h
theorem aCx {a:T3}{Q:Bool->Prop}(h:Q (mD a)):o5 a Q:=by
 refine⟨?_⟩
 refine oZ ?_
 refine AB (b:=decide (0<szF a.1)) (c:=((a.2.2.length:Int)==szF a.1)) (fun _ P hp=>A9 hp) (fun v e => ?_) rfl
 have:mD a=((v&&decide (-128<=a.2.1))&&decide (a.2.1<=128)):=by
  unfold mD X5
  rw[e,aC (0-128),Bool.and_assoc _ (decide (-128<=a.2.1))]
  rfl
 rw[<- this]
 exact h
theorem aJi {a:T3}{Q:Int->Prop}(h:Q (aB3 a)):wJ a Q:=by
 refine⟨?_⟩
 refine aCx (a:=a) ?_
 unfold aB3 at h
 cases hm:mD a with
 | false =>
   rw[hm]at h
   exact h
 | true =>
   rw[hm,aB rfl]at h
   rw[aA (by simp)]
   obtain⟨_,_,_,_,hlen⟩:=GP hm
   refine⟨?_⟩
   refine Loop.range (B:=lF a.2.2 (a.2.2.length:Int) fun y=>Q y) a.2.2.length (fun i=>(aCS (a.2.2.take i),(i:Int))) (fun _=>True) trivial ?_ ?_
   ·intro i hi _ X hX
    unfold lF
    rw[aB (aF (show(i:Int)<(a.2.2.length:Int) by omega))]
    refine⟨by simp only[];omega,aLJ ?_⟩
    have:=hX trivial
    rw[ZM _ _ hi]at this
    simp only[Int.toNat_natCast]
    rw[aC ((i:Int)+1)]
    exact this
   ·intro _ X
    unfold lF
    rw[aA (by simp)]
    simp only[rJ]
    exact h
theorem aFT {a:T3}{b s t:Int}{Q:T3×Int->Prop}(h:Q (vY a b s t)):j0 a b s t Q:=by
 refine⟨?_⟩
 refine aCx (a:=a) ?_
 unfold vY at h
 by_cases e:((!(mD a)||(decide (b<2)))||(decide (8<b)))=true
 ·rw[aB e]at h⊢;exact h
 ·rw[aA e]at h⊢
  have hm:mD a=true:=by
   cases hm:mD a with
   | true=>rfl
   | false=>exfalso;apply e;rw[hm];rfl
  obtain⟨_,_,h3,h4,hlen⟩:=GP hm
  refine aJi (a:=a) ⟨by omega,?_⟩
  show(if (decide (i64.wrap (a.2.1+xY a b) < -64)||decide (64<i64.wrap (a.2.1+xY a b)))=true then _ else _)
  rw[aKh,Bool.not_not]at h
  by_cases e2:(decide (i64.wrap (a.2.1+xY a b) < -64)||decide (64<i64.wrap (a.2.1+xY a b)))=true
  ·rw[aB e2]at h⊢;exact h
  ·rw[aA e2]at h⊢
   refine⟨?_⟩
   refine Loop.range (B:=lC b s t (xY a b) a.2.2 (a.2.2.length:Int) _) (f:=fun i:Nat=>((i:Int),(List.range i).map (XI b s t (xY a b) a.2.2))) a.2.2.length (fun _=>True) trivial ?_ ?_
   ·intro i hi _ X hX
    unfold lC
    rw[aB (aF (show(i:Int)<(a.2.2.length:Int) by omega))]
    refine⟨by simp only[];omega,aO0 (aI8 (aKa ⟨?_,?_⟩))⟩
    ·simp only[FH,V7,List.length_singleton]
     omega
    ·have:=hX trivial
     simp only[sV,uM,List.map_cons,List.map_nil]at this
     simp only[Int.toNat_natCast]
     rw[aC ((i:Int)+1)]
     exact this
   ·intro _ X
    unfold lC
    rw[aA (by simp)]
    exact h
end Go.Proofs.YtcfpfefadlnmcaaGreat

namespace Go.Proofs.YtcfpfefadlnmcaaGreat
open IntKind (i8 i16 i32 i64 u8 u16 u32 u64)
open Go.Mach
set_option maxRecDepth 100000
set_option linter.unusedVariables false
set_option linter.unusedSimpArgs false
theorem aJS {l:List Int}{K0 K1:Unit->Prop}(hl:l.length<=10000000000000)(h:if l.any sU=true then K1 ()else K0 ()):oE l (l.length:Int) K0 K1 0:=by
 refine⟨?_⟩
 refine Loop.range (B:=iE l (l.length:Int) K0 K1) l.length (fun i=>(i:Int)) (fun i=>∀ j,j<i->sU (l.getD j 0)=false) (fun j hj=>absurd hj (by omega)) ?_ ?_
 ·intro i hi hI X hX
  unfold iE
  rw[aB (aF (show(i:Int)<(l.length:Int) by omega))]
  refine⟨by omega,?_⟩
  rw[bJ]
  show if sU (l.getD i 0)=true then _ else _
  cases hb:sU (l.getD i 0)with
  | true =>
    rw[aB rfl]
    have:l.any sU=true:=by
     rw[HQ]
     refine⟨l[i],fZ _,?_⟩
     rw[aW,aQ hi]at hb
     exact hb
    rw[this,aB rfl]at h
    exact h
  | false =>
    rw[aA (by simp),aC _]
    refine hX fun j hj => ?_
    by_cases hji:j=i
    ·subst hji;exact hb
    ·exact hI j (by omega)
 ·intro hI X
  unfold iE
  rw[aA (by simp)]
  have:l.any sU=false:=by
   rw[OE]
   intro x hx
   obtain⟨j,hj,rfl⟩:=List.mem_iff_getElem.1 hx
   have:=hI j hj
   rw[aW,aQ hj]at this
   simpa using this
  rw[this,aA (by simp)]at h
  exact h
def okW (p:Prm):Bool:=(((bB p.1&&bB p.2.2)&&((p.2.2.1.length:Int)==1))&&((p.2.1.length:Int)==(p.1.2.2.length:Int))) && !(p.2.1.any sU)
theorem aEr {p:Prm}{Q:Bool->Prop}(h:Q (okW p)):lX p Q:=by
 refine⟨CP (by simp) ?_⟩
 rw[aD0]
 unfold okW at h
 cases h1:(bB p.1&&bB p.2.2)with
 | false =>
   rw[h1]at h
   rw[aB (by simp)]
   exact h
 | true =>
   rw[h1]at h
   by_cases h2:(p.2.2.1.length:Int)=1
   rotate_left
   ·rw[aB (by simp;omega)]
    rw[show((p.2.2.1.length:Int)==1)=false by simp;omega]at h
    exact h
   by_cases h3:(p.2.1.length:Int)=(p.1.2.2.length:Int)
   rotate_left
   ·rw[aB (by simp;omega)]
    rw[show((p.2.1.length:Int)==(p.1.2.2.length:Int))=false by simp;omega,Bool.and_false]at h
    exact h
   rw[aA (by simp[h2,h3])]
   simp only[aK]at h1
   have:=(dD h1.1).2.1
   refine aJS (by omega) ?_
   rw[h2,h3]at h
   cases hg:p.2.1.any sU with
   | true=>rw[hg]at h;rw[aB rfl];simpa using h
   | false=>rw[hg]at h;rw[aA (by simp)];simpa using h
def okX (d:List Int)(n:Int)(p:Prm):Bool:=((((bB p.1&&bB p.2.2)&&decide (p.1.1=d))&&decide (p.2.2.1=[n]))&&((p.2.1.length:Int)==(p.1.2.2.length:Int))) && !(p.2.1.any sU)
theorem aKG {d:List Int}{n:Int}{p:Prm}(h:okX d n p=true):okW p=true/\p.1.1=d/\p.2.2.1=[n]:=by
 unfold okX at h
 simp only[aK,aT]at h
 obtain⟨⟨⟨⟨⟨m1,m2⟩,e1⟩,e2⟩,e3⟩,e4⟩:=h
 refine⟨?_,e1,e2⟩
 unfold okW
 rw[m1,m2,e3,e4,e2]
 rfl
theorem aOR {d:List Int}{n:Int}{p:Prm}(h:okW p=true)(e1:p.1.1=d)(e2:p.2.2.1=[n]):okX d n p=true:=by
 unfold okW at h
 simp only[aK]at h
 obtain⟨⟨⟨⟨m1,m2⟩,_⟩,e3⟩,e4⟩:=h
 unfold okX
 rw[m1,m2,e3,e4,aF e1,aF e2]
 rfl
theorem aN9 {d:List Int}{n:Int}{p:Prm}{nx:Bool->Prop}(hT:okX d n p=true->nx false)(hF:okX d n p=false->nx true) :
 lX p (fun(r5:Bool)=>jn (fun(v6:Bool)=>jn nx (fun J10=>if v6=true then J10 true else ck (aG 0 p.2.2.1.length) (J10 ((p.2.2.1.getD 0 0) != n)))) (fun J7=>if (!r5)=true then J7 true else bI p.1.1 d (fun(r8:Bool)=>J7 (!r8)))):=by
 refine aEr ?_
 unfold jn
 dsimp only
 cases hw:okW p with
 | false =>
   rw[aB (by rfl),aB rfl]
   refine hF ?_
   rw[WC]
   intro e
   rw[(aKG e).1]at hw
   cases hw
 | true =>
   rw[aA (by simp)]
   have h2:=hw
   unfold okW at h2
   simp only[aK,dR]at h2
   obtain⟨⟨⟨⟨m1,m2⟩,l1⟩,_⟩,_⟩:=h2
   have:=(dD m1).1
   refine GD (by omega) ?_
   by_cases e1:p.1.1=d
   ·rw[aF e1,aA (by simp)]
    refine⟨by omega,?_⟩
    obtain⟨b,hb⟩:∃ b,p.2.2.1=[b]:=by
     match hB:p.2.2.1 with
     | [b]=>exact⟨b,rfl⟩
     | []=>rw[hB]at l1;simp at l1
     | _::_::_=>rw[hB]at l1;simp at l1;omega
    rw[hb]
    show nx (b != n)
    by_cases e2:b=n
    ·rw[show(b != n)=false by simp[e2]]
     exact hT (aOR hw e1 (by rw[hb,e2]))
    ·rw[show(b != n)=true by simp[e2]]
     refine hF ?_
     rw[WC]
     intro e
     have:=(aKG e).2.2
     rw[hb]at this
     exact e2 (List.cons.inj this).1
   ·rw[kG e1]
    rw[aB (by rfl)]
    refine hF ?_
    rw[WC]
    intro e
    exact e1 (aKG e).2.1
theorem aES {m:Mdl}{l:List Prm}{Q:Bool->Prop}(hl:m.2.length<=10000000000000)(h:Q (zU m l)):pI m l Q:=by
 refine⟨I9 hl ?_⟩
 unfold zU at h
 by_cases h1:(aU m).2.2=0/\l.length=m.2.length
 rotate_left
 ·have e:(((aU m).2.2==0)&&((l.length:Int)==(m.2.length:Int)))=false:=by
   rw[WC]
   intro hh
   simp only[aK,dR]at hh
   exact h1 ⟨hh.1,by omega⟩
  rw[e]at h
  rw[aB]
  ·exact h
  ·simp only[cJ,pA,ne_eq]
   by_cases e1:(aU m).2.2=0
   ·right;intro e2;exact h1 ⟨e1,by omega⟩
   ·exact .inl e1
 have e:(((aU m).2.2==0)&&((l.length:Int)==(m.2.length:Int)))=true:=by simp[h1.1,h1.2]
 rw[e,E1]at h
 rw[aA (by simp[h1.1,h1.2])]
 obtain⟨hm,hok⟩:=uC h1.1
 have hlen:=(nP hm).2.1
 refine⟨?_⟩
 refine Loop.range (B:=gV l (l.length:Int) m.1.1 m.1.2.1 m.1.2.2 m.2 (fun _=>Q true) (fun _=>Q false)) l.length (fun i=>(i:Int)) (fun i=>∀ j,j<i->okP (m.2.getD j cA) (B5 m ((j:Int)+1)) (l.getD j gL)=true) (fun j hj=>absurd hj (by omega)) ?_ ?_
 ·intro i hi hI X hX
  unfold gV
  rw[aB (aF (show(i:Int)<(l.length:Int) by omega))]
  have hw:i64.wrap ((i:Int)+1)=(i:Int)+1:=aC _
  refine⟨by omega,?_⟩
  rw[hw]
  refine aIH (m:=m) hl ?_
  simp only[Int.toNat_natCast]
  have good:okP (m.2.getD i cA) (B5 m ((i:Int)+1)) (l.getD i gL)=true->X ((i:Int)+1):=fun hk=>hX fun j hj=>by
   by_cases hji:j=i
   ·subst hji;exact hk
   ·exact hI j (by omega)
  have bad:okP (m.2.getD i cA) (B5 m ((i:Int)+1)) (l.getD i gL)=false->Q false:=fun hk=>by
   have:TH m l=false:=by
    unfold TH
    rw[VR]
    exact⟨i,List.mem_range.2 hi,by rw[hk];simp⟩
   rw[this]at h
   exact h
  unfold okP at good bad
  generalize hD:B5 m ((i:Int)+1)=D at good bad
  by_cases hd:D.1=[]
  ·rw[aB hd]at good bad
   rw[aB (by simp[hd])]
   refine⟨by omega,⟨?_⟩⟩
   show if (((!XJ (l.getD i gL))||((m.2.getD i cA).1==1))||((m.2.getD i cA).1==2))=true then Q false else _
   cases hz:((XJ (l.getD i gL) && !((m.2.getD i cA).1==1)) && !((m.2.getD i cA).1==2))with
   | true =>
     rw[aA (by
      revert hz
      cases XJ (l.getD i gL) <;> cases ((m.2.getD i cA).1==1) <;> cases ((m.2.getD i cA).1==2) <;> simp)]
     refine⟨?_⟩
     rw[hw]
     exact good hz
   | false =>
     rw[aB (by
      revert hz
      cases XJ (l.getD i gL) <;> cases ((m.2.getD i cA).1==1) <;> cases ((m.2.getD i cA).1==2) <;> simp)]
     exact bad hz
  ·rw[aA hd]at good bad
   rw[aA (by
    have:=List.length_pos_iff.2 hd
    simp;omega)]
   refine aN9 (nx:=fun v9=>if v9=true then Q false else iX (i:Int) (fun y11=>X y11)) (fun hk => ?_) (fun hk => ?_)
   ·show if false=true then _ else _
    rw[aA (by simp)]
    refine⟨?_⟩
    rw[hw]
    exact good hk
   ·show if true=true then _ else _
    rw[aB rfl]
    exact bad hk
 ·intro hI X
  unfold gV
  rw[aA (by simp)]
  have:TH m l=true:=by
   unfold TH
   rw[jF]
   intro j hj
   exact hI j (List.mem_range.1 hj)
  rw[this]at h
  exact h
theorem aHr {n:Int}{Q:Bool->Prop}(h:Q (inP n 0 1000000)):m8 n Q:=⟨h⟩
theorem aJz {a b c:Int}{Q:Int->Prop}(h:Q (YK a b c)):gY a b c Q:=by
 refine⟨aHr ?_⟩
 unfold YK at h
 by_cases h1:((inP a 0 1000000&&inP b 0 12)&&inP c 0 15)=true
 ·rw[aB h1]at h
  have h2:=h1
  unfold inP at h2
  simp only[aK,aT]at h2
  obtain⟨⟨ha,hb⟩,hc⟩:=h2
  simp only[aK]at h1
  rw[h1.1.1,aA (by simp;omega)]
  rw[p9 a,p9 b,p9 c,p9 (a*1024),p9 (b*16),p9 (a*1024+b*16),p9 _]
  exact h
 ·rw[aA h1]at h
  rw[aB]
  ·exact h
  ·unfold inP at h1⊢
   simp only[aK,aT,not_and]at h1
   simp only[cJ,oR,JD,fB,aT]
   by_cases g1:0<=a
   ·by_cases g2:a<=1000000
    ·by_cases g3:0<=b
     ·by_cases g4:b<=12
      ·by_cases g5:0<=c
       ·right;have:=h1 ⟨⟨g1,g2⟩,g3,g4⟩ g5;omega
       ·left;right;omega
      ·left;left;right;omega
     ·left;left;left;right;omega
    ·left;left;left;left;right;exact g2
   ·left;left;left;left;left;exact g1
def aMP (d:List Int)(e:Int):T3×Int :=
 if (decide (e < -128)||decide (128<e))=true then(Z3,3)else if (!decide (0<szF d))=true then(Z3,1)else((d,(e,List.replicate (szF d).toNat 0)),0)
theorem aG7 {d:List Int}{e:Int}{Q:T3×Int->Prop}(h:Q (aMP d e)):kI d e Q:=by
 refine⟨?_⟩
 unfold aMP at h
 by_cases h2:(decide (e < -128)||decide (128<e))=true
 ·rw[aB h2]at h⊢;exact h
 ·rw[aA h2]at h⊢
  refine oZ ?_
  by_cases h3:(!decide (0<szF d))=true
  ·rw[aB h3]at h⊢;exact h
  ·rw[aA h3]at h⊢
   have:=HM d
   have:=AZ d
   refine A9 ⟨⟨by omega,by omega⟩,h⟩
theorem aEV {d:List Int}{e:Int}(h2 : -128<=e/\e<=128)(h3:0<szF d):aMP d e=((d,(e,List.replicate (szF d).toNat 0)),0):=by
 unfold aMP
 rw[aA (by simp;omega),aA (by simp[h3])]
theorem aKj {n i:Nat}{f:Nat->Int}(hi:i<=n):(tab i f++List.replicate (n-i) 0).length=n:=by
 simp[tab];omega
theorem aKF {a b:T3}(ha:bB a=true)(hb:bB b=true) : -128<=aCH a b/\aCH a b<=128:=by
 obtain⟨_,_,e1,_⟩:=lN.1 ha
 obtain⟨_,_,e2,_⟩:=lN.1 hb
 have h1:∀ p q:Int,-128<=p->p<=128 -> -128<=q->q<=128 -> -128<=aO p q/\aO p q<=128:=by
  intro p q _ _ _ _;unfold aO;split <;> omega
 have h2 : -64<=aO a.2.1 b.2.1/\aO a.2.1 b.2.1<=64:=by unfold aO;split <;> omega
 have h3 : -64<=aV a.2.1 b.2.1/\aV a.2.1 b.2.1<=64:=by unfold aV;split <;> omega
 unfold aCH
 rw[aC _]
 exact h1 _ _ (by omega) (by omega) (by omega) (by omega)
theorem aLw {a b:T3}{n:Nat}{K0:List Int->Prop}(hn:n<=8192)(h1:a.2.2.length=n)(h2:b.2.2.length=n)(h:K0 (tab n (qJ a b))):sT (aCH a b) (n:Int) a.2.1 a.2.2 b.2.1 b.2.2 K0 (0,List.replicate n 0):=by
 refine⟨?_⟩
 have e0:((0:Int),List.replicate n (0:Int))=(fun i:Nat=>((i:Int),tab i (qJ a b)++List.replicate (n-i) 0)) 0:=by simp[tab]
 rw[e0]
 refine Loop.range (B:=mB (aCH a b) (n:Int) a.2.1 a.2.2 b.2.1 b.2.2 K0) n (fun i:Nat=>((i:Int),tab i (qJ a b)++List.replicate (n-i) 0)) (fun _=>True) trivial ?_ ?_
 ·intro i hi _ X hX
  have hX:=hX trivial
  unfold mB
  rw[aB (aF (show(i:Int)<(n:Int) by omega))]
  dsimp only at hX⊢
  refine⟨by omega,?_⟩
  rw[bJ]
  refine aM3 ⟨by omega,aM3 ⟨by rw[aKj (by omega)];omega,?_⟩⟩
  rw[aC ((i:Int)+1)]
  rw[<- aGK hi]at hX
  exact hX
 ·intro _ X
  unfold mB
  rw[aA (by simp)]
  simpa using h
theorem aMi {a b:T3}{Q:T3×Int->Prop}(h:Q (addF a b)):n8 a b Q:=by
 refine⟨CP (by simp) ?_⟩
 unfold addF at h
 rw[aD0]
 by_cases hm:bB a=true/\bB b=true
 ·rw[aB hm]at h
  obtain⟨hm,hn⟩:=hm
  rw[hm,hn,aA (by simp)]
  obtain⟨h1,h2,_⟩:=dD hm
  obtain⟨k1,k2,_⟩:=dD hn
  obtain⟨q0,q1,_⟩:=lN.1 hm
  have q2:=(lN.1 hn).2.1
  refine GD (by omega) ?_
  by_cases he:a.1=b.1
  ·rw[aB he]at h
   rw[aF he,aA (by simp)]
   rw[<- he]at q2
   have hr:=aKF hm hn
   refine⟨by omega,aG7 ?_⟩
   have hE:aO (aV a.2.1 b.2.1) (i64.wrap (aO a.2.1 b.2.1-12))=aCH a b:=rfl
   rw[hE,aEV hr q0]
   dsimp only
   rw[vU]
   refine aLw (by omega) (by omega) (by omega) ?_
   have e:tab (szF a.1).toNat (qJ a b)=(List.range a.2.2.length).map (qJ a b):=by
    unfold tab
    rw[show(szF a.1).toNat=a.2.2.length by omega]
   rw[e]
   exact h
  ·rw[aA he]at h
   rw[kG he,aB (by rfl)]
   exact h
 ·rw[aA hm]at h
  have e:(bB a&&bB b)=false:=by
   rw[WC];intro e;simp only[aK]at e;exact hm e
  rw[e,aB (by rfl)]
  exact h
def TG (d:List Int)(k s:Int):List Int×Bool :=
 if ((d.length:Int) != 4)=true then([],false)else([d.getD 0 0,d.getD 1 0,bA (d.getD 2 0) k s 0,bA (d.getD 3 0) k s 0],decide (0<bA (d.getD 2 0) k s 0)&&decide (0<bA (d.getD 3 0) k s 0))
theorem aJF {d:List Int}{k s:Int}{Q:List Int×Bool->Prop}(h:Q (TG d k s)):s4 d k s Q:=by
 refine⟨?_⟩
 unfold TG at h
 by_cases h1:((d.length:Int) != 4)=true
 ·rw[aB h1]at h⊢;exact h
 ·rw[aA h1]at h⊢
  have:d.length=4:=by simp at h1;omega
  refine⟨by omega,by omega,I4 ⟨by omega,by omega,h⟩⟩
theorem aLS {k:Int}{Q:Int->Prop}(hk:1<=k/\k<=5)(h:Q (aAH k)):vX k Q:=by
 rcases(by omega:k=1\/k=2\/k=3\/k=4\/k=5)with e|e|e|e|e <;> subst e
 ·exact⟨by decide,h⟩
 ·exact⟨by decide,h⟩
 ·exact⟨by decide,h⟩
 ·exact⟨by decide,h⟩
 ·exact⟨by decide,h⟩
section
variable {N H V P Q:Nat} {k s:Int} {X:List Int}
theorem PoolIn.small (g:PoolIn N H V P Q k s X):P<=H/\Q<=V:=by
 have p1:=g.p1
 have q1:=g.q1
 have hs:=g.hs
 have hk:=g.hk
 have a:=QP (r:=(P:Int)-1) g.hP p1 ⟨by omega,by omega⟩
 have b:=QP (r:=(Q:Int)-1) g.hQ q1 ⟨by omega,by omega⟩
 have a1:(P:Int)-1<=s*((P:Int)-1):=by
  have:=PQ hs.1 (show 0<=(P:Int)-1 by omega)
  omega
 have b1:(Q:Int)-1<=s*((Q:Int)-1):=by
  have:=PQ hs.1 (show 0<=(Q:Int)-1 by omega)
  omega
 omega
theorem aLd {n m i p q:Nat}(hp:p<P)(hq:q<Q):ix4 m P Q n i p q=(n*m+i)*(P*Q)+(p*Q+q):=by
 unfold ix4
 rw[eV,cK ((n*m+i)) P Q,yX]
end
theorem aLp {n m H V P Q:Nat}{k s:Int}{X:List Int}(g:PoolIn (n*m) H V P Q k s X)(hn:1<=n/\n<=4096)(hm:1<=m/\m<=4096){t:Nat}(ht:t<n*m*(P*Q)) :
 ∃ a i p q:Nat,a<n/\i<m/\p<P/\q<Q/\(∀ Q':List Int->Prop,Q' [(a:Int),i,p,q]->iK [(n:Int),m,P,Q] (t:Int) Q') /\
   i64.wrap (i64.wrap (i64.wrap (i64.wrap ((a:Int)*m)+(i:Int))*H)*V)=(((a*m+i)*H*V:Nat):Int) /\
   (fX H V p q k s 0).length<=1000000/\fX H V p q k s 0≠[]/\(∀ z∈fX H V p q k s 0,0<=z.1/\(((a*m+i)*H*V:Nat):Int)+z.1<(X.length:Int)) /\
   pZ H V k s P Q t=(fX H V p q k s 0).map fun z=>(((a*m+i)*H*V:Nat):Int)+z.1:=by
 obtain⟨l1,l2,l3⟩:=g.le
 obtain⟨s1,s2⟩:=g.small
 have p1:=g.p1
 have q1:=g.q1
 have hx:=g.hx
 have bx:=g.bx
 have hPQ:P*Q<=H*V:=dE s1 s2
 have hsz:n*m*P*Q<=8192:=by
  have:=Nat.mul_le_mul_left (n*m) hPQ
  rw[cK (n*m) P Q]
  omega
 have hs:0<szF [(n:Int),m,P,Q]:=by
  rw[aLs hn hm (by omega) (by omega) hsz]
  have h1:1<=n*m:=zN hn.1 hm.1
  have h2:1<=n*m*P:=zN h1 p1
  have h3:1<=n*m*P*Q:=zN h2 q1
  omega
 have ht':t<n*m*P*Q:=by rw[cK (n*m) P Q];exact ht
 obtain⟨a,i,p,q,ha,hi,hp,hq,et⟩:=VB ht'
 have h7:=fM (r:=a) (R:=n) (n:=m) (i:=i) ha hi
 have h8:=fM (r:=p) (R:=P) (n:=Q) (i:=q) hp hq
 obtain⟨_,c3,c4,c5,c6⟩:=g.cell h7 h8
 rw[FF hq,AE hq]at c3 c4 c5 c6
 have e9:(a*m+i)*H*V=(a*m+i)*(H*V):=cK _ _ _
 have h10:(a*m+i)*(H*V)<=n*m*(H*V):=fP _ (by omega)
 have g1:(a*m+i)*H<=(a*m+i)*H*V:=bK _ g.hV.1
 refine⟨a,i,p,q,ha,hi,hp,hq,fun Q' hQ' => ?_,?_,by omega,c5,fun z hz => ?_,?_⟩
 ·rw[et]
  exact aCv hs ha hi hp hq hQ'
 ·rw[ix (r:=a) (n:=m) (i:=i) (by omega),xC (r:=a*m+i) (n:=H) (by omega),xC (r:=(a*m+i)*H) (n:=V) (by omega)]
 ·have:=c4 z hz
  have h11:=fM (r:=a*m+i) (R:=n*m) (n:=H*V) (i:=z.1.toNat) h7 (by omega)
  rw[hx]
  omega
 ·rw[et,aLd hp hq]
  exact c6
end Go.Proofs.YtcfpfefadlnmcaaGreat

namespace Go.Proofs.YtcfpfefadlnmcaaGreat
open IntKind (i8 i16 i32 i64 u8 u16 u32 u64)
open Go.Mach Go.RowKit
set_option maxRecDepth 100000
set_option linter.unusedVariables false
set_option linter.unusedSimpArgs false
def NF (v:Int)(L l:List Int):List Int:=l.foldl (fun L a=>L.set a.toNat (i32.wrap (L.getD a.toNat 0+v))) L
theorem QO (v:Int):∀ (l L:List Int),(NF v L l).length=L.length
 | [],L=>rfl
 | a::l,L=>by
   show(NF v (L.set _ _) l).length=_
   rw[QO v l,ET]
theorem aA5 {v:Int}{L l:List Int}{i:Nat}(hi:i<l.length):NF v L (l.take (i+1))=(NF v L (l.take i)).set (l.getD i 0).toNat (i32.wrap ((NF v L (l.take i)).getD (l.getD i 0).toNat 0+v)):=by
 rw[FP hi 0]
 unfold NF
 rw[S3]
 rfl
theorem aMF {gd L l:List Int}{t:Nat}{K0:List Int->Prop}(hl:l.length<=1000000)(hr:∀ a∈l,0<=a/\a<(L.length:Int))(ht:t<gd.length)(h:K0 (NF (i32.wrap (gd.getD t 0)) L l)) :
 dG (t:Int) (l.length:Int) gd l K0 (0,L):=by
 refine⟨?_⟩
 refine Loop.range (B:=bZ (t:Int) (l.length:Int) gd l K0) l.length (fun i:Nat=>((i:Int),NF (i32.wrap (gd.getD t 0)) L (l.take i))) (fun _=>True) trivial ?_ ?_
 ·intro i hi _ X hX
  have hX:=hX trivial
  unfold bZ
  rw[aB (aF (show(i:Int)<(l.length:Int) by omega))]
  dsimp only at hX⊢
  have hm:=hr (l.getD i 0) (by rw[aW,aQ hi];exact fZ hi)
  rw[bJ,bJ,QO]
  refine⟨by omega,by omega,by omega,by omega,?_⟩
  rw[aC ((i:Int)+1)]
  rw[aA5 hi]at hX
  exact hX
 ·intro _ X
  unfold bZ
  rw[aA (by simp),rJ]
  exact h
theorem aN1 {n H V:Nat}{w:List (Int×Int×Int)}{K0:List Int->Prop}(hb:n*H*V<=100000000)(hV:1<=V)(hw:w.length<=1000000)(hz:∀ z∈w,0<=z.1/\z.1<=100000000)(h:K0 (w.map fun z=>((n*H*V:Nat):Int)+z.1)) :
 iG n (w.length:Int) H V w K0 (0,[]):=by
 refine⟨?_⟩
 have e0:((0:Int),([]:List Int))=(fun i:Nat=>((i:Int),(w.take i).map fun z=>((n*H*V:Nat):Int)+z.1)) 0:=by simp
 rw[e0]
 refine Loop.range (B:=d9 n (w.length:Int) H V w K0) w.length (fun i:Nat=>((i:Int),(w.take i).map fun z=>((n*H*V:Nat):Int)+z.1)) (fun _=>True) trivial ?_ ?_
 ·intro i hi _ X hX
  have hX:=hX trivial
  unfold d9
  rw[aB (aF (show(i:Int)<(w.length:Int) by omega))]
  dsimp only at hX⊢
  have hm:=hz (w.getD i (0,0,0)) (by rw[aW,aQ hi];exact fZ hi)
  refine⟨by omega,?_⟩
  rw[bJ]
  rcases QJ hb hm with e|e
  ·rw[e,aC ((i:Int)+1)]
   refine⟨by simp;omega,?_⟩
   rw[FP hi (0,0,0),uM]at hX
   exact hX
  ·omega
 ·intro _ X
  unfold d9
  rw[aA (by simp),rJ]
  exact h
def bkF (gd:List Int)(cell:Nat->List Int)(L:List Int)(t:Nat):List Int:=(List.range t).foldl (fun L t=>NF (i32.wrap (gd.getD t 0)) L (cell t)) L
theorem aA9 (gd:List Int)(cell:Nat->List Int)(L:List Int)(t:Nat):bkF gd cell L (t+1)=NF (i32.wrap (gd.getD t 0)) (bkF gd cell L t) (cell t):=by
 unfold bkF
 rw[sV,S3]
 rfl
theorem Y7 (gd:List Int)(cell:Nat->List Int)(L:List Int):∀ t,(bkF gd cell L t).length=L.length
 | 0=>rfl
 | t+1=>by rw[aA9,QO,Y7 gd cell L t]
section
variable {N H V P Q:Nat} {k s:Int} {X gd:List Int}
theorem aNV (g:PoolIn N H V P Q k s X)(hg:gd.length=N*(P*Q)){n:Nat}(hn:n<N){K0:List Int->Prop}(h:K0 (bkF gd (pZ H V k s P Q) X (n*(P*Q)+P*Q))) :
 iH n ((P*Q:Nat):Int) gd H V k s P Q K0 (0,bkF gd (pZ H V k s P Q) X (n*(P*Q))):=by
 obtain⟨l1,l2,l3⟩:=g.le
 have q1:=g.q1
 have hPQ:P*Q<=25*25:=dE l1 l2
 have hNN:n*(P*Q)<=8192*(25*25):=dE (by omega) hPQ
 have hN1:n*(P*Q)+P*Q<=N*(P*Q):=by
  have:=fP (P*Q) hn
  rw[Nat.succ_mul]at this
  exact this
 have hx:=g.hx
 have bx:=g.bx
 refine⟨?_⟩
 have e0:((0:Int),bkF gd (pZ H V k s P Q) X (n*(P*Q)))=(fun i:Nat=>((i:Int),bkF gd (pZ H V k s P Q) X (n*(P*Q)+i))) 0:=rfl
 rw[e0]
 refine Loop.range (B:=d7 n ((P*Q:Nat):Int) gd H V k s P Q K0) (P*Q) (fun i:Nat=>((i:Int),bkF gd (pZ H V k s P Q) X (n*(P*Q)+i))) (fun _=>True) trivial ?_ ?_
 ·intro i hi _ Y hY
  have hY:=hY trivial
  obtain⟨⟨c1,c2⟩,c3,c4,c5,c6⟩:=g.cell hn hi
  have c7:=g.addr hn hi
  unfold d7
  rw[aB (aF (show(i:Int)<((P*Q:Nat):Int) by omega))]
  dsimp only at hY⊢
  refine⟨by omega,by omega,?_⟩
  have e1:i64.wrap ((i:Int).tdiv (Q:Int))=((i / Q:Nat):Int):=by
   rw[<- Int.ofNat_tdiv];exact aC _ (by have:=aAK (i / Q);generalize i / Q=y at *;omega) (by have:=VP i Q;generalize i / Q=y at *;omega)
  have e2:(i:Int).tmod (Q:Int)=((i%Q:Nat):Int):=(Int.ofNat_tmod _ _).symm
  rw[e1,e2]
  refine PL ?_
  have hb:n*H*V<=100000000:=by
   have h7:n*H*V=n*(H*V):=cK _ _ _
   have:=fP (H*V) (rI hn)
   omega
  refine aN1 hb g.hV.1 (by omega) (fun z hz=>by
   have:=c4 z hz
   have h8:H*V<=16*16:=dE g.hH.2 g.hV.2
   omega) ?_
  rw[<- c6]
  have hlen:(pZ H V k s P Q (n*(P*Q)+i)).length<=25:=by rw[c6];simpa using c3
  have e3:i64.wrap (i64.wrap (i64.wrap ((n:Int)*(P:Int))*(Q:Int))+(i:Int))=((n*(P*Q)+i:Nat):Int):=by
   rcases QJ (n:=n) (H:=P) (V:=Q) (a:=(i:Int)) (by rw[cK];omega) (by omega)with e|e
   ·rw[e,cK];rfl
   ·omega
  rw[e3]
  refine aMF (by omega) (by rw[Y7];exact c7) (by omega) ?_
  rw[aC ((i:Int)+1)]
  rw[show n*(P*Q)+(i+1)=n*(P*Q)+i+1 by omega,aA9]at hY
  exact hY
 ·intro _ Y
  unfold d7
  rw[aA (by simp)]
  exact h
theorem aLP (g:PoolIn N H V P Q k s X)(hg:gd.length=N*(P*Q)){K0:List Int->Prop}(h:K0 (bkF gd (pZ H V k s P Q) X (N*(P*Q)))):iI (N:Int) gd H V k s P Q K0 (0,X):=by
 obtain⟨l1,l2,l3⟩:=g.le
 refine⟨?_⟩
 have e0:((0:Int),X)=(fun n:Nat=>((n:Int),bkF gd (pZ H V k s P Q) X (n*(P*Q)))) 0:=by simp[bkF]
 rw[e0]
 refine Loop.range (B:=dZ (N:Int) gd H V k s P Q K0) N (fun n:Nat=>((n:Int),bkF gd (pZ H V k s P Q) X (n*(P*Q)))) (fun _=>True) trivial ?_ ?_
 ·intro n hn _ Y hY
  have hY:=hY trivial
  unfold dZ
  rw[aB (aF (show(n:Int)<(N:Int) by omega))]
  dsimp only at hY⊢
  have hPQ:P*Q<=25*25:=dE l1 l2
  rw[xC (r:=P) (n:=Q) (by omega)]
  refine aNV g hg hn ?_
  rw[aC ((n:Int)+1)]
  rw[eV,jN]at hY
  exact hY
 ·intro _ Y
  unfold dZ
  rw[aA (by simp)]
  exact h
end
def abD (d:List Int)(k s:Int):List Int:=[d.getD 0 0,d.getD 1 0,bA (d.getD 2 0) k s 0,bA (d.getD 3 0) k s 0]
def abE (g:T3)(d:List Int)(k s:Int):Int :=
 if bB g=true/\0<szF d then(if (d.length=4/\0<bA (d.getD 2 0) k s 0/\0<bA (d.getD 3 0) k s 0)/\g.1=abD d k s then 0 else 2)else 1
def aGw (g:T3)(d:List Int)(k s:Int):List Int :=
 bkF g.2.2 (pZ (d.getD 2 0).toNat (d.getD 3 0).toNat k s (bA (d.getD 2 0) k s 0).toNat (bA (d.getD 3 0) k s 0).toNat) (List.replicate (szF d).toNat 0) ((d.getD 0 0*d.getD 1 0).toNat*((bA (d.getD 2 0) k s 0).toNat*(bA (d.getD 3 0) k s 0).toNat))
def JK (g:T3)(d:List Int)(k s:Int):T3×Int :=
 if (abE g d k s != 0)=true then(Z3,abE g d k s)else((d,(i64.wrap (g.2.1-aAH k),aGw g d k s)),0)
theorem aIT {g:T3}{d:List Int}{k s:Int}{Q:T3×Int->Prop}(h:Q (JK g d k s)):MB g d k s Q:=by
 refine⟨qD ?_⟩
 unfold jn
 dsimp only
 unfold JK at h
 cases hm:bB g with
 | false =>
   have e:abE g d k s=1:=by unfold abE;rw[aA (by rw[hm];simp)]
   rw[e]at h
   exact h
 | true =>
   rw[aA (by simp)]
   refine PB ?_
   by_cases hs:0<szF d
   rotate_left
   ·have e:abE g d k s=1:=by unfold abE;rw[aA (fun hh=>hs hh.2)]
    rw[e]at h
    rw[kG hs,aB (by rfl)]
    exact h
   rw[aF hs,aA (by simp)]
   refine aEF (fun hl => ?_) (fun hl => ?_)
   ·have e:abE g d k s=2:=by unfold abE;rw[aB ⟨hm,hs⟩,aA (by rintro⟨⟨h1,_⟩,_⟩;simp[h1]at hl)]
    rw[e]at h
    exact h
   have hl4:d.length=4:=by
    have:(d.length:Int)=4:=by simpa using hl
    omega
   cases hpq:(decide (0<bA (d.getD 2 0) k s 0)&&decide (0<bA (d.getD 3 0) k s 0))with
   | false =>
     have e:abE g d k s=2:=by
      unfold abE
      rw[aB ⟨hm,hs⟩,aA]
      rintro⟨⟨_,h1,h2⟩,_⟩
      rw[aF h1,aF h2]at hpq
      cases hpq
     rw[e]at h
     exact h
   | true =>
     rw[aA (by simp)]
     have hpq':=hpq
     simp only[aK,aT]at hpq'
     refine⟨by omega,by omega,OR (by have:=(dD hm).1;omega) ?_⟩
     by_cases hd:g.1=abD d k s
     rotate_left
     ·have e:abE g d k s=2:=by unfold abE;rw[aB ⟨hm,hs⟩,aA (fun hh=>hd hh.2)]
      rw[e]at h
      rw[show decide (g.1=[d.getD 0 0,d.getD 1 0,bA (d.getD 2 0) k s 0,bA (d.getD 3 0) k s 0])=false from kG hd,aB (by rfl)]
      exact h
     have e:abE g d k s=0:=by unfold abE;rw[aB ⟨hm,hs⟩,aB ⟨⟨hl4,hpq'⟩,hd⟩]
     rw[e,aA (by simp)]at h
     rw[show decide (g.1=[d.getD 0 0,d.getD 1 0,bA (d.getD 2 0) k s 0,bA (d.getD 3 0) k s 0])=true from aF hd,aA (by simp)]
     refine BD (by omega) ⟨by decide,OG ⟨by have:=(tP hs).2.2.2;have:=(tP hs).2.2.1;omega,by omega,by omega,?_⟩⟩
     obtain⟨a,b,c,dd,ed⟩:=aN7 (l:=d) (by omega)
     subst ed
     obtain⟨n,m,H,V,rfl,rfl,rfl,rfl,n1,m1,H1,V1,hb,hsz⟩:=aBp hs
     unfold aGw at h
     simp only[List.getD_cons_succ,List.getD_cons_zero,abD]at h hd hpq'⊢
     obtain⟨P,eP,_⟩:=pT (n:=(H:Int)) (k:=k) (s:=s) (p:=0)
     obtain⟨R,eQ,_⟩:=pT (n:=(V:Int)) (k:=k) (s:=s) (p:=0)
     obtain⟨a1,a2,a3,_⟩:=lO hpq'.1
     obtain⟨b1,_⟩:=lO hpq'.2
     rw[eP,eQ]at h hd hpq'⊢
     have en:((n:Int)*(m:Int)).toNat=n*m:=by rw[<- jR];exact bJ _
     rw[en,hsz]at h
     simp only[Int.toNat_natCast]at h
     have hnm:n*m<=n*m*H*V:=by rw[cK (n*m)];exact bK _ (zN H1 V1)
     rw[xC (r:=n) (n:=m) (by omega),hsz,bJ]
     obtain⟨_,_,_,_,e4,_,_,_,_,_,hgl,_,_⟩:=S1 hm (by rw[hd];rfl)
     rw[hd]at e4
     simp only[List.cons.injEq,Int.natCast_inj,and_true]at e4
     obtain⟨rfl,rfl,rfl,rfl⟩:=e4
     exact aLP (N:=n*m) ⟨by rw[vU,cK (n*m)],by rw[<- cK];exact hb,by omega,by omega,a2,a3,eP,eQ,by omega,by omega⟩ (by rw[hgl,cK (n*m)]) h
def aFF (gd fr:List Int)(L:List Int)(t:Nat):List Int:=(List.range t).foldl (fun L t=>L.set (fr.getD t 0).toNat (i32.wrap (L.getD (fr.getD t 0).toNat 0+i32.wrap (gd.getD t 0)))) L
theorem WM (gd fr L:List Int)(t:Nat):aFF gd fr L (t+1)=(aFF gd fr L t).set (fr.getD t 0).toNat (i32.wrap ((aFF gd fr L t).getD (fr.getD t 0).toNat 0+i32.wrap (gd.getD t 0))):=by
 unfold aFF
 rw[sV,S3]
 rfl
theorem aBB (gd fr L:List Int):∀ t,(aFF gd fr L t).length=L.length
 | 0=>rfl
 | t+1=>by rw[WM,ET,aBB gd fr L t]
def mxE (g:T3)(fr d:List Int):Int :=
 if bB g=true/\0<szF d then(if fr.length=g.2.2.length then(if (fr.all fun a=>inP a 0 (szF d-1))=true then 0 else 1)else 2)else 1
def JI (g:T3)(fr d:List Int):T3×Int :=
 if (mxE g fr d != 0)=true then(Z3,mxE g fr d)else((d,(g.2.1,aFF g.2.2 fr (List.replicate (szF d).toNat 0) fr.length)),0)
theorem aJL {g:T3}{fr d:List Int}{Q:T3×Int->Prop}(h:Q (JI g fr d)):KB g fr d Q:=by
 refine⟨OG (qD ?_)⟩
 unfold JI at h
 have hn:=AZ d
 by_cases hs:bB g=true/\0<szF d
 rotate_left
 ·have e:mxE g fr d=1:=by unfold mxE;rw[aA hs]
  rw[e]at h
  rw[aB]
  ·exact h
  ·simp only[cJ,oR,dR]
   cases hm:bB g with
   | false=>exact .inl rfl
   | true=>right;have : ¬ 0<szF d:=fun hh=>hs ⟨hm,hh⟩;omega
 rw[aA (by simp only[cJ,oR,dR,hs.1];have:=hs.2;rintro(h1|h1);cases h1;omega)]
 by_cases hl:fr.length=g.2.2.length
 rotate_left
 ·have e:mxE g fr d=2:=by unfold mxE;rw[aB hs,aA hl]
  rw[e]at h
  rw[aB (by simp only[pA,ne_eq];omega)]
  exact h
 rw[aA (by simp[hl])]
 obtain⟨hd1,_,hd3,hd4⟩:=tP hs.2
 obtain⟨k1,k2,_⟩:=dD hs.1
 refine BD (by omega) ⟨by omega,⟨?_⟩⟩
 have hK1:(fr.all fun a=>inP a 0 (szF d-1))=false->Q (Z3,1):=fun hf=>by
  have e:mxE g fr d=1:=by unfold mxE;rw[aB hs,aB hl,aA (by rw[hf];simp)]
  rw[e]at h
  exact h
 refine Loop.range (B:=tF (szF d) fr (fr.length:Int) g.2.2 _ _) fr.length (fun i:Nat=>((i:Int),aFF g.2.2 fr (List.replicate (szF d).toNat 0) i)) (fun i=>(fr.take i).all (fun a=>inP a 0 (szF d-1))=true) rfl ?_ ?_
 ·intro i hi hI X hX
  unfold tF
  rw[aB (aF (show(i:Int)<(fr.length:Int) by omega))]
  dsimp only at hX⊢
  rw[bJ]
  refine⟨by omega,?_⟩
  cases hb:inP (fr.getD i 0) 0 (szF d-1)with
  | false =>
    rw[aB]
    ·exact hK1 (aA3 (d:=0) hi hb)
    ·unfold inP at hb
     simp only[JD,fB]at hb
     simp only[cJ,aT]
     omega
  | true =>
    have hb':=hb
    unfold inP at hb'
    simp only[aK,aT]at hb'
    rw[aA (by simp only[cJ,aT];omega),aBB,vU]
    refine⟨by omega,by omega,by omega,?_⟩
    have hX:=hX (by rw[OJ (d:=0) hi,hI,hb];rfl)
    rw[WM]at hX
    rw[aC ((i:Int)+1)]
    exact hX
 ·intro hI X
  unfold tF
  rw[aA (by simp)]
  rw[rJ]at hI
  have e:mxE g fr d=0:=by unfold mxE;rw[aB hs,aB hl,aB hI]
  rw[e,aA (by simp)]at h
  exact h
def rbF (g x:T3):T3×Int :=
 if bB g=true/\bB x=true then(if g.1=x.1 then((g.1,g.2.1,tab g.2.2.length fun i=>if 0<x.2.2.getD i 0 then g.2.2.getD i 0 else 0),0)else(Z3,2))else(Z3,1)
theorem aG0 {g x:T3}{Q:T3×Int->Prop}(h:Q (rbF g x)):HI g x Q:=by
 refine⟨qD ?_⟩
 unfold jn
 dsimp only
 unfold rbF at h
 cases hm:bB g with
 | false =>
   rw[aA (by rw[hm];simp)]at h
   rw[aB (by rfl),aB rfl]
   exact h
 | true =>
   rw[aA (by simp)]
   refine qD ?_
   cases hx:bB x with
   | false =>
     rw[aA (by rw[hx];simp)]at h
     rw[aB (by rfl)]
     exact h
   | true =>
     rw[aB ⟨hm,hx⟩]at h
     rw[aA (by simp)]
     obtain⟨h1,h2,_⟩:=dD hm
     refine OR (by omega) ?_
     by_cases he:g.1=x.1
     rotate_left
     ·rw[aA he]at h
      rw[kG he,aB (by rfl)]
      exact h
     rw[aB he]at h
     rw[aF he,aA (by simp)]
     have hlen:x.2.2.length=g.2.2.length:=by
      have a:=(lN.1 hm).2.1
      have b:=(lN.1 hx).2.1
      rw[he]at a
      omega
     refine⟨BD (by omega) ⟨?_⟩⟩
     refine Loop.range (B:=fV x.1 x.2.1 x.2.2 g.1 g.2.1 g.2.2 (g.2.2.length:Int) _) g.2.2.length (fun i:Nat=>((i:Int),tab i fun i=>if 0<x.2.2.getD i 0 then g.2.2.getD i 0 else 0)) (fun _=>True) trivial ?_ ?_
     ·intro i hi _ X hX
      have hX:=hX trivial
      unfold fV
      dsimp only at hX⊢
      rw[aB (aF (show(i:Int)<(g.2.2.length:Int) by omega))]
      rw[PR]at hX
      refine⟨⟨by omega,?_⟩⟩
      rw[bJ]
      by_cases hp:0<x.2.2.getD i 0
      ·rw[aB hp]at hX
       rw[aB (aF hp)]
       refine⟨by omega,by simp[tab];omega,?_⟩
       rw[aC _]
       exact hX
      ·rw[aA hp]at hX
       rw[aA (by simpa using hp)]
       refine⟨by simp[tab];omega,?_⟩
       rw[aC _]
       exact hX
     ·intro _ X
      unfold fV
      dsimp only
      rw[aA (by simp)]
      exact h
end Go.Proofs.YtcfpfefadlnmcaaGreat
