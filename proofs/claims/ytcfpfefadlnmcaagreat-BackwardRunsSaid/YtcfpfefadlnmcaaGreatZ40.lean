/- Part of the proof. No condition. -/
import Derived.Test.YtcfpfefadlnmcaaGreatZ39
import Derived.Test.YtcfpfefadlnmcaaGreatZ38
import Derived.Test.YtcfpfefadlnmcaaGreatYVTold
import Derived.Test.YtcfpfefadlnmcaaGreatZ37
namespace Go.Proofs.YtcfpfefadlnmcaaGreat
open Go.Mach Go.RowKit
set_option maxRecDepth 100000
set_option linter.unusedVariables false
set_option linter.unusedSimpArgs false
def unB (back:List (List T3)):List T3:=back.map fun l=>l.getD 0 Z3
def BN (back:List (List T3)):Prop:=∀ l∈back,l=[]\/∃ t:T3,l=[t]/\t.1≠[]
theorem aHb (back:List (List T3)):(unB back).length=back.length:=B8 _
theorem aDL (back:List (List T3))(i:Nat)(t:T3):unB (back.set i [t])=(unB back).set i t:=by unfold unB;rw[List.map_set];rfl
theorem BN.set {back:List (List T3)}(h:BN back){i:Nat}{t:T3}(ht:t.1≠[]):BN (back.set i [t]):=by
 intro l hl
 rcases List.mem_or_eq_of_mem_set hl with h1|h1
 ·exact h l h1
 ·exact .inr ⟨t,h1,ht⟩
theorem BN.at_ {back:List (List T3)}(h:BN back)(i:Nat):(back.getD i []=[]/\(unB back).getD i Z3=Z3)\/∃ t:T3,back.getD i []=[t]/\t.1≠[]/\(unB back).getD i Z3=t:=by
 unfold unB
 rw[aW,aW,mE]
 cases hi:back[i]? with
 | none=>exact .inl ⟨rfl,rfl⟩
 | some l =>
   rcases h l (sR hi)with h1|⟨t,h1,ht⟩
   ·subst h1;exact .inl ⟨rfl,rfl⟩
   ·subst h1;exact .inr ⟨t,rfl,ht,rfl⟩
theorem aEX {l:List Int}(h:l≠[]):(0:Int)<(l.length:Int):=by
 have:=List.length_pos_iff.2 h
 omega
theorem AS {st s:Int}{a:T3}{e i w:Int}(h:(mK st s a e i w).2=0):(mK st s a e i w).1.1≠[]:=by
 unfold mK at h⊢
 split at h
 ·rename_i h1;exact absurd h (by simpa using h1)
 ·rename_i h1
  rw[aA h1]
  unfold sQ at h⊢
  split at h
  ·cases h
  ·rename_i h2
   rw[aA h2]
   split at h
   ·cases h
   ·rename_i h3
    rw[aA h3]
    simp only[cG,nJ,gI,Bool.not_eq_false]at h2
    have hm:=h2.1.1
    intro e0
    unfold lM at hm
    have e0:a.1=[]:=e0
    rw[e0]at hm
    simp[szF]at hm
theorem aHl {st s i:Int}{g:T3}{back:List (List T3)}(h:(KO st s back i g).1≠0):(KO st s back i g).2=back:=by
 unfold KO at h⊢
 split
 ·split
  ·rfl
  ·rename_i t ht h1
   rw[ht]at h
   simp only[aA h1]at h
   exact absurd rfl h
 ·rename_i hn
  split at h
  ·rename_i t ht;exact absurd ht (hn t)
  ·exact absurd rfl h
theorem aMw {st s i:Int}{g:T3}{back:List (List T3)}(h:BN back)(hg:g.1≠[]):BN (KO st s back i g).2:=by
 unfold KO
 split
 ·split
  ·exact h
  ·rename_i h1
   exact h.set (AS (by simpa using h1))
 ·exact h.set hg
theorem aH4 {st s i:Int}{g:T3}{back:List (List T3)}{A:Int->Prop}{B:List T3->Prop}(hB:BN back)(hi:0<=i/\i<(back.length:Int))
 (h0:(KO st s back i g).1=0->B (unB (KO st s back i g).2)) (h1:(KO st s back i g).1≠0->A (KO st s back i g).1) :
 ck (aF i (unB back).length) (if (decide (0<((((unB back).getD i.toNat Z3).1).length:Int)))=true then ck (aF i (unB back).length) (j0 ((unB back).getD i.toNat Z3) g (fun r5=>if (r5.2 != 0)=true then A r5.2 else bJ st i 1 (fun r6=>cB r5.1 8 s r6 (fun r7=>if (r7.2 != 0)=true then A r7.2 else ck (aF i (unB back).length) (B ((unB back).set i.toNat r7.1))))))else ck (aF i (unB back).length) (B ((unB back).set i.toNat g))):=by
 rw[aHb]
 refine⟨hi,?_⟩
 unfold KO at h0 h1
 rcases hB.at_ i.toNat with⟨e1,e2⟩|⟨t,e1,et,e2⟩
 ·rw[e1]at h0 h1
  rw[e2,aA (by simp)]
  refine⟨hi,?_⟩
  have:=h0 (by trivial)
  rw[aDL]at this
  exact this
 ·rw[e1]at h0 h1
  rw[e2,aB (aG (aEX et))]
  refine⟨hi,aJG ?_⟩
  unfold mK at h0 h1
  dsimp only at h0 h1
  by_cases he:((addF t g).2 != 0)=true
  ·simp only[aB he]at h0 h1
   rw[aB he]
   exact h1 (by simpa using he)
  ·simp only[aA he]at h0 h1
   rw[aA he]
   refine aH0 (aAX ?_)
   by_cases hs:((sQ (addF t g).1 8 s (WO st i 1)).2 != 0)=true
   ·simp only[aB hs]at h0 h1
    rw[aB hs]
    exact h1 (by simpa using hs)
   ·simp only[aA hs]at h0 h1
    rw[aA hs]
    have:=h0 (by trivial)
    rw[aDL]at this
    exact⟨hi,this⟩
theorem aJP {e s st kd fr:Int}{g:T3}{back:List (List T3)}{K:Int×List T3->Prop}(hB:BN back)(hf:kd=7->0<=fr/\fr<(back.length:Int))(h:K ((QW st s e kd fr g back).1,unB (QW st s e kd fr g back).2)) :
 aM e s st kd fr g.1 g.2.1 g.2.2 (unB back) K:=by
 refine⟨?_⟩
 unfold QW at h
 by_cases hc:((e==0)&&(kd==7))=true
 ·rw[aB hc]at h⊢
  have hf:=hf (by simp only[aI,dS]at hc;exact hc.2)
  exact aH4 (A:=fun e=>aO (fun _=>K (e,unB back))) (B:=fun b=>aO (fun _=>K (0,b))) hB hf (fun h0=>⟨by rw[h0]at h;exact h⟩) (fun h1=>⟨by rw[aHl h1]at h;exact h⟩)
 ·rw[aA hc]at h⊢;exact⟨h⟩
theorem aFp {st s e kd fr:Int}{g nx:T3}{back:List (List T3)}(h7:kd=7->nx=g):QW st s e kd fr g back=QW st s e kd fr nx back:=by
 unfold QW
 split
 ·rename_i hc
  simp only[aI,dS]at hc
  rw[h7 hc.2]
 ·rfl
theorem aKa {n e s st kd fr:Int}{g nx:T3}{back:List (List T3)}{K:Int×List T3->Prop}(hB:BN back)(hx:e=0->nx.1≠[])(hn:1<=n/\n<=(back.length:Int)/\back.length<=1000000)(hf:kd=7->0<=fr/\fr<(back.length:Int))(h7:kd=7->nx=g)(h:K ((zU st s n e kd fr g nx back).1,unB (zU st s n e kd fr g nx back).2)) :
 cA n e s st kd fr nx.1 nx.2.1 nx.2.2 (unB back) K:=by
 refine⟨?_⟩
 unfold zU at h
 rw[aC (n-1)]
 by_cases hc:(e==0)=true
 ·rw[aB hc]at h⊢
  rw[aFp h7]at h
  refine aH4 (A:=fun e=>aM e s st kd fr nx.1 nx.2.1 nx.2.2 (unB back) K) (B:=fun b=>aM 0 s st kd fr nx.1 nx.2.1 nx.2.2 b K) hB (by omega) (fun h0 => ?_) (fun h1 => ?_)
  ·rw[h0]at h
   exact aJP (aMw hB (hx (by simpa using hc))) (by rw[ZJ];exact hf) h
  ·rw[aHl h1]at h
   exact aJP hB hf h
 ·rw[aA hc]at h⊢
  rw[aFp h7]at h
  exact aJP hB hf h
theorem aKR {x:Lay}{p:Prm}{g t:T3}{fr:List Int}{st s n:Int}{Q:T3×T3×Int->Prop}(ag:All8 g.2.2)(ap:All8 p.1.2.2)(hg:g.1≠[])(hk:1<=x.1/\x.1<=7)(hc:x.1=2->4<=t.1.length)
 (h1:x.1≠7->∀ (a:T3) (e:Int),onV x p g t fr st s n=mK st s a e n 2->Q (Z3,a,e)) (h2:∀ (T:T3) (e:Int),onV x p g t fr st s n=(T,e)->(e=0->T.1≠[])->(x.1=7->T=g)->Q (T,Z3,e)):tM x p g t fr Q:=by
 refine⟨?_⟩
 unfold onV at h1 h2
 by_cases k1:x.1=1
 ·rw[aB (by simpa using k1)]
  simp only[aA (show ¬ x.1=5 by omega),aA (show ¬ x.1=6 by omega),aA (show ¬ x.1=7 by omega),aB k1]at h1
  exact aMZ ag ap ⟨h1 (by omega) _ _ rfl⟩
 rw[aA (by simpa using k1)]
 by_cases k2:x.1=2
 ·rw[aB (by simpa using k2)]
  simp only[aA (show ¬ x.1=5 by omega),aA (show ¬ x.1=6 by omega),aA (show ¬ x.1=7 by omega),aA k1,aB k2]at h1
  have:=hc k2
  exact⟨by omega,by omega,aM5 ag ap ⟨h1 (by omega) _ _ rfl⟩⟩
 rw[aA (by simpa using k2)]
 by_cases k3:x.1=3
 ·rw[aB (by simpa using k3)]
  simp only[aA (show ¬ x.1=5 by omega),aA (show ¬ x.1=6 by omega),aA (show ¬ x.1=7 by omega),aA k1,aA k2,aB k3]at h1
  exact aGR ⟨h1 (by omega) _ _ rfl⟩
 rw[aA (by simpa using k3)]
 by_cases k4:x.1=4
 ·rw[aB (by simpa using k4)]
  simp only[aA (show ¬ x.1=5 by omega),aA (show ¬ x.1=6 by omega),aA (show ¬ x.1=7 by omega),aA k1,aA k2,aA k3,aB k4]at h1
  exact aGL ⟨h1 (by omega) _ _ rfl⟩
 rw[aA (by simpa using k4)]
 by_cases k5:x.1=5
 ·rw[aB (by simpa using k5)]
  simp only[aB k5]at h2
  refine aHq (h2 _ _ rfl (fun h0 => ?_) (fun h7=>by omega))
  unfold rbF at h0⊢
  split
  ·split
   ·exact hg
   ·rename_i h3 h4;rw[aB h3,aA h4]at h0;cases h0
  ·rename_i h3;rw[aA h3]at h0;cases h0
 rw[aA (by simpa using k5)]
 by_cases k6:x.1=6
 ·rw[aB (by simpa using k6)]
  simp only[aA k5,aB k6]at h2
  refine aK0 (h2 _ _ rfl (fun h0 => ?_) (fun h7=>by omega))
  unfold HQ at h0⊢
  split
  ·rename_i h3
   split
   ·have:=(pM h3.2).1.1
    intro e;rw[show t.1=[]from e]at this;simp at this
   ·rename_i h4;rw[aB h3,aA h4]at h0;cases h0
  ·rename_i h3;rw[aA h3]at h0;cases h0
 rw[aA (by simpa using k6)]
 have k7:x.1=7:=by omega
 simp only[aA k5,aA k6,aB k7]at h2
 exact h2 _ _ rfl (fun _=>hg) (fun _=>rfl)
theorem aC1 {n:Nat}{x:Lay}{p:Prm}{g t:T3}{fr:List Int}{st s:Int}{back:List (List T3)}{K:Int×List T3->Prop}(hB:BN back)(hn:1<=n/\n<=back.length/\back.length<=1000000)(hf:x.1=7->0<=x.2.2.2.2.2.1/\x.2.2.2.2.2.1<(back.length:Int))
 (ag:All8 g.2.2) (ap:All8 p.1.2.2) (hg:g.1≠[]) (hk:1<=x.1/\x.1<=7) (hc:x.1=2->4<=t.1.length)
 (h:K ((zU st s n (onV x p g t fr st s n).2 x.1 x.2.2.2.2.2.1 g (onV x p g t fr st s n).1 back).1,unB (zU st s n (onV x p g t fr st s n).2 x.1 x.2.2.2.2.2.1 g (onV x p g t fr st s n).1 back).2)) :
 bZ (n:Int) fr s st x.1 x.2.1 x.2.2.1 x.2.2.2.1 x.2.2.2.2.1 x.2.2.2.2.2.1 x.2.2.2.2.2.2 p.1.1 p.1.2.1 p.1.2.2 p.2.1 p.2.2.1 p.2.2.2.1 p.2.2.2.2 g.1 g.2.1 g.2.2 t.1 t.2.1 t.2.2 (unB back) K:=by
 refine⟨aKR (x:=x) (p:=p) (g:=g) (t:=t) (st:=st) (s:=s) (n:=(n:Int)) ag ap hg hk hc (fun h7 a e he => ?_) (fun T e he hT h7 => ?_)⟩
 ·rw[he]at h
  by_cases h0:e=0
  ·subst h0
   rw[aB (by simp)]
   refine aH0 (aAX ?_)
   have e3:mK st s a 0 n 2=sQ a 8 s (WO st n 2):=by unfold mK;rw[aA (by simp)]
   rw[e3]at h
   exact aKa hB (fun h0=>by have:=AS (st:=st) (s:=s) (a:=a) (e:=0) (i:=n) (w:=2);rw[e3]at this;exact this h0) (by omega) hf (fun h=>absurd h h7) h
  ·rw[aA (by simp[h0])]
   have e3:mK st s a e n 2=(Z3,e):=by unfold mK;rw[aB (by simpa using h0)]
   rw[e3]at h
   exact aKa (g:=g) (nx:=Z3) hB (fun h=>absurd h h0) (by omega) hf (fun h=>absurd h h7) h
 ·rw[he]at h
  rw[aA (by
   simp only[aI,dS,not_and]
   intro h0
   have:=aEX (hT h0)
   omega)]
  exact aKa (g:=g) (nx:=T) hB hT (by omega) hf h7 h
theorem aJC {n:Nat}{x:Lay}{p:Prm}{g t:T3}{F:List (List Int)}{st s:Int}{back:List (List T3)}{K:Int×List T3->Prop}(hB:BN back)(hn:1<=n/\n<=back.length/\back.length<=1000000)(hf:x.1=7->0<=x.2.2.2.2.2.1/\x.2.2.2.2.2.1<(back.length:Int))
 (ag:All8 g.2.2) (ap:All8 p.1.2.2) (hg:g.1≠[]) (hk:1<=x.1/\x.1<=7) (hc:x.1=2->4<=t.1.length) (hF:F≠[]->n<F.length)
 (h:K ((zU st s n (onV x p g t (F.getD n []) st s n).2 x.1 x.2.2.2.2.2.1 g (onV x p g t (F.getD n []) st s n).1 back).1,unB (zU st s n (onV x p g t (F.getD n []) st s n).2 x.1 x.2.2.2.2.2.1 g (onV x p g t (F.getD n []) st s n).1 back).2)) :
 bF (n:Int) s st x.1 x.2.1 x.2.2.1 x.2.2.2.1 x.2.2.2.2.1 x.2.2.2.2.2.1 x.2.2.2.2.2.2 p.1.1 p.1.2.1 p.1.2.2 p.2.1 p.2.2.1 p.2.2.2.1 p.2.2.2.2 F g.1 g.2.1 g.2.2 t.1 t.2.1 t.2.2 (unB back) K:=by
 refine⟨?_⟩
 by_cases h0:F=[]
 ·rw[aA (by rw[h0];simp)]
  have e:F.getD n []=[]:=by rw[h0];rfl
  rw[e]at h
  exact aC1 hB hn hf ag ap hg hk hc h
 ·have:=hF h0
  rw[aB (aG (by omega)),bM]
  exact⟨by omega,aC1 hB hn hf ag ap hg hk hc h⟩
theorem aHX {x:Lay}{g t:T3}{Q:G3×Int->Prop}(ag:All8 g.2.2)(at8:All8 t.2.2)(h:Q (F6 x g t)):qV x g t Q:=by
 refine⟨?_⟩
 unfold F6 at h
 have key:∀ {a b:T3×Int},Q (if a.2=0 then(if b.2=0 then(((true,a.1,b.1):G3),(0:Int))else(eU,b.2))else(eU,a.2)) ->
  (if (a.2==0)=true then if (b.2 != 0)=true then Q (eU,b.2)else Q ((true,(a.1,b.1)),0)else if (a.2 != 0)=true then Q (eU,a.2)else Q ((true,(a.1,b.1)),0)):=fun {a b} hq=>by
  by_cases h1:a.2=0
  ·rw[aB (by simpa using h1)]
   rw[aB h1]at hq
   by_cases h2:b.2=0
   ·rw[aA (by simpa using h2)]
    rw[aB h2]at hq
    exact hq
   ·rw[aB (by simpa using h2)]
    rw[aA h2]at hq
    exact hq
  ·rw[aA (by simpa using h1),aB (by simpa using h1)]
   rw[aA h1]at hq
   exact hq
 by_cases k:x.1=1
 ·rw[aB (by simpa using k)]
  rw[aB k]at h
  exact aNO ag at8 (aMb ag (key h))
 ·rw[aA (by simpa using k)]
  rw[aA k]at h
  exact aM0 ag at8 (aNW ag (key h))
end Go.Proofs.YtcfpfefadlnmcaaGreat

namespace Go.Proofs.YtcfpfefadlnmcaaGreat
open IntKind (i8 i16 i32 i64 u8 u16 u32 u64)
open Go.Mach Go.RowKit
set_option maxRecDepth 100000
set_option linter.unusedVariables false
set_option linter.unusedSimpArgs false
theorem aFQ {m:Mdl}{ps:List Prm}{T:List T3}{F:List (List Int)}{st:Int}{g:T3}(h:Y2 m ps T st g=true):EW m ps T F st g=1:=by unfold EW;rw[aB h]
theorem aGU {m:Mdl}{ps:List Prm}{T:List T3}{F:List (List Int)}{st:Int}{g:T3}{Q:Int->Prop}(hl:m.2.length<=1000000)(hT:T.length<=1000000)(mp:xU m ps=true)(hst:0<=st/\st<=1000000)(h:Q (EW m ps T F st g)):rL m (T,F) g Q:=by
 refine⟨?_⟩
 refine eN (c := !bA g) (fun _ P hP=>YX hP) (fun v ev => ?_) rfl
 rw[aC ((m.2.length:Int)+1)]at ev
 have h1:Y2 m ps T st g=true->Q 1:=fun hb=>by rw[aFQ hb]at h;exact h
 have eb:Y2 m ps T st g=(v||T.any fun t => !bA t):=by
  unfold Y2
  rw[ev,jR (by omega),jR (by omega),mp]
  simp
 cases v with
 | true=>rw[aB rfl];exact h1 (by rw[eb];rfl)
 | false =>
 rw[aA (by simp)]
 refine⟨?_⟩
 refine Loop.range (B:=iQ T (T.length:Int) _ _) T.length (fun i=>(i:Int)) (fun i=>∀ j,j<i->bA (T.getD j Z3)=true) (fun j hj=>absurd hj (by omega)) ?_ ?_
 ·intro i hi hI X hX
  unfold iQ
  rw[aB (aG (show(i:Int)<(T.length:Int) by omega))]
  refine⟨by omega,YX ?_⟩
  rw[bM]
  cases hm:bA (T.getD i ([],(0,[])))with
  | false =>
    rw[aB (by rfl)]
    refine h1 ?_
    rw[eb,PI,GL]
    refine⟨T[i],fB hi,?_⟩
    rw[aW,aP hi]at hm
    have hm:bA T[i]=false:=hm
    rw[hm];rfl
  | true =>
    rw[aA (by simp),aC _]
    refine hX fun j hj => ?_
    by_cases hji:j=i
    ·subst hji;exact hm
    ·exact hI j (by omega)
 intro hM X0
 unfold iQ
 rw[aA (by simp)]
 have hb1:Y2 m ps T st g=false:=by
  rw[eb,PI,OO]
  intro t ht
  obtain⟨i,hi,rfl⟩:=List.mem_iff_getElem.1 ht
  have:=hM i hi
  rw[aW,aP hi]at this
  have this:bA T[i]=true:=this
  rw[this];simp
 have k:=R5 hb1
 obtain⟨hm,hok⟩:=t5 (m:=m) (by
  have:=k.ps
  unfold xU at this
  simp only[aI,dS]at this
  exact this.1.1)
 have hlen:=k.len
 have hsl:=hok.len
 unfold EW at h
 rw[aA (by rw[hb1];simp)]at h
 have h2:aBr m T=true->Q 2:=fun hb=>by rw[aB hb]at h;exact h
 have d0:=cX (k.t 0 (by omega))
 refine HX (m:=m) (by omega) ⟨?_⟩
 refine Loop.rangeI (B:=iM T (T.length:Int) m.2 T (aV m).1 _ _) T.length (fun i s=>s.2=(i:Int)/\s.1=((m.2.take (i-1)).any fun x=>x.1==3)/\∀ j,j<i->(T.getD j Z3).1=(T.getD 0 Z3).1.take 1++(aV m).1.getD j []) ⟨rfl,rfl,fun j hj=>absurd hj (by omega)⟩ ?_ ?_
 ·rintro i hi ⟨b,i'⟩ ⟨e1,e2,e3⟩ X hX
  dsimp only at e1 e2
  subst e1
  unfold iM
  dsimp only
  rw[aB (aG (show(i:Int)<(T.length:Int) by omega))]
  have di:=cX (k.t i hi)
  simp only[Int.toNat_natCast]
  have di':1<=(T.getD i ([],(0,[]))).1.length:=di.2.2.1
  have d0':1<=(T.getD 0 ([],(0,[]))).1.length:=d0.2.2.1
  refine⟨by omega,⟨(fun e0=>by rw[e0]at di';simp at di'),by omega,by omega,by omega⟩,by omega,C7 (by rw[B4,AC];have:=di.1;show _<=1000000;have:(T.getD i ([],(0,[]))).1.length<=4:=di.1;omega) ?_⟩
  rw[sS]
  refine eN (c:=((T.getD i ([],(0,[]))).1.getD 0 0 != (T.getD 0 ([],(0,[]))).1.getD 0 0)) (fun _ P hP=>⟨by omega,by omega,by omega,hP⟩) (fun v ev => ?_) rfl
  have key:v = !decide ((T.getD i Z3).1=(T.getD 0 Z3).1.take 1++(aV m).1.getD i []):=by
   rw[ev]
   show(!decide (List.drop 1 (T.getD i Z3).1=(aV m).1.getD i [])||((T.getD i Z3).1.getD 0 0 != (T.getD 0 Z3).1.getD 0 0))=_
   have di2:1<=(T.getD i Z3).1.length:=di'
   have d02:1<=(T.getD 0 Z3).1.length:=d0'
   generalize (T.getD i Z3).1=u at di2⊢
   generalize (T.getD 0 Z3).1=w at d02⊢
   generalize (aV m).1.getD i []=z
   match u,di2,w,d02 with
   | a::u,_,c::w,_ =>
     show(!decide (u=z)||(a != c)) = !decide (a::u=c::z)
     by_cases q1:u=z
     ·by_cases q2:a=c
      ·simp[q1,q2]
      ·simp[q1,q2]
     ·simp[q1]
  cases v with
  | true=>rw[aB rfl];exact h2 (by
   unfold aBr
   rw[GL]
   exact⟨i,List.mem_range.2 (by omega),key.symm⟩)
  | false =>
    rw[aA (by simp)]
    have hX':∀ b',b'=((m.2.take (i+1-1)).any fun x=>x.1==3)->X (b',i64.wrap ((i:Int)+1)):=fun b' hb'=>hX _ ⟨by rw[aC _];rfl,hb',fun j hj=>by
     by_cases hji:j=i
     ·subst hji;simpa using key
     ·exact e3 j (by omega)⟩
    have en:0<i->(m.2.take (i+1-1)).any (fun x=>x.1==3)=(b||((m.2.getD (i-1) bY).1==3)):=fun h0=>by
     rw[e2]
     obtain⟨q,rfl⟩:∃ q,i=q+1:=⟨i-1,by omega⟩
     rw[E0,E0,TK (by omega) bY,List.any_append]
     simp
    refine eN (b:=b) (c:=decide (0<(i:Int))&&((m.2.getD (i-1) bY).1==3)) (fun _ P hP => ?_) (fun v2 ev2=>hX' v2 ?_) rfl
    ·refine zT (c:=((m.2.getD (i-1) bY).1==3)) (fun h0 P hP => ?_) (fun v ev=>by rw[ev];exact hP) rfl
     have h0:0<(i:Int):=by simpa using h0
     rw[aC ((i:Int)-1),show((i:Int)-1).toNat=i-1 by omega]
     exact⟨by omega,hP⟩
    ·by_cases h0:0<i
     ·rw[en h0,ev2,aG (by omega),BX]
     ·have:i=0:=by omega
      subst this
      rw[ev2,e2];rfl
 ·rintro⟨b,i'⟩ ⟨e1,e2,e3⟩ X
  dsimp only at e1 e2
  subst e1
  unfold iM
  dsimp only
  rw[aA (by simp)]
  have hb2:aBr m T=false:=by
   unfold aBr
   rw[OO]
   intro j hj
   rw[aG (e3 j (by have:=List.mem_range.1 hj;omega))]
   simp
  rw[hb2,aA (by simp)]at h
  rw[hlen,E0,sS]at e2
  refine eN (c := !decide (g.1=(T.getD (T.length-1) Z3).1)) (fun _ P hP => ?_) (fun v ev => ?_) rfl
  ·rw[aC ((T.length:Int)-1),show((T.length:Int)-1).toNat=T.length-1 by omega]
   exact⟨by omega,C7 (by have:=(cX k.g).1;omega) hP⟩
  ·have e4:v=aIN m T F g:=by rw[ev,e2];rfl
   rw[<- e4]at h
   cases v with
   | true=>rw[aB rfl]at h⊢;exact h
   | false=>rw[aA (by simp)]at h⊢;exact h
theorem aKL {l:List (List Int)}(h:l≠[]):(0:Int)<(l.length:Int):=by
 have:=List.length_pos_iff.2 h
 omega
theorem aKU {l:List G3}{n:Nat}(hn:n<l.length)(h:l.getD n eU=eU):l.set n eU=l:=by
 have e:l[n]=eU:=by rw[aW,aP hn]at h;exact h
 rw[<- e];exact List.set_getElem_self hn
theorem aOQ {st s n e kd fr:Int}{g nx:T3}{back:List (List T3)}(h:BN back)(hg:g.1≠[])(hx:e=0->nx.1≠[]):BN (zU st s n e kd fr g nx back).2:=by
 have ad:∀ (e:Int) (b:List (List T3)),BN b->BN (QW st s e kd fr g b).2:=fun e b hb=>by
  unfold QW
  split
  ·exact aMw hb hg
  ·exact hb
 unfold zU
 split
 ·rename_i hc
  exact ad _ _ (aMw h (hx (by simpa using hc)))
 ·exact ad _ _ h
theorem aNe {x:Lay}{p:Prm}{g t:T3}{fr:List Int}{st s n:Int}(hg:g.1≠[])(h:(onV x p g t fr st s n).2=0):(onV x p g t fr st s n).1.1≠[]:=by
 unfold onV at h⊢
 split
 ·rename_i k;rw[aB k]at h
  unfold rbF at h⊢
  split
  ·split
   ·exact hg
   ·rename_i h3 h4;rw[aB h3,aA h4]at h;cases h
  ·rename_i h3;rw[aA h3]at h;cases h
 rename_i k5;rw[aA k5]at h
 split
 ·rename_i k;rw[aB k]at h
  unfold HQ at h⊢
  split
  ·rename_i h3
   split
   ·have:=(pM h3.2).1.1
    intro e;rw[show t.1=[]from e]at this;simp at this
   ·rename_i h4;rw[aB h3,aA h4]at h;cases h
  ·rename_i h3;rw[aA h3]at h;cases h
 rename_i k6;rw[aA k6]at h
 split
 ·exact hg
 rename_i k7;rw[aA k7]at h
 split
 ·rename_i k;rw[aB k]at h;exact AS h
 rename_i k1;rw[aA k1]at h
 split
 ·rename_i k;rw[aB k]at h;exact AS h
 rename_i k2;rw[aA k2]at h
 split
 ·rename_i k;rw[aB k]at h;exact AS h
 rename_i k3;rw[aA k3]at h
 split
 ·rename_i k;rw[aB k]at h;exact AS h
 ·rename_i k;rw[aA k]at h;exact AS h
structure aNl (m:Mdl)(T:List T3)(F:List (List Int)):Prop where
 kind:∀ i,i<m.2.length->1<=(m.2.getD i bY).1/\(m.2.getD i bY).1<=7
 from_:F≠[]->F.length=m.2.length+1
theorem aLP {m:Mdl}{ps:List Prm}{T:List T3}{F:List (List Int)}{s st:Int}(r:aJp m ps T F)(r2:aNl m T F){K0:List G3->Prop}{K1:List G3×Int×Int->Prop}{out:List G3}{back:List (List T3)}
 (ho:out.length=m.2.length) (hb:back.length=m.2.length+1) (h8:Bk8 back) (hN:BN back) (hO:∀ j,j<m.2.length->out.getD j eU=eU) (h0:(qH m ps T F st s m.2.length out back).2.2=0->K0 (qH m ps T F st s m.2.length out back).1) (h1:(qH m ps T F st s m.2.length out back).2.2≠0->K1 (qH m ps T F st s m.2.length out back)) :
 nU ps m.2 T F s st K0 K1 ((m.2.length:Int),out,unB back):=by
 refine⟨?_⟩
 have hl:=r.len
 have hpl:=r.pl
 have htl:=r.t
 obtain⟨z,hz⟩:∃ z,qH m ps T F st s m.2.length out back=z:=⟨_,rfl⟩
 rw[hz]at h0 h1
 refine Loop.rangeI (B:=gS ps m.2 T F s st K0 K1) m.2.length
  (fun i z'=>z'.1=((m.2.length-i:Nat):Int)/\z'.2.1.length=m.2.length/\(∀ j,j<m.2.length-i->z'.2.1.getD j eU=eU)/\∃ back,z'.2.2=unB back/\back.length=m.2.length+1/\Bk8 back/\BN back/\qH m ps T F st s (m.2.length-i) z'.2.1 back=z) ⟨rfl,ho,fun j hj=>hO j (by omega),back,rfl,hb,h8,hN,hz⟩ ?_ ?_
 ·rintro i hi ⟨z1,out,rb⟩ ⟨rfl,e1,e3,back,e4,e2,h8,hN,hq⟩ X hX
  dsimp only at e1 e3 e4 hq
  subst e4
  unfold gS
  dsimp only
  obtain⟨n,hn⟩:∃ n,m.2.length-i=n+1:=⟨m.2.length-i-1,by omega⟩
  rw[hn]at hq e3⊢
  rw[aB (aG (show(1:Int)<=((n+1:Nat):Int) by omega))]
  have ew:i64.wrap (((n+1:Nat):Int)-1)=(n:Int):=by rw[aC _];omega
  rw[ew]
  simp only[Int.toNat_natCast]
  rw[aHb]
  refine⟨by omega,?_⟩
  have hout:out.set n eU=out:=aKU (by omega) (e3 n (by omega))
  have hX':∀ (o:List G3) (b:List (List T3)),o.length=m.2.length->(∀ j,j<n->o.getD j eU=eU)->b.length=m.2.length+1->Bk8 b->BN b->qH m ps T F st s n o b=z->X ((n:Int),o,unB b):=fun o b k1 k0 k2 k3 k4 k5 =>
   hX _ ⟨by show(n:Int)=_;omega,k1,(fun j hj=>k0 j (by omega)),b,rfl,k2,k3,k4,by rw[show m.2.length-(i+1)=n by omega];exact k5⟩
  unfold qH at hq
  have fin:∀ (G:G3) (e:Int) (b:List (List T3)),pE m ps T F st s (n+1) back=((G,e),b)->b.length=m.2.length+1->Bk8 b->BN b ->
   eC e (fun _=>dH ((n+1:Nat):Int) (fun y=>X (y,out.set n G,unB b))) (fun y=>K1 (y,((n+1:Nat):Int),e)):=by
   intro G e b he hb hb8 hbn
   rw[he]at hq
   refine⟨?_⟩
   by_cases h:e=0
   ·rw[aA (by simpa using h)]
    simp only[aB h]at hq
    refine⟨?_⟩
    rw[ew]
    exact hX' _ _ (by rw[zE];exact e1) (fun j hj=>by rw[aW,gY (by omega),<- aW];exact e3 j (by omega)) hb hb8 hbn hq
   ·rw[aB (by simpa using h)]
    simp only[aA h]at hq
    subst hq
    exact h1 h
  obtain⟨l8,ll⟩:=aJQ (m:=m) (ps:=ps) (T:=T) (F:=F) (st:=st) (s:=s) (n:=n+1) h8
  rcases hN.at_ (n+1)with⟨b1,b2⟩|⟨g,b1,bg,b2⟩
  ·have hL:pE m ps T F st s (n+1) back=((eU,0),back):=by unfold pE;rw[b1]
   have b2:(unB back).getD (n+1) ([],(0,[]))=Z3:=b2
   rw[b2,aB (by rfl)]
   have:=(fin eU 0 back hL e2 h8 hN).1
   rw[hout,aA (by simp)]at this
   exact this
  ·have b2:(unB back).getD (n+1) ([],(0,[]))=g:=b2
   rw[b2,aA (by have:=aEX bg;simp only[dS];omega)]
   have g8:=h8.at_ b1
   have hL:pE m ps T F st s (n+1) back=aAG m ps T F st s (n+1) back g:=by unfold pE;rw[b1]
   rw[hL]at fin l8 ll
   unfold aAG at fin l8 ll
   rw[E0]at fin l8 ll
   have hni:n<m.2.length:=by omega
   refine⟨by omega,by omega,by omega,by omega,by omega,?_⟩
   have cont:∀ G:G3,(grV (m.2.getD n bY) g (T.getD n Z3)).1=G->(grV (m.2.getD n bY) g (T.getD n Z3)).2=0->∀ K:Int×List T3->Prop,
    (∀ (e:Int) (b:List (List T3)),eC e (fun _=>dH ((n+1:Nat):Int) (fun y=>X (y,out.set n G,unB b))) (fun y=>K1 (y,((n+1:Nat):Int),e))->K (e,unB b)) ->
    bF ((n+1:Nat):Int) s st (m.2.getD n bY).1 (m.2.getD n bY).2.1 (m.2.getD n bY).2.2.1 (m.2.getD n bY).2.2.2.1 (m.2.getD n bY).2.2.2.2.1 (m.2.getD n bY).2.2.2.2.2.1 (m.2.getD n bY).2.2.2.2.2.2 (ps.getD n f5).1.1 (ps.getD n f5).1.2.1 (ps.getD n f5).1.2.2 (ps.getD n f5).2.1 (ps.getD n f5).2.2.1 (ps.getD n f5).2.2.2.1 (ps.getD n f5).2.2.2.2 F g.1 g.2.1 g.2.2 (T.getD n Z3).1 (T.getD n Z3).2.1 (T.getD n Z3).2.2 (unB back) K:=by
    intro G hG h0 K hK
    refine aJC (n:=n+1) hN (by omega) (fun h7=>by have:=r.add n hni h7;omega) g8 (Prm8.at_ r.p8 _).1 bg (r2.kind n hni) (r.conv n hni) (fun hF=>by have:=r2.from_ hF;omega) (hK _ _ ?_)
    rw[aB h0,hG]at fin
    rw[aB h0]at l8 ll
    exact fin _ _ _ rfl (ll.trans e2) l8 (aOQ hN bg fun h=>aNe bg h)
   by_cases hw:aCU (m.2.getD n bY)=true
   ·have hw':=hw
    unfold aCU at hw'
    rw[aB (by exact hw')]
    have wt:grV (m.2.getD n bY) g (T.getD n Z3)=F6 (m.2.getD n bY) g (T.getD n Z3):=by unfold grV;rw[aB hw]
    refine aHX g8 (r.t8.at_ n) ?_
    rw[wt]at cont fin
    by_cases he:(F6 (m.2.getD n bY) g (T.getD n Z3)).2=0
    ·rw[aA (by simpa using he)]
     exact cont _ rfl he _ fun e b h=>h
    ·rw[aB (by simpa using he)]
     rw[aA he]at fin
     have:=(fin eU _ back rfl e2 h8 hN).1
     rw[aB (by simpa using he)]at this
     refine⟨?_⟩
     rw[aB (by simpa using he)]
     exact this
   ·have hw':=hw
    unfold aCU at hw'
    rw[aA (by exact hw')]
    have wt:grV (m.2.getD n bY) g (T.getD n Z3)=(eU,0):=by unfold grV;rw[aA hw]
    rw[wt]at cont
    refine cont eU rfl rfl _ fun e b h => ?_
    rw[hout]at h
    exact h
 ·rintro⟨z1,out,rb⟩ ⟨rfl,e1,e3,back,e4,e2,h8,hN,hq⟩ X
  unfold gS
  dsimp only at hq⊢
  rw[Nat.sub_self]at hq⊢
  rw[aA (by simp)]
  unfold qH at hq
  subst hq
  exact h0 rfl
theorem aCJ {m:Mdl}{ps:List Prm}{T:List T3}{F:List (List Int)}{st s:Int}:∀ (n:Nat) (o:List G3) (b:List (List T3)),(qH m ps T F st s n o b).2.2=0->(qH m ps T F st s n o b).2.1=0
 | 0,_,_,_=>rfl
 | n+1,o,b,hz=>by
   unfold qH at hz⊢
   split
   ·rename_i h2;rw[aB h2]at hz;exact aCJ n _ _ hz
   ·rename_i h2;rw[aA h2]at hz;exact absurd hz h2
theorem aKy {m:Mdl}{ps:List Prm}{T:List T3}{F:List (List Int)}{g:T3}{s st:Int}{Q:List G3×Int×Int->Prop}(hl:m.2.length<=1000000)(hT:T.length<=1000000)(hp:∀ p∈ps,Prm8 p)(h8:Ten8 T)(hg:All8 g.2.2)(h:Q (M0 m ps T F g s st)):pZ m ps (T,F) g s st Q:=by
 refine⟨aDM ?_⟩
 unfold M0 at h
 refine eN (b := !inP st 0 1000000) (c := !xU m ps) (fun _ P hP=>T9 (m:=m) (by omega) hP) (fun v ev => ?_) rfl
 cases v with
 | true =>
   rw[aB rfl]
   have hb:Y2 m ps T st g=true:=by
    unfold Y2
    have ev:=ev.symm
    simp only[cG,nJ]at ev
    simp only[cG,nJ,aT]
    rcases ev with ev|ev
    ·unfold inP at ev
     simp only[JH,eZ]at ev
     exact .inl (.inl (.inl (.inl (by omega))))
    ·exact .inl (.inl (.inl (.inr ev)))
   rw[aFQ hb,aA (by decide)]at h
   exact h
 | false =>
 rw[aA (by simp)]
 have ev:=ev.symm
 simp only[dP,wZ,inP,aI,aT]at ev
 refine aGU (st:=st) (ps:=ps) hl hT ev.2 (by omega) ?_
 by_cases he:EW m ps T F st g=0
 rotate_left
 ·rw[aA he]at h
  rw[aB (by simpa using he)]
  exact h
 rw[aB he]at h
 rw[aA (by simpa using he)]
 have r:=Z8 hp h8 he
 have hl2:=r.len
 have ht:=r.t
 obtain⟨k,hd,h3⟩:=aC2 he
 obtain⟨w1,_⟩:=TR k.ps
 have r2:aNl m T F:=⟨fun i hi=>by
  have:=SD ((lL w1).2.2 i hi)
  omega,fun hF=>by
  unfold aIN at h3
  have:=aKL hF
  rw[aG this]at h3
  simp only[SU,TA,dP,rN]at h3
  omega⟩
 have ew:i64.wrap ((m.2.length:Int)+1)=((m.2.length+1:Nat):Int):=by rw[aC _];omega
 show ck _ (ck _ (ck _ _))
 rw[ew]
 simp only[Int.toNat_natCast]
 refine⟨by omega,⟨by omega,by rw[pY];omega⟩,by omega,?_⟩
 rw[ht]at h
 have eu:(List.replicate (m.2.length+1) Z3).set m.2.length g=unB ((List.replicate (m.2.length+1) []).set m.2.length [g]):=by
  rw[aDL]
  unfold unB
  rw[List.map_replicate];rfl
 have eu:(List.replicate (m.2.length+1) (([],(0,[])):T3)).set m.2.length g=unB ((List.replicate (m.2.length+1) []).set m.2.length [g]):=eu
 rw[eu]
 have gd:=(cX k.g).2.2.1
 refine aLP r r2 (by rw[pY]) (by rw[zE,pY]) ?_ ?_ (fun j hj => ?_) (fun h0 => ?_) (fun h1=>h)
 ·refine Bk8.set (fun l hl t ht => ?_) hg
  have:=aEV hl
  subst this;cases ht
 ·refine BN.set (fun l hl => .inl (aEV hl)) (fun e=>by rw[e]at gd;simp at gd)
 ·rw[aW,List.getElem?_replicate,aB hj];rfl
 ·have k2:=aCJ _ _ _ h0
  have h0:(qH m ps T F st s m.2.length (List.replicate m.2.length eU) ((List.replicate (m.2.length+1) []).set m.2.length [g])).2.2=0:=h0
  have k2:(qH m ps T F st s m.2.length (List.replicate m.2.length eU) ((List.replicate (m.2.length+1) []).set m.2.length [g])).2.1=0:=k2
  revert h h0 k2
  show Q (qH m ps T F st s m.2.length (List.replicate m.2.length eU) ((List.replicate (m.2.length+1) []).set m.2.length [g]))->_->_->Q ((qH m ps T F st s m.2.length (List.replicate m.2.length eU) ((List.replicate (m.2.length+1) []).set m.2.length [g])).1,0,0)
  generalize qH m ps T F st s m.2.length (List.replicate m.2.length eU) ((List.replicate (m.2.length+1) []).set m.2.length [g])=z
  obtain⟨a,b,c⟩:=z
  rintro h h0 k2
  dsimp only at h0 k2⊢
  subst h0 k2
  exact h
end Go.Proofs.YtcfpfefadlnmcaaGreat

namespace Go.Proofs.YtcfpfefadlnmcaaGreat
open IntKind (i8 i16 i32 i64 u8 u16 u32 u64)
open Go.Mach
set_option maxRecDepth 100000
set_option linter.unusedVariables false
set_option linter.unusedSimpArgs false
theorem aLI (a:Int):∃ v,∀ Q:Int->Prop,Q v->gH a Q:=⟨_,fun Q h=>⟨⟨by decide,by decide,by decide,h⟩⟩⟩
theorem UB {a:Int}{Q:Int->Prop}(h:∀ r,Q r):gH a Q:=let ⟨v,k⟩:=aLI a;k Q (h v)
theorem aLG {a b c:Int}{Q:Int->Prop}(h:∀ r,Q r):qF a b c Q:=⟨UB fun _=>UB fun _=>UB h⟩
theorem aHR {a b c n:Int}{Q:Int->Prop}(h:∀ r,Q r):uZ a b c n Q:=by
 refine⟨?_⟩
 split
 ·exact h 0
 ·rename_i hn
  have hn:=Bool.eq_false_iff.2 hn
  simp only[dP,eZ]at hn
  have e:u64.wrap n=n:=by
   simp only[IntKind.wrap,IntKind.bits,IntKind.signed]
   simp
   omega
  rw[e]
  refine⟨by omega,by omega,aLG fun r=>⟨?_⟩⟩
  refine Loop.rangeI (B:=kH n _ (fun _=>Q 0) (fun y=>Q y)) 100 (fun i s=>s.2=(i:Int)) rfl ?_ ?_
  ·rintro i hi ⟨s1,s2⟩ rfl X hX
   unfold kH
   dsimp only
   rw[aB (aG (show(i:Int)<100 by omega))]
   split
   ·exact⟨by rw[e];omega,h _⟩
   ·refine UB fun r => ?_
    rw[aC ((i:Int)+1)]
    exact hX _ rfl
  ·rintro⟨s1,s2⟩ rfl X
   unfold kH
   rw[aA (by simp)]
   exact h 0
theorem aJj (n:Nat):All8 (List.replicate n 0):=fun y hy=>by rw[(List.mem_replicate.1 hy).2];omega
theorem aAs {l:List Int}{x:Int}(h:All8 l)(hx : -128<=x/\x<=127):All8 (l++[x]):=fun y hy=>by
 rcases List.mem_append.1 hy with hy|hy
 ·exact h y hy
 ·rw[List.mem_singleton.1 hy];exact hx
theorem aLa {x:Lay}{d:List Int}(h:0<szF (ofF x d).1):1<=(ofF x d).2/\(ofF x d).2<=4096:=by
 obtain⟨_,hd,_⟩:=pM h
 unfold ofF at hd⊢
 split
 ·rename_i e;rw[aB e]at hd;exact hd _ (by simp)
 ·rename_i e
  rw[aA e]at hd
  split
  ·rename_i e2;rw[aB e2]at hd;exact hd _ (by simp)
  ·rename_i e2
   have:(ofF x d).1=[]:=by unfold ofF;rw[aA e,aA e2]
   rw[this]at h
   exact absurd h (by decide)
theorem aMn {m:Mdl}{s:Int}{Q:List Prm×Int->Prop}(hl:m.2.length<=10000000000000)(h:∀ ps e,(e=0->ps.length=m.2.length/\∀ p∈ps,Prm8 p/\p.1.2.2.length<=1000000/\p.2.2.2.2.length<=1000000)->Q (ps,e)):vE m s Q:=by
 refine⟨HX hl ?_⟩
 have e0:aV ((m.1.1,m.1.2.1,m.1.2.2),m.2)=aV m:=rfl
 rw[e0]
 split
 ·rename_i hb
  exact h _ _ (fun e=>absurd e (by simpa using hb))
 ·rename_i hb
  have hb:(aV m).2.2=0:=by simpa using hb
  obtain⟨hm,q2,q3⟩:=C5 hb
  obtain⟨_,⟨k1,k2⟩,_⟩:=lL hm
  refine⟨?_⟩
  refine Loop.rangeI (B:=kE s m.2 (m.2.length:Int) (aV m).1 (fun y=>Q (y,0)) (fun _=>Q ([],1))) m.2.length
   (fun i z=>z.1=(i:Int)/\z.2.length=i/\∀ p∈z.2,Prm8 p/\p.1.2.2.length<=1000000/\p.2.2.2.2.length<=1000000) ⟨rfl,rfl,fun p hp=>(by cases hp)⟩ ?_ ?_
  ·rintro i hi ⟨z1,z2⟩ ⟨rfl,e1,h8⟩ X hX
   unfold kE
   dsimp only at e1 h8⊢
   rw[aB (aG (show(i:Int)<(m.2.length:Int) by omega))]
   refine⟨by omega,by omega,?_⟩
   simp only[Int.toNat_natCast]
   have hdi:=aCv hb (i:=i) (by omega)
   refine aE9 hdi.sz.2.2.2.1 ?_
   have n1:∀ {K:Int->Prop},K ((i:Int)+1)->nD (i:Int) K:=fun {K} hK=>⟨by
    rw[aC ((i:Int)+1)]
    exact hK⟩
   split
   ·refine⟨by simp;omega,n1 (hX _ ⟨rfl,by simp[e1],fun p hp => ?_⟩)⟩
    rcases List.mem_append.1 hp with hp|hp
    ·exact h8 p hp
    ·rw[List.mem_singleton.1 hp]
     exact⟨⟨fun y hy=>(by cases hy),fun y hy=>(by cases hy)⟩,by simp,by simp⟩
   ·refine nI ?_
    split
    ·exact h _ _ (fun e=>absurd e (by decide))
    ·rename_i hs
     have hs:0<szF (ofF (m.2.getD i (0,0,0,0,0,0,false)) ((aV m).1.getD i [])).1:=by simpa using hs
     have hb2:=aLa hs
     refine⟨by omega,zH ?_⟩
     have hz:=G0 (ofF (m.2.getD i (0,0,0,0,0,0,false)) ((aV m).1.getD i [])).1
     refine⟨by omega,⟨?_⟩⟩
     generalize (ofF _ _)=w at *
     refine⟨?_⟩
     rw[pY]
     refine Loop.rangeI (B:=kF s (i:Int) ((szF w.1).toNat:Int) _) (szF w.1).toNat (fun j y=>y.1=(j:Int)/\y.2.length=j/\All8 y.2) ⟨rfl,rfl,fun y hy=>(by cases hy)⟩ ?_ ?_
     ·rintro j hj ⟨y1,y2⟩ ⟨rfl,f1,f2⟩ Y hY
      unfold kF
      dsimp only at f1 f2⊢
      rw[aB (aG (show(j:Int)<((szF w.1).toNat:Int) by omega))]
      refine aHR fun r=>⟨by simp;omega,?_⟩
      rw[aC ((j:Int)+1)]
      exact hY _ ⟨rfl,by simp[f1],aAs f2 (PE _)⟩
     ·rintro⟨y1,y2⟩ ⟨rfl,f1,f2⟩ Y
      dsimp only at f1 f2
      unfold kF
      rw[aA (by simp)]
      refine⟨by simp;omega,n1 (hX _ ⟨rfl,by simp[e1],fun p hp => ?_⟩)⟩
      rcases List.mem_append.1 hp with hp|hp
      ·exact h8 p hp
      ·rw[List.mem_singleton.1 hp]
       exact⟨⟨f2,aJj _⟩,by dsimp only;omega,by dsimp only;rw[pY];omega⟩
  ·rintro⟨z1,z2⟩ ⟨rfl,e1,h8⟩ X
   unfold kE
   rw[aA (by simp)]
   exact h _ _ fun _=>⟨e1,h8⟩
theorem aAE {kd:IntKind}{v:Int}{T:Ty}{l m:List T.den}(h:SE kd v (.slc T) l m):m.length=l.length:=h.1
theorem SE8 {v:Int}{l m:List Int}(hv : -128<=v/\v<=127)(h:SE .i8 v (.slc aL) l m)(h8:All8 l):All8 m:=by
 intro y hy
 obtain⟨i,hi⟩:=List.mem_iff_getElem?.1 hy
 have hlt:=(List.getElem?_eq_some_iff.1 hi).1
 have:=h.2 i _ y (aP (by have:=h.1;omega)) hi
 rcases this with e|⟨_,e⟩
 ·rw[e];exact h8 _ (fB _)
 ·rw[e];exact hv
abbrev aNo:Ty := .pair (.pair (.slc aD) (.pair (.int .i64) (.slc aL))) (.pair (.slc aY) (.pair (.slc aD) (.pair (.int .i64) (.slc aL))))
def shp (p:Prm):Nat×Nat:=(p.1.2.2.length,p.2.2.2.2.length)
theorem SEp {v:Int}{l m:List Prm}(hv : -128<=v/\v<=127)(h:SE .i8 v (.slc aNo) l m):m.map shp=l.map shp/\((∀ p∈l,Prm8 p)->∀ p∈m,Prm8 p):=by
 have key:∀ (i:Nat) (x y:Prm),l[i]? = some x->m[i]? = some y->shp y=shp x/\(Prm8 x->Prm8 y):=by
  intro i x y hx hy
  obtain⟨⟨_,_,h1⟩,_,_,_,h2⟩:=h.2 i x y hx hy
  have h1:SE .i8 v (.slc aL) x.1.2.2 y.1.2.2:=h1
  have h2:SE .i8 v (.slc aL) x.2.2.2.2 y.2.2.2.2:=h2
  exact⟨Prod.ext h1.1 h2.1,fun k=>⟨SE8 hv h1 k.1,SE8 hv h2 k.2⟩⟩
 constructor
 ·refine VH fun i => ?_
  rw[mE,mE]
  by_cases hi:i<l.length
  ·have hj:i<m.length:=by rw[aAE h];exact hi
   rw[aP hi,aP hj]
   exact congrArg some (key i _ _ (aP hi) (aP hj)).1
  ·rw[List.getElem?_eq_none (by rw[aAE h];omega),List.getElem?_eq_none (by omega)]
 ·intro k p hp
  obtain⟨i,hi⟩:=List.mem_iff_getElem?.1 hp
  have hlt:=(List.getElem?_eq_some_iff.1 hi).1
  have hl:i<l.length:=by have:=aAE h;omega
  exact(key i _ p (aP hl) hi).2 (k _ (fB _))
theorem aBW {l m:List Prm}(h:m.map shp=l.map shp)(i:Nat):m.length=l.length/\shp (m.getD i f5)=shp (l.getD i f5):=by
 have hl:m.length=l.length:=by have:=congrArg List.length h;simpa using this
 refine⟨hl,?_⟩
 have:=congrArg (fun x=>x[i]?) h
 simp only[mE]at this
 rw[aW,aW]
 cases e1:m[i]? with
 | none =>
   rw[e1]at this
   cases e2:l[i]? with
   | none=>rfl
   | some x=>rw[e2]at this;cases this
 | some y =>
   rw[e1]at this
   cases e2:l[i]? with
   | none=>rw[e2]at this;cases this
   | some x=>rw[e2]at this;simpa using this
structure MdOk (ps0:List Prm)(by_ x:List Int)(ps:List Prm):Prop where
 b8:All8 by_
 x8:All8 x
 p8:∀ p∈ps,Prm8 p
 sh:ps.map shp=ps0.map shp
theorem MdOk.step {ps0 ps qs:List Prm}{b x b2 x2:List Int}(h:MdOk ps0 b x ps){i:Nat}(h1:SE .i8 (b.getD i 0) (.slc aL) b b2)(h2:SE .i8 (b.getD i 0) (.slc aL) x x2)(h3:SE .i8 (b.getD i 0) (.slc aNo) ps qs):MdOk ps0 b2 x2 qs :=
 have hv:=h.b8.at_ i
 ⟨SE8 hv h1 h.b8,SE8 hv h2 h.x8,(SEp hv h3).2 h.p8,(SEp hv h3).1.trans h.sh⟩
theorem aLH {ps0:List Prm}{j n:Nat}{k:Int}{b x:List Int}{ps:List Prm}{K:Int×List Int×List Int×List Prm->Prop}(hj:j<ps0.length)(hn:n=(ps0.getD j f5).1.2.2.length)(hn2:n<=1000000000)(hk:0<=k/\k<=10000000000000)(hb:b.length<=1000000000000000)(h0:MdOk ps0 b x ps)
 (h:∀ k' b' x' ps',(k'=k+n)->b'.length=b.length->MdOk ps0 b' x' ps'->K (k',b',x',ps')):q7 (j:Int) (n:Int) K (k,0,b,x,ps):=by
 refine⟨?_⟩
 refine Loop.rangeI (B:=kD (j:Int) (n:Int) K) n (fun i z=>z.1=k+i/\z.2.1=(i:Int)/\z.2.2.1.length=b.length/\MdOk ps0 z.2.2.1 z.2.2.2.1 z.2.2.2.2) ⟨by simp,rfl,rfl,h0⟩ ?_ ?_
 ·rintro i hi ⟨z1,z2,b1,x1,p1⟩ ⟨rfl,rfl,e1,g⟩ X hX
  unfold kD
  dsimp only at e1 g⊢
  rw[aB (aG (show(i:Int)<(n:Int) by omega))]
  have n7:∀ {K:Int->Prop},K (k+(i+1:Nat))->nC (k+(i:Int)) K:=fun {K} hK=>⟨by
   rw[aC _]
   exact cast (congrArg K (by omega)) hK⟩
  refine zT (b:=decide (k+(i:Int)<(b1.length:Int))) (c:=(b1.getD (k+(i:Int)).toNat 0 != (-128))) (fun hlt P hP=>⟨⟨by omega,by simpa using hlt⟩,hP⟩) (fun v e => ?_) rfl
  rw[aC ((i:Int)+1)]
  cases v with
  | false =>
    rw[aA (by simp)]
    exact n7 (hX _ ⟨rfl,rfl,e1,g⟩)
  | true =>
    rw[aB rfl]
    have hlt:k+(i:Int)<(b1.length:Int):=by
     have:=e.symm
     simp only[aI,aT]at this
     exact this.1
    obtain⟨s1,s2⟩:=aBW g.sh j
    have s3:(p1.getD j f5).1.2.2.length=(ps0.getD j f5).1.2.2.length:=congrArg Prod.fst s2
    simp only[Int.toNat_natCast]
    refine⟨by omega,by omega,⟨by omega,by show(i:Int)<((p1.getD j f5).1.2.2.length:Int);omega⟩,?_⟩
    intro m1 h1 m2 h2 m3 h3
    exact n7 (hX _ ⟨rfl,rfl,(aAE h1).trans e1,g.step h1 h2 h3⟩)
 ·rintro⟨z1,z2,b1,x1,p1⟩ ⟨rfl,rfl,e1,g⟩ X
  unfold kD
  rw[aA (by simp)]
  exact h _ _ _ _ rfl e1 g
theorem aL2 {ps0:List Prm}{j n:Nat}{k:Int}{b x:List Int}{ps:List Prm}{K:Int×List Int×List Int×List Prm->Prop}(hj:j<ps0.length)(hn:n=(ps0.getD j f5).2.2.2.2.length)(hn2:n<=1000000000)(hk:0<=k/\k<=10000000000000)(hb:b.length<=1000000000000000)(h0:MdOk ps0 b x ps)
 (h:∀ k' b' x' ps',(k'=k+n)->b'.length=b.length->MdOk ps0 b' x' ps'->K (k',b',x',ps')):qX (j:Int) (n:Int) K (k,0,b,x,ps):=by
 refine⟨?_⟩
 refine Loop.rangeI (B:=kI (j:Int) (n:Int) K) n (fun i z=>z.1=k+i/\z.2.1=(i:Int)/\z.2.2.1.length=b.length/\MdOk ps0 z.2.2.1 z.2.2.2.1 z.2.2.2.2) ⟨by simp,rfl,rfl,h0⟩ ?_ ?_
 ·rintro i hi ⟨z1,z2,b1,x1,p1⟩ ⟨rfl,rfl,e1,g⟩ X hX
  unfold kI
  dsimp only at e1 g⊢
  rw[aB (aG (show(i:Int)<(n:Int) by omega))]
  have n7:∀ {K:Int->Prop},K (k+(i+1:Nat))->nA (k+(i:Int)) K:=fun {K} hK=>⟨by
   rw[aC _]
   exact cast (congrArg K (by omega)) hK⟩
  refine zT (b:=decide (k+(i:Int)<(b1.length:Int))) (c:=(b1.getD (k+(i:Int)).toNat 0 != (-128))) (fun hlt P hP=>⟨⟨by omega,by simpa using hlt⟩,hP⟩) (fun v e => ?_) rfl
  rw[aC ((i:Int)+1)]
  cases v with
  | false =>
    rw[aA (by simp)]
    exact n7 (hX _ ⟨rfl,rfl,e1,g⟩)
  | true =>
    rw[aB rfl]
    have hlt:k+(i:Int)<(b1.length:Int):=by
     have:=e.symm
     simp only[aI,aT]at this
     exact this.1
    obtain⟨s1,s2⟩:=aBW g.sh j
    have s3:(p1.getD j f5).2.2.2.2.length=(ps0.getD j f5).2.2.2.2.length:=congrArg Prod.snd s2
    simp only[Int.toNat_natCast]
    refine⟨by omega,by omega,⟨by omega,by show(i:Int)<((p1.getD j f5).2.2.2.2.length:Int);omega⟩,?_⟩
    intro m1 h1 m2 h2 m3 h3
    exact n7 (hX _ ⟨rfl,rfl,(aAE h1).trans e1,g.step h1 h2 h3⟩)
 ·rintro⟨z1,z2,b1,x1,p1⟩ ⟨rfl,rfl,e1,g⟩ X
  unfold kI
  rw[aA (by simp)]
  exact h _ _ _ _ rfl e1 g
theorem aL6 {ps:List Prm}{b x:List Int}{K:List Int×List Int×List Prm->Prop}(hl:ps.length<=1000)(hs:∀ p∈ps,p.1.2.2.length<=1000000/\p.2.2.2.2.length<=1000000)(hb:b.length<=1000000000000000)(h0:MdOk ps b x ps)
 (h:∀ b' x' ps',MdOk ps b' x' ps'->K (b',x',ps')):q9 (ps.length:Int) K (0,0,b,x,ps):=by
 refine⟨?_⟩
 refine Loop.rangeI (B:=kT (ps.length:Int) K) ps.length (fun i z=>(0<=z.1/\z.1<=i*2000000)/\z.2.1=(i:Int)/\z.2.2.1.length=b.length/\MdOk ps z.2.2.1 z.2.2.2.1 z.2.2.2.2) ⟨⟨Int.le_refl _,by simp⟩,rfl,rfl,h0⟩ ?_ ?_
 ·rintro i hi ⟨k,z2,b1,x1,p1⟩ ⟨hk,rfl,e1,g⟩ X hX
  unfold kT
  dsimp only at hk e1 g⊢
  rw[aB (aG (show(i:Int)<(ps.length:Int) by omega))]
  obtain⟨s1,s2⟩:=aBW g.sh i
  have hm:ps.getD i f5∈ps:=by rw[aW,aP hi];exact fB _
  obtain⟨m1,m2⟩:=hs _ hm
  refine⟨by omega,?_⟩
  simp only[Int.toNat_natCast]
  refine aLH (ps0:=ps) hi (congrArg Prod.fst s2) (by have:(p1.getD i f5).1.2.2.length=_:=congrArg Prod.fst s2;show(p1.getD i f5).1.2.2.length<=_;rw[this];show(ps.getD i f5).1.2.2.length<=_;omega) (by omega) (by omega) g ?_
  intro k' b2 x2 p2 ek eb g2
  obtain⟨t1,t2⟩:=aBW g2.sh i
  have w1:(p1.getD i f5).1.2.2.length=(ps.getD i f5).1.2.2.length:=congrArg Prod.fst s2
  have w2:(p2.getD i f5).2.2.2.2.length=(ps.getD i f5).2.2.2.2.length:=congrArg Prod.snd t2
  have ek:k'=k+((p1.getD i f5).1.2.2.length:Nat):=ek
  dsimp only
  refine⟨by omega,aL2 (ps0:=ps) hi w2 (by show(p2.getD i f5).2.2.2.2.length<=_;omega) (by omega) (by omega) g2 ?_⟩
  intro k3 b3 x3 p3 ek3 eb3 g3
  have ek3:k3=k'+((p2.getD i f5).2.2.2.2.length:Nat):=ek3
  rw[aC ((i:Int)+1)]
  exact hX _ ⟨⟨by dsimp only;omega,by dsimp only;omega⟩,rfl,by dsimp only;omega,g3⟩
 ·rintro⟨k,z2,b1,x1,p1⟩ ⟨hk,rfl,e1,g⟩ X
  unfold kT
  rw[aA (by simp)]
  exact h _ _ _ g
theorem aKu {n:Nat}{x:List Int}{K:List Int->Prop}(hn:n<=1000000)(hx:All8 x)(h:∀ l,All8 l->K l):rM (n:Int) x K (0,[]):=by
 refine⟨?_⟩
 refine Loop.rangeI (B:=kQ (n:Int) x K) n (fun i z=>z.1=(i:Int)/\z.2.length=i/\All8 z.2) ⟨rfl,rfl,fun y hy=>(by cases hy)⟩ ?_ ?_
 ·rintro i hi ⟨z1,l⟩ ⟨rfl,e1,g⟩ X hX
  unfold kQ
  dsimp only at e1 g⊢
  rw[aB (aG (show(i:Int)<(n:Int) by omega))]
  refine⟨by decide,?_⟩
  refine zT (b:=decide ((i:Int)<(x.length:Int))) (c:=(x.getD i 0 != (-128))) (fun hlt P hP=>⟨⟨by omega,by simpa using hlt⟩,by rw[bM];exact hP⟩) (fun v e => ?_) rfl
  rw[aC ((i:Int)+1)]
  cases v with
  | false =>
    rw[aA (by simp)]
    refine⟨?_⟩
    exact⟨by simp;omega,hX _ ⟨rfl,by simp[e1],aAs g (PE _)⟩⟩
  | true =>
    rw[aB rfl]
    have hlt:(i:Int)<(x.length:Int):=by
     have:=e.symm
     simp only[aI,aT]at this
     exact this.1
    refine⟨⟨by omega,hlt⟩,⟨?_⟩⟩
    exact⟨by simp;omega,hX _ ⟨rfl,by simp[e1],aAs g (hx.at_ _)⟩⟩
 ·rintro⟨z1,l⟩ ⟨rfl,e1,g⟩ X
  unfold kQ
  rw[aA (by simp)]
  exact h _ g
abbrev aMS:=Mdl×Int×List Int×Int×List Int×Int
theorem aMO {n:aMS}{Q:List Prm×T3×Int->Prop}(hl:n.1.2.length<=10000000000000)(hb:n.2.2.1.length<=1000000000000000)(b8:All8 n.2.2.1)(x8:All8 n.2.2.2.2.1)
 (h:∀ ps x e,(e=0->ps.length=n.1.2.length/\(∀ p∈ps,Prm8 p)/\All8 x.2.2/\(aV n.1).2.2=0)->Q (ps,x,e)):vM n Q:=by
 obtain⟨m,seed,by_,N,X,ex⟩:=n
 dsimp only at hl hb b8 x8 h
 refine⟨HX hl ?_⟩
 have e0:aV ((m.1.1,m.1.2.1,m.1.2.2),m.2)=aV m:=rfl
 dsimp only
 rw[e0]
 split
 ·rename_i he
  exact h _ _ _ (fun e=>absurd e (by simpa using he))
 ·rename_i he
  have he:(aV m).2.2=0:=by simpa using he
  obtain⟨hm,q2,q3⟩:=C5 he
  obtain⟨hin,⟨k1,k2⟩,_⟩:=lL hm
  refine⟨?_⟩
  have bad:∀ e:Int,e≠0->Q ([],([],(0,[])),e):=fun e he=>h _ _ _ fun e1=>absurd e1 he
  refine Loop.rangeI (B:=kS ((aV m).1.length:Int) m.1.1 m.1.2.1 m.1.2.2 m.2 (aV m).1 _ _) (aV m).1.length (fun i z=>z.2=(i:Int)) rfl ?_ ?_
  ·rintro i hi ⟨z1,z2⟩ rfl Y hY
   unfold kS
   dsimp only
   rw[aB (aG (show(i:Int)<((aV m).1.length:Int) by omega))]
   refine⟨by omega,?_⟩
   rw[aC ((i:Int)+1)]
   have n3:∀ r:Int,mU z1 ((aV m).1.getD ((i:Int)).toNat []) r fun y=>Y (y,(i:Int)+1):=fun r=>⟨zH (hY _ rfl)⟩
   split
   ·rename_i h0
    have h0:0<i:=by simpa using h0
    refine aHw hl (zH ?_)
    rw[aC ((i:Int)-1)]
    refine zT (b:=(((BO ((m.1.1,m.1.2.1,m.1.2.2),m.2) (i:Int)).1.length:Int)==0)) (c:=((m.2.getD ((i:Int)-1).toNat bY).1==1||(m.2.getD ((i:Int)-1).toNat bY).1==2)) (fun _ P hP=>⟨by omega,?_⟩) (fun v e => ?_) rfl
    ·refine eN (b:=(m.2.getD ((i:Int)-1).toNat bY).1==1) (c:=(m.2.getD ((i:Int)-1).toNat bY).1==2) (fun _ P' hP'=>⟨by omega,hP'⟩) (fun v e => ?_) rfl
     rw[e];exact hP
    ·split
     ·exact bad 1 (by decide)
     ·exact n3 _
   ·exact n3 0
  ·rintro⟨z1,z2⟩ rfl Y
   unfold kS
   rw[aA (by simp)]
   dsimp only
   split
   ·exact bad 10 (by decide)
   ·refine aMn hl fun ps e hps => ?_
    dsimp only
    split
    ·rename_i he
     exact bad e (by simpa using he)
    ·rename_i he
     have he:e=0:=by simpa using he
     obtain⟨p1,p2⟩:=hps he
     have p1:ps.length=m.2.length:=p1
     refine aL6 (by omega) (fun p hp=>(p2 p hp).2) hb ⟨b8,x8,fun p hp=>(p2 p hp).1,rfl⟩ ?_
     intro b' x' ps' g
     have gl:=(aBW g.sh 0).1
     refine⟨by decide,by decide,zH ?_⟩
     have hz:=G0 [i64.wrap (1+(i64.wrap ((u64.wrap N).tmod 3))),m.1.1,m.1.2.1,m.1.2.2]
     have hz0:=AR [i64.wrap (1+(i64.wrap ((u64.wrap N).tmod 3))),m.1.1,m.1.2.1,m.1.2.2]
     obtain⟨k,hk⟩:∃ k:Nat,szF [i64.wrap (1+(i64.wrap ((u64.wrap N).tmod 3))),m.1.1,m.1.2.1,m.1.2.2]=k:=⟨_,(Int.toNat_of_nonneg hz0).symm⟩
     rw[hk]at hz⊢
     exact aKu (by omega) g.x8 fun l hl8=>h _ _ _ fun _=>⟨by rw[gl];exact p1,g.p8,hl8,by assumption⟩
end Go.Proofs.YtcfpfefadlnmcaaGreat

namespace Go.Proofs.YtcfpfefadlnmcaaGreat
open Go.Mach Go.RowKit
set_option maxRecDepth 100000
set_option linter.unusedVariables false
set_option linter.unusedSimpArgs false
theorem aDm {s t:Int}:sQ ([1,1],0,[16]) 8 s t=(([1,1],0,[16]),0):=by
 have h1:((!(lM ([1,1],0,[16]))||(decide ((8:Int)<2)))||(decide ((8:Int)<8)))=false:=by decide +kernel
 have h2:xB ([1,1],0,[16]) 8=0:=by decide +kernel
 unfold sQ
 rw[h1,h2,aA (by simp),aA (by decide +kernel)]
 unfold aCx
 show(([1,1],_,[WV 8 s t 0 [16] 0]),0)=_
 unfold WV
 rw[aBM]
 decide +kernel
end Go.Proofs.YtcfpfefadlnmcaaGreat

namespace Go.Proofs.YtcfpfefadlnmcaaGreat
end Go.Proofs.YtcfpfefadlnmcaaGreat

namespace Go.Proofs.YtcfpfefadlnmcaaGreat
open IntKind (i8 i16 i32 i64 u8 u16 u32 u64)
open Go.Mach Go.RowKit
set_option maxRecDepth 100000
set_option linter.unusedVariables false
set_option linter.unusedSimpArgs false
abbrev mA:Mdl:=((1,(1,2)),[(6,(0,(0,(0,(0,(0,false)))))),(1,(1,(0,(0,(0,(0,false))))))])
abbrev pA1:Prm:=(([1,2],(0,[3,4])),([0,0],([1],(0,[5]))))
abbrev psA:List Prm:=[((([]:List Int),(0,([]:List Int))),(([]:List Int),(([]:List Int),(0,([]:List Int))))),pA1]
abbrev xA:T3:=([1,1,1,2],(0,[1,2]))
abbrev tA1:T3:=([1,2],0,[1,2])
abbrev tA2:T3:=([1,1],0,[16])
abbrev gA:T3:=([1,1],(0,[6]))
abbrev bA1:T3:=([1,2],0,[18,24])
abbrev bA0:T3:=([1,1,1,2],0,[18,24])
abbrev rA:G3:=(true,([1,2],0,[6,12]),([1],0,[6]))
theorem aLh (t:Int):q6 (6,(0,(0,(0,(0,(0,false)))))) f5 [xA] 1 t=(tA1,[],0):=by
 have h:OK (6,(0,(0,(0,(0,(0,false)))))) f5 [xA]=(Z3,false,0):=by decide +kernel
 unfold q6
 rw[h,aA (by decide),aA (by decide)]
 decide +kernel
theorem aLT (t:Int):q6 (1,(1,(0,(0,(0,(0,false)))))) pA1 [xA,tA1] 1 t=(tA2,[],0):=by
 have h:OK (1,(1,(0,(0,(0,(0,false)))))) pA1 [xA,tA1]=(([1,1],0,[16]),true,0):=by decide +kernel
 unfold q6
 rw[h,aA (by decide),aB rfl]
 dsimp only
 rw[aDm]
theorem aO9:aLD mA psA xA 1 0=(([xA,tA1,tA2],[[],[],[]]),0,0):=by
 have h1:((!inP 0 0 1000000 || !xU mA psA) || !bA xA)=false:=by decide +kernel
 have h2:(((xA.1.length:Int) != 4) || !decide (xA.1.drop 1=inL mA))=false:=by decide +kernel
 unfold aLD
 rw[h1,h2]
 simp only[eW,cN]
 unfold TG
 show(if ((q6 (6,(0,(0,(0,(0,(0,false)))))) f5 [xA] 1 _).2.2 != 0)=true then _ else TG psA 1 0 [(1,(1,(0,(0,(0,(0,false))))))] 1 ([xA]++[(q6 (6,(0,(0,(0,(0,(0,false)))))) f5 [xA] 1 _).1],[[]]++[(q6 (6,(0,(0,(0,(0,(0,false)))))) f5 [xA] 1 _).2.1]))=_
 rw[aLh,aA (by decide)]
 unfold TG
 show(if ((q6 (1,(1,(0,(0,(0,(0,false)))))) pA1 [xA,tA1] 1 _).2.2 != 0)=true then _ else TG psA 1 0 [] 2 ([xA,tA1]++[(q6 (1,(1,(0,(0,(0,(0,false)))))) pA1 [xA,tA1] 1 _).1],[[],[]]++[(q6 (1,(1,(0,(0,(0,(0,false)))))) pA1 [xA,tA1] 1 _).2.1]))=_
 rw[aLT,aA (by decide)]
 rfl
theorem aNS {s t:Int}:sQ bA1 8 s t=(bA1,0):=by
 have h1:((!(lM bA1)||(decide ((8:Int)<2)))||(decide ((8:Int)<8)))=false:=by decide +kernel
 have h2:xB bA1 8=0:=by decide +kernel
 unfold sQ
 rw[h1,h2,aA (by simp),aA (by decide +kernel)]
 unfold aCx
 show(([1,2],_,[WV 8 s t 0 [18,24] 0,WV 8 s t 0 [18,24] 1]),0)=_
 unfold WV
 rw[aBM,aBM]
 decide +kernel
theorem aN6:pE mA psA [xA,tA1,tA2] [[],[],[]] 0 1 2 [[],[],[gA]]=((rA,0),[[],[bA1],[gA]]):=by
 have h1:grV (mA.2.getD (2-1) bY) gA ([xA,tA1,tA2].getD (2-1) Z3)=(rA,0):=by decide +kernel
 have h2:onV (mA.2.getD (2-1) bY) (psA.getD (2-1) f5) gA ([xA,tA1,tA2].getD (2-1) Z3) (([[],[],[]]:List (List Int)).getD 2 []) 0 1 ((2:Nat):Int)=(bA1,0):=by
  have h3:aDw gA pA1.1=(bA1,0):=by decide +kernel
  unfold onV
  rw[aA (by decide),aA (by decide),aA (by decide),aB (by decide)]
  show mK 0 1 (aDw gA pA1.1).1 (aDw gA pA1.1).2 _ 2=_
  rw[h3]
  unfold mK
  rw[aA (by decide)]
  exact aNS
 show aAG mA psA [xA,tA1,tA2] [[],[],[]] 0 1 2 [[],[],[gA]] gA=_
 unfold aAG
 rw[h1,h2,aB rfl]
 rfl
theorem aNg:pE mA psA [xA,tA1,tA2] [[],[],[]] 0 1 1 [[],[bA1],[gA]]=((eU,0),[[bA0],[bA1],[gA]]):=by
 have h1:grV (mA.2.getD (1-1) bY) bA1 ([xA,tA1,tA2].getD (1-1) Z3)=(eU,0):=by decide +kernel
 have h2:onV (mA.2.getD (1-1) bY) (psA.getD (1-1) f5) bA1 ([xA,tA1,tA2].getD (1-1) Z3) (([[],[],[]]:List (List Int)).getD 1 []) 0 1 ((1:Nat):Int)=(bA0,0):=by
  unfold onV
  rw[aA (by decide),aB (by decide)]
  decide +kernel
 show aAG mA psA [xA,tA1,tA2] [[],[],[]] 0 1 1 [[],[bA1],[gA]] bA1=_
 unfold aAG
 rw[h1,h2,aB rfl]
 rfl
theorem aO5:M0 mA psA [xA,tA1,tA2] [[],[],[]] gA 1 0=([eU,rA],0,0):=by
 have h1:EW mA psA [xA,tA1,tA2] [[],[],[]] 0 gA=0:=by decide +kernel
 unfold M0
 rw[aB h1]
 show qH mA psA [xA,tA1,tA2] [[],[],[]] 0 1 2 [eU,eU] [[],[],[gA]]=_
 unfold qH
 rw[aN6,aB rfl]
 show qH mA psA [xA,tA1,tA2] [[],[],[]] 0 1 1 [eU,rA] [[],[bA1],[gA]]=_
 unfold qH
 rw[aNg,aB rfl]
 rfl
theorem TE {l:List Int}(h:(l.all fun y=>decide (-128<=y)&&decide (y<=127))=true):All8 l:=fun y hy=>by
 have:=List.all_eq_true.1 h y hy
 simpa using this
theorem TV {Q:Bool->Prop}(h:Q true):iF Q:=by
 have hp:∀ p∈psA,Prm8 p:=by
  intro p hp
  simp only[SI,List.not_mem_nil,or_false]at hp
  rcases hp with rfl|rfl <;> exact⟨TE (by decide),TE (by decide)⟩
 refine⟨⟨?_⟩⟩
 refine aOY (m:=mA) (ps:=psA) (x:=xA) (by decide) hp (TE (by decide)) ?_
 rw[aO9]
 refine⟨?_⟩
 refine aJS (m:=mA) (ps:=psA) (T:=[xA,tA1,tA2]) (F:=[[],[],[]]) (g:=gA) (by decide) (by decide) hp ?_ (TE (by decide)) ?_
 ·intro t ht
  simp only[SI,List.not_mem_nil,or_false]at ht
  rcases ht with rfl|rfl|rfl <;> exact TE (by decide)
 rw[aO5]
 unfold jn
 dsimp only
 rw[aB (by decide)]
 refine⟨by decide,?_⟩
 rw[aB (by decide)]
 refine⟨by decide,?_⟩
 rw[aB (by decide)]
 refine⟨by decide,by decide,?_⟩
 rw[aB (by decide)]
 refine⟨by decide,?_⟩
 rw[aB (by decide)]
 refine⟨by decide,by decide,?_⟩
 exact h
def XN (l:List Int)(n:Nat):List Int:=(List.range n).map fun i=>if i<l.length/\l.getD i 0 ≠ -128 then l.getD i 0 else 0
def aAt (t:T3)(l:List Int)(e:Int):T3:=(t.1,e.tmod 20,XN l t.2.2.length)
theorem aMT {t:T3}{l:List Int}{e:Int}{Q:T3->Prop}(h1:t.1.length<=1000000)(h2:t.2.2.length<=1000000)(hl:l.length<=1000000000000000)(h:Q (aAt t l e)):u9 t l e Q:=by
 refine⟨⟨by simp;omega,⟨by decide,⟨by omega,⟨?_⟩⟩⟩⟩⟩
 simp only[Int.toNat_natCast,pY]
 refine Loop.range (B:=kJ l (t.2.2.length:Int) _) t.2.2.length (fun i=>((i:Int),XN l i++List.replicate (t.2.2.length-i) 0)) (fun _=>True) trivial ?_ ?_
 ·intro i hi _ X hX
  have hX:=hX trivial
  unfold kJ
  dsimp only at hX⊢
  rw[aB (aG (show(i:Int)<(t.2.2.length:Int) by omega))]
  rw[bM]
  have el:(XN l i).length=i:=by simp[XN]
  have e1:XN l (i+1)=XN l i++[if i<l.length/\l.getD i 0 ≠ -128 then l.getD i 0 else 0]:=by
   unfold XN
   rw[qR,yZ];rfl
  have e2:List.replicate (t.2.2.length-i) (0:Int)=0::List.replicate (t.2.2.length-(i+1)) 0:=by
   rw[show t.2.2.length-i=(t.2.2.length-(i+1))+1 by omega,List.replicate_succ]
  rw[e1]at hX
  have no : ¬ (i<l.length/\l.getD i 0 ≠ -128)->X (i64.wrap ((i:Int)+1),XN l i++List.replicate (t.2.2.length-i) 0):=fun hn=>by
   rw[aA hn,fU]at hX
   rw[aC _,e2]
   exact hX
  refine zT (c:=(l.getD i 0 != -128)) (fun hb P hP=>⟨by have:=of_decide_eq_true hb;omega,hP⟩) (fun v ev => ?_) rfl
  cases v with
  | true =>
    have ev:=ev.symm
    simp only[aI,aT,nZ,ne_eq]at ev
    have hi2:i<l.length:=by omega
    rw[aB rfl]
    rw[aB ⟨hi2,ev.2⟩,fU]at hX
    refine⟨by omega,⟨by rw[kX,el,pY];omega,⟨?_⟩⟩⟩
    rw[aC _,e2,List.set_append_right _ _ (by omega),el,Nat.sub_self]
    exact hX
  | false =>
    rw[aA (by simp)]
    refine⟨no ?_⟩
    rintro⟨k1,k2⟩
    rw[aG (show(i:Int)<(l.length:Int) by omega)]at ev
    simp only[BX]at ev
    have:l.getD i 0 = -128:=by simpa using ev.symm
    exact k2 this
 ·intro _ X
  unfold kJ
  rw[aA (by simp)]
  dsimp only
  rw[Nat.sub_self,List.replicate_zero,dU,List.nil_append]
  exact h
theorem aOU {t:T3}{l:List Int}{e:Int}(h:All8 l):All8 (aAt t l e).2.2:=by
 intro y hy
 obtain⟨i,_,rfl⟩:=List.mem_map.1 hy
 split
 ·exact h.at_ i
 ·omega
end Go.Proofs.YtcfpfefadlnmcaaGreat

namespace Go.Proofs.YtcfpfefadlnmcaaGreat
open Go.Mach Go.RowKit
set_option maxRecDepth 100000
set_option linter.unusedVariables false
set_option linter.unusedSimpArgs false
def P1 (a:T3):Prop:=a.1.length<=1000000/\a.2.2.length<=1000000
theorem uG:P1 Z3:=⟨by simp,by simp⟩
theorem ZV (R C n e:Int)(f:Nat->Nat->Int):P1 (uU R C n e f).1:=by
 unfold uU
 split
 ·exact uG
 split
 ·exact uG
 ·rename_i h
  have h:0<szF [R,C]:=by simpa using h
  obtain⟨k1,k2,k3,k4,k5,_⟩:=aBe R C h
  obtain⟨R,rfl⟩:=gM (show 0<=R by omega)
  obtain⟨C,rfl⟩:=gM (show 0<=C by omega)
  refine⟨by simp,?_⟩
  show(mR _ _ _).length<=_
  rw[AH]
  simp only[Int.toNat_natCast]
  rw[<- lA]at k5
  omega
theorem aIq (g x:T3):P1 (aE2 g x).1:=by
 unfold aE2
 split
 ·exact uG
 split
 ·exact uG
 ·exact ZV _ _ _ _ _
theorem aIu (g:T3):P1 (aEN g).1:=by
 unfold aEN
 have h:P1 (aFq g).1:=ZV _ _ _ _ _
 split
 ·exact uG
 split
 ·exact⟨by simp,h.2⟩
 ·exact h
theorem aDh (g x:T3)(k s p:Int):P1 (uL g x k s p).1:=by
 unfold uL
 split
 ·exact uG
 ·rename_i h
  have h:wtE g x k s p=0:=by simpa using h
  unfold wtE at h
  split at h
  ·rename_i h1;exact absurd h (by simpa using h1)
  split at h
  ·cases h
  obtain⟨_,_,h3,_⟩:=BA h
  unfold SP at h3
  obtain⟨O,C,K,K',e1,e2,e3,e4,_,_,_,_,hb,_⟩:=aBo h3
  refine⟨by simp[SP],?_⟩
  show(w4 _ _ _ _ _).length<=_
  rw[SY,e1,e2,e3]
  have:K=K':=by omega
  subst this
  simp only[Int.toNat_natCast]
  omega
theorem aGP (g:T3):P1 (PL g).1:=by
 unfold PL
 split
 ·exact uG
 ·rename_i h
  have h:bsE g=0:=by simpa using h
  unfold bsE at h
  split at h
  ·rename_i h1;exact absurd h (by simpa using h1)
  obtain⟨_,_,h3,_⟩:=BA h
  have:=aL7 h3
  refine⟨by simp,?_⟩
  show(Z2 g).length<=_
  unfold Z2
  rw[TN]
  omega
def z8 (G:G3):Prop:=P1 G.2.1/\P1 G.2.2
theorem aHF (x:Lay)(g t:T3):z8 (F6 x g t).1:=by
 unfold F6
 have z:z8 eU:=⟨uG,uG⟩
 split
 ·split
  ·split
   ·exact⟨aIq _ _,aIu _⟩
   ·exact z
  ·exact z
 ·split
  ·split
   ·exact⟨aDh _ _ _ _ _,aGP _⟩
   ·exact z
  ·exact z
theorem aFJ {m:Mdl}{ps:List Prm}{T:List T3}{F:List (List Int)}{st s:Int}{n:Nat}{back:List (List T3)}:z8 (pE m ps T F st s n back).1.1:=by
 have z:z8 eU:=⟨uG,uG⟩
 unfold pE
 split
 ·unfold aAG
  split
  ·unfold grV
   split
   ·exact aHF _ _ _
   ·exact z
  ·exact z
 ·exact z
theorem aAL {m:Mdl}{ps:List Prm}{T:List T3}{F:List (List Int)}{st s:Int}:∀ (n:Nat) (out:List G3) (back:List (List T3)),(∀ G∈out,z8 G)->∀ G∈(qH m ps T F st s n out back).1,z8 G
 | 0,out,back,h=>h
 | n+1,out,back,h=>by
   unfold qH
   split
   ·refine aAL n _ _ fun G hG => ?_
    rcases List.mem_or_eq_of_mem_set hG with h1|h1
    ·exact h G h1
    ·subst h1;exact aFJ
   ·intro G hG;cases hG
theorem aIe {n:Nat}:∀ G∈List.replicate n eU,z8 G:=fun G hG=>by rw[aEV hG];exact⟨uG,uG⟩
theorem aIa {l:List G3}(h:∀ G∈l,z8 G){i:Nat}(hi:i<l.length):z8 (l.getD i eU):=by
 rw[aW,aP hi]
 exact h _ (fB _)
end Go.Proofs.YtcfpfefadlnmcaaGreat

namespace Go.Proofs.YtcfpfefadlnmcaaGreat
open Go.Mach Go.RowKit
set_option maxRecDepth 100000
set_option linter.unusedVariables false
abbrev aNf:Ty := .pair (.int .i64) (.pair (.int .i64) (.pair (.int .i64) (.pair (.int .i64) (.pair (.int .i64) (.pair (.int .i64) .bool)))))
abbrev aOR:Ty := .pair (.pair (.pair (.int .i64) (.pair (.int .i64) (.int .i64))) (.slc aNf)) (.pair (.int .u64) (.pair (.slc aL) (.pair (.int .i64) (.pair (.slc aL) (.int .i64)))))
theorem aHs {l:List Int}(h:TL (.slc aL) l):l.length<=1000000000000000/\All8 l:=by
 obtain⟨h1,h2⟩:=h
 refine⟨?_,fun y hy=>aM7 (h2 y hy)⟩
 unfold reachBytes F8 IntKind.bits at h1
 simp at h1
 omega
theorem UE {n:aMS}(h:TL aOR n):n.1.2.length<=10000000000000/\n.2.2.1.length<=1000000000000000/\All8 n.2.2.1/\All8 n.2.2.2.2.1:=by
 obtain⟨⟨_,h1,_⟩,_,h2,_,h3,_⟩:=h
 refine⟨?_,(aHs h2).1,(aHs h2).2,(aHs h3).2⟩
 unfold reachBytes at h1
 have e:F8 aNf=49:=by decide
 rw[e]at h1
 have h1:n.1.2.length*49<=_:=h1
 omega
end Go.Proofs.YtcfpfefadlnmcaaGreat

namespace Go.Proofs.YtcfpfefadlnmcaaGreat
open Go.Mach Go.RowKit
set_option maxRecDepth 100000
set_option linter.unusedVariables false
set_option linter.unusedSimpArgs false
theorem aC3 {a:T3}{Q:Bool->Prop}(ha:P1 a)(h:Q true):n9 a a Q:=by
 refine⟨C7 ha.1 ?_⟩
 rw[aG rfl,aA (by simp)]
 refine⟨?_⟩
 have:=ha.2
 refine Loop.range (B:=iY (a.2.2.length:Int) a.2.2 a.2.2 _ _) a.2.2.length (fun i=>(i:Int)) (fun _=>True) trivial (fun i hi _ X hX => ?_) (fun _ X => ?_)
 ·unfold iY
  rw[aB (aG (show(i:Int)<(a.2.2.length:Int) by omega))]
  refine⟨by omega,by omega,?_⟩
  rw[aA (by simp),aC _]
  exact hX trivial
 ·unfold iY
  rw[aA (by simp)]
  exact h
theorem aLF {l:List G3}{Q:Bool->Prop}(hl:l.length<=1000000)(hs:∀ G∈l,z8 G)(h:Q true):vL l l Q:=by
 refine⟨?_⟩
 rw[aA (by simp)]
 refine⟨?_⟩
 refine Loop.range (B:=kR l l (l.length:Int) _ _) l.length (fun i=>(i:Int)) (fun _=>True) trivial (fun i hi _ X hX => ?_) (fun _ X => ?_)
 ·unfold kR
  rw[aB (aG (show(i:Int)<(l.length:Int) by omega)),bM]
  have hG:=aIa hs hi
  have hG:z8 (l.getD i (false,(([],(0,[])),([],(0,[]))))):=hG
  refine⟨by omega,by omega,?_⟩
  generalize l.getD i (false,(([],(0,[])),([],(0,[]))))=G at hG⊢
  refine eN (c:=false) (fun _ P hP=>⟨by omega,by omega,aC3 hG.1 hP⟩) (fun v e => ?_) rfl
  refine eN (c:=false) (fun _ P hP=>⟨by omega,by omega,aC3 hG.2 hP⟩) (fun v2 e2 => ?_) rfl
  have:v2=false:=by rw[e2,e];simp
  subst this
  rw[aA (by simp),aC _]
  exact hX trivial
 ·unfold kR
  rw[aA (by simp)]
  exact h
theorem aGM {m:Mdl}{ps:List Prm}{T:List T3}{F:List (List Int)}{g:T3}{s st:Int}(hl:m.2.length<=12):(M0 m ps T F g s st).1.length<=12/\∀ G∈(M0 m ps T F g s st).1,z8 G:=by
 have key:∀ (n:Nat) (o:List G3) (b:List (List T3)),o.length<=12->(qH m ps T F st s n o b).1.length<=12:=by
  intro n
  induction n with
  | zero=>intro o b h;exact h
  | succ n ih =>
    intro o b h
    unfold qH
    split
    ·exact ih _ _ (by rw[zE];exact h)
    ·simp
 unfold M0
 split
 ·exact⟨key _ _ _ (by rw[pY];exact hl),aAL _ _ _ aIe⟩
 ·exact⟨by simp,fun G h=>by cases h⟩
end Go.Proofs.YtcfpfefadlnmcaaGreat

namespace Go.Proofs.YtcfpfefadlnmcaaGreat
open IntKind (i8 i16 i32 i64 u8 u16 u32 u64)
open Go.Mach Go.RowKit
set_option maxRecDepth 100000
set_option linter.unusedVariables false
set_option linter.unusedSimpArgs false
theorem aJm {B:Int×List Int->(Int×List Int->Prop)->Prop}(n N:Nat){L:List Int}(hL:L.length=N)(h1:∀ i M X,i<n->M.length=N->(∀ M':List Int,M'.length=N->X (((i+1:Nat):Int),M'))->B ((i:Int),M) X)(h2:∀ M X,M.length=N->B ((n:Int),M) X):Go.Mach.Loop B (0,L):=by
 refine Loop.rangeI n (fun i s=>s.1=(i:Int)/\s.2.length=N) ⟨rfl,hL⟩ ?_ ?_
 ·rintro i hi ⟨a,M⟩ ⟨e1,e2⟩ X hX
  dsimp only at e1 e2
  subst e1
  exact h1 i M X hi e2 fun M' hM=>hX _ ⟨rfl,hM⟩
 ·rintro⟨a,M⟩ ⟨e1,e2⟩ X
  dsimp only at e1 e2
  subst e1
  exact h2 M X e2
theorem aMY {B:Int×Int->(Int×Int->Prop)->Prop}(n:Nat){t:Int}(h1:∀ i t X,i<n->(∀ t',X (t',((i+1:Nat):Int)))->B (t,(i:Int)) X)(h2:∀ t X,B (t,(n:Int)) X):Go.Mach.Loop B (t,0):=by
 refine Loop.rangeI n (fun i s=>s.2=(i:Int)) rfl ?_ ?_
 ·rintro i hi ⟨t,a⟩ e1 X hX
  dsimp only at e1
  subst e1
  exact h1 i t X hi fun t'=>hX _ rfl
 ·rintro⟨t,a⟩ e1 X
  dsimp only at e1
  subst e1
  exact h2 t X
theorem aOL {a b c:T3}:[a,b,c].all bA=(bA a&&(bA b&&bA c)):=by simp[List.all_cons]
theorem aMy {x w b:T3}{Q:T3×Int->Prop}(h:∀ a e,Q (a,e)):tV x w b Q:=by
 refine⟨tU (by simp) ?_⟩
 cases hm:[x,w,b].all bA with
 | false=>rw[aB (by rfl)];exact h _ _
 | true =>
 rw[aA (by simp)]
 rw[aOL]at hm
 simp only[aI]at hm
 obtain⟨mx,mw,mb⟩:=hm
 refine eN (b:=(((x.1.length:Int) != 2)||((w.1.length:Int) != 2))||((b.1.length:Int) != 1)) (c:=x.1.getD 1 0 != w.1.getD 1 0) (fun hb P hp=>by
  simp only[dP,rN]at hb
  exact⟨by omega,by omega,hp⟩) (fun v2 e2 => ?_) rfl
 refine eN (c:=b.1.getD 0 0 != w.1.getD 0 0) (fun hb P hp=>by
  rw[e2]at hb
  simp only[dP,rN]at hb
  exact⟨by omega,by omega,hp⟩) (fun v4 e4 => ?_) rfl
 cases v4 with
 | true=>rw[aB rfl];exact h _ _
 | false =>
 rw[aA (by simp)]
 rw[e2]at e4
 have e4:=e4.symm
 simp only[dP,rN]at e4
 obtain⟨⟨⟨⟨l1,l2⟩,l3⟩,c1⟩,c2⟩:=e4
 obtain⟨R,n,ex,x1,x2,x3,x4,x5,x6,x7,x8⟩:=T6 mx (by omega)
 obtain⟨C,m,ew,w1,w2,w3,w4,w5,w6,w7,w8⟩:=T6 mw (by omega)
 obtain⟨C',eb,b1,b2,b3⟩:=aNB mb (by omega)
 rw[ex,ew]at c1
 rw[ew,eb]at c2
 simp only[List.getD_cons_zero,List.getD_cons_succ]at c1 c2
 have:m=n:=by omega
 subst this
 have:C'=C:=by omega
 subst this
 refine⟨?_⟩
 rw[ex,ew]
 simp only[List.getD_cons_zero,List.getD_cons_succ]
 refine⟨by simp,by simp,by simp,F3 ?_⟩
 by_cases h4:((gT [(R:Int),(C':Int)] (i64.wrap (x.2.1+w.2.1)) (m:Int)).2 != 0)=true
 ·rw[aB h4];exact h _ _
 obtain⟨k1,k2,k3⟩:=TQ h4
 rw[aA h4,k3]
 dsimp only
 rw[aEA k2]
 have hRC:=(aBe _ _ k2).2.2.2.2.1
 rw[<- lA]at hRC
 refine⟨aJm R (R*C') (by simp) (fun i M X hi hM hX => ?_) (fun M X hM => ?_)⟩
 ·unfold oF
  rw[aB (aG (show(i:Int)<(R:Int) by omega))]
  refine⟨aJm C' (R*C') hM (fun o M X2 ho hM hX2 => ?_) (fun M X2 hM => ?_)⟩
  ·unfold oE
   rw[aB (aG (show(o:Int)<(C':Int) by omega))]
   have g0:=fC (R:=R) (n:=C') hi ho
   refine⟨by omega,aIE ⟨aMY m (fun j t X3 hj hX3 => ?_) (fun t X3 => ?_)⟩⟩
   ·unfold oO
    have g1:=fC (R:=R) (n:=m) hi hj
    have g2:=fC (R:=C') (n:=m) ho hj
    rw[aB (aG (show(j:Int)<(m:Int) by omega))]
    dsimp only
    rw[ix (r:=i) (n:=m) (i:=j) (by omega),ix (r:=o) (n:=m) (i:=j) (by omega),aC ((j:Int)+1)]
    exact⟨by omega,by omega,hX3 _⟩
   ·unfold oO
    rw[aA (by simp)]
    dsimp only
    rw[ix (r:=i) (n:=C') (i:=o) (by omega),aC ((o:Int)+1)]
    exact⟨by omega,hX2 _ (by rw[zE];exact hM)⟩
  ·unfold oE
   rw[aA (by simp),aC ((i:Int)+1)]
   exact hX _ hM
 ·unfold oF
  rw[aA (by simp)]
  exact h _ _
theorem aOB {x w b:T3}{s p:Int}{Q:T3×Int->Prop}(h:∀ a e,Q (a,e)):vP x w b s p Q:=by
 refine⟨tU (by simp) ?_⟩
 cases hm:[x,w,b].all bA with
 | false=>rw[aB (by rfl)];exact h _ _
 | true =>
 rw[aA (by simp)]
 rw[aOL]at hm
 simp only[aI]at hm
 refine eN (b:=(((x.1.length:Int) != 4)||((w.1.length:Int) != 4))||((b.1.length:Int) != 1)) (c:=x.1.getD 1 0 != w.1.getD 1 0) (fun hb P hp=>by
  simp only[dP,rN]at hb
  exact⟨by omega,by omega,hp⟩) (fun v2 e2 => ?_) rfl
 refine eN (c:=w.1.getD 2 0 != w.1.getD 3 0) (fun hb P hp=>by
  rw[e2]at hb
  simp only[dP,rN]at hb
  exact⟨by omega,by omega,hp⟩) (fun v4 e4 => ?_) rfl
 refine eN (c:=b.1.getD 0 0 != w.1.getD 0 0) (fun hb P hp=>by
  rw[e4,e2]at hb
  simp only[dP,rN]at hb
  exact⟨by omega,by omega,hp⟩) (fun v6 e6 => ?_) rfl
 cases v6 with
 | true=>rw[aB rfl];exact h _ _
 | false =>
 rw[aA (by simp)]
 rw[e4,e2]at e6
 have e6:=e6.symm
 simp only[dP,rN]at e6
 obtain⟨⟨⟨⟨⟨l1,l2⟩,l3⟩,c1⟩,c2⟩,c3⟩:=e6
 refine⟨by omega,by omega,by omega,by omega,by omega,by omega,EL ?_⟩
 obtain⟨n,C,H,V,ex,x1,x2,x3,x4,x5,x6,x7,x8⟩:=SC hm.1 l1
 obtain⟨O,C',K,K',ew,w1,w2,w3,w4,w5,w6,w7,w8⟩:=SC hm.2.1 l2
 obtain⟨O',eb,b1,b2,b3⟩:=aNB hm.2.2 (by omega)
 rw[ex,ew]at c1
 rw[ew]at c2
 rw[ew,eb]at c3
 rw[ex,ew]
 simp only[List.getD_cons_zero,List.getD_cons_succ]at c1 c2 c3⊢
 have ec:C'=C:=by omega
 have ek:K'=K:=by omega
 have eo:O'=O:=by omega
 subst ec ek eo
 by_cases hz:((bL (H:Int) (K':Int) s p==0)||(bL (V:Int) (K':Int) s p==0))=true
 ·rw[aB hz];exact h _ _
 rw[aA hz]
 simp only[cG,dS,gI]at hz
 obtain⟨P,eP,hP⟩:=pR (n:=H) (k:=K') (s:=s) (p:=p)
 obtain⟨R,eR,hR⟩:=pR (n:=V) (k:=K') (s:=s) (p:=p)
 rw[eP,eR]at hz
 rw[eP,eR]
 refine F3 ?_
 generalize i64.wrap (i64.wrap ((C':Int)*(K':Int))*(K':Int))=nn
 by_cases h4:((gT [(n:Int),(O':Int),(P:Int),(R:Int)] (i64.wrap (x.2.1+w.2.1)) nn).2 != 0)=true
 ·rw[aB h4];exact h _ _
 obtain⟨k1,k2,k3⟩:=TQ h4
 rw[aA h4,k3]
 obtain⟨n',O2,P',R',q1,q2,q3,q4,_,_,_,_,hb,hsz⟩:=aBo k2
 have q1:n'=n:=by omega
 have q2:O2=O':=by omega
 have q3:P'=P:=by omega
 have q4:R'=R:=by omega
 subst q1 q2 q3 q4
 dsimp only
 rw[hsz,bM,pY]
 refine⟨⟨aJm (n'*O2*P'*R') (n'*O2*P'*R') (by simp) (fun i M X hi hM hX => ?_) (fun M X hM => ?_)⟩⟩
 ·unfold pF
  rw[aB (aG (show(i:Int)<((n'*O2*P'*R':Nat):Int) by omega))]
  obtain⟨a,o,y,z,ha,ho,hy,hz2,ei⟩:=QN hi
  dsimp only
  have key:∀ Q':List Int->Prop,Q' [(a:Int),o,y,z]->dE [(n':Int),O2,P',R'] (i:Int) Q':=fun Q' hQ'=>by
   rw[ei];exact U3 k2 ha ho hy hz2 hQ'
  refine key _ ?_
  simp only[List.getD_cons_zero,List.getD_cons_succ]
  refine⟨by simp,by omega,aIE ⟨by simp,by simp,HZ ?_⟩⟩
  have hwin:=MD (rows:=H) (cols:=V) (K:=K') (r:=(y:Int)) (c:=(z:Int)) (s:=s) (p:=p)
  have hK5:K'<=5:=by have:=(mJ (n:=(H:Int)) (k:=(K':Int)) (s:=s) (p:=p) (by omega)).2.1;omega
  have hwl:=F7 (rows:=(H:Int)) (cols:=(V:Int)) (r:=(y:Int)) (c:=(z:Int)) (s:=s) (p:=p) (K:=K')
  have hKK:K'*K'<=5*5:=fE hK5 hK5
  generalize gF H V y z K' s p=l at hwin hwl
  refine⟨aMY l.length (fun j t X2 hj hX2 => ?_) (fun t X2 => ?_)⟩
  ·unfold pA
   rw[aB (aG (show(j:Int)<(l.length:Int) by omega))]
   dsimp only
   refine⟨by omega,?_⟩
   rw[bM,aC ((j:Int)+1)]
   obtain⟨aa,r,q,ez,haa,hr,hq⟩:=hwin (l.getD j (0,0,0)) (by rw[aW,aP hj];exact fB hj)
   rw[ez]
   refine⟨aMY C' (fun c t X3 hc hX3 => ?_) (fun t X3 => ?_)⟩
   ·unfold oX
    rw[aB (aG (show(c:Int)<(C':Int) by omega))]
    dsimp only
    simp only[List.getD_cons_zero,List.getD_cons_succ]
    have g1:(a*C'+c)*(H*V)+aa<n'*C'*(H*V):=fC (fC ha hc) haa
    have g2:((o*C'+c)*K'+r)*K'+q<O2*C'*K'*K':=fC (fC (fC ho hc) hr) hq
    have g3:n'*C'*(H*V)=n'*C'*H*V:=by rw[cS (n'*C')]
    have g5:(o*C'+c)*K'+r<=((o*C'+c)*K'+r)*K':=cE _ (by omega)
    have g7:o*C'+c<=(o*C'+c)*K':=cE _ (by omega)
    rw[ix5 (by omega) (by omega) (by omega),ix (r:=o) (n:=C') (i:=c) (by omega),ix (r:=o*C'+c) (n:=K') (i:=r) (by omega),ix (r:=(o*C'+c)*K'+r) (n:=K') (i:=q) (by omega),aC ((c:Int)+1)]
    exact⟨by simp,by omega,by simp,by omega,hX3 _⟩
   ·unfold oX
    rw[aA (by simp)]
    exact hX2 _
  ·unfold pA
   rw[aA (by simp)]
   refine⟨by omega,?_⟩
   rw[aC ((i:Int)+1)]
   exact hX _ (by rw[zE];exact hM)
 ·unfold pF
  rw[aA (by simp)]
  exact h _ _
def aDt (t:T3):Prop:=All8 t.2.2/\P1 t
theorem aHm {x:T3}{k s:Int}(hm:bA x=true)(hp:(FX x.1 k s).2=true):∃ n m H V P R:Nat,x.1=[(n:Int),m,H,V]/\(FX x.1 k s).1=[(n:Int),m,P,R]/\PoolIn (n*m) H V P R k s x.2.2/\(1<=n/\n<=4096)/\(1<=m/\m<=4096)/\0<szF [(n:Int),m,P,R]/\szF [(n:Int),m,P,R]=((n*m*(P*R):Nat):Int):=by
 unfold FX at hp⊢
 by_cases h1:((x.1.length:Int) != 4)=true
 ·rw[aB h1]at hp;cases hp
 rw[aA h1]at hp⊢
 obtain⟨n,m,H,V,ex,x1,x2,x3,x4,x5,x6,_⟩:=SC hm (by simpa using h1)
 obtain⟨w0,_⟩:=mT.1 hm
 rw[ex]at hp w0⊢
 obtain⟨_,w2,_⟩:=pM w0
 have wn:=w2 (n:Int) (by simp)
 have wm:=w2 (m:Int) (by simp)
 simp only[List.getD_cons_zero,List.getD_cons_succ,aI,aT]at hp⊢
 obtain⟨P,eP,hP⟩:=pR (n:=(H:Int)) (k:=k) (s:=s) (p:=0)
 obtain⟨R,eR,hR⟩:=pR (n:=(V:Int)) (k:=k) (s:=s) (p:=0)
 obtain⟨a1,a2,a3,_⟩:=mJ hp.1
 obtain⟨b1,_⟩:=mJ hp.2
 rw[eP,eR]at hp⊢
 have g:PoolIn (n*m) H V P R k s x.2.2:=⟨by rw[x6,cS (n*m)],by rw[<- cS];exact x5,by omega,by omega,a2,a3,eP,eR,by omega,by omega⟩
 obtain⟨s1,s2⟩:=g.small
 have bx:=g.bx
 have hsz:n*m*P*R<=8192:=by
  have:=Nat.mul_le_mul_left (n*m) (fE s1 s2)
  rw[cS (n*m) P R]
  omega
 have hz:=aIC (n:=n) (m:=m) (p:=P) (q:=R) (by omega) (by omega) (by omega) (by omega) hsz
 have h1:1<=n*m*P*R:=sY (sY (sY (by omega) (by omega)) (by omega)) (by omega)
 exact⟨n,m,H,V,P,R,rfl,rfl,g,by omega,by omega,by rw[hz];omega,by rw[hz,cS (n*m) P R]⟩
theorem aOn {x:T3}{k s:Int}{Q:T3×Int->Prop}(h:∀ a e,Q (a,e)):wY x k s Q:=by
 refine⟨tU (by simp) ?_⟩
 have e1:([x]:List T3).all bA=bA x:=by simp
 rw[e1]
 cases hm:bA x with
 | false=>rw[aB (by rfl)];exact h _ _
 | true =>
 rw[aA (by simp)]
 refine U2 ?_
 cases hp:(FX x.1 k s).2 with
 | false=>rw[aB (by rfl)];exact h _ _
 | true =>
 rw[aA (by simp)]
 obtain⟨n,m,H,V,P,R,ex,ep,g,hn,hmm,hz,hsz⟩:=aHm hm hp
 have hx:=g.hx
 have bx:=g.bx
 refine aHk g.hk (aDS ?_)
 rw[ep,ex]
 generalize i64.wrap (x.2.1-aAD k)=ee
 by_cases h2 : -128<=ee/\ee<=128
 rotate_left
 ·have ea:aIw [(n:Int),m,P,R] ee=(Z3,3):=by
   unfold aIw
   rw[aB (by simp only[cG,aT];omega)]
  rw[ea,aB (by rfl)]
  exact h _ _
 rw[YY h2 hz,aA (by simp)]
 dsimp only
 rw[hsz,bM]
 have hle:n*m*(P*R)<=8192:=by
  have:=(pM hz).2.2
  omega
 refine⟨?_⟩
 rw[pY]
 refine⟨aJm (n*m*(P*R)) (n*m*(P*R)) (by simp) (fun i M X hi hM hX => ?_) (fun M X hM => ?_)⟩
 ·unfold p9
  rw[aB (aG (show(i:Int)<((n*m*(P*R):Nat):Int) by omega))]
  obtain⟨a,j,p,q,ha,hj,hp,hq,hat,hw,wl,wn,wr,wc⟩:=aES g hn hmm (t:=i) hi
  refine hat _ ?_
  simp only[List.getD_cons_zero,List.getD_cons_succ]
  refine⟨by simp,by simp,by simp,by simp,by simp,by simp,by simp,by simp,by simp,HZ ⟨⟨?_⟩⟩⟩
  rw[hw]
  generalize gF H V p q k s 0=l at wl wr
  refine aJm l.length (n*m*(P*R)) hM (fun c M X2 hc hM hX2 => ?_) (fun M X2 hM => ?_)
  ·unfold pU
   rw[aB (aG (show(c:Int)<(l.length:Int) by omega))]
   have:=wr (l.getD c (0,0,0)) (by rw[aW,aP hc];exact fB hc)
   simp only[Int.toNat_natCast]
   rw[aC (_+(l.getD c (0,0,0)).1),aC ((c:Int)+1)]
   exact⟨by omega,by omega,by omega,by omega,hX2 _ (by rw[zE];exact hM)⟩
  ·unfold pU
   rw[aA (by simp),aC ((i:Int)+1)]
   exact hX _ hM
 ·unfold p9
  rw[aA (by simp)]
  exact h _ _
theorem aOs {x:T3}{k s:Int}{Q:T3×List Int×Int->Prop}(hx8:All8 x.2.2)(h:∀ t fr e,(e=0->aDt t)->Q (t,fr,e)):xD x k s Q:=by
 refine⟨tU (by simp) ?_⟩
 have e1:([x]:List T3).all bA=bA x:=by simp
 rw[e1]
 cases hm:bA x with
 | false=>rw[aB (by rfl)];exact h _ _ _ (fun h0=>by cases h0)
 | true =>
 rw[aA (by simp)]
 refine U2 ?_
 cases hp:(FX x.1 k s).2 with
 | false=>rw[aB (by rfl)];exact h _ _ _ (fun h0=>by cases h0)
 | true =>
 rw[aA (by simp)]
 obtain⟨n,m,H,V,P,R,ex,ep,g,hn,hmm,hz,hsz⟩:=aHm hm hp
 have hx:=g.hx
 have bx:=g.bx
 rw[ep,ex]
 refine zH ?_
 have hle:n*m*(P*R)<=8192:=by
  have:=(pM hz).2.2
  omega
 rw[hsz]
 refine⟨?_⟩
 refine Loop.rangeI (B:=lK k s ((n*m*(P*R):Nat):Int) [(n:Int),m,H,V] x.2.2 [(n:Int),m,P,R] _) (n*m*(P*R)) (fun i z=>z.1=(i:Int)/\z.2.1.length=i/\z.2.2.length=i/\All8 z.2.2) ⟨rfl,rfl,rfl,fun y hy=>by cases hy⟩ ?_ ?_
 ·rintro i hi ⟨i',A,D⟩ ⟨e1,e2,e3,e4⟩ X hX
  dsimp only at e1 e2 e3 e4
  subst e1
  unfold lK
  dsimp only
  rw[aB (aG (show(i:Int)<((n*m*(P*R):Nat):Int) by omega))]
  obtain⟨a,j,p,q,ha,hj,hp,hq,hat,hw,wl,wn,wr,wc⟩:=aES g hn hmm (t:=i) hi
  refine hat _ ?_
  simp only[List.getD_cons_zero,List.getD_cons_succ]
  refine⟨by simp,by simp,by simp,by simp,by simp,by simp,by simp,by simp,by simp,HZ ⟨⟨?_⟩⟩⟩
  rw[hw]
  generalize gF H V p q k s 0=l at wl wn wr
  have hpos:=List.length_pos_iff.2 wn
  refine Loop.rangeI (B:=lU _ (l.length:Int) x.2.2 l _) l.length (fun c z=>z.2=(c:Int)/\(c=0->z.1 = -1)/\(0<c->0<=z.1/\z.1<(x.2.2.length:Int))) ⟨rfl,fun _=>rfl,fun e=>absurd e (by omega)⟩ ?_ ?_
  ·rintro c hc ⟨b,c'⟩ ⟨f1,f2,f3⟩ Y hY
   dsimp only at f1 f2 f3
   subst f1
   unfold lU
   dsimp only
   rw[aB (aG (show(c:Int)<(l.length:Int) by omega))]
   have hr:=wr (l.getD c (0,0,0)) (by rw[aW,aP hc];exact fB hc)
   simp only[Int.toNat_natCast]
   have key:∀ u:Int,(0<=u/\u<(x.2.2.length:Int))->ck (aF (c:Int) l.length) (jn (fun(v10:Bool)=>if v10=true then jZ (c:Int) (fun y12=>Y (u,y12))else jZ (c:Int) (fun y13=>Y (b,y13))) (fun J11=>if (decide (b<0))=true then J11 true else ck (aF u x.2.2.length) (ck (aF b x.2.2.length) (J11 (decide (x.2.2.getD b.toNat 0<x.2.2.getD u.toNat 0)))))):=fun u hu=>by
    refine⟨by omega,?_⟩
    refine eN (b:=decide (b<0)) (c:=decide (x.2.2.getD b.toNat 0<x.2.2.getD u.toNat 0)) (fun hb Pp hPp => ?_) (fun v ev => ?_) rfl
    ·have hb : ¬ b<0:=by simpa using hb
     have hc0:0<c:=by
      rcases Nat.eq_zero_or_pos c with h0|h0
      ·have:=f2 h0;omega
      ·exact h0
     have:=f3 hc0
     exact⟨by omega,by omega,hPp⟩
    ·cases v with
     | true =>
       rw[aB rfl]
       refine⟨?_⟩
       rw[aC ((c:Int)+1)]
       exact hY _ ⟨rfl,fun e=>absurd e (by omega),fun _=>hu⟩
     | false =>
       rw[aA (by simp)]
       refine⟨?_⟩
       rw[aC ((c:Int)+1)]
       exact hY _ ⟨rfl,fun e=>absurd e (by omega),fun _=>f3 (by
        rcases Nat.eq_zero_or_pos c with h0|h0
        ·rw[f2 h0]at ev;cases ev
        ·exact h0)⟩
   exact key _ (by rw[aC (_+(l.getD c (0,0,0)).1)];omega)
  ·rintro⟨b,c'⟩ ⟨f1,f2,f3⟩ Y
   dsimp only at f1 f2 f3
   subst f1
   unfold lU
   rw[aA (by simp)]
   dsimp only
   have f4:=f3 hpos
   rw[aC ((i:Int)+1)]
   refine⟨by omega,by simp;omega,by simp;omega,hX _ ⟨rfl,by simp;omega,by simp;omega,?_⟩⟩
   intro y hy
   rcases List.mem_append.1 hy with hy|hy
   ·exact e4 y hy
   ·rw[List.mem_singleton.1 hy];exact hx8.at_ _
 ·rintro⟨i',A,D⟩ ⟨e1,e2,e3,e4⟩ X
  dsimp only at e1 e2 e3 e4
  subst e1
  unfold lK
  rw[aA (by simp)]
  exact h _ _ _ fun _=>⟨e4,by simp,by show D.length<=_;omega⟩
theorem aNc {x:T3}{Q:T3×Int->Prop}(hx8:All8 x.2.2)(h:∀ t e,(e=0->aDt t)->Q (t,e)):vG x Q:=by
 refine⟨aHq ?_⟩
 refine h (rbF x x).1 (rbF x x).2 fun h0 => ?_
 unfold rbF at h0⊢
 split
 ·rename_i hm
  split
  ·obtain⟨l1,l2,_⟩:=cX hm.1
   refine⟨fun y hy => ?_,by show x.1.length<=_;omega,by show(tab _ _).length<=_;rw[TN];omega⟩
   obtain⟨i,_,rfl⟩:=List.mem_map.1 (show y∈tab _ _ from hy)
   split
   ·exact hx8.at_ i
   ·omega
  ·rename_i h3;rw[aB hm,aA h3]at h0;cases h0
 ·rename_i hm;rw[aA hm]at h0;cases h0
theorem aN8 {x:T3}{Q:T3×Int->Prop}(hx8:All8 x.2.2)(h:∀ t e,(e=0->aDt t)->Q (t,e)):u7 x Q:=by
 refine⟨tU (by simp) ?_⟩
 have e1:([x]:List T3).all bA=bA x:=by simp
 rw[e1]
 cases hm:bA x with
 | false=>rw[aB (by rfl)];exact h _ _ (fun h0=>by cases h0)
 | true =>
 rw[aA (by simp)]
 obtain⟨l1,l2,l3,l4,l5⟩:=cX hm
 refine⟨by omega,by omega,by omega,nI ?_⟩
 split
 ·exact h _ _ (fun h0=>by cases h0)
 ·exact⟨by omega,h _ _ fun _=>⟨hx8,by simp,by show x.2.2.length<=_;omega⟩⟩
theorem aAU {a t:T3}{e s st i:Int}{c:Bool}{A:Int->Prop}{B:T3->Prop}(hA:∀ e,e≠0->A e)(hB:∀ t,aDt t->B t)(ht:e=0->c=false->aDt t) :
 (if ((e==0)&&c)=true then bJ st i 0 (fun r=>cB a 8 s r (fun r12=>if (r12.2 != 0)=true then A r12.2 else B r12.1))else if (e != 0)=true then A e else B t):=by
 by_cases h0:e=0
 ·cases c with
  | true =>
    rw[aB (by simp[h0])]
    refine aH0 (aAX ?_)
    by_cases h1:(sQ a 8 s (WO st i 0)).2=0
    ·rw[aA (by simpa using h1)]
     refine hB _ ⟨aGx,?_⟩
     unfold sQ at h1⊢
     split at h1
     ·cases h1
     rename_i h2
     rw[aA h2]
     split at h1
     ·cases h1
     rename_i h3
     rw[aA h3]
     simp only[cG,nJ,gI,Bool.not_eq_false]at h2
     obtain⟨_,_,_,m4,m5⟩:=BB h2.1.1
     refine⟨by show a.1.length<=_;omega,?_⟩
     show(aCx 8 s _ _ a.2.2).length<=_
     unfold aCx
     rw[B8,S4]
     omega
    ·rw[aB (by simpa using h1)]
     exact hA _ h1
  | false =>
    rw[aA (by simp),aA (by simpa using h0)]
    exact hB _ (ht h0 rfl)
 ·rw[aA (by simp[h0]),aB (by simpa using h0)]
  exact hA _ h0
theorem aGb {m:Mdl}{ps:List Prm}{x:T3}{s st:Int}{Q:(List T3×List (List Int))×Int×Int->Prop}(hl:m.2.length<=10000000000)(hx:All8 x.2.2)(h1:∀ T F,(∀ t∈T,aDt t)->1<=T.length->T.length<=100->Q ((T,F),0,0))(h2:∀ b j e,e≠0->Q (b,j,e)):rQ m ps x s st Q:=by
 refine⟨aDM ?_⟩
 refine eN (b := !inP st 0 1000000) (c := !xU m ps) (fun _ P hP=>T9 (m:=m) (by omega) hP) (fun v ev => ?_) rfl
 refine eN (b:=v) (c := !bA x) (fun _ P hP=>YX hP) (fun v2 ev2 => ?_) rfl
 cases v2 with
 | true=>rw[aB rfl];exact h2 _ _ _ (by decide)
 | false =>
 rw[aA (by simp)]
 rw[ev]at ev2
 have ev2:=ev2.symm
 simp only[dP,wZ]at ev2
 obtain⟨⟨_,mp⟩,mx⟩:=ev2
 have lx:=cX mx
 refine eN (b:=((x.1.length:Int) != 4)) (c := !decide (x.1.drop 1=[m.1.1,m.1.2.1,m.1.2.2])) (fun _ P hP=>⟨⟨fun e=>by rw[e]at lx;simp at lx,by omega,by omega,by omega⟩,C7 (by rw[B4,AC];omega) (by
  show P (!decide (List.drop 1 (x.1.take _)=_))
  rw[bM,sS];exact hP)⟩) (fun v3 ev3 => ?_) rfl
 cases v3 with
 | true=>rw[aB rfl];exact h2 _ _ _ (by decide)
 | false =>
 rw[aA (by simp)]
 obtain⟨w1,w2⟩:=TR mp
 obtain⟨_,⟨k1,k2⟩,k3⟩:=lL w1
 refine⟨?_⟩
 refine Loop.rangeI (B:=iG ps s st m.2 (m.2.length:Int) _ _) m.2.length (fun i z=>z.1=(i:Int)/\z.2.1.length=i+1/\z.2.2.length=i+1/\∀ t∈z.2.1,aDt t) ⟨rfl,rfl,rfl,fun t ht=>by rw[List.mem_singleton.1 ht];exact⟨hx,by omega,by omega⟩⟩ ?_ ?_
 ·rintro i hi ⟨i',T,F⟩ ⟨e1,e2,e3,e4⟩ X hX
  dsimp only at e1 e2 e3 e4
  subst e1
  unfold iG
  dsimp only
  rw[aB (aG (show(i:Int)<(m.2.length:Int) by omega))]
  have ew:i64.wrap ((T.length:Int)-1)=(i:Int):=by rw[aC _];omega
  rw[ew]
  rw[bM]
  refine⟨by omega,by omega,by omega,?_⟩
  have n8:All8 (T.getD i ([],(0,[]))).2.2:=Ten8.at_ (fun t ht=>(e4 t ht).1) i
  have hA:∀ e:Int,e≠0->Q (((([]:List T3),([]:List (List Int))),i64.wrap ((i:Int)+1),e)):=fun e he=>h2 _ _ _ he
  have hB:∀ (fr:List Int) (t:T3),aDt t->ck ((T.length+[t].length)*56<=140737488355328) (ck ((F.length+[fr].length)*24<=140737488355328) (X (i64.wrap ((i:Int)+1),T++[t],F++[fr]))):=fun fr t ht=>by
   rw[aC ((i:Int)+1)]
   refine⟨by simp;omega,by simp;omega,hX _ ⟨by simp,by simp;omega,by simp;omega,fun u hu => ?_⟩⟩
   rcases List.mem_append.1 hu with hu|hu
   ·exact e4 u hu
   ·rw[List.mem_singleton.1 hu];exact ht
  have hc:((((0:Nat):Int)==0)=false)->False:=fun h=>by cases h
  have k7:(m.2.getD i bY).1=7->0<=(m.2.getD i bY).2.2.2.2.2.1/\(m.2.getD i bY).2.2.2.2.2.1<(T.length:Int):=fun h7=>by
   have:=LC (k3 i hi) h7
   rw[aC ((i:Int)-1)]at this
   omega
  have k7:(m.2.getD i (0,(0,(0,(0,(0,(0,false))))))).1=7->0<=(m.2.getD i (0,(0,(0,(0,(0,(0,false))))))).2.2.2.2.2.1/\(m.2.getD i (0,(0,(0,(0,(0,(0,false))))))).2.2.2.2.2.1<(T.length:Int):=k7
  generalize m.2.getD i (0,(0,(0,(0,(0,(0,false))))))=xl at k7⊢
  by_cases h1:(xl.1==1)=true
  ·rw[aB h1]
   exact aMy fun a e=>⟨aAU hA (hB []) fun _ h=>(hc h).elim⟩
  rw[aA h1]
  by_cases h1:(xl.1==2)=true
  ·rw[aB h1]
   exact aOB fun a e=>⟨aAU hA (hB []) fun _ h=>(hc h).elim⟩
  rw[aA h1]
  by_cases h1:(xl.1==4)=true
  ·rw[aB h1]
   exact aOn fun a e=>⟨aAU hA (hB []) fun _ h=>(hc h).elim⟩
  rw[aA h1]
  by_cases h1:(xl.1==7)=true
  ·rw[aB h1]
   exact⟨k7 (by simpa using h1),aJG ⟨aAU hA (hB []) fun _ h=>(hc h).elim⟩⟩
  rw[aA h1]
  by_cases h1:(xl.1==3)=true
  ·rw[aB h1]
   exact aOs n8 fun t fr e he=>aAU hA (hB fr) fun h0 _=>he h0
  rw[aA h1]
  by_cases h1:(xl.1==5)=true
  ·rw[aB h1]
   exact aNc n8 fun t e he=>aAU hA (hB []) fun h0 _=>he h0
  rw[aA h1]
  exact aN8 n8 fun t e he=>aAU hA (hB []) fun h0 _=>he h0
 ·rintro⟨i',T,F⟩ ⟨e1,e2,e3,e4⟩ X
  dsimp only at e1 e2 e3 e4
  subst e1
  unfold iG
  rw[aA (by simp)]
  exact h1 T F e4 (by omega) (by omega)
theorem aK9 {n:aMS}{l:List Int}{e:Int}{seed st:Int}{Q:Bool->Prop}(hl:n.1.2.length<=10000000000000)(hb:n.2.2.1.length<=1000000000000000)(b8:All8 n.2.2.1)(x8:All8 n.2.2.2.2.1)(l8:l.length<=1000000000000000/\All8 l)(h:Q true):m7 n l e seed st Q:=by
 refine⟨?_⟩
 split
 ·exact TV h
 rename_i hn
 have hn : ¬ 40<(n.1.2.length:Int):=by simpa using hn
 refine aMO hl hb b8 x8 fun ps x e0 he => ?_
 dsimp only
 by_cases h0:e0=0
 rotate_left
 ·rw[aB (by simpa using h0)];exact TV h
 rw[aA (by simpa using h0)]
 obtain⟨p1,p2,p3,_⟩:=he h0
 refine aGb (m:=n.1) (by omega) p3 (fun T F hT t1 t2 => ?_) (fun b j e he => ?_)
 rotate_left
 ·rw[aB (by simpa using he)];exact TV h
 rw[aA (by simp)]
 refine⟨?_⟩
 have ew:i64.wrap ((T.length:Int)-1)=((T.length-1:Nat):Int):=by rw[aC _];omega
 dsimp only
 rw[ew,bM]
 have hN:aDt (T.getD (T.length-1) Z3):=by
  rw[aW,aP (by omega)]
  exact hT _ (fB _)
 have t8:Ten8 T:=fun t ht=>(hT t ht).1
 refine⟨by omega,aMT (t:=T.getD (T.length-1) Z3) hN.2.1 hN.2.2 l8.1 ?_⟩
 have g8:All8 (aAt (T.getD (T.length-1) Z3) l e).2.2:=aOU l8.2
 refine aJS (m:=n.1) (by omega) (by omega) p2 t8 g8 (aKy (m:=n.1) (by omega) (by omega) p2 t8 g8 ⟨?_⟩)
 have s12:(M0 n.1 ps T F (aAt (T.getD (T.length-1) Z3) l e) seed st).1.length<=1000000/\∀ G∈(M0 n.1 ps T F (aAt (T.getD (T.length-1) Z3) l e) seed st).1,z8 G:=by
  by_cases hb:EW n.1 ps T F st (aAt (T.getD (T.length-1) Z3) l e)=0
  ·have:=(Z8 p2 t8 hb).len
   obtain⟨a,b⟩:=aGM (m:=n.1) (ps:=ps) (T:=T) (F:=F) (g:=aAt (T.getD (T.length-1) Z3) l e) (s:=seed) (st:=st) this
   exact⟨by omega,b⟩
  ·unfold M0
   rw[aA hb]
   exact⟨by simp,fun G h=>by cases h⟩
 refine aLF s12.1 s12.2 ?_
 refine zT (c:=true) (fun _ P hP=>TV hP) (fun v e => ?_) rfl
 rw[e]
 simpa using h
end Go.Proofs.YtcfpfefadlnmcaaGreat
