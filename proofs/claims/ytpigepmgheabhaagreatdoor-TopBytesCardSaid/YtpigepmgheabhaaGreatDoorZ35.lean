/- Part of the proof. No condition. -/
import Derived.Test.YtpigepmgheabhaaGreatDoorZ34
import Derived.Test.YtpigepmgheabhaaGreatDoorProg
import Derived.KernelRfl
import Derived.Lib.AtoiTie
import Derived.Lib.SplitLaws
import Derived.Lib.ItoaLen
namespace Go.Proofs.YtpigepmgheabhaaGreatDoor
open IntKind (i8 i16 i32 i64 u8 u16 u32 u64)
open Go.Mach
set_option linter.unusedVariables false
set_option linter.unusedSimpArgs false
section
variable {b p l:List Int} {e re:Int}
theorem aEU {Q:Int×List Int×Int->Prop}(hR:Read b p l e)(h:∀ t l' e',Read b (p++t) l' e'->Byt t->t.length<=4->(e'=0->e=0/\t.length=4)->0<=aN t 0->aN t 0<=4294967295->Q (aN t 0,l',e')):j9 l e Q:=by
 refine⟨XA (n:=4) (by omega) hR fun t l' e' h1 h2 h3 h4 => ?_⟩
 have hb:=OX h2 h3 (by omega)
 have e1:u32.wrap (aN t 0)=aN t 0:=by simp only[IntKind.wrap,IntKind.bits,IntKind.signed];simp;omega
 simp only[e1]
 exact h t l' e' h1 h2 h3 h4 hb.1 (by omega)
theorem aH3 {Q:Int×List Int×Int->Prop}(hR:Read b p l e)(h:∀ t l' e',Read b (p++t) l' e'->Byt t->t.length<=8->(e'=0->e=0/\t.length=8)->0<=aN t 0->aN t 0<=18446744073709551615->Q (aN t 0,l',e')):nZ l e Q:=by
 refine⟨XA (n:=8) (by omega) hR fun t l' e' h1 h2 h3 h4 => ?_⟩
 have hb:=OX h2 h3 (by omega)
 exact h t l' e' h1 h2 h3 h4 hb.1 (by omega)
theorem aFW {n:Nat}{K:List Int×List Int×Int->Prop}(hn:n<=255)(hR:Read b p l re)(h:∀ dims ts l' re',dims.length=n->Read b (p++ts) l' re'->(re'=0->re=0/\ts=dims.flatMap (iN 2))->(∀ x∈dims,0<=x/\x<=65535)->K (dims,l',re')):jC (n:Int) K (0,([]:List Int),l,re):=by
 refine⟨Loop.rangeI n (fun i s=>∃ dims ts l' re',s=((i:Int),dims,l',re')/\dims.length=i/\Read b (p++ts) l' re'/\(re'=0->re=0/\ts=dims.flatMap (iN 2))/\∀ x∈dims,0<=x/\x<=65535) ⟨[],[],l,re,rfl,rfl,by rw[bJ];exact hR,fun e=>⟨e,rfl⟩,fun x hx=>by cases hx⟩ ?_ ?_⟩
 ·rintro i hi s ⟨dims,ts,l',re',rfl,h1,h2,h3,h4⟩ X hX
  unfold g7
  rw[aA (by simpa using hi)]
  refine aBH h2 fun t l2 e2 hR2 hB hk hz ha hb=>⟨by simp only[List.length_cons,List.length_nil];omega,hX _ ⟨dims++[aN t 0],ts++t,l2,e2,?_,?_,by rw[<- bM];exact hR2,fun e0 => ?_,?_⟩⟩
  ·show(i64.wrap ((i:Int)+1),_)=_
   rw[fM (by omega)];rfl
  ·rw[aR,h1];rfl
  ·have z:=hz e0
   have z3:=h3 z.1
   refine⟨z3.1,?_⟩
   rw[z3.2,pG,jA,List.flatMap_nil,bJ,<- z.2,tJ t hB]
  ·intro x hx
   rcases List.mem_append.1 hx with hx|hx
   ·exact h4 x hx
   ·rw[nN]at hx;subst hx;exact⟨ha,hb⟩
 ·rintro s ⟨dims,ts,l',re',rfl,h1,h2,h3,h4⟩ X
  unfold g7
  rw[aC (by simp)]
  exact h dims ts l' re' h1 h2 h3 h4
def mF (m:Int):List Int:=iN 4 (u32.wrap m)
theorem aHU {t:List Int}(hl:t.length=4)(hB:Byt t)(h0:0<=aN t 0)(h1:aN t 0<=4294967295):mF (i32.wrap (aN t 0))=t:=by
 have:u32.wrap (i32.wrap (aN t 0))=aN t 0:=by
  generalize aN t 0=x at h0 h1
  simp only[IntKind.wrap,IntKind.bits,IntKind.signed];simp;omega
 unfold mF
 rw[this,<- hl];exact tJ t hB
theorem aIM {n:Nat}{K:List Int×Int×List Int->Prop}(hn:n<=100000)(hR:Read b p l re)(h:∀ ms ts l' re',ms.length=n->Read b (p++ts) l' re'->(re'=0->re=0/\ts=ms.flatMap mF)->K (l',re',ms)):iZ (n:Int) K (0,l,re,([]:List Int)):=by
 refine⟨Loop.rangeI n (fun i s=>∃ ms ts l' re',s=((i:Int),l',re',ms)/\ms.length=i/\Read b (p++ts) l' re'/\(re'=0->re=0/\ts=ms.flatMap mF)) ⟨[],[],l,re,rfl,rfl,by rw[bJ];exact hR,fun e=>⟨e,rfl⟩⟩ ?_ ?_⟩
 ·rintro i hi s ⟨ms,ts,l',re',rfl,h1,h2,h3⟩ X hX
  unfold iA
  rw[aA (by simpa using hi)]
  refine aEU h2 fun t l2 e2 hR2 hB hk hz ha hb=>⟨by simp only[List.length_cons,List.length_nil];omega,hX _ ⟨ms++[i32.wrap (aN t 0)],ts++t,l2,e2,?_,?_,by rw[<- bM];exact hR2,fun e0 => ?_⟩⟩
  ·show(i64.wrap ((i:Int)+1),_)=_
   rw[fM (by omega)];rfl
  ·rw[aR,h1];rfl
  ·have z:=hz e0
   have z3:=h3 z.1
   refine⟨z3.1,?_⟩
   rw[z3.2,pG,jA,List.flatMap_nil,bJ,aHU z.2 hB ha hb]
 ·rintro s ⟨ms,ts,l',re',rfl,h1,h2,h3⟩ X
  unfold iA
  rw[aC (by simp)]
  exact h ms ts l' re' h1 h2 h3
end
def grB (m:Int):Bool:=decide (m < -1048576)||decide (1048576<m)
def UH (a:paT):Bool:=((a.2.1.length:Int)==(a.1.2.2.length:Int))&&a.2.1.all fun m => !grB m
theorem XQ {a:paT}{Q:Bool->Prop}(hl:a.2.1.length<=100000)(h:Q (UH a)):sD a Q:=by
 refine⟨?_⟩
 simp only[jn]
 unfold UH at h
 cases h1:((a.2.1.length:Int)==(a.1.2.2.length:Int))with
 | false=>rw[h1]at h;rw[aC (by simp)];exact h
 | true =>
   rw[h1]at h
   rw[aA rfl]
   refine⟨⟨⟨?_⟩⟩⟩
   refine Loop.all a.2.1 (fun m => !grB m) (K0:=Q true) (K1:=Q false) ?_ ?_ ?_
   ·intro i hi X g1 g2
    unfold bX
    have hg:a.2.1.getD ((i:Int).toNat) 0=a.2.1[i]:=by rw[gZ,cH,aM hi];rfl
    rw[aA (by simpa using hi)]
    refine⟨⟨by omega,by simpa using hi⟩,⟨?_⟩⟩
    rw[hg]
    show if grB a.2.1[i]=true then _ else _
    cases hc:grB a.2.1[i]with
    | true =>
      rw[aA rfl]
      show Q (!(decide (0<=(i:Int))))
      rw[show decide (0<=(i:Int))=true by simp]
      exact g2 (by rw[hc];rfl)
    | false =>
      rw[aC (by simp),fM (by omega)]
      exact g1 (by rw[hc];rfl)
   ·intro hk X
    unfold bX
    rw[aC (by simp)]
    exact hk
   ·cases hc:(a.2.1.all fun m => !grB m)with
    | true=>rw[hc]at h;rw[aA rfl];exact h
    | false=>rw[hc]at h;rw[aC (by simp)];exact h
end Go.Proofs.YtpigepmgheabhaaGreatDoor

namespace Go.Proofs.YtpigepmgheabhaaGreatDoor
open Go.Mach
set_option linter.unusedVariables false
set_option linter.unusedSimpArgs false
abbrev DB:paT:=(([],(0,[])),([],([],(0,[]))))
def rN (a:paT):List Int:=(a.1.1.length:Int)%256::if a.1.1=[]then []else a.1.1.flatMap (iN 2)++(xI a.1++(a.2.1.flatMap mF++(iN 2 (a.2.2.1.getD 0 0)++xI a.2.2)))
def SQ (a:paT):Prop:=a=DB\/(a.1.1≠[]/\a.1.1.length<=4/\(∀ x∈a.1.1,0<=x/\x<=65535)/\BX a.1=true/\UH a=true/\BX a.2.2=true/\∃ x,a.2.2.1=[x]/\0<=x/\x<=65535)
theorem aCv {b p l:List Int}{e re:Int}{Q:Int×Int×Int×List Int×Int×List Int×List Int×List Int×List Int×List Int->Prop}(he:e=0\/e=4\/e=5)(hR:Read b p l re)
 (h:∀ (a:paT) (ts l':List Int) (e' re':Int),(e'=0\/e'=4\/e'=5)->Read b (p++ts) l' re'->(e'=0->e=0/\re'=0/\SQ a/\rN a=ts)->Q (a.1.2.1,a.2.2.2.1,e',l',re',a.1.1,a.1.2.2,a.2.1,a.2.2.1,a.2.2.2.2)):lY e l re Q:=by
 refine⟨P6 hR fun t1 l1 r1 hR1 hB1 hk1 hz1 ha1 hb1=>rX hR1.e04 ?_⟩
 dsimp only
 have he1:=F8 (ok:=decide (aN t1 0<=4)) (re:=r1) he
 obtain⟨e1,hee1⟩:∃ e1,yZ (decide (aN t1 0<=4)) e r1=e1:=⟨_,rfl⟩
 rw[hee1]at he1⊢
 by_cases hc:((!(e1==0))||(aN t1 0==0))=true
 ·rw[aA hc]
  refine h DB t1 l1 e1 r1 he1 hR1 fun e0 => ?_
  obtain⟨k1,k2,k3⟩:=CV hR1.e04 (hee1.trans e0)
  rw[e0]at hc
  have hn:aN t1 0=0:=by simpa using hc
  refine⟨k1,k2,.inl rfl,?_⟩
  rw[rR (hz1 k2).2,hn];rfl
 rw[aC hc]
 have hc:e1=0/\aN t1 0≠0:=by simpa using hc
 obtain⟨g1,g2,g3⟩:=CV hR1.e04 (hee1.trans hc.1)
 have g3:aN t1 0<=4:=tX g3
 obtain⟨n,hn⟩:=ES ha1
 rw[hn]
 refine aFW (by omega) hR1 fun dims ts2 l2 r2 hdl hR2 hz2 hdb=>VR (rX hR2.e04 ?_)
 dsimp only
 rw[bM]at hR2
 have he2:=F8 (ok:=WR dims) (re:=r2) he1
 obtain⟨e2,hee2⟩:∃ e2,yZ (WR dims) e1 r2=e2:=⟨_,rfl⟩
 rw[hee2]at he2⊢
 by_cases hc2:e2=0
 case neg =>
  rw[aA (by simpa using hc2)]
  exact h DB (t1++ts2) l2 e2 r2 he2 hR2 fun e0=>absurd e0 hc2
 rw[aC (by simp[hc2])]
 refine RU he2 hR2 fun aW ts3 l3 e3 r3 hW1 he3 hR3 hWl hz3 => ?_
 dsimp only
 rw[bM,bM]at hR3
 by_cases hc3:e3=0
 case neg =>
  rw[aA (by simpa using hc3)]
  exact h ((dims,(aW.2.1,aW.2.2)),([],([],(0,[])))) _ l3 e3 r3 he3 hR3 fun e0=>absurd e0 hc3
 rw[aC (by simp[hc3])]
 refine aIM hWl hR3 fun ms ts4 l4 r4 hml hR4 hz4 => ?_
 refine XQ (a:=((dims,(aW.2.1,aW.2.2)),(ms,([],(0,[]))))) (by show ms.length<=_;omega) (rX hR4.e04 ?_)
 dsimp only
 rw[bM]at hR4
 obtain⟨mv,hmv⟩:∃ mv,UH ((dims,(aW.2.1,aW.2.2)),(ms,([],(0,[]))))=mv:=⟨_,rfl⟩
 rw[hmv]
 have he4:=F8 (ok:=mv) (re:=r4) he3
 obtain⟨e4,hee4⟩:∃ e4,yZ mv e3 r4=e4:=⟨_,rfl⟩
 rw[hee4]at he4⊢
 by_cases hc4:e4=0
 case neg =>
  rw[aA (by simpa using hc4)]
  exact h ((dims,(aW.2.1,aW.2.2)),(ms,([],(0,[])))) _ l4 e4 r4 he4 hR4 fun e0=>absurd e0 hc4
 rw[aC (by simp[hc4])]
 refine aBH hR4 fun t5 l5 r5 hR5 hB5 hk5 hz5 ha5 hb5=>VR (rX hR5.e04 ?_)
 dsimp only
 rw[bM]at hR5
 have he5:=F8 (ok:=WR [aN t5 0]) (re:=r5) he4
 obtain⟨e5,hee5⟩:∃ e5,yZ (WR [aN t5 0]) e4 r5=e5:=⟨_,rfl⟩
 rw[hee5]at he5⊢
 by_cases hc5:e5=0
 case neg =>
  rw[aC (by simpa using hc5)]
  exact⟨h ((dims,(aW.2.1,aW.2.2)),(ms,([],(0,[])))) _ l5 e5 r5 he5 hR5 fun e0=>absurd e0 hc5⟩
 rw[aA (by simp[hc5])]
 refine RU he5 hR5 fun aB ts6 l6 e6 r6 hB1' he6 hR6 hBl hz6=>⟨?_⟩
 dsimp only
 rw[bM]at hR6
 refine h ((dims,(aW.2.1,aW.2.2)),(ms,([aN t5 0],(aB.2.1,aB.2.2)))) _ l6 e6 r6 he6 hR6 fun e0 => ?_
 obtain⟨_,z6,y6,x6⟩:=hz6 e0
 obtain⟨_,z5,_⟩:=CV hR5.e04 (hee5.trans hc5)
 have w5:=hz5 z5
 obtain⟨_,z4,y4⟩:=CV hR4.e04 (hee4.trans hc4)
 have w4:=hz4 z4
 obtain⟨_,z3,y3,x3⟩:=hz3 hc3
 obtain⟨_,z2,_⟩:=CV hR2.e04 (hee2.trans hc2)
 have w2:=hz2 z2
 have w1:=hz1 g2
 have hne:dims≠[]:=fun k=>hc.2 (by rw[hn,<- hdl,k];rfl)
 have hWe:aW=(dims,(aW.2.1,aW.2.2)):=by rw[<- hW1]
 have hBe:aB=([aN t5 0],(aB.2.1,aB.2.2)):=by rw[<- hB1']
 refine⟨g1,z6,.inr ⟨hne,by show dims.length<=4;omega,hdb,by show BX (dims,(aW.2.1,aW.2.2))=true;rw[<- hWe];exact y3,?_,by show BX ([aN t5 0],(aB.2.1,aB.2.2))=true;rw[<- hBe];exact y6,⟨aN t5 0,rfl,ha5,hb5⟩⟩,?_⟩
 ·show UH ((dims,(aW.2.1,aW.2.2)),(ms,([aN t5 0],(aB.2.1,aB.2.2))))=true
  rw[y4]at hmv;exact hmv
 ·show(dims.length:Int)%256::(if dims=[]then []else dims.flatMap (iN 2)++(xI (dims,(aW.2.1,aW.2.2))++(ms.flatMap mF++(iN 2 (aN t5 0)++xI ([aN t5 0],(aB.2.1,aB.2.2))))))=_
  rw[aC hne,<- hWe,<- hBe,x3,x6,<- w2.2,<- w4.2]
  have e5:iN 2 (aN t5 0)=t5:=by rw[<- w5.2];exact tJ t5 hB5
  have e1:t1=[(dims.length:Int)%256]:=by
   rw[rR w1.2,hn,hdl,show(n:Int)%256=n by omega]
  rw[e5,e1]
  simp only[bM,List.cons_append,List.nil_append]
end Go.Proofs.YtpigepmgheabhaaGreatDoor

namespace Go.Proofs.YtpigepmgheabhaaGreatDoor
open IntKind (i8 i16 i32 i64 u8 u16 u32 u64)
open Go.Mach
set_option linter.unusedVariables false
set_option linter.unusedSimpArgs false
def stF (s:stT):List Int:=[112,100,115,116]++(iN 8 s.1++(iN 4 s.2.1++([(s.2.2.length:Int)%256]++s.2.2.flatMap rN)))
def StB (s:stT):Prop:=(0<=s.1/\s.1<=18446744073709551615)/\(0<=s.2.1/\s.2.1<=1000000)/\s.2.2.length<=12/\∀ a∈s.2.2,SQ a
theorem aDl {b hd:List Int}{n:Nat}{K:Int×List Int×Int×List paT->Prop}(hn:n<=255)
 (hK:∀ e l re xs,(e=4\/e=5\/(e=0/\re=0/\Read b (hd++xs.flatMap rN) l re/\xs.length=n/\∀ y∈xs,SQ y))->K (e,l,re,xs)) {e re:Int} {l:List Int}
 (h0:e=4\/e=5\/(e=0/\re=0/\Read b hd l re)):pH (n:Int) K (0,e,l,re,([]:List paT)):=by
 refine⟨Loop.inv (n:=n) (fun m s=>s.1=(s.2.2.2.2.length:Int)/\s.2.2.2.2.length+m=n/\(s.2.1=4\/s.2.1=5\/(s.2.1=0/\s.2.2.2.1=0/\Read b (hd++s.2.2.2.2.flatMap rN) s.2.2.1 s.2.2.2.1/\∀ y∈s.2.2.2.2,SQ y))) ⟨rfl,by simp,?_⟩ ?_⟩
 ·rcases h0 with h|h|⟨h1,h2,h3⟩
  ·exact .inl h
  ·exact .inr (.inl h)
  ·exact .inr (.inr ⟨h1,h2,by simpa using h3,fun y hy=>by cases hy⟩)
 ·rintro m ⟨i,e,l,re,xs⟩ X ⟨hi,hm,hI⟩ hX
  simp only at hi hm hI
  subst hi
  unfold mM
  by_cases hc:e=0/\xs.length<n
  ·rw[aA (by simp only[aH,eP,cK];exact⟨hc.1,by omega⟩)]
   have hI:re=0/\Read b (hd++xs.flatMap rN) l re/\∀ y∈xs,SQ y:=by
    rcases hI with h|h|h
    ·omega
    ·omega
    ·exact h.2
   obtain⟨h1,hR,h3⟩:=hI
   refine aCv (e:=e) (.inl hc.1) hR fun a ts l' e' re' he' hR' hz=>⟨by simp only[List.length_cons,List.length_nil];omega,hX (m-1) _ (by omega) ⟨?_,?_,?_⟩⟩
   ·show i64.wrap _=_
    rw[fM (by omega),aR];rfl
   ·show(xs++_).length+(m-1)=n
    rw[aR]
    show xs.length+1+(m-1)=n
    omega
   ·rcases he' with h|h|h
    ·obtain⟨_,k2,k3,k4⟩:=hz h
     refine .inr (.inr ⟨h,k2,?_,?_⟩)
     ·show Read b (hd++(xs++[_]).flatMap rN) l' re'
      rw[pG,jA,List.flatMap_nil,bJ]
      show Read b (hd++(xs.flatMap rN++rN a)) l' re'
      rw[k4,<- bM]
      exact hR'
     ·intro y hy
      rcases List.mem_append.1 hy with hy|hy
      ·exact h3 y hy
      ·rw[nN]at hy
       subst hy
       exact k3
    ·exact .inl h
    ·exact .inr (.inl h)
  ·rw[aC (by simp only[aH,eP,cK];intro k;exact hc ⟨k.1,by omega⟩)]
   refine hK _ _ _ _ ?_
   rcases hI with h|h|h
   ·exact .inl h
   ·exact .inr (.inl h)
   ·exact .inr (.inr ⟨h.1,h.2.1,h.2.2.1,by show xs.length=n;have : ¬ xs.length<n:=fun k=>hc ⟨h.1,k⟩;omega,h.2.2.2⟩)
theorem ZU {b:List Int}{Q:stT×Int->Prop}(hB:Byt b)(hl:b.length<=100000)(hok:∀ s,b=stF s->StB s->Q (s,0))(hbad:∀ e,e=4\/e=5->Q ((0,(0,[])),e)):qA b Q:=by
 refine⟨⟨C7 hl ?_⟩⟩
 have hR0:Read b [] b 0:=⟨hB,hl,.inl rfl,fun _=>rfl⟩
 refine W6 hR0 fun t0 l0 r0 hR1 hB0 hl0 hz0=>rX hR1.e04 ?_
 dsimp only
 rw[List.nil_append]at hR1
 obtain⟨ok,hok0⟩:∃ ok,((pD t0).toList==(⟨#[112,100,115,116]⟩:ByteArray).toList)=ok:=⟨_,rfl⟩
 rw[hok0]
 have he0:=F8 (ok:=ok) (e:=0) (re:=r0) (.inl rfl)
 obtain⟨e0,hee0⟩:∃ e0,yZ ok 0 r0=e0:=⟨_,rfl⟩
 rw[hee0]at he0⊢
 refine aH3 hR1 fun t1 l1 r1 hR2 hB1 hk1 hz1 ha1 hb1 => ?_
 refine aEU hR2 fun t2 l2 r2 hR3 hB2 hk2 hz2 ha2 hb2 => ?_
 dsimp only
 rw[fM (x:=aN t2 0) (by omega)]
 refine rX hR3.e04 ?_
 dsimp only
 have he1:=F8 (ok:=decide (aN t2 0<=1000000)) (re:=r2) he0
 obtain⟨e1,hee1⟩:∃ e1,yZ (decide (aN t2 0<=1000000)) e0 r2=e1:=⟨_,rfl⟩
 rw[hee1]at he1⊢
 refine P6 hR3 fun t3 l3 r3 hR4 hB3 hk3 hz3 ha3 hb3=>rX hR4.e04 ?_
 dsimp only
 have he2:=F8 (ok:=decide (aN t3 0<=12)) (re:=r3) he1
 obtain⟨e2,hee2⟩:∃ e2,yZ (decide (aN t3 0<=12)) e1 r3=e2:=⟨_,rfl⟩
 rw[hee2]at he2⊢
 obtain⟨n,hn⟩:=ES ha3
 rw[hn]
 by_cases hc:e2=0
 case neg =>
  refine⟨fun X hX=>hX _ ?_⟩
  unfold mM
  rw[aC (by simp[hc])]
  dsimp only
  rw[aC (by simpa using hc),aA (by simpa using hc)]
  exact hbad e2 (by rcases he2 with h|h|h;exact absurd h hc;exact .inl h;exact .inr h)
 obtain⟨k2,z3,y3⟩:=CV hR4.e04 (hee2.trans hc)
 obtain⟨k1,z2,y2⟩:=CV hR3.e04 (hee1.trans k2)
 obtain⟨_,z1,y1⟩:=CV hR1.e04 (hee0.trans k1)
 have w3:=hz3 z3
 have w2:=hz2 w3.1
 have w1:=hz1 w2.1
 have w0:=hz0 w1.1
 have y3:aN t3 0<=12:=tX y3
 have y2:aN t2 0<=1000000:=tX y2
 refine aDl (hd:=t0++t1++t2++t3) (by omega) (fun e l re xs h => ?_) (.inr (.inr ⟨hc,z3,hR4⟩))
 dsimp only
 by_cases he:e=0
 case neg =>
  rw[aC (by simpa using he),aA (by simpa using he)]
  refine hbad e ?_
  rcases h with h|h|h
  ·exact .inl h
  ·exact .inr h
  ·exact absurd h.1 he
 subst he
 rw[aA (show((0:Int)==0)=true from rfl)]
 have h:re=0/\Read b (t0++t1++t2++t3++xs.flatMap rN) l re/\xs.length=n/\∀ y∈xs,SQ y:=by
  rcases h with h|h|h
  ·omega
  ·omega
  ·exact h.2
 obtain⟨rfl,hR,hlen,hone⟩:=h
 refine ID ?_
 dsimp only
 unfold yX
 by_cases hnil:l=[]
 case neg =>
  have e5:(if (0:Int)=0/\l≠[]then(5:Int)else 0)=5:=aA ⟨rfl,hnil⟩
  rw[e5,aA (show((5:Int) != 0)=true from rfl)]
  exact hbad 5 (.inr rfl)
 subst hnil
 have e0':(if (0:Int)=0/\([]:List Int)≠[]then(5:Int)else 0)=0:=aC (fun k=>k.2 rfl)
 rw[e0',aC (show ¬ (((0:Int) != 0)=true) by decide)]
 refine hok _ ?_ ⟨⟨ha1,hb1⟩,⟨ha2,y2⟩,by show xs.length<=12;omega,hone⟩
 have hb:=hR.eq rfl
 have q0:t0=[112,100,115,116]:=by
  rw[y1]at hok0
  exact TG hB0 hok0
 have q1:iN 8 (aN t1 0)=t1:=by rw[<- w1.2];exact tJ t1 hB1
 have q2:iN 4 (aN t2 0)=t2:=by rw[<- w2.2];exact tJ t2 hB2
 have q3:[(n:Int)%256]=t3:=by rw[rR w3.2,hn,show(n:Int)%256=n by omega]
 show b=[112,100,115,116]++(iN 8 (aN t1 0)++(iN 4 (aN t2 0)++([(xs.length:Int)%256]++xs.flatMap rN)))
 rw[hlen,q1,q2,q3,<- q0,hb]
 simp only[bJ,bM]
theorem aHO {Q:Bool->Prop}(h:Q true):jU [] [] Q :=
 ⟨by rw[aC (by simp)];exact⟨fun X hX=>hX _ (by unfold kE;rw[aC (by simp)];exact h)⟩⟩
theorem aG8 {Q:Bool->Prop}(h:Q true):iJ [] [] Q :=
 ⟨by rw[aC (by simp)];exact⟨fun X hX=>hX _ (by unfold jF;rw[aC (by simp)];exact h)⟩⟩
theorem aFV {Q:Bool->Prop}(h:Q true):gK [] [] Q :=
 ⟨by rw[aC (by simp)];exact⟨fun X hX=>hX _ (by unfold iD;rw[aC (by simp)];exact h)⟩⟩
theorem XY {Q:Bool->Prop}(h:Q true):oN ([],(0,[])) ([],(0,[])) Q :=
 ⟨⟨aHO (by simp only[jn];rw[aA (by rfl)];exact aG8 h)⟩⟩
theorem aD2 {a:tnT}{Q:Bool->Prop}(ha:a.1≠[])(h:Q false):oN a ([],(0,[])) Q :=
 ⟨⟨⟨by rw[aA (by simpa using ha)];simp only[jn];rw[aC (by simp)];exact h⟩⟩⟩
theorem aDp {Q:Bool->Prop}(h:Q true):sJ DB DB Q :=
 ⟨XY (by simp only[jn];rw[aA trivial];exact aFV (by rw[aA rfl];exact XY h))⟩
theorem aDH {a:paT}{Q:Bool->Prop}(ha:a.1.1≠[])(h:Q false):sJ a DB Q :=
 ⟨aD2 ha (by simp only[jn];rw[aC (by simp),aC (by simp)];exact h)⟩
theorem aBp {Q:Bool->Prop}(h:Q true):qK DB Q:=by
 refine⟨⟨⟨?_⟩⟩⟩
 rw[aC (by simp)]
 refine⟨Loop.rangeI 1 (fun i s=>s=(i:Int)) rfl ?_ ?_⟩
 ·rintro i hi s rfl X hX
  have:i=0:=by omega
  subst this
  unfold aL
  rw[aA (by simp)]
  refine⟨by simp,by simp,aDp ?_⟩
  rw[aC (by simp)]
  exact hX _ rfl
 ·rintro s rfl X
  unfold aL
  rw[aC (by simp)]
  exact h
theorem aCn {a:paT}{Q:Bool->Prop}(ha:a.1.1≠[])(h:Q false):qK a Q:=by
 refine⟨⟨⟨?_⟩⟩⟩
 rw[aC (by simp)]
 refine⟨fun X hX=>hX _ ?_⟩
 unfold aL
 rw[aA (by simp)]
 refine⟨by simp,by simp,aDH ha ?_⟩
 rw[aA (by simp)]
 exact h
theorem yA {a:tnT}(h:BX a=true):a.2.2.length<=8192:=by
 unfold BX at h
 simp only[aH,eP]at h
 have:=aFb a.1
 omega
theorem R8 {a:paT}(h:UH a=true):a.2.1.length=a.1.2.2.length:=by
 unfold UH at h
 simp only[aH,eP]at h
 omega
theorem aFY {a:paT}{Q:Bool->Prop}(hp:SQ a)(h:Q true):D5 a Q:=by
 rcases hp with rfl|⟨h1,h2,h3,h4,h5,h6,x,h7,h8⟩
 ·exact⟨aBp (by simp only[jn];rw[aA trivial];exact h)⟩
 ·have k1:=yA h4
  have k2:=yA h6
  have k3:=R8 h5
  refine⟨aCn h1 ?_⟩
  simp only[jn]
  rw[aC (by simp)]
  refine UV (by omega) ?_
  rw[h4,aA rfl]
  refine XQ (by omega) ?_
  rw[h5,aA rfl]
  refine UV (by omega) ?_
  rw[h6,h7]
  exact h
theorem aD5 {s:stT}{Q:Bool->Prop}(hs:StB s)(h:Q true):DN s Q:=by
 obtain⟨_,h2,h3,h4⟩:=hs
 refine⟨?_⟩
 simp only[jn]
 rw[aA (by simp only[aH,cK];omega)]
 refine⟨⟨⟨Loop.rangeI s.2.2.length (fun i t=>t=(i:Int)) rfl ?_ ?_⟩⟩⟩
 ·rintro i hi t rfl X hX
  unfold bI
  have hg:s.2.2.getD ((i:Int).toNat) DB=s.2.2[i]:=by rw[gZ,cH,aM hi];rfl
  rw[aA (by simpa using hi)]
  refine⟨⟨by omega,by simpa using hi⟩,⟨?_⟩⟩
  rw[hg]
  refine aFY (h4 _ (lO hi)) ?_
  rw[aC (by simp)]
  refine hX _ ?_
  rw[fM (by omega)];rfl
 ·rintro t rfl X
  unfold bI
  rw[aC (by simp)]
  exact h
theorem aER {x:Int}{a:List Int}{Q:List Int->Prop}(hx:0<=x/\x<=4294967295)(ha:a.length<=1000000)(h:Q (a++iN 4 x)):kD x a Q:=by
 refine⟨XJ (w:=4) (PA x) (by omega) ha ?_⟩
 have:u64.wrap x=x:=by simp only[IntKind.wrap,IntKind.bits,IntKind.signed];simp;omega
 rw[this];exact h
theorem aHQ {x:Int}{a:List Int}{Q:List Int->Prop}(hx:0<=x)(ha:a.length<=1000000)(h:Q (a++iN 8 x)):nW x a Q :=
 ⟨XJ (w:=8) hx (by omega) ha h⟩
theorem aFe (x:Int):0<=u32.wrap x/\u32.wrap x<=4294967295:=by
 simp only[IntKind.wrap,IntKind.bits,IntKind.signed];simp;omega
theorem j3 {f:Int->List Int}{w:Nat}(hf:∀ x,(f x).length=w):∀ l:List Int,(l.flatMap f).length=w*l.length
 | []=>rfl
 | x::l=>by rw[jA,aR,hf,j3 hf l,wM,Nat.mul_succ];omega
theorem aDu {t a:List Int}{K:List Int->Prop}(ht:∀ x∈t,0<=x/\x<=65535)(ha:a.length+2*t.length<=1000000)(h:K (a++t.flatMap (iN 2))):pI t (t.length:Int) K (0,a):=by
 refine⟨Loop.rangeI t.length (fun i s=>s=((i:Int),a++(t.take i).flatMap (iN 2))) (by simp) ?_ ?_⟩
 ·rintro i hi s rfl X hX
  unfold mY
  have hg:t.getD ((i:Int).toNat) 0=t[i]:=by rw[gZ,cH,aM hi];rfl
  rw[aA (by simpa using hi)]
  refine⟨⟨by omega,by simpa using hi⟩,?_⟩
  rw[hg]
  refine aBC (ht _ (lO hi)) (by rw[aR,j3 (dB 2),eI];omega) (hX _ ?_)
  refine Prod.ext ?_ ?_
  ·show i64.wrap ((i:Int)+1)=((i+1:Nat):Int)
   rw[fM (by omega)];omega
  ·show a++_++_=a++_
   rw[List.take_succ_eq_append_getElem hi,pG,jA,List.flatMap_nil,bJ,bM]
 ·rintro s rfl X
  unfold mY
  rw[aC (by simp),kK]
  exact h
theorem aH7 {t a:List Int}{K:List Int->Prop}(ha:a.length+4*t.length<=1000000)(h:K (a++t.flatMap mF)):pE t (t.length:Int) K (0,a):=by
 refine⟨Loop.rangeI t.length (fun i s=>s=((i:Int),a++(t.take i).flatMap mF)) (by simp) ?_ ?_⟩
 ·rintro i hi s rfl X hX
  unfold mT
  have hg:t.getD ((i:Int).toNat) 0=t[i]:=by rw[gZ,cH,aM hi];rfl
  rw[aA (by simpa using hi)]
  refine⟨⟨by omega,by simpa using hi⟩,?_⟩
  rw[hg]
  refine aER (aFe _) (by rw[aR,j3 (f:=mF) (w:=4) (fun x=>dB 4 _),eI];omega) (hX _ ?_)
  refine Prod.ext ?_ ?_
  ·show i64.wrap ((i:Int)+1)=((i+1:Nat):Int)
   rw[fM (by omega)];omega
  ·show a++_++_=a++_
   rw[List.take_succ_eq_append_getElem hi,pG,jA,List.flatMap_nil,bJ,bM]
   rfl
 ·rintro s rfl X
  unfold mT
  rw[aC (by simp),kK]
  exact h
theorem YL {d:List Int}{e:Int}{t a:List Int}{K:List Int->Prop}(ha:a.length+t.length<=900000)(h:K (a++xI (d,(e,t)))):oF d e t a K:=by
 refine⟨UB (by omega) ⟨Loop.rangeI t.length (fun i s=>s=((i:Int),a++[e%256]++(t.take i).map fun c=>c%256)) (by simp) ?_ ?_⟩⟩
 ·rintro i hi s rfl X hX
  unfold lW
  have hg:t.getD ((i:Int).toNat) 0=t[i]:=by rw[gZ,cH,aM hi];rfl
  rw[aA (by simpa using hi)]
  refine⟨⟨by omega,by simpa using hi⟩,?_⟩
  rw[hg]
  refine UB (by simp only[aR,e8,eI,List.length_cons,List.length_nil];omega) (hX _ ?_)
  refine Prod.ext ?_ ?_
  ·show i64.wrap ((i:Int)+1)=((i+1:Nat):Int)
   rw[fM (by omega)];omega
  ·show a++[e%256]++List.map _ _++[_]=a++[e%256]++List.map _ _
   rw[List.take_succ_eq_append_getElem hi,uZ,YM,<- bM];rfl
 ·rintro s rfl X
  unfold lW
  rw[aC (by simp),kK]
  have:a++[e%256]++t.map (fun c=>c%256)=a++xI (d,(e,t)):=by rw[bM];rfl
  rw[this];exact h
theorem CQ (a:tnT):(xI a).length=1+a.2.2.length:=by unfold xI;rw[wM,e8];omega
theorem aFr {xs:List paT}{a:List Int}{K:List Int->Prop}(hn:xs.length<=65535)(hp:∀ x∈xs,SQ x)(ha:a.length+(xs.flatMap rN).length<=800000)(h:K (a++xs.flatMap rN)):pB xs (xs.length:Int) K (0,a):=by
 have hpre:∀ i,((xs.take i).flatMap rN).length<=(xs.flatMap rN).length:=fun i=>by
  conv=>rhs;rw[<- nV i xs,pG,aR]
  omega
 refine⟨Loop.rangeI xs.length (fun i s=>s=((i:Int),a++(xs.take i).flatMap rN)) (by simp) ?_ ?_⟩
 ·rintro i hi s rfl X hX
  unfold mZ
  have hg:xs.getD ((i:Int).toNat) DB=xs[i]:=by rw[gZ,cH,aM hi];rfl
  rw[aA (by simpa using hi)]
  refine⟨⟨by omega,by simpa using hi⟩,?_⟩
  simp only[hg]
  have h1:=hpre (i+1)
  have e1:(xs.take (i+1)).flatMap rN=(xs.take i).flatMap rN++rN xs[i]:=by rw[List.take_succ_eq_append_getElem hi,pG,jA,List.flatMap_nil,bJ]
  rw[e1,aR]at h1
  have hx:=hp _ (lO hi)
  have nx:∀ y,y=(xs.take (i+1)).flatMap rN->X (i64.wrap ((i:Int)+1),a++y):=fun y hy=>hX _ (Prod.ext (by show i64.wrap ((i:Int)+1)=((i+1:Nat):Int);rw[fM (by omega)];omega) (by rw[hy]))
  generalize xs[i]=p at h1 e1 hx⊢
  refine UB (by rw[aR];omega) ?_
  rcases hx with rfl|⟨k1,k2,k3,k4,k5,k6,x,k7,k8⟩
  ·refine aBp ?_
   rw[aA rfl]
   refine⟨?_⟩
   rw[bM]
   exact nx _ (by rw[e1];rfl)
  ·have m1:=yA k4
   have m2:=yA k6
   have m3:=R8 k5
   have hpl:(rN p).length=1+(2*p.1.1.length+(1+p.1.2.2.length+(4*p.2.1.length+(2+(1+p.2.2.2.2.length))))):=by
    unfold rN
    rw[aC k1]
    simp only[List.length_cons,aR,j3 (dB 2),j3 (f:=mF) (w:=4) (fun x=>dB 4 _),CQ,dB]
    omega
   rw[hpl]at h1
   refine aCn k1 ?_
   rw[aC (by simp)]
   refine aDu k3 (by simp only[aR,List.length_cons,List.length_nil];omega) ?_
   refine YL (by simp only[aR,List.length_cons,List.length_nil,j3 (dB 2)];omega) ?_
   refine aH7 (by simp only[aR,List.length_cons,List.length_nil,j3 (dB 2),CQ];omega) ?_
   refine⟨⟨by omega,by rw[k7];simp⟩,?_⟩
   refine aBC (by rw[k7];exact k8) (by simp only[aR,List.length_cons,List.length_nil,j3 (dB 2),CQ,j3 (f:=mF) (w:=4) (fun x=>dB 4 _)];omega) ?_
   refine YL (by simp only[aR,List.length_cons,List.length_nil,j3 (dB 2),CQ,j3 (f:=mF) (w:=4) (fun x=>dB 4 _),dB];omega) ⟨?_⟩
   simp only[bM]
   refine nx _ ?_
   rw[e1]
   congr 1
   show _=(p.1.1.length:Int)%256::(if p.1.1=[]then []else _)
   rw[aC k1]
   rfl
 ·rintro s rfl X
  unfold mZ
  rw[aC (by simp),kK]
  exact h
theorem aAA {s:stT}{Q:List Int×Int->Prop}(hs:StB s)(hl:(stF s).length<=100000)(h:Q (stF s,0)):pW s Q:=by
 have hl2:=hl
 unfold stF at hl2
 simp only[aR,dB,List.length_cons,List.length_nil]at hl2
 refine⟨aD5 hs ?_⟩
 obtain⟨h1,h2,h3,h4⟩:=hs
 rw[aC (by simp)]
 have hu:u32.wrap s.2.1=s.2.1:=by
  generalize s.2.1=x at h2
  simp only[IntKind.wrap,IntKind.bits,IntKind.signed];simp;omega
 rw[hu]
 refine⟨by simp,⟨⟨by simp,aHQ h1.1 (by simp) (aER (by omega) (by simp only[aR,List.length_cons,List.length_nil,dB];omega) (UB (by simp only[aR,List.length_cons,List.length_nil,dB];omega)
  (aFr (by omega) h4 (by simp only[aR,List.length_cons,List.length_nil,dB];omega) ⟨?_⟩)))⟩⟩⟩
 have e:[112,100,115,116]++iN 8 s.1++iN 4 s.2.1++[(s.2.2.length:Int)%256]++s.2.2.flatMap rN=stF s:=by
  unfold stF
  simp only[bM]
 rw[e]
 exact C7 hl h
theorem aAD {b:List Int}(hB:Byt b)(hl:b.length<=100000){Q:stT×Int->Prop}(hok:∀ s,(∀ R:List Int×Int->Prop,R (b,0)->pW s R)->Q (s,0))(hbad:∀ e,e=4\/e=5->Q ((0,(0,[])),e)):qA b Q :=
 ZU hB hl (fun s e hs=>hok s fun R hR=>aAA hs (by rw[<- e];exact hl) (by rw[<- e];exact hR)) hbad
end Go.Proofs.YtpigepmgheabhaaGreatDoor

namespace Go.Proofs.YtpigepmgheabhaaGreatDoor
open Go.Mach
set_option maxRecDepth 100000
set_option linter.unusedVariables false
noncomputable section
def iH  (Q:Bool->Prop):Prop:=(True)/\Q true
def f6:List Sh:=[]
def wY (x:jK f6)(Q:List (Bool×List VV)->Prop):Prop:=iH  (fun(r:Bool)=>Q (f5 [(false,.bool)] [.n] (r,())))
theorem uF (x:jK f6)(Q:List (Bool×List VV)->Prop)(h:wY x Q):fH Tryz.prog 4 (jS f6 x) Q:=by
 exact Go.Mach.awake_snd Q h.1 h.2
noncomputable def xQ:Tb Tryz.prog:=IA.add 4 f6 uF
structure eY  (K0:Bool->Prop):Prop where
 it:iH (fun r8=>K0 r8)
structure eV (x0:List Int)(K0:Bool->Prop):Prop where
 it:qA x0 (fun r6=>if (r6.2==0)=true then pW r6.1 (fun r7=>if ((r7.2 != 0)||(!((pD r7.1).toList==(pD x0).toList)))=true then K0 false else eY (fun y8=>K0 y8))else if ((decide (0<(r6.1.2.2.length:Int)))||((r6.2 != 5)&&(r6.2 != 4)))=true then K0 false else eY (fun y9=>K0 y9))
structure eS (x0 x1:List Int)(K0:Bool->Prop):Prop where
 it:nP x0 (fun r4=>if (r4.2==0)=true then mU r4.1 (fun r5=>if ((r5.2 != 0)||(!((pD r5.1).toList==(pD x0).toList)))=true then K0 false else eV x1 (fun y6=>K0 y6))else if ((decide (0<(r4.1.2.2.2.length:Int)))||((r4.2 != 5)&&(r4.2 != 4)))=true then K0 false else eV x1 (fun y7=>K0 y7))
structure f7 (a0:ByteArray)(a1 a2:List Int)(Q:Bool->Prop):Prop where
 it:if (((decide (2100<(a0.size:Int)))||(decide (4000<(a1.length:Int))))||(decide (4000<(a2.length:Int))))=true then iH (fun r1=>Q r1)else xD a0 (fun r2=>if (r2.2.2==0)=true then AQ r2.1 (fun r3=>if (((r3.2 != 0)||(!(r3.1.toList==a0.toList)))||(r2.2.1 != 0))=true then Q false else eS a1 a2 (fun y8=>Q y8))else if ((decide (0<(r2.1.2.length:Int)))||((r2.2.2 != 5)&&(r2.2.2 != 10)))=true then Q false else eS a1 a2 (fun y9=>Q y9))
def sV:Ent:=⟨[1,2],[sZ (.int .u8),sZ (.int .u8)],[],fun⟨⟨a,b,_⟩,_⟩ k=>eS a b (fun y10=>k .ret ⟨[(6,vB y10)],[]⟩)⟩
def sO:Ent:=⟨[2],[sZ (.int .u8)],[],fun⟨⟨a,_⟩,_⟩ k=>eV a (fun y11=>k .ret ⟨[(6,vB y11)],[]⟩)⟩
def sP:Ent:=⟨[],[],[],fun _ k=>eY (fun y12=>k .ret ⟨[(6,vB y12)],[]⟩)⟩
def gP:List Sh:=[.lf (.str),sZ (.int .u8),sZ (.int .u8)]
theorem rM (x:jK gP)(Q:QT)(h:f7 x.1 x.2.1 x.2.2.1 fun r=>Q (f5 [(false,.bool)] [] (r,()))):fH Tryz.prog 3 (jS gP x) Q:=V8 xQ (tt:=tt) (hv:=false) (un:=0) (res:=[6]) (cos:=[]) (l:=[(15,sV),(31,sO),(63,sP)]) (al:=[]) (sh:=gP) (rt:=[(false,.bool)]) (D:=fun x=>f7 x.1 x.2.1 x.2.2.1) Tryz.func3 hI0 ⟨fun _ _ hs ⟨⟨_,_,_⟩,_⟩ _ h=>fQ hs h.it,fun _ _ hs ⟨⟨_,_⟩,_⟩ _ h=>fQ hs h.it,fun _ _ hs _ _ h=>fQ hs h.it,trivial⟩ (fun _ _ h=>⟨_,h.it,by kernel_rfl⟩) (by kernel_rfl) (by kernel_rfl) (by kernel_rfl) x Q h
end
end Go.Proofs.YtpigepmgheabhaaGreatDoor



namespace Go.Proofs.YtpigepmgheabhaaGreatDoor
open IntKind (i8 i16 i32 i64 u8 u16 u32 u64)
open Go.Mach Go.RowKit
set_option maxRecDepth 100000
set_option linter.unusedVariables false
set_option linter.unusedSimpArgs false
def inP (a lo hi:Int):Bool:=decide (lo<=a)&&decide (a<=hi)
theorem aFF {a lo hi:Int}(h1:lo<=a)(h2:a<=hi):inP a lo hi=true:=by
 unfold inP
 rw[gB h1,gB h2]
 rfl
abbrev Lay:=Int×Int×Int×Int×Int×Int×Bool
abbrev Mdl:=(Int×Int×Int)×List Lay
abbrev C3:Lay:=(0,0,0,0,0,0,false)
theorem zC {a lo hi:Int}{Q:Bool->Prop}(h:Q (inP a lo hi)):iP a lo hi Q:=⟨h⟩
def mJ (a:Int×Int×Int):Bool:=(inP a.1 1 8&&inP a.2.1 1 16)&&inP a.2.2 1 16
theorem RS {a:Int×Int×Int}{Q:Bool->Prop}(h:Q (mJ a)):pO a Q:=by
 refine⟨zC ?_⟩
 unfold jn
 dsimp only
 unfold mJ at h
 cases h1:inP a.1 1 8 with
 | false=>rw[h1]at h;rw[aC (by simp),aC (by simp)];exact h
 | true =>
   rw[h1]at h
   rw[aA rfl]
   refine zC ?_
   cases h2:inP a.2.1 1 16 with
   | false=>rw[h2]at h;rw[aC (by simp)];exact h
   | true=>rw[h2]at h;rw[aA rfl];exact zC h
def Z4 (x:Lay):Bool:=inP x.2.2.1 1 5&&inP x.2.2.2.1 1 4
theorem aAv {x:Lay}{Q:Bool->Prop}(h:Q (Z4 x)):pX x Q:=by
 refine⟨zC ?_⟩
 unfold jn
 dsimp only
 unfold Z4 at h
 cases h1:inP x.2.2.1 1 5 with
 | false=>rw[h1]at h;rw[aC (by simp)];exact h
 | true=>rw[h1]at h;rw[aA rfl];exact zC h
def qY (x:Lay)(n:Int):Bool :=
 if x.1=1 then inP x.2.1 1 4096&&((x.2.2.1==0)&&((x.2.2.2.1==0)&&((x.2.2.2.2.1==0)&&(x.2.2.2.2.2.1==0))))
 else if x.1=2 then((inP x.2.1 1 8&&Z4 x)&&inP x.2.2.2.2.1 0 (i64.wrap (x.2.2.1-1)))&&(x.2.2.2.2.2.1==0)
 else if x.1=3\/x.1=4 then Z4 x&&((x.2.1==0)&&((x.2.2.2.2.1==0)&&((x.2.2.2.2.2.1==0)&&(x.2.2.2.2.2.2==false))))
 else if x.1=5\/x.1=6 then(x.2.1==0)&&((x.2.2.1==0)&&((x.2.2.2.1==0)&&((x.2.2.2.2.1==0)&&((x.2.2.2.2.2.1==0)&&(x.2.2.2.2.2.2==false)))))
 else if x.1=7 then inP x.2.2.2.2.2.1 0 (i64.wrap (n-1))&&((x.2.1==0)&&((x.2.2.1==0)&&((x.2.2.2.1==0)&&((x.2.2.2.2.1==0)&&(x.2.2.2.2.2.2==false)))))
 else false
theorem MH {K:Unit->Prop}(h:K ()):kA K:=⟨h⟩
theorem aBi {x:Lay}{n:Int}{Q:Bool->Prop}(h:Q (qY x n)):xX x n Q:=by
 obtain⟨kd,ou,k,st,pd,fr,fz⟩:=x
 refine⟨?_⟩
 dsimp only
 unfold qY at h
 dsimp only at h
 by_cases h1:kd=1
 ·rw[aA h1]at h
  rw[aA (by simpa using h1)]
  refine zC (MH ?_)
  refine cast (congrArg Q ?_) h
  simp
 rw[aC h1]at h
 rw[aC (by simpa using h1)]
 by_cases h2:kd=2
 ·rw[aA h2]at h
  rw[aA (by simpa using h2)]
  refine zC ?_
  unfold jn
  dsimp only
  cases e1:inP ou 1 8 with
  | false =>
    rw[e1]at h
    rw[aC (by simp),aC (by simp)]
    refine MH (cast (congrArg Q ?_) h)
    simp
  | true =>
    rw[e1]at h
    rw[aA rfl]
    refine aAv ?_
    cases e2:Z4 (kd,ou,k,st,pd,fr,fz)with
    | false =>
      rw[e2]at h
      rw[aC (by simp)]
      refine MH (cast (congrArg Q ?_) h)
      simp
    | true =>
      rw[e2]at h
      rw[aA rfl]
      refine zC (MH (cast (congrArg Q ?_) h))
      simp
 rw[aC h2]at h
 rw[aC (by simpa using h2)]
 have fin:∀ {b:Bool} {k' st' fr':Int},(b&&((kd==kd)&&((ou==0)&&((k==k')&&((st==st')&&((pd==0)&&((fr==fr')&&((fz==false)&&(true)))))))))
  = (b&&((ou==0)&&((k==k')&&((st==st')&&((pd==0)&&((fr==fr')&&(fz==false))))))):=by
  intro b k' st' fr'
  simp
 by_cases h3:kd=3
 ·rw[aA (.inl h3)]at h
  rw[aA (by simpa using h3)]
  refine⟨?_⟩
  rw[aA (by simpa using h3)]
  refine aAv (MH (cast (congrArg Q ?_) h))
  rw[fin]
  simp
 rw[aC (by simpa using h3)]
 refine⟨?_⟩
 by_cases h4:kd=4
 ·rw[aA (.inr h4)]at h
  rw[aA (by simpa using h4)]
  refine aAv (MH (cast (congrArg Q ?_) h))
  rw[fin]
  simp
 rw[aC (by omega)]at h
 rw[aC (by simpa using h4)]
 by_cases h5:kd=5
 ·rw[aA (.inl h5)]at h
  rw[aA (by simpa using h5)]
  refine⟨?_⟩
  rw[aA (by simpa using h5)]
  refine MH (cast (congrArg Q ?_) h)
  rw[fin]
  simp
 rw[aC (by simpa using h5)]
 refine⟨?_⟩
 by_cases h6:kd=6
 ·rw[aA (.inr h6)]at h
  rw[aA (by simpa using h6)]
  refine MH (cast (congrArg Q ?_) h)
  rw[fin]
  simp
 rw[aC (by omega)]at h
 rw[aC (by simpa using h6)]
 by_cases h7:kd=7
 ·rw[aA h7]at h
  rw[aA (by simpa using h7)]
  refine zC (MH (cast (congrArg Q ?_) h))
  rw[fin]
  simp
 ·rw[aC h7]at h
  rw[aC (by simpa using h7)]
  refine MH (cast (congrArg Q ?_) h)
  simp
def KV (l:List Lay):Bool:=(List.range l.length).all fun i=>qY (l.getD i C3) i
def zK (m:Mdl):Bool:=(mJ m.1&&inP (m.2.length:Int) 1 12)&&KV m.2
theorem aFE {m:Mdl}{Q:Bool->Prop}(hl:m.2.length<=10000000000000)(h:Q (zK m)):EN m Q:=by
 refine⟨RS ?_⟩
 unfold jn
 dsimp only
 unfold zK at h
 cases h1:mJ m.1 with
 | false =>
   rw[h1]at h
   rw[aA (by rfl),aA rfl]
   exact h
 | true =>
   rw[h1]at h
   rw[aC (by simp)]
   refine zC ?_
   cases h2:inP (m.2.length:Int) 1 12 with
   | false =>
     rw[h2]at h
     rw[aA (by rfl)]
     exact h
   | true =>
     rw[h2]at h
     rw[aC (by simp)]
     simp only[lP]at h
     refine⟨?_⟩
     refine Loop.range (B:=m7 m.2 (m.2.length:Int) (fun _=>Q true) (fun _=>Q false)) m.2.length (fun i=>(i:Int)) (fun i=>∀ j,j<i->qY (m.2.getD j C3) j=true) (fun j hj=>absurd hj (by omega)) ?_ ?_
     ·intro i hi hI X hX
      unfold m7
      rw[aA (gB (show(i:Int)<(m.2.length:Int) by omega))]
      refine⟨by omega,aBi ?_⟩
      simp only[Int.toNat_natCast]
      show if (!qY (m.2.getD i C3) i)=true then _ else _
      cases hb:qY (m.2.getD i C3) i with
      | true =>
        rw[aC (by simp),oJ _]
        refine hX fun j hj => ?_
        by_cases hji:j=i
        ·subst hji;exact hb
        ·exact hI j (by omega)
      | false =>
        rw[aA (by rfl)]
        have:KV m.2=false:=by
         unfold KV
         rw[List.all_eq_false]
         exact⟨i,List.mem_range.2 hi,by rw[hb];simp⟩
        rw[this]at h
        exact h
     ·intro hI X
      unfold m7
      rw[aC (by simp)]
      have:KV m.2=true:=by
       unfold KV
       rw[bW]
       intro j hj
       exact hI j (List.mem_range.1 hj)
      rw[this]at h
      exact h
theorem Z6 {m:Mdl}(h:zK m=true):((1<=m.1.1/\m.1.1<=8)/\(1<=m.1.2.1/\m.1.2.1<=16)/\(1<=m.1.2.2/\m.1.2.2<=16))/\(1<=m.2.length/\m.2.length<=12)/\∀ i,i<m.2.length->qY (m.2.getD i C3) i=true:=by
 unfold zK mJ inP at h
 simp only[aH,cK]at h
 refine⟨⟨h.1.1.1.1,h.1.1.1.2,h.1.1.2⟩,by omega,fun i hi => ?_⟩
 have:=h.2
 unfold KV at this
 rw[bW]at this
 exact this i (List.mem_range.2 hi)
instance layDec3:DecidableEq (Int×Int×Int×Bool):=inferInstance
instance layDec5:DecidableEq (Int×Int×Int×Int×Int×Bool):=inferInstance
instance layDec:DecidableEq Lay:=inferInstance
instance laysDec:DecidableEq (List Lay):=instDecidableEqList
instance mdlDec:DecidableEq Mdl:=inferInstanceAs (DecidableEq ((Int×Int×Int)×List Lay))
theorem HE (s:ByteArray):∀ (n i:Nat) (r:List UInt8),s.size-i=n->ByteArray.toList.loop s i r=r.reverse++s.data.toList.drop i
 | 0,i,r,h=>by
   have e:s.data.toList.length=s.size:=by rw[xE];rfl
   rw[ByteArray.toList.loop,aC (by omega),List.drop_eq_nil_of_le (by omega),bJ]
 | n+1,i,r,h=>by
   rw[ByteArray.toList.loop,aA (by omega),HE s n (i+1) _ (by omega)]
   have e:s.data.toList.length=s.size:=by rw[xE];rfl
   have hi:i<s.data.toList.length:=by omega
   rw[wF hi]
   simp[ByteArray.get!]
   rw[getElem!_pos s.data i (by simpa using hi)]
theorem CP (s:ByteArray):s.toList=s.data.toList:=by
 unfold ByteArray.toList
 rw[HE s s.size 0 [] rfl]
 simp
theorem TW (a b:ByteArray):(a.toList==b.toList)=decide (a=b):=by
 rw[CP,CP,Bool.eq_iff_iff,eP,decide_eq_true_iff]
 constructor
 ·intro h
  cases a;cases b
  simp at h⊢
  exact h
 ·intro h;rw[h]
end Go.Proofs.YtpigepmgheabhaaGreatDoor

namespace Go.Proofs.YtpigepmgheabhaaGreatDoor
open Go.Mach
set_option maxRecDepth 100000
set_option linter.unusedVariables false
set_option linter.unusedSimpArgs false
theorem dig {u:Nat}(h:u<10):(UInt8.ofNat (48+u)).toNat=48+u:=by
 rw[UInt8.toNat_ofNat']
 exact Nat.mod_eq_of_lt (by omega)
theorem aD6:∀ (u:Nat),∀ c∈Lib.decDigits u,48<=c.toNat/\c.toNat<=57:=by
 intro u
 induction u using Nat.strongRecOn with
 | ind u ih =>
   intro c hc
   rw[Lib.decDigits]at hc
   split at hc
   ·rename_i h
    simp only[nN]at hc
    subst hc
    rw[dig h];omega
   ·rename_i h
    rcases List.mem_append.1 hc with hc|hc
    ·exact ih (u / 10) (by omega) c hc
    ·simp only[nN]at hc
     subst hc
     rw[dig (by omega)];omega
def tM (l:List UInt8):Nat:=l.foldl (fun a c=>10*a+(c.toNat-48)) 0
theorem aAx:∀ u:Nat,tM (Lib.decDigits u)=u:=by
 intro u
 induction u using Nat.strongRecOn with
 | ind u ih =>
   rw[Lib.decDigits]
   split
   ·rename_i h
    unfold tM
    simp only[List.foldl_cons,List.foldl_nil]
    rw[dig h];omega
   ·rename_i h
    have:=ih (u / 10) (by omega)
    unfold tM at this⊢
    rw[List.foldl_append,this]
    simp only[List.foldl_cons,List.foldl_nil]
    rw[dig (by omega)];omega
def S7 (c:UInt8):Bool:=decide (48<=c.toNat/\c.toNat<=57)
theorem IG (l:List UInt8)(c:UInt8):tM (l++[c])=10*tM l+(c.toNat-48):=by
 unfold tM
 rw[List.foldl_append]
 rfl
theorem NQ {c:UInt8}(h:48<=c.toNat/\c.toNat<=57):UInt8.ofNat (48+(c.toNat-48))=c:=by
 apply UInt8.toNat_inj.1
 rw[dig (by omega)]
 omega
theorem aC3:∀ u:Nat,∀ c,(Lib.decDigits u).head? = some c->c.toNat=48->u=0:=by
 intro u
 induction u using Nat.strongRecOn with
 | ind u ih =>
   intro c hc h48
   rw[Lib.decDigits]at hc
   split at hc
   ·rename_i h
    simp only[List.head?_cons,aX]at hc
    rw[<- hc,dig h]at h48
    omega
   ·rename_i h
    have h0:(Lib.decDigits (u / 10)).head? = some c:=by
     cases hd:Lib.decDigits (u / 10)with
     | nil =>
       have:=Lib.decDigits_length (u / 10)
       have h2:=Lib.nDigits_pos (u / 10)
       rw[hd]at this
       simp at this
       omega
     | cons x r=>rw[hd]at hc;simpa using hc
    have:=ih (u / 10) (by omega) c h0 h48
    omega
theorem aD4:∀ (n:Nat) (l:List UInt8),l.length=n->l≠[]->(∀ c∈l,48<=c.toNat/\c.toNat<=57)->(∀ c,l.head? = some c->c.toNat≠48)->Lib.decDigits (tM l)=l/\1<=tM l:=by
 intro n
 induction n with
 | zero=>intro l hl hne;exact absurd (List.length_eq_zero_iff.1 hl) hne
 | succ n ih =>
   intro l hl hne hd hh
   rcases List.eq_nil_or_concat l with rfl|⟨l',c,rfl⟩
   ·exact absurd rfl hne
   rw[List.concat_eq_append]at *
   have hc:=hd c (by simp)
   by_cases h0:l'=[]
   ·subst h0
    have h48:=hh c rfl
    have hv:tM ([]++[c])=c.toNat-48:=by rw[IG];simp[tM]
    rw[hv]
    refine⟨?_,by omega⟩
    rw[Lib.decDigits,dif_pos (by omega),NQ hc]
    rfl
   ·have hl':l'.length=n:=by simpa using hl
    have:=ih l' hl' h0 (fun x hx=>hd x (by simp[hx])) (fun x hx=>hh x (by
     cases l' with
     | nil=>exact absurd rfl h0
     | cons y r=>simpa using hx))
    rw[IG]
    refine⟨?_,by omega⟩
    rw[Lib.decDigits,dif_neg (by omega)]
    rw[show(10*tM l'+(c.toNat-48)) / 10=tM l' by omega,show(10*tM l'+(c.toNat-48))%10=c.toNat-48 by omega,this.1,NQ hc]
theorem aGE:∀ (l:List UInt8),(∀ c∈l,48<=c.toNat/\c.toNat<=57)->tM l<10 ^ l.length:=by
 intro l
 induction hn:l.length generalizing l with
 | zero=>intro _;rw[List.length_eq_zero_iff.1 hn];simp[tM]
 | succ n ih =>
   intro hd
   rcases List.eq_nil_or_concat l with rfl|⟨l',c,rfl⟩
   ·simp at hn
   rw[List.concat_eq_append]at *
   have hc:=hd c (by simp)
   have:=ih l' (by simpa using hn) (fun x hx=>hd x (by simp[hx]))
   rw[IG,Nat.pow_succ]
   omega
def DP (l:List UInt8):Option Int:=if l≠[]/\l.length<=4/\l.all S7=true/\(l.head? = some 48->l=[48])then some (tM l:Int)else none
theorem G3 {l:List UInt8}(h:l.all S7=true):∀ c∈l,48<=c.toNat/\c.toNat<=57:=fun c hc=>by
 have:=List.all_eq_true.1 h c hc
 unfold S7 at this
 exact tX this
theorem SL {l:List UInt8}(hne:l≠[])(h:l.all S7=true)(hh:l.head? = some 48->l=[48]):Lib.decDigits (tM l)=l:=by
 by_cases h0:l.head? = some 48
 ·rw[hh h0]
  show Lib.decDigits 0=_
  rw[Lib.decDigits,dif_pos (by omega)]
  rfl
 ·refine(aD4 _ l rfl hne (G3 h) ?_).1
  intro c hc h48
  refine h0 ?_
  rw[hc]
  congr 1
  exact UInt8.toNat_inj.1 h48
theorem FO:∀ (l:List UInt8) (acc:Nat),(∀ c∈l,48<=c.toNat/\c.toNat<=57)->Lib.decFrom acc l=some (l.foldl (fun a c=>10*a+(c.toNat-48)) acc)
 | [],acc,_=>rfl
 | c::r,acc,h=>by
   have hc:=h c (by simp)
   unfold Lib.decFrom Lib.digitVal
   rw[aA hc]
   simp only[List.foldl_cons]
   rw[FO r _ (fun x hx=>h x (by simp[hx])),Nat.mul_comm acc 10]
theorem aA2 {l:List UInt8}(hne:l≠[])(hl:l.length<=4)(h:l.all S7=true):Lib.atoiAll l = .ok (tM l:Int):=by
 rw[Lib.atoiAll_short l (by omega)]
 cases l with
 | nil=>exact absurd rfl hne
 | cons c r =>
   have hc:=G3 h c (by simp)
   have h1:(c==45)=false:=by
    rw[beq_eq_false_iff_ne];intro e;rw[e]at hc;exact absurd hc (by decide)
   have h2:(c==43)=false:=by
    rw[beq_eq_false_iff_ne];intro e;rw[e]at hc;exact absurd hc (by decide)
   unfold Lib.atoi
   simp only[h1,h2,eK,aS]
   unfold Lib.decNat
   rw[aC (by simp),FO _ _ (G3 h)]
   rfl
def aFZ (w:ByteArray):Option Int:=if (atoiS w).2=true/\0<=(atoiS w).1/\w.size<=4/\itoaS (atoiS w).1=w then some (atoiS w).1 else none
theorem VN {l:List UInt8}{w:ByteArray}(h:(⟨l.toArray⟩:ByteArray)=w):w.data.toList=l:=by rw[<- h]
theorem aDf (w:ByteArray):aFZ w=DP w.data.toList:=by
 have hsz:w.data.toList.length=w.size:=rfl
 unfold aFZ
 split
 ·rename_i h
  obtain⟨h1,h2,h3,h4⟩:=h
  obtain⟨u,hu⟩:=ES h2
  rw[hu]at h4⊢
  have e:w.data.toList=Lib.decDigits u:=by
   have:=VN h4
   rw[this]
   unfold Lib.itoa
   rw[aC (by omega)]
   rfl
  unfold DP
  rw[aA,e,aAx]
  rw[e]
  rw[e]at hsz
  refine⟨?_,by omega,?_,?_⟩
  ·intro k
   have:=Lib.decDigits_length u
   have h5:=Lib.nDigits_pos u
   rw[k]at this
   simp at this
   omega
  ·exact List.all_eq_true.2 fun c hc=>gB (aD6 u c hc)
  ·intro hh
   have:=aC3 u 48 hh rfl
   subst this
   rw[Lib.decDigits,dif_pos (by omega)]
   rfl
 ·rename_i h
  unfold DP
  split
  ·rename_i hd
   obtain⟨k1,k2,k3,k4⟩:=hd
   exfalso
   refine h ?_
   have ha:=aA2 k1 k2 k3
   have hs:atoiS w=((tM w.data.toList:Int),true):=by
    unfold atoiS
    rw[ha]
   rw[hs]
   refine⟨rfl,by simp,by omega,?_⟩
   unfold itoaS Lib.itoa
   simp only
   rw[aC (by omega),gZ,SL k1 k3 k4]
  ·rfl
end Go.Proofs.YtpigepmgheabhaaGreatDoor

namespace Go.Proofs.YtpigepmgheabhaaGreatDoor
open IntKind (i8 i16 i32 i64 u8 u16 u32 u64)
open Go.Mach
set_option maxRecDepth 100000
set_option linter.unusedVariables false
set_option linter.unusedSimpArgs false
abbrev bG:=List UInt8
def B (l:bG):ByteArray:=⟨l.toArray⟩
theorem BC (l:bG):(B l).data.toList=l:=rfl
theorem aHX {a b:bG}(h:B a=B b):a=b:=by rw[<- BC a,h];rfl
theorem iG (l:bG):(B l).size=l.length:=rfl
def spl (c:UInt8):bG->List bG
 | []=>[[]]
 | x::r=>if x=c then []::spl c r else match spl c r with
   | []=>[[x]]
   | h::t=>(x::h)::t
theorem US (c:UInt8):∀ l,spl c l≠[]
 | []=>by simp[spl]
 | x::r=>by
   unfold spl
   split
   ·simp
   ·split <;> simp
theorem TZ (c:UInt8):∀ l:bG,c∉l->spl c l=[l]
 | [],_=>rfl
 | x::r,h=>by
   have hx:x≠c:=fun e=>h (by rw[e];simp)
   unfold spl
   rw[aC hx,TZ c r (fun k=>h (dA _ k))]
theorem N8 (c:UInt8):∀ l:bG,(c∉l->Lib.index l [c] = -1)/\(c∈l->∃ i:Nat,Lib.index l [c]=i)
 | []=>⟨fun _=>rfl,fun h=>by simp at h⟩
 | x::r=>by
   have ih:=N8 c r
   have e:([c].isPrefixOf (x::r))=(c==x):=by simp[List.isPrefixOf]
   constructor
   ·intro h
    have hx:(c==x)=false:=by rw[beq_eq_false_iff_ne];intro e;exact h (by rw[e];simp)
    unfold Lib.index
    rw[e,hx,ih.1 (fun k=>h (dA _ k))]
    rfl
   ·intro h
    unfold Lib.index
    rw[e]
    by_cases hx:c=x
    ·exact⟨0,by rw[hx];simp⟩
    ·have hx':(c==x)=false:=by rw[beq_eq_false_iff_ne];exact hx
     obtain⟨i,hi⟩:=ih.2 (by
      rcases List.mem_cons.1 h with h|h
      ·exact absurd h hx
      ·exact h)
     refine⟨i+1,?_⟩
     rw[hx',hi]
     simp only[eK,aS]
     rw[aC (by simp only[eP];omega)]
     rfl
theorem AH (c x:UInt8)(r:bG):Lib.index (x::r) [c]=if x=c then 0 else if Lib.index r [c] = -1 then -1 else Lib.index r [c]+1:=by
 have e:([c].isPrefixOf (x::r))=(c==x):=by simp[List.isPrefixOf]
 conv=>lhs;unfold Lib.index
 rw[e]
 by_cases hx:x=c
 ·rw[aA hx,aA (by simp[hx])]
 ·rw[aC hx,aC (by simp[Ne.symm hx])]
  by_cases h1:Lib.index r [c] = -1
  ·rw[aA (by simp[h1]),aA h1]
  ·rw[aC (by simp[h1]),aC h1]
theorem IX (c:UInt8):∀ l:bG,Lib.splitK [c] 0 (l.count c) l=spl c l
 | []=>rfl
 | x::r=>by
   have ih:=IX c r
   by_cases hx:x=c
   ·subst hx
    rw[List.count_cons_self]
    unfold Lib.splitK spl
    rw[AH,aA rfl,aC (by decide)]
    simp only[Int.toNat_zero,e9,List.take_zero,List.length_cons,List.length_nil,List.drop_succ_cons,EJ,aO]
    rw[ih]
   ·rw[List.count_cons_of_ne (by simpa using hx)]
    unfold spl
    rw[aC hx]
    by_cases hm:c∈r
    ·obtain⟨i,hi⟩:=(N8 c r).2 hm
     obtain⟨k,hk⟩:∃ k,r.count c=k+1:=⟨r.count c-1,by have:=List.count_pos_iff.2 hm;omega⟩
     rw[hk]at ih⊢
     unfold Lib.splitK at ih⊢
     rw[AH,aC hx,hi,aC (show ¬ ((i:Int) = -1) by omega)]
     rw[hi,aC (by simp only[eP];omega)]at ih
     rw[aC (by simp only[eP];omega)]
     rw[<- ih]
     have e1:((i:Int)+1).toNat=i+1:=by omega
     simp only[e1,Nat.add_zero,Int.toNat_natCast,List.take_succ_cons,List.length_cons,List.length_nil,e9,List.drop_succ_cons]
    ·rw[List.count_eq_zero.2 hm,TZ c r hm]
     rfl
theorem NP:∀ {a:List ByteArray} {b:List bG},a.map (·.data.toList)=b->a=b.map B
 | [],b,h=>by subst h;rfl
 | x::a,b,h=>by
   subst h
   simp only[List.map_cons]
   rw[<- NP (a:=a) rfl]
   rfl
theorem V3 (s:ByteArray)(c:UInt8):splitS s ⟨#[c]⟩=(spl c s.data.toList).map B:=by
 refine NP ?_
 unfold splitS
 rw[Lib.splitB_data]
 have hc:Lib.countB s ⟨#[c]⟩=s.data.toList.count c:=Lib.count_one c s.data.toList
 rw[hc]
 exact IX c _
def brk (c:UInt8):bG->Option (bG×bG)
 | []=>none
 | x::r=>if x=c then some ([],r)else match brk c r with
   | some (a,b)=>some (x::a,b)
   | none=>none
theorem X7 (c:UInt8):∀ l:bG,Lib.cut l [c]=(match brk c l with
 | some (a,b)=>(a,b,true)
 | none=>(l,[],false))
 | []=>rfl
 | x::r=>by
   have ih:=X7 c r
   unfold Lib.cut at ih⊢
   unfold brk
   rw[AH]
   by_cases hx:x=c
   ·rw[aA hx,aA (by omega),aA hx]
    rfl
   ·rw[aC hx,aC hx]
    by_cases h1:Lib.index r [c] = -1
    ·rw[aA h1,aC (by omega)]
     rw[h1,aC (by omega)]at ih
     cases hb:brk c r with
     | none=>rfl
     | some p=>rw[hb]at ih;simp at ih
    ·have h2:0<=Lib.index r [c]:=by have:=Lib.index_ge r [c];omega
     rw[aC h1,aA (by omega)]
     rw[aA h2]at ih
     cases hb:brk c r with
     | none=>rw[hb]at ih;simp at ih
     | some p =>
       obtain⟨a,b⟩:=p
       rw[hb]at ih
       simp only[Prod.mk.injEq]at ih⊢
       obtain⟨i1,i2,_⟩:=ih
       have e1:(Lib.index r [c]+1).toNat=(Lib.index r [c]).toNat+1:=by omega
       refine⟨?_,?_,trivial⟩
       ·rw[e1,List.take_succ_cons,i1]
       ·rw[e1,<- i2]
        simp only[List.length_cons,List.length_nil]
        rw[show(Lib.index r [c]).toNat+1+(0+1)=((Lib.index r [c]).toNat+(0+1))+1 by omega,List.drop_succ_cons]
theorem aCd (s:ByteArray)(c:UInt8):cutS s ⟨#[c]⟩=(match brk c s.data.toList with
 | some (a,b)=>(B a,B b,true)
 | none=>(s,B [],false)):=by
 have h:=X7 c s.data.toList
 unfold cutS
 have e:(⟨#[c]⟩:ByteArray).data.toList=[c]:=rfl
 rw[e,h]
 cases brk c s.data.toList with
 | none=>rfl
 | some p=>rfl
def mH:List bG->Option (List Int)
 | []=>some []
 | w::r=>match DP w,mH r with
   | some n,some l=>some (n::l)
   | _,_=>none
theorem EC:∀ (a b:List bG),mH (a++b)=(match mH a,mH b with
 | some l,some m=>some (l++m)
 | _,_=>none)
 | [],b=>by cases h:mH b <;> simp[mH,h]
 | w::r,b=>by
   simp only[List.cons_append,mH,EC r b]
   cases DP w <;> cases mH r <;> cases mH b <;> rfl
theorem N2:∀ {a:List bG} {l:List Int},mH a=some l->l.length=a.length
 | [],l,h=>by cases h;rfl
 | w::r,l,h=>by
   simp only[mH]at h
   split at h
   ·rename_i h1 h2
    cases h
    simp[N2 h2]
   ·cases h
def cA (l:bG):Option (bG×List Int) :=
 match spl 32 l with
 | w::r=>match mH r with
   | some ns=>some (w,ns)
   | none=>none
 | []=>none
theorem XG (c:UInt8):∀ l:bG,(spl c l).length<=l.length+1
 | []=>by simp[spl]
 | x::r=>by
   have ih:=XG c r
   unfold spl
   split
   ·simp;omega
   ·split
    ·simp
    ·rename_i h;rw[h]at ih;simp at ih⊢;omega
theorem RE (c:UInt8):∀ l:bG,∀ w∈spl c l,w.length<=l.length
 | [],w,h=>by simp[spl]at h;rw[h];simp
 | x::r,w,h=>by
   have ih:=RE c r
   unfold spl at h
   split at h
   ·rcases List.mem_cons.1 h with h|h
    ·rw[h];simp
    ·have:=ih w h;simp;omega
   ·split at h
    ·simp at h;rw[h];simp
    ·rename_i h1
     rcases List.mem_cons.1 h with h|h
     ·have:=ih _ (by rw[h1];exact cN ..)
      rw[h];simp;omega
     ·have:=ih w (by rw[h1];exact dA _ h)
      simp;omega
theorem aFi {w:ByteArray}{K1:Prop}{K0:Int->Prop}(hs:w.size<=281474976710656)(h:match DP w.data.toList with
 | some n=>K0 n
 | none=>K1) (hb:∀ n,DP w.data.toList=some n->K0 n) :
 uX w (fun r6=>jn (fun(v7:Bool)=>if v7=true then K1 else K0 r6.1) (fun J8=>if (((!r6.2)||(decide (r6.1<0)))||(decide (4<(w.size:Int))))=true then J8 true else strconv_Itoa r6.1 (fun(r9:ByteArray)=>J8 (!(r9.toList==w.toList))))):=by
 refine⟨hs,?_⟩
 have hn:=aDf w
 unfold aFZ at hn
 unfold jn
 dsimp only
 by_cases hc:(((!(atoiS w).2)||(decide ((atoiS w).1<0)))||(decide (4<(w.size:Int))))=true
 ·rw[aA hc,aA rfl]
  rw[aC]at hn
  ·rw[<- hn]at h;exact h
  ·rintro⟨h1,h2,h3,_⟩
   rw[h1]at hc
   simp at hc
   omega
 ·rw[aC hc]
  have hc2:(atoiS w).2=true/\0<=(atoiS w).1/\w.size<=4:=by
   simp at hc
   exact⟨hc.1.1,by omega,by omega⟩
  have hv:Lib.atoiAll w.data.toList = .ok (atoiS w).1:=Q4 (by rw[<- hc2.1])
  have hbd:=Lib.atoiAll_bounds hv
  refine⟨hbd,?_⟩
  dsimp only
  rw[TW]
  by_cases he:itoaS (atoiS w).1=w
  ·rw[gB he,aC (by simp)]
   rw[aA ⟨hc2.1,hc2.2.1,hc2.2.2,he⟩]at hn
   exact hb _ hn.symm
  ·rw[DO he,aA (by rfl)]
   rw[aC (fun k=>he k.2.2.2)]at hn
   rw[<- hn]at h;exact h
theorem V1 (l:List bG)(i:Nat)(h:i<l.length):(l.map B).getD i ByteArray.empty=B (l.getD i []):=by
 simp only[cH,b8,aM h,Option.map_some,Option.getD_some]
theorem aCe {s:ByteArray}{Q:(ByteArray×List Int)×Bool->Prop}(hs:s.size<=1000000)(h:Q (match cA s.data.toList with
 | some (w,ns)=>((B w,ns),true)
 | none=>((ByteArray.empty,[]),false))):yE s Q:=by
 refine⟨⟨⟨by omega,by decide⟩,?_⟩⟩
 rw[V3]
 have hlen:s.data.toList.length=s.size:=rfl
 have h1:=XG 32 s.data.toList
 have hw:=RE 32 s.data.toList
 unfold cA at h
 cases hsp:spl 32 s.data.toList with
 | nil=>exact absurd hsp (US 32 _)
 | cons w r =>
   rw[hsp]at h h1 hw
   simp only at h
   simp only[List.length_cons]at h1
   simp only[List.map_cons]
   refine⟨by simp,⟨trivial,by omega,by simp;omega,by omega⟩,?_⟩
   have e:((B w::r.map B).take (((B w::r.map B).length:Int)).toNat).drop ((1:Int)).toNat=r.map B:=by
    rw[gZ,kK]
    rfl
   rw[e]
   refine⟨?_⟩
   refine Loop.range (B:=mS (r.map B) ((r.map B).length:Int) (fun y10=>Q (((B w::r.map B).getD 0 ByteArray.empty,y10),true)) (fun y11=>Q ((y11,([]:List Int)),false))) r.length
    (fun i=>((i:Int),((mH (r.take i)).getD []))) (fun i=>∃ l,mH (r.take i)=some l) ⟨[],by simp[mH]⟩ ?_ ?_
   ·intro i hi ⟨l,hl⟩ X hX
    unfold mS
    simp only[e8,Int.toNat_natCast]
    rw[aA (gB (show(i:Int)<(r.length:Int) by omega))]
    refine⟨by omega,?_⟩
    simp only[V1 r i hi]
    have hwi:r.getD i []∈w::r:=by
     rw[cH,aM hi]
     exact dA _ (lO hi)
    have hsz:=hw _ hwi
    have hne:mH (r.take (i+1))=match DP (r.getD i [])with
     | some n=>some (l++[n])
     | none=>none:=by
     rw[List.take_add_one,EC,hl,cH,aM hi]
     simp only[Option.getD_some,Option.toList_some,mH]
     cases DP r[i] <;> rfl
    have hll:=N2 hl
    have hnext:∀ n,DP (r.getD i [])=some n->ck ((l.length+[n].length)*8<=140737488355328) (X (i64.wrap ((i:Int)+1),l++[n])):=by
     intro n hn
     rw[hn]at hne
     refine⟨by rw[hll];simp;omega,?_⟩
     have:=hX ⟨_,hne⟩
     rw[oJ _]
     rw[hne]at this
     exact this
    simp only[hl,Option.getD_some]
    refine aFi (w:=B (r.getD i [])) (K1:=Q ((ByteArray.empty,([]:List Int)),false)) (K0:=fun n=>ck ((l.length+[n].length)*8<=140737488355328) (X (i64.wrap ((i:Int)+1),l++[n]))) (by rw[iG];omega) ?_ ?_
    ·rw[BC]
     cases hd:DP (r.getD i [])with
     | some n=>exact hnext n hd
     | none =>
       have:mH r=none:=by
        rw[<- nV (i+1) r,EC,hne,hd]
       rw[this]at h
       exact h
    ·intro n hn
     rw[BC]at hn
     exact hnext n hn
   ·intro ⟨l,hl⟩ X
    unfold mS
    simp only[e8]
    rw[aC (by simp)]
    rw[kK]at hl
    simp only[kK]
    rw[hl]at h⊢
    exact h
end Go.Proofs.YtpigepmgheabhaaGreatDoor

namespace Go.Proofs.YtpigepmgheabhaaGreatDoor
open Go.Mach
set_option maxRecDepth 100000
set_option linter.unusedVariables false
set_option linter.unusedSimpArgs false
def uL:bG:=[100,101,110,115,101]
def C0:bG:=[99,111,110,118]
def UA:bG:=[109,97,120]
def U8:bG:=[97,118,103]
def N0:bG:=[114,101,108,117]
def OL:bG:=[102,108,97,116]
def WO:bG:=[97,100,100]
def wIn:bG:=[105,110]
def wFz:bG:=[32,102,114,111,122,101,110]
theorem tst (a b:bG):((B a).toList==(B b).toList)=decide (a=b):=by
 rw[TW,Bool.eq_iff_iff,decide_eq_true_iff,decide_eq_true_iff]
 exact⟨aHX,fun e=>by rw[e]⟩
def GR (l:bG):bG×Bool:=if 7<=l.length/\l.drop (l.length-7)=wFz then(l.take (l.length-7),true)else(l,false)
theorem aG5 {s:ByteArray}{Q:ByteArray×Bool->Prop}(hs:s.size<=1000000)(h:Q (B (GR s.data.toList).1,(GR s.data.toList).2)):nI s jM Q:=by
 have hl:s.data.toList.length=s.size:=rfl
 have h7:jM.size=7:=rfl
 refine⟨⟨⟨?_⟩⟩⟩
 unfold jn
 dsimp only
 rw[h7]
 unfold GR at h
 by_cases h1:7<=s.data.toList.length
 ·rw[aA (gB (by omega)),oJ _]
  have e1:((s.size:Int)-((7:Nat):Int)).toNat=s.data.toList.length-7:=by omega
  refine⟨⟨trivial,by omega,by omega,by omega⟩,?_⟩
  rw[e1,gZ,kK]
  have et:((⟨(s.data.toList.drop (s.data.toList.length-7)).toArray⟩:ByteArray).toList==jM.toList)=decide (s.data.toList.drop (s.data.toList.length-7)=wFz):=tst _ wFz
  rw[et]
  by_cases h2:s.data.toList.drop (s.data.toList.length-7)=wFz
  ·rw[gB h2,aC (by simp)]
   rw[aA ⟨h1,h2⟩]at h
   refine⟨⟨trivial,by omega,by omega,by omega⟩,?_⟩
   rw[Int.toNat_zero,EJ]
   exact h
  ·rw[DO h2,aA (by rfl)]
   rw[aC (fun k=>h2 k.2)]at h
   exact h
 ·rw[aC (by simp;omega),aA (by rfl)]
  rw[aC (fun k=>h1 k.1)]at h
  exact h
def QC (w:bG)(ns:List Int)(fz:Bool):Option Lay :=
 if fz=true/\w≠uL/\w≠C0 then none
 else if w=uL then(match ns with
  | [a]=>some (1,a,0,0,0,0,fz)
  | _=>none)
 else if w=C0 then(match ns with
  | [a,b,c,d]=>some (2,a,b,c,d,0,fz)
  | _=>none)
 else if w=UA then(match ns with
  | [a,b]=>some (3,0,a,b,0,0,fz)
  | _=>none)
 else if w=U8 then(match ns with
  | [a,b]=>some (4,0,a,b,0,0,fz)
  | _=>none)
 else if w=N0 then(match ns with
  | []=>some (5,0,0,0,0,0,fz)
  | _=>none)
 else if w=OL then(match ns with
  | []=>some (6,0,0,0,0,0,fz)
  | _=>none)
 else if w=WO then(match ns with
  | [a]=>some (7,0,0,0,0,a,fz)
  | _=>none)
 else none
def IQ (l:bG):Option Lay :=
 match cA (GR l).1 with
 | some (w,ns)=>QC w ns (GR l).2
 | none=>none
def aGZ (o:Option Lay):Lay×Bool :=
 match o with
 | some x=>(x,true)
 | none=>(C3,false)
theorem aDD {s:ByteArray}{Q:Lay×Bool->Prop}(hs:s.size<=1000000)(h:Q (aGZ (IQ s.data.toList))):xC s Q:=by
 refine⟨aG5 hs ?_⟩
 have hsz:(B (GR s.data.toList).1).size<=1000000:=by
  rw[iG]
  have hl:s.data.toList.length=s.size:=rfl
  unfold GR
  split
  ·rw[eI];omega
  ·show s.data.toList.length<=_;omega
 refine aCe hsz ?_
 rw[BC]
 unfold IQ at h
 generalize (GR s.data.toList).2=fz at h
 cases hc:cA (GR s.data.toList).1 with
 | none =>
   rw[hc]at h
   rw[aA (by rfl)]
   exact h
 | some p =>
   obtain⟨w,ns⟩:=p
   rw[hc]at h
   simp only at h
   simp only[show oH=B uL from rfl,show(⟨#[99,111,110,118]⟩:ByteArray)=B C0 from rfl,show(⟨#[109,97,120]⟩:ByteArray)=B UA from rfl,show(⟨#[97,118,103]⟩:ByteArray)=B U8 from rfl,
    show(⟨#[114,101,108,117]⟩:ByteArray)=B N0 from rfl,show(⟨#[102,108,97,116]⟩:ByteArray)=B OL from rfl,show(⟨#[97,100,100]⟩:ByteArray)=B WO from rfl,tst,cK]
   unfold QC at h
   by_cases hf:fz=true/\w≠uL/\w≠C0
   ·rw[aA hf]at h
    rw[aA (by simp[hf.1,hf.2.1,hf.2.2])]
    exact h
   rw[aC hf]at h
   rw[aC (by
    intro k
    simp only[Bool.not_true,Bool.false_or,aH,AP,decide_eq_false_iff_not]at k
    exact hf ⟨k.1.1,k.1.2,k.2⟩)]
   have none_:∀ {k:Int} {m:Nat},ns.length≠m->(((k==0)||((ns.length:Int) != (m:Int)))=true):=fun hm=>by
    rw[iX];right;simp;omega
   by_cases h1:w=uL
   ·rw[aA h1]at h⊢
    rcases ns with _|⟨a,_|⟨b,r⟩⟩
    ·rw[aA (by rfl)];exact h
    ·rw[aC (by simp)];exact⟨by simp,h⟩
    ·rw[aA (by simp;omega)];exact h
   rw[aC h1]at h⊢
   by_cases h2:w=C0
   ·rw[aA h2]at h⊢
    rcases ns with _|⟨a,_|⟨b,_|⟨c,_|⟨d,_|⟨e,r⟩⟩⟩⟩⟩
    ·rw[aA (by rfl)];exact h
    ·rw[aA (by rfl)];exact h
    ·rw[aA (by rfl)];exact h
    ·rw[aA (by rfl)];exact h
    ·rw[aC (by simp)];exact⟨by simp,by simp,by simp,by simp,h⟩
    ·rw[aA (by simp;omega)];exact h
   rw[aC h2]at h⊢
   by_cases h3:w=UA
   ·rw[aA h3]at h⊢
    rcases ns with _|⟨a,_|⟨b,_|⟨c,r⟩⟩⟩
    ·rw[aA (by rfl)];exact h
    ·rw[aA (by rfl)];exact h
    ·rw[aC (by simp)];exact⟨by simp,by simp,h⟩
    ·rw[aA (by simp;omega)];exact h
   rw[aC h3]at h⊢
   by_cases h4:w=U8
   ·rw[aA h4]at h⊢
    rcases ns with _|⟨a,_|⟨b,_|⟨c,r⟩⟩⟩
    ·rw[aA (by rfl)];exact h
    ·rw[aA (by rfl)];exact h
    ·rw[aC (by simp)];exact⟨by simp,by simp,h⟩
    ·rw[aA (by simp;omega)];exact h
   rw[aC h4]at h⊢
   by_cases h5:w=N0
   ·rw[aA h5]at h⊢
    rcases ns with _|⟨a,r⟩
    ·rw[aC (by simp)];exact h
    ·rw[aA (by simp;omega)];exact h
   rw[aC h5]at h⊢
   by_cases h6:w=OL
   ·rw[aA h6]at h⊢
    rcases ns with _|⟨a,r⟩
    ·rw[aC (by simp)];exact h
    ·rw[aA (by simp;omega)];exact h
   rw[aC h6]at h⊢
   by_cases h7:w=WO
   ·rw[aA h7]at h⊢
    rcases ns with _|⟨a,_|⟨b,r⟩⟩
    ·rw[aA (by rfl)];exact h
    ·rw[aC (by simp)];exact⟨by simp,h⟩
    ·rw[aA (by simp;omega)];exact h
   rw[aC h7]at h⊢
   rw[aA (by simp)]
   exact h
def EK (l:bG):Option (Int×Int×Int) :=
 match cA l with
 | some (w,[a,b,c])=>if w=wIn/\mJ (a,b,c)=true then some (a,b,c)else none
 | _=>none
def aGq (o:Option (Int×Int×Int)):(Int×Int×Int)×Bool :=
 match o with
 | some x=>(x,true)
 | none=>((0,0,0),false)
theorem aDS {s:ByteArray}{Q:(Int×Int×Int)×Bool->Prop}(hs:s.size<=1000000)(h:Q (aGq (EK s.data.toList))):vW s Q:=by
 refine⟨aCe hs ?_⟩
 unfold EK at h
 unfold jn
 dsimp only
 cases hc:cA s.data.toList with
 | none =>
   rw[hc]at h
   rw[aA (by rfl),aA rfl]
   exact h
 | some p =>
   obtain⟨w,ns⟩:=p
   rw[hc]at h
   simp only at h⊢
   simp only[show(⟨#[105,110]⟩:ByteArray)=B wIn from rfl,tst]
   by_cases hw:w=wIn
   ·rcases ns with _|⟨a,_|⟨b,_|⟨c,_|⟨d,r⟩⟩⟩⟩
    ·rw[aA (by simp),aA trivial];exact h
    ·rw[aA (by simp),aA trivial];exact h
    ·rw[aA (by simp),aA trivial];exact h
    ·rw[aC (by simp[hw])]
     refine⟨by simp,⟨by simp,RS ?_⟩⟩
     simp only[List.getD_cons_zero,List.getD_cons_succ]
     dsimp only at h
     cases he:mJ (a,b,c)with
     | true =>
       rw[aA ⟨hw,he⟩]at h
       rw[aC (by simp)]
       exact⟨by simp,⟨by simp,h⟩⟩
     | false =>
       rw[aC (fun k=>by rw[he]at k;cases k.2)]at h
       rw[aA (by rfl)]
       exact h
    ·rw[aA (by simp;omega),aA trivial];exact h
   ·rw[aA (by simp[hw]),aA trivial]
    rcases ns with _|⟨a,_|⟨b,_|⟨c,_|⟨d,r⟩⟩⟩⟩
    ·exact h
    ·exact h
    ·exact h
    ·dsimp only at h;rw[aC (fun k=>hw k.1)]at h;exact h
    ·exact h
end Go.Proofs.YtpigepmgheabhaaGreatDoor

namespace Go.Proofs.YtpigepmgheabhaaGreatDoor
open IntKind (i8 i16 i32 i64 u8 u16 u32 u64)
open Go.Mach
set_option maxRecDepth 100000
set_option linter.unusedVariables false
set_option linter.unusedSimpArgs false
def mz:Mdl:=((0,0,0),[])
def XN (a:bG)(k:Nat):Option Lay :=
 match IQ a with
 | some x=>if qY x k=true then some x else none
 | none=>none
def goF:Nat->bG->Nat->(Int×Int×Int)->List Lay->Mdl×Int×Int
 | 0,_,n,_,_=>(mz,(n:Int)+1,5)
 | k+1,l,n,i,ls =>
   if l=[]/\2<=n then((i,ls),0,0)
   else match brk 10 l with
    | none=>(mz,(n:Int)+1,5)
    | some (a,r) =>
      if n=0 then(match EK a with
       | none=>(mz,(n:Int)+1,5)
       | some i'=>goF k r 1 i' ls)
      else match XN a ls.length with
       | none=>(mz,(n:Int)+1,5)
       | some x=>if ls.length=12 then(mz,(n:Int)+1,10)else goF k r (n+1) i (ls++[x])
def o9 (l:bG):Mdl×Int×Int:=if 2000<l.length then(mz,0,10)else goF (l.length+1) l 0 (0,0,0) []
theorem YA {c:UInt8}:∀ {l a r:bG},brk c l=some (a,r)->a.length+1+r.length=l.length
 | [],a,r,h=>by cases h
 | x::l,a,r,h=>by
   unfold brk at h
   split at h
   ·cases h;simp;omega
   ·split at h
    ·rename_i h1
     cases h
     have:=YA h1
     simp;omega
    ·cases h
theorem aDK {s:ByteArray}{Q:Mdl×Int×Int->Prop}(h:Q (o9 s.data.toList)):xD s Q:=by
 have hl:s.data.toList.length=s.size:=rfl
 refine⟨?_⟩
 unfold o9 at h
 by_cases h1:2000<s.data.toList.length
 ·rw[aA h1]at h
  rw[aA (gB (by omega))]
  exact⟨h⟩
 rw[aC h1]at h
 rw[aC (by simp;omega)]
 refine⟨?_⟩
 refine Loop.inv (fun k st=>∃ (l:bG) (n:Nat) (i:Int×Int×Int) (x:Lay) (ls:List Lay),st=(B l,(n:Int),i.1,i.2.1,i.2.2,x.1,x.2.1,x.2.2.1,x.2.2.2.1,x.2.2.2.2.1,x.2.2.2.2.2.1,x.2.2.2.2.2.2,ls) /\
  l.length<k/\n+l.length<=2000/\ls.length<=12/\Q (goF k l n i ls)) (n:=s.data.toList.length+1) ⟨s.data.toList,0,(0,0,0),C3,[],rfl,by omega,by omega,by simp,h⟩ ?_
 rintro k st X ⟨l,n,i,x,ls,rfl,hk,hb,hls,hQ⟩ hX
 cases k with
 | zero=>omega
 | succ k =>
 have hnb:n<=2000:=by omega
 have hw:i64.wrap ((n:Int)+1)=(n:Int)+1:=oJ _
 unfold tS
 dsimp only
 rw[show(⟨#[]⟩:ByteArray)=B []from rfl,tst,hw]
 unfold goF at hQ
 by_cases he:l=[]/\2<=n
 ·rw[aA he]at hQ
  rw[aA (by simp[he.1];omega)]
  exact hQ
 rw[aC he]at hQ
 rw[aC (by
  intro k
  simp only[aH,cK]at k
  exact he ⟨k.1,by omega⟩)]
 refine⟨by rw[iG];omega,?_⟩
 rw[aCd,BC]
 cases hbr:brk 10 l with
 | none =>
   rw[hbr]at hQ
   rw[aA (by rfl)]
   exact⟨hQ⟩
 | some p =>
   obtain⟨a,r⟩:=p
   have hlen:=YA hbr
   rw[hbr]at hQ
   simp only at hQ
   rw[aC (by simp)]
   by_cases hn:n=0
   ·subst hn
    rw[aA rfl]at hQ
    rw[aA (by rfl)]
    refine aDS (by rw[iG];omega) ?_
    rw[BC]
    cases hf:EK a with
    | none =>
      rw[hf]at hQ
      rw[aA (by rfl)]
      exact⟨hQ⟩
    | some i' =>
      rw[hf]at hQ
      rw[aC (by simp[aGq])]
      exact hX k _ (by omega) ⟨r,1,i',x,ls,rfl,by omega,by omega,hls,hQ⟩
   ·rw[aC hn]at hQ
    rw[aC (by simp;omega)]
    refine aDD (by rw[iG];omega) ?_
    rw[BC]
    unfold jn
    dsimp only
    unfold XN at hQ
    cases hf:IQ a with
    | none =>
      rw[hf]at hQ
      rw[aA (by rfl),aA rfl]
      exact⟨hQ⟩
    | some y =>
      rw[hf]at hQ
      rw[aC (by simp[aGZ])]
      refine aBi ?_
      show if (!qY y (ls.length:Int))=true then _ else _
      cases hm:qY y (ls.length:Int)with
      | false =>
        simp only[hm,eK,aS]at hQ
        rw[aA (by rfl)]
        exact⟨hQ⟩
      | true =>
        simp only[hm,aO]at hQ
        rw[aC (by simp)]
        by_cases h12:ls.length=12
        ·rw[aA h12]at hQ
         rw[aA (by simp[h12])]
         exact⟨hQ⟩
        ·rw[aC h12]at hQ
         rw[aC (by simp;omega)]
         refine⟨by simp;omega,?_⟩
         exact hX k _ (by omega) ⟨r,n+1,i,y,ls++[y],rfl,by omega,by omega,by simp;omega,hQ⟩
theorem HG {c:UInt8}:∀ {l a r:bG},brk c l=some (a,r)->l=a++c::r/\c∉a
 | [],a,r,h=>by cases h
 | x::l,a,r,h=>by
   unfold brk at h
   split at h
   ·rename_i hx;cases h;rw[hx];exact⟨rfl,by simp⟩
   ·rename_i hx
    split at h
    ·rename_i h1
     cases h
     obtain⟨e1,e2⟩:=HG h1
     exact⟨by rw[e1];rfl,fun k=>by
      rcases List.mem_cons.1 k with k|k
      ·exact hx k.symm
      ·exact e2 k⟩
    ·cases h
theorem JD (a b:bG):B a++B b=B (a++b):=by
 have h:∀ x y:ByteArray,x.data=y.data->x=y:=fun x y e=>by cases x;cases y;cases e;rfl
 apply h
 rw[ByteArray.data_append]
 show a.toArray++b.toArray=(a++b).toArray
 simp
def I64 (n:Int):Prop := -9223372036854775808<=n/\n<=9223372036854775807
def jG (l:List Int):bG:=l.flatMap fun n=>32::Lib.itoa n
theorem l9:∀ (l:List Int),(∀ n∈l,I64 n)->(jG l).length<=22*l.length
 | [],_=>by simp[jG]
 | n::l,h=>by
   have ih:=l9 l (fun x hx=>h x (by simp[hx]))
   have hn:=h n (by simp)
   have:=Lib.itoa_length_le n hn.1 hn.2
   unfold jG at ih⊢
   simp only[jA,aR,List.length_cons]
   omega
theorem qG {w:bG}{l:List Int}{Q:ByteArray->Prop}(hw:w.length<=1000)(hl:l.length<=100)(hn:∀ n∈l,I64 n)(h:Q (B (w++jG l))):fO (B w) l Q:=by
 refine⟨⟨?_⟩⟩
 have e0:(B w,(0:Int))=(B (w++jG (l.take 0)),((0:Nat):Int)):=by simp[jG]
 rw[e0]
 refine Loop.range (B:=iK l (l.length:Int) (fun y2=>Q y2)) l.length (fun i=>(B (w++jG (l.take i)),(i:Int))) (fun i=>True) trivial ?_ ?_
 ·intro i hi _ X hX
  unfold iK
  rw[aA (gB (show(i:Int)<(l.length:Int) by omega))]
  refine⟨by simp only;omega,?_⟩
  dsimp only
  rw[gZ]
  have hm:l.getD i 0∈l:=by
   rw[cH,aM hi]
   exact lO hi
  have h1:=hn _ hm
  have h2:=Lib.itoa_length_le _ h1.1 h1.2
  have h3:=l9 (l.take i) (fun n hx=>hn n (List.mem_of_mem_take hx))
  rw[eI]at h3
  refine⟨h1,?_⟩
  have e:itoaS (l.getD i 0)=B (Lib.itoa (l.getD i 0)):=rfl
  have e32:(⟨#[32]⟩:ByteArray)=B [32]:=rfl
  rw[e]
  dsimp only
  rw[e32,JD,JD]
  refine⟨by rw[iG,iG];simp only[List.length_cons,List.length_nil];omega,?_⟩
  refine⟨by rw[iG,iG,aR,aR];simp only[List.length_cons,List.length_nil];omega,?_⟩
  rw[oJ _]
  have:=hX trivial
  have e2:jG (l.take (i+1))=jG (l.take i)++([32]++Lib.itoa (l.getD i 0)):=by
   have eg:l.getD i 0=l[i]:=by rw[cH,aM hi];rfl
   unfold jG
   rw[eg,List.take_add_one,aM hi,pG]
   simp only[Option.toList_some,jA,List.flatMap_nil,bJ]
   rfl
  rw[e2,<- bM]at this
  exact this
 ·intro _ X
  unfold iK
  rw[aC (by simp)]
  rw[kK]
  exact h
def tI (x:Lay):bG :=
 (if x.1=1 then uL++jG [x.2.1]else if x.1=2 then C0++jG [x.2.1,x.2.2.1,x.2.2.2.1,x.2.2.2.2.1]else if x.1=3 then UA++jG [x.2.2.1,x.2.2.2.1]
  else if x.1=4 then U8++jG [x.2.2.1,x.2.2.2.1]else if x.1=5 then N0 else if x.1=6 then OL else if x.1=7 then WO++jG [x.2.2.2.2.2.1]else [])
 ++ (if x.2.2.2.2.2.2=true then wFz else [])
def rG (x:Lay):bG:=tI x++[10]
def Sm (n:Int):Prop:=0<=n/\n<=9999
theorem Sm.i64 {n:Int}(h:Sm n):I64 n:=⟨by have:=h.1;omega,by have:=h.2;omega⟩
def M5 (x:Lay):Prop:=(1<=x.1/\x.1<=7)/\Sm x.2.1/\Sm x.2.2.1/\Sm x.2.2.2.1/\Sm x.2.2.2.2.1/\Sm x.2.2.2.2.2.1
theorem aEy {x:Lay}{n:Nat}(hn:n<=1000)(h:qY x n=true):M5 x:=by
 obtain⟨kd,ou,k,st,pd,fr,fz⟩:=x
 unfold qY Z4 inP at h
 unfold M5 Sm
 dsimp only at h⊢
 have hw:∀ a:Int,1<=a->a<=5->i64.wrap (a-1)=a-1:=fun a h1 h2=>oJ _
 have hw2:i64.wrap ((n:Int)-1)=(n:Int)-1:=oJ _
 by_cases h1:kd=1
 ·rw[aA h1]at h
  simp only[aH,cK,eP]at h
  omega
 rw[aC h1]at h
 by_cases h2:kd=2
 ·rw[aA h2]at h
  simp only[aH,cK,eP]at h
  have:=hw k (by omega) (by omega)
  rw[this]at h
  omega
 rw[aC h2]at h
 by_cases h3:kd=3\/kd=4
 ·rw[aA h3]at h
  simp only[aH,cK,eP]at h
  omega
 rw[aC h3]at h
 by_cases h5:kd=5\/kd=6
 ·rw[aA h5]at h
  simp only[aH,cK,eP]at h
  omega
 rw[aC h5]at h
 by_cases h7:kd=7
 ·rw[aA h7,hw2]at h
  simp only[aH,cK,eP]at h
  omega
 rw[aC h7]at h
 cases h
theorem CZ {l:List Int}(h:∀ n∈l,Sm n):(jG l).length<=22*l.length:=l9 l (fun n hn=>(h n hn).i64)
theorem S6 {x:Lay}(h:M5 x):(tI x).length<=110:=by
 obtain⟨_,h1,h2,h3,h4,h5⟩:=h
 have e1:=CZ (l:=[x.2.1]) (by simpa using h1)
 have e2:=CZ (l:=[x.2.1,x.2.2.1,x.2.2.2.1,x.2.2.2.2.1]) (by simp;exact⟨h1,h2,h3,h4⟩)
 have e3:=CZ (l:=[x.2.2.1,x.2.2.2.1]) (by simp;exact⟨h2,h3⟩)
 have e4:=CZ (l:=[x.2.2.2.2.2.1]) (by simpa using h5)
 simp only[List.length_cons,List.length_nil]at e1 e2 e3 e4
 have l1:uL.length=5:=rfl
 have l2:C0.length=4:=rfl
 have l3:UA.length=3:=rfl
 have l4:U8.length=3:=rfl
 have l5:N0.length=4:=rfl
 have l6:OL.length=4:=rfl
 have l7:WO.length=3:=rfl
 have l8:wFz.length=7:=rfl
 unfold tI
 rw[aR]
 have hA:∀ b:Bool,(if b=true then wFz else []).length<=7:=fun b=>by cases b <;> simp[l8]
 have:=hA x.2.2.2.2.2.2
 split
 ·rw[aR];omega
 split
 ·rw[aR];omega
 split
 ·rw[aR];omega
 split
 ·rw[aR];omega
 split
 ·omega
 split
 ·omega
 split
 ·rw[aR];omega
 ·simp;omega
theorem IZ {b:bG}{fz:Bool}{K:ByteArray->Prop}(hb:b.length<=1000)(h:K (B ((b++(if fz=true then wFz else []))++[10]))):dX (B b) fz K:=by
 have e10:(⟨#[10]⟩:ByteArray)=B [10]:=rfl
 have ef:jM=B wFz:=rfl
 have l8:wFz.length=7:=rfl
 refine⟨?_⟩
 cases fz with
 | true =>
   rw[aA rfl]at h⊢
   rw[ef,JD]
   refine⟨by rw[iG,iG];omega,⟨?_⟩⟩
   rw[e10,JD]
   refine⟨by rw[iG,iG,aR];simp only[List.length_cons,List.length_nil];omega,h⟩
 | false =>
   rw[aC (by simp)]at h⊢
   rw[bJ]at h
   refine⟨?_⟩
   rw[e10,JD]
   exact⟨by rw[iG,iG];simp only[List.length_cons,List.length_nil];omega,h⟩
theorem aFJ {x:Lay}{Q:ByteArray->Prop}(hx:M5 x)(h:Q (B (rG x))):AY x Q:=by
 obtain⟨hk,h1,h2,h3,h4,h5⟩:=hx
 have s1:∀ n∈[x.2.1],I64 n:=by simpa using h1.i64
 have s2:∀ n∈[x.2.1,x.2.2.1,x.2.2.2.1,x.2.2.2.2.1],I64 n:=by simp;exact⟨h1.i64,h2.i64,h3.i64,h4.i64⟩
 have s3:∀ n∈[x.2.2.1,x.2.2.2.1],I64 n:=by simp;exact⟨h2.i64,h3.i64⟩
 have s4:∀ n∈[x.2.2.2.2.2.1],I64 n:=by simpa using h5.i64
 have e1:=l9 _ s1
 have e2:=l9 _ s2
 have e3:=l9 _ s3
 have e4:=l9 _ s4
 simp only[List.length_cons,List.length_nil]at e1 e2 e3 e4
 unfold rG tI at h
 refine⟨?_⟩
 rw[show oH=B uL from rfl,show(⟨#[99,111,110,118]⟩:ByteArray)=B C0 from rfl,show(⟨#[109,97,120]⟩:ByteArray)=B UA from rfl,show(⟨#[97,118,103]⟩:ByteArray)=B U8 from rfl,
    show(⟨#[114,101,108,117]⟩:ByteArray)=B N0 from rfl,show(⟨#[102,108,97,116]⟩:ByteArray)=B OL from rfl,show(⟨#[97,100,100]⟩:ByteArray)=B WO from rfl]
 by_cases k1:x.1=1
 ·rw[aA k1]at h
  rw[aA (by simp[k1])]
  exact qG (by decide) (by simp) s1 (IZ (by rw[aR];have:uL.length=5:=rfl;omega) h)
 rw[aC k1]at h
 rw[aC (by simp[k1])]
 by_cases k2:x.1=2
 ·rw[aA k2]at h
  rw[aA (by simp[k2])]
  exact qG (by decide) (by simp) s2 (IZ (by rw[aR];have:C0.length=4:=rfl;omega) h)
 rw[aC k2]at h
 rw[aC (by simp[k2])]
 by_cases k3:x.1=3
 ·rw[aA k3]at h
  rw[aA (by simp[k3])]
  exact qG (by decide) (by simp) s3 (IZ (by rw[aR];have:UA.length=3:=rfl;omega) h)
 rw[aC k3]at h
 rw[aC (by simp[k3])]
 by_cases k4:x.1=4
 ·rw[aA k4]at h
  rw[aA (by simp[k4])]
  exact qG (by decide) (by simp) s3 (IZ (by rw[aR];have:U8.length=3:=rfl;omega) h)
 rw[aC k4]at h
 rw[aC (by simp[k4])]
 by_cases k5:x.1=5
 ·rw[aA k5]at h
  rw[aA (by simp[k5])]
  exact IZ (by decide) h
 rw[aC k5]at h
 rw[aC (by simp[k5])]
 by_cases k6:x.1=6
 ·rw[aA k6]at h
  rw[aA (by simp[k6])]
  exact IZ (by decide) h
 rw[aC k6]at h
 rw[aC (by simp[k6])]
 have k7:x.1=7:=by omega
 rw[aA k7]at h
 rw[aA (by simp[k7])]
 exact qG (by decide) (by simp) s4 (IZ (by rw[aR];have:WO.length=3:=rfl;omega) h)
def HZ (i:Int×Int×Int):bG:=(wIn++jG [i.1,i.2.1,i.2.2])++[10]
def TN (m:Mdl):bG:=HZ m.1++m.2.flatMap rG
def TV (m:Mdl):bG×Int:=if zK m=true then(TN m,0)else([],1)
theorem aF9 {i:Int×Int×Int}(h:mJ i=true):Sm i.1/\Sm i.2.1/\Sm i.2.2:=by
 unfold mJ inP at h
 simp only[aH,cK]at h
 unfold Sm
 omega
theorem TY:∀ {l:List Lay},(∀ x∈l,M5 x)->(l.flatMap rG).length<=111*l.length
 | [],_=>by simp
 | x::l,h=>by
   have ih:=TY (l:=l) (fun y hy=>h y (by simp[hy]))
   have:=S6 (h x (by simp))
   simp only[jA,aR,rG,List.length_cons,List.length_nil]at ih⊢
   omega
theorem X5 {m:Mdl}(h:zK m=true):mJ m.1=true/\(1<=m.2.length/\m.2.length<=12)/\(∀ i,i<m.2.length->qY (m.2.getD i C3) i=true)/\∀ x∈m.2,M5 x:=by
 obtain⟨h1,h2,h3⟩:=Z6 h
 refine⟨?_,h2,h3,fun x hx => ?_⟩
 ·unfold zK at h
  simp only[aH]at h
  exact h.1.1
 ·obtain⟨i,hi,e⟩:=List.getElem_of_mem hx
  have:=h3 i hi
  rw[cH,aM hi]at this
  simp only[Option.getD_some]at this
  rw[e]at this
  exact aEy (by omega) this
theorem aDM {m:Mdl}{Q:ByteArray×Int->Prop}(hl:m.2.length<=10000000000000)(h:Q (B (TV m).1,(TV m).2)):AQ m Q:=by
 refine⟨aFE hl ?_⟩
 unfold TV at h
 cases hm:zK m with
 | false =>
   rw[hm]at h
   rw[aA (by rfl)]
   exact h
 | true =>
   rw[hm,aA rfl]at h
   rw[aC (by simp)]
   obtain⟨he,hlen,_,hsm⟩:=X5 hm
   obtain⟨s1,s2,s3⟩:=aF9 he
   have hs:∀ n∈[m.1.1,m.1.2.1,m.1.2.2],I64 n:=by simp;exact⟨s1.i64,s2.i64,s3.i64⟩
   have hnl:=l9 _ hs
   simp only[List.length_cons,List.length_nil]at hnl
   have l1:wIn.length=2:=rfl
   rw[show(⟨#[105,110]⟩:ByteArray)=B wIn from rfl]
   refine qG (by decide) (by simp) hs ?_
   rw[show(⟨#[10]⟩:ByteArray)=B [10]from rfl,JD]
   refine⟨by rw[iG,iG,aR];simp only[List.length_cons,List.length_nil];omega,⟨?_⟩⟩
   have e0:(B ((wIn++jG [m.1.1,m.1.2.1,m.1.2.2])++[10]),(0:Int))=(B (HZ m.1++(m.2.take 0).flatMap rG),((0:Nat):Int)):=by simp[HZ]
   rw[e0]
   refine Loop.range (B:=lK m.2 (m.2.length:Int) (fun y4=>Q (y4,0))) m.2.length (fun i=>(B (HZ m.1++(m.2.take i).flatMap rG),(i:Int))) (fun i=>True) trivial ?_ ?_
   ·intro i hi _ X hX
    unfold lK
    rw[aA (gB (show(i:Int)<(m.2.length:Int) by omega))]
    refine⟨by simp only;omega,?_⟩
    dsimp only
    rw[gZ]
    have hx:m.2.getD i C3∈m.2:=by
     rw[cH,aM hi]
     exact lO hi
    have hb:=S6 (hsm _ hx)
    have hf:=TY (l:=m.2.take i) (fun y hy=>hsm y (List.mem_of_mem_take hy))
    rw[eI]at hf
    refine aFJ (hsm _ hx) ?_
    rw[JD]
    have hL1:(rG (m.2.getD i C3)).length<=111:=by
     unfold rG
     rw[aR]
     simp only[List.length_cons,List.length_nil]
     omega
    have hH:(HZ m.1).length<=69:=by
     unfold HZ
     rw[aR,aR]
     simp only[List.length_cons,List.length_nil]
     omega
    refine⟨by
     rw[iG,iG,aR]
     show _+(rG (m.2.getD i C3)).length<=_
     omega,?_⟩
    rw[oJ _]
    have:=hX trivial
    have e2:(m.2.take (i+1)).flatMap rG=(m.2.take i).flatMap rG++rG (m.2.getD i C3):=by
     have eg:m.2.getD i C3=m.2[i]:=by rw[cH,aM hi];rfl
     rw[eg,List.take_add_one,aM hi,pG]
     simp only[Option.toList_some,jA,List.flatMap_nil,bJ]
    rw[e2,<- bM]at this
    exact this
   ·intro _ X
    unfold lK
    rw[aC (by simp)]
    rw[kK]
    exact h
end Go.Proofs.YtpigepmgheabhaaGreatDoor

namespace Go.Proofs.YtpigepmgheabhaaGreatDoor
open Go.Mach
set_option maxRecDepth 100000
set_option linter.unusedVariables false
set_option linter.unusedSimpArgs false
theorem P1 (c:UInt8):∀ (l:bG) (h:bG) (t:List bG),spl c l=h::t->l=h++t.flatMap (c :: ·)/\c∉h
 | [],h,t,e=>by
   simp only[spl,List.cons.injEq]at e
   obtain⟨rfl,rfl⟩:=e
   exact⟨rfl,by simp⟩
 | x::r,h,t,e=>by
   unfold spl at e
   split at e
   ·rename_i hx
    simp only[List.cons.injEq]at e
    obtain⟨rfl,rfl⟩:=e
    cases hs:spl c r with
    | nil=>exact absurd hs (US c r)
    | cons h' t' =>
      obtain⟨e1,e2⟩:=P1 c r h' t' hs
      refine⟨?_,by simp⟩
      rw[hx]
      simp only[List.nil_append,jA,List.cons_append]
      rw[<- e1]
   ·rename_i hx
    split at e
    ·rename_i hs;exact absurd hs (US c r)
    ·rename_i h' t' hs
     simp only[List.cons.injEq]at e
     obtain⟨rfl,rfl⟩:=e
     obtain⟨e1,e2⟩:=P1 c r h' _ hs
     refine⟨by rw[List.cons_append,<- e1],fun k => ?_⟩
     rcases List.mem_cons.1 k with k|k
     ·exact hx k.symm
     ·exact e2 k
theorem aDE {n:Int}(h:Sm n):Lib.itoa n=Lib.decDigits n.toNat:=by
 unfold Lib.itoa
 rw[aC (by have:=h.1;omega)]
theorem aAm {w:bG}{n:Int}(h:DP w=some n):w=Lib.itoa n/\Sm n:=by
 unfold DP at h
 split at h
 ·rename_i hc
  obtain⟨h1,h2,h3,h4⟩:=hc
  cases h
  have hv:=aGE w (G3 h3)
  have hp:10 ^ w.length<=10 ^ 4:=Nat.pow_le_pow_right (by omega) h2
  have hs:Sm (tM w:Int):=⟨by omega,by omega⟩
  refine⟨?_,hs⟩
  rw[aDE hs,gZ,SL h1 h3 h4]
 ·cases h
theorem MS:∀ {r:List bG} {ns:List Int},mH r=some ns->r=ns.map Lib.itoa/\∀ n∈ns,Sm n
 | [],ns,h=>by cases h;exact⟨rfl,by simp⟩
 | w::r,ns,h=>by
   simp only[mH]at h
   split at h
   ·rename_i n l h1 h2
    cases h
    obtain⟨e1,e2⟩:=MS h2
    obtain⟨g1,g2⟩:=aAm h1
    refine⟨by rw[List.map_cons,<- e1,<- g1],fun x hx => ?_⟩
    rcases List.mem_cons.1 hx with hx|hx
    ·rw[hx];exact g2
    ·exact e2 x hx
   ·cases h
theorem YN {l w:bG}{ns:List Int}(h:cA l=some (w,ns)):l=w++jG ns/\(∀ n∈ns,Sm n):=by
 unfold cA at h
 split at h
 ·rename_i w' r hs
  split at h
  ·rename_i ns' hn
   cases h
   obtain⟨e1,e2⟩:=P1 32 l w r hs
   obtain⟨g1,g2⟩:=MS hn
   refine⟨?_,g2⟩
   rw[e1,g1]
   unfold jG
   rw[List.flatMap_map]
  ·cases h
 ·cases h
theorem aDA (l:bG):l=(GR l).1++(if (GR l).2=true then wFz else []):=by
 unfold GR
 split
 ·rename_i h
  rw[aA rfl,<- h.2]
  exact(nV _ _).symm
 ·simp
theorem UL {w:bG}{ns:List Int}{fz:Bool}{x:Lay}(h:QC w ns fz=some x):tI x=(w++jG ns)++(if fz=true then wFz else []):=by
 unfold QC at h
 split at h
 ·cases h
 split at h
 ·rename_i hw;split at h
  ·cases h;rw[hw];simp[tI]
  ·cases h
 split at h
 ·rename_i hw;split at h
  ·cases h;rw[hw];simp[tI]
  ·cases h
 split at h
 ·rename_i hw;split at h
  ·cases h;rw[hw];simp[tI]
  ·cases h
 split at h
 ·rename_i hw;split at h
  ·cases h;rw[hw];simp[tI]
  ·cases h
 split at h
 ·rename_i hw;split at h
  ·cases h;rw[hw];simp[tI,jG]
  ·cases h
 split at h
 ·rename_i hw;split at h
  ·cases h;rw[hw];simp[tI,jG]
  ·cases h
 split at h
 ·rename_i hw;split at h
  ·cases h;rw[hw];simp[tI]
  ·cases h
 ·cases h
theorem aA5 {a:bG}{k:Nat}{x:Lay}(h:XN a k=some x):a=tI x/\qY x k=true:=by
 unfold XN at h
 split at h
 ·rename_i y hy
  split at h
  ·rename_i hm
   cases h
   refine⟨?_,hm⟩
   unfold IQ at hy
   split at hy
   ·rename_i w ns hc
    rw[UL hy,<- (YN hc).1]
    exact aDA a
   ·cases hy
  ·cases h
 ·cases h
theorem aAS {a:bG}{i:Int×Int×Int}(h:EK a=some i):a=wIn++jG [i.1,i.2.1,i.2.2]/\mJ i=true:=by
 unfold EK at h
 split at h
 ·rename_i w x y z hc
  split at h
  ·rename_i hw
   cases h
   refine⟨?_,hw.2⟩
   rw[<- hw.1]
   exact(YN hc).1
  ·cases h
 ·cases h
theorem aCJ:∀ (k:Nat) (l:bG) (n:Nat) (i:Int×Int×Int) (ls:List Lay) (p:Mdl) (N:Int),1<=n->ls.length<=12->goF k l n i ls=(p,N,0) ->
 ∃ xs:List Lay,p=(i,ls++xs)/\N=0/\l=xs.flatMap rG/\ls.length+xs.length<=12/\2<=n+xs.length/\∀ j,j<xs.length->qY (xs.getD j C3) ((ls.length+j:Nat):Int)=true
 | 0,l,n,i,ls,p,N,hn,hl,h=>by simp[goF]at h
 | k+1,l,n,i,ls,p,N,hn,hl,h=>by
   unfold goF at h
   split at h
   ·rename_i he
    cases h
    exact⟨[],by simp,rfl,by rw[he.1];rfl,by simpa using hl,by simpa using he.2,fun j hj=>by simp at hj⟩
   ·split at h
    ·simp at h
    ·rename_i a r hb
     obtain⟨e1,e2⟩:=HG hb
     split at h
     ·omega
     ·split at h
      ·simp at h
      ·rename_i x hx
       obtain⟨g1,g2⟩:=aA5 hx
       split at h
       ·simp at h
       ·rename_i h12
        obtain⟨xs,p1,p2,p3,p4,p5,p6⟩:=aCJ k r (n+1) i (ls++[x]) p N (by omega) (by simp;omega) h
        refine⟨x::xs,by rw[p1];simp,p2,?_,by simp at p4⊢;omega,by simp;omega,fun j hj => ?_⟩
        ·rw[e1,g1,p3]
         simp[rG]
        ·cases j with
         | zero=>exact g2
         | succ j =>
           have:=p6 j (by simpa using hj)
           rw[show(ls++[x]).length+j=ls.length+(j+1) by simp;omega]at this
           simpa using this
theorem Y0 {l:bG}{p:Mdl}{N:Int}(h:o9 l=(p,N,0)):zK p=true/\N=0/\l=TN p:=by
 unfold o9 at h
 split at h
 ·simp at h
 ·unfold goF at h
  rw[aC (fun k=>by have:=k.2;omega)]at h
  split at h
  ·simp at h
  ·rename_i a r hb
   obtain⟨e1,_⟩:=HG hb
   rw[aA rfl]at h
   split at h
   ·simp at h
   ·rename_i i hf
    obtain⟨g1,g2⟩:=aAS hf
    obtain⟨xs,p1,p2,p3,p4,p5,p6⟩:=aCJ _ r 1 i [] p N (by omega) (by simp) h
    rw[List.nil_append]at p1
    simp only[List.length_nil,e9]at p4 p6
    refine⟨?_,p2,?_⟩
    ·rw[p1]
     unfold zK KV
     rw[g2,aFF (by simp;omega) (by simp;omega)]
     simp only[lP,bW,qW]
     exact p6
    ·rw[p1,e1,g1,p3]
     simp[TN,HZ]
theorem aFv:∀ (k:Nat) (l:bG) (n:Nat) (i:Int×Int×Int) (ls:List Lay),(goF k l n i ls).2.2≠0->(goF k l n i ls).1=mz:=by
 intro k
 induction k with
 | zero=>intro l n i ls _;rfl
 | succ k ih =>
   intro l n i ls
   unfold goF
   split
   ·intro h;exact absurd rfl h
   ·split
    ·intro _;rfl
    ·split
     ·split
      ·intro _;rfl
      ·exact ih _ _ _ _
     ·split
      ·intro _;rfl
      ·split
       ·intro _;rfl
       ·exact ih _ _ _ _
theorem Z2 {l:bG}(h:(o9 l).2.2≠0):(o9 l).1=mz:=by
 unfold o9 at h⊢
 split
 ·rfl
 ·rename_i k
  rw[aC k]at h
  exact aFv _ _ _ _ _ h
end Go.Proofs.YtpigepmgheabhaaGreatDoor

namespace Go.Proofs.YtpigepmgheabhaaGreatDoor
open Go.Mach
set_option linter.unusedVariables false
set_option linter.unusedSimpArgs false
theorem aGf:∀ (k:Nat) (l:bG) (n:Nat) (i:Int×Int×Int) (ls:List Lay),(goF k l n i ls).2.2=0\/(goF k l n i ls).2.2=5\/(goF k l n i ls).2.2=10
 | 0,l,n,i,ls => .inr (.inl rfl)
 | k+1,l,n,i,ls=>by
   unfold goF
   repeat' split
   all_goals first|exact .inl rfl|exact .inr (.inl rfl)|exact .inr (.inr rfl)|exact aGf k _ _ _ _
theorem aDy (l:bG):(o9 l).2.2=0\/(o9 l).2.2=5\/(o9 l).2.2=10:=by
 unfold o9
 split
 ·exact .inr (.inr rfl)
 ·exact aGf (l.length+1) l 0 (0,0,0) []
theorem aES {Q:Bool->Prop}(hq:Q true):iH Q:=⟨trivial,hq⟩
theorem Z0 {a:ByteArray}{b c:List Int}(hb:Byt b)(hc:Byt c){Q:Bool->Prop}(hq:Q true):f7 a b c Q:=by
 refine⟨?_⟩
 by_cases hl:((decide (2100<(a.size:Int))||decide (4000<(b.length:Int)))||decide (4000<(c.length:Int)))=true
 ·rw[aA hl];exact aES hq
 rw[aC hl]
 simp only[iX,cK,not_or]at hl
 have h2:eY fun y=>Q y:=⟨aES hq⟩
 have h1:eV c fun y=>Q y:=by
  refine⟨aAD hc (by omega) (fun s hs => ?_) (fun e he => ?_)⟩
  ·rw[aA (by simp)]
   refine hs _ ?_
   rw[aC (by simp)]
   exact h2
  ·rw[aC (by rcases he with rfl|rfl <;> decide),aC (by rcases he with rfl|rfl <;> decide)]
   exact h2
 have h0:eS b c fun y=>Q y:=by
  refine⟨SM hb (by omega) (fun s hs => ?_) (fun e he => ?_)⟩
  ·rw[aA (by simp)]
   refine hs _ ?_
   rw[aC (by simp)]
   exact h1
  ·rw[aC (by rcases he with rfl|rfl <;> decide),aC (by rcases he with rfl|rfl <;> decide)]
   exact h1
 refine aDK ?_
 have hpe:=aDy a.data.toList
 cases hp:o9 a.data.toList with
 | mk p Ne =>
 obtain⟨N,e⟩:=Ne
 rw[hp]at hpe
 dsimp only at hpe⊢
 by_cases he:e=0
 ·subst he
  obtain⟨g1,g2,g3⟩:=Y0 hp
  rw[aA (by simp)]
  have hlen:=(X5 g1).2.1
  refine aDM (by omega) ?_
  have ht:TV p=(TN p,0):=by unfold TV;rw[aA g1]
  rw[ht]
  dsimp only
  have hs:a=B (TN p):=by rw[<- g3];rfl
  rw[g2,<- hs,aC (by simp)]
  exact h0
 ·rw[aC (by simpa using he)]
  have:=Z2 (l:=a.data.toList) (by rw[hp];exact he)
  rw[hp]at this
  dsimp only at this
  rw[this]
  have h5:e=5\/e=10:=by rcases hpe with h|h|h;exact absurd h he;exact .inl h;exact .inr h
  rw[aC (by rcases h5 with rfl|rfl <;> simp[mz])]
  exact h0
end Go.Proofs.YtpigepmgheabhaaGreatDoor
