/- Part of the proof. No condition. -/
import Derived.Test.YtcfpfefadlnmcaaGreatZ37
import Derived.Test.YtcfpfefadlnmcaaGreatZ38
import Derived.Test.YtcfpfefadlnmcaaGreatZ36
import Derived.Test.YtcfpfefadlnmcaaGreatYVTold
namespace Go.Proofs.YtcfpfefadlnmcaaGreat
open Go.Mach Go.RowKit
set_option maxRecDepth 100000
set_option linter.unusedVariables false
set_option linter.unusedSimpArgs false
theorem aD3 {a b:List Int}{Q:List Int->Prop}(h1:1<=a.length)(h2:a.length<=1000000)(h3:b.length<=1000000)(h:Q (a++b)):jB [a,b] Q:=by
 have key:oE ((a.length:Int)+b.length) (fun r3=>j8 [a,b] (([a,b]:List (List Int)).length:Int) (fun y4=>Q y4) (0,r3)):=by
  refine⟨⟨by omega,by omega⟩,⟨?_⟩⟩
  refine Loop.range (B:=nJ [a,b] (([a,b]:List (List Int)).length:Int) _) 2 (fun i=>((i:Int),([a,b].take i).flatten)) (fun _=>True) trivial ?_ ?_
  ·intro i hi _ X hX
   have hX:=hX trivial
   match i,hi with
   | 0,_ =>
     refine⟨by simp,by simp;omega,?_⟩
     rw[aA _ (by simp) (by simp)]
     simpa using hX
   | 1,_ =>
     refine⟨by simp,by simp;omega,?_⟩
     rw[aA _ (by simp) (by simp)]
     simpa using hX
  ·intro _ X
   show Q ([a,b].take 2).flatten
   simpa using h
 refine⟨⟨?_⟩⟩
 refine Loop.range (B:=mZ [a,b] (([a,b]:List (List Int)).length:Int) _) 2 (fun i=>((match i with|0=>0|1=>(a.length:Int)|_=>(a.length:Int)+b.length),(i:Int))) (fun _=>True) trivial ?_ ?_
 ·intro i hi _ X hX
  have hX:=hX trivial
  match i,hi with
  | 0,_ =>
    refine⟨by simp,?_⟩
    show(if decide (IntKind.i64.wrap (0+(a.length:Int))<0)=true then False else gH 0 (fun y1=>X (IntKind.i64.wrap (0+(a.length:Int)),y1)))
    rw[Int.zero_add,aA _ (by omega) (by omega),if_neg (by simp)]
    exact⟨hX⟩
  | 1,_ =>
    refine⟨by simp,?_⟩
    show(if decide (IntKind.i64.wrap ((a.length:Int)+(b.length:Int))<0)=true then False else gH 1 (fun y1=>X (IntKind.i64.wrap ((a.length:Int)+(b.length:Int)),y1)))
    rw[aA _ (by omega) (by omega),if_neg (by simp;omega)]
    exact⟨hX⟩
 ·intro _ X
  exact key
theorem aGG {l:List T3}{Q:Bool->Prop}(hl:l.length<=10000000000000)(h:Q (l.any fun t => !cL t)):aV l Q:=by
 refine⟨⟨⟨?_⟩⟩⟩
 refine Loop.range (B:=aH l (l.length:Int) _ _) l.length (fun i=>(i:Int)) (fun i=>∀ j,j<i->cL (l.getD j Z3)=true) (fun j hj=>absurd hj (by omega)) ?_ ?_
 ·intro i hi hI X hX
  unfold aH
  rw[if_pos (decide_eq_true (show(i:Int)<(l.length:Int) by omega))]
  refine⟨by omega,⟨kG ?_⟩⟩
  simp only[Int.toNat_natCast]
  cases hb:cL (l.getD i Z3)with
  | false =>
    rw[if_pos (by rfl)]
    have:(l.any fun t => !cL t)=true:=by
     rw[List.any_eq_true]
     refine⟨l[i],List.getElem_mem _,?_⟩
     rw[List.getD_eq_getElem?_getD,List.getElem?_eq_getElem hi]at hb
     rw[show cL l[i]=false from hb];rfl
    rw[this]at h
    rw[decide_eq_true (show(0:Int)<=(i:Int) by omega)]
    exact h
  | true =>
    rw[if_neg (by simp),aA _ (by omega) (by omega)]
    refine hX fun j hj => ?_
    by_cases hji:j=i
    ·subst hji;exact hb
    ·exact hI j (by omega)
 ·intro hI X
  unfold aH
  rw[if_neg (by simp)]
  have:(l.any fun t => !cL t)=false:=by
   rw[List.any_eq_false]
   intro x hx
   obtain⟨j,hj,rfl⟩:=List.mem_iff_getElem.1 hx
   have:=hI j hj
   rw[List.getD_eq_getElem?_getD,List.getElem?_eq_getElem hj]at this
   rw[show cL l[j]=true from this];simp
  rw[this]at h
  exact h
theorem aG4 {l:List Lay}{Q:Bool->Prop}(hl:l.length<=10000000000000)(h:Q (l.any fun x=>x.1==3)):aX l Q:=by
 refine⟨⟨⟨?_⟩⟩⟩
 refine Loop.range (B:=aK l (l.length:Int) _ _) l.length (fun i=>(i:Int)) (fun i=>∀ j,j<i->((l.getD j aG).1==3)=false) (fun j hj=>absurd hj (by omega)) ?_ ?_
 ·intro i hi hI X hX
  unfold aK
  rw[if_pos (decide_eq_true (show(i:Int)<(l.length:Int) by omega))]
  refine⟨by omega,⟨?_⟩⟩
  simp only[Int.toNat_natCast]
  show if ((l.getD i aG).1==3)=true then _ else _
  cases hb:((l.getD i aG).1==3)with
  | true =>
    rw[if_pos rfl]
    have:(l.any fun x=>x.1==3)=true:=by
     rw[List.any_eq_true]
     refine⟨l[i],List.getElem_mem _,?_⟩
     rw[List.getD_eq_getElem?_getD,List.getElem?_eq_getElem hi]at hb
     exact hb
    rw[this]at h
    rw[decide_eq_true (show(0:Int)<=(i:Int) by omega)]
    exact h
  | false =>
    rw[if_neg (by simp),aA _ (by omega) (by omega)]
    refine hX fun j hj => ?_
    by_cases hji:j=i
    ·subst hji;exact hb
    ·exact hI j (by omega)
 ·intro hI X
  unfold aK
  rw[if_neg (by simp)]
  have:(l.any fun x=>x.1==3)=false:=by
   rw[List.any_eq_false]
   intro x hx
   obtain⟨j,hj,rfl⟩:=List.mem_iff_getElem.1 hx
   have:=hI j hj
   rw[List.getD_eq_getElem?_getD,List.getElem?_eq_getElem hj]at this
   simpa using this
  rw[this]at h
  exact h
def aE9 (m:Mdl)(ps:List Prm)(T:List T3)(st:Int)(g:T3):Bool :=
 ((((decide (st<0)||decide (1000000<st)) || !kH m ps)||((T.length:Int) != (m.2.length:Int)+1)) || !cL g)||T.any fun t => !cL t
def W4 (m:Mdl)(T:List T3):Bool:=(List.range (m.2.length+1)).any fun i => !decide ((T.getD i Z3).1=(T.getD 0 Z3).1.take 1++(aF m).1.getD i [])
def aCk (m:Mdl)(T:List T3)(F:List (List Int))(g:T3):Bool :=
 (((F.length:Int) != (T.length:Int))&&((m.2.any fun x=>x.1==3)||decide (0<(F.length:Int)))) || !decide (g.1=(T.getD (T.length-1) Z3).1)
def DO (m:Mdl)(ps:List Prm)(T:List T3)(F:List (List Int))(st:Int)(g:T3):Int :=
 if aE9 m ps T st g=true then 1 else if W4 m T=true then 2 else if aCk m T F g=true then 2 else 0
structure aHJ (m:Mdl)(ps:List Prm)(T:List T3)(g:T3)(st:Int):Prop where
 st:0<=st/\st<=1000000
 ps:kH m ps=true
 len:T.length=m.2.length+1
 g:cL g=true
 t:∀ i,i<T.length->cL (T.getD i Z3)=true
theorem OL {m:Mdl}{ps:List Prm}{T:List T3}{st:Int}{g:T3}(h:aE9 m ps T st g=false):aHJ m ps T g st:=by
 unfold aE9 at h
 simp only[Bool.or_eq_false_iff,decide_eq_false_iff_not,Bool.not_eq_false',bne_eq_false_iff_eq,List.any_eq_false]at h
 obtain⟨⟨⟨⟨⟨h1,h2⟩,h3⟩,h4⟩,h5⟩,h6⟩:=h
 refine⟨by omega,h3,by omega,h5,fun i hi => ?_⟩
 have:=h6 _ (List.getElem_mem hi)
 rw[List.getD_eq_getElem?_getD,List.getElem?_eq_getElem hi]
 simpa using this
theorem aG0 {m:Mdl}{ps:List Prm}{T:List T3}{F:List (List Int)}{st s:Int}{g:T3}{Q:Int->Prop}(hl:m.2.length<=1000000)(hT:T.length<=1000000)(h:Q (DO m ps T F st g)) :
 rI m.1.1 m.1.2.1 m.1.2.2 m.2 ps T F s st g Q:=by
 refine⟨?_⟩
 refine nL (c:=decide (1000000<st)) (fun _ P hP=>hP) (fun v1 e1 => ?_) rfl
 refine nL (c := !kH m ps) (fun _ P hP=>aEO (m:=m) (by omega) hP) (fun v3 e3 => ?_) rfl
 refine nL (c:=(T.length:Int) != (m.2.length:Int)+1) (fun _ P hP=>by rw[aA _ (by omega) (by omega)];exact hP) (fun v6 e6 => ?_) rfl
 refine nL (c := !cL g) (fun _ P hP=>kG hP) (fun v8 e8 => ?_) rfl
 refine nL (c:=T.any fun t => !cL t) (fun _ P hP=>aGG (by omega) hP) (fun v11 e11 => ?_) rfl
 have e:v11=aE9 m ps T st g:=by rw[e11,e8,e6,e3,e1];rfl
 unfold DO at h
 rw[<- e]at h
 clear e11 e8 e6 e3 e1
 cases v11 with
 | true=>rw[if_pos rfl]at h⊢;exact h
 | false =>
   rw[if_neg (by simp)]at h
   rw[if_neg (by simp)]
   have k:=OL e.symm
   obtain⟨hm,hok⟩:=rW (m:=m) (by
    have:=k.ps
    unfold kH at this
    simp only[Bool.and_eq_true,beq_iff_eq]at this
    exact this.1.1)
   have hlen:=k.len
   have hsl:=hok.len
   refine⟨QV (m:=m) (by omega) ⟨?_⟩⟩
   have h2:W4 m T=true->Q 2:=fun hb=>by rw[if_pos hb]at h;exact h
   have d0:=eI (k.t 0 (by omega))
   refine Loop.range (B:=iQ T ((aF m).1.length:Int) (aF m).1 _ _) (m.2.length+1) (fun i=>(i:Int)) (fun i=>∀ j,j<i->(T.getD j Z3).1=(T.getD 0 Z3).1.take 1++(aF m).1.getD j []) (fun j hj=>absurd hj (by omega)) ?_ ?_
   ·intro i hi hI X hX
    unfold iQ
    rw[if_pos (decide_eq_true (show(i:Int)<((aF m).1.length:Int) by omega))]
    simp only[Int.toNat_natCast]
    have hd:=hok.at_ (i:=i) (by omega)
    refine⟨by omega,by omega,by omega,⟨(fun e0=>by have:=d0.2.2.1;rw[show(T.getD 0 ([],0,[])).1=[]from e0]at this;simp at this),by omega,by omega,by have:=d0.2.2.1;show(1:Int)<=((T.getD 0 Z3).1.length:Int);omega⟩,?_⟩
    show jB [(T.getD 0 Z3).1.take 1,(aF m).1.getD i []] _
    refine aD3 (by rw[List.length_take];omega) (by rw[List.length_take];omega) (by omega) (DT (by have:=(eI (k.t i (by omega))).1;show(T.getD i Z3).1.length<=_;omega) ?_)
    show if (!decide ((T.getD i Z3).1=(T.getD 0 Z3).1.take 1++(aF m).1.getD i []))=true then _ else _
    by_cases he:(T.getD i Z3).1=(T.getD 0 Z3).1.take 1++(aF m).1.getD i []
    ·rw[if_neg (by rw[decide_eq_true he];simp),aA _ (by omega) (by omega)]
     refine hX fun j hj => ?_
     by_cases hji:j=i
     ·subst hji;exact he
     ·exact hI j (by omega)
    ·rw[if_pos (by rw[decide_eq_false he];rfl)]
     refine h2 ?_
     unfold W4
     rw[List.any_eq_true]
     exact⟨i,List.mem_range.2 hi,by rw[decide_eq_false he];rfl⟩
   ·intro hI X
    unfold iQ
    rw[if_neg (by simp;omega)]
    have hb2:W4 m T=false:=by
     unfold W4
     rw[List.any_eq_false]
     intro j hj
     rw[decide_eq_true (hI j (List.mem_range.1 hj))]
     simp
    rw[hb2,if_neg (by simp)]at h
    refine aG4 (by omega) ?_
    refine tD (c:=(m.2.any fun x=>x.1==3)||decide (0<(F.length:Int))) (fun _ P hP=>nL (c:=decide (0<(F.length:Int))) (fun _ P hP=>hP) (fun v ev=>by rw[ev];exact hP) rfl) (fun v17 e17 => ?_) rfl
    refine nL (c := !decide (g.1=(T.getD (T.length-1) Z3).1)) (fun _ P hP => ?_) (fun v21 e21 => ?_) rfl
    ·rw[aA _ (by omega) (by omega)]
     have e0:((T.length:Int)-1).toNat=T.length-1:=by omega
     rw[e0]
     exact⟨by omega,DT (by have:=(eI k.g).1;omega) hP⟩
    ·have e3:v21=aCk m T F g:=by rw[e21,e17];rfl
     rw[<- e3]at h
     clear e3 e21
     cases v21 <;> exact h
abbrev G3:=Bool×T3×T3
abbrev gY:G3:=(false,([],0,[]),([],0,[]))
noncomputable def f8 (st s:Int)(a:T3)(e i what:Int):T3×Int:=if (e != 0)=true then(Z3,e)else j6 a 8 s (RM st i what)
theorem u5 {mx my mz:Int}{L:List Lay}{P:List Prm}{T:List T3}{F:List (List Int)}{back:List (List T3)}{s st:Int}{a:T3}{e i what:Int}{Q:T3×Int->Prop}(h:Q (f8 st s a e i what)):iI mx my mz L P T F back s st a e i what Q:=by
 refine⟨?_⟩
 unfold f8 at h
 by_cases he:(e != 0)=true
 ·rw[if_pos he]at h⊢;exact h
 ·rw[if_neg he]at h⊢
  exact aFo (aAz h)
noncomputable def FA (st s:Int)(back:List (List T3))(i:Int)(g:T3):Int×List (List T3) :=
 match back.getD i.toNat []with
 | [t]=>if ((f8 st s (addF t g).1 (addF t g).2 i 1).2 != 0)=true then((f8 st s (addF t g).1 (addF t g).2 i 1).2,back)else(0,back.set i.toNat [(f8 st s (addF t g).1 (addF t g).2 i 1).1])
 | _=>(0,back.set i.toNat [g])
theorem W9 (st s:Int)(back:List (List T3))(i:Int)(g:T3):(FA st s back i g).2.length=back.length:=by
 unfold FA
 split
 ·split <;> simp
 ·simp
theorem aDf {l:List T3}{A:Prop}{B:T3->Prop}(h:match l with | [t]=>B t|_=>A):rsp l A B:=by
 refine⟨fun hn => ?_,fun x hx => ?_⟩
 ·match l,hn,h with
  | [],_,h=>exact h
  | [x],hn,_=>exact absurd rfl (hn x)
  | _::_::_,_,h=>exact h
 ·subst hx;exact h
noncomputable def KW (st s e kd fr:Int)(g:T3)(back:List (List T3)):Int×List (List T3):=if ((e==0)&&(kd==7))=true then FA st s back fr g else(e,back)
theorem aFZ {g:T3}{e mx my mz kd fr s st:Int}{L:List Lay}{P:List Prm}{T:List T3}{F:List (List Int)}{back:List (List T3)}{K:Int×List (List T3)->Prop}(hf:kd=7->0<=fr/\fr<(back.length:Int))(h:K (KW st s e kd fr g back)) :
 aW g e mx my mz L P T F s st kd fr back K:=by
 refine⟨?_⟩
 unfold KW at h
 by_cases hc:((e==0)&&(kd==7))=true
 ·rw[if_pos hc]at h⊢
  have hf:=hf (by simp only[Bool.and_eq_true,beq_iff_eq]at hc;exact hc.2)
  refine⟨hf,aDf ?_⟩
  unfold FA at h
  split
  ·rename_i t ht
   rw[ht]at h
   refine aDm (u5 ?_)
   dsimp only at h⊢
   by_cases he:((f8 st s (addF t g).1 (addF t g).2 fr 1).2 != 0)=true
   ·rw[if_pos he]at h⊢;exact⟨h⟩
   ·rw[if_neg he]at h⊢;exact⟨hf,⟨h⟩⟩
  ·rename_i hn
   split at h
   ·rename_i t ht;exact absurd ht (hn t)
   ·exact⟨hf,⟨h⟩⟩
 ·rw[if_neg hc]at h⊢;exact⟨h⟩
noncomputable def wO (st s n e kd fr:Int)(g nx:T3)(back:List (List T3)):Int×List (List T3) :=
 if (e==0)=true then KW st s (FA st s back (n-1) nx).1 kd fr g (FA st s back (n-1) nx).2 else KW st s e kd fr g back
theorem ZC {n:Int}{g nx:T3}{e mx my mz kd fr s st:Int}{L:List Lay}{P:List Prm}{T:List T3}{F:List (List Int)}{back:List (List T3)}{K:Int×List (List T3)->Prop}(hn:1<=n/\n<=(back.length:Int)/\back.length<=1000000)(hf:kd=7->0<=fr/\fr<(back.length:Int))(h:K (wO st s n e kd fr g nx back)) :
 aJ n g e mx my mz L P T F s st kd fr nx.1 nx.2.1 nx.2.2 back K:=by
 refine⟨?_⟩
 unfold wO at h
 rw[aA (n-1) (by omega) (by omega)]
 by_cases hc:(e==0)=true
 ·rw[if_pos hc]at h⊢
  refine⟨by omega,aDf ?_⟩
  unfold FA at h
  split
  ·rename_i t ht
   rw[ht]at h
   refine aDm (u5 ?_)
   dsimp only at h⊢
   by_cases he:((f8 st s (addF t nx).1 (addF t nx).2 (n-1) 1).2 != 0)=true
   ·rw[if_pos he]at h⊢;exact aFZ hf h
   ·rw[if_neg he]at h⊢;exact⟨by omega,aFZ (by rw[List.length_set];exact hf) h⟩
  ·rename_i hn2
   split at h
   ·rename_i t ht;exact absurd ht (hn2 t)
   ·exact⟨by omega,aFZ (by rw[List.length_set];exact hf) h⟩
 ·rw[if_neg hc]at h⊢;exact aFZ hf h
end Go.Proofs.YtcfpfefadlnmcaaGreat

namespace Go.Proofs.YtcfpfefadlnmcaaGreat
open Go.Mach Go.RowKit
set_option maxRecDepth 100000
set_option linter.unusedVariables false
set_option linter.unusedSimpArgs false
theorem D2 {α:Type}{l m:List α}{i:Nat}{d:α}(h:i<l.length):(l++m).getD i d=l.getD i d:=by
 rw[List.getD_eq_getElem?_getD,List.getElem?_append_left h,List.getD_eq_getElem?_getD]
theorem PH {α:Type}{l:List α}{x d:α}:(l++[x]).getD l.length d=x:=by
 rw[List.getD_eq_getElem?_getD,List.getElem?_append_right (Nat.le_refl _)];simp
theorem FX:∀ (r:List Lay) (i:Int) (l:List (List Int)),l≠[]->(cB r i l).2.2=0 ->
 (∃ m,(cB r i l).1=l++m)/\(cB r i l).1.length=l.length+r.length/\∀ j,j<r.length->(cB r i l).1.getD (l.length+j) []=bX (r.getD j aG) ((cB r i l).1.take (l.length+j)) ((cB r i l).1.getD (l.length+j-1) [])/\(cB r i l).1.getD (l.length+j) []≠[]
 | [],i,l,_,_=>⟨⟨[],by simp[cB]⟩,by simp[cB],fun j hj=>absurd hj (by simp)⟩
 | x::r,i,l,hl,h=>by
   unfold cB at h⊢
   by_cases h1:bX x l (l.getD (l.length-1) [])=[]
   ·rw[if_pos h1]at h;cases h
   rw[if_neg h1]at h⊢
   by_cases h2:8192<oZ (bX x l (l.getD (l.length-1) []))
   ·rw[if_pos h2]at h;cases h
   rw[if_neg h2]at h⊢
   have hpos:=List.length_pos_iff.2 hl
   obtain⟨⟨m,e1⟩,e2,e3⟩:=FX r (i+1) (l++[bX x l (l.getD (l.length-1) [])]) (by simp) h
   have k1:(cB r (i+1) (l++[bX x l (l.getD (l.length-1) [])])).1.take l.length=l:=by
    rw[e1,List.append_assoc,List.take_left]
   have k2:(cB r (i+1) (l++[bX x l (l.getD (l.length-1) [])])).1.getD l.length []=bX x l (l.getD (l.length-1) []):=by
    rw[e1,D2 (by simp),PH]
   have k3:(cB r (i+1) (l++[bX x l (l.getD (l.length-1) [])])).1.getD (l.length-1) []=l.getD (l.length-1) []:=by
    rw[e1,List.append_assoc,D2 (by omega)]
   refine⟨⟨_::m,by rw[e1,List.append_assoc];rfl⟩,by rw[e2];simp;omega,fun j hj => ?_⟩
   cases j with
   | zero =>
     rw[Nat.add_zero,k1,k2,k3]
     exact⟨rfl,h1⟩
   | succ j =>
     have:=e3 j (by simpa using hj)
     rw[List.length_append,List.length_singleton,show l.length+1+j=l.length+(j+1) by omega]at this
     exact this
theorem wV {m:Mdl}(h:(aF m).2.2=0):(aF m).1.length=m.2.length+1/\(aF m).1.getD 0 []=inL m/\∀ i,i<m.2.length ->
 (aF m).1.getD (i+1) []=bX (m.2.getD i aG) ((aF m).1.take (i+1)) ((aF m).1.getD i [])/\(aF m).1.getD (i+1) []≠[]:=by
 obtain⟨hm,_⟩:=rW h
 unfold aF at h⊢
 rw[if_pos hm]at h⊢
 by_cases h8:8192<oZ (inL m)
 ·rw[if_pos h8]at h;cases h
 rw[if_neg h8]at h⊢
 obtain⟨⟨k,e1⟩,e2,e3⟩:=FX m.2 0 [inL m] (by simp) h
 refine⟨by rw[e2];simp;omega,by rw[e1];rfl,fun i hi => ?_⟩
 have:=e3 i hi
 rw[List.length_singleton,Nat.add_comm 1 i,show i+1-1=i by omega]at this
 exact this
theorem G7 {d:List Int}{c:Int}{x:Lay}(h:eU d c x≠[]):d.length=3:=by
 unfold eU at h
 split at h
 ·assumption
 ·exact absurd rfl h
theorem aBd {x:Lay}{l:List (List Int)}{d:List Int}(hx:x.1=2\/x.1=3\/x.1=4)(h:bX x l d≠[]):d.length=3:=by
 unfold bX at h
 rw[if_neg (by omega)]at h
 split at h
 ·exact G7 h
 ·rw[if_pos (by omega)]at h
  exact G7 h
noncomputable def onV (x:Lay)(p:Prm)(g t:T3)(fr:List Int)(st s n:Int):T3×Int :=
 if x.1=5 then rbF g t
 else if x.1=6 then pT g t.1
 else if x.1=7 then(g,0)
 else if x.1=1 then f8 st s (MX g p.1).1 (MX g p.1).2 n 2
 else if x.1=2 then f8 st s (AN g p.1 (t.1.getD 2 0) (t.1.getD 3 0) x.2.2.2.1 x.2.2.2.2.1).1 (AN g p.1 (t.1.getD 2 0) (t.1.getD 3 0) x.2.2.2.1 x.2.2.2.2.1).2 n 2
 else if x.1=3 then f8 st s (q9 g fr t.1).1 (q9 g fr t.1).2 n 2
 else if x.1=4 then f8 st s (qN g t.1 x.2.2.1 x.2.2.2.1).1 (qN g t.1 x.2.2.1 x.2.2.2.1).2 n 2
 else f8 st s Z3 0 n 2
theorem aHp {n:Nat}{g t:T3}{mx my mz s st:Int}{L:List Lay}{P:List Prm}{T:List T3}{F:List (List Int)}{back:List (List T3)}{K:Int×List (List T3)->Prop}(hn:1<=n/\n<=L.length/\L.length<=100000)(hP:P.length=L.length)(hb:back.length=L.length+1)
 (ag:All8 g.2.2) (ap:Prm8 (P.getD (n-1) dY)) (ht:t.1.length<=1000000) (hconv:(L.getD (n-1) aG).1=2->4<=t.1.length) (hmax:(L.getD (n-1) aG).1=3->n<F.length) (hadd:(L.getD (n-1) aG).1=7->0<=(L.getD (n-1) aG).2.2.2.2.2.1/\(L.getD (n-1) aG).2.2.2.2.2.1<(back.length:Int))
 (h:K (wO st s n (onV (L.getD (n-1) aG) (P.getD (n-1) dY) g t (F.getD n []) st s n).2 (L.getD (n-1) aG).1 (L.getD (n-1) aG).2.2.2.2.2.1 g (onV (L.getD (n-1) aG) (P.getD (n-1) dY) g t (F.getD n []) st s n).1 back)) :
 cJ (n:Int) g mx my mz L P T F s st (L.getD (n-1) aG).1 (L.getD (n-1) aG).2.2.2.2.2.1 t.1 t.2.1 t.2.2 back K:=by
 refine⟨?_⟩
 have ew:IntKind.i64.wrap ((n:Int)-1)=((n-1:Nat):Int):=by rw[aA _ (by omega) (by omega)];omega
 rw[ew]
 simp only[Int.toNat_natCast]
 show ck ((0:Int)<=((n-1:Nat):Int)/\((n-1:Nat):Int)<(L.length:Int)) _
 refine⟨by omega,by omega,?_⟩
 revert hconv hmax hadd h ap
 generalize hx:L.getD (n-1) (0,0,0,0,0,0,false)=x
 generalize hp:P.getD (n-1) (([],0,[]),[],[],0,[])=p
 intro ap hconv hmax hadd h
 have hnb:1<=(n:Int)/\(n:Int)<=(back.length:Int)/\back.length<=1000000:=by omega
 unfold onV at h
 by_cases h5:x.1=5
 ·simp only[if_pos h5]at h
  rw[if_pos (by simpa using h5)]
  exact aAI (ZC hnb hadd h)
 simp only[if_neg h5]at h
 rw[if_neg (by simpa using h5)]
 by_cases h6:x.1=6
 ·simp only[if_pos h6]at h
  rw[if_pos (by simpa using h6)]
  exact aBS (by omega) (ZC hnb hadd h)
 simp only[if_neg h6]at h
 rw[if_neg (by simpa using h6)]
 by_cases h7:x.1=7
 ·simp only[if_pos h7]at h
  rw[if_pos (by simpa using h7)]
  exact ZC hnb hadd h
 simp only[if_neg h7]at h
 rw[if_neg (by simpa using h7)]
 by_cases h1:x.1=1
 ·simp only[if_pos h1]at h
  rw[if_pos (by simpa using h1)]
  exact aHS ag ap.1 ⟨u5 (ZC hnb hadd h)⟩
 simp only[if_neg h1]at h
 rw[if_neg (by simpa using h1)]
 by_cases h2:x.1=2
 ·simp only[if_pos h2]at h
  rw[if_pos (by simpa using h2)]
  have:=hconv h2
  exact⟨by omega,by omega,aFY ag ap.1 ⟨u5 (ZC hnb hadd h)⟩⟩
 simp only[if_neg h2]at h
 rw[if_neg (by simpa using h2)]
 refine⟨?_⟩
 by_cases h3:x.1=3
 ·simp only[if_pos h3]at h
  rw[if_pos (by simpa using h3)]
  have:=hmax h3
  exact⟨by omega,aCj ⟨u5 (ZC hnb hadd h)⟩⟩
 simp only[if_neg h3]at h
 rw[if_neg (by simpa using h3)]
 by_cases h4:x.1=4
 ·simp only[if_pos h4]at h
  rw[if_pos (by simpa using h4)]
  exact aCL ⟨u5 (ZC hnb hadd h)⟩
 simp only[if_neg h4]at h
 rw[if_neg (by simpa using h4)]
 exact⟨u5 (ZC hnb hadd h)⟩
def yL (x:Lay)(g t:T3):G3×Int :=
 if x.1=1 then(if (I3 g t).2=0 then(if (M8 g).2=0 then((true,(I3 g t).1,(M8 g).1),0)else(gY,(M8 g).2))else(gY,(I3 g t).2))
 else(if (mH g t x.2.2.1 x.2.2.2.1 x.2.2.2.2.1).2=0 then(if (CA g).2=0 then((true,(mH g t x.2.2.1 x.2.2.2.1 x.2.2.2.2.1).1,(CA g).1),0)else(gY,(CA g).2))else(gY,(mH g t x.2.2.1 x.2.2.2.1 x.2.2.2.2.1).2))
theorem aHm {a b:Int}{W B:T3}{K0:Bool×List Int×Int×List Int×List Int×Int×List Int->Prop}{K1:Int->Prop}(h:a=0->b=0->K0 (true,W.1,W.2.1,W.2.2,B.1,B.2.1,B.2.2))(h1:a=0->b≠0->K1 b)(h2:a≠0->K1 a) :
 aO a b true W.1 W.2.1 B.1 B.2.1 W.2.2 B.2.2 (fun y=>cI y.1 (fun _=>K0 (y.2.1,y.2.2.1,y.2.2.2.1,y.2.2.2.2.1,y.2.2.2.2.2.1,y.2.2.2.2.2.2.1,y.2.2.2.2.2.2.2)) (fun _=>K1 y.1)):=by
 refine⟨?_⟩
 by_cases ha:a=0
 ·rw[if_pos (by simpa using ha)]
  refine⟨?_⟩
  by_cases hb:b=0
  ·rw[if_neg (by simpa using hb)]
   refine⟨?_⟩
   dsimp only
   rw[if_neg (by simp)]
   exact h ha hb
  ·rw[if_pos (by simpa using hb)]
   refine⟨?_⟩
   dsimp only
   rw[if_pos (by simpa using hb)]
   exact h1 ha hb
 ·rw[if_neg (by simpa using ha)]
  refine⟨?_⟩
  rw[if_pos (by simpa using ha)]
  refine⟨?_⟩
  dsimp only
  rw[if_pos (by simpa using ha)]
  exact h2 ha
def aHf (G:G3):Bool×List Int×Int×List Int×List Int×Int×List Int:=(G.1,G.2.1.1,G.2.1.2.1,G.2.1.2.2,G.2.2.1,G.2.2.2.1,G.2.2.2.2)
theorem aH1 {g t:T3}{x:Lay}{w:Bool}{K0:Bool×List Int×Int×List Int×List Int×Int×List Int->Prop}{K1:Int->Prop}(ag:All8 g.2.2)(at8:All8 t.2.2)(h0:w=true->(yL x g t).2=0->K0 (aHf (yL x g t).1))(h1:w=true->(yL x g t).2≠0->K1 (yL x g t).2)(h2:w=false->K0 (aHf gY)) :
 dS g w x.1 x.2.2.1 x.2.2.2.1 x.2.2.2.2.1 t.1 t.2.1 t.2.2 false 0 0 K0 K1:=by
 refine⟨?_⟩
 cases w with
 | false=>rw[if_neg (by simp)];exact h2 rfl
 | true =>
   have h0:=h0 rfl
   have h1:=h1 rfl
   rw[if_pos rfl]
   unfold yL at h0 h1
   by_cases hk:x.1=1
   ·simp only[if_pos hk]at h0 h1
    rw[if_pos (by simpa using hk)]
    refine aH7 ag at8 (aHl ag (aHm (fun ha hb => ?_) (fun ha hb => ?_) (fun ha => ?_)))
    ·simp only[if_pos ha,if_pos hb]at h0
     exact h0 trivial
    ·simp only[if_pos ha,if_neg hb]at h1
     exact h1 hb
    ·simp only[if_neg ha]at h1
     exact h1 ha
   ·simp only[if_neg hk]at h0 h1
    rw[if_neg (by simpa using hk)]
    refine aEI ag at8 (aHF ag (aHm (fun ha hb => ?_) (fun ha hb => ?_) (fun ha => ?_)))
    ·simp only[if_pos ha,if_pos hb]at h0
     exact h0 trivial
    ·simp only[if_pos ha,if_neg hb]at h1
     exact h1 hb
    ·simp only[if_neg ha]at h1
     exact h1 ha
end Go.Proofs.YtcfpfefadlnmcaaGreat

namespace Go.Proofs.YtcfpfefadlnmcaaGreat
open Go.Mach Go.RowKit
set_option maxRecDepth 100000
set_option linter.unusedVariables false
set_option linter.unusedSimpArgs false
def HL (x:Lay):Bool:=((x.1==1)||(x.1==2)) && !x.2.2.2.2.2.2
def grV (x:Lay)(g t:T3):G3×Int:=if HL x=true then yL x g t else(gY,0)
noncomputable def MZ (m:Mdl)(ps:List Prm)(T:List T3)(F:List (List Int))(st s:Int)(n:Nat)(back:List (List T3))(g:T3):(G3×Int)×List (List T3) :=
 if (grV (m.2.getD (n-1) aG) g (T.getD (n-1) Z3)).2=0 then
  (((grV (m.2.getD (n-1) aG) g (T.getD (n-1) Z3)).1,(wO st s n (onV (m.2.getD (n-1) aG) (ps.getD (n-1) dY) g (T.getD (n-1) Z3) (F.getD n []) st s n).2 (m.2.getD (n-1) aG).1 (m.2.getD (n-1) aG).2.2.2.2.2.1 g (onV (m.2.getD (n-1) aG) (ps.getD (n-1) dY) g (T.getD (n-1) Z3) (F.getD n []) st s n).1 back).1),
    (wO st s n (onV (m.2.getD (n-1) aG) (ps.getD (n-1) dY) g (T.getD (n-1) Z3) (F.getD n []) st s n).2 (m.2.getD (n-1) aG).1 (m.2.getD (n-1) aG).2.2.2.2.2.1 g (onV (m.2.getD (n-1) aG) (ps.getD (n-1) dY) g (T.getD (n-1) Z3) (F.getD n []) st s n).1 back).2)
 else((gY,(grV (m.2.getD (n-1) aG) g (T.getD (n-1) Z3)).2),back)
noncomputable def gV (m:Mdl)(ps:List Prm)(T:List T3)(F:List (List Int))(st s:Int)(n:Nat)(back:List (List T3)):(G3×Int)×List (List T3) :=
 match back.getD n []with
 | [g]=>MZ m ps T F st s n back g
 | _=>((gY,0),back)
noncomputable def qF (m:Mdl)(ps:List Prm)(T:List T3)(F:List (List Int))(st s:Int):Nat->List G3->List (List T3)->List G3×Int×Int
 | 0,out,_=>(out,0,0)
 | n+1,out,back=>if (gV m ps T F st s (n+1) back).1.2=0 then qF m ps T F st s n (out.set n (gV m ps T F st s (n+1) back).1.1) (gV m ps T F st s (n+1) back).2 else([],((n+1:Nat):Int),(gV m ps T F st s (n+1) back).1.2)
noncomputable def wT (m:Mdl)(ps:List Prm)(T:List T3)(F:List (List Int))(g:T3)(s st:Int):List G3×Int×Int :=
 if DO m ps T F st g=0 then qF m ps T F st s m.2.length (List.replicate m.2.length gY) ((List.replicate T.length []).set m.2.length [g])else([],0,DO m ps T F st g)
def Bk8 (back:List (List T3)):Prop:=∀ l∈back,∀ t∈l,All8 t.2.2
theorem E0 {st s:Int}{a:T3}{e i w:Int}:All8 (f8 st s a e i w).1.2.2:=by
 unfold f8
 split
 ·intro y hy;cases hy
 ·exact aDg
theorem Bk8.set {back:List (List T3)}(h:Bk8 back){i:Nat}{t:T3}(ht:All8 t.2.2):Bk8 (back.set i [t]):=by
 intro l hl t' ht'
 rcases List.mem_or_eq_of_mem_set hl with h1|h1
 ·exact h l h1 t' ht'
 ·subst h1
  rw[List.mem_singleton]at ht'
  subst ht';exact ht
theorem Bk8.at_ {back:List (List T3)}(h:Bk8 back){i:Nat}{t:T3}(ht:back.getD i []=[t]):All8 t.2.2:=by
 rw[List.getD_eq_getElem?_getD]at ht
 cases hi:back[i]? with
 | none=>rw[hi]at ht;cases ht
 | some l =>
   rw[hi]at ht
   have ht:l=[t]:=ht
   exact h l (List.mem_of_getElem? hi) t (by rw[ht];exact List.mem_singleton.2 rfl)
theorem aHh {st s:Int}{back:List (List T3)}{i:Int}{g:T3}(h:Bk8 back)(hg:All8 g.2.2):Bk8 (FA st s back i g).2:=by
 unfold FA
 split
 ·split
  ·exact h
  ·exact h.set E0
 ·exact h.set hg
theorem aFh {st s e kd fr:Int}{g:T3}{back:List (List T3)}(h:Bk8 back)(hg:All8 g.2.2):Bk8 (KW st s e kd fr g back).2:=by
 unfold KW
 split
 ·exact aHh h hg
 ·exact h
theorem aBN {st s e kd fr:Int}{g:T3}{back:List (List T3)}:(KW st s e kd fr g back).2.length=back.length:=by
 unfold KW
 split
 ·exact W9 _ _ _ _ _
 ·rfl
theorem aHP {st s n e kd fr:Int}{g nx:T3}{back:List (List T3)}(h:Bk8 back)(hg:All8 g.2.2)(hx:All8 nx.2.2):Bk8 (wO st s n e kd fr g nx back).2:=by
 unfold wO
 split
 ·exact aFh (aHh h hx) hg
 ·exact aFh h hg
theorem YG {st s n e kd fr:Int}{g nx:T3}{back:List (List T3)}:(wO st s n e kd fr g nx back).2.length=back.length:=by
 unfold wO
 split
 ·rw[aBN,W9]
 ·exact aBN
theorem on8 {x:Lay}{p:Prm}{g t:T3}{fr:List Int}{st s n:Int}(hg:All8 g.2.2):All8 (onV x p g t fr st s n).1.2.2:=by
 unfold onV
 split
 ·unfold rbF
  split
  ·split
   ·intro y hy
    unfold tab at hy
    obtain⟨i,_,rfl⟩:=List.mem_map.1 hy
    split
    ·exact hg.at_ i
    ·omega
   ·intro y hy;cases hy
  ·intro y hy;cases hy
 split
 ·unfold pT
  split
  ·split
   ·exact hg
   ·intro y hy;cases hy
  ·intro y hy;cases hy
 split
 ·exact hg
 split
 ·exact E0
 split
 ·exact E0
 split
 ·exact E0
 split
 ·exact E0
 ·exact E0
theorem aDo {m:Mdl}{ps:List Prm}{T:List T3}{F:List (List Int)}{st s:Int}{n:Nat}{back:List (List T3)}(h:Bk8 back):Bk8 (gV m ps T F st s n back).2/\(gV m ps T F st s n back).2.length=back.length:=by
 unfold gV
 split
 ·rename_i g hg
  have g8:=h.at_ hg
  unfold MZ
  split
  ·exact⟨aHP h g8 (on8 g8),YG⟩
  ·exact⟨h,rfl⟩
 ·exact⟨h,rfl⟩
theorem aHH {n:Nat}{e:Int}{out:List G3}{G:G3}{K0 K1:List G3->Prop}(hn:1<=n/\n<=out.length/\n<=1000000)(h0:e=0->K0 (out.set (n-1) G))(h1:e≠0->K1 []) :
 fO (n:Int) e out G.1 G.2.1.1 G.2.1.2.1 G.2.1.2.2 G.2.2.1 G.2.2.2.1 G.2.2.2.2 K0 K1:=by
 refine⟨?_⟩
 by_cases he:e=0
 ·rw[if_neg (by simpa using he)]
  have ew:IntKind.i64.wrap ((n:Int)-1)=((n-1:Nat):Int):=by rw[aA _ (by omega) (by omega)];omega
  rw[ew]
  simp only[Int.toNat_natCast]
  exact⟨by omega,h0 he⟩
 ·rw[if_pos (by simpa using he)]
  exact h1 he
structure aFt (m:Mdl)(ps:List Prm)(T:List T3)(F:List (List Int)):Prop where
 len:m.2.length<=12
 pl:ps.length=m.2.length
 t:T.length=m.2.length+1
 p8:∀ p∈ps,Prm8 p
 t8:Ten8 T
 dims:∀ i,i<T.length->(T.getD i Z3).1.length<=4
 conv:∀ i,i<m.2.length->(m.2.getD i aG).1=2->4<=(T.getD i Z3).1.length
 max:∀ i,i<m.2.length->(m.2.getD i aG).1=3->i+1<F.length
 add:∀ i,i<m.2.length->(m.2.getD i aG).1=7->0<=(m.2.getD i aG).2.2.2.2.2.1/\(m.2.getD i aG).2.2.2.2.2.1<(m.2.length:Int)
theorem aGK {m:Mdl}{ps:List Prm}{T:List T3}{F:List (List Int)}{s st mx my mz:Int}(r:aFt m ps T F){K0:List G3->Prop}{K1:List G3×Int×Int->Prop}{out:List G3}{back:List (List T3)}
 (ho:out.length=m.2.length) (hb:back.length=m.2.length+1) (h8:Bk8 back) (h0:(qF m ps T F st s m.2.length out back).2.2=0->K0 (qF m ps T F st s m.2.length out back).1) (h1:(qF m ps T F st s m.2.length out back).2.2≠0->K1 (qF m ps T F st s m.2.length out back)) :
 tY mx my mz m.2 ps T F s st K0 K1 ((m.2.length:Int),out,back):=by
 refine⟨?_⟩
 have hl:=r.len
 obtain⟨z,hz⟩:∃ z,qF m ps T F st s m.2.length out back=z:=⟨_,rfl⟩
 rw[hz]at h0 h1
 refine Loop.rangeI (B:=mW mx my mz m.2 ps T F s st K0 K1) m.2.length
  (fun i z'=>z'.1=((m.2.length-i:Nat):Int)/\z'.2.1.length=m.2.length/\z'.2.2.length=m.2.length+1/\Bk8 z'.2.2/\qF m ps T F st s (m.2.length-i) z'.2.1 z'.2.2=z) ⟨rfl,ho,hb,h8,hz⟩ ?_ ?_
 ·rintro i hi ⟨z1,out,back⟩ ⟨rfl,e1,e2,h8,hq⟩ X hX
  unfold mW
  dsimp only at e1 e2 h8 hq⊢
  obtain⟨n,hn⟩:∃ n,m.2.length-i=n+1:=⟨m.2.length-i-1,by omega⟩
  rw[hn]at hq⊢
  rw[if_pos (decide_eq_true (show(0:Int)<((n+1:Nat):Int) by omega))]
  have ew:IntKind.i64.wrap (((n+1:Nat):Int)-1)=(n:Int):=by rw[aA _ (by omega) (by omega)];omega
  rw[ew]
  simp only[Int.toNat_natCast]
  refine⟨by omega,by rw[r.t];omega,by omega,?_⟩
  have hX':∀ (o:List G3) (b:List (List T3)),o.length=m.2.length->b.length=m.2.length+1->Bk8 b->qF m ps T F st s n o b=z->X ((n:Int),o,b):=fun o b k1 k2 k3 k4 =>
   hX _ ⟨by show(n:Int)=_;omega,k1,k2,k3,by rw[show m.2.length-(i+1)=n by omega];exact k4⟩
  unfold qF at hq
  have fin:∀ (G:G3) (e:Int) (b:List (List T3)),gV m ps T F st s (n+1) back=((G,e),b)->b.length=m.2.length+1->Bk8 b ->
   fO ((n+1:Nat):Int) e out G.1 G.2.1.1 G.2.1.2.1 G.2.1.2.2 G.2.2.1 G.2.2.2.1 G.2.2.2.2 (fun y=>X ((n:Int),y,b)) (fun y=>K1 (y,((n+1:Nat):Int),e)):=by
   intro G e b he hb hb8
   rw[he]at hq
   refine aHH (by omega) (fun h => ?_) (fun h => ?_)
   ·simp only[if_pos h]at hq
    rw[Nat.add_sub_cancel]
    exact hX' _ _ (by rw[List.length_set];exact e1) hb hb8 hq
   ·simp only[if_neg h]at hq
    subst hq
    exact h1 h
  refine aDf ?_
  obtain⟨l8,ll⟩:=aDo (m:=m) (ps:=ps) (T:=T) (F:=F) (st:=st) (s:=s) (n:=n+1) h8
  split
  ·rename_i g hg
   have g8:=h8.at_ hg
   have hL:gV m ps T F st s (n+1) back=MZ m ps T F st s (n+1) back g:=by unfold gV;rw[hg]
   rw[hL]at fin l8 ll
   unfold MZ at fin l8 ll
   rw[Nat.add_sub_cancel]at fin l8 ll
   have hni:n<m.2.length:=by omega
   have wt:HL (m.2.getD n aG)=true->grV (m.2.getD n aG) g (T.getD n Z3)=yL (m.2.getD n aG) g (T.getD n Z3):=fun h=>by unfold grV;rw[if_pos h]
   have wf:HL (m.2.getD n aG)=false->grV (m.2.getD n aG) g (T.getD n Z3)=(gY,0):=fun h=>by unfold grV;rw[if_neg (by rw[h];simp)]
   have cont:∀ G:G3,(grV (m.2.getD n aG) g (T.getD n Z3)).1=G->(grV (m.2.getD n aG) g (T.getD n Z3)).2=0 ->
    cJ ((n+1:Nat):Int) g mx my mz m.2 ps T F s st (m.2.getD n aG).1 (m.2.getD n aG).2.2.2.2.2.1 (T.getD n Z3).1 (T.getD n Z3).2.1 (T.getD n Z3).2.2 back (fun y=>fO ((n+1:Nat):Int) y.1 out G.1 G.2.1.1 G.2.1.2.1 G.2.1.2.2 G.2.2.1 G.2.2.2.1 G.2.2.2.2 (fun y4=>X ((n:Int),y4,y.2)) (fun y5=>K1 (y5,((n+1:Nat):Int),y.1))):=by
    intro G hG h0
    have k:=aHp (n:=n+1) (g:=g) (t:=T.getD n Z3) (mx:=mx) (my:=my) (mz:=mz) (s:=s) (st:=st) (L:=m.2) (P:=ps) (T:=T) (F:=F) (back:=back)
     (K:=fun y=>fO ((n+1:Nat):Int) y.1 out G.1 G.2.1.1 G.2.1.2.1 G.2.1.2.2 G.2.2.1 G.2.2.2.1 G.2.2.2.2 (fun y4=>X ((n:Int),y4,y.2)) (fun y5=>K1 (y5,((n+1:Nat):Int),y.1)))
     (by omega) r.pl e2 g8 (Prm8.at_ r.p8 _) (by have:=r.dims n (by rw[r.t];omega);omega) (by rw[Nat.add_sub_cancel];exact r.conv n hni) (by rw[Nat.add_sub_cancel];exact r.max n hni) (by rw[Nat.add_sub_cancel,e2];intro h7;have:=r.add n hni h7;omega)
    rw[Nat.add_sub_cancel]at k
    refine k ?_
    rw[if_pos h0,hG]at fin
    rw[if_pos h0]at l8 ll
    exact fin _ _ _ rfl (ll.trans e2) l8
   refine aH1 g8 (r.t8.at_ n) (fun hw he => ?_) (fun hw he => ?_) (fun hw => ?_)
   ·rw[wt hw]at cont
    exact cont _ rfl he
   ·have:=fin gY (yL (m.2.getD n aG) g (T.getD n Z3)).2 back (by rw[wt hw,if_neg he]) e2 h8
    exact this
   ·rw[wf hw]at cont
    exact cont gY rfl rfl
  ·rename_i hn2
   have hL:gV m ps T F st s (n+1) back=((gY,0),back):=by
    unfold gV
    split
    ·rename_i g hg;exact absurd hg (hn2 g)
    ·rfl
   exact fin gY 0 back hL e2 h8
 ·rintro⟨z1,out,back⟩ ⟨rfl,e1,e2,h8,hq⟩ X
  unfold mW
  dsimp only at hq⊢
  rw[Nat.sub_self]at hq⊢
  rw[if_neg (by simp)]
  unfold qF at hq
  subst hq
  exact h0 rfl
theorem aBe {m:Mdl}{ps:List Prm}{T:List T3}{F:List (List Int)}{st:Int}{g:T3}(h:DO m ps T F st g=0):aHJ m ps T g st/\(∀ i,i<m.2.length+1->(T.getD i Z3).1=(T.getD 0 Z3).1.take 1++(aF m).1.getD i [])/\aCk m T F g=false:=by
 unfold DO at h
 split at h
 ·cases h
 rename_i h1
 split at h
 ·cases h
 rename_i h2
 split at h
 ·cases h
 rename_i h3
 refine⟨OL (by simpa using h1),fun i hi => ?_,by simpa using h3⟩
 unfold W4 at h2
 simp only[List.any_eq_true,not_exists,not_and]at h2
 have:=h2 i (List.mem_range.2 hi)
 simpa using this
theorem wP {m:Mdl}{ps:List Prm}(h:kH m ps=true):(aF m).2.2=0:=by
 unfold kH at h
 simp only[Bool.and_eq_true,beq_iff_eq]at h
 exact h.1.1
theorem aDT {m:Mdl}{ps:List Prm}{T:List T3}{F:List (List Int)}{st:Int}{g:T3}(hp:∀ p∈ps,Prm8 p)(h8:Ten8 T)(h:DO m ps T F st g=0):aFt m ps T F:=by
 obtain⟨k,hd,h3⟩:=aBe h
 obtain⟨w1,w2⟩:=yN k.ps
 obtain⟨_,⟨k1,k2⟩,k3⟩:=iC w1
 obtain⟨s1,s2,s3⟩:=wV (wP k.ps)
 have d0:=eI (k.t 0 (by have:=k.len;omega))
 refine⟨k2,w2,k.len,hp,h8,fun i hi=>(eI (k.t i hi)).1,fun i hi hx => ?_,fun i hi hx => ?_,fun i hi hx => ?_⟩
 ·have:=aBd (.inl hx) (by rw[<- (s3 i hi).1];exact(s3 i hi).2)
  rw[hd i (by omega),List.length_append,List.length_take,this]
  omega
 ·unfold aCk at h3
  have ha:(m.2.any fun x=>x.1==3)=true:=by
   rw[List.any_eq_true]
   refine⟨m.2[i],List.getElem_mem _,?_⟩
   rw[List.getD_eq_getElem?_getD,List.getElem?_eq_getElem hi]at hx
   simpa using hx
  simp only[ha,Bool.true_or,Bool.and_true,Bool.or_eq_false_iff,bne_eq_false_iff_eq]at h3
  have:=k.len
  omega
 ·have:=vV (k3 i hi) hx
  rw[aA ((i:Int)-1) (by omega) (by omega)]at this
  omega
theorem aER {m:Mdl}{ps:List Prm}{T:List T3}{F:List (List Int)}{g:T3}{s st:Int}{Q:List G3×Int×Int->Prop}(hl:m.2.length<=1000000)(hT:T.length<=1000000)(hp:∀ p∈ps,Prm8 p)(h8:Ten8 T)(hg:All8 g.2.2)(h:Q (wT m ps T F g s st)):uR m ps (T,F) g s st Q:=by
 refine⟨aG0 hl hT ?_⟩
 unfold wT at h
 by_cases he:DO m ps T F st g=0
 rotate_left
 ·rw[if_neg he]at h
  rw[if_pos (by simpa using he)]
  exact h
 rw[if_pos he]at h
 rw[if_neg (by simpa using he)]
 have r:=aDT hp h8 he
 have hl2:=r.len
 have ht:=r.t
 refine⟨by show(0:Int)<=(T.length:Int)/\((8:Nat):Int)*(T.length:Int)<=_;omega,⟨by omega,by rw[List.length_replicate];simp only[Int.toNat_natCast];omega⟩,⟨by omega,by omega⟩,?_⟩
 simp only[Int.toNat_natCast]
 refine aGK r (by rw[List.length_replicate]) (by rw[List.length_set,List.length_replicate];exact ht) ?_ (fun h0 => ?_) (fun h1=>h)
 ·refine Bk8.set (fun l hl t ht => ?_) hg
  have:=List.eq_of_mem_replicate hl
  subst this;cases ht
 ·have key:∀ (n:Nat) (o:List G3) (b:List (List T3)),(qF m ps T F st s n o b).2.2=0->(qF m ps T F st s n o b).2.1=0:=by
   intro n
   induction n with
   | zero=>intro o b _;rfl
   | succ n ih =>
     intro o b hz
     unfold qF at hz⊢
     split
     ·rename_i h2;rw[if_pos h2]at hz;exact ih _ _ hz
     ·rename_i h2;rw[if_neg h2]at hz;exact absurd hz h2
  have k2:=key _ _ _ h0
  generalize qF m ps T F st s m.2.length (List.replicate m.2.length gY) ((List.replicate T.length []).set m.2.length [g])=z at h h0 k2⊢
  obtain⟨a,b,c⟩:=z
  dsimp only at h0 k2⊢
  subst h0 k2
  exact h
end Go.Proofs.YtcfpfefadlnmcaaGreat

namespace Go.Proofs.YtcfpfefadlnmcaaGreat
open Go.Mach Go.RowKit
set_option maxRecDepth 100000
set_option linter.unusedVariables false
set_option linter.unusedSimpArgs false
theorem aGm {x:Int}(h:(Lit.int IntKind.i8 x).wf=true) : -128<=x/\x<=127:=by
 have:=aGI h
 have e1:IntKind.i8.min = -128:=by decide
 have e2:IntKind.i8.max=127:=by decide
 rw[e1,e2]at this
 exact this
theorem aF0 {x n:Int}(h1:1<=x)(h2:x<=4096)(h3:1<=n)(h4:n<=8192):(IntKind.i64.wrap ((8192:Int).tdiv x)<n) ↔ 8192<n*x:=by
 have e:(8192:Int).tdiv x=8192 / x:=Int.tdiv_eq_ediv_of_nonneg (by omega)
 have h5:0<=(8192:Int) / x:=Int.ediv_nonneg (by omega) (by omega)
 have h6:(8192:Int) / x<=8192:=Int.ediv_le_self _ (by omega)
 rw[e,aA _ (by omega) (by omega),Int.ediv_lt_iff_lt_mul (by omega)]
theorem TI {acc d:Int}{r:List Int}(h1:1<=acc)(h2:acc<=8192):rJ acc (d::r)=if (decide (d<1)||decide (4096<d))=true then 0 else if 8192<acc*d then 0 else rJ (acc*d) r:=by
 by_cases hd:(decide (d<1)||decide (4096<d))=true
 ·rw[if_pos hd]
  unfold rJ
  rw[if_pos (by rw[hd];rfl)]
 ·rw[if_neg hd]
  simp only[Bool.or_eq_true,decide_eq_true_eq,not_or]at hd
  have hb:=A6 acc d 8192 4096 (by omega) (by omega) (by omega) (by omega) (by omega)
  have hw:IntKind.i64.wrap (acc*d)=acc*d:=aA _ (by omega) (by omega)
  have e1:decide (d<1)=false:=by simp;omega
  have e2:decide (4096<d)=false:=by simp;omega
  by_cases h3:8192<acc*d
  ·rw[if_pos h3]
   unfold rJ
   rw[hw,if_pos (by simp[h3])]
  ·rw[if_neg h3]
   show(if ((decide (d<1)||decide (4096<d))||decide (8192<IntKind.i64.wrap (acc*d)))=true then 0 else rJ (IntKind.i64.wrap (acc*d)) r)=_
   rw[hw,if_neg (by rw[e1,e2];simp;omega)]
theorem TK {l:List Int}{i:Nat}(h:i<l.length):l.drop i=l.getD i 0::l.drop (i+1):=by
 rw[List.drop_eq_getElem_cons h,List.getD_eq_getElem?_getD,List.getElem?_eq_getElem h];rfl
theorem XE {a d:Int}(h1:1<=a)(h2:1<=d):1<=a*d:=by
 have:=Int.mul_pos (show 0<a by omega) (show 0<d by omega)
 omega
theorem E6 {l:List Int}{Q:Bool->Prop}(h:Q (decide (0<szF l))):dW l Q:=by
 refine⟨?_⟩
 unfold szF at h
 by_cases e:(decide ((l.length:Int)<1)||decide (4<(l.length:Int)))=true
 ·rw[if_pos e]at h⊢;exact h
 ·rw[if_neg e]at h⊢
  have hl:l.length<=4:=by simp only[Bool.or_eq_true,decide_eq_true_eq,not_or]at e;omega
  obtain⟨z,hz⟩:∃ z,rJ 1 l=z:=⟨_,rfl⟩
  rw[hz]at h
  refine⟨?_⟩
  refine Loop.inv (n:=l.length) (fun m s=>∃ i:Nat,i+m=l.length/\s.2=(i:Int)/\1<=s.1/\s.1<=8192/\rJ s.1 (l.drop i)=z) ⟨0,by omega,rfl,by show 1<=(1:Int);omega,by show(1:Int)<=8192;omega,hz⟩ ?_
  rintro m ⟨acc,i'⟩ X ⟨i,hi,he,ha,hb,hzz⟩ hX
  simp only at he ha hb hzz
  subst he
  unfold nA
  by_cases hlt:i<l.length
  ·rw[TK hlt,TI ha hb]at hzz
   rw[if_pos (decide_eq_true (show(i:Int)<(l.length:Int) by omega))]
   dsimp only
   refine⟨by omega,?_⟩
   rw[Int.toNat_natCast]
   generalize l.getD i 0=d at hzz⊢
   show(if (decide (d<1)||decide (4096<d))=true then _ else _)
   by_cases hd:(decide (d<1)||decide (4096<d))=true
   ·rw[if_pos hd]at hzz⊢
    show(if true=true then _ else _)
    rw[if_pos rfl]
    have:decide (0<z)=false:=by rw[<- hzz];rfl
    rw[this]at h;exact h
   ·rw[if_neg hd]at hzz⊢
    simp only[Bool.or_eq_true,decide_eq_true_eq,not_or]at hd
    refine⟨by omega,?_⟩
    have ht:=aF0 (x:=d) (n:=acc) (by omega) (by omega) ha hb
    show(if (decide (IntKind.i64.wrap ((8192:Int).tdiv d)<acc))=true then _ else _)
    by_cases h3:8192<acc*d
    ·rw[if_pos h3]at hzz
     rw[if_pos (decide_eq_true (ht.2 h3))]
     have:decide (0<z)=false:=by rw[<- hzz];rfl
     rw[this]at h;exact h
    ·rw[if_neg h3]at hzz
     rw[if_neg (by simp;exact Int.not_lt.1 (fun hh=>h3 (ht.1 hh)))]
     have hb2:=A6 acc d 8192 4096 (by omega) (by omega) (by omega) (by omega) (by omega)
     rw[aA (acc*d) (by omega) (by omega),aA ((i:Int)+1) (by omega) (by omega)]
     exact hX (m-1) _ (by omega) ⟨i+1,by omega,rfl,XE ha (by omega),by show acc*d<=8192;omega,hzz⟩
  ·have hil:i=l.length:=by omega
   subst hil
   rw[if_neg (by simp)]
   rw[List.drop_length]at hzz
   unfold rJ at hzz
   have:decide (0<z)=true:=by rw[<- hzz];exact decide_eq_true (by omega)
   rw[this]at h;exact h
theorem NP {l:List Int}{Q:Int->Prop}(h:Q (szF l)):gE l Q:=by
 refine⟨?_⟩
 refine E6 ?_
 by_cases hp:0<szF l
 ·rw[if_neg (by simp[hp])]
  have hp2:=hp
  unfold szF at hp2 h
  split at hp2
  ·omega
  ·rename_i e
   rw[if_neg e]at h
   have hl:l.length<=4:=by simp only[Bool.or_eq_true,decide_eq_true_eq,not_or]at e;omega
   obtain⟨z,hz⟩:∃ z,rJ 1 l=z:=⟨_,rfl⟩
   rw[hz]at h hp2
   refine⟨?_⟩
   refine Loop.inv (n:=l.length) (fun m s=>∃ i:Nat,i+m=l.length/\s.2=(i:Int)/\1<=s.1/\s.1<=8192/\rJ s.1 (l.drop i)=z) ⟨0,by omega,rfl,by show 1<=(1:Int);omega,by show(1:Int)<=8192;omega,hz⟩ ?_
   rintro m ⟨acc,i'⟩ X ⟨i,hi,he,ha,hb,hzz⟩ hX
   simp only at he ha hb hzz
   subst he
   unfold qD
   by_cases hlt:i<l.length
   ·rw[TK hlt,TI ha hb]at hzz
    rw[if_pos (decide_eq_true (show(i:Int)<(l.length:Int) by omega))]
    dsimp only
    refine⟨by omega,?_⟩
    rw[Int.toNat_natCast]
    generalize l.getD i 0=d at hzz⊢
    split at hzz
    ·omega
    ·rename_i hd
     simp only[Bool.or_eq_true,decide_eq_true_eq,not_or]at hd
     split at hzz
     ·omega
     ·have hb2:=A6 acc d 8192 4096 (by omega) (by omega) (by omega) (by omega) (by omega)
      rw[aA (acc*d) (by omega) (by omega),aA ((i:Int)+1) (by omega) (by omega)]
      exact hX (m-1) _ (by omega) ⟨i+1,by omega,rfl,XE ha (by omega),by show acc*d<=8192;omega,hzz⟩
   ·have hil:i=l.length:=by omega
    subst hil
    rw[if_neg (by simp)]
    rw[List.drop_length]at hzz
    unfold rJ at hzz
    dsimp only
    rw[hzz]
    exact h
 ·rw[if_pos (by simp;omega)]
  have:szF l=0:=by have:=zV l;omega
  rw[this]at h;exact h
theorem aG5 {n k s p:Int}{Q:Int->Prop}(hp : -1000000<=p/\p<=1000000)(h:Q (aL n k s p)):jJ n k s p Q:=by
 refine⟨?_⟩
 unfold aL sK inP at h
 by_cases h1:(1<=n/\n<=16)/\(1<=k/\k<=5)
 ·rw[aA (2*p) (by omega) (by omega),aA (n+2*p) (by omega) (by omega)]
  by_cases h2:(1<=s/\s<=4)/\(0<=p/\p<=k-1)/\k<=n+2*p
  ·rw[if_neg (by simp;omega)]at h
   rw[if_neg (by simp;omega)]
   have d0:0<=(n+2*p-k) / s:=Int.ediv_nonneg (by omega) (by omega)
   have d1:(n+2*p-k) / s<=n+2*p-k:=Int.ediv_le_self _ (by omega)
   refine⟨by omega,?_⟩
   rw[aA (n+2*p-k) (by omega) (by omega),Int.tdiv_eq_ediv_of_nonneg (by omega),aA ((n+2*p-k) / s) (by omega) (by omega),aA _ (by omega) (by omega)]
   exact h
  ·rw[if_pos (by simp;omega)]at h
   rw[if_pos (by simp;omega)]
   exact h
 ·rw[if_pos (by simp;omega)]at h
  rw[if_pos (by simp;omega)]
  exact h
end Go.Proofs.YtcfpfefadlnmcaaGreat

namespace Go.Proofs.YtcfpfefadlnmcaaGreat
open Go.Mach Go.RowKit
set_option maxRecDepth 100000
set_option linter.unusedVariables false
set_option linter.unusedSimpArgs false
theorem aC4 {B:Int->(Int->Prop)->Prop}(a b:List Int)(hl:a.length=b.length){K0 K1:Prop}(step:∀ i:Nat,i<a.length->∀ X:Int->Prop,(a.getD i 0=b.getD i 0->X ((i+1:Nat):Int))->(a.getD i 0≠b.getD i 0->K1)->B (i:Int) X)(last:K0->∀ X,B (a.length:Int) X)(h:if a=b then K0 else K1):Go.Mach.Loop B 0:=by
 refine Loop.range (B:=B) (f:=fun i:Nat=>(i:Int)) a.length (fun i=>∀ j,j<i->a.getD j 0=b.getD j 0) (fun j hj=>absurd hj (by omega)) ?_ ?_
 ·intro i hi hI X hX
  refine step i hi X (fun e=>hX fun j hj => ?_) (fun e => ?_)
  ·by_cases g:j=i
   ·subst g;exact e
   ·exact hI j (by omega)
  ·rw[if_neg (fun g=>e (by rw[g]))]at h
   exact h
 ·intro hI X
  refine last ?_ X
  rw[if_pos (aB9 hl hI)]at h
  exact h
theorem VG {a b:List Int}{Q:Bool->Prop}(hl:a.length<=1000000)(h:Q (decide (a=b))):bZ a b Q:=by
 refine⟨?_⟩
 by_cases e:a.length=b.length
 ·rw[if_neg (by simp[e])]
  refine⟨?_⟩
  refine aC4 (B:=eO a b (a.length:Int) _ _) a b e (K0:=Q true) (K1:=Q false) ?_ ?_ ?_
  ·intro i hi X hX hK
   unfold eO
   rw[if_pos (by simpa using hi)]
   refine⟨by omega,by omega,?_⟩
   simp only[Int.toNat_natCast]
   by_cases g:a.getD i 0=b.getD i 0
   ·rw[if_neg (by simpa using g),aA _ (by omega) (by omega)];exact hX g
   ·rw[if_pos (by simpa using g)];exact hK g
  ·intro hK X
   unfold eO
   rw[if_neg (by simp)]
   exact hK
  ·by_cases g:a=b
   ·rw[if_pos g];simpa [g] using h
   ·rw[if_neg g];simpa [g] using h
 ·rw[if_pos (by simp;omega)]
  rw[decide_eq_false (fun g=>e (by rw[g]))]at h
  exact h
end Go.Proofs.YtcfpfefadlnmcaaGreat

namespace Go.Proofs.YtcfpfefadlnmcaaGreat
open Go.Mach Go.RowKit
set_option maxRecDepth 100000
set_option linter.unusedVariables false
set_option linter.unusedSimpArgs false
theorem aBM {n k s p:Int}{Q:Int->Prop}(h:Q (aL n k s p)):jJ n k s p Q:=by
 by_cases hp:0<=p/\p<k/\k<=5
 ·exact aG5 (by omega) h
 ·refine⟨?_⟩
  unfold aL sK inP at h
  rw[if_pos (by simp;omega)]at h
  rw[if_pos (by simp;omega)]
  exact h
end Go.Proofs.YtcfpfefadlnmcaaGreat

namespace Go.Proofs.YtcfpfefadlnmcaaGreat
open Go.Mach Go.RowKit
set_option maxRecDepth 100000
set_option linter.unusedVariables false
set_option linter.unusedSimpArgs false
end Go.Proofs.YtcfpfefadlnmcaaGreat

namespace Go.Proofs.YtcfpfefadlnmcaaGreat
open Go.Mach
set_option maxRecDepth 100000
set_option linter.unusedVariables false
set_option linter.unusedSimpArgs false
theorem B4 {a lo hi:Int}{Q:Bool->Prop}(h:Q (inP a lo hi)):bC a lo hi Q:=⟨h⟩
theorem aEK {a:Int×Int×Int}{Q:Bool->Prop}(h:Q (nT a)):nI a Q:=by
 refine⟨B4 ?_⟩
 unfold nT at h
 refine tD (c:=inP a.2.1 1 16) (fun _ P hP=>B4 hP) (fun v e => ?_) rfl
 refine tD (c:=inP a.2.2 1 16) (fun _ P hP=>B4 hP) (fun v2 e2 => ?_) rfl
 rw[e2,e]
 exact h
theorem N6 {K:Unit->Prop}(h:K ()):cM K:=⟨h⟩
theorem aFF {x:Lay}{n:Int}{Q:Bool->Prop}(h:Q (m8 x n)):kN x n Q:=by
 obtain⟨kd,ou,k,st,pd,fr,fz⟩:=x
 refine⟨?_⟩
 dsimp only
 unfold m8 at h
 dsimp only at h
 have fin:∀ {b:Bool} {k' st' fr':Int},(b&&((kd==kd)&&((ou==0)&&((k==k')&&((st==st')&&((pd==0)&&((fr==fr')&&((fz==false)&&(true)))))))))
  = (b&&((ou==0)&&((k==k')&&((st==st')&&((pd==0)&&((fr==fr')&&(fz==false))))))):=by
  intro b k' st' fr'
  simp
 by_cases h1:kd=1
 ·rw[if_pos h1]at h
  rw[if_pos (by simpa using h1)]
  refine B4 (N6 (cast (congrArg Q ?_) h))
  simp
 rw[if_neg h1]at h
 rw[if_neg (by simpa using h1)]
 by_cases h2:kd=2
 ·rw[if_pos h2]at h
  rw[if_pos (by simpa using h2)]
  refine B4 ?_
  refine tD (c:=inP k 1 5) (fun _ P hP=>B4 hP) (fun v e => ?_) rfl
  refine tD (c:=inP st 1 4) (fun _ P hP=>B4 hP) (fun v2 e2 => ?_) rfl
  refine tD (c:=inP pd 0 (IntKind.i64.wrap (k-1))) (fun _ P hP=>B4 hP) (fun v3 e3 => ?_) rfl
  refine N6 (cast (congrArg Q ?_) h)
  rw[e3,e2,e]
  unfold Z4
  simp[Bool.and_assoc]
 rw[if_neg h2]at h
 rw[if_neg (by simpa using h2)]
 have win:∀ {K0:Bool×Int×Int×Int->Prop} {K1:Unit->Prop} {x1:Bool},K0 (Z4 (kd,ou,k,st,pd,fr,fz),k,st,0)->fF n x1 kd true k st fr 0 0 0 K0 K1:=by
  intro K0 K1 x1 hK
  refine⟨?_⟩
  rw[if_pos rfl]
  refine B4 ?_
  refine tD (c:=inP st 1 4) (fun _ P hP=>B4 hP) (fun v e => ?_) rfl
  rw[e]
  exact hK
 by_cases h3:kd=3
 ·rw[if_pos (.inl h3)]at h
  rw[if_pos (by simpa using h3)]
  have e3:(kd==3)=true:=by simpa using h3
  rw[e3]
  refine win (N6 (cast (congrArg Q ?_) h))
  rw[fin]
  simp
 rw[if_neg (by simpa using h3)]
 by_cases h4:kd=4
 ·rw[if_pos (.inr h4)]at h
  have e4:(kd==4)=true:=by simpa using h4
  rw[e4]
  refine win (N6 (cast (congrArg Q ?_) h))
  rw[fin]
  simp
 rw[if_neg (by omega)]at h
 have e4:(kd==4)=false:=by simpa using h4
 rw[e4]
 refine⟨?_⟩
 rw[if_neg (by simp)]
 by_cases h5:kd=5
 ·rw[if_pos (.inl h5)]at h
  have e5:(kd==5)=true:=by simpa using h5
  rw[if_pos e5,e5]
  refine⟨?_⟩
  rw[if_pos rfl]
  refine N6 (cast (congrArg Q ?_) h)
  rw[fin]
  simp
 rw[if_neg (by simpa using h5)]
 by_cases h6:kd=6
 ·rw[if_pos (.inr h6)]at h
  have e6:(kd==6)=true:=by simpa using h6
  rw[e6]
  refine⟨?_⟩
  rw[if_pos rfl]
  refine N6 (cast (congrArg Q ?_) h)
  rw[fin]
  simp
 rw[if_neg (by omega)]at h
 have e6:(kd==6)=false:=by simpa using h6
 rw[e6]
 refine⟨?_⟩
 rw[if_neg (by simp)]
 by_cases h7:kd=7
 ·rw[if_pos h7]at h
  rw[if_pos (by simpa using h7)]
  refine B4 (N6 (cast (congrArg Q ?_) h))
  rw[fin]
  simp
 ·rw[if_neg h7]at h
  rw[if_neg (by simpa using h7)]
  exact h
theorem aFT {m:Mdl}{Q:Bool->Prop}(hl:m.2.length<=10000000000000)(h:Q (q7 m)):kM m Q:=by
 refine⟨aEK ?_⟩
 unfold q7 at h
 refine nL (c := !inP (m.2.length:Int) 1 12) (fun _ P hP=>B4 hP) (fun v e => ?_) rfl
 cases v with
 | true =>
   rw[if_pos rfl]
   have e:(!nT m.1 || !inP (m.2.length:Int) 1 12)=true:=e.symm
   have:(nT m.1&&inP (m.2.length:Int) 1 12)=false:=by
    revert e
    cases nT m.1 <;> cases inP (m.2.length:Int) 1 12 <;> simp
   rw[this]at h
   exact h
 | false =>
   rw[if_neg (by simp)]
   have e:(!nT m.1 || !inP (m.2.length:Int) 1 12)=false:=e.symm
   have:(nT m.1&&inP (m.2.length:Int) 1 12)=true:=by
    revert e
    cases nT m.1 <;> cases inP (m.2.length:Int) 1 12 <;> simp
   rw[this,Bool.true_and]at h
   refine⟨?_⟩
   refine Loop.range (B:=d7 m.2 (m.2.length:Int) (fun _=>Q true) (fun _=>Q false)) m.2.length (fun i=>(i:Int)) (fun i=>∀ j,j<i->m8 (m.2.getD j aG) j=true) (fun j hj=>absurd hj (by omega)) ?_ ?_
   ·intro i hi hI X hX
    unfold d7
    rw[if_pos (decide_eq_true (show(i:Int)<(m.2.length:Int) by omega))]
    refine⟨by omega,aFF ?_⟩
    simp only[Int.toNat_natCast]
    show if (!m8 (m.2.getD i aG) i)=true then _ else _
    cases hb:m8 (m.2.getD i aG) i with
    | true =>
      rw[if_neg (by simp),aA _ (by omega) (by omega)]
      refine hX fun j hj => ?_
      by_cases hji:j=i
      ·subst hji;exact hb
      ·exact hI j (by omega)
    | false =>
      rw[if_pos (by rfl)]
      have:FS m.2=false:=by
       unfold FS
       rw[List.all_eq_false]
       exact⟨i,List.mem_range.2 hi,by rw[hb];simp⟩
      rw[this]at h
      exact h
   ·intro hI X
    unfold d7
    rw[if_neg (by simp)]
    have:FS m.2=true:=by
     unfold FS
     rw[List.all_eq_true]
     intro j hj
     exact hI j (List.mem_range.1 hj)
    rw[this]at h
    exact h
def DimOk (d:List Int):Prop:=(∃ n,d=[n]/\1<=n/\n<=4096)\/∃ c p q,d=[c,p,q]/\(1<=c/\c<=8)/\(1<=p/\p<=20)/\(1<=q/\q<=20)
theorem aHd {c p q:Int}(h1:1<=c/\c<=8)(h2:1<=p/\p<=20)(h3:1<=q/\q<=20):1<=c*p*q/\c*p*q<=3200/\1<=c*p/\c*p<=160:=by
 have a1:c*p<=8*20:=Int.mul_le_mul h1.2 h2.2 (by omega) (by omega)
 have a2:1*1<=c*p:=Int.mul_le_mul h1.1 h2.1 (by omega) (by omega)
 have a3:c*p*q<=160*20:=Int.mul_le_mul (by omega) h3.2 (by omega) (by omega)
 have a4:1*1<=c*p*q:=Int.mul_le_mul (by omega) h3.1 (by omega) (by omega)
 omega
theorem DimOk.sz {d:List Int}(h:DimOk d):0<szF d/\oZ d=szF d/\szF d<=4096/\d≠[]/\d.length<=3/\1<=d.getD 0 0/\d.getD 0 0<=4096:=by
 rcases h with⟨n,rfl,h1,h2⟩|⟨c,p,q,rfl,h1,h2,h3⟩
 ·rw[aE4 h1 h2]
  refine⟨by omega,?_,by omega,by simp,by simp,by simpa using h1,by simpa using h2⟩
  show IntKind.i64.wrap (1*n)=n
  rw[Int.one_mul,aA _ (by omega) (by omega)]
 ·obtain⟨a1,a2,a3,a4⟩:=aHd h1 h2 h3
  have e:szF [c,p,q]=c*p*q:=by
   rw[ZN (by simp) (by intro d hd;simp at hd;omega) (by show c*(p*(q*1))<=8192;rw[Int.mul_one,<- Int.mul_assoc];omega)]
   show c*(p*(q*1))=_
   rw[Int.mul_one,Int.mul_assoc]
  rw[e]
  refine⟨by omega,?_,by omega,by simp,by simp,by simpa using h1.1,by show c<=4096;omega⟩
  show IntKind.i64.wrap (IntKind.i64.wrap (IntKind.i64.wrap (1*c)*p)*q)=c*p*q
  rw[Int.one_mul,aA c (by omega) (by omega),aA (c*p) (by omega) (by omega),aA _ (by omega) (by omega)]
theorem FI {n k s p:Int}(h:aL n k s p≠0):1<=aL n k s p/\aL n k s p<=20:=by
 have:=vW n k s p
 obtain⟨a,b,c,d,e,f⟩:=nE (n:=n) (k:=k) (s:=s) (p:=p) (by omega)
 have h1:(n+2*p-k) / s<=n+2*p-k:=Int.ediv_le_self _ (by omega)
 omega
theorem TY {d:List Int}{c:Int}{x:Lay}(hc:1<=c/\c<=8)(h:eU d c x≠[]):DimOk (eU d c x):=by
 unfold eU at h⊢
 split at h
 ·rename_i h3
  rw[if_pos h3]
  split at h
  ·exact absurd rfl h
  ·rename_i h4
   rw[if_neg h4]
   exact .inr ⟨_,_,_,rfl,hc,FI (fun e=>h4 (.inl e)),FI (fun e=>h4 (.inr e))⟩
 ·exact absurd rfl h
theorem AW {x:Lay}{n:Int}(h:m8 x n=true):(x.1=1/\1<=x.2.1/\x.2.1<=4096)\/(x.1=2/\1<=x.2.1/\x.2.1<=8)\/((x.1=3\/x.1=4)/\x.2.2.2.2.1=0)\/x.1=5\/x.1=6\/x.1=7:=by
 unfold m8 at h
 split at h
 ·simp only[Bool.and_eq_true,inP,decide_eq_true_eq]at h
  exact .inl ⟨by assumption,h.1⟩
 split at h
 ·simp only[Bool.and_eq_true,inP,decide_eq_true_eq]at h
  exact .inr (.inl ⟨by assumption,h.1.1.1⟩)
 split at h
 ·simp only[Bool.and_eq_true,beq_iff_eq]at h
  exact .inr (.inr (.inl ⟨by assumption,h.2.2.1⟩))
 split at h
 ·rename_i e;rcases e with e|e
  ·exact .inr (.inr (.inr (.inl e)))
  ·exact .inr (.inr (.inr (.inr (.inl e))))
 split at h
 ·rename_i e;exact .inr (.inr (.inr (.inr (.inr e))))
 ·cases h
theorem JQ {x:Lay}{l:List (List Int)}{d:List Int}{n:Int}(hm:m8 x n=true)(hd:DimOk d)(h:bX x l d≠[]):DimOk (bX x l d):=by
 unfold bX at h⊢
 rcases AW hm with⟨e,h1,h2⟩|⟨e,h1,h2⟩|⟨e,h1⟩|e|e|e
 ·rw[if_pos e]at h⊢
  split at h
  ·rename_i h3;rw[if_pos h3];exact .inl ⟨_,rfl,h1,h2⟩
  ·exact absurd rfl h
 ·rw[if_neg (by omega),if_pos e]at h⊢
  exact TY ⟨h1,h2⟩ h
 ·rw[if_neg (by omega),if_neg (by omega),if_pos e]at h⊢
  refine TY ?_ h
  unfold eU at h
  split at h
  ·rename_i h3
   rcases hd with⟨n,rfl,_⟩|⟨c,p,q,rfl,hc,_⟩
   ·simp at h3
   ·exact hc
  ·exact absurd rfl h
 ·rw[if_neg (by omega),if_neg (by omega),if_neg (by omega),if_pos e]
  exact hd
 ·rw[if_neg (by omega),if_neg (by omega),if_neg (by omega),if_neg (by omega),if_pos e]
  obtain⟨q1,q2,q3,_⟩:=hd.sz
  exact .inl ⟨_,rfl,by omega,by omega⟩
 ·rw[if_neg (by omega),if_neg (by omega),if_neg (by omega),if_neg (by omega),if_neg (by omega),if_pos e]at h⊢
  split at h
  ·rename_i h3;rw[if_pos h3];exact hd
  ·exact absurd rfl h
theorem P2 {a b k s p:Int}{Q:Int×Int->Prop}(h:Q (aL a k s p,aL b k s p)):gZ a b k s p Q:=⟨aBM (aBM h)⟩
theorem aFR {l:List Int}{K0:Int->Prop}(hl:l.length<=1000000)(h:K0 (oZ l)):eH l (l.length:Int) K0 (1,0):=by
 refine⟨?_⟩
 refine Loop.range (B:=fT l (l.length:Int) K0) l.length (fun i=>(oZ (l.take i),(i:Int))) (fun _=>True) trivial ?_ ?_
 ·intro i hi _ X hX
  unfold fT
  dsimp only
  rw[if_pos (decide_eq_true (show(i:Int)<(l.length:Int) by omega))]
  refine⟨by omega,?_⟩
  rw[Int.toNat_natCast,aA ((i:Int)+1) (by omega) (by omega)]
  have hX:=hX trivial
  have e:oZ (l.take (i+1))=IntKind.i64.wrap (oZ (l.take i)*l.getD i 0):=by
   rw[zD hi 0];unfold oZ;rw[List.foldl_append];rfl
  rw[e]at hX
  exact hX
 ·intro _ X
  unfold fT
  rw[if_neg (by simp)]
  dsimp only
  rw[List.take_length]
  exact h
theorem aD2 {x:Lay}{d:List Int}{l:List (List Int)}{n:Int}{Q:List Int×Bool->Prop}(hm:m8 x n=true)(hd:DimOk d)(hx:x.1=7->0<=x.2.2.2.2.2.1/\x.2.2.2.2.2.1<(l.length:Int))(h1:bX x l d≠[]->Q (bX x l d,true))(h2:bX x l d=[]->∀ r,Q (r,false)):nM x d l Q:=by
 obtain⟨z1,z2,z3,z4,z5,z6,z7⟩:=hd.sz
 refine⟨?_⟩
 have pl:∀ c:Int,(eU d c x≠[]->Q (eU d c x,true))->(eU d c x=[]->∀ r,Q (r,false))->(((d.length:Int) != 3)=true->Q ([],false))/\(((d.length:Int) != 3)=false->d.length=3/\bU (aL (d.getD 1 0) x.2.2.1 x.2.2.2.1 x.2.2.2.2.1) (aL (d.getD 2 0) x.2.2.1 x.2.2.2.1 x.2.2.2.2.1) fun y=>Q ([c,aL (d.getD 1 0) x.2.2.1 x.2.2.2.1 x.2.2.2.2.1,aL (d.getD 2 0) x.2.2.1 x.2.2.2.1 x.2.2.2.2.1],y)):=by
  intro c k1 k2
  refine⟨fun h => ?_,fun h => ?_⟩
  ·refine k2 ?_ _
   unfold eU
   rw[if_neg (by intro e;rw[e]at h;simp at h)]
  ·have h3:d.length=3:=by have:(d.length:Int)=3:=by simpa using h
                          omega
   refine⟨h3,⟨?_⟩⟩
   unfold eU at k1 k2
   rw[if_pos h3]at k1 k2
   obtain⟨a1,_⟩:=vW (d.getD 1 0) x.2.2.1 x.2.2.2.1 x.2.2.2.2.1
   obtain⟨b1,_⟩:=vW (d.getD 2 0) x.2.2.1 x.2.2.2.1 x.2.2.2.2.1
   by_cases h4:aL (d.getD 1 0) x.2.2.1 x.2.2.2.1 x.2.2.2.2.1=0\/aL (d.getD 2 0) x.2.2.1 x.2.2.2.1 x.2.2.2.2.1=0
   ·rw[if_pos h4]at k2
    have e:(decide (0<aL (d.getD 1 0) x.2.2.1 x.2.2.2.1 x.2.2.2.2.1)&&decide (0<aL (d.getD 2 0) x.2.2.1 x.2.2.2.1 x.2.2.2.2.1))=false:=by
     simp only[Bool.and_eq_false_iff,decide_eq_false_iff_not];omega
    rw[e]
    exact k2 rfl _
   ·rw[if_neg h4]at k1
    have e:(decide (0<aL (d.getD 1 0) x.2.2.1 x.2.2.2.1 x.2.2.2.2.1)&&decide (0<aL (d.getD 2 0) x.2.2.1 x.2.2.2.1 x.2.2.2.2.1))=true:=by
     simp only[Bool.and_eq_true,decide_eq_true_eq];omega
    rw[e]
    exact k1 (by simp)
 have dd:0<d.length:=List.length_pos_iff.2 z4
 unfold bX at h1 h2
 rcases AW hm with⟨e,_⟩|⟨e,_⟩|⟨e,_⟩|e|e|e
 ·rw[if_pos e]at h1 h2
  rw[if_pos (by simpa using e)]
  by_cases h3:d.length=1
  ·rw[if_pos h3]at h1
   have:((d.length:Int)==1)=true:=by simp[h3]
   rw[this];exact h1 (by simp)
  ·rw[if_neg h3]at h2
   have:((d.length:Int)==1)=false:=by simp;omega
   rw[this];exact h2 rfl _
 ·rw[if_neg (by omega),if_pos e]at h1 h2
  obtain⟨p1,p2⟩:=pl x.2.1 h1 h2
  have e2:(x.1==2)=true:=by simpa using e
  rw[if_neg (by simp[e]),if_pos e2,if_pos e2]
  split
  ·exact p1 (by assumption)
  ·rename_i hn
   obtain⟨g1,g2⟩:=p2 (by simpa using hn)
   exact⟨by omega,by omega,P2 ⟨by omega,g2⟩⟩
 ·rw[if_neg (by omega),if_neg (by omega),if_pos e]at h1 h2
  obtain⟨p1,p2⟩:=pl (d.getD 0 0) h1 h2
  rw[if_neg (by simp;omega),if_neg (by simp;omega)]
  rcases e with e|e
  ·have e2:(x.1==3)=true:=by simpa using e
   rw[if_pos e2,if_pos e2]
   split
   ·exact p1 (by assumption)
   ·rename_i hn
    obtain⟨g1,g2⟩:=p2 (by simpa using hn)
    refine⟨by omega,by omega,P2 ⟨by omega,?_⟩⟩
    rw[if_neg (by simp;omega)]
    exact g2
  ·have e2:(x.1==4)=true:=by simpa using e
   rw[if_neg (by simp;omega),if_pos e2]
   split
   ·exact p1 (by assumption)
   ·rename_i hn
    obtain⟨g1,g2⟩:=p2 (by simpa using hn)
    refine⟨by omega,by omega,P2 ⟨by omega,?_⟩⟩
    rw[if_neg (by simp;omega)]
    exact g2
 ·rw[if_neg (by omega),if_neg (by omega),if_neg (by omega),if_pos e]at h1 h2
  rw[if_neg (by simp;omega),if_neg (by simp;omega),if_neg (by simp;omega),if_neg (by simp;omega),if_neg (by simp;omega),if_neg (by simp;omega)]
  exact⟨by omega,h1 z4⟩
 ·rw[if_neg (by omega),if_neg (by omega),if_neg (by omega),if_neg (by omega),if_pos e]at h1 h2
  rw[if_neg (by simp;omega),if_neg (by simp;omega),if_neg (by simp;omega),if_neg (by simp;omega),if_pos (by simpa using e)]
  exact aFR (by omega) (h1 (by simp))
 ·rw[if_neg (by omega),if_neg (by omega),if_neg (by omega),if_neg (by omega),if_neg (by omega),if_pos e]at h1 h2
  rw[if_neg (by simp;omega),if_neg (by simp;omega),if_neg (by simp;omega),if_neg (by simp;omega),if_neg (by simp;omega),if_pos (by simpa using e)]
  refine⟨by omega,hx e,VG (by omega) ?_⟩
  by_cases h3:l.getD x.2.2.2.2.2.1.toNat []=d
  ·rw[if_pos h3]at h1
   rw[decide_eq_true (show d=l.getD x.2.2.2.2.2.1.toNat []from h3.symm)]
   exact h1 z4
  ·rw[if_neg h3]at h2
   rw[decide_eq_false (show ¬ d=l.getD x.2.2.2.2.2.1.toNat []from fun e=>h3 e.symm)]
   exact h2 rfl _
end Go.Proofs.YtcfpfefadlnmcaaGreat

namespace Go.Proofs.YtcfpfefadlnmcaaGreat
open Go.Mach
set_option maxRecDepth 100000
set_option linter.unusedVariables false
set_option linter.unusedSimpArgs false
theorem V4 {m:Mdl}(h:q7 m=true):(∃ c p q,inL m=[c,p,q]/\(1<=c/\c<=8)/\(1<=p/\p<=16)/\(1<=q/\q<=16))/\DimOk (inL m):=by
 obtain⟨⟨h1,h2,h3⟩,_⟩:=iC h
 exact⟨⟨_,_,_,rfl,h1,h2,h3⟩,.inr ⟨_,_,_,rfl,h1,by omega,by omega⟩⟩
theorem N8 {m:Mdl}(h:q7 m=true):aF m=cB m.2 0 [inL m]:=by
 obtain⟨_,h2⟩:=V4 h
 obtain⟨q1,q2,q3,_⟩:=h2.sz
 unfold aF
 rw[if_pos h,if_neg (by omega)]
theorem FO {x:Lay}{r:List Lay}{i:Int}{l:List (List Int)}{n:Int}(hm:m8 x n=true)(hd:DimOk (l.getD (l.length-1) [])) :
 cB (x::r) i l=if bX x l (l.getD (l.length-1) [])=[]then([],i+1,2)else cB r (i+1) (l++[bX x l (l.getD (l.length-1) [])]):=by
 rw[cB]
 split
 ·rfl
 ·rename_i h
  have hg:=JQ hm hd h
  obtain⟨q1,q2,q3,_⟩:=hg.sz
  rw[if_neg (by omega)]
theorem aDd {m:Mdl}{i:Nat}(h:q7 m=true)(hi:i<m.2.length):m8 (m.2.getD i aG) i=true/\((m.2.getD i aG).1=7->0<=(m.2.getD i aG).2.2.2.2.2.1/\(m.2.getD i aG).2.2.2.2.2.1<=(i:Int)-1):=by
 obtain⟨_,⟨k1,k2⟩,k3⟩:=iC h
 refine⟨k3 i hi,fun h7 => ?_⟩
 have:=vV (k3 i hi) h7
 rw[aA ((i:Int)-1) (by omega) (by omega)]at this
 exact this
theorem JU {m:Mdl}{Q:List (List Int)×Int×Int->Prop}(hl:m.2.length<=10000000000000)(h:Q (aF m)):fV m Q:=by
 refine⟨aFT hl ?_⟩
 cases hm:q7 ((m.1.1,m.1.2.1,m.1.2.2),m.2)with
 | false =>
   unfold aF at h
   have hm:q7 m=false:=hm
   rw[hm,if_neg (by simp)]at h
   exact h
 | true =>
   have hm:q7 m=true:=hm
   rw[if_neg (by simp)]
   rw[N8 hm]at h
   obtain⟨_,⟨k1,k2⟩,k3⟩:=iC hm
   refine⟨?_⟩
   refine Loop.rangeI (B:=fJ m.2 (m.2.length:Int) (fun y=>Q (y,0,0)) (fun y=>Q ([],y.1,y.2))) m.2.length
    (fun i z=>z.1=(i:Int)/\z.2.length=i+1/\(∀ d∈z.2,DimOk d)/\Q (cB (m.2.drop i) i z.2))
    ⟨rfl,rfl,(fun d hd=>by rw[List.mem_singleton.1 hd];exact(V4 hm).2),by rw[List.drop_zero];exact h⟩ ?_ ?_
   ·rintro i hi ⟨z1,z2⟩ ⟨rfl,e1,hd,hq⟩ X hX
    unfold fJ
    dsimp only at e1 hd hq⊢
    rw[if_pos (decide_eq_true (show(i:Int)<(m.2.length:Int) by omega))]
    refine⟨by omega,by omega,?_⟩
    rw[aA ((i:Int)+1) (by omega) (by omega)]
    simp only[Int.toNat_natCast]
    rw[List.drop_eq_getElem_cons hi]at hq
    have eg:m.2.getD i aG=m.2[i]:=by rw[List.getD_eq_getElem?_getD,List.getElem?_eq_getElem hi];rfl
    rw[<- eg]at hq
    have hdi:DimOk (z2.getD i []):=by
     rw[List.getD_eq_getElem?_getD,List.getElem?_eq_getElem (by omega)]
     exact hd _ (List.getElem_mem _)
    obtain⟨g1,g2⟩:=aDd hm hi
    have el:z2.length-1=i:=by omega
    rw[FO g1 (by rw[el];exact hdi),el]at hq
    refine aD2 (n:=(i:Int)) g1 hdi (fun h7 => ?_) (fun hne => ?_) (fun he r => ?_)
    ·have:=g2 h7
     exact⟨this.1,by show(m.2.getD i aG).2.2.2.2.2.1<(z2.length:Int);omega⟩
    ·rw[if_neg (by simp)]
     have hg:=JQ g1 hdi hne
     obtain⟨q1,q2,q3,_⟩:=hg.sz
     refine E6 ?_
     have q1':0<szF (bX (m.2.getD i aG) z2 (z2.getD i [])):=q1
     rw[decide_eq_true q1',if_neg (by simp)]
     have hne' : ¬ bX (m.2.getD i aG) z2 (z2.getD i [])=[]:=hne
     rw[if_neg hne']at hq
     refine⟨by simp;omega,hX _ ⟨rfl,by simp[e1],?_,hq⟩⟩
     intro d hdm
     rcases List.mem_append.1 hdm with hdm|hdm
     ·exact hd d hdm
     ·rw[List.mem_singleton.1 hdm];exact hg
    ·rw[if_pos (by rfl)]
     have he':bX (m.2.getD i aG) z2 (z2.getD i [])=[]:=he
     rw[if_pos he']at hq
     exact hq
   ·rintro⟨z1,z2⟩ ⟨rfl,e1,hd,hq⟩ X
    unfold fJ
    dsimp only at hq⊢
    rw[if_neg (by simp)]
    rw[List.drop_length]at hq
    exact hq
theorem FH:∀ (r:List Lay) (i:Nat) (l:List (List Int)),(∀ j,j<r.length->m8 (r.getD j aG) ((i+j:Nat):Int)=true)->l≠[]->(∀ d∈l,DimOk d)->(cB r i l).2.2=0->∀ d∈(cB r i l).1,DimOk d
 | [],_,l,_,_,hd,_=>hd
 | x::r,i,l,hm,hl,hd,h=>by
   have hlast:DimOk (l.getD (l.length-1) []):=by
    have:=List.length_pos_iff.2 hl
    rw[List.getD_eq_getElem?_getD,List.getElem?_eq_getElem (by omega)]
    exact hd _ (List.getElem_mem _)
   have hx:m8 x (i:Int)=true:=by
    have:=hm 0 (by simp)
    rw[Nat.add_zero]at this
    exact this
   rw[FO (n:=(i:Int)) hx hlast]at h⊢
   split at h
   ·exact absurd (show(2:Int)=0 from h) (by decide)
   ·rename_i hne
    rw[if_neg hne]
    have e:((i:Int)+1)=((i+1:Nat):Int):=by omega
    rw[e]at h⊢
    refine FH r (i+1) _ (fun j hj => ?_) (by simp) (fun d hdm => ?_) h
    ·have:=hm (j+1) (by simp;omega)
     rw[show i+1+j=i+(j+1) by omega]
     exact this
    ·rcases List.mem_append.1 hdm with hdm|hdm
     ·exact hd d hdm
     ·rw[List.mem_singleton.1 hdm];exact JQ hx hlast hne
theorem uI {m:Mdl}(h:(aF m).2.2=0):q7 m=true/\(aF m).1.length=m.2.length+1/\∀ d∈(aF m).1,DimOk d:=by
 obtain⟨h1,h2⟩:=rW h
 refine⟨h1,h2.len,?_⟩
 have h0:=h
 rw[N8 h1]at h⊢
 obtain⟨_,_,k3⟩:=iC h1
 exact FH m.2 0 [inL m] (fun j hj=>by rw[Nat.zero_add];exact k3 j hj) (by simp) (fun d hd=>by rw[List.mem_singleton.1 hd];exact(V4 h1).2) h
theorem E4 {m:Mdl}(h:(aF m).2.2=0){i:Nat}(hi:i<=m.2.length):DimOk ((aF m).1.getD i []):=by
 obtain⟨_,h2,h3⟩:=uI h
 rw[List.getD_eq_getElem?_getD,List.getElem?_eq_getElem (by omega)]
 exact h3 _ (List.getElem_mem _)
theorem XF {x:Lay}{d:List Int}{Q:List Int×Int->Prop}(hd:d≠[])(h:Q (ofF x d)):kD x d Q:=by
 have:=List.length_pos_iff.2 hd
 refine⟨?_⟩
 unfold ofF at h
 by_cases h1:x.1=1
 ·rw[if_pos h1]at h
  rw[if_pos (by simpa using h1)]
  exact⟨by omega,h⟩
 ·rw[if_neg h1]at h
  rw[if_neg (by simpa using h1)]
  by_cases h2:x.1=2
  ·rw[if_pos h2]at h
   rw[if_pos (by simpa using h2)]
   exact⟨by omega,h⟩
  ·rw[if_neg h2]at h
   rw[if_neg (by simpa using h2)]
   exact h
theorem aBJ {m:Mdl}{i:Int}{Q:List Int×Int->Prop}(hl:m.2.length<=10000000000000)(h:Q (mR m i)):kB m i Q:=by
 refine⟨JU hl ?_⟩
 unfold mR at h
 have e0:aF ((m.1.1,m.1.2.1,m.1.2.2),m.2)=aF m:=rfl
 rw[e0]
 split
 ·rename_i hb
  rw[if_pos hb]at h
  exact h
 ·rename_i hb
  rw[if_neg hb]at h
  have hb:=Bool.eq_false_iff.2 hb
  simp only[Bool.or_eq_false_iff,decide_eq_false_iff_not,S9]at hb
  obtain⟨⟨b1,b2⟩,b3⟩:=hb
  obtain⟨hm,q2,q3⟩:=uI b1
  obtain⟨_,⟨k1,k2⟩,_⟩:=iC hm
  rw[aA (i-1) (by omega) (by omega)]
  have hdi:=E4 b1 (i:=(i-1).toNat) (by omega)
  refine⟨by omega,by omega,XF hdi.sz.2.2.2.1 (E6 ?_)⟩
  have e1:(ofF (m.2.getD (i-1).toNat aG) ((aF m).1.getD (i-1).toNat []))=ofF ((m.2.getD ((i-1).toNat) (0,(0,(0,(0,(0,(0,false))))))).1,(((m.2.getD ((i-1).toNat) (0,(0,(0,(0,(0,(0,false))))))).2).1,((((m.2.getD ((i-1).toNat) (0,(0,(0,(0,(0,(0,false))))))).2).2).1,(((((m.2.getD ((i-1).toNat) (0,(0,(0,(0,(0,(0,false))))))).2).2).2).1,((((((m.2.getD ((i-1).toNat) (0,(0,(0,(0,(0,(0,false))))))).2).2).2).2).1,(((((((m.2.getD ((i-1).toNat) (0,(0,(0,(0,(0,(0,false))))))).2).2).2).2).2).1,((((((m.2.getD ((i-1).toNat) (0,(0,(0,(0,(0,(0,false))))))).2).2).2).2).2).2)))))) ((aF m).1.getD (i-1).toNat []):=rfl
  rw[<- e1]
  by_cases hs:0<szF (ofF (m.2.getD (i-1).toNat aG) ((aF m).1.getD (i-1).toNat [])).1
  ·rw[if_pos hs]at h
   rw[decide_eq_true hs,if_neg (by simp)]
   exact h
  ·rw[if_neg hs]at h
   rw[decide_eq_false hs,if_pos (by rfl)]
   exact h
end Go.Proofs.YtcfpfefadlnmcaaGreat

namespace Go.Proofs.YtcfpfefadlnmcaaGreat
open Go.Mach
set_option maxRecDepth 100000
set_option linter.unusedVariables false
set_option linter.unusedSimpArgs false
theorem aEk (a:Int):∃ v,∀ Q:Int->Prop,Q v->fK a Q:=⟨_,fun Q h=>⟨⟨by decide,by decide,by decide,h⟩⟩⟩
theorem HK {a:Int}{Q:Int->Prop}(h:∀ r,Q r):fK a Q:=let ⟨v,k⟩:=aEk a;k Q (h v)
theorem aEm {a b c:Int}{Q:Int->Prop}(h:∀ r,Q r):sH a b c Q:=⟨HK fun _=>HK fun _=>HK h⟩
theorem aAA {a b c n:Int}{Q:Int->Prop}(h:∀ r,Q r):oP a b c n Q:=by
 refine⟨?_⟩
 split
 ·exact h 0
 ·rename_i hn
  have hn:=Bool.eq_false_iff.2 hn
  simp only[Bool.or_eq_false_iff,decide_eq_false_iff_not]at hn
  have e:IntKind.u64.wrap n=n:=by
   simp only[IntKind.wrap,IntKind.bits,IntKind.signed]
   simp
   omega
  rw[e]
  refine⟨by omega,by omega,aEm fun r=>⟨?_⟩⟩
  refine Loop.rangeI (B:=gP n _ (fun _=>Q 0) (fun y=>Q y)) 100 (fun i s=>s.2=(i:Int)) rfl ?_ ?_
  ·rintro i hi ⟨s1,s2⟩ rfl X hX
   unfold gP
   dsimp only
   rw[if_pos (decide_eq_true (show(i:Int)<100 by omega))]
   split
   ·exact⟨by rw[e];omega,h _⟩
   ·refine HK fun r => ?_
    rw[aA ((i:Int)+1) (by omega) (by omega)]
    exact hX _ rfl
  ·rintro⟨s1,s2⟩ rfl X
   unfold gP
   rw[if_neg (by simp)]
   exact h 0
theorem aDQ (n:Nat):All8 (List.replicate n 0):=fun y hy=>by rw[(List.mem_replicate.1 hy).2];omega
theorem N2 {l:List Int}{x:Int}(h:All8 l)(hx : -128<=x/\x<=127):All8 (l++[x]):=fun y hy=>by
 rcases List.mem_append.1 hy with hy|hy
 ·exact h y hy
 ·rw[List.mem_singleton.1 hy];exact hx
theorem aEv {x:Lay}{d:List Int}(h:0<szF (ofF x d).1):1<=(ofF x d).2/\(ofF x d).2<=4096:=by
 obtain⟨_,hd,_⟩:=lT h
 unfold ofF at hd⊢
 split
 ·rename_i e;rw[if_pos e]at hd;exact hd _ (by simp)
 ·rename_i e
  rw[if_neg e]at hd
  split
  ·rename_i e2;rw[if_pos e2]at hd;exact hd _ (by simp)
  ·rename_i e2
   have:(ofF x d).1=[]:=by unfold ofF;rw[if_neg e,if_neg e2]
   rw[this]at h
   exact absurd h (by decide)
theorem aGl {m:Mdl}{s:Int}{Q:List Prm×Int->Prop}(hl:m.2.length<=10000000000000)(h:∀ ps e,(e=0->ps.length=m.2.length/\∀ p∈ps,Prm8 p/\p.1.2.2.length<=1000000/\p.2.2.2.2.length<=1000000)->Q (ps,e)):oD m s Q:=by
 refine⟨JU hl ?_⟩
 have e0:aF ((m.1.1,m.1.2.1,m.1.2.2),m.2)=aF m:=rfl
 rw[e0]
 split
 ·rename_i hb
  exact h _ _ (fun e=>absurd e (by simpa using hb))
 ·rename_i hb
  have hb:(aF m).2.2=0:=by simpa using hb
  obtain⟨hm,q2,q3⟩:=uI hb
  obtain⟨_,⟨k1,k2⟩,_⟩:=iC hm
  refine⟨?_⟩
  refine Loop.rangeI (B:=gO s m.2 (m.2.length:Int) (aF m).1 (fun y=>Q (y,0)) (fun _=>Q ([],1))) m.2.length
   (fun i z=>z.1=(i:Int)/\z.2.length=i/\∀ p∈z.2,Prm8 p/\p.1.2.2.length<=1000000/\p.2.2.2.2.length<=1000000) ⟨rfl,rfl,fun p hp=>(by cases hp)⟩ ?_ ?_
  ·rintro i hi ⟨z1,z2⟩ ⟨rfl,e1,h8⟩ X hX
   unfold gO
   dsimp only at e1 h8⊢
   rw[if_pos (decide_eq_true (show(i:Int)<(m.2.length:Int) by omega))]
   refine⟨by omega,by omega,?_⟩
   simp only[Int.toNat_natCast]
   have hdi:=E4 hb (i:=i) (by omega)
   refine XF hdi.sz.2.2.2.1 ?_
   have n1:∀ {K:Int->Prop},K ((i:Int)+1)->iL (i:Int) K:=fun {K} hK=>⟨by
    rw[aA ((i:Int)+1) (by omega) (by omega)]
    exact hK⟩
   split
   ·refine⟨by simp;omega,n1 (hX _ ⟨rfl,by simp[e1],fun p hp => ?_⟩)⟩
    rcases List.mem_append.1 hp with hp|hp
    ·exact h8 p hp
    ·rw[List.mem_singleton.1 hp]
     exact⟨⟨fun y hy=>(by cases hy),fun y hy=>(by cases hy)⟩,by simp,by simp⟩
   ·refine E6 ?_
    split
    ·exact h _ _ (fun e=>absurd e (by decide))
    ·rename_i hs
     have hs:0<szF (ofF (m.2.getD i (0,0,0,0,0,0,false)) ((aF m).1.getD i [])).1:=by simpa using hs
     have hb2:=aEv hs
     refine⟨by omega,NP ?_⟩
     have hz:=GN (ofF (m.2.getD i (0,0,0,0,0,0,false)) ((aF m).1.getD i [])).1
     refine⟨by omega,⟨?_⟩⟩
     generalize (ofF _ _)=w at *
     refine⟨?_⟩
     rw[List.length_replicate]
     refine Loop.rangeI (B:=gF s (i:Int) ((szF w.1).toNat:Int) _) (szF w.1).toNat (fun j y=>y.1=(j:Int)/\y.2.length=j/\All8 y.2) ⟨rfl,rfl,fun y hy=>(by cases hy)⟩ ?_ ?_
     ·rintro j hj ⟨y1,y2⟩ ⟨rfl,f1,f2⟩ Y hY
      unfold gF
      dsimp only at f1 f2⊢
      rw[if_pos (decide_eq_true (show(j:Int)<((szF w.1).toNat:Int) by omega))]
      refine aAA fun r=>⟨by simp;omega,?_⟩
      rw[aA ((j:Int)+1) (by omega) (by omega)]
      exact hY _ ⟨rfl,by simp[f1],N2 f2 (D1 _)⟩
     ·rintro⟨y1,y2⟩ ⟨rfl,f1,f2⟩ Y
      dsimp only at f1 f2
      unfold gF
      rw[if_neg (by simp)]
      refine⟨by simp;omega,n1 (hX _ ⟨rfl,by simp[e1],fun p hp => ?_⟩)⟩
      rcases List.mem_append.1 hp with hp|hp
      ·exact h8 p hp
      ·rw[List.mem_singleton.1 hp]
       exact⟨⟨f2,aDQ _⟩,by dsimp only;omega,by dsimp only;rw[List.length_replicate];omega⟩
  ·rintro⟨z1,z2⟩ ⟨rfl,e1,h8⟩ X
   unfold gO
   rw[if_neg (by simp)]
   exact h _ _ fun _=>⟨e1,h8⟩
theorem N1 {kd:IntKind}{v:Int}{T:Ty}{l m:List T.den}(h:SE kd v (.slc T) l m):m.length=l.length:=h.1
theorem SE8 {v:Int}{l m:List Int}(hv : -128<=v/\v<=127)(h:SE .i8 v (.slc (.int .i8)) l m)(h8:All8 l):All8 m:=by
 intro y hy
 obtain⟨i,hi⟩:=List.mem_iff_getElem?.1 hy
 have hlt:=(List.getElem?_eq_some_iff.1 hi).1
 have:=h.2 i _ y (List.getElem?_eq_getElem (by have:=h.1;omega)) hi
 rcases this with e|⟨_,e⟩
 ·rw[e];exact h8 _ (List.getElem_mem _)
 ·rw[e];exact hv
abbrev aHk:Ty := .pair (.pair (.slc (.int .i64)) (.pair (.int .i64) (.slc (.int .i8)))) (.pair (.slc (.int .i32)) (.pair (.slc (.int .i64)) (.pair (.int .i64) (.slc (.int .i8)))))
def shp (p:Prm):Nat×Nat:=(p.1.2.2.length,p.2.2.2.2.length)
theorem SEp {v:Int}{l m:List Prm}(hv : -128<=v/\v<=127)(h:SE .i8 v (.slc aHk) l m):m.map shp=l.map shp/\((∀ p∈l,Prm8 p)->∀ p∈m,Prm8 p):=by
 have key:∀ (i:Nat) (x y:Prm),l[i]? = some x->m[i]? = some y->shp y=shp x/\(Prm8 x->Prm8 y):=by
  intro i x y hx hy
  obtain⟨⟨_,_,h1⟩,_,_,_,h2⟩:=h.2 i x y hx hy
  have h1:SE .i8 v (.slc (.int .i8)) x.1.2.2 y.1.2.2:=h1
  have h2:SE .i8 v (.slc (.int .i8)) x.2.2.2.2 y.2.2.2.2:=h2
  exact⟨Prod.ext h1.1 h2.1,fun k=>⟨SE8 hv h1 k.1,SE8 hv h2 k.2⟩⟩
 constructor
 ·refine List.ext_getElem? fun i => ?_
  rw[List.getElem?_map,List.getElem?_map]
  by_cases hi:i<l.length
  ·have hj:i<m.length:=by rw[N1 h];exact hi
   rw[List.getElem?_eq_getElem hi,List.getElem?_eq_getElem hj]
   exact congrArg some (key i _ _ (List.getElem?_eq_getElem hi) (List.getElem?_eq_getElem hj)).1
  ·rw[List.getElem?_eq_none (by rw[N1 h];omega),List.getElem?_eq_none (by omega)]
 ·intro k p hp
  obtain⟨i,hi⟩:=List.mem_iff_getElem?.1 hp
  have hlt:=(List.getElem?_eq_some_iff.1 hi).1
  have hl:i<l.length:=by have:=N1 h;omega
  exact(key i _ p (List.getElem?_eq_getElem hl) hi).2 (k _ (List.getElem_mem _))
theorem QG {l m:List Prm}(h:m.map shp=l.map shp)(i:Nat):m.length=l.length/\shp (m.getD i dY)=shp (l.getD i dY):=by
 have hl:m.length=l.length:=by have:=congrArg List.length h;simpa using this
 refine⟨hl,?_⟩
 have:=congrArg (fun x=>x[i]?) h
 simp only[List.getElem?_map]at this
 rw[List.getD_eq_getElem?_getD,List.getD_eq_getElem?_getD]
 cases e1:m[i]? with
 | none =>
   rw[e1]at this
   cases e2:l[i]? with
   | none=>rfl
   | some x=>rw[e2]at this;cases this
 | some y =>
   rw[e1]at this
   cases e2:l[i]? with
   | none=>rw[e2]at this;cases this
   | some x=>rw[e2]at this;simpa using this
structure MdOk (ps0:List Prm)(by_ x:List Int)(ps:List Prm):Prop where
 b8:All8 by_
 x8:All8 x
 p8:∀ p∈ps,Prm8 p
 sh:ps.map shp=ps0.map shp
theorem MdOk.step {ps0 ps qs:List Prm}{b x b2 x2:List Int}(h:MdOk ps0 b x ps){i:Nat}(h1:SE .i8 (b.getD i 0) (.slc (.int .i8)) b b2)(h2:SE .i8 (b.getD i 0) (.slc (.int .i8)) x x2)(h3:SE .i8 (b.getD i 0) (.slc aHk) ps qs):MdOk ps0 b2 x2 qs :=
 have hv:=h.b8.at_ i
 ⟨SE8 hv h1 h.b8,SE8 hv h2 h.x8,(SEp hv h3).2 h.p8,(SEp hv h3).1.trans h.sh⟩
theorem aEp {ps0:List Prm}{j n:Nat}{k:Int}{b x:List Int}{ps:List Prm}{K:Int×List Int×List Int×List Prm->Prop}(hj:j<ps0.length)(hn:n=(ps0.getD j dY).1.2.2.length)(hn2:n<=1000000000)(hk:0<=k/\k<=10000000000000)(hb:b.length<=1000000000000000)(h0:MdOk ps0 b x ps)
 (h:∀ k' b' x' ps',(k'=k+n)->b'.length=b.length->MdOk ps0 b' x' ps'->K (k',b',x',ps')):lV (j:Int) (n:Int) K (k,0,b,x,ps):=by
 refine⟨?_⟩
 refine Loop.rangeI (B:=gN (j:Int) (n:Int) K) n (fun i z=>z.1=k+i/\z.2.1=(i:Int)/\z.2.2.1.length=b.length/\MdOk ps0 z.2.2.1 z.2.2.2.1 z.2.2.2.2) ⟨by simp,rfl,rfl,h0⟩ ?_ ?_
 ·rintro i hi ⟨z1,z2,b1,x1,p1⟩ ⟨rfl,rfl,e1,g⟩ X hX
  unfold gN
  dsimp only at e1 g⊢
  rw[if_pos (decide_eq_true (show(i:Int)<(n:Int) by omega))]
  have n7:∀ {K:Int->Prop},K (k+(i+1:Nat))->iJ (k+(i:Int)) K:=fun {K} hK=>⟨by
   rw[aA _ (by omega) (by omega)]
   exact cast (congrArg K (by omega)) hK⟩
  refine tD (b:=decide (k+(i:Int)<(b1.length:Int))) (c:=(b1.getD (k+(i:Int)).toNat 0 != (-128))) (fun hlt P hP=>⟨⟨by omega,by simpa using hlt⟩,hP⟩) (fun v e => ?_) rfl
  rw[aA ((i:Int)+1) (by omega) (by omega)]
  cases v with
  | false =>
    rw[if_neg (by simp)]
    exact n7 (hX _ ⟨rfl,rfl,e1,g⟩)
  | true =>
    rw[if_pos rfl]
    have hlt:k+(i:Int)<(b1.length:Int):=by
     have:=e.symm
     simp only[Bool.and_eq_true,decide_eq_true_eq]at this
     exact this.1
    obtain⟨s1,s2⟩:=QG g.sh j
    have s3:(p1.getD j dY).1.2.2.length=(ps0.getD j dY).1.2.2.length:=congrArg Prod.fst s2
    simp only[Int.toNat_natCast]
    refine⟨by omega,by omega,⟨by omega,by show(i:Int)<((p1.getD j dY).1.2.2.length:Int);omega⟩,?_⟩
    intro m1 h1 m2 h2 m3 h3
    exact n7 (hX _ ⟨rfl,rfl,(N1 h1).trans e1,g.step h1 h2 h3⟩)
 ·rintro⟨z1,z2,b1,x1,p1⟩ ⟨rfl,rfl,e1,g⟩ X
  unfold gN
  rw[if_neg (by simp)]
  exact h _ _ _ _ rfl e1 g
theorem aEs {ps0:List Prm}{j n:Nat}{k:Int}{b x:List Int}{ps:List Prm}{K:Int×List Int×List Int×List Prm->Prop}(hj:j<ps0.length)(hn:n=(ps0.getD j dY).2.2.2.2.length)(hn2:n<=1000000000)(hk:0<=k/\k<=10000000000000)(hb:b.length<=1000000000000000)(h0:MdOk ps0 b x ps)
 (h:∀ k' b' x' ps',(k'=k+n)->b'.length=b.length->MdOk ps0 b' x' ps'->K (k',b',x',ps')):lN (j:Int) (n:Int) K (k,0,b,x,ps):=by
 refine⟨?_⟩
 refine Loop.rangeI (B:=gJ (j:Int) (n:Int) K) n (fun i z=>z.1=k+i/\z.2.1=(i:Int)/\z.2.2.1.length=b.length/\MdOk ps0 z.2.2.1 z.2.2.2.1 z.2.2.2.2) ⟨by simp,rfl,rfl,h0⟩ ?_ ?_
 ·rintro i hi ⟨z1,z2,b1,x1,p1⟩ ⟨rfl,rfl,e1,g⟩ X hX
  unfold gJ
  dsimp only at e1 g⊢
  rw[if_pos (decide_eq_true (show(i:Int)<(n:Int) by omega))]
  have n7:∀ {K:Int->Prop},K (k+(i+1:Nat))->iM (k+(i:Int)) K:=fun {K} hK=>⟨by
   rw[aA _ (by omega) (by omega)]
   exact cast (congrArg K (by omega)) hK⟩
  refine tD (b:=decide (k+(i:Int)<(b1.length:Int))) (c:=(b1.getD (k+(i:Int)).toNat 0 != (-128))) (fun hlt P hP=>⟨⟨by omega,by simpa using hlt⟩,hP⟩) (fun v e => ?_) rfl
  rw[aA ((i:Int)+1) (by omega) (by omega)]
  cases v with
  | false =>
    rw[if_neg (by simp)]
    exact n7 (hX _ ⟨rfl,rfl,e1,g⟩)
  | true =>
    rw[if_pos rfl]
    have hlt:k+(i:Int)<(b1.length:Int):=by
     have:=e.symm
     simp only[Bool.and_eq_true,decide_eq_true_eq]at this
     exact this.1
    obtain⟨s1,s2⟩:=QG g.sh j
    have s3:(p1.getD j dY).2.2.2.2.length=(ps0.getD j dY).2.2.2.2.length:=congrArg Prod.snd s2
    simp only[Int.toNat_natCast]
    refine⟨by omega,by omega,⟨by omega,by show(i:Int)<((p1.getD j dY).2.2.2.2.length:Int);omega⟩,?_⟩
    intro m1 h1 m2 h2 m3 h3
    exact n7 (hX _ ⟨rfl,rfl,(N1 h1).trans e1,g.step h1 h2 h3⟩)
 ·rintro⟨z1,z2,b1,x1,p1⟩ ⟨rfl,rfl,e1,g⟩ X
  unfold gJ
  rw[if_neg (by simp)]
  exact h _ _ _ _ rfl e1 g
theorem aEj {ps:List Prm}{b x:List Int}{K:List Int×List Int×List Prm->Prop}(hl:ps.length<=1000)(hs:∀ p∈ps,p.1.2.2.length<=1000000/\p.2.2.2.2.length<=1000000)(hb:b.length<=1000000000000000)(h0:MdOk ps b x ps)
 (h:∀ b' x' ps',MdOk ps b' x' ps'->K (b',x',ps')):lD (ps.length:Int) K (0,0,b,x,ps):=by
 refine⟨?_⟩
 refine Loop.rangeI (B:=gM (ps.length:Int) K) ps.length (fun i z=>(0<=z.1/\z.1<=i*2000000)/\z.2.1=(i:Int)/\z.2.2.1.length=b.length/\MdOk ps z.2.2.1 z.2.2.2.1 z.2.2.2.2) ⟨⟨Int.le_refl _,by simp⟩,rfl,rfl,h0⟩ ?_ ?_
 ·rintro i hi ⟨k,z2,b1,x1,p1⟩ ⟨hk,rfl,e1,g⟩ X hX
  unfold gM
  dsimp only at hk e1 g⊢
  rw[if_pos (decide_eq_true (show(i:Int)<(ps.length:Int) by omega))]
  obtain⟨s1,s2⟩:=QG g.sh i
  have hm:ps.getD i dY∈ps:=by rw[List.getD_eq_getElem?_getD,List.getElem?_eq_getElem hi];exact List.getElem_mem _
  obtain⟨m1,m2⟩:=hs _ hm
  refine⟨by omega,?_⟩
  simp only[Int.toNat_natCast]
  refine aEp (ps0:=ps) hi (congrArg Prod.fst s2) (by have:(p1.getD i dY).1.2.2.length=_:=congrArg Prod.fst s2;show(p1.getD i dY).1.2.2.length<=_;rw[this];show(ps.getD i dY).1.2.2.length<=_;omega) (by omega) (by omega) g ?_
  intro k' b2 x2 p2 ek eb g2
  obtain⟨t1,t2⟩:=QG g2.sh i
  have w1:(p1.getD i dY).1.2.2.length=(ps.getD i dY).1.2.2.length:=congrArg Prod.fst s2
  have w2:(p2.getD i dY).2.2.2.2.length=(ps.getD i dY).2.2.2.2.length:=congrArg Prod.snd t2
  have ek:k'=k+((p1.getD i dY).1.2.2.length:Nat):=ek
  dsimp only
  refine⟨by omega,aEs (ps0:=ps) hi w2 (by show(p2.getD i dY).2.2.2.2.length<=_;omega) (by omega) (by omega) g2 ?_⟩
  intro k3 b3 x3 p3 ek3 eb3 g3
  have ek3:k3=k'+((p2.getD i dY).2.2.2.2.length:Nat):=ek3
  rw[aA ((i:Int)+1) (by omega) (by omega)]
  exact hX _ ⟨⟨by dsimp only;omega,by dsimp only;omega⟩,rfl,by dsimp only;omega,g3⟩
 ·rintro⟨k,z2,b1,x1,p1⟩ ⟨hk,rfl,e1,g⟩ X
  unfold gM
  rw[if_neg (by simp)]
  exact h _ _ _ g
theorem aFC {n:Nat}{x:List Int}{K:List Int->Prop}(hn:n<=1000000)(hx:All8 x)(h:∀ l,All8 l->K l):kY (n:Int) x K (0,[]):=by
 refine⟨?_⟩
 refine Loop.rangeI (B:=gI (n:Int) x K) n (fun i z=>z.1=(i:Int)/\z.2.length=i/\All8 z.2) ⟨rfl,rfl,fun y hy=>(by cases hy)⟩ ?_ ?_
 ·rintro i hi ⟨z1,l⟩ ⟨rfl,e1,g⟩ X hX
  unfold gI
  dsimp only at e1 g⊢
  rw[if_pos (decide_eq_true (show(i:Int)<(n:Int) by omega))]
  refine⟨by decide,?_⟩
  refine tD (b:=decide ((i:Int)<(x.length:Int))) (c:=(x.getD i 0 != (-128))) (fun hlt P hP=>⟨⟨by omega,by simpa using hlt⟩,by rw[Int.toNat_natCast];exact hP⟩) (fun v e => ?_) rfl
  rw[aA ((i:Int)+1) (by omega) (by omega)]
  cases v with
  | false =>
    rw[if_neg (by simp)]
    refine⟨?_⟩
    exact⟨by simp;omega,hX _ ⟨rfl,by simp[e1],N2 g (D1 _)⟩⟩
  | true =>
    rw[if_pos rfl]
    have hlt:(i:Int)<(x.length:Int):=by
     have:=e.symm
     simp only[Bool.and_eq_true,decide_eq_true_eq]at this
     exact this.1
    refine⟨⟨by omega,hlt⟩,⟨?_⟩⟩
    exact⟨by simp;omega,hX _ ⟨rfl,by simp[e1],N2 g (hx.at_ _)⟩⟩
 ·rintro⟨z1,l⟩ ⟨rfl,e1,g⟩ X
  unfold gI
  rw[if_neg (by simp)]
  exact h _ g
abbrev aGr:=Mdl×Int×List Int×Int×List Int×Int
theorem aGM {n:aGr}{Q:List Prm×T3×Int->Prop}(hl:n.1.2.length<=10000000000000)(hb:n.2.2.1.length<=1000000000000000)(b8:All8 n.2.2.1)(x8:All8 n.2.2.2.2.1)
 (h:∀ ps x e,(e=0->ps.length=n.1.2.length/\(∀ p∈ps,Prm8 p)/\All8 x.2.2/\(aF n.1).2.2=0)->Q (ps,x,e)):oR n Q:=by
 obtain⟨m,seed,by_,N,X,ex⟩:=n
 dsimp only at hl hb b8 x8 h
 refine⟨JU hl ?_⟩
 have e0:aF ((m.1.1,m.1.2.1,m.1.2.2),m.2)=aF m:=rfl
 dsimp only
 rw[e0]
 split
 ·rename_i he
  exact h _ _ _ (fun e=>absurd e (by simpa using he))
 ·rename_i he
  have he:(aF m).2.2=0:=by simpa using he
  obtain⟨hm,q2,q3⟩:=uI he
  obtain⟨hin,⟨k1,k2⟩,_⟩:=iC hm
  refine⟨?_⟩
  have bad:∀ e:Int,e≠0->Q ([],([],(0,[])),e):=fun e he=>h _ _ _ fun e1=>absurd e1 he
  refine Loop.rangeI (B:=gG ((aF m).1.length:Int) m.1.1 m.1.2.1 m.1.2.2 m.2 (aF m).1 _ _) (aF m).1.length (fun i z=>z.2=(i:Int)) rfl ?_ ?_
  ·rintro i hi ⟨z1,z2⟩ rfl Y hY
   unfold gG
   dsimp only
   rw[if_pos (decide_eq_true (show(i:Int)<((aF m).1.length:Int) by omega))]
   refine⟨by omega,?_⟩
   rw[aA ((i:Int)+1) (by omega) (by omega)]
   have n3:∀ r:Int,iN z1 ((aF m).1.getD ((i:Int)).toNat []) r fun y=>Y (y,(i:Int)+1):=fun r=>⟨NP (hY _ rfl)⟩
   split
   ·rename_i h0
    have h0:0<i:=by simpa using h0
    refine aBJ hl (NP ?_)
    rw[aA ((i:Int)-1) (by omega) (by omega)]
    refine tD (b:=(((mR ((m.1.1,m.1.2.1,m.1.2.2),m.2) (i:Int)).1.length:Int)==0)) (c:=((m.2.getD ((i:Int)-1).toNat aG).1==1||(m.2.getD ((i:Int)-1).toNat aG).1==2)) (fun _ P hP=>⟨by omega,?_⟩) (fun v e => ?_) rfl
    ·refine nL (b:=(m.2.getD ((i:Int)-1).toNat aG).1==1) (c:=(m.2.getD ((i:Int)-1).toNat aG).1==2) (fun _ P' hP'=>⟨by omega,hP'⟩) (fun v e => ?_) rfl
     rw[e];exact hP
    ·split
     ·exact bad 1 (by decide)
     ·exact n3 _
   ·exact n3 0
  ·rintro⟨z1,z2⟩ rfl Y
   unfold gG
   rw[if_neg (by simp)]
   dsimp only
   split
   ·exact bad 10 (by decide)
   ·refine aGl hl fun ps e hps => ?_
    dsimp only
    split
    ·rename_i he
     exact bad e (by simpa using he)
    ·rename_i he
     have he:e=0:=by simpa using he
     obtain⟨p1,p2⟩:=hps he
     have p1:ps.length=m.2.length:=p1
     refine aEj (by omega) (fun p hp=>(p2 p hp).2) hb ⟨b8,x8,fun p hp=>(p2 p hp).1,rfl⟩ ?_
     intro b' x' ps' g
     have gl:=(QG g.sh 0).1
     refine⟨by decide,by decide,NP ?_⟩
     have hz:=GN [IntKind.i64.wrap (1+(IntKind.i64.wrap ((IntKind.u64.wrap N).tmod 3))),m.1.1,m.1.2.1,m.1.2.2]
     have hz0:=zV [IntKind.i64.wrap (1+(IntKind.i64.wrap ((IntKind.u64.wrap N).tmod 3))),m.1.1,m.1.2.1,m.1.2.2]
     obtain⟨k,hk⟩:∃ k:Nat,szF [IntKind.i64.wrap (1+(IntKind.i64.wrap ((IntKind.u64.wrap N).tmod 3))),m.1.1,m.1.2.1,m.1.2.2]=k:=⟨_,(Int.toNat_of_nonneg hz0).symm⟩
     rw[hk]at hz⊢
     exact aFC (by omega) g.x8 fun l hl8=>h _ _ _ fun _=>⟨by rw[gl];exact p1,g.p8,hl8,by assumption⟩
end Go.Proofs.YtcfpfefadlnmcaaGreat

namespace Go.Proofs.YtcfpfefadlnmcaaGreat
open Go.Mach Go.RowKit
set_option maxRecDepth 100000
set_option linter.unusedVariables false
set_option linter.unusedSimpArgs false
theorem UB {s t:Int}:j6 ([1,1],0,[16]) 8 s t=(([1,1],0,[16]),0):=by
 have h1:((!(pI ([1,1],0,[16]))||(decide ((8:Int)<2)))||(decide ((8:Int)<8)))=false:=by decide +kernel
 have h2:pO ([1,1],0,[16]) 8=0:=by decide +kernel
 unfold j6
 rw[h1,h2,if_neg (by simp),if_neg (by decide +kernel)]
 unfold JF
 show(([1,1],_,[IW 8 s t 0 [16] 0]),0)=_
 unfold IW
 rw[HZ]
 decide +kernel
end Go.Proofs.YtcfpfefadlnmcaaGreat

namespace Go.Proofs.YtcfpfefadlnmcaaGreat
open Go.Mach
set_option maxRecDepth 100000
set_option linter.unusedVariables false
set_option linter.unusedSimpArgs false
theorem aIM:aGU 8=127:=by decide +kernel
theorem cl8 (a:Int) : -127<=clF a 8/\clF a 8<=127:=by
 unfold clF
 rw[aIM,show IntKind.i64.wrap (0-127) = -127 by decide +kernel]
 exact RF (CM a) (-127) 127 (by omega)
theorem aBQ (x:Int)(h1 : -128<=x)(h2:x<=127):IntKind.i8.wrap x=x:=by
 simp only[IntKind.wrap,IntKind.bits,IntKind.signed]
 simp
 split <;> omega
theorem aCB {a:T3}{s t:Int}(h:(j6 a 8 s t).2=0):cL (j6 a 8 s t).1=true:=by
 unfold j6 at h⊢
 split at h
 ·exact absurd (show(1:Int)=0 from h) (by decide)
 rename_i h1
 rw[if_neg h1]
 split at h
 ·exact absurd (show(3:Int)=0 from h) (by decide)
 rename_i h2
 rw[if_neg h2]
 have h1:=Bool.eq_false_iff.2 h1
 simp only[Bool.or_eq_false_iff,Bool.not_eq_false']at h1
 have h2:SF (IntKind.i64.wrap (a.2.1+pO a 8)) 64=true:=by simpa using h2
 obtain⟨m1,m2,_⟩:=DZ h1.1.1
 refine eK.2 ⟨m1,?_,(YC (by omega) (by omega)).1 h2,?_⟩
 ·show((JF 8 s t (pO a 8) a.2.2).length:Int)=_
  unfold JF
  rw[List.length_map,List.length_range]
  exact m2
 ·intro hm
  have hm:(-128:Int)∈JF 8 s t (pO a 8) a.2.2:=hm
  unfold JF at hm
  obtain⟨i,_,hi⟩:=List.mem_map.1 hm
  unfold IW at hi
  have:=cl8 (chF (IntKind.i64.wrap (a.2.2.getD i 0)) (pO a 8) (atF s t (IntKind.u64.wrap (i:Int))))
  rw[aBQ _ (by omega) (by omega)]at hi
  omega
theorem aED {x:T3}(h:(CE x).2=0):cL (CE x).1=true:=by
 unfold CE at h⊢
 split at h
 ·rename_i hm
  rw[if_pos hm]
  obtain⟨h1,h2,h3,h4⟩:=eK.1 hm
  refine eK.2 ⟨h1,by show((x.2.2.map (aM 0)).length:Int)=_;rw[List.length_map];exact h2,h3,?_⟩
  intro hm
  obtain⟨y,_,hy⟩:=List.mem_map.1 (show(-128:Int)∈x.2.2.map (aM 0)from hm)
  unfold aM at hy
  split at hy <;> omega
 ·exact absurd (show(1:Int)=0 from h) (by decide)
theorem aDE {x:T3}(h:(BU x).2=0):cL (BU x).1=true:=by
 unfold BU pT at h⊢
 split at h
 ·rename_i hm
  rw[if_pos hm]
  split at h
  ·rename_i h1
   rw[if_pos h1]
   split at h
   ·rename_i h2
    rw[if_pos h2]
    obtain⟨_,_,h3,h4⟩:=eK.1 hm
    exact eK.2 ⟨h1.2,h2.symm,h3,h4⟩
   ·exact absurd (show(2:Int)=0 from h) (by decide)
  ·exact absurd (show(1:Int)=0 from h) (by decide)
 ·exact absurd (show(1:Int)=0 from h) (by decide)
theorem aAw {n:Nat}{k s:Int}{P:Nat}(h:aL n k s 0=P)(h1:1<=P):P<=n:=by
 obtain⟨a,b,c,d,e,f⟩:=nE (n:=(n:Int)) (k:=k) (s:=s) (p:=0) (by omega)
 have h3:((n:Int)+2*0-k) / s<=n+2*0-k:=Int.ediv_le_self _ (by omega)
 omega
theorem aFO {x:T3}{k s:Int}(h:(NF x k s).2.2=0):cL (NF x k s).1=true:=by
 unfold NF at h⊢
 split at h
 ·rename_i he
  exact absurd h (by simpa using he)
 rename_i he
 rw[if_neg he]
 have he:plE x k s=0:=by simpa using he
 obtain⟨N,H,V,P,Q,n,m,ex,eN,g,hm,hb⟩:=aDu he
 obtain⟨h1,h2,h3,h4⟩:=eK.1 hm
 have hP:=aAw g.hP g.p1
 have hQ:=aAw g.hQ g.q1
 have g2:=g.p1
 have g3:=g.q1
 have hNPQ:N*(P*Q)<=N*(H*V):=Nat.mul_le_mul (Nat.le_refl _) (Nat.mul_le_mul hP hQ)
 have bx:=g.bx
 have hle:=g.le
 have hsz:szF [(n:Int),m,P,Q]=((n*m*P*Q:Nat):Int):=aEq (by omega) (by omega) (by omega) (by omega) (by rw[Nat.mul_assoc,<- eN];omega)
 have hpos:1<=n*m*P*Q:=Nat.mul_pos (Nat.mul_pos (Nat.mul_pos (by omega) (by omega)) (by omega)) (by omega)
 have en:((n:Int)*(m:Int)).toNat=N:=by rw[eN,<- Int.natCast_mul];exact Int.toNat_natCast _
 have eD:plD x k s=[(n:Int),m,P,Q]:=by unfold plD;rw[ex];simp only[List.getD_cons_succ,List.getD_cons_zero];rw[g.hP,g.hQ]
 have eNn:plN x k s=N*(P*Q):=by unfold plN;rw[ex];simp only[List.getD_cons_succ,List.getD_cons_zero];rw[g.hP,g.hQ,en];simp
 refine eK.2 ⟨by show 0<szF (plD x k s);rw[eD,hsz];omega,?_,h3,?_⟩
 ·show(((CG x k s).map _).length:Int)=szF (plD x k s)
  rw[List.length_map,eD,hsz]
  unfold CG tab
  rw[List.length_map,List.length_range,eNn,eN,Nat.mul_assoc (n*m) P Q]
 ·intro hmm
  obtain⟨a,ha,hy⟩:=List.mem_map.1 (show(-128:Int)∈(CG x k s).map fun a=>x.2.2.getD a.toNat 0 from hmm)
  unfold CG at ha
  obtain⟨t,ht,rfl⟩:=VK ha
  rw[eNn]at ht
  have hPQ:0<P*Q:=Nat.mul_pos (by omega) (by omega)
  obtain⟨c1,c2,c3⟩:=zF ht
  have c4:=g.cell c1 c2
  have c5:=g.addr c1 c2
  have eA:plA x k s t=l5 H V k s P Q (t / (P*Q)*(P*Q)+t%(P*Q)):=by
   rw[<- c3]
   unfold plA
   rw[ex]
   simp only[List.getD_cons_succ,List.getD_cons_zero]
   rw[g.hP,g.hQ]
   simp
  have hne:plA x k s t≠[]:=by
   rw[eA,c4.2.2.2.2]
   simpa using c4.2.2.2.1
  have:=c5 _ (eA▸SW (X:=x.2.2) hne)
  have hlt:(IC x.2.2 (plA x k s t)).toNat<x.2.2.length:=by rw[<- eA]at this;exact(Int.toNat_lt this.1).2 this.2
  apply h4
  rw[<- hy]
  exact HB hlt
theorem T5 {x:Lay}{p:Prm}{l:List T3}{s t:Int}(h:(dQ x p l s t).2.2=0):cL (dQ x p l s t).1=true:=by
 unfold dQ at h⊢
 split at h
 ·rename_i he
  exact absurd h (by simpa using he)
 rename_i he
 rw[if_neg he]
 split at h
 ·rename_i h1
  rw[if_pos h1];exact aCB h
 rename_i h1
 rw[if_neg h1]
 split at h
 ·rename_i h1
  rw[if_pos h1];exact aFO h
 rename_i h1
 rw[if_neg h1]
 split at h
 ·rename_i h1
  rw[if_pos h1];exact aED h
 ·rename_i h1
  rw[if_neg h1];exact aDE h
def UE (l:List T3):Prop:=∀ t∈l,cL t=true
theorem XB {ps:List Prm}{s st:Int}:∀ (r:List Lay) (i:Nat) (a:Act),(pA ps s st r i a).2.2=0->UE a.1 ->
 (∃ t,(pA ps s st r i a).1.1=a.1++t/\t.length=r.length)/\UE (pA ps s st r i a).1.1/\(pA ps s st r i a).2.1=0
 | [],i,a,h,hm=>⟨⟨[],by simp[pA],rfl⟩,hm,rfl⟩
 | x::r,i,a,h,hm=>by
   unfold pA at h⊢
   split at h
   ·rename_i he
    exact absurd h (by simpa using he)
   ·rename_i he
    rw[if_neg he]
    have he:(dQ x (ps.getD i dY) a.1 s (RM st ((i:Int)+1) 0)).2.2=0:=by simpa using he
    obtain⟨⟨t,h1,h2⟩,h3⟩:=XB r (i+1) _ h (by
     intro t ht
     rcases List.mem_append.1 ht with ht|ht
     ·exact hm t ht
     ·rw[List.mem_singleton.1 ht];exact T5 he)
    exact⟨⟨_::t,by rw[h1,List.append_assoc];rfl,by simp[h2]⟩,h3⟩
theorem NR {m:Mdl}{ps:List Prm}{x:T3}{s st:Int}(h:(oH m ps x s st).2.2=0):(kH m ps=true/\cL x=true/\x.1.length=4/\x.1.drop 1=inL m/\inP st 0 1000000=true)/\oH m ps x s st=pA ps s st m.2 0 ([x],[[]]):=by
 unfold oH at h⊢
 split at h
 ·exact absurd (show(1:Int)=0 from h) (by decide)
 rename_i h1
 split at h
 ·exact absurd (show(2:Int)=0 from h) (by decide)
 rename_i h2
 rw[if_neg h1,if_neg h2]
 have h1:=Bool.eq_false_iff.2 h1
 have h2:=Bool.eq_false_iff.2 h2
 simp only[Bool.or_eq_false_iff,Bool.not_eq_false',decide_eq_true_eq,S9]at h1 h2
 exact⟨⟨h1.1.2,h1.2,by omega,h2.2,h1.1.1⟩,rfl⟩
theorem aCi {m:Mdl}{ps:List Prm}{x:T3}{s st:Int}(h:(oH m ps x s st).2.2=0):(oH m ps x s st).1.1.length=m.2.length+1/\UE (oH m ps x s st).1.1:=by
 obtain⟨⟨_,h1,_⟩,e⟩:=NR h
 rw[e]at h⊢
 obtain⟨⟨t,h2,h3⟩,h4,_⟩:=XB m.2 0 ([x],[[]]) h (fun t ht=>by rw[List.mem_singleton.1 ht];exact h1)
 exact⟨by rw[h2];simp[h3],h4⟩
end Go.Proofs.YtcfpfefadlnmcaaGreat

namespace Go.Proofs.YtcfpfefadlnmcaaGreat
open Go.Mach Go.RowKit
set_option maxRecDepth 100000
set_option linter.unusedVariables false
set_option linter.unusedSimpArgs false
abbrev mA:Mdl:=((1,(1,2)),[(6,(0,(0,(0,(0,(0,false)))))),(1,(1,(0,(0,(0,(0,false))))))])
abbrev pA1:Prm:=(([1,2],(0,[3,4])),([0,0],([1],(0,[5]))))
abbrev psA:List Prm:=[((([]:List Int),(0,([]:List Int))),(([]:List Int),(([]:List Int),(0,([]:List Int))))),pA1]
abbrev xA:T3:=([1,1,1,2],(0,[1,2]))
abbrev tA1:T3:=([1,2],0,[1,2])
abbrev tA2:T3:=([1,1],0,[16])
abbrev gA:T3:=([1,1],(0,[6]))
abbrev bA1:T3:=([1,2],0,[18,24])
abbrev bA0:T3:=([1,1,1,2],0,[18,24])
abbrev rA:G3:=(true,([1,2],0,[6,12]),([1],0,[6]))
theorem aEl (t:Int):dQ (6,(0,(0,(0,(0,(0,false)))))) dY [xA] 1 t=(tA1,[],0):=by
 have h:pZ (6,(0,(0,(0,(0,(0,false)))))) dY [xA]=(Z3,false,0):=by decide +kernel
 unfold dQ
 rw[h,if_neg (by decide),if_neg (by decide),if_neg (by decide),if_neg (by decide)]
 decide +kernel
theorem aFB (t:Int):dQ (1,(1,(0,(0,(0,(0,false)))))) pA1 [xA,tA1] 1 t=(tA2,[],0):=by
 have h:pZ (1,(1,(0,(0,(0,(0,false)))))) pA1 [xA,tA1]=(([1,1],0,[16]),true,0):=by decide +kernel
 unfold dQ
 rw[h,if_neg (by decide),if_pos rfl]
 dsimp only
 rw[UB]
theorem aIZ:oH mA psA xA 1 0=(([xA,tA1,tA2],[[],[],[]]),0,0):=by
 have h1:((!inP 0 0 1000000 || !kH mA psA) || !cL xA)=false:=by decide +kernel
 have h2:(((xA.1.length:Int) != 4) || !decide (xA.1.drop 1=inL mA))=false:=by decide +kernel
 unfold oH
 rw[h1,h2]
 simp only[Bool.false_eq_true,if_false]
 unfold pA
 show(if ((dQ (6,(0,(0,(0,(0,(0,false)))))) dY [xA] 1 _).2.2 != 0)=true then _ else pA psA 1 0 [(1,(1,(0,(0,(0,(0,false))))))] 1 ([xA]++[(dQ (6,(0,(0,(0,(0,(0,false)))))) dY [xA] 1 _).1],[[]]++[(dQ (6,(0,(0,(0,(0,(0,false)))))) dY [xA] 1 _).2.1]))=_
 rw[aEl,if_neg (by decide)]
 unfold pA
 show(if ((dQ (1,(1,(0,(0,(0,(0,false)))))) pA1 [xA,tA1] 1 _).2.2 != 0)=true then _ else pA psA 1 0 [] 2 ([xA,tA1]++[(dQ (1,(1,(0,(0,(0,(0,false)))))) pA1 [xA,tA1] 1 _).1],[[],[]]++[(dQ (1,(1,(0,(0,(0,(0,false)))))) pA1 [xA,tA1] 1 _).2.1]))=_
 rw[aFB,if_neg (by decide)]
 rfl
theorem aGN {s t:Int}:j6 bA1 8 s t=(bA1,0):=by
 have h1:((!(pI bA1)||(decide ((8:Int)<2)))||(decide ((8:Int)<8)))=false:=by decide +kernel
 have h2:pO bA1 8=0:=by decide +kernel
 unfold j6
 rw[h1,h2,if_neg (by simp),if_neg (by decide +kernel)]
 unfold JF
 show(([1,2],_,[IW 8 s t 0 [18,24] 0,IW 8 s t 0 [18,24] 1]),0)=_
 unfold IW
 rw[HZ,HZ]
 decide +kernel
theorem aHw:gV mA psA [xA,tA1,tA2] [[],[],[]] 0 1 2 [[],[],[gA]]=((rA,0),[[],[bA1],[gA]]):=by
 have h1:grV (mA.2.getD (2-1) aG) gA ([xA,tA1,tA2].getD (2-1) Z3)=(rA,0):=by decide +kernel
 have h2:onV (mA.2.getD (2-1) aG) (psA.getD (2-1) dY) gA ([xA,tA1,tA2].getD (2-1) Z3) (([[],[],[]]:List (List Int)).getD 2 []) 0 1 ((2:Nat):Int)=(bA1,0):=by
  have h3:MX gA pA1.1=(bA1,0):=by decide +kernel
  unfold onV
  rw[if_neg (by decide),if_neg (by decide),if_neg (by decide),if_pos (by decide)]
  show f8 0 1 (MX gA pA1.1).1 (MX gA pA1.1).2 _ 2=_
  rw[h3]
  unfold f8
  rw[if_neg (by decide)]
  exact aGN
 show MZ mA psA [xA,tA1,tA2] [[],[],[]] 0 1 2 [[],[],[gA]] gA=_
 unfold MZ
 rw[h1,h2,if_pos rfl]
 rfl
theorem aH8:gV mA psA [xA,tA1,tA2] [[],[],[]] 0 1 1 [[],[bA1],[gA]]=((gY,0),[[bA0],[bA1],[gA]]):=by
 have h1:grV (mA.2.getD (1-1) aG) bA1 ([xA,tA1,tA2].getD (1-1) Z3)=(gY,0):=by decide +kernel
 have h2:onV (mA.2.getD (1-1) aG) (psA.getD (1-1) dY) bA1 ([xA,tA1,tA2].getD (1-1) Z3) (([[],[],[]]:List (List Int)).getD 1 []) 0 1 ((1:Nat):Int)=(bA0,0):=by
  unfold onV
  rw[if_neg (by decide),if_pos (by decide)]
  decide +kernel
 show MZ mA psA [xA,tA1,tA2] [[],[],[]] 0 1 1 [[],[bA1],[gA]] bA1=_
 unfold MZ
 rw[h1,h2,if_pos rfl]
 rfl
theorem aHn:wT mA psA [xA,tA1,tA2] [[],[],[]] gA 1 0=([gY,rA],0,0):=by
 have h1:DO mA psA [xA,tA1,tA2] [[],[],[]] 0 gA=0:=by decide +kernel
 unfold wT
 rw[if_pos h1]
 show qF mA psA [xA,tA1,tA2] [[],[],[]] 0 1 2 [gY,gY] [[],[],[gA]]=_
 unfold qF
 rw[aHw,if_pos rfl]
 show qF mA psA [xA,tA1,tA2] [[],[],[]] 0 1 1 [gY,rA] [[],[bA1],[gA]]=_
 unfold qF
 rw[aH8,if_pos rfl]
 rfl
theorem IP {l:List Int}(h:(l.all fun y=>decide (-128<=y)&&decide (y<=127))=true):All8 l:=fun y hy=>by
 have:=List.all_eq_true.1 h y hy
 simpa using this
theorem DM {Q:Bool->Prop}(h:Q true):dL Q:=by
 have hp:∀ p∈psA,Prm8 p:=by
  intro p hp
  simp only[List.mem_cons,List.not_mem_nil,or_false]at hp
  rcases hp with rfl|rfl <;> exact⟨IP (by decide),IP (by decide)⟩
 refine⟨⟨?_⟩⟩
 refine aFn (m:=mA) (ps:=psA) (x:=xA) (by decide) hp (IP (by decide)) ?_
 rw[aIZ]
 refine⟨?_⟩
 refine aER (m:=mA) (ps:=psA) (T:=[xA,tA1,tA2]) (F:=[[],[],[]]) (g:=gA) (by decide) (by decide) hp ?_ (IP (by decide)) ?_
 ·intro t ht
  simp only[List.mem_cons,List.not_mem_nil,or_false]at ht
  rcases ht with rfl|rfl|rfl <;> exact IP (by decide)
 rw[aHn]
 unfold jn
 dsimp only
 rw[if_pos (by decide)]
 refine⟨by decide,?_⟩
 rw[if_pos (by decide)]
 refine⟨by decide,?_⟩
 rw[if_pos (by decide)]
 refine⟨by decide,by decide,?_⟩
 rw[if_pos (by decide)]
 refine⟨by decide,?_⟩
 rw[if_pos (by decide)]
 refine⟨by decide,by decide,?_⟩
 exact h
def LZ (l:List Int)(n:Nat):List Int:=(List.range n).map fun i=>if i<l.length/\l.getD i 0 ≠ -128 then l.getD i 0 else 0
def XL (t:T3)(l:List Int)(e:Int):T3:=(t.1,e.tmod 20,LZ l t.2.2.length)
theorem aGq {t:T3}{l:List Int}{e:Int}{Q:T3->Prop}(h1:t.1.length<=1000000)(h2:t.2.2.length<=1000000)(hl:l.length<=1000000000000000)(h:Q (XL t l e)):oM t l e Q:=by
 refine⟨⟨by simp;omega,⟨by decide,⟨by omega,⟨?_⟩⟩⟩⟩⟩
 simp only[Int.toNat_natCast,List.length_replicate]
 refine Loop.range (B:=gL l (t.2.2.length:Int) _) t.2.2.length (fun i=>((i:Int),LZ l i++List.replicate (t.2.2.length-i) 0)) (fun _=>True) trivial ?_ ?_
 ·intro i hi _ X hX
  have hX:=hX trivial
  unfold gL
  dsimp only at hX⊢
  rw[if_pos (decide_eq_true (show(i:Int)<(t.2.2.length:Int) by omega))]
  rw[Int.toNat_natCast]
  have el:(LZ l i).length=i:=by simp[LZ]
  have e1:LZ l (i+1)=LZ l i++[if i<l.length/\l.getD i 0 ≠ -128 then l.getD i 0 else 0]:=by
   unfold LZ
   rw[List.range_succ,List.map_append];rfl
  have e2:List.replicate (t.2.2.length-i) (0:Int)=0::List.replicate (t.2.2.length-(i+1)) 0:=by
   rw[show t.2.2.length-i=(t.2.2.length-(i+1))+1 by omega,List.replicate_succ]
  rw[e1]at hX
  have no : ¬ (i<l.length/\l.getD i 0 ≠ -128)->X (IntKind.i64.wrap ((i:Int)+1),LZ l i++List.replicate (t.2.2.length-i) 0):=fun hn=>by
   rw[if_neg hn,List.append_assoc]at hX
   rw[aA _ (by omega) (by omega),e2]
   exact hX
  refine tD (c:=(l.getD i 0 != -128)) (fun hb P hP=>⟨by have:=of_decide_eq_true hb;omega,hP⟩) (fun v ev => ?_) rfl
  cases v with
  | true =>
    have ev:=ev.symm
    simp only[Bool.and_eq_true,decide_eq_true_eq,bne_iff_ne,ne_eq]at ev
    have hi2:i<l.length:=by omega
    rw[if_pos rfl]
    rw[if_pos ⟨hi2,ev.2⟩,List.append_assoc]at hX
    refine⟨by omega,⟨by rw[List.length_append,el,List.length_replicate];omega,⟨?_⟩⟩⟩
    rw[aA _ (by omega) (by omega),e2,List.set_append_right _ _ (by omega),el,Nat.sub_self]
    exact hX
  | false =>
    rw[if_neg (by simp)]
    refine⟨no ?_⟩
    rintro⟨k1,k2⟩
    rw[decide_eq_true (show(i:Int)<(l.length:Int) by omega)]at ev
    simp only[Bool.true_and]at ev
    have:l.getD i 0 = -128:=by simpa using ev.symm
    exact k2 this
 ·intro _ X
  unfold gL
  rw[if_neg (by simp)]
  dsimp only
  rw[Nat.sub_self,List.replicate_zero,List.append_nil,List.nil_append]
  exact h
theorem aFv {t:T3}{l:List Int}{e:Int}(h:All8 l):All8 (XL t l e).2.2:=by
 intro y hy
 obtain⟨i,_,rfl⟩:=List.mem_map.1 hy
 split
 ·exact h.at_ i
 ·omega
end Go.Proofs.YtcfpfefadlnmcaaGreat

namespace Go.Proofs.YtcfpfefadlnmcaaGreat
open Go.Mach Go.RowKit
set_option maxRecDepth 100000
set_option linter.unusedVariables false
set_option linter.unusedSimpArgs false
def I2 (a:T3):Prop:=a.1.length<=1000000/\a.2.2.length<=1000000
theorem nV:I2 Z3:=⟨by simp,by simp⟩
theorem OI (R C n e:Int)(f:Nat->Nat->Int):I2 (kV R C n e f).1:=by
 unfold kV
 split
 ·exact nV
 split
 ·exact nV
 ·rename_i h
  have h:0<szF [R,C]:=by simpa using h
  obtain⟨k1,k2,k3,k4,k5,_⟩:=aBz R C h
  obtain⟨R,rfl⟩:=Int.eq_ofNat_of_zero_le (show 0<=R by omega)
  obtain⟨C,rfl⟩:=Int.eq_ofNat_of_zero_le (show 0<=C by omega)
  refine⟨by simp,?_⟩
  show(kF _ _ _).length<=_
  rw[zM]
  simp only[Int.toNat_natCast]
  rw[<- Int.natCast_mul]at k5
  omega
theorem aBw (g x:T3):I2 (I3 g x).1:=by
 unfold I3
 split
 ·exact nV
 split
 ·exact nV
 ·exact OI _ _ _ _ _
theorem aBu (g:T3):I2 (M8 g).1:=by
 unfold M8
 have h:I2 (T7 g).1:=OI _ _ _ _ _
 split
 ·exact nV
 split
 ·exact⟨by simp,h.2⟩
 ·exact h
theorem UU (g x:T3)(k s p:Int):I2 (mH g x k s p).1:=by
 unfold mH
 split
 ·exact nV
 ·rename_i h
  have h:wtE g x k s p=0:=by simpa using h
  unfold wtE at h
  split at h
  ·rename_i h1;exact absurd h (by simpa using h1)
  split at h
  ·cases h
  obtain⟨_,_,h3,_⟩:=vP h
  unfold JH at h3
  obtain⟨O,C,K,K',e1,e2,e3,e4,_,_,_,_,hb,_⟩:=aC6 h3
  refine⟨by simp[JH],?_⟩
  show(w4 _ _ _ _ _).length<=_
  rw[KV,e1,e2,e3]
  have:K=K':=by omega
  subst this
  simp only[Int.toNat_natCast]
  omega
theorem aAP (g:T3):I2 (CA g).1:=by
 unfold CA
 split
 ·exact nV
 ·rename_i h
  have h:bsE g=0:=by simpa using h
  unfold bsE at h
  split at h
  ·rename_i h1;exact absurd h (by simpa using h1)
  obtain⟨_,_,h3,_⟩:=vP h
  have:=aFK h3
  refine⟨by simp,?_⟩
  show(OM g).length<=_
  unfold OM
  rw[VF]
  omega
def C8 (G:G3):Prop:=I2 G.2.1/\I2 G.2.2
theorem aAY (x:Lay)(g t:T3):C8 (yL x g t).1:=by
 unfold yL
 have z:C8 gY:=⟨nV,nV⟩
 split
 ·split
  ·split
   ·exact⟨aBw _ _,aBu _⟩
   ·exact z
  ·exact z
 ·split
  ·split
   ·exact⟨UU _ _ _ _ _,aAP _⟩
   ·exact z
  ·exact z
theorem Y0 {m:Mdl}{ps:List Prm}{T:List T3}{F:List (List Int)}{st s:Int}{n:Nat}{back:List (List T3)}:C8 (gV m ps T F st s n back).1.1:=by
 have z:C8 gY:=⟨nV,nV⟩
 unfold gV
 split
 ·unfold MZ
  split
  ·unfold grV
   split
   ·exact aAY _ _ _
   ·exact z
  ·exact z
 ·exact z
theorem OX {m:Mdl}{ps:List Prm}{T:List T3}{F:List (List Int)}{st s:Int}:∀ (n:Nat) (out:List G3) (back:List (List T3)),(∀ G∈out,C8 G)->∀ G∈(qF m ps T F st s n out back).1,C8 G
 | 0,out,back,h=>h
 | n+1,out,back,h=>by
   unfold qF
   split
   ·refine OX n _ _ fun G hG => ?_
    rcases List.mem_or_eq_of_mem_set hG with h1|h1
    ·exact h G h1
    ·subst h1;exact Y0
   ·intro G hG;cases hG
theorem aCC {n:Nat}:∀ G∈List.replicate n gY,C8 G:=fun G hG=>by rw[List.eq_of_mem_replicate hG];exact⟨nV,nV⟩
theorem QP {ps:List Prm}{s st:Int}:∀ (r:List Lay) (i:Nat) (a:Act),Ten8 a.1->Ten8 (pA ps s st r i a).1.1
 | [],i,a,h=>h
 | x::r,i,a,h=>by
   unfold pA
   split
   ·intro t ht;cases ht
   ·refine QP r (i+1) _ fun t ht => ?_
    rcases List.mem_append.1 ht with ht|ht
    ·exact h t ht
    ·rw[List.mem_singleton.1 ht];exact aDx h
theorem aCh {m:Mdl}{ps:List Prm}{x:T3}{s st:Int}(hx:All8 x.2.2):Ten8 (oH m ps x s st).1.1:=by
 unfold oH
 split
 ·intro t ht;cases ht
 split
 ·intro t ht;cases ht
 ·exact QP _ _ _ fun t ht=>by rw[List.mem_singleton.1 ht];exact hx
end Go.Proofs.YtcfpfefadlnmcaaGreat

namespace Go.Proofs.YtcfpfefadlnmcaaGreat
open Go.Mach Go.RowKit
set_option maxRecDepth 100000
set_option linter.unusedVariables false
abbrev aHL:Ty := .pair (.int .i64) (.pair (.int .i64) (.pair (.int .i64) (.pair (.int .i64) (.pair (.int .i64) (.pair (.int .i64) .bool)))))
abbrev aHR:Ty := .pair (.pair (.pair (.int .i64) (.pair (.int .i64) (.int .i64))) (.slc aHL)) (.pair (.int .u64) (.pair (.slc (.int .i8)) (.pair (.int .i64) (.pair (.slc (.int .i8)) (.int .i64)))))
theorem aAy {l:List Int}(h:HA (.slc (.int .i8)) l):l.length<=1000000000000000/\All8 l:=by
 obtain⟨h1,h2⟩:=h
 refine⟨?_,fun y hy=>aGm (h2 y hy)⟩
 unfold reachBytes wZ IntKind.bits at h1
 simp at h1
 omega
theorem II {n:aGr}(h:HA aHR n):n.1.2.length<=10000000000000/\n.2.2.1.length<=1000000000000000/\All8 n.2.2.1/\All8 n.2.2.2.2.1:=by
 obtain⟨⟨_,h1,_⟩,_,h2,_,h3,_⟩:=h
 refine⟨?_,(aAy h2).1,(aAy h2).2,(aAy h3).2⟩
 unfold reachBytes at h1
 have e:wZ aHL=49:=by decide
 rw[e]at h1
 have h1:n.1.2.length*49<=_:=h1
 omega
end Go.Proofs.YtcfpfefadlnmcaaGreat

namespace Go.Proofs.YtcfpfefadlnmcaaGreat
open Go.Mach Go.RowKit
set_option maxRecDepth 100000
set_option linter.unusedVariables false
set_option linter.unusedSimpArgs false
def sh (m:Mdl)(i:Nat):List Int:=(aF m).1.getD i []
theorem HT {m:Mdl}{ps:List Prm}(hp:kH m ps=true){i:Nat}(hi:i<m.2.length)(hx:(m.2.getD i aG).1=1\/(m.2.getD i aG).1=2):(ps.getD i dY).1.1=(ofF (m.2.getD i aG) (sh m i)).1/\mR m ((i:Int)+1)=ofF (m.2.getD i aG) (sh m i):=by
 obtain⟨w1,w2⟩:=yN hp
 have h0:=hp
 unfold kH at h0
 simp only[Bool.and_eq_true]at h0
 have h:=h0.2
 unfold S8 at h
 rw[List.all_eq_true]at h
 have h:=h i (List.mem_range.2 (by omega))
 unfold okP at h
 by_cases hd:(mR m ((i:Int)+1)).1=[]
 ·rw[if_pos hd]at h
  simp only[Bool.and_eq_true,Bool.not_eq_true',beq_eq_false_iff_ne]at h
  rcases hx with k|k
  ·exact absurd k h.1.2
  ·exact absurd k h.2
 rw[if_neg hd]at h
 simp only[Bool.and_eq_true,decide_eq_true_eq]at h
 have e:mR m ((i:Int)+1)=ofF (m.2.getD i aG) (sh m i):=by
  unfold mR at hd⊢
  split
  ·rename_i h1;rw[if_pos h1]at hd;exact absurd rfl hd
  ·rename_i h1
   rw[if_neg h1]at hd
   have ei:((i:Int)+1-1).toNat=i:=by omega
   rw[ei]at hd⊢
   split
   ·rfl
   ·rename_i h2;rw[if_neg h2]at hd;exact absurd rfl hd
 exact⟨by rw[h.1.1.1.2,e],e⟩
theorem P7 {a:T3}{b s t:Int}(h:(j6 a b s t).2=0):(j6 a b s t).1.1=a.1:=by
 unfold j6 at h⊢
 grind
theorem E7 {R C n e:Int}{f:Nat->Nat->Int}(h:(kV R C n e f).2=0):kV R C n e f=(([R,C],(e,kF R.toNat C.toNat f)),0):=by
 unfold kV at h⊢
 grind
theorem aEU {x w b:T3}(h:(US x w b).2=0):(US x w b).1.1=[x.1.getD 0 0,w.1.getD 0 0]:=by
 unfold US at h⊢
 split at h
 ·cases h
 rename_i h1
 rw[if_neg h1]
 split at h
 ·rename_i h2;exact absurd h (by simpa using h2)
 rename_i h2
 rw[if_neg h2]
 split at h
 ·cases h
 rename_i h3
 rw[if_neg h3,E7 h]
theorem aBv {x w b:T3}{s p:Int}(h:(JB x w b s p).2=0):(JB x w b s p).1.1=DF x w s p:=by
 unfold JB at h⊢
 grind
theorem aDp {x:T3}{k s:Int}(h:(NF x k s).2.2=0):(NF x k s).1.1=plD x k s/\(NF x k s).2.1=CG x k s/\plE x k s=0:=by
 unfold NF at h⊢
 grind
theorem aDU {x:T3}{k s:Int}(h:(U7 x k s).2=0):(U7 x k s).1.1=plD x k s:=by
 unfold U7 at h⊢
 grind
theorem aAb {t:T3}{d:List Int}(h:(pT t d).2=0):pT t d=((d,t.2.1,t.2.2),0):=by
 unfold pT at h⊢
 grind
theorem aCQ {t:T3}(h:(BU t).2=0):(BU t).1.1=[t.1.getD 0 0,IntKind.i64.wrap ((szF t.1).tdiv (t.1.getD 0 0))]:=by
 unfold BU at h⊢
 split at h
 ·rename_i h1
  rw[if_pos h1,aAb h]
 ·cases h
theorem aCD {t:T3}(h:(CE t).2=0):(CE t).1.1=t.1:=by
 unfold CE at h⊢
 split at h
 ·rename_i h1;rw[if_pos h1]
 ·cases h
theorem aDj {a b:T3}(h:(addF a b).2=0):addF a b=((a.1,aEN a b,(List.range a.2.2.length).map (mD a b)),0):=by
 unfold addF at h⊢
 grind
theorem aEx {x:Lay}{p:Prm}{l:List T3}{s t e:Int}{a:T3}(hs:pZ x p l=(a,true,e))(h:(dQ x p l s t).2.2=0):e=0/\(dQ x p l s t).1.1=a.1:=by
 unfold dQ at h⊢
 rw[hs]at h⊢
 dsimp only at h⊢
 by_cases he:(e != 0)=true
 ·rw[if_pos he]at h;exact absurd h (by simpa using he)
 ·rw[if_neg he,if_pos rfl]at h⊢
  exact⟨by simpa using he,P7 h⟩
theorem aBt (b:Int)(d:List Int):iE (b::d)=b*iE d:=rfl
theorem aAX {m:Mdl}{ps:List Prm}(hp:kH m ps=true){i:Nat}(hi:i<m.2.length){l:List T3}{b:Int}(hl:(jM l).1=b::sh m i)(hm:cL (jM l)=true){s t:Int}
 (h:(dQ (m.2.getD i aG) (ps.getD i dY) l s t).2.2=0):(dQ (m.2.getD i aG) (ps.getD i dY) l s t).1.1=b::sh m (i+1) /\
  ((m.2.getD i aG).1=3->(dQ (m.2.getD i aG) (ps.getD i dY) l s t).2.1=CG (jM l) (m.2.getD i aG).2.2.1 (m.2.getD i aG).2.2.2.1/\plE (jM l) (m.2.getD i aG).2.2.1 (m.2.getD i aG).2.2.2.1=0):=by
 obtain⟨w1,w2⟩:=yN hp
 obtain⟨_,_,k3⟩:=iC w1
 have hs:=wP hp
 obtain⟨s1,s2,s3⟩:=wV hs
 obtain⟨g1,g2⟩:=s3 i hi
 have hdim:=E4 hs (i:=i) (by omega)
 have hk:=AW (k3 i hi)
 have hpd:=HT hp hi
 have g1:sh m (i+1)=bX (m.2.getD i aG) ((aF m).1.take (i+1)) (sh m i):=g1
 have g2:sh m (i+1)≠[]:=g2
 have hdim:DimOk (sh m i):=hdim
 rw[g1]at g2⊢
 generalize (aF m).1.take (i+1)=L' at g2⊢
 generalize sh m i=d at hl g2 hdim hpd⊢
 generalize m.2.getD i aG=x at h hk hpd g2⊢
 generalize ps.getD i dY=p at h hpd⊢
 rcases hk with⟨k,_⟩|⟨k,_⟩|⟨k|k,hpad⟩|k|k|k
 ·obtain⟨e0,e1⟩:=aEx (a:=(US (jM l) p.1 p.2.2).1) (e:=(US (jM l) p.1 p.2.2).2) (by unfold pZ;rw[if_pos (by rw[k];rfl)]) h
  refine⟨?_,fun h3=>by omega⟩
  rw[e1,aEU e0,hl,(hpd (.inl k)).1]
  unfold bX at g2⊢
  unfold ofF
  rw[if_pos k]at g2⊢
  rw[if_pos k]
  split at g2
  ·rename_i h1;rw[if_pos h1];rfl
  ·exact absurd rfl g2
 ·obtain⟨e0,e1⟩:=aEx (a:=(JB (jM l) p.1 p.2.2 x.2.2.2.1 x.2.2.2.2.1).1) (e:=(JB (jM l) p.1 p.2.2 x.2.2.2.1 x.2.2.2.2.1).2) (by unfold pZ;rw[if_neg (by rw[k];decide),if_pos (by rw[k];rfl)]) h
  refine⟨?_,fun h3=>by omega⟩
  rw[e1,aBv e0]
  unfold DF
  rw[hl,(hpd (.inr k)).1]
  unfold bX at g2⊢
  unfold ofF
  rw[if_neg (by omega),if_pos k]at g2⊢
  rw[if_neg (by omega),if_pos k]
  unfold eU at g2⊢
  split at g2
  ·rename_i h1
   rw[if_pos h1]
   split at g2
   ·exact absurd rfl g2
   ·rename_i h2;rw[if_neg h2];rfl
  ·exact absurd rfl g2
 ·have hs0:pZ x p l=(Z3,false,0):=by unfold pZ;rw[if_neg (by rw[k];decide),if_neg (by rw[k];decide),if_neg (by rw[k];decide),if_neg (by rw[k];decide)]
  unfold dQ at h⊢
  rw[hs0]at h⊢
  rw[if_neg (by decide),if_neg (by decide),if_pos (by rw[k];rfl)]at h⊢
  obtain⟨e1,e2,e3⟩:=aDp h
  refine⟨?_,fun _=>⟨e2,e3⟩⟩
  rw[e1]
  unfold plD
  rw[hl]
  unfold bX at g2⊢
  rw[if_neg (by omega),if_neg (by omega),if_pos (.inl k)]at g2⊢
  unfold eU at g2⊢
  rw[hpad]at g2⊢
  split at g2
  ·rename_i h1
   rw[if_pos h1]
   split at g2
   ·exact absurd rfl g2
   ·rename_i h2;rw[if_neg h2];rfl
  ·exact absurd rfl g2
 ·obtain⟨e0,e1⟩:=aEx (a:=(U7 (jM l) x.2.2.1 x.2.2.2.1).1) (e:=(U7 (jM l) x.2.2.1 x.2.2.2.1).2) (by unfold pZ;rw[if_neg (by rw[k];decide),if_neg (by rw[k];decide),if_pos (by rw[k];rfl)]) h
  refine⟨?_,fun h3=>by omega⟩
  rw[e1,aDU e0]
  unfold plD
  rw[hl]
  unfold bX at g2⊢
  rw[if_neg (by omega),if_neg (by omega),if_pos (.inr k)]at g2⊢
  unfold eU at g2⊢
  rw[hpad]at g2⊢
  split at g2
  ·rename_i h1
   rw[if_pos h1]
   split at g2
   ·exact absurd rfl g2
   ·rename_i h2;rw[if_neg h2];rfl
  ·exact absurd rfl g2
 ·have hs0:pZ x p l=(Z3,false,0):=by unfold pZ;rw[if_neg (by rw[k];decide),if_neg (by rw[k];decide),if_neg (by rw[k];decide),if_neg (by rw[k];decide)]
  unfold dQ at h⊢
  rw[hs0]at h⊢
  rw[if_neg (by decide),if_neg (by decide),if_neg (by rw[k];decide),if_pos (by rw[k];rfl)]at h⊢
  refine⟨?_,fun h3=>by omega⟩
  rw[aCD h,hl]
  unfold bX
  rw[if_neg (by omega),if_neg (by omega),if_neg (by omega),if_pos k]
 ·have hs0:pZ x p l=(Z3,false,0):=by unfold pZ;rw[if_neg (by rw[k];decide),if_neg (by rw[k];decide),if_neg (by rw[k];decide),if_neg (by rw[k];decide)]
  unfold dQ at h⊢
  rw[hs0]at h⊢
  rw[if_neg (by decide),if_neg (by decide),if_neg (by rw[k];decide),if_neg (by rw[k];decide)]at h⊢
  refine⟨?_,fun h3=>by omega⟩
  rw[aCQ h,hl]
  unfold bX
  rw[if_neg (by omega),if_neg (by omega),if_neg (by omega),if_neg (by omega),if_pos k]
  obtain⟨q1,q2,q3,_⟩:=hdim.sz
  have hz:=(eK.1 hm).1
  rw[hl]at hz
  obtain⟨_,r2,r3,r4⟩:=lT hz
  obtain⟨_,_,t3,_⟩:=lT q1
  have hb:=r2 b (by simp)
  rw[r3,aBt]at *
  have e2:(b*iE d).tdiv b=iE d:=by rw[Int.mul_comm];exact Int.mul_tdiv_cancel _ (by omega)
  show [b,IntKind.i64.wrap ((b*iE d).tdiv b)]=[b,oZ d]
  rw[e2,q2,t3,aA _ (by omega) (by omega)]
 ·obtain⟨e0,e1⟩:=aEx (a:=(addF (jM l) (l.getD x.2.2.2.2.2.1.toNat Z3)).1) (e:=(addF (jM l) (l.getD x.2.2.2.2.2.1.toNat Z3)).2) (by unfold pZ;rw[if_neg (by rw[k];decide),if_neg (by rw[k];decide),if_neg (by rw[k];decide),if_pos (by rw[k];rfl)]) h
  refine⟨?_,fun h3=>by omega⟩
  rw[e1,aDj e0]
  unfold bX at g2⊢
  rw[if_neg (by omega),if_neg (by omega),if_neg (by omega),if_neg (by omega),if_neg (by omega),if_pos k]at g2⊢
  split at g2
  ·rename_i h1;rw[if_pos h1];exact hl
  ·exact absurd rfl g2
structure Fw (m:Mdl)(b:Int)(i:Nat)(a:Act):Prop where
 len:a.1.length=i+1
 flen:a.2.length=i+1
 dims:∀ j,j<=i->(a.1.getD j Z3).1=b::sh m j
 may:UE a.1
 max:∀ j,j<i->(m.2.getD j aG).1=3->a.2.getD (j+1) []=CG (a.1.getD j Z3) (m.2.getD j aG).2.2.1 (m.2.getD j aG).2.2.2.1/\plE (a.1.getD j Z3) (m.2.getD j aG).2.2.1 (m.2.getD j aG).2.2.2.1=0
theorem W7 {m:Mdl}{ps:List Prm}{s st b:Int}(hp:kH m ps=true):∀ (k i:Nat) (a:Act),i+k=m.2.length->Fw m b i a->(pA ps s st (m.2.drop i) i a).2.2=0->Fw m b m.2.length (pA ps s st (m.2.drop i) i a).1
 | 0,i,a,hk,hf,h=>by
   have:i=m.2.length:=by omega
   subst this
   rw[List.drop_length]at h⊢
   exact hf
 | k+1,i,a,hk,hf,h=>by
   have hi:i<m.2.length:=by omega
   rw[List.drop_eq_getElem_cons hi]at h⊢
   have eg:m.2.getD i aG=m.2[i]:=by rw[List.getD_eq_getElem?_getD,List.getElem?_eq_getElem hi];rfl
   rw[<- eg]at h⊢
   unfold pA at h⊢
   split at h
   ·rename_i he;exact absurd h (by simpa using he)
   rename_i he
   rw[if_neg he]
   have he:(dQ (m.2.getD i aG) (ps.getD i dY) a.1 s (RM st ((i:Int)+1) 0)).2.2=0:=by simpa using he
   have hlast:jM a.1=a.1.getD i Z3:=by unfold jM;rw[hf.len];rfl
   obtain⟨g1,g2⟩:=aAX hp hi (by rw[hlast];exact hf.dims i (Nat.le_refl _)) (by
    rw[hlast,List.getD_eq_getElem?_getD,List.getElem?_eq_getElem (by rw[hf.len];omega)]
    exact hf.may _ (List.getElem_mem _)) he
   rw[hlast]at g2
   have gm:=T5 he
   refine W7 hp k (i+1) _ (by omega) ⟨by simp[hf.len],by simp[hf.flen],fun j hj => ?_,fun t ht => ?_,fun j hj h3 => ?_⟩ h
   ·rcases Nat.lt_or_ge j (i+1)with h1|h1
    ·rw[D2 (by rw[hf.len];exact h1)];exact hf.dims j (by omega)
    ·have:j=a.1.length:=by rw[hf.len];omega
     subst this
     rw[PH,g1,hf.len]
   ·rcases List.mem_append.1 ht with ht|ht
    ·exact hf.may t ht
    ·rw[List.mem_singleton.1 ht];exact gm
   ·rw[D2 (l:=a.1) (by rw[hf.len];omega)]
    rcases Nat.lt_or_ge j i with h1|h1
    ·rw[D2 (l:=a.2) (by rw[hf.flen];omega)];exact hf.max j h1 h3
    ·have:j=i:=by omega
     subst this
     rw[show j+1=a.2.length from hf.flen.symm,PH]
     exact g2 h3
theorem aEu {m:Mdl}{ps:List Prm}{x:T3}{s st:Int}(h:(oH m ps x s st).2.2=0):∃ b,Fw m b m.2.length (oH m ps x s st).1:=by
 obtain⟨⟨h1,h2,h3,h4,_⟩,e⟩:=NR h
 rw[e]at h⊢
 have hs:=wV (wP h1)
 refine⟨x.1.getD 0 0,?_⟩
 have:=W7 (m:=m) (ps:=ps) (s:=s) (st:=st) (b:=x.1.getD 0 0) h1 m.2.length 0 ([x],[[]]) (by omega) ⟨rfl,rfl,fun j hj => ?_,fun t ht=>by rw[List.mem_singleton.1 ht];exact h2,fun j hj=>absurd hj (by omega)⟩
 ·rw[List.drop_zero]at this
  exact this h
 ·have:j=0:=by omega
  subst this
  show x.1=_
  rw[show sh m 0=inL m from hs.2.1,<- h4]
  match x.1,h3 with
  | a::l,_=>rfl
end Go.Proofs.YtcfpfefadlnmcaaGreat

namespace Go.Proofs.YtcfpfefadlnmcaaGreat
open Go.Mach Go.RowKit
set_option maxRecDepth 100000
set_option linter.unusedVariables false
set_option linter.unusedSimpArgs false
def E3 (e:Int):Prop:=e=0\/e=1\/e=3
def Zr (l:List Int):Prop:=∀ y∈l,y=0
theorem Zr.at_ {l:List Int}(h:Zr l)(i:Nat):l.getD i 0=0:=by
 rw[List.getD_eq_getElem?_getD]
 cases e:l[i]? with
 | none=>rfl
 | some y=>exact h y (List.mem_of_getElem? e)
theorem aD4 (n:Nat):Zr (List.replicate n 0):=fun y hy=>List.eq_of_mem_replicate hy
theorem VJ {n:Nat}{f:Nat->Int}(h:∀ i,f i=0):Zr (tab n f):=fun y hy=>by
 obtain⟨i,_,e⟩:=VK hy
 rw[<- e,h i]
theorem aDc {l:List Int}(h:Zr l){i:Nat}{v:Int}(hv:v=0):Zr (l.set i v):=fun y hy=>by
 rcases List.mem_or_eq_of_mem_set hy with h1|h1
 ·exact h y h1
 ·rw[h1,hv]
theorem aBO {R C:Nat}{f:Nat->Nat->Int}(h:∀ r c,f r c=0):Zr (kF R C f):=fun y hy=>by
 unfold kF at hy
 obtain⟨r,_,h1⟩:=List.mem_flatMap.1 hy
 obtain⟨c,_,rfl⟩:=List.mem_map.1 h1
 exact h r c
theorem BN {f:Nat->Int}(h:∀ i,f i=0):∀ n,rM 0 f n=0
 | 0=>rfl
 | n+1=>by unfold rM;rw[BN h n,h n];rfl
theorem HD:IntKind.i32.wrap 0=0:=by decide
theorem aCa:aBx (IntKind.i64.wrap 0)=0:=by decide +kernel
theorem aCG:∀ {l:List Int},Zr l->TV l=0:=by
 have key:∀ (l:List Int),Zr l->∀ m:Int,m=0->l.foldl (fun m x=>aM m (aBx (IntKind.i64.wrap x))) m=0:=by
  intro l
  induction l with
  | nil=>intro _ m hm;exact hm
  | cons x l ih =>
    intro h m hm
    refine ih (fun y hy=>h y (List.mem_cons_of_mem _ hy)) _ ?_
    show aM m (aBx (IntKind.i64.wrap x))=0
    rw[h x List.mem_cons_self,aCa,hm]
    decide
 intro l h
 exact key l h 0 rfl
theorem aAJ {a:T3}{s t:Int}(hz:Zr a.2.2):Zr (j6 a 8 s t).1.2.2:=by
 have hs:pO a 8=0:=by
  unfold pO VB
  split
  ·rw[aCG hz];decide
  ·decide
 unfold j6
 rw[hs]
 split
 ·intro y hy;cases hy
 split
 ·intro y hy;cases hy
 ·intro y hy
  unfold JF at hy
  obtain⟨i,_,rfl⟩:=List.mem_map.1 hy
  unfold IW
  rw[hz.at_,HZ]
  decide +kernel
theorem aD1 {a:T3}{b s t:Int}:E3 (j6 a b s t).2:=by
 unfold j6
 split
 ·exact .inr (.inl rfl)
 split
 ·exact .inr (.inr rfl)
 ·exact .inl rfl
theorem TA {st s:Int}{a:T3}{e i w:Int}(he:E3 e):E3 (f8 st s a e i w).2/\((f8 st s a e i w).2=0->e=0/\(f8 st s a e i w).1.1=a.1):=by
 unfold f8
 split
 ·grind
 ·rename_i h
  exact⟨aD1,fun h0=>⟨by simpa using h,P7 h0⟩⟩
theorem LR {st s:Int}{a:T3}{e i w:Int}(hz:Zr a.2.2):Zr (f8 st s a e i w).1.2.2:=by
 unfold f8
 split
 ·intro y hy;cases hy
 ·exact aAJ hz
theorem WA (R C n e:Int)(f:Nat->Nat->Int):E3 (kV R C n e f).2:=by
 unfold kV
 split
 ·exact .inr (.inr rfl)
 split
 ·exact .inr (.inl rfl)
 ·exact .inl rfl
theorem UR {n:Int}{l:List T3}(h:∀ t∈l,(t.1.length:Int)=n):E3 (mV n l):=by
 unfold mV
 have e:l.all (fun t=>(t.1.length:Int)==n)=true:=by
  rw[List.all_eq_true];intro t ht;simp[h t ht]
 rw[if_pos e]
 split
 ·exact .inl rfl
 ·exact .inr (.inl rfl)
theorem VT {l:List T3}(h:∀ t∈l,t.1.length=4):E3 (jE l):=by
 unfold jE
 have e:l.all (fun t=>(t.1.length:Int)==4)=true:=by
  rw[List.all_eq_true];intro t ht;simp[h t ht]
 rw[if_pos e]
 split
 ·exact .inl rfl
 ·exact .inr (.inl rfl)
theorem UA (d:List Int)(e n:Int):E3 (qA d e n).2:=by
 unfold qA
 split
 ·exact .inr (.inr rfl)
 split
 ·exact .inr (.inr rfl)
 split
 ·exact .inr (.inl rfl)
 ·exact .inl rfl
theorem aHC {g x:T3}{b o i:Int}(hg:g.1=[b,o])(hx:x.1=[b,i]):E3 (I3 g x).2/\((I3 g x).2=0->(I3 g x).1.1=[o,i])/\(Zr g.2.2->Zr (I3 g x).1.2.2):=by
 have hd:E3 (mV 2 [g,x]):=UR fun t ht=>by
  grind
 unfold I3
 split
 ·rename_i h;exact⟨hd,fun h0=>absurd h0 (by simpa using h),fun _ y hy=>by cases hy⟩
 rw[if_neg (by rw[hg,hx];simp)]
 refine⟨WA _ _ _ _ _,fun h => ?_,fun hz => ?_⟩
 ·rw[E7 h,hg,hx];rfl
 ·by_cases h:(kV (g.1.getD 1 0) (x.1.getD 1 0) (g.1.getD 0 0) (g.2.1+x.2.1) (wgC (g.1.getD 0 0).toNat (g.1.getD 1 0).toNat (x.1.getD 1 0).toNat g.2.2 x.2.2)).2=0
  ·rw[E7 h]
   exact aBO fun r c=>BN (fun k=>by rw[hz.at_,Int.zero_mul]) _
  ·have:(kV (g.1.getD 1 0) (x.1.getD 1 0) (g.1.getD 0 0) (g.2.1+x.2.1) (wgC (g.1.getD 0 0).toNat (g.1.getD 1 0).toNat (x.1.getD 1 0).toNat g.2.2 x.2.2)).1=Z3:=by
    unfold kV at h⊢
    grind
   rw[this];intro y hy;cases hy
theorem aFp {R C n e:Int}{f:Nat->Nat->Int}(hf:∀ r c,f r c=0):Zr (kV R C n e f).1.2.2:=by
 unfold kV
 split
 ·intro y hy;cases hy
 split
 ·intro y hy;cases hy
 ·exact aBO hf
theorem aHB {g w:T3}{b o i:Int}(hg:g.1=[b,o])(hw:w.1=[o,i]):E3 (MX g w).2/\((MX g w).2=0->(MX g w).1.1=[b,i])/\(Zr g.2.2->Zr (MX g w).1.2.2):=by
 have hd:E3 (mV 2 [g,w]):=UR fun t ht=>by
  grind
 unfold MX
 split
 ·rename_i h;exact⟨hd,fun h0=>absurd h0 (by simpa using h),fun _ y hy=>by cases hy⟩
 rw[if_neg (by rw[hg,hw];simp)]
 refine⟨WA _ _ _ _ _,fun h => ?_,fun hz => ?_⟩
 ·rw[E7 h,hg,hw];rfl
 ·exact aFp fun r c=>BN (fun k=>by rw[hz.at_,Int.zero_mul]) _
theorem aGZ {g:T3}{b o:Int}(hg:g.1=[b,o]):E3 (M8 g).2/\((M8 g).2=0->(M8 g).1.1=[o])/\(Zr g.2.2->Zr (M8 g).1.2.2):=by
 have hd:E3 (mV 2 [g]):=UR fun t ht=>by rw[List.mem_singleton.1 ht,hg];rfl
 have hm:E3 (T7 g).2:=WA _ _ _ _ _
 have hz:Zr g.2.2->Zr (T7 g).1.2.2:=fun hz=>aFp fun r c=>BN (fun k=>hz.at_ _) _
 unfold M8
 split
 ·rename_i h;exact⟨hd,fun h0=>absurd h0 (by simpa using h),fun _ y hy=>by cases hy⟩
 grind
theorem aHz {n O P Q:Nat}{f:Nat->Nat->Nat->Nat->Int}(h:∀ a b c d,f a b c d=0):Zr (w4 n O P Q f):=by
 unfold w4 GU
 exact VJ fun i=>by
  show IntKind.i32.wrap (f _ _ _ _)=0
  rw[h];exact HD
theorem aBp {g x:T3}{k s p b o P Q c H V:Int}(hg:g.1=[b,o,P,Q])(hx:x.1=[b,c,H,V])(hP:P=aL H k s p)(hQ:Q=aL V k s p)(h1:P≠0)(h2:Q≠0) :
 E3 (mH g x k s p).2/\((mH g x k s p).2=0->(mH g x k s p).1.1=[o,c,k,k])/\(Zr g.2.2->Zr (mH g x k s p).1.2.2):=by
 have hd:E3 (jE [g,x]):=VT fun t ht=>by
  grind
 have p1:=(FI (n:=H) (k:=k) (s:=s) (p:=p) (by omega)).1
 have p2:=(FI (n:=V) (k:=k) (s:=s) (p:=p) (by omega)).1
 have hb:WV g x k s p=false:=by
  unfold WV
  grind
 have he:E3 (wtE g x k s p):=by
  unfold wtE
  split
  ·exact hd
  ·rw[hb,if_neg (by simp)];exact UA _ _ _
 unfold mH
 split
 ·rename_i h;exact⟨he,fun h0=>absurd h0 (by simpa using h),fun _ y hy=>by cases hy⟩
 ·refine⟨.inl rfl,fun _=>by unfold JH;rw[hg,hx];rfl,fun hz => ?_⟩
  unfold PD
  refine aHz fun o' c' r q => ?_
  unfold VY
  refine pV fun i _=>SP fun z _ => ?_
  unfold wtZ
  split
  ·exact pV fun m _=>by unfold wtG;rw[hz.at_,Int.zero_mul]
  ·rfl
theorem aF8 {g:T3}{b o P Q:Int}(hg:g.1=[b,o,P,Q]):E3 (CA g).2/\((CA g).2=0->(CA g).1.1=[o])/\(Zr g.2.2->Zr (CA g).1.2.2):=by
 have hd:E3 (jE [g]):=VT fun t ht=>by rw[List.mem_singleton.1 ht,hg];rfl
 have he:E3 (bsE g):=by
  unfold bsE
  split
  ·exact hd
  ·exact UA _ _ _
 unfold CA
 split
 ·rename_i h;exact⟨he,fun h0=>absurd h0 (by simpa using h),fun _ y hy=>by cases hy⟩
 ·refine⟨.inl rfl,fun _=>by rw[hg];rfl,fun hz => ?_⟩
  unfold OM
  refine VJ fun o' => ?_
  rw[show HQ (g.1.getD 2 0*g.1.getD 3 0).toNat (g.1.getD 1 0).toNat g.2.2 o' g.2.2.length=0 from pV fun i _=>by
   split
   ·exact hz.at_ i
   ·rfl]
  exact HD
theorem aEL {g w:T3}{k s p b o P Q c H V:Int}(hg:g.1=[b,o,P,Q])(hw:w.1=[o,c,k,k])(hP:P=aL H k s p)(hQ:Q=aL V k s p)(h1:P≠0)(h2:Q≠0) :
 E3 (AN g w H V s p).2/\((AN g w H V s p).2=0->(AN g w H V s p).1.1=[b,c,H,V])/\(Zr g.2.2->Zr (AN g w H V s p).1.2.2):=by
 have hd:E3 (jE [g,w]):=VT fun t ht=>by
  grind
 have p1:=(FI (n:=H) (k:=k) (s:=s) (p:=p) (by omega)).1
 have p2:=(FI (n:=V) (k:=k) (s:=s) (p:=p) (by omega)).1
 have hb:ZB g w H V s p=false:=by
  unfold ZB
  grind
 have he:E3 (inE g w H V s p):=by
  unfold inE
  split
  ·exact hd
  ·rw[hb,if_neg (by simp)];exact UA _ _ _
 unfold AN
 split
 ·rename_i h;exact⟨he,fun h0=>absurd h0 (by simpa using h),fun _ y hy=>by cases hy⟩
 ·refine⟨.inl rfl,fun _=>by unfold UT;rw[hg,hw];rfl,fun hz => ?_⟩
  unfold aAk GU
  refine VJ fun i => ?_
  unfold yH
  rw[pV fun o' _=>SP fun z _=>by unfold inG;rw[hz.at_,Int.zero_mul]]
  exact HD
theorem KP {gd fr L:List Int}(hg:Zr gd)(hL:Zr L):∀ t,Zr (XW gd fr L t)
 | 0=>hL
 | t+1=>by
   rw[LG]
   refine aDc (KP hg hL t) ?_
   rw[(KP hg hL t).at_,hg.at_]
   decide
theorem aAK {g:T3}{fr d:List Int}(hf:cL g=true->fr.length=g.2.2.length):E3 (q9 g fr d).2/\((q9 g fr d).2=0->(q9 g fr d).1.1=d)/\(Zr g.2.2->Zr (q9 g fr d).1.2.2):=by
 have he:E3 (mxE g fr d):=by
  unfold mxE
  split
  ·rename_i h
   rw[if_pos (hf h.1)]
   split
   ·exact .inl rfl
   ·exact .inr (.inl rfl)
  ·exact .inr (.inl rfl)
 unfold q9
 split
 ·rename_i h;exact⟨he,fun h0=>absurd h0 (by simpa using h),fun _ y hy=>by cases hy⟩
 ·exact⟨.inl rfl,fun _=>rfl,fun hz=>KP hz (aD4 _) _⟩
theorem Q7:∀ (l L:List Int),Zr L->Zr (BV 0 L l)
 | [],L,h=>h
 | a::l,L,h=>by
   show Zr (BV 0 (L.set _ _) l)
   refine Q7 l _ (aDc h ?_)
   rw[h.at_]
   decide
theorem W5 {gd:List Int}{cell:Nat->List Int}{L:List Int}(hg:Zr gd)(hL:Zr L):∀ t,Zr (bkF gd cell L t)
 | 0=>hL
 | t+1=>by
   rw[O2,hg.at_,HD]
   exact Q7 _ _ (W5 hg hL t)
theorem ZS {g:T3}{d:List Int}{k s:Int}(hd:d.length=4)(hg:g.1=abD d k s)(h1:aL (d.getD 2 0) k s 0≠0)(h2:aL (d.getD 3 0) k s 0≠0):E3 (qN g d k s).2/\((qN g d k s).2=0->(qN g d k s).1.1=d)/\(Zr g.2.2->Zr (qN g d k s).1.2.2):=by
 have p1:=(FI h1).1
 have p2:=(FI h2).1
 have he:E3 (abE g d k s):=by
  unfold abE
  split
  ·rw[if_pos ⟨⟨hd,by omega,by omega⟩,hg⟩];exact .inl rfl
  ·exact .inr (.inl rfl)
 unfold qN
 split
 ·rename_i h;exact⟨he,fun h0=>absurd h0 (by simpa using h),fun _ y hy=>by cases hy⟩
 ·exact⟨.inl rfl,fun _=>rfl,fun hz=>W5 hz (aD4 _) _⟩
theorem aHs {g x:T3}(h:g.1=x.1):E3 (rbF g x).2/\((rbF g x).2=0->(rbF g x).1.1=x.1)/\(Zr g.2.2->Zr (rbF g x).1.2.2):=by
 unfold rbF
 rw[if_pos h]
 split
 ·refine⟨.inl rfl,fun _=>h,fun hz=>VJ fun i => ?_⟩
  split
  ·exact hz.at_ i
  ·rfl
 ·exact⟨.inr (.inl rfl),fun h0=>(by cases h0),fun _ y hy=>by cases hy⟩
theorem aEG {g:T3}{d:List Int}(h:cL g=true->0<szF d->szF d=(g.2.2.length:Int)):E3 (pT g d).2/\((pT g d).2=0->(pT g d).1.1=d)/\(Zr g.2.2->Zr (pT g d).1.2.2):=by
 unfold pT
 split
 ·rename_i h1
  rw[if_pos (h h1.1 h1.2)]
  exact⟨.inl rfl,fun _=>rfl,fun hz=>hz⟩
 ·exact⟨.inr (.inl rfl),fun h0=>(by cases h0),fun _ y hy=>by cases hy⟩
theorem aBK (e f:Int):alF (IntKind.i64.wrap 0) e f=0:=by
 have hv:CM (IntKind.i64.wrap 0)=0:=by decide
 unfold alF
 dsimp only
 rw[hv]
 split
 ·exact Int.zero_fdiv _
 split
 ·rfl
 ·rw[show aM (-1048576) (bQ 0 1048576)=0 by decide,Int.zero_mul];decide
theorem aG3 {a g:T3}(h:a.1=g.1):E3 (addF a g).2/\((addF a g).2=0->(addF a g).1.1=a.1)/\(Zr a.2.2->Zr g.2.2->Zr (addF a g).1.2.2):=by
 unfold addF
 rw[if_pos h]
 split
 ·refine⟨.inl rfl,fun _=>rfl,fun hz hg y hy => ?_⟩
  obtain⟨i,_,rfl⟩:=List.mem_map.1 hy
  unfold mD
  rw[hz.at_,hg.at_,aBK,aBK]
  decide
 ·exact⟨.inr (.inl rfl),fun h0=>(by cases h0),fun _ _ y hy=>by cases hy⟩
end Go.Proofs.YtcfpfefadlnmcaaGreat

namespace Go.Proofs.YtcfpfefadlnmcaaGreat
open Go.Mach Go.RowKit
set_option maxRecDepth 100000
set_option linter.unusedVariables false
set_option linter.unusedSimpArgs false
theorem AB {d:List Int}{c:Int}{x:Lay}(h:eU d c x≠[]):∃ a H V,d=[a,H,V]/\aL H x.2.2.1 x.2.2.2.1 x.2.2.2.2.1≠0/\aL V x.2.2.1 x.2.2.2.1 x.2.2.2.2.1≠0/\eU d c x=[c,aL H x.2.2.1 x.2.2.2.1 x.2.2.2.2.1,aL V x.2.2.1 x.2.2.2.1 x.2.2.2.2.1]:=by
 have h3:=G7 h
 match d,h3,h with
 | [a,H,V],_,h =>
   unfold eU at h⊢
   grind
theorem N3 {m:Mdl}{ps:List Prm}(hp:kH m ps=true){i:Nat}(hi:i<m.2.length):∃ L,L=(aF m).1.take (i+1)/\sh m (i+1)=bX (m.2.getD i aG) L (sh m i)/\sh m (i+1)≠[]/\DimOk (sh m i)/\m8 (m.2.getD i aG) i=true:=by
 obtain⟨w1,_⟩:=yN hp
 obtain⟨_,_,k3⟩:=iC w1
 have hs:=wP hp
 obtain⟨_,_,s3⟩:=wV hs
 obtain⟨g1,g2⟩:=s3 i hi
 exact⟨_,rfl,g1,g2,E4 hs (by omega),k3 i hi⟩
theorem WT {t:T3}(h:cL t=true):(t.2.2.length:Int)=iE t.1:=by
 obtain⟨h1,h2,_⟩:=eK.1 h
 rw[h2,(lT h1).2.2.1]
theorem aH2 {m:Mdl}{ps:List Prm}(hp:kH m ps=true){i:Nat}(hi:i<m.2.length){g t:T3}{b st s n:Int}{fr:List Int}(hg:g.1=b::sh m (i+1))(ht:t.1=b::sh m i)(hm:cL t=true)
 (hf:(m.2.getD i aG).1=3->fr=CG t (m.2.getD i aG).2.2.1 (m.2.getD i aG).2.2.2.1) :
 E3 (onV (m.2.getD i aG) (ps.getD i dY) g t fr st s n).2/\((onV (m.2.getD i aG) (ps.getD i dY) g t fr st s n).2=0->(onV (m.2.getD i aG) (ps.getD i dY) g t fr st s n).1.1=b::sh m i)/\(Zr g.2.2->Zr (onV (m.2.getD i aG) (ps.getD i dY) g t fr st s n).1.2.2):=by
 obtain⟨L,_,g1,g2,hd,hl⟩:=N3 hp hi
 have hk:=AW hl
 have hpd:=HT hp hi
 rw[g1]at g2 hg
 generalize m.2.getD i aG=x at hk hpd g2 hf hg⊢
 generalize ps.getD i dY=p at hpd⊢
 generalize sh m i=d at hd g2 hpd hg ht⊢
 have sm:∀ {a:T3×Int} {k:Int},(E3 a.2/\(a.2=0->a.1.1=b::d)/\(Zr g.2.2->Zr a.1.2.2))->E3 (f8 st s a.1 a.2 n k).2/\((f8 st s a.1 a.2 n k).2=0->(f8 st s a.1 a.2 n k).1.1=b::d)/\(Zr g.2.2->Zr (f8 st s a.1 a.2 n k).1.2.2):=fun⟨a1,a2,a3⟩=>by
  obtain⟨b1,b2⟩:=TA (st:=st) (s:=s) (a:=_) (i:=n) (w:=_) a1
  exact⟨b1,fun h=>by rw[(b2 h).2];exact a2 (b2 h).1,fun hz=>LR (a3 hz)⟩
 unfold onV
 unfold bX at g2 hg
 rcases hk with⟨k,_⟩|⟨k,_⟩|⟨k|k,hpad⟩|k|k|k
 ·rw[if_neg (by omega),if_neg (by omega),if_neg (by omega),if_pos k]
  rw[if_pos k]at g2 hg
  split at g2
  ·rename_i h1
   rw[if_pos h1]at hg
   have hw:=(hpd (.inl k)).1
   unfold ofF at hw
   rw[if_pos k]at hw
   match d,h1 with
   | [d0],_=>exact sm (aHB hg hw)
  ·exact absurd rfl g2
 ·rw[if_neg (by omega),if_neg (by omega),if_neg (by omega),if_neg (by omega),if_pos k]
  rw[if_neg (by omega),if_pos k]at g2 hg
  obtain⟨a,H,V,rfl,n1,n2,e⟩:=AB g2
  rw[e]at hg
  have hw:=(hpd (.inr k)).1
  unfold ofF at hw
  rw[if_neg (by omega),if_pos k]at hw
  rw[ht]
  exact sm (aEL hg hw rfl rfl n1 n2)
 ·rw[if_neg (by omega),if_neg (by omega),if_neg (by omega),if_neg (by omega),if_neg (by omega),if_pos k]
  rw[if_neg (by omega),if_neg (by omega),if_pos (.inl k)]at g2 hg
  obtain⟨a,H,V,rfl,n1,n2,e⟩:=AB g2
  rw[hpad]at n1 n2 e
  rw[e]at hg
  have p1:=(FI n1).1
  have p2:=(FI n2).1
  refine sm ?_
  have:=aAK (g:=g) (fr:=fr) (d:=t.1) (fun hgm => ?_)
  ·rw[ht]at this⊢;exact this
  ·rw[hf k]
   unfold CG plN
   rw[VF,ht]
   simp only[List.getD_cons_succ,List.getD_cons_zero]
   have h1:=WT hgm
   rw[hg]at h1
   have h2:(g.2.2.length:Int)=b*(a*(aL H x.2.2.1 x.2.2.2.1 0*(aL V x.2.2.1 x.2.2.2.1 0*1))):=h1
   have hz:=(eK.1 hm).1
   rw[ht]at hz
   obtain⟨_,r2,_⟩:=lT hz
   have hb:=r2 b (by simp)
   have ha:=r2 a (by simp)
   obtain⟨B,rfl⟩:=Int.eq_ofNat_of_zero_le (show 0<=b by omega)
   obtain⟨A,rfl⟩:=Int.eq_ofNat_of_zero_le (show 0<=a by omega)
   obtain⟨P,hP⟩:=Int.eq_ofNat_of_zero_le (show 0<=aL H x.2.2.1 x.2.2.2.1 0 by omega)
   obtain⟨Q,hQ⟩:=Int.eq_ofNat_of_zero_le (show 0<=aL V x.2.2.1 x.2.2.2.1 0 by omega)
   rw[hP,hQ,Int.mul_one,<- Int.natCast_mul,<- Int.natCast_mul,<- Int.natCast_mul]at h2
   rw[hP,hQ,<- Int.natCast_mul,Int.toNat_natCast,Int.toNat_natCast,Int.toNat_natCast,Int.natCast_inj.1 h2,Nat.mul_assoc]
 ·rw[if_neg (by omega),if_neg (by omega),if_neg (by omega),if_neg (by omega),if_neg (by omega),if_neg (by omega),if_pos k]
  rw[if_neg (by omega),if_neg (by omega),if_pos (.inr k)]at g2 hg
  obtain⟨a,H,V,rfl,n1,n2,e⟩:=AB g2
  rw[hpad]at n1 n2 e
  rw[e]at hg
  refine sm ?_
  have:=ZS (g:=g) (d:=t.1) (k:=x.2.2.1) (s:=x.2.2.2.1) (by rw[ht];rfl) (by rw[ht,hg];rfl) (by rw[ht];exact n1) (by rw[ht];exact n2)
  rw[ht]at this⊢;exact this
 ·rw[if_pos k]
  rw[if_neg (by omega),if_neg (by omega),if_neg (by omega),if_pos k]at hg
  have:=aHs (g:=g) (x:=t) (by rw[hg,ht])
  rw[ht]at this;exact this
 ·rw[if_neg (by omega),if_pos k]
  rw[if_neg (by omega),if_neg (by omega),if_neg (by omega),if_neg (by omega),if_pos k]at hg
  have:=aEG (g:=g) (d:=t.1) (fun hgm hz=>by
   have h1:=WT hgm
   rw[hg]at h1
   obtain⟨q1,q2,_⟩:=hd.sz
   have q3:=(lT q1).2.2.1
   have h1:(g.2.2.length:Int)=b*(oZ d*1):=h1
   rw[(lT hz).2.2.1,h1,ht,q2,q3]
   show b*iE d=_
   rw[Int.mul_one])
  rw[ht]at this⊢;exact this
 ·rw[if_neg (by omega),if_neg (by omega),if_pos k]
  rw[if_neg (by omega),if_neg (by omega),if_neg (by omega),if_neg (by omega),if_neg (by omega),if_pos k]at g2 hg
  split at g2
  ·rename_i h1
   rw[if_pos h1]at hg
   exact⟨.inl rfl,fun _=>hg,fun h=>h⟩
  ·exact absurd rfl g2
theorem aCn {m:Mdl}{ps:List Prm}(hp:kH m ps=true){i:Nat}(hi:i<m.2.length)(h7:(m.2.getD i aG).1=7):(m.2.getD i aG).2.2.2.2.2.1.toNat<i+1/\sh m (i+1)=sh m i/\sh m (m.2.getD i aG).2.2.2.2.2.1.toNat=sh m i:=by
 obtain⟨L,hL,g1,g2,hd,hl⟩:=N3 hp hi
 have hfr:=vV hl h7
 have hml:=(iC (yN hp).1).2.1
 rw[aA ((i:Int)-1) (by omega) (by omega)]at hfr
 rw[g1]at g2⊢
 unfold bX at g2⊢
 rw[if_neg (by omega),if_neg (by omega),if_neg (by omega),if_neg (by omega),if_neg (by omega),if_pos h7]at g2⊢
 split at g2
 ·rename_i h1
  rw[if_pos h1]
  have hlt:(m.2.getD i aG).2.2.2.2.2.1.toNat<i+1:=by omega
  refine⟨hlt,rfl,?_⟩
  rw[hL,List.getD_eq_getElem?_getD,List.getElem?_take_of_lt hlt,<- List.getD_eq_getElem?_getD]at h1
  exact h1
 ·exact absurd rfl g2
structure GK (m:Mdl)(Z:Bool)(j:Nat)(G:G3):Prop where
 has:G.1=HL (m.2.getD j aG)
 dims:G.1=true->G.2.1.1=(ofF (m.2.getD j aG) (sh m j)).1/\G.2.2.1=[(ofF (m.2.getD j aG) (sh m j)).2]
 zero:Z=true->Zr G.2.1.2.2/\Zr G.2.2.2.2
theorem aHO {m:Mdl}{ps:List Prm}(hp:kH m ps=true){i:Nat}(hi:i<m.2.length){g t:T3}{b:Int}{Z:Bool}(hg:g.1=b::sh m (i+1))(ht:t.1=b::sh m i)(hz:Z=true->Zr g.2.2) :
 E3 (grV (m.2.getD i aG) g t).2/\((grV (m.2.getD i aG) g t).2=0->GK m Z i (grV (m.2.getD i aG) g t).1):=by
 by_cases hw:HL (m.2.getD i aG)=true
 rotate_left
 ·have e:grV (m.2.getD i aG) g t=(gY,0):=by unfold grV;rw[if_neg hw]
  rw[e]
  exact⟨.inl rfl,fun _=>⟨(Bool.eq_false_iff.2 hw).symm,(fun h=>by cases h),fun _=>⟨fun y hy=>(by cases hy),fun y hy=>(by cases hy)⟩⟩⟩
 have e:grV (m.2.getD i aG) g t=yL (m.2.getD i aG) g t:=by unfold grV;rw[if_pos hw]
 have hk12:(m.2.getD i aG).1=1\/(m.2.getD i aG).1=2:=by
  have:=hw
  unfold HL at this
  simp only[Bool.and_eq_true,Bool.or_eq_true,beq_iff_eq]at this
  exact this.1
 rw[e]
 obtain⟨L,_,g1,g2,hd,hl⟩:=N3 hp hi
 rw[g1]at g2 hg
 have key:∀ {a c:T3×Int},(E3 a.2/\(a.2=0->a.1.1=(ofF (m.2.getD i aG) (sh m i)).1)/\(Zr g.2.2->Zr a.1.2.2))->(E3 c.2/\(c.2=0->c.1.1=[(ofF (m.2.getD i aG) (sh m i)).2])/\(Zr g.2.2->Zr c.1.2.2)) ->
  E3 (if a.2=0 then(if c.2=0 then(((true,a.1,c.1):G3),(0:Int))else(gY,c.2))else(gY,a.2)).2/\((if a.2=0 then(if c.2=0 then(((true,a.1,c.1):G3),(0:Int))else(gY,c.2))else(gY,a.2)).2=0 ->
   GK m Z i (if a.2=0 then(if c.2=0 then(((true,a.1,c.1):G3),(0:Int))else(gY,c.2))else(gY,a.2)).1):=fun⟨a1,a2,a3⟩ ⟨c1,c2,c3⟩=>by
  split
  ·rename_i h1
   split
   ·rename_i h2
    exact⟨.inl rfl,fun _=>⟨hw.symm,fun _=>⟨a2 h1,c2 h2⟩,fun h=>⟨a3 (hz h),c3 (hz h)⟩⟩⟩
   ·rename_i h2;exact⟨c1,fun h=>absurd h h2⟩
  ·rename_i h1;exact⟨a1,fun h=>absurd h h1⟩
 unfold yL
 unfold bX at g2 hg
 unfold ofF at key
 rcases hk12 with k|k
 ·rw[if_pos k]
  rw[if_pos k]at g2 hg
  simp only[if_pos k]at key
  split at g2
  ·rename_i h1
   rw[if_pos h1]at hg
   generalize sh m i=d at h1 ht key
   match d,h1 with
   | [d0],_=>exact key (aHC hg ht) (aGZ hg)
  ·exact absurd rfl g2
 ·have k1 : ¬ (m.2.getD i aG).1=1:=by omega
  rw[if_neg k1]
  rw[if_neg k1,if_pos k]at g2 hg
  simp only[if_neg k1,if_pos k]at key
  obtain⟨a,H,V,e3,n1,n2,e4⟩:=AB g2
  rw[e4]at hg
  rw[e3]at ht key
  exact key (aBp hg ht rfl rfl n1 n2) (aF8 hg)
def BI (m:Mdl)(b:Int)(Z:Bool)(back:List (List T3)):Prop:=∀ i t,back.getD i []=[t]->t.1=b::sh m i/\(Z=true->Zr t.2.2)
theorem BI.set {m:Mdl}{b:Int}{Z:Bool}{back:List (List T3)}(h:BI m b Z back){i:Nat}{t:T3}(h1:t.1=b::sh m i)(h2:Z=true->Zr t.2.2):BI m b Z (back.set i [t]):=fun j u hu=>by
 rw[List.getD_eq_getElem?_getD]at hu
 by_cases e:i=j
 ·subst e
  by_cases hl:i<back.length
  ·rw[List.getElem?_set_self hl]at hu
   cases hu;exact⟨h1,h2⟩
  ·rw[List.getElem?_eq_none (by simp;omega)]at hu;cases hu
 ·rw[List.getElem?_set_ne e,<- List.getD_eq_getElem?_getD]at hu
  exact h j u hu
theorem KH {m:Mdl}{b:Int}{Z:Bool}{back:List (List T3)}(h:BI m b Z back){st s i:Int}{g:T3}(h1:g.1=b::sh m i.toNat)(h2:Z=true->Zr g.2.2):E3 (FA st s back i g).1/\BI m b Z (FA st s back i g).2/\((FA st s back i g).1=0->i.toNat<back.length->∃ t,(FA st s back i g).2.getD i.toNat []=[t]):=by
 have own:∀ t:T3,i.toNat<back.length->∃ u,(back.set i.toNat [t]).getD i.toNat []=[u]:=fun t hl=>⟨t,by rw[List.getD_eq_getElem?_getD,List.getElem?_set_self hl];rfl⟩
 unfold FA
 split
 ·rename_i t ht
  obtain⟨k1,k2⟩:=h _ _ ht
  obtain⟨a1,a2,a3⟩:=aG3 (a:=t) (g:=g) (by rw[k1,h1])
  obtain⟨s1,s2⟩:=TA (st:=st) (s:=s) (a:=(addF t g).1) (i:=i) (w:=1) a1
  split
  ·grind
  ·rename_i he
   have he:(f8 st s (addF t g).1 (addF t g).2 i 1).2=0:=by simpa using he
   refine⟨.inl rfl,h.set ?_ (fun hz=>LR (a3 (k2 hz) (h2 hz))),fun _=>own _⟩
   rw[(s2 he).2,a2 (s2 he).1,k1]
 ·exact⟨.inl rfl,h.set h1 h2,fun _=>own _⟩
theorem aDs {st s:Int}{back:List (List T3)}{i:Int}{g:T3}{j:Nat}(h:∃ t,back.getD j []=[t]):∃ t,(FA st s back i g).2.getD j []=[t]:=by
 have own:∀ t:T3,∃ u,(back.set i.toNat [t]).getD j []=[u]:=fun t=>by
  grind
 unfold FA
 grind
theorem aF3 {m:Mdl}{ps:List Prm}(hp:kH m ps=true){i:Nat}(hi:i<m.2.length){b e st s:Int}{Z:Bool}{back:List (List T3)}{g nx:T3}(h:BI m b Z back)(hb:back.length=m.2.length+1)(hg:g.1=b::sh m (i+1))(hgz:Z=true->Zr g.2.2)(he:E3 e)(hx:e=0->nx.1=b::sh m i)(hxz:Z=true->Zr nx.2.2) :
 E3 (wO st s ((i+1:Nat):Int) e (m.2.getD i aG).1 (m.2.getD i aG).2.2.2.2.2.1 g nx back).1/\BI m b Z (wO st s ((i+1:Nat):Int) e (m.2.getD i aG).1 (m.2.getD i aG).2.2.2.2.2.1 g nx back).2 /\
  ((wO st s ((i+1:Nat):Int) e (m.2.getD i aG).1 (m.2.getD i aG).2.2.2.2.2.1 g nx back).1=0->∃ t,(wO st s ((i+1:Nat):Int) e (m.2.getD i aG).1 (m.2.getD i aG).2.2.2.2.2.1 g nx back).2.getD i []=[t]):=by
 have ei:(((i+1:Nat):Int)-1)=(i:Int):=by omega
 have ad:∀ (e:Int) (back:List (List T3)),E3 e->BI m b Z back->(e=0->∃ t,back.getD i []=[t])->E3 (KW st s e (m.2.getD i aG).1 (m.2.getD i aG).2.2.2.2.2.1 g back).1/\BI m b Z (KW st s e (m.2.getD i aG).1 (m.2.getD i aG).2.2.2.2.2.1 g back).2 /\
  ((KW st s e (m.2.getD i aG).1 (m.2.getD i aG).2.2.2.2.2.1 g back).1=0->∃ t,(KW st s e (m.2.getD i aG).1 (m.2.getD i aG).2.2.2.2.2.1 g back).2.getD i []=[t]):=by
  intro e back he h ht
  unfold KW
  split
  ·rename_i hc
   simp only[Bool.and_eq_true,beq_iff_eq]at hc
   obtain⟨_,f2,f3⟩:=aCn hp hi hc.2
   obtain⟨p1,p2,_⟩:=KH (st:=st) (s:=s) (i:=(m.2.getD i aG).2.2.2.2.2.1) h (by rw[hg,f2,f3]) hgz
   exact⟨p1,p2,fun _=>aDs (ht hc.1)⟩
  ·exact⟨he,h,ht⟩
 unfold wO
 split
 ·rename_i hc
  have hc:e=0:=by simpa using hc
  obtain⟨p1,p2,p3⟩:=KH (st:=st) (s:=s) (i:=((i+1:Nat):Int)-1) h (by rw[ei,Int.toNat_natCast];exact hx hc) hxz
  refine ad _ _ p1 p2 fun h0 => ?_
  have:=p3 h0
  rw[ei]at this⊢
  rw[Int.toNat_natCast]at this
  exact this (by omega)
 ·grind
theorem aDK {m:Mdl}{ps:List Prm}(hp:kH m ps=true){b:Int}{a:Act}(hf:Fw m b m.2.length a){i:Nat}(hi:i<m.2.length){st s:Int}{Z:Bool}{back:List (List T3)}(h:BI m b Z back)(hb:back.length=m.2.length+1)(ht:∃ t,back.getD (i+1) []=[t]) :
 E3 (gV m ps a.1 a.2 st s (i+1) back).1.2/\((gV m ps a.1 a.2 st s (i+1) back).1.2=0->GK m Z i (gV m ps a.1 a.2 st s (i+1) back).1.1/\BI m b Z (gV m ps a.1 a.2 st s (i+1) back).2/\(gV m ps a.1 a.2 st s (i+1) back).2.length=m.2.length+1/\∃ t,(gV m ps a.1 a.2 st s (i+1) back).2.getD i []=[t]):=by
 obtain⟨g,hg⟩:=ht
 obtain⟨k1,k2⟩:=h _ _ hg
 have e:gV m ps a.1 a.2 st s (i+1) back=MZ m ps a.1 a.2 st s (i+1) back g:=by unfold gV;rw[hg]
 rw[e]
 unfold MZ
 rw[Nat.add_sub_cancel]
 have hd:=hf.dims i (by omega)
 obtain⟨g1,g2⟩:=aHO (Z:=Z) hp hi k1 hd k2
 split
 ·rename_i h0
  obtain⟨o1,o2,o3⟩:=aH2 (st:=st) (s:=s) (n:=((i+1:Nat):Int)) (fr:=a.2.getD (i+1) []) hp hi k1 hd (by
   rw[List.getD_eq_getElem?_getD,List.getElem?_eq_getElem (by rw[hf.len];omega)]
   exact hf.may _ (List.getElem_mem _)) (fun h3=>(hf.max i hi h3).1)
  obtain⟨n1,n2,n3⟩:=aF3 (st:=st) (s:=s) hp hi h hb k1 k2 o1 o2 (fun hz=>o3 (k2 hz))
  exact⟨n1,fun h1=>⟨g2 h0,n2,by rw[YG];exact hb,n3 h1⟩⟩
 ·rename_i h0
  exact⟨g1,fun h1=>absurd h1 h0⟩
theorem aBR {m:Mdl}{ps:List Prm}(hp:kH m ps=true){b:Int}{a:Act}(hf:Fw m b m.2.length a){st s:Int}{Z:Bool}:∀ (n:Nat) (out:List G3) (back:List (List T3)),n<=m.2.length->out.length=m.2.length->back.length=m.2.length+1->BI m b Z back->(∃ t,back.getD n []=[t])->(∀ j,n<=j->j<m.2.length->GK m Z j (out.getD j gY)) ->
 E3 (qF m ps a.1 a.2 st s n out back).2.2/\((qF m ps a.1 a.2 st s n out back).2.2=0->(qF m ps a.1 a.2 st s n out back).1.length=m.2.length/\∀ j,j<m.2.length->GK m Z j ((qF m ps a.1 a.2 st s n out back).1.getD j gY))/\((qF m ps a.1 a.2 st s n out back).2.2≠0->(qF m ps a.1 a.2 st s n out back).1=[])
 | 0,out,back,hn,ho,hb,h,ht,hk=>⟨.inl rfl,fun _=>⟨ho,fun j hj=>hk j (Nat.zero_le _) hj⟩,fun h=>absurd rfl h⟩
 | n+1,out,back,hn,ho,hb,h,ht,hk=>by
   obtain⟨l1,l2⟩:=aDK (st:=st) (s:=s) hp hf (i:=n) (by omega) h hb ht
   unfold qF
   split
   ·rename_i h0
    obtain⟨q1,q2,q3,q4⟩:=l2 h0
    refine aBR hp hf n _ _ (by omega) (by rw[List.length_set];exact ho) q3 q2 q4 fun j h1 h2 => ?_
    by_cases e:n=j
    ·subst e
     rw[List.getD_eq_getElem?_getD,List.getElem?_set_self (by omega)]
     exact q1
    ·rw[List.getD_eq_getElem?_getD,List.getElem?_set_ne e,<- List.getD_eq_getElem?_getD]
     exact hk j (by omega) h2
   ·rename_i h0
    exact⟨l1,fun h1=>absurd h1 h0,fun _=>rfl⟩
theorem aFU {m:Mdl}{ps:List Prm}{x:T3}{s st s' st':Int}{Z:Bool}{g:T3}(h:(oH m ps x s st).2.2=0)(hg:g.1=((oH m ps x s st).1.1.getD m.2.length Z3).1)(hz:Z=true->Zr g.2.2) :
 E3 (wT m ps (oH m ps x s st).1.1 (oH m ps x s st).1.2 g s' st').2.2/\((wT m ps (oH m ps x s st).1.1 (oH m ps x s st).1.2 g s' st').2.2=0->(wT m ps (oH m ps x s st).1.1 (oH m ps x s st).1.2 g s' st').1.length=m.2.length/\∀ j,j<m.2.length->GK m Z j ((wT m ps (oH m ps x s st).1.1 (oH m ps x s st).1.2 g s' st').1.getD j gY)) /\
  ((wT m ps (oH m ps x s st).1.1 (oH m ps x s st).1.2 g s' st').2.2≠0->(wT m ps (oH m ps x s st).1.1 (oH m ps x s st).1.2 g s' st').1=[]):=by
 obtain⟨b,hf⟩:=aEu h
 have hp:=(NR h).1.1
 generalize (oH m ps x s st).1=a at hg hf⊢
 unfold wT
 by_cases e:DO m ps a.1 a.2 st' g=0
 rotate_left
 ·rw[if_neg e]
  refine⟨?_,fun h0=>absurd h0 e,fun _=>rfl⟩
  unfold DO at e⊢
  split
  ·exact .inr (.inl rfl)
  rename_i e1
  rw[if_neg e1]at e
  have b2:W4 m a.1=false:=by
   unfold W4
   rw[List.any_eq_false]
   intro i hi
   have hi:=List.mem_range.1 hi
   rw[hf.dims i (by omega),hf.dims 0 (by omega)]
   show ¬ (!decide (b::sh m i=b::sh m i))=true
   simp
  have b3:aCk m a.1 a.2 g=false:=by
   unfold aCk
   rw[hf.len,hf.flen,Nat.add_sub_cancel,hg]
   simp
  grind
 rw[if_pos e]
 refine aBR hp hf m.2.length _ _ (Nat.le_refl _) List.length_replicate (by rw[List.length_set,List.length_replicate];exact hf.len) ?_ ⟨g,?_⟩ (fun j h1 h2=>by omega)
 ·refine BI.set (fun i t hi => ?_) (by rw[hg];exact hf.dims _ (Nat.le_refl _)) hz
  grind
 ·rw[List.getD_eq_getElem?_getD,List.getElem?_set_self (by rw[List.length_replicate,hf.len];omega)];rfl
end Go.Proofs.YtcfpfefadlnmcaaGreat

namespace Go.Proofs.YtcfpfefadlnmcaaGreat
open Go.Mach Go.RowKit
set_option maxRecDepth 100000
set_option linter.unusedVariables false
set_option linter.unusedSimpArgs false
def Bd (l:List Int):Prop:=∀ y∈l,-16777216<y/\y<16777216
theorem rS:Bd []:=fun y hy=>by cases hy
theorem aDC {f:Nat->Int}{B:Int}(hB:0<=B){k:Nat}(h:∀ i,i≠k->f i=0)(hk : -B<=f k/\f k<=B)(n:Nat) : -B<=bR f n/\bR f n<=B:=by
 rcases Nat.lt_or_ge k n with h1|h1
 ·rw[aBi h1 fun i _ hi=>h i hi];exact hk
 ·rw[pV fun i hi=>h i (by omega)];omega
theorem aGJ {rows cols r c s p:Int}{K:Nat}{f:Int×Int×Int->Int}{B:Int}(hB:0<=B){i0 j0:Nat}(hf:∀ z:Int×Int×Int,¬ (z.2.1=(i0:Int)/\z.2.2=(j0:Int))->f z=0)(hb:∀ z,-B<=f z/\f z<=B) :
 -B<=nF (eM rows cols r c K s p) f/\nF (eM rows cols r c K s p) f<=B:=by
 have cell:∀ i j:Nat,(¬ (i=i0/\j=j0)->nF (jO rows cols (s*r-p) (s*c-p) i j) f=0) /\ -B<=nF (jO rows cols (s*r-p) (s*c-p) i j) f/\nF (jO rows cols (s*r-p) (s*c-p) i j) f<=B:=by
  intro i j
  unfold jO
  split
  ·rw[yY,IR,Int.add_zero]
   grind
  ·rw[IR];exact⟨fun _=>rfl,by omega⟩
 unfold eM
 split
 ·rw[IR];omega
 unfold CL oQ
 rw[IU,N4]
 simp only[IU,N4]
 refine aDC hB (k:=i0) (fun i hi=>pV fun j _=>(cell i j).1 fun h=>hi h.1) ?_ _
 exact aDC hB (k:=j0) (fun j hj=>(cell i0 j).1 fun h=>hj h.2) (cell i0 j0).2 _
theorem aGF {x:Int}(h : -16777216<x/\x<16777216) : -16777216<IntKind.i32.wrap x/\IntKind.i32.wrap x<16777216:=by
 rw[wA x (by omega) (by omega)];exact h
theorem aFH {R C n e:Int}{f:Nat->Nat->Int}(h:kI n=true->∀ r c,-16777216<f r c/\f r c<16777216):Bd (kV R C n e f).1.2.2:=by
 unfold kV
 split
 ·exact rS
 rename_i h1
 split
 ·exact rS
 ·have hf:kI n=true:=by
   grind
  intro y hy
  unfold kF at hy
  grind
theorem aGQ {g x:T3}(bg:All8 g.2.2)(bx:All8 x.2.2):Bd (I3 g x).1.2.2:=by
 unfold I3
 split
 ·exact rS
 split
 ·exact rS
 ·refine aFH fun hf r c => ?_
  have hn:=zL hf
  have:=aDR (n:=(g.1.getD 0 0).toNat) (R:=(g.1.getD 1 0).toNat) (C:=(x.1.getD 1 0).toNat) (o:=r) (i:=c) (by omega) bg bx
  omega
theorem aCe {g x:T3}{k s p:Int}(bg:All8 g.2.2)(bx:All8 x.2.2):Bd (mH g x k s p).1.2.2:=by
 unfold mH
 split
 ·exact rS
 rename_i h
 have h:wtE g x k s p=0:=by simpa using h
 unfold wtE at h
 split at h
 ·rename_i h1;exact absurd h (by simpa using h1)
 rename_i hc
 have hc:jE [g,x]=0:=by simpa using hc
 split at h
 ·cases h
 obtain⟨hf,_⟩:=vP h
 have hn:=zL hf
 obtain⟨hg,hg4⟩:=u7 hc g (by simp)
 have hz:=(eK.1 hg).1
 obtain⟨_,r2,_⟩:=lT hz
 have pos:∀ i,i<4->0<=g.1.getD i 0:=fun i hi=>by
  rw[List.getD_eq_getElem?_getD,List.getElem?_eq_getElem (by omega)]
  have:=r2 _ (List.getElem_mem (l:=g.1) (n:=i) (by omega))
  show 0<=g.1[i]
  omega
 obtain⟨b,hb⟩:=Int.eq_ofNat_of_zero_le (pos 0 (by omega))
 obtain⟨P,hP⟩:=Int.eq_ofNat_of_zero_le (pos 2 (by omega))
 obtain⟨Q,hQ⟩:=Int.eq_ofNat_of_zero_le (pos 3 (by omega))
 unfold wtN at hn
 rw[hb,hP,hQ,<- Int.natCast_mul,<- Int.natCast_mul]at hn
 intro y hy
 have hy:y∈PD g x k s p:=hy
 unfold PD w4 GU at hy
 obtain⟨t,_,rfl⟩:=VK hy
 refine aGF ?_
 rw[hb,hP,hQ]
 simp only[Int.toNat_natCast]
 have wm:∀ (i o c a:Nat),-(16384*(b:Int))<=wtM b (g.1.getD 1 0).toNat (x.1.getD 1 0).toNat P Q ((x.1.getD 2 0).toNat*(x.1.getD 3 0).toNat) g.2.2 x.2.2 i o c a/\wtM b (g.1.getD 1 0).toNat (x.1.getD 1 0).toNat P Q ((x.1.getD 2 0).toNat*(x.1.getD 3 0).toNat) g.2.2 x.2.2 i o c a<=16384*(b:Int):=fun i o c a =>
  IJ _ 16384 b fun m _=>by unfold wtG;exact R4 (bg.at_ _) (bx.at_ _)
 unfold VY
 have:=IJ (fun i=>nF (eM ((x.1.getD 2 0).toNat:Int) ((x.1.getD 3 0).toNat:Int) ((i / Q:Nat):Int) ((i%Q:Nat):Int) (k.toNat:Int) s p) (wtZ b (g.1.getD 1 0).toNat (x.1.getD 1 0).toNat P Q ((x.1.getD 2 0).toNat*(x.1.getD 3 0).toNat) g.2.2 x.2.2 i (t / k.toNat / k.toNat / (x.1.getD 1 0).toNat) (t / k.toNat / k.toNat%(x.1.getD 1 0).toNat) (t / k.toNat%k.toNat) (t%k.toNat))) (16384*(b:Int)) (P*Q) fun i _=>by
  refine aGJ (by omega) (i0:=t / k.toNat%k.toNat) (j0:=t%k.toNat) (fun z hz => ?_) (fun z => ?_)
  ·unfold wtZ;rw[if_neg hz]
  ·unfold wtZ
   split
   ·exact wm _ _ _ _
   ·omega
 grind
def BdG (G:G3):Prop:=Bd G.2.1.2.2
theorem aHZ {x:Lay}{g t:T3}(bg:All8 g.2.2)(bt:All8 t.2.2):BdG (grV x g t).1:=by
 unfold grV yL
 split
 ·split
  ·split
   ·split
    ·exact aGQ bg bt
    ·exact rS
   ·exact rS
  ·split
   ·split
    ·exact aCe bg bt
    ·exact rS
   ·exact rS
 ·exact rS
theorem aEH {m:Mdl}{ps:List Prm}{T:List T3}{F:List (List Int)}{st s:Int}{n:Nat}{back:List (List T3)}(h:Bk8 back)(hT:Ten8 T):BdG (gV m ps T F st s n back).1.1:=by
 unfold gV
 split
 ·rename_i g hg
  unfold MZ
  split
  ·exact aHZ (h.at_ hg) (hT.at_ _)
  ·exact rS
 ·exact rS
theorem aBX {m:Mdl}{ps:List Prm}{T:List T3}{F:List (List Int)}{st s:Int}(hT:Ten8 T):∀ (n:Nat) (out:List G3) (back:List (List T3)),Bk8 back->(∀ G∈out,BdG G)->∀ G∈(qF m ps T F st s n out back).1,BdG G
 | 0,out,back,_,h=>h
 | n+1,out,back,h8,h=>by
   unfold qF
   split
   ·refine aBX hT n _ _ (aDo h8).1 fun G hG => ?_
    rcases List.mem_or_eq_of_mem_set hG with h1|h1
    ·exact h G h1
    ·subst h1;exact aEH h8 hT
   ·intro G hG;cases hG
theorem aE5 {m:Mdl}{ps:List Prm}{T:List T3}{F:List (List Int)}{g:T3}{s st:Int}(hT:Ten8 T)(hg:All8 g.2.2):∀ G∈(wT m ps T F g s st).1,BdG G/\C8 G:=by
 unfold wT
 split
 ·refine fun G hG=>⟨aBX hT _ _ _ (Bk8.set (fun l hl t ht => ?_) hg) (fun G hG => ?_) G hG,OX _ _ _ aCC G hG⟩
  ·grind
  ·rw[List.eq_of_mem_replicate hG];exact rS
 ·intro G hG;cases hG
theorem aDN {m:Mdl}{ps:List Prm}(hp:kH m ps=true){i:Nat}(hi:i<m.2.length):decide (0<((mR m ((i:Int)+1)).1.length:Int))=(((m.2.getD i aG).1==1)||((m.2.getD i aG).1==2)):=by
 by_cases h:(m.2.getD i aG).1=1\/(m.2.getD i aG).1=2
 ·have e:=(HT hp hi h).2
  rw[e]
  unfold ofF
  grind
 ·have e:(ofF (m.2.getD i aG) (sh m i)).1=[]:=by
   unfold ofF
   grind
  have:(mR m ((i:Int)+1)).1=[]:=by
   unfold mR
   split
   ·rfl
   ·split
    ·rw[show((i:Int)+1-1).toNat=i by omega];exact e
    ·rfl
  grind
theorem Z1 {n:aGr}{l:List Int}{ex seed:Int}{Q:Bool->Prop}(hl:n.1.2.length<=10000000000000)(hb:n.2.2.1.length<=1000000000000000)(b8:All8 n.2.2.1)(x8:All8 n.2.2.2.2.1)(l8:l.length<=1000000000000000/\All8 l)(h:Q true):hZ n l ex seed Q:=by
 refine⟨?_⟩
 split
 ·exact DM h
 rename_i hn
 have hn : ¬ 12<(n.1.2.length:Int):=by simpa using hn
 refine aGM hl hb b8 x8 fun ps x e he => ?_
 dsimp only
 by_cases he0:e=0
 rotate_left
 ·rw[if_pos (by simpa using he0)];exact DM h
 rw[if_neg (by simpa using he0)]
 obtain⟨p1,p2,p3,_⟩:=he he0
 refine aFn hl p2 p3 ?_
 by_cases hf:(oH n.1 ps x seed 0).2.2=0
 rotate_left
 ·rw[if_pos (by simp[hf])]
  refine tD (b:=((oH n.1 ps x seed 0).2.2 != 0)) (c:=true) (fun _ P hP=>DM hP) (fun v e => ?_) rfl
  rw[e,show((oH n.1 ps x seed 0).2.2 != 0)=true by simpa using hf]
  exact h
 obtain⟨a1,a2⟩:=aCi hf
 have hp:=(NR hf).1.1
 have a8:=aCh (m:=n.1) (ps:=ps) (s:=seed) (st:=0) p3
 have key:=fun(g:T3) hg hz=>aFU (s':=seed) (st':=0) (Z:=false) (g:=g) hf hg hz
 generalize oH n.1 ps x seed 0=A at hf a1 a2 a8 key⊢
 have ew1:IntKind.i64.wrap ((n.1.2.length:Int)+1)=(n.1.2.length:Int)+1:=aA _ (by omega) (by omega)
 rw[ew1,if_neg (by simp only[Bool.or_eq_true,bne_iff_ne,ne_eq];omega)]
 refine⟨?_⟩
 have ew:IntKind.i64.wrap ((A.1.1.length:Int)-1)=(n.1.2.length:Int):=by rw[aA _ (by omega) (by omega)];omega
 rw[ew,Int.toNat_natCast]
 refine⟨by omega,?_⟩
 have ht:=eI (show cL (A.1.1.getD n.1.2.length Z3)=true by
  rw[List.getD_eq_getElem?_getD,List.getElem?_eq_getElem (by omega)]
  exact a2 _ (List.getElem_mem _))
 refine aGq (t:=A.1.1.getD n.1.2.length Z3) (by omega) (by omega) l8.1 ?_
 refine aER (m:=n.1) (by omega) (by omega) p2 a8 (aFv l8.2) ?_
 obtain⟨k1,k2,k3⟩:=key (XL (A.1.1.getD n.1.2.length Z3) l ex) rfl (fun h=>by cases h)
 have sG:=aE5 (m:=n.1) (ps:=ps) (F:=A.1.2) (g:=XL (A.1.1.getD n.1.2.length Z3) l ex) (s:=seed) (st:=0) a8 (aFv l8.2)
 generalize wT n.1 ps A.1.1 A.1.2 (XL (A.1.1.getD n.1.2.length Z3) l ex) seed 0=R at k1 k2 k3 sG⊢
 by_cases hr:R.2.2=0
 rotate_left
 ·rw[if_pos (by simpa using hr)]
  refine tD (b:=(((R.2.2==3)||(R.2.2==1))&&((R.1.length:Int)==0))) (c:=true) (fun _ P hP=>DM hP) (fun v e => ?_) rfl
  have:((R.2.2==3)||(R.2.2==1))=true:=by
   rcases k1 with k|k|k
   ·exact absurd k hr
   ·rw[k];rfl
   ·rw[k];rfl
  rw[e,this,k3 hr]
  exact h
 rw[if_neg (by simpa using hr)]
 obtain⟨l1,l2⟩:=k2 hr
 generalize R.1=G at l1 l2 sG⊢
 refine⟨?_⟩
 rw[if_neg (by simp[l1])]
 refine⟨?_⟩
 refine Loop.range (B:=cS G n.1.2 (n.1.2.length:Int) n.1.1.1 n.1.1.2.1 n.1.1.2.2 n.1.2 _ _) n.1.2.length (fun i=>(i:Int)) (fun _=>True) trivial (fun i hi _ X hX => ?_) (fun _ X => ?_)
 ·unfold cS
  have hX:=hX trivial
  rw[if_pos (decide_eq_true (show(i:Int)<(n.1.2.length:Int) by omega)),Int.toNat_natCast,aA ((i:Int)+1) (by omega) (by omega)]
  refine⟨by omega,aBJ (m:=n.1) hl ⟨by omega,?_⟩⟩
  have gk:=l2 i hi
  have hs:=sG _ (List.getElem_mem (l:=G) (n:=i) (by omega))
  have hd:=aDN hp hi
  have hpd:=HT hp hi
  have eG:G.getD i (false,([],(0,[])),([],(0,[])))=G[i]:=by rw[List.getD_eq_getElem?_getD,List.getElem?_eq_getElem (by omega)];rfl
  have eG2:G.getD i gY=G[i]:=eG
  rw[eG2]at gk
  rw[eG]
  generalize hY0:G[i]=Y at gk hs⊢
  change ((n.1.2.getD i (0,0,0,0,0,0,false)).1=1\/(n.1.2.getD i (0,0,0,0,0,0,false)).1=2)->_ at hpd
  change decide (0<((mR n.1 ((i:Int)+1)).1.length:Int))=(((n.1.2.getD i (0,0,0,0,0,0,false)).1==1)||((n.1.2.getD i (0,0,0,0,0,0,false)).1==2))at hd
  have gh:=gk.has
  have gd:=gk.dims
  change Y.1=HL (n.1.2.getD i (0,0,0,0,0,0,false))at gh
  generalize hx:n.1.2.getD i (0,0,0,0,0,0,false)=L at hpd hd gh⊢
  have gd:Y.1=true->Y.2.1.1=(mR n.1 ((i:Int)+1)).1/\Y.2.2.1=[(mR n.1 ((i:Int)+1)).2]:=fun hY=>by
   have e:=gd hY
   have hx2:n.1.2.getD i aG=L:=hx
   rw[hx2]at e
   have hw:=hY
   rw[gh]at hw
   unfold HL at hw
   simp only[Bool.and_eq_true,Bool.or_eq_true,beq_iff_eq]at hw
   have e2:=(hpd hw.1).2
   rw[e2];exact e
  rw[hd,if_neg (by
   rw[gh]
   unfold HL
   simp)]
  refine⟨by omega,?_⟩
  have next:dB (i:Int) (fun y=>X y):=⟨by rw[aA _ (by omega) (by omega)];exact hX⟩
  by_cases hY:Y.1=true
  rotate_left
  ·rw[if_pos (by simpa using hY)];exact next
  rw[if_neg (by simpa using hY)]
  obtain⟨d1,d2⟩:=gd hY
  refine⟨by omega,VG hs.2.1.1 ?_⟩
  rw[d1,decide_eq_true rfl]
  refine nL (b := !true) (c := !decide (Y.2.2.1=[(mR n.1 ((i:Int)+1)).2])) (fun _ P hP=>⟨by omega,VG hs.2.2.1 hP⟩) (fun v e => ?_) rfl
  rw[d2,decide_eq_true rfl]at e
  subst e
  rw[if_neg (by decide)]
  refine⟨?_⟩
  rw[Int.toNat_natCast,eG,hY0]
  refine⟨by omega,⟨?_⟩⟩
  have hs2:=hs.2.1.2
  refine Loop.range (B:=cU Y.2.1.2.2 (Y.2.1.2.2.length:Int) _ _) Y.2.1.2.2.length (fun j=>(j:Int)) (fun _=>True) trivial (fun j hj _ X hX => ?_) (fun _ X => ?_)
  ·unfold cU
   have hX:=hX trivial
   have hb:=hs.1 _ (List.getElem_mem hj)
   have eb:Y.2.1.2.2.getD j 0=Y.2.1.2.2[j]:=by rw[List.getD_eq_getElem?_getD,List.getElem?_eq_getElem hj];rfl
   rw[if_pos (decide_eq_true (show(j:Int)<(Y.2.1.2.2.length:Int) by omega)),Int.toNat_natCast,eb]
   refine⟨by omega,?_⟩
   rw[if_neg (by simp only[Bool.or_eq_true,decide_eq_true_eq];omega),aA _ (by omega) (by omega)]
   exact hX
  ·unfold cU
   rw[if_neg (by simp)]
   exact next
 ·unfold cS
  rw[if_neg (by simp)]
  exact DM h
end Go.Proofs.YtcfpfefadlnmcaaGreat
