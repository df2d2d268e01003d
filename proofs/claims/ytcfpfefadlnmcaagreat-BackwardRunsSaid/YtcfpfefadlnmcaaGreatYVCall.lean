/- Part of the proof. No condition. -/
import Derived.Test.YtcfpfefadlnmcaaGreatYVOp5
namespace Go.Mach
set_option linter.unusedVariables false
set_option linter.unusedSimpArgs false
def SZ (F:Fz)(H:aE)(hs:Nat->Value->Prop):Ctx:=⟨H.length,F,fun _=>none,[],hs⟩
abbrev aKq (H:aE)(hs:Nat->Value->Prop):Ctx:=SZ (fun b=>blk? H b) H hs
inductive XR (c:Ctx):List VV->List Nat->List Value->Prop
 | nil:XR c [] [] []
 | pl {v:Value} {l:List VV} {is:List Nat} {azz:List Value} (h:nL v=true) (t:XR c l is azz):XR c (.pl v::l) is (v::azz)
 | nw {T:Ty} {x:List T.den} {i:Nat} {l:List VV} {is:List Nat} {azz:List Value} (h:c.h[i]? = some (.lst true T x false)) (t:XR c l is azz):XR c (.nw T x::l) (i::is) (sl (c.ρ i) x.length::azz)
 | nl {T:Ty} {l:List VV} {is:List Nat} {azz:List Value} (t:XR c l is azz):XR c (.nw T []::l) is (.slice none 0 0::azz)
 | al {T:Ty} {x:List T.den} {a:Value} {l:List VV} {is:List Nat} {azz:List Value} (h:RL c (.fz false T x) a) (t:XR c l is azz):XR c (.fz false T x::l) is (a::azz)
 | er {b:Bool} {a:Value} {l:List VV} {is:List Nat} {azz:List Value} (h:RL c (.er b) a) (t:XR c l is azz):XR c (.er b::l) is (a::azz)
inductive XS (c:Ctx):List (Bool×List VV)->List Nat->List Value->Prop
 | nil:XS c [] [] []
 | agg {cs:List VV} {l:List (Bool×List VV)} {is js:List Nat} {azz vs:List Value} (h:XR c cs is azz) (t:XS c l js vs):XS c ((true,cs)::l) (is++js) (.agg azz.toArray::vs)
 | one {x:VV} {l:List (Bool×List VV)} {is js:List Nat} {a:Value} {vs:List Value} (h:XR c [x] is [a]) (t:XS c l js vs):XS c ((false,[x])::l) (is++js) (a::vs)
inductive XZ (c:Ctx):List (Bool×List VV)->List Nat->List Value->Prop
 | nil:XZ c [] [] []
 | s {p:Bool×List VV} {l:List (Bool×List VV)} {is js:List Nat} {a:Value} {vs:List Value} (h:XS c [p] is [a]) (t:XZ c l js vs):XZ c (p::l) (is++js) (a::vs)
 | z {T:Ty} {x:List T.den} {l:List (Bool×List VV)} {is js:List Nat} {a:Value} {vs:List Value} (h:XR c [.nw T x] is [a]) (hz:x=[]->a = .slice none 0 0) (t:XZ c l js vs) :
     XZ c ((false,[.nw T x,.undef])::l) (is++js) (a::vs)
theorem XS.toZ {c:Ctx}{sl:List (Bool×List VV)}{is:List Nat}{vs:List Value}(h:XS c sl is vs):XZ c sl is vs:=by
 induction h with
 | nil=>exact .nil
 | agg h t ih =>
   have:=XZ.s (XS.agg h .nil) ih
   rwa [dU]at this
 | one h t ih =>
   have:=XZ.s (XS.one h .nil) ih
   rwa [dU]at this
theorem XS.push {c:Ctx}{p:Bool×List VV}{is:List Nat}{a:Value}(h:XS c [p] is [a]){l:List (Bool×List VV)}{js:List Nat}{vs:List Value}(t:XS c l js vs):XS c (p::l) (is++js) (a::vs):=by
 cases h with
 | agg h k=>cases k;rw[dU];exact .agg h t
 | one h k=>cases k;rw[dU];exact .one h t
theorem aBs {c:Ctx}{sl:List (Bool×List VV)}{is:List Nat}{vs:List Value}(h:XZ c sl is vs):∀ {k:List (Bool×List VV)->Prop},QL sl k->∃ sl' is',k sl'/\XS c sl' is' vs/\is'.Sublist is:=by
 induction h with
 | nil=>intro k hk;exact⟨[],[],hk,.nil,List.Sublist.refl _⟩
 | @s p l is js a vs h t ih =>
   intro k hk
   have key:QL l fun r'=>k (p::r'):=by
    cases h with
    | agg h _=>exact hk
    | @one x _ _ _ _ _ h _=>cases x <;> exact hk
   obtain⟨sl',is',h1,h2,h3⟩:=ih key
   exact⟨_,_,h1,XS.push h h2,List.Sublist.append (List.Sublist.refl _) h3⟩
 | @z T x l is js a vs h hz t ih =>
   intro k hk
   obtain⟨hA,hB⟩:=hk
   by_cases hx:x=[]
   ·obtain⟨sl',is',h1,h2,h3⟩:=ih (hA hx)
    refine⟨_,_,h1,XS.one (is:=[]) (a:=a) ?_ h2,List.Sublist.append (List.nil_sublist _) h3⟩
    rw[hz hx]
    exact XR.pl rfl .nil
   ·obtain⟨sl',is',h1,h2,h3⟩:=ih (hB hx)
    exact⟨_,_,h1,XS.one h h2,List.Sublist.append (List.Sublist.refl _) h3⟩
def roL:VV->Bool
 | .fz o _ _ => !o
 | .pl _=>true
 | _=>false
def roB:VV->Bool
 | .bx l _=>l.all roL
 | v=>roL v
theorem aHt {c c2:Ctx}(hF:c.F.ext c2.F){v:VV}{a:Value}(hv:roL v=true)(h:RL c v a):RL c2 v a:=by
 cases v with
 | pl v=>exact h
 | fz o T x =>
   have ho:o=false:=by simpa [roL] using hv
   subst ho
   obtain⟨ad,q,g1,g2⟩:=h
   have hext:(f7 false c.n0 c.F).ext (f7 false c2.n0 c2.F):=by
    intro b B hb
    have:=hF _ _ (F2 _ _ hb)
    unfold f7
    rw[aA (by simp)]
    exact this
   exact⟨ad,q,g1,g2.mono hext (RT.mono hext T)⟩
 | _=>cases hv
theorem aEj {c c2:Ctx}(hF:c.F.ext c2.F):∀ {l:List VV} {azz:List Value},l.all roL=true->All2 (RL c) l azz->All2 (RL c2) l azz
 | [],_,_,.nil => .nil
 | _::_,_,hv,.cons h t=>by
   simp only[List.all_cons,aI]at hv
   exact .cons (aHt hF hv.1 h) (aEj hF hv.2 t)
theorem aKt {c c2:Ctx}(hF:c.F.ext c2.F){v:VV}{a:Value}(hv:roB v=true)(h:R1 c v a):R1 c2 v a:=by
 cases v with
 | pl v=>exact h
 | fz o T x=>exact aHt hF (v := .fz o T x) hv h
 | bx l off =>
   obtain⟨b,B,h1,h2,h3⟩:=h
   exact⟨b,B,h1,hF _ _ h2,aEj hF hv h3⟩
 | _=>cases hv
theorem aEo {c c2:Ctx}(hF:c.F.ext c2.F):∀ {l:List VV} {azz:List Value},l.all roB=true->All2 (R1 c) l azz->All2 (R1 c2) l azz
 | [],_,_,.nil => .nil
 | _::_,_,hv,.cons h t=>by
   simp only[List.all_cons,aI]at hv
   exact .cons (aKt hF hv.1 h) (aEo hF hv.2 t)
def aLw (F:Fz)(H H':aE)(sl:List (Bool×List VV))(v:Value):Prop :=
 (∃ c is vs,Ok F H c H'/\XZ c sl is vs/\is.Nodup/\v=F1 vs)\/∃ f l c,sl=[(false,[.fn f l])]/\Ok F H c H'/\l.all roB=true/\R2 c (.fn f l) v
def aLW (P:Program)(F:Fz)(fl:Nat)(f:FuncId)(azz:Array Value)(H:aE)(Q:List (Bool×List VV)->Prop):Prop:=WCall P fl f azz H fun v H'=>∃ sl,Q sl/\aLw F H H' sl v
def VN:Nat->Value->Prop:=fun _ _=>False
def rX (P:Program)(f:FuncId)(args:List VV)(Q:List (Bool×List VV)->Prop):Prop :=
 ∀ (F:Fz) fl H (azz:List Value),(∀ b B,F b=some B->blk? H b=some B)->fl<=H.length->All2 (R2 (SZ F H VN)) args azz->aLW P F fl f azz.toArray H Q
section
variable {G:Cfg} {F0:Fz} {H0:aE} {c c1 c' cc:Ctx} {H H':aE} {t:List (Nat×VV)} {ta:aJ} {n fl:Nat}
theorem Ok.adopt (h:Ok F0 H0 c H)(o:VO)(a:Option Nat)(ha:∀ b,a=some b->∀ i,c.ρ i≠some b)(ho:ObjOk (qG c a o) H c.h.length o):Ok F0 H0 (qG c a o) H where
 n0:=h.n0
 pre:=h.pre
 fz:=h.fz
 low:=h.low
 obj:=fun i o' hi=>by
  rcases ZB hi with⟨rfl,rfl⟩|h1
  ·exact ho
  ·exact(h.obj i o' h1).mono (rO a o) ((rO a o).ρ i (cQ h1)) (fun _ _=>rfl) (fun b B _ hB=>hB) (aR _)
 inj:=fun i j b hij hi hj=>by
  have hi:(if i=c.h.length then a else c.ρ i)=some b:=hi
  have hj:(if j=c.h.length then a else c.ρ j)=some b:=hj
  show(c.h++[o])[i]? = _\/(c.h++[o])[j]? = _
  split at hi
  ·split at hj
   ·omega
   ·exact absurd hj (ha b hi j)
  ·split at hj
   ·exact absurd hi (ha b hj i)
   ·rw[gW (h.lt hi),gW (h.lt hj)]
    exact h.inj i j b hij hi hj
 bj:=h.bj.add ha
 dom:=fun i hi=>by
  have hi:(c.h++[o]).length<=i:=hi
  simp at hi
  show(if i=c.h.length then a else c.ρ i)=none
  rw[aA (by omega)]
  exact h.dom i (by omega)
def aEb (c:Ctx)(n:Nat)(F:Fz):Ctx:=⟨c.n0,fun b=>if b<n then c.F b else F b,c.ρ,c.h,c.hs⟩
theorem US (h:Ok F0 H0 c H)(F:Fz):Le c (aEb c H.length F) where
 n0:=rfl
 F:=fun b B e=>by show(if b<H.length then c.F b else F b)=_;rw[aB (h.below e)];exact e
 hs:=rfl
 len:=aR _
 ρ:=fun _ _=>rfl
 h:=fun i o e=>⟨o,e,VO.le_refl o⟩
theorem Ok.called (h:Ok F0 H0 c H){Fc:Fz}(k:Ok Fc H cc H'):Ok F0 H0 (aEb c H.length cc.F) H' where
 n0:=h.n0
 pre:=h.pre.trans k.pre
 fz:=fun b B e=>by
  have e:(if b<H.length then c.F b else cc.F b)=some B:=e
  split at e
  ·exact k.pre.blk (h.fz b B e)
  ·exact k.fz b B e
 low:=fun b hb=>by
  show(if b<H.length then c.F b else cc.F b)=_
  rw[aB (oW hb h.pre.len)]
  exact h.low b hb
 obj:=fun i o hi=>(h.obj i o hi).mono (US h cc.F) rfl (fun b e=>by
  show(if b<H.length then c.F b else cc.F b)=_
  rw[aB (h.blk e).2]) (fun b B _ hB=>k.pre.blk hB) k.pre.len
 inj:=h.inj
 bj:=h.bj
 dom:=h.dom
structure Imp (n:Nat)(cc c1:Ctx)(used:List Nat):Prop where
 F:∀ b,n<=b->c1.F b=cc.F b
 old:∀ i b,c1.ρ i=some b->b<n\/∃ j∈used,cc.ρ j=some b
theorem RG {Fc:Fz}(k:Ok Fc H cc H'):∀ {cs:List VV} {is:List Nat} {azz:List Value},XR cc cs is azz->∀ {c1:Ctx} {used:List Nat},Ok F0 H0 c1 H'->H0.length<=H.length->Imp H.length cc c1 used ->
 (∀ j∈used,∃ T x,cc.h[j]? = some (.lst true T x false))->(used++is).Nodup->(cs.any aNu=true->cc.F.ext c1.F) ->
 ∃ c2,Le c1 c2/\c2.h=(QG cs c1.h).2/\Ok F0 H0 c2 H'/\Imp H.length cc c2 (used++is)/\(∀ j∈used++is,∃ T x,cc.h[j]? = some (.lst true T x false))/\All2 (RL c2) (QG cs c1.h).1 azz:=by
 intro cs is azz hx
 induction hx with
 | nil =>
   intro c1 used h1 hl hi hu hn hA
   exact⟨c1,Le.refl c1,rfl,h1,by rw[dU];exact hi,by rw[dU];exact hu,.nil⟩
 | pl h t ih =>
   intro c1 used h1 hl hi hu hn hA
   obtain⟨c2,k1,k2,k3,k4,k5,k6⟩:=ih h1 hl hi hu hn (fun e=>hA (by rw[OM,e,SU]))
   exact⟨c2,k1,k2,k3,k4,k5,.cons ⟨rfl,h⟩ k6⟩
 | @al T x a l is azz h t ih =>
   intro c1 used h1 hl hi hu hn hA
   have hF:=hA rfl
   obtain⟨c2,k1,k2,k3,k4,k5,k6⟩:=ih h1 hl hi hu hn (fun _=>hF)
   refine⟨c2,k1,k2,k3,k4,k5,.cons ?_ k6⟩
   obtain⟨ad,q,g1,g2⟩:=h
   have hext:(f7 false cc.n0 cc.F).ext (f7 false c2.n0 c2.F):=by
    intro b B hb
    have:=k1.F _ _ (hF _ _ (F2 _ _ hb))
    unfold f7
    rw[aA (by simp)]
    exact this
   exact⟨ad,q,g1,g2.mono hext (RT.mono hext T)⟩
 | er h t ih =>
   intro c1 used h1 hl hi hu hn hA
   obtain⟨c2,k1,k2,k3,k4,k5,k6⟩:=ih h1 hl hi hu hn (fun e=>hA (by rw[OM,e,SU]))
   exact⟨c2,k1,k2,k3,k4,k5,.cons h k6⟩
 | @nw T x i l is azz h t ih =>
   intro c1 used h1 hl hi hu hn hA
   have hkn:=k.n0
   have okc:=k.obj i _ h
   have hlst:=okc.lst _ _ _ _ rfl
   have hi_not:i∉used:=by
    intro hm
    rw[List.nodup_append]at hn
    exact hn.2.2 i hm i jO rfl
   have hadd:Ok F0 H0 (qG c1 (cc.ρ i) (.lst true T x false)) H':=by
    refine h1.adopt _ _ (fun b hb j hj => ?_) ?_
    ·rcases hi.old j b hj with hlt|⟨j',hj1,hj2⟩
     ·have:=(k.blk hb).1;omega
     ·obtain⟨T',x',hj3⟩:=hu j' hj1
      rcases k.inj i j' b (fun e=>hi_not (e▸hj1)) hb hj2 with e|e
      ·rw[h]at e;cases e
      ·rw[hj3]at e;cases e
    ·exact {
      lo:=fun b e=>by
       rw[addC_ρ]at e
       have:=k.blk e
       exact⟨by show c1.n0<=b;rw[h1.n0];omega,this.2⟩
      box:=fun _ _ e=>(by cases e)
      lst:=fun q T' x' fr e=>by
       cases e
       rw[addC_ρ]
       refine⟨hlst.1,fun b e => ?_⟩
       obtain⟨as',ex,m1,m2,_,m4⟩:=hlst.2 b e
       refine⟨as',ex,m1,m2.mono ?_,fun e=>(by cases e),fun _ => ?_⟩
       ·intro y Y hY
        unfold f7 at hY⊢
        split at hY
        ·cases hY
        ·rename_i hh
         have hge:H.length<=y:=by
          grind
         rw[aA (by intro ⟨_,hh2⟩;have:(qG c1 (cc.ρ i) (.lst true T x false)).n0=c1.n0:=rfl;rw[this,h1.n0]at hh2;omega)]
         show c1.F y=some Y
         rw[hi.F y hge];exact hY
       ·show c1.F b=none
        rw[hi.F b (by have:=(k.blk e).1;omega)]
        exact m4 rfl
      dead:=fun _ e=>(by cases e) }
   have himp:Imp H.length cc (qG c1 (cc.ρ i) (.lst true T x false)) (used++[i]):={
    F:=hi.F
    old:=fun j b e=>by
     have e:(if j=c1.h.length then cc.ρ i else c1.ρ j)=some b:=e
     split at e
     ·exact .inr ⟨i,by simp,e⟩
     ·rcases hi.old j b e with hlt|⟨j',hj1,hj2⟩
      ·exact .inl hlt
      ·exact .inr ⟨j',CQ _ hj1,hj2⟩ }
   obtain⟨c2,k1,k2,k3,k4,k5,k6⟩:=ih hadd hl himp (by
    intro j hj
    rcases List.mem_append.1 hj with hj|hj
    ·exact hu j hj
    ·rw[List.mem_singleton.1 hj];exact⟨T,x,h⟩) (by rw[fU];exact hn) (fun e=>hA (by rw[OM,e,SU]))
   rw[fU]at k4 k5
   refine⟨c2,(rO _ _).trans k1,k2,k3,k4,k5,.cons ?_ k6⟩
   have:=RL.mono k1 _ _ (show RL (qG c1 (cc.ρ i) (.lst true T x false)) (.own c1.h.length) (sl (cc.ρ i) x.length)from LL rfl)
   exact this
 | @nl T l is azz t ih =>
   intro c1 used h1 hl hi hu hn hA
   have hadd:=h1.addNil true T (Pre.refl H')
   have himp:Imp H.length cc (qG c1 none (.lst true T [] false)) used:={
    F:=hi.F
    old:=fun j b e=>by
     have e:(if j=c1.h.length then none else c1.ρ j)=some b:=e
     split at e
     ·cases e
     ·exact hi.old j b e }
   obtain⟨c2,k1,k2,k3,k4,k5,k6⟩:=ih hadd hl himp hu hn (fun e=>hA (by rw[OM,e,SU]))
   refine⟨c2,(rO _ _).trans k1,k2,k3,k4,k5,.cons ?_ k6⟩
   exact RL.mono k1 _ _ (show RL (qG c1 none (.lst true T [] false)) (.own c1.h.length) (sl none 0)from LL rfl)
theorem RK {Fc:Fz}(k:Ok Fc H cc H'):∀ {sl:List (Bool×List VV)} {is:List Nat} {vs:List Value},XS cc sl is vs->∀ {c1:Ctx} {used:List Nat},Ok F0 H0 c1 H'->H0.length<=H.length->Imp H.length cc c1 used ->
 (∀ j∈used,∃ T x,cc.h[j]? = some (.lst true T x false))->(used++is).Nodup->(SF sl=true->cc.F.ext c1.F) ->
 ∃ c2,Le c1 c2/\c2.h=(GG sl c1.h).2/\Ok F0 H0 c2 H'/\All2 (R1 c2) (GG sl c1.h).1 vs:=by
 intro sl is vs hx
 induction hx with
 | nil =>
   intro c1 used h1 hl hi hu hn hA
   exact⟨c1,Le.refl c1,rfl,h1,.nil⟩
 | @agg cs l is js azz vs h t ih =>
   intro c1 used h1 hl hi hu hn hA
   rw[<- fU]at hn
   obtain⟨c2,k1,k2,k3,k4,k5,k6⟩:=RG k h h1 hl hi hu (List.nodup_append.1 hn).1 (fun e=>hA (by unfold SF;rw[OM,e,J1]))
   obtain⟨c3,g1,g2,g3,g4⟩:=ih k3 hl k4 k5 hn (fun e=>Fz.ext_trans (hA (by unfold SF at e⊢;rw[OM,e,SU])) k1.F)
   rw[k2]at g2 g4
   refine⟨c3,k1.trans g1,?_,g3,?_⟩
   ·simp only[GG];exact g2
   ·simp only[GG,bS]
    exact .cons ⟨azz,rfl,k6.mono (RL.mono g1)⟩ g4
 | @one x l is js a vs h t ih =>
   intro c1 used h1 hl hi hu hn hA
   rw[<- fU]at hn
   obtain⟨c2,k1,k2,k3,k4,k5,k6⟩:=RG k h h1 hl hi hu (List.nodup_append.1 hn).1 (fun e=>hA (by unfold SF;rw[OM,e,J1]))
   obtain⟨c3,g1,g2,g3,g4⟩:=ih k3 hl k4 k5 hn (fun e=>Fz.ext_trans (hA (by unfold SF at e⊢;rw[OM,e,SU])) k1.F)
   rw[k2]at g2 g4
   refine⟨c3,k1.trans g1,?_,g3,?_⟩
   ·simp only[GG];exact g2
   ·simp only[GG,eW,cN]
    have hk:=k6.mono (RL.mono g1)
    cases e:(QG [x] c1.h).1 with
    | nil=>rw[e]at hk;cases hk
    | cons y ys =>
      rw[e]at hk
      cases hk with
      | cons hr _ =>
        refine .cons ?_ g4
        show R1 c3 y a
        cases y <;> first|exact hr|exact(show False from hr).elim
def ZW:VO->Bool
 | .box _ f=>f
 | .lst _ _ _ f=>f
 | .dead _=>true
theorem WU (o:VO):ZW (kC o)=true:=by cases o <;> rfl
theorem UO (h:List VO)(i j:Nat)(o:VO):dD (h.set i o) j=if i=j/\i<h.length then o else dD h j:=by
 unfold dD
 grind
theorem XJ:∀ (is:List Nat) (h:List VO) {i:Nat},ZW (dD h i)=true->ZW (dD (eO h is) i)=true
 | [],h,i,e=>e
 | j::is,h,i,e=>by
   unfold eO
   refine XJ is _ ?_
   rw[UO]
   split
   ·exact WU _
   ·exact e
theorem aDD:∀ (is:List Nat) (h:List VO) {i:Nat},i∈is->ZW (dD (eO h is) i)=true
 | j::is,h,i,hm=>by
   unfold eO
   rcases List.mem_cons.1 hm with rfl|hm
   ·refine XJ is _ ?_
    rw[UO]
    split
    ·exact WU _
    ·rename_i hn
     unfold dD
     rw[aW,List.getElem?_eq_none (by have : ¬ i<h.length:=fun hl=>hn ⟨rfl,hl⟩;omega)];rfl
   ·exact aDD is _ hm
theorem aBQ:∀ (is:List Nat) (h:List VO) {i:Nat} {cs:List VV} {fr:Bool},dD (eO h is) i = .box cs fr->∃ fr',dD h i = .box cs fr'
 | [],h,i,cs,fr,e=>⟨fr,e⟩
 | j::is,h,i,cs,fr,e=>by
   unfold eO at e
   obtain⟨fr',e⟩:=aBQ is _ e
   rw[UO]at e
   split at e
   ·rename_i hc
    rw[<- hc.1]
    cases eo:dD h j with
    | box cs' f'=>rw[eo]at e;cases e;exact⟨f',rfl⟩
    | lst _ _ _ _=>rw[eo]at e;cases e
    | dead _=>rw[eo]at e;cases e
   ·exact⟨fr',e⟩
theorem aCa (hok:Ok F0 H0 c H){hs:Nat->Value->Prop}{v:VV}{a:Value}(hf:∀ i∈uQ v,ZW (dD c.h i)=true)(h:RL c v a):RL (SZ c.F H hs) (MJ c.h v) a:=by
 have hext:∀ o,(f7 o c.n0 c.F).ext (f7 false (SZ c.F H hs).n0 (SZ c.F H hs).F):=by
  intro o b B hb
  have:=F2 _ _ hb
  unfold f7
  rw[aA (by simp)]
  exact this
 cases v with
 | pl v=>exact h
 | fz o T l =>
   obtain⟨ad,k,h1,h2⟩:=h
   exact⟨ad,k,h1,h2.mono (hext o) (RT.mono (hext o) T)⟩
 | own i =>
   unfold MJ
   simp only
   split
   ·rename_i q T l fr e
    have hfr:=hf i (by simp[uQ])
    rw[e]at hfr
    have hfr:fr=true:=hfr
    have hi:=gL e (by intro e;cases e)
    have ha:a=sl (c.ρ i) l.length:=CE (c:=c) h hi
    refine⟨_,_,ha,?_⟩
    have hlst:=(hok.obj i _ hi).lst _ _ _ _ rfl
    cases hb:c.ρ i with
    | none =>
      have:=hlst.1 hb
      subst this
      exact⟨aR _,.inl rfl⟩
    | some b =>
      obtain⟨azz,ex,k1,k2,k3,_⟩:=hlst.2 b hb
      refine(k2.mono (hext q)).slice (b:=b) (B:=⟨azz,T.w,ex,true⟩) rfl ?_ (.inr rfl)
      unfold f7
      rw[aA (by simp)]
      exact k3 hfr
   ·trivial
 | _=>trivial
theorem aFy {v:VV}{a:Value}(h:RL c v a):R1 c v a:=by
 cases v <;> first|exact h|exact(show False from h).elim
theorem aD5 {v:VV}{a:Value}(h1:∀ l,v ≠ .agg l)(h2:∀ l o,v ≠ .bx l o)(h3:∀ l,v ≠ .bs l)(h:R1 c v a):RL c v a:=by
 cases v <;> first|exact h|exact absurd rfl (h1 _)|exact absurd rfl (h2 _ _)|exact absurd rfl (h3 _)
theorem aEE {v:VV}{a:Value}(h1:∀ l,v ≠ .tup l)(h2:∀ f l,v ≠ .fn f l)(h:R2 c v a):R1 c v a:=by
 cases v <;> first|exact h|exact absurd rfl (h1 _)|exact absurd rfl (h2 _ _)
theorem ZF {vs:List VV}{azz:List Value}(hok:Ok F0 H0 c H){hs:Nat->Value->Prop}(hf:∀ i∈vs.flatMap uQ,ZW (dD c.h i)=true)(h:All2 (RL c) vs azz):All2 (RL (SZ c.F H hs)) (vs.map (MJ c.h)) azz:=by
 induction h with
 | nil=>exact .nil
 | cons h t ih =>
   simp only[PF,S8]at hf
   exact .cons (aCa hok (fun i hi=>hf i (.inl hi)) h) (ih fun i hi=>hf i (.inr hi))
theorem aCO (hok:Ok F0 H0 c H){hs:Nat->Value->Prop}{v:VV}{a:Value}(hf:∀ i∈PT c.h v,ZW (dD c.h i)=true)(h:R1 c v a):R1 (SZ c.F H hs) (ML c.h v) a:=by
 cases v
 case agg l =>
  obtain⟨azz,h1,h2⟩:=h
  exact⟨azz,h1,ZF hok hf h2⟩
 case bx l off =>
  obtain⟨b,B,h1,h2,h3⟩:=h
  exact⟨b,B,h1,h2,ZF hok hf h3⟩
 case ptr i off =>
  obtain⟨b,cs,fr,h1,h2,h3⟩:RL c (.ptr i off) a:=h
  simp only[PT,rJ h1]at hf
  have hfr:=hf i jO
  rw[rJ h1]at hfr
  have hfr:fr=true:=hfr
  unfold ML
  simp only[rJ h1]
  obtain⟨b',azz,k1,k2,k3,k4,_⟩:=(hok.obj i _ h1).box _ _ rfl
  rw[h2]at k1;cases k1
  exact⟨b,_,h3,k4 hfr,ZF hok (fun j hj=>hf j (lY _ hj)) k3⟩
 case bs l=>trivial
 all_goals
  have hl:=aD5 (fun _ e=>by cases e) (fun _ _ e=>by cases e) (fun _ e=>by cases e) h
  refine aFy (aCa hok ?_ hl)
  exact hf
theorem aNT {vs:List VV}{azz:List Value}(hok:Ok F0 H0 c H){hs:Nat->Value->Prop}(hf:∀ i∈vs.flatMap (PT c.h),ZW (dD c.h i)=true)(h:All2 (R1 c) vs azz):All2 (R1 (SZ c.F H hs)) (vs.map (ML c.h)) azz:=by
 induction h with
 | nil=>exact .nil
 | cons h t ih =>
   simp only[PF,S8]at hf
   exact .cons (aCO hok (fun i hi=>hf i (.inl hi)) h) (ih fun i hi=>hf i (.inr hi))
theorem aJn (hok:Ok F0 H0 c H){hs:Nat->Value->Prop}{v:VV}{a:Value}(hf:∀ i∈Q3 c.h v,ZW (dD c.h i)=true)(h:R2 c v a):R2 (SZ c.F H hs) (aFw c.h v) a:=by
 cases v
 case fn f l =>
  obtain⟨azz,h1,h2⟩:=h
  exact⟨azz,h1,aNT hok hf h2⟩
 case tup l=>exact trivial
 all_goals
  have hl:=aEE (fun _ e=>by cases e) (fun _ _ e=>by cases e) h
  refine IC (aCO hok ?_ hl)
  exact hf
theorem aMv {vs:List VV}{azz:List Value}(hok:Ok F0 H0 c H){hs:Nat->Value->Prop}(hf:∀ i∈vs.flatMap (Q3 c.h),ZW (dD c.h i)=true)(h:All2 (R2 c) vs azz):All2 (R2 (SZ c.F H hs)) (vs.map (aFw c.h)) azz:=by
 induction h with
 | nil=>exact .nil
 | cons h t ih =>
   simp only[PF,S8]at hf
   exact .cons (aJn hok (fun i hi=>hf i (.inl hi)) h) (ih fun i hi=>hf i (.inr hi))
theorem WA:∀ (is:List Nat) (h:List VO) (i:Nat),dD (eO h is) i=dD h i\/dD (eO h is) i=kC (dD h i)
 | [],h,i => .inl rfl
 | j::is,h,i=>by
   have key:dD (h.set j (kC (dD h j))) i=dD h i\/dD (h.set j (kC (dD h j))) i=kC (dD h i):=by
    rw[UO]
    grind
   unfold eO
   rcases WA is (h.set j (kC (dD h j))) i with e|e
   ·rw[e];exact key
   ·rw[e]
    rcases key with k|k
    ·rw[k];exact .inr rfl
    ·rw[k];right;cases dD h i <;> rfl
theorem T4 (h:List VO)(is:List Nat)(v:VV):MJ (eO h is) v=MJ h v:=by
 cases v with
 | own i =>
   unfold MJ
   simp only
   rcases WA is h i with e|e
   ·rw[e]
   ·rw[e];cases dD h i <;> rfl
 | _=>rfl
theorem xZ (h:List VO)(is:List Nat)(v:VV):ML (eO h is) v=ML h v:=by
 have hL:MJ (eO h is)=MJ h:=funext (T4 h is)
 cases v with
 | ptr i off =>
   unfold ML
   simp only[hL]
   rcases WA is h i with e|e
   ·rw[e]
   ·rw[e];cases dD h i <;> rfl
 | own i=>exact T4 h is (.own i)
 | agg l=>unfold ML;simp only[hL]
 | bx l off=>unfold ML;simp only[hL]
 | _=>rfl
theorem aFV (h:List VO)(is:List Nat):aFw (eO h is)=aFw h:=by
 funext v
 have h1:ML (eO h is)=ML h:=funext (xZ h is)
 cases v with
 | fn f l=>unfold aFw;simp only[h1]
 | own i=>exact xZ h is (.own i)
 | ptr i off=>exact xZ h is (.ptr i off)
 | agg l=>exact xZ h is (.agg l)
 | bx l off=>exact xZ h is (.bx l off)
 | _=>rfl
theorem RM (h:List VO)(is:List Nat)(v:VV):∀ i∈PT (eO h is) v,i∈PT h v:=by
 intro i hi
 cases v <;> try exact hi
 case ptr j off =>
  simp only[PT,SI]at hi⊢
  rcases hi with hi|hi
  ·exact .inl hi
  ·cases e:dD (eO h is) j with
   | box cs fr =>
     obtain⟨fr',e2⟩:=aBQ is h e
     rw[e]at hi
     rw[e2]
     exact .inr hi
   | lst _ _ _ _=>rw[e]at hi;cases hi
   | dead _=>rw[e]at hi;cases hi
theorem aE4 (h:List VO)(is:List Nat)(v:VV):∀ i∈Q3 (eO h is) v,i∈Q3 h v:=by
 intro i hi
 cases v
 case fn f l =>
  simp only[Q3,List.mem_flatMap]at hi⊢
  obtain⟨x,h1,h2⟩:=hi
  exact⟨x,h1,RM h is x i h2⟩
 all_goals (simp only[Q3]at hi⊢;exact RM h is _ i hi)
theorem U4 {vs:List VV}{azz:List Value}(h:All2 (R1 c) vs azz):R2 c (aBJ vs) (F1 azz):=by
 cases h with
 | nil=>exact⟨[],rfl,.nil⟩
 | cons h t =>
   cases t with
   | nil=>exact IC h
   | cons h2 t2=>exact⟨_,rfl,.cons h (.cons h2 t2)⟩
theorem aEx (hO:∀ f args Q,G.O f args Q->rX G.P f args Q)(hok:Ok F0 H0 c H){f:VV}{args:List VV}{fa:Value}{azz:List Value}{K:VV->List VO->Prop}{flc:Nat}(hfl:flc<=H.length)
 (hf:R2 c f fa) (ha:All2 (R2 c) args azz) (hv:aJ7 G f args c.h K) :
 ∃ g first cp,fa = .func (.func g) first cp/\SO G.P g=true/\WCall G.P flc g (first++azz.toArray++cp) H fun v H'=>∃ v' c',K v' c'.h/\Le c c'/\Ok F0 H0 c' H'/\R2 c' v' v/\Pre H H':=by
 unfold aJ7 at hv
 split at hv
 ·rename_i g caps
  split at hv
  ·rename_i hg
   obtain⟨cp,rfl,hcp⟩:=hf
   refine⟨g,#[],cp.toArray,rfl,hg,?_⟩
   obtain⟨c1,k1,k2,_,_,k3,_⟩:=hok.freezes ((args++caps).flatMap (Q3 c.h))
   have hall:All2 (R2 c1) (args++caps) (azz++cp):=(ha.mono (R2.mono k1)).app (hcp.mono fun v a h=>R2.mono k1 _ _ (IC h))
   have hfr:∀ i∈(args++caps).flatMap (Q3 c1.h),ZW (dD c1.h i)=true:=by
    intro i hi
    rw[k2]at hi⊢
    refine aDD _ _ ?_
    simp only[List.mem_flatMap]at hi⊢
    obtain⟨x,h1,h2⟩:=hi
    exact⟨x,h1,aE4 _ _ _ i h2⟩
   have hargs:All2 (R2 (SZ c1.F H VN)) ((args++caps).map (aFw c1.h)) (azz++cp):=aMv k3 hfr hall
   rw[k2,aFV,yZ]at hargs
   have:=hO _ _ _ hv c1.F flc H _ k3.fz hfl hargs
   rw[show(#[]:Array Value)++azz.toArray++cp.toArray=(azz++cp).toArray by simp]
   refine WCall.mono this ?_
   rintro v H' ⟨sl,hK,⟨cc,is,vs,q1,q2,q3,rfl⟩|⟨f',l,cc,rfl,q1,q2,q3⟩⟩
   case inr =>
    have hK:K (.fn f' l) (eO c.h ((args++caps).flatMap (Q3 c.h))):=hK
    rw[<- k2]at hK
    refine⟨.fn f' l,aEb c1 H.length cc.F,hK,k1.trans (US k3 cc.F),k3.called q1,?_,q1.pre⟩
    obtain⟨as',g1,g2⟩:=q3
    refine⟨as',g1,aEo ?_ q2 g2⟩
    intro b B hb
    show(if b<H.length then c1.F b else cc.F b)=_
    split
    ·rename_i hlt;rw[<- q1.low b hlt];exact hb
    ·exact hb
   obtain⟨sl,is,hK,q2,hsub⟩:=aBs q2 hK
   have q3:=List.Nodup.sublist hsub q3
   cases e:SF sl with
   | true =>
     rw[e]at hK
     simp only at hK
     rw[<- k2]at hK
     have h1:=k3.called q1
     obtain⟨c2,g1,g2,g3,g4⟩:=RK q1 q2 (c1:=aEb c1 H.length cc.F) (used:=[]) h1 k3.pre.len {
      F:=fun b hb=>by show(if b<H.length then c1.F b else cc.F b)=_;rw[aA (by omega)]
      old:=fun i b e => .inl (k3.blk e).2 } (fun j hj=>by cases hj) (by simpa using q3) (fun _ b B hb=>by
       show(if b<H.length then c1.F b else cc.F b)=_
       split
       ·rename_i hlt;rw[<- q1.low b hlt];exact hb
       ·exact hb)
     refine⟨_,c2,?_,k1.trans ((US k3 cc.F).trans g1),g3,U4 g4,q1.pre⟩
     rw[g2];exact hK
   | false =>
     rw[e]at hK
     have h1:=hok.called q1
     obtain⟨c2,g1,g2,g3,g4⟩:=RK q1 q2 (c1:=aEb c H.length cc.F) (used:=[]) h1 hok.pre.len {
      F:=fun b hb=>by show(if b<H.length then c.F b else cc.F b)=_;rw[aA (by omega)]
      old:=fun i b e => .inl (hok.blk e).2 } (fun j hj=>by cases hj) (by simpa using q3) (fun e2=>by rw[e]at e2;cases e2)
     refine⟨_,c2,?_,(US hok cc.F).trans g1,g3,U4 g4,q1.pre⟩
     rw[g2];exact hK
  ·exact hv.elim
 ·exact hv.elim
end
end Go.Mach
