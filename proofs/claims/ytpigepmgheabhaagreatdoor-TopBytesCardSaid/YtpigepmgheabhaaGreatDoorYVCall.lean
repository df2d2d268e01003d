/- Part of the proof. No condition. -/
import Derived.Test.YtpigepmgheabhaaGreatDoorYVOp5
namespace Go.Mach
set_option linter.unusedVariables false
set_option linter.unusedSimpArgs false
def sR (F:Fz)(H:aD)(hs:Nat->Value->Prop):Ctx:=⟨(bs H).N,F,fun _=>none,[],hs⟩
abbrev aG1 (H:aD)(hs:Nat->Value->Prop):Ctx:=sR (fun b=>blk? H b) H hs
inductive XR (c:Ctx):List VV->List Nat->List Value->Prop
 | nil:XR c [] [] []
 | pl {v:Value} {l:List VV} {is:List Nat} {azz:List Value} (h:fX v=true) (t:XR c l is azz):XR c (.pl v::l) is (v::azz)
 | nw {T:Ty} {x:List T.den} {i:Nat} {l:List VV} {is:List Nat} {azz:List Value} (h:c.h[i]? = some (.lst true T x false)) (t:XR c l is azz):XR c (.nw T x::l) (i::is) (sl (c.ρ i) x.length::azz)
 | nl {T:Ty} {l:List VV} {is:List Nat} {azz:List Value} (t:XR c l is azz):XR c (.nw T []::l) is (.slice none 0 0::azz)
 | al {T:Ty} {x:List T.den} {a:Value} {l:List VV} {is:List Nat} {azz:List Value} (h:RL c (.fz false T x) a) (t:XR c l is azz):XR c (.fz false T x::l) is (a::azz)
 | er {b:Bool} {a:Value} {l:List VV} {is:List Nat} {azz:List Value} (h:RL c (.er b) a) (t:XR c l is azz):XR c (.er b::l) is (a::azz)
inductive XS (c:Ctx):List (Bool×List VV)->List Nat->List Value->Prop
 | nil:XS c [] [] []
 | agg {cs:List VV} {l:List (Bool×List VV)} {is js:List Nat} {azz vs:List Value} (h:XR c cs is azz) (t:XS c l js vs):XS c ((true,cs)::l) (is++js) (.agg azz.toArray::vs)
 | one {x:VV} {l:List (Bool×List VV)} {is js:List Nat} {a:Value} {vs:List Value} (h:XR c [x] is [a]) (t:XS c l js vs):XS c ((false,[x])::l) (is++js) (a::vs)
inductive XZ (c:Ctx):List (Bool×List VV)->List Nat->List Value->Prop
 | nil:XZ c [] [] []
 | s {p:Bool×List VV} {l:List (Bool×List VV)} {is js:List Nat} {a:Value} {vs:List Value} (h:XS c [p] is [a]) (t:XZ c l js vs):XZ c (p::l) (is++js) (a::vs)
 | z {T:Ty} {x:List T.den} {l:List (Bool×List VV)} {is js:List Nat} {a:Value} {vs:List Value} (h:XR c [.nw T x] is [a]) (hz:x=[]->a = .slice none 0 0) (t:XZ c l js vs) :
     XZ c ((false,[.nw T x,.undef])::l) (is++js) (a::vs)
theorem XS.toZ {c:Ctx}{sl:List (Bool×List VV)}{is:List Nat}{vs:List Value}(h:XS c sl is vs):XZ c sl is vs:=by
 induction h with
 | nil=>exact .nil
 | agg h t ih =>
   have:=XZ.s (XS.agg h .nil) ih
   rwa [bJ]at this
 | one h t ih =>
   have:=XZ.s (XS.one h .nil) ih
   rwa [bJ]at this
theorem XS.push {c:Ctx}{p:Bool×List VV}{is:List Nat}{a:Value}(h:XS c [p] is [a]){l:List (Bool×List VV)}{js:List Nat}{vs:List Value}(t:XS c l js vs):XS c (p::l) (is++js) (a::vs):=by
 cases h with
 | agg h k=>cases k;rw[bJ];exact .agg h t
 | one h k=>cases k;rw[bJ];exact .one h t
theorem MI {c:Ctx}{sl:List (Bool×List VV)}{is:List Nat}{vs:List Value}(h:XZ c sl is vs):∀ {k:List (Bool×List VV)->Prop},yR sl k->∃ sl' is',k sl'/\XS c sl' is' vs/\is'.Sublist is:=by
 induction h with
 | nil=>intro k hk;exact⟨[],[],hk,.nil,List.Sublist.refl _⟩
 | @s p l is js a vs h t ih =>
   intro k hk
   have key:yR l fun r'=>k (p::r'):=by
    cases h with
    | agg h _=>exact hk
    | @one x _ _ _ _ _ h _=>cases x <;> exact hk
   obtain⟨sl',is',h1,h2,h3⟩:=ih key
   exact⟨_,_,h1,XS.push h h2,List.Sublist.append (List.Sublist.refl _) h3⟩
 | @z T x l is js a vs h hz t ih =>
   intro k hk
   obtain⟨hA,hB⟩:=hk
   by_cases hx:x=[]
   ·obtain⟨sl',is',h1,h2,h3⟩:=ih (hA hx)
    refine⟨_,_,h1,XS.one (is:=[]) (a:=a) ?_ h2,List.Sublist.append (List.nil_sublist _) h3⟩
    rw[hz hx]
    exact XR.pl rfl .nil
   ·obtain⟨sl',is',h1,h2,h3⟩:=ih (hB hx)
    exact⟨_,_,h1,XS.one h h2,List.Sublist.append (List.Sublist.refl _) h3⟩
def roL:VV->Bool
 | .fz o _ _ => !o
 | .pl _=>true
 | _=>false
def roB:VV->Bool
 | .bx l _=>l.all roL
 | v=>roL v
theorem YH {c c2:Ctx}(hF:c.F.ext c2.F){v:VV}{a:Value}(hv:roL v=true)(h:RL c v a):RL c2 v a:=by
 cases v with
 | pl v=>exact h
 | fz o T x =>
   have ho:o=false:=by simpa [roL] using hv
   subst ho
   obtain⟨ad,q,g1,g2⟩:=h
   have hext:(cA false c.n0 c.F).ext (cA false c2.n0 c2.F):=by
    intro b B hb
    have:=hF _ _ (pV _ _ hb)
    unfold cA
    rw[aC (by simp)]
    exact this
   exact⟨ad,q,g1,g2.mono hext (RT.mono hext T)⟩
 | _=>cases hv
theorem Q6 {c c2:Ctx}(hF:c.F.ext c2.F):∀ {l:List VV} {azz:List Value},l.all roL=true->All2 (RL c) l azz->All2 (RL c2) l azz
 | [],_,_,.nil => .nil
 | _::_,_,hv,.cons h t=>by
   simp only[List.all_cons,aH]at hv
   exact .cons (YH hF hv.1 h) (Q6 hF hv.2 t)
theorem aEE {c c2:Ctx}(hF:c.F.ext c2.F){v:VV}{a:Value}(hv:roB v=true)(h:R1 c v a):R1 c2 v a:=by
 cases v with
 | pl v=>exact h
 | fz o T x=>exact YH hF (v := .fz o T x) hv h
 | bx l off =>
   obtain⟨b,B,h1,h2,h3⟩:=h
   exact⟨b,B,h1,hF _ _ h2,Q6 hF hv h3⟩
 | _=>cases hv
theorem SP {c c2:Ctx}(hF:c.F.ext c2.F):∀ {l:List VV} {azz:List Value},l.all roB=true->All2 (R1 c) l azz->All2 (R1 c2) l azz
 | [],_,_,.nil => .nil
 | _::_,_,hv,.cons h t=>by
   simp only[List.all_cons,aH]at hv
   exact .cons (aEE hF hv.1 h) (SP hF hv.2 t)
def aE2 (F:Fz)(H H':aD)(sl:List (Bool×List VV))(v:Value):Prop :=
 (∃ c is vs,Ok F (bs H) c H'/\XZ c sl is vs/\is.Nodup/\v=iE vs)\/∃ f l c,sl=[(false,[.fn f l])]/\Ok F (bs H) c H'/\l.all roB=true/\R2 c (.fn f l) v
def aDY (P:Program)(F:Fz)(fl:Nat)(f:FuncId)(azz:Array Value)(H:aD)(Q:List (Bool×List VV)->Prop):Prop:=WCall P fl f azz H fun v H'=>∃ sl,Q sl/\aE2 F H H' sl v
def tP:Nat->Value->Prop:=fun _ _=>False
def fH (P:Program)(f:FuncId)(args:List VV)(Q:List (Bool×List VV)->Prop):Prop :=
 ∀ (F:Fz) fl H (azz:List Value),(∀ b B,F b=some B->blk? H b=some B)->fl<=H.length->All2 (R2 (sR F H tP)) args azz->aDY P F fl f azz.toArray H Q
section
variable {G:Cfg} {F0:Fz} {H0:Base} {c c1 c' cc:Ctx} {H H':aD} {t:List (Nat×VV)} {ta:aE} {n fl:Nat}
theorem Ok.adopt (h:Ok F0 H0 c H)(o:VO)(a:Option Nat)(ha:∀ b,a=some b->∀ i,c.ρ i≠some b)(ho:ObjOk (mI c a o) H c.h.length o):Ok F0 H0 (mI c a o) H where
 n0:=h.n0
 pre:=h.pre
 fz:=h.fz
 low:=h.low
 obj:=fun i o' hi=>by
  rcases J4 hi with⟨rfl,rfl⟩|h1
  ·exact ho
  ·exact(h.obj i o' h1).mono (gT a o) ((gT a o).ρ i (bB h1)) (fun _ _=>rfl) (fun b B _ hB=>hB) (aF _)
 inj:=fun i j b hij hi hj=>by
  have hi:(if i=c.h.length then a else c.ρ i)=some b:=hi
  have hj:(if j=c.h.length then a else c.ρ j)=some b:=hj
  show(c.h++[o])[i]? = _\/(c.h++[o])[j]? = _
  split at hi
  ·split at hj
   ·omega
   ·exact absurd hj (ha b hi j)
  ·split at hj
   ·exact absurd hi (ha b hj i)
   ·rw[dL (h.lt hi),dL (h.lt hj)]
    exact h.inj i j b hij hi hj
 bj:=h.bj.add ha
 dom:=fun i hi=>by
  have hi:(c.h++[o]).length<=i:=hi
  simp at hi
  show(if i=c.h.length then a else c.ρ i)=none
  rw[aC (by omega)]
  exact h.dom i (by omega)
def S9 (c:Ctx)(n:Nat)(F:Fz):Ctx:=⟨c.n0,fun b=>if b<n then c.F b else F b,c.ρ,c.h,c.hs⟩
theorem BQ (h:Ok F0 H0 c H)(F:Fz):Le c (S9 c H.length F) where
 n0:=rfl
 F:=fun b B e=>by show(if b<H.length then c.F b else F b)=_;rw[aA (h.below e)];exact e
 hs:=rfl
 len:=aF _
 ρ:=fun _ _=>rfl
 h:=fun i o e=>⟨o,e,VO.le_refl o⟩
theorem Ok.called (h:Ok F0 H0 c H){Fc:Fz}(k:Ok Fc (bs H) cc H'):Ok F0 H0 (S9 c H.length cc.F) H' where
 n0:=h.n0
 pre:=h.pre.trans k.pre.pre
 fz:=fun b B e=>by
  have e:(if b<H.length then c.F b else cc.F b)=some B:=e
  split at e
  ·exact k.pre.pre.blk (h.fz b B e)
  ·exact k.fz b B e
 low:=fun b hb=>by
  show(if b<H.length then c.F b else cc.F b)=_
  rw[aA (dC (H0.lt b hb) h.pre.len)]
  exact h.low b hb
 obj:=fun i o hi=>(h.obj i o hi).mono (BQ h cc.F) rfl (fun b e=>by
  show(if b<H.length then c.F b else cc.F b)=_
  rw[aA (h.blk e).2]) (fun b B _ hB=>k.pre.pre.blk hB) k.pre.len
 inj:=h.inj
 bj:=h.bj
 dom:=h.dom
structure Imp (n:Nat)(cc c1:Ctx)(used:List Nat):Prop where
 F:∀ b,n<=b->c1.F b=cc.F b
 old:∀ i b,c1.ρ i=some b->b<n\/∃ j∈used,cc.ρ j=some b
theorem zU {Fc:Fz}(k:Ok Fc (bs H) cc H'):∀ {cs:List VV} {is:List Nat} {azz:List Value},XR cc cs is azz->∀ {c1:Ctx} {used:List Nat},Ok F0 H0 c1 H'->H0.H.length<=H.length->Imp H.length cc c1 used ->
 (∀ j∈used,∃ T x,cc.h[j]? = some (.lst true T x false))->(used++is).Nodup->(cs.any aGa=true->cc.F.ext c1.F) ->
 ∃ c2,Le c1 c2/\c2.h=(yL cs c1.h).2/\Ok F0 H0 c2 H'/\Imp H.length cc c2 (used++is)/\(∀ j∈used++is,∃ T x,cc.h[j]? = some (.lst true T x false))/\All2 (RL c2) (yL cs c1.h).1 azz:=by
 intro cs is azz hx
 induction hx with
 | nil =>
   intro c1 used h1 hl hi hu hn hA
   exact⟨c1,Le.refl c1,rfl,h1,by rw[bJ];exact hi,by rw[bJ];exact hu,.nil⟩
 | pl h t ih =>
   intro c1 used h1 hl hi hu hn hA
   obtain⟨c2,k1,k2,k3,k4,k5,k6⟩:=ih h1 hl hi hu hn (fun e=>hA (by rw[wN,e,AZ]))
   exact⟨c2,k1,k2,k3,k4,k5,.cons ⟨rfl,h⟩ k6⟩
 | @al T x a l is azz h t ih =>
   intro c1 used h1 hl hi hu hn hA
   have hF:=hA rfl
   obtain⟨c2,k1,k2,k3,k4,k5,k6⟩:=ih h1 hl hi hu hn (fun _=>hF)
   refine⟨c2,k1,k2,k3,k4,k5,.cons ?_ k6⟩
   obtain⟨ad,q,g1,g2⟩:=h
   have hext:(cA false cc.n0 cc.F).ext (cA false c2.n0 c2.F):=by
    intro b B hb
    have:=k1.F _ _ (hF _ _ (pV _ _ hb))
    unfold cA
    rw[aC (by simp)]
    exact this
   exact⟨ad,q,g1,g2.mono hext (RT.mono hext T)⟩
 | er h t ih =>
   intro c1 used h1 hl hi hu hn hA
   obtain⟨c2,k1,k2,k3,k4,k5,k6⟩:=ih h1 hl hi hu hn (fun e=>hA (by rw[wN,e,AZ]))
   exact⟨c2,k1,k2,k3,k4,k5,.cons h k6⟩
 | @nw T x i l is azz h t ih =>
   intro c1 used h1 hl hi hu hn hA
   have hkn:=k.n0
   have okc:=k.obj i _ h
   have hlst:=okc.lst _ _ _ _ rfl
   have hi_not:i∉used:=by
    intro hm
    rw[LQ]at hn
    exact hn.2.2 i hm i cN rfl
   have hadd:Ok F0 H0 (mI c1 (cc.ρ i) (.lst true T x false)) H':=by
    refine h1.adopt _ _ (fun b hb j hj => ?_) ?_
    ·rcases hi.old j b hj with hlt|⟨j',hj1,hj2⟩
     ·have:=WX (hkn▸(k.blk hb).1);omega
     ·obtain⟨T',x',hj3⟩:=hu j' hj1
      rcases k.inj i j' b (fun e=>hi_not (e▸hj1)) hb hj2 with e|e
      ·rw[h]at e;cases e
      ·rw[hj3]at e;cases e
    ·exact {
      lo:=fun b e=>by
       rw[addC_ρ]at e
       have:=k.blk e
       exact⟨by show c1.n0 b=false;rw[h1.n0];exact H0.new (bY hl (WX (hkn▸this.1))),this.2⟩
      box:=fun _ _ e=>(by cases e)
      lst:=fun q T' x' fr e=>by
       cases e
       rw[addC_ρ]
       refine⟨hlst.1,fun b e => ?_⟩
       obtain⟨as',ex,m1,m2,_,m4⟩:=hlst.2 b e
       refine⟨as',ex,m1,m2.mono ?_,fun e=>(by cases e),fun _ => ?_⟩
       ·intro y Y hY
        unfold cA at hY⊢
        split at hY
        ·cases hY
        ·rename_i hh
         have hge:H.length<=y:=by
          rcases lM y H.length with hlt|hge
          ·exact absurd ⟨rfl,by rw[hkn];exact gB hlt⟩ hh
          ·exact hge
         rw[aC (by intro ⟨_,hh2⟩;have:(mI c1 (cc.ρ i) (.lst true T x false)).n0=c1.n0:=rfl;rw[this,h1.n0,H0.new (bY hl hge)]at hh2;cases hh2)]
         show c1.F y=some Y
         rw[hi.F y hge];exact hY
       ·show c1.F b=none
        rw[hi.F b (WX (hkn▸(k.blk e).1))]
        exact m4 rfl
      dead:=fun _ e=>(by cases e) }
   have himp:Imp H.length cc (mI c1 (cc.ρ i) (.lst true T x false)) (used++[i]):={
    F:=hi.F
    old:=fun j b e=>by
     have e:(if j=c1.h.length then cc.ρ i else c1.ρ j)=some b:=e
     split at e
     ·exact .inr ⟨i,by simp,e⟩
     ·rcases hi.old j b e with hlt|⟨j',hj1,hj2⟩
      ·exact .inl hlt
      ·exact .inr ⟨j',lU _ hj1,hj2⟩ }
   obtain⟨c2,k1,k2,k3,k4,k5,k6⟩:=ih hadd hl himp (by
    intro j hj
    rcases List.mem_append.1 hj with hj|hj
    ·exact hu j hj
    ·rw[List.mem_singleton.1 hj];exact⟨T,x,h⟩) (by rw[bM];exact hn) (fun e=>hA (by rw[wN,e,AZ]))
   rw[bM]at k4 k5
   refine⟨c2,(gT _ _).trans k1,k2,k3,k4,k5,.cons ?_ k6⟩
   have:=RL.mono k1 _ _ (show RL (mI c1 (cc.ρ i) (.lst true T x false)) (.own c1.h.length) (sl (cc.ρ i) x.length)from rU rfl)
   exact this
 | @nl T l is azz t ih =>
   intro c1 used h1 hl hi hu hn hA
   have hadd:=h1.addNil true T (Pre.refl H')
   have himp:Imp H.length cc (mI c1 none (.lst true T [] false)) used:={
    F:=hi.F
    old:=fun j b e=>by
     have e:(if j=c1.h.length then none else c1.ρ j)=some b:=e
     split at e
     ·cases e
     ·exact hi.old j b e }
   obtain⟨c2,k1,k2,k3,k4,k5,k6⟩:=ih hadd hl himp hu hn (fun e=>hA (by rw[wN,e,AZ]))
   refine⟨c2,(gT _ _).trans k1,k2,k3,k4,k5,.cons ?_ k6⟩
   exact RL.mono k1 _ _ (show RL (mI c1 none (.lst true T [] false)) (.own c1.h.length) (sl none 0)from rU rfl)
theorem zL {Fc:Fz}(k:Ok Fc (bs H) cc H'):∀ {sl:List (Bool×List VV)} {is:List Nat} {vs:List Value},XS cc sl is vs->∀ {c1:Ctx} {used:List Nat},Ok F0 H0 c1 H'->H0.H.length<=H.length->Imp H.length cc c1 used ->
 (∀ j∈used,∃ T x,cc.h[j]? = some (.lst true T x false))->(used++is).Nodup->(BD sl=true->cc.F.ext c1.F) ->
 ∃ c2,Le c1 c2/\c2.h=(rV sl c1.h).2/\Ok F0 H0 c2 H'/\All2 (R1 c2) (rV sl c1.h).1 vs:=by
 intro sl is vs hx
 induction hx with
 | nil =>
   intro c1 used h1 hl hi hu hn hA
   exact⟨c1,Le.refl c1,rfl,h1,.nil⟩
 | @agg cs l is js azz vs h t ih =>
   intro c1 used h1 hl hi hu hn hA
   rw[<- bM]at hn
   obtain⟨c2,k1,k2,k3,k4,k5,k6⟩:=zU k h h1 hl hi hu (List.nodup_append.1 hn).1 (fun e=>hA (by unfold BD;rw[wN,e,Bool.true_or]))
   obtain⟨c3,g1,g2,g3,g4⟩:=ih k3 hl k4 k5 hn (fun e=>Fz.ext_trans (hA (by unfold BD at e⊢;rw[wN,e,AZ])) k1.F)
   rw[k2]at g2 g4
   refine⟨c3,k1.trans g1,?_,g3,?_⟩
   ·simp only[rV];exact g2
   ·simp only[rV,aO]
    exact .cons ⟨azz,rfl,k6.mono (RL.mono g1)⟩ g4
 | @one x l is js a vs h t ih =>
   intro c1 used h1 hl hi hu hn hA
   rw[<- bM]at hn
   obtain⟨c2,k1,k2,k3,k4,k5,k6⟩:=zU k h h1 hl hi hu (List.nodup_append.1 hn).1 (fun e=>hA (by unfold BD;rw[wN,e,Bool.true_or]))
   obtain⟨c3,g1,g2,g3,g4⟩:=ih k3 hl k4 k5 hn (fun e=>Fz.ext_trans (hA (by unfold BD at e⊢;rw[wN,e,AZ])) k1.F)
   rw[k2]at g2 g4
   refine⟨c3,k1.trans g1,?_,g3,?_⟩
   ·simp only[rV];exact g2
   ·simp only[rV,eK,aS]
    have hk:=k6.mono (RL.mono g1)
    cases e:(yL [x] c1.h).1 with
    | nil=>rw[e]at hk;cases hk
    | cons y ys =>
      rw[e]at hk
      cases hk with
      | cons hr _ =>
        refine .cons ?_ g4
        show R1 c3 y a
        cases y <;> first|exact hr|exact(show False from hr).elim
def vL:VO->Bool
 | .box _ f=>f
 | .lst _ _ _ f=>f
 | .dead _=>true
theorem F5 (o:VO):vL (eU o)=true:=by cases o <;> rfl
theorem DF (h:List VO)(i j:Nat)(o:VO):aP (h.set i o) j=if i=j/\i<h.length then o else aP h j:=by
 unfold aP
 grind
theorem F9:∀ (is:List Nat) (h:List VO) {i:Nat},vL (aP h i)=true->vL (aP (freeze h is) i)=true
 | [],h,i,e=>e
 | j::is,h,i,e=>by
   unfold freeze
   refine F9 is _ ?_
   rw[DF]
   split
   ·exact F5 _
   ·exact e
theorem NO:∀ (is:List Nat) (h:List VO) {i:Nat},i∈is->vL (aP (freeze h is) i)=true
 | j::is,h,i,hm=>by
   unfold freeze
   rcases List.mem_cons.1 hm with rfl|hm
   ·refine F9 is _ ?_
    rw[DF]
    split
    ·exact F5 _
    ·rename_i hn
     unfold aP
     rw[cH,qX (by have : ¬ i<h.length:=fun hl=>hn ⟨rfl,hl⟩;omega)];rfl
   ·exact NO is _ hm
theorem HL:∀ (is:List Nat) (h:List VO) {i:Nat} {cs:List VV} {fr:Bool},aP (freeze h is) i = .box cs fr->∃ fr',aP h i = .box cs fr'
 | [],h,i,cs,fr,e=>⟨fr,e⟩
 | j::is,h,i,cs,fr,e=>by
   unfold freeze at e
   obtain⟨fr',e⟩:=HL is _ e
   rw[DF]at e
   split at e
   ·rename_i hc
    rw[<- hc.1]
    cases eo:aP h j with
    | box cs' f'=>rw[eo]at e;cases e;exact⟨f',rfl⟩
    | lst _ _ _ _=>rw[eo]at e;cases e
    | dead _=>rw[eo]at e;cases e
   ·exact⟨fr',e⟩
theorem NY (hok:Ok F0 H0 c H){hs:Nat->Value->Prop}{v:VV}{a:Value}(hf:∀ i∈kH v,vL (aP c.h i)=true)(h:RL c v a):RL (sR c.F H hs) (vJ c.h v) a:=by
 have hext:∀ o,(cA o c.n0 c.F).ext (cA false (sR c.F H hs).n0 (sR c.F H hs).F):=by
  intro o b B hb
  have:=pV _ _ hb
  unfold cA
  rw[aC (by simp)]
  exact this
 cases v with
 | pl v=>exact h
 | fz o T l =>
   obtain⟨ad,k,h1,h2⟩:=h
   exact⟨ad,k,h1,h2.mono (hext o) (RT.mono (hext o) T)⟩
 | own i =>
   unfold vJ
   simp only
   split
   ·rename_i q T l fr e
    have hfr:=hf i (by simp[kH])
    rw[e]at hfr
    have hfr:fr=true:=hfr
    have hi:=cV e (by intro e;cases e)
    have ha:a=sl (c.ρ i) l.length:=pJ (c:=c) h hi
    refine⟨_,_,ha,?_⟩
    have hlst:=(hok.obj i _ hi).lst _ _ _ _ rfl
    cases hb:c.ρ i with
    | none =>
      have:=hlst.1 hb
      subst this
      exact⟨aF _,.inl rfl⟩
    | some b =>
      obtain⟨azz,ex,k1,k2,k3,_⟩:=hlst.2 b hb
      refine(k2.mono (hext q)).slice (b:=b) (B:=⟨azz,T.w,ex,true⟩) rfl ?_ (.inr rfl)
      unfold cA
      rw[aC (by simp)]
      exact k3 hfr
   ·trivial
 | _=>trivial
theorem FU {v:VV}{a:Value}(h:RL c v a):R1 c v a:=by
 cases v <;> first|exact h|exact(show False from h).elim
theorem yT {v:VV}{a:Value}(h1:∀ l,v ≠ .agg l)(h2:∀ l o,v ≠ .bx l o)(h3:∀ l,v ≠ .bs l)(h:R1 c v a):RL c v a:=by
 cases v <;> first|exact h|exact absurd rfl (h1 _)|exact absurd rfl (h2 _ _)|exact absurd rfl (h3 _)
theorem BP {v:VV}{a:Value}(h1:∀ l,v ≠ .tup l)(h2:∀ f l,v ≠ .fn f l)(h:R2 c v a):R1 c v a:=by
 cases v <;> first|exact h|exact absurd rfl (h1 _)|exact absurd rfl (h2 _ _)
theorem IY {vs:List VV}{azz:List Value}(hok:Ok F0 H0 c H){hs:Nat->Value->Prop}(hf:∀ i∈vs.flatMap kH,vL (aP c.h i)=true)(h:All2 (RL c) vs azz):All2 (RL (sR c.F H hs)) (vs.map (vJ c.h)) azz:=by
 induction h with
 | nil=>exact .nil
 | cons h t ih =>
   simp only[jA,AD]at hf
   exact .cons (NY hok (fun i hi=>hf i (.inl hi)) h) (ih fun i hi=>hf i (.inr hi))
theorem N9 (hok:Ok F0 H0 c H){hs:Nat->Value->Prop}{v:VV}{a:Value}(hf:∀ i∈xN c.h v,vL (aP c.h i)=true)(h:R1 c v a):R1 (sR c.F H hs) (vD c.h v) a:=by
 cases v
 case agg l =>
  obtain⟨azz,h1,h2⟩:=h
  exact⟨azz,h1,IY hok hf h2⟩
 case bx l off =>
  obtain⟨b,B,h1,h2,h3⟩:=h
  exact⟨b,B,h1,h2,IY hok hf h3⟩
 case ptr i off =>
  obtain⟨b,cs,fr,h1,h2,h3⟩:RL c (.ptr i off) a:=h
  simp only[xN,dP h1]at hf
  have hfr:=hf i cN
  rw[dP h1]at hfr
  have hfr:fr=true:=hfr
  unfold vD
  simp only[dP h1]
  obtain⟨b',azz,k1,k2,k3,k4,_⟩:=(hok.obj i _ h1).box _ _ rfl
  rw[h2]at k1;cases k1
  exact⟨b,_,h3,k4 hfr,IY hok (fun j hj=>hf j (dA _ hj)) k3⟩
 case bs l=>trivial
 all_goals
  have hl:=yT (fun _ e=>by cases e) (fun _ _ e=>by cases e) (fun _ e=>by cases e) h
  refine FU (NY hok ?_ hl)
  exact hf
theorem aF0 {vs:List VV}{azz:List Value}(hok:Ok F0 H0 c H){hs:Nat->Value->Prop}(hf:∀ i∈vs.flatMap (xN c.h),vL (aP c.h i)=true)(h:All2 (R1 c) vs azz):All2 (R1 (sR c.F H hs)) (vs.map (vD c.h)) azz:=by
 induction h with
 | nil=>exact .nil
 | cons h t ih =>
   simp only[jA,AD]at hf
   exact .cons (N9 hok (fun i hi=>hf i (.inl hi)) h) (ih fun i hi=>hf i (.inr hi))
theorem aBM (hok:Ok F0 H0 c H){hs:Nat->Value->Prop}{v:VV}{a:Value}(hf:∀ i∈zG c.h v,vL (aP c.h i)=true)(h:R2 c v a):R2 (sR c.F H hs) (SO c.h v) a:=by
 cases v
 case fn f l =>
  obtain⟨azz,h1,h2⟩:=h
  exact⟨azz,h1,aF0 hok hf h2⟩
 case tup l=>exact trivial
 all_goals
  have hl:=BP (fun _ e=>by cases e) (fun _ _ e=>by cases e) h
  refine rD (N9 hok ?_ hl)
  exact hf
theorem aGJ {vs:List VV}{azz:List Value}(hok:Ok F0 H0 c H){hs:Nat->Value->Prop}(hf:∀ i∈vs.flatMap (zG c.h),vL (aP c.h i)=true)(h:All2 (R2 c) vs azz):All2 (R2 (sR c.F H hs)) (vs.map (SO c.h)) azz:=by
 induction h with
 | nil=>exact .nil
 | cons h t ih =>
   simp only[jA,AD]at hf
   exact .cons (aBM hok (fun i hi=>hf i (.inl hi)) h) (ih fun i hi=>hf i (.inr hi))
theorem E1:∀ (is:List Nat) (h:List VO) (i:Nat),aP (freeze h is) i=aP h i\/aP (freeze h is) i=eU (aP h i)
 | [],h,i => .inl rfl
 | j::is,h,i=>by
   have key:aP (h.set j (eU (aP h j))) i=aP h i\/aP (h.set j (eU (aP h j))) i=eU (aP h i):=by
    rw[DF]
    grind
   unfold freeze
   rcases E1 is (h.set j (eU (aP h j))) i with e|e
   ·rw[e];exact key
   ·rw[e]
    rcases key with k|k
    ·rw[k];exact .inr rfl
    ·rw[k];right;cases aP h i <;> rfl
theorem CY (h:List VO)(is:List Nat)(v:VV):vJ (freeze h is) v=vJ h v:=by
 cases v with
 | own i =>
   unfold vJ
   simp only
   rcases E1 is h i with e|e
   ·rw[e]
   ·rw[e];cases aP h i <;> rfl
 | _=>rfl
theorem mX (h:List VO)(is:List Nat)(v:VV):vD (freeze h is) v=vD h v:=by
 have hL:vJ (freeze h is)=vJ h:=funext (CY h is)
 cases v with
 | ptr i off =>
   unfold vD
   simp only[hL]
   rcases E1 is h i with e|e
   ·rw[e]
   ·rw[e];cases aP h i <;> rfl
 | own i=>exact CY h is (.own i)
 | agg l=>unfold vD;simp only[hL]
 | bx l off=>unfold vD;simp only[hL]
 | _=>rfl
theorem TF (h:List VO)(is:List Nat):SO (freeze h is)=SO h:=by
 funext v
 have h1:vD (freeze h is)=vD h:=funext (mX h is)
 cases v with
 | fn f l=>unfold SO;simp only[h1]
 | own i=>exact mX h is (.own i)
 | ptr i off=>exact mX h is (.ptr i off)
 | agg l=>exact mX h is (.agg l)
 | bx l off=>exact mX h is (.bx l off)
 | _=>rfl
theorem zQ (h:List VO)(is:List Nat)(v:VV):∀ i∈xN (freeze h is) v,i∈xN h v:=by
 intro i hi
 cases v <;> try exact hi
 case ptr j off =>
  simp only[xN,DY]at hi⊢
  rcases hi with hi|hi
  ·exact .inl hi
  ·cases e:aP (freeze h is) j with
   | box cs fr =>
     obtain⟨fr',e2⟩:=HL is h e
     rw[e]at hi
     rw[e2]
     exact .inr hi
   | lst _ _ _ _=>rw[e]at hi;cases hi
   | dead _=>rw[e]at hi;cases hi
theorem QK (h:List VO)(is:List Nat)(v:VV):∀ i∈zG (freeze h is) v,i∈zG h v:=by
 intro i hi
 cases v
 case fn f l =>
  simp only[zG,List.mem_flatMap]at hi⊢
  obtain⟨x,h1,h2⟩:=hi
  exact⟨x,h1,zQ h is x i h2⟩
 all_goals (simp only[zG]at hi⊢;exact zQ h is _ i hi)
theorem yU {vs:List VV}{azz:List Value}(h:All2 (R1 c) vs azz):R2 c (JM vs) (iE azz):=by
 cases h with
 | nil=>exact⟨[],rfl,.nil⟩
 | cons h t =>
   cases t with
   | nil=>exact rD h
   | cons h2 t2=>exact⟨_,rfl,.cons h (.cons h2 t2)⟩
theorem Q1 (hO:∀ f args Q,G.O f args Q->fH G.P f args Q)(hok:Ok F0 H0 c H){f:VV}{args:List VV}{fa:Value}{azz:List Value}{K:VV->List VO->Prop}{flc:Nat}(hfl:flc<=H.length)
 (hf:R2 c f fa) (ha:All2 (R2 c) args azz) (hv:aAw G f args c.h K) :
 ∃ g first cp,fa = .func (.func g) first cp/\tC G.P g=true/\WCall G.P flc g (first++azz.toArray++cp) H fun v H'=>∃ v' c',K v' c'.h/\Le c c'/\Ok F0 H0 c' H'/\R2 c' v' v/\Pre H H':=by
 unfold aAw at hv
 split at hv
 ·rename_i g caps
  split at hv
  ·rename_i hg
   obtain⟨cp,rfl,hcp⟩:=hf
   refine⟨g,#[],cp.toArray,rfl,hg,?_⟩
   obtain⟨c1,k1,k2,_,_,k3,_⟩:=hok.freezes ((args++caps).flatMap (zG c.h))
   have hall:All2 (R2 c1) (args++caps) (azz++cp):=(ha.mono (R2.mono k1)).app (hcp.mono fun v a h=>R2.mono k1 _ _ (rD h))
   have hfr:∀ i∈(args++caps).flatMap (zG c1.h),vL (aP c1.h i)=true:=by
    intro i hi
    rw[k2]at hi⊢
    refine NO _ _ ?_
    simp only[List.mem_flatMap]at hi⊢
    obtain⟨x,h1,h2⟩:=hi
    exact⟨x,h1,QK _ _ _ i h2⟩
   have hargs:All2 (R2 (sR c1.F H tP)) ((args++caps).map (SO c1.h)) (azz++cp):=aGJ k3 hfr hall
   rw[k2,TF,uZ]at hargs
   have:=hO _ _ _ hv c1.F flc H _ k3.fz hfl hargs
   rw[show(#[]:Array Value)++azz.toArray++cp.toArray=(azz++cp).toArray by simp]
   refine WCall.mono this ?_
   rintro v H' ⟨sl,hK,⟨cc,is,vs,q1,q2,q3,rfl⟩|⟨f',l,cc,rfl,q1,q2,q3⟩⟩
   case inr =>
    have hK:K (.fn f' l) (freeze c.h ((args++caps).flatMap (zG c.h))):=hK
    rw[<- k2]at hK
    refine⟨.fn f' l,S9 c1 H.length cc.F,hK,k1.trans (BQ k3 cc.F),k3.called q1,?_,q1.pre.pre⟩
    obtain⟨as',g1,g2⟩:=q3
    refine⟨as',g1,SP ?_ q2 g2⟩
    intro b B hb
    show(if b<H.length then c1.F b else cc.F b)=_
    split
    ·rename_i hlt;rw[<- q1.low b (gB hlt)];exact hb
    ·exact hb
   obtain⟨sl,is,hK,q2,hsub⟩:=MI q2 hK
   have q3:=List.Nodup.sublist hsub q3
   cases e:BD sl with
   | true =>
     rw[e]at hK
     simp only at hK
     rw[<- k2]at hK
     have h1:=k3.called q1
     obtain⟨c2,g1,g2,g3,g4⟩:=zL q1 q2 (c1:=S9 c1 H.length cc.F) (used:=[]) h1 k3.pre.len {
      F:=fun b hb=>by show(if b<H.length then c1.F b else cc.F b)=_;rw[aC (by omega)]
      old:=fun i b e => .inl (k3.blk e).2 } (fun j hj=>by cases hj) (by simpa using q3) (fun _ b B hb=>by
       show(if b<H.length then c1.F b else cc.F b)=_
       split
       ·rename_i hlt;rw[<- q1.low b (gB hlt)];exact hb
       ·exact hb)
     refine⟨_,c2,?_,k1.trans ((BQ k3 cc.F).trans g1),g3,yU g4,q1.pre.pre⟩
     rw[g2];exact hK
   | false =>
     rw[e]at hK
     have h1:=hok.called q1
     obtain⟨c2,g1,g2,g3,g4⟩:=zL q1 q2 (c1:=S9 c H.length cc.F) (used:=[]) h1 hok.pre.len {
      F:=fun b hb=>by show(if b<H.length then c.F b else cc.F b)=_;rw[aC (by omega)]
      old:=fun i b e => .inl (hok.blk e).2 } (fun j hj=>by cases hj) (by simpa using q3) (fun e2=>by rw[e]at e2;cases e2)
     refine⟨_,c2,?_,(BQ hok cc.F).trans g1,g3,yU g4,q1.pre.pre⟩
     rw[g2];exact hK
  ·exact hv.elim
 ·exact hv.elim
end
end Go.Mach
