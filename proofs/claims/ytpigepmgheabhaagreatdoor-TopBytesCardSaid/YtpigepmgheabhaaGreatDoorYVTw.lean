/- Part of the proof. No condition. -/
import Derived.Test.YtpigepmgheabhaaGreatDoorYVFun3
namespace Go.Mach
set_option linter.unusedVariables false
set_option linter.unusedSimpArgs false
def AA:VO->Bool
 | .lst _ _ _ _=>true
 | _=>false
def twH (h:List VO):List VO:=h++h.map fun _=>VO.dead false
def twK (h:List VO)(k:Nat):Nat:=cond (AA (aP h k)) (h.length+k) k
def twI (h:List VO):List Nat:=(List.range h.length).map (twK h)++(List.range h.length).filter fun k=>AA (aP h k)
def aF7 (h:List VO)(k:Nat):VV:=match aP h k with
 | .box _ _ => .ptr k 0
 | .lst _ _ _ _ => .own (h.length+k)
 | .dead _ => .own k
def hdT (h:List VO):List VV:=(List.range h.length).map (aF7 h)
def aEB (ids:List Nat)(t:List (Nat×VV)):List (Nat×VV):=t.map fun p=>(p.1,D9 ids p.2)
def twS (t:List (Nat×VV))(h:List VO)(ids:List Nat):VS:=⟨aEB ids t,ids.map fun i=>qP ids (aP (twH h) i)⟩
def twC (c:Ctx):Ctx:=⟨c.n0,c.F,fun j=>if j<c.h.length then c.ρ j else if AA (aP c.h (j-c.h.length))=true then c.ρ (j-c.h.length)else none,twH c.h,c.hs⟩
theorem NU (ids:List Nat):∀ (t:List (Nat×VV)) (i:Nat),bQ (aEB ids t) i=D9 ids (bQ t i)
 | [],i=>rfl
 | (d,v)::t,i=>by
   show(if d=i then D9 ids v else bQ (aEB ids t) i)=D9 ids (if d=i then v else bQ t i)
   split
   ·rfl
   ·exact NU ids t i
theorem P9 {h:List VO}{k:Nat}(e:AA (aP h k)=true):k<h.length:=by
 by_cases hk:k<h.length
 ·exact hk
 ·have:aP h k = .dead false:=by unfold aP;rw[cH,List.getElem?_eq_none_iff.2 (by omega)];rfl
  rw[this]at e;cases e
theorem Y4 (h:List VO):(twI h).Nodup:=by
 unfold twI
 rw[LQ]
 refine⟨?_,List.Pairwise.filter _ List.nodup_range,?_⟩
 ·unfold List.Nodup
  rw[List.pairwise_map]
  refine List.Pairwise.imp_of_mem ?_ List.nodup_range
  intro a b ha hb hab
  rw[qW]at ha hb
  unfold twK
  cases AA (aP h a) <;> cases AA (aP h b) <;> simp only[cond_true,cond_false] <;> omega
 ·intro x hx y hy e
  subst e
  rw[List.mem_map]at hx
  obtain⟨k,hk,e⟩:=hx
  rw[List.mem_filter]at hy
  rw[qW]at hk hy
  unfold twK at e
  cases hl:AA (aP h k)with
  | true=>rw[hl,cond_true]at e;omega
  | false =>
    rw[hl,cond_false]at e
    subst e
    rw[hl]at hy
    cases hy.2
section
variable {F0:Fz} {H0:Base} {c c':Ctx} {H H':aD}
theorem KL {h:List VO}{i:Nat}(hi:i<h.length):(twH h)[i]? = h[i]? := dL hi
theorem aBl {h:List VO}{i:Nat}{o:VO}(hi : ¬ i<h.length)(e:(twH h)[i]? = some o):o = .dead false:=by
 unfold twH at e
 rw[o5 (by omega),b8]at e
 cases e2:h[i-h.length]? with
 | none=>rw[e2]at e;cases e
 | some x=>rw[e2]at e;cases e;rfl
theorem P7 (c:Ctx):Le c (twC c):=⟨rfl,Fz.ext_refl _,rfl,by show c.h.length<=(c.h++_).length;rw[aR];omega,fun i hi=>aA hi,fun i o e=>⟨o,by show(twH c.h)[i]? = _;rw[KL (List.getElem?_eq_some_iff.1 e).1];exact e,VO.le_refl o⟩⟩
theorem aFy (h:Ok F0 H0 c H):Ok F0 H0 (twC c) H where
 n0:=h.n0
 pre:=h.pre
 fz:=h.fz
 low:=h.low
 obj:=fun i o e=>by
  have e:(twH c.h)[i]? = some o:=e
  by_cases hi:i<c.h.length
  ·rw[KL hi]at e
   have ob:=h.obj i o e
   have hρ:(twC c).ρ i=c.ρ i:=aA hi
   exact {
    lo:=fun b k=>ob.lo b (hρ.symm.trans k)
    box:=fun cs fr k=>by
     obtain⟨b,azz,k1,k2,k3,k4⟩:=ob.box cs fr k
     exact⟨b,azz,hρ.trans k1,k2,k3.mono fun v a q=>RL.mono (P7 c) v a q,k4⟩
    lst:=fun q t l fr k=>by rw[hρ];exact ob.lst q t l fr k
    dead:=fun b k k2=>ob.dead b k (hρ.symm.trans k2) }
  ·have:=aBl hi e
   subst this
   have hρ:(twC c).ρ i=if AA (aP c.h (i-c.h.length))=true then c.ρ (i-c.h.length)else none:=aC hi
   exact {
    lo:=fun b k=>by
     rw[hρ]at k
     split at k
     ·rename_i hl
      have hlt:=P9 hl
      have hg:c.h[i-c.h.length]? = some (c.h[i-c.h.length]):=aM hlt
      exact(h.obj _ _ hg).lo b k
     ·cases k
    box:=fun _ _ k=>by cases k
    lst:=fun _ _ _ _ k=>by cases k
    dead:=fun _ k=>by cases k }
 inj:=fun i j b hij hi hj=>by
  have hi:(if i<c.h.length then c.ρ i else if AA (aP c.h (i-c.h.length))=true then c.ρ (i-c.h.length)else none)=some b:=hi
  have hj:(if j<c.h.length then c.ρ j else if AA (aP c.h (j-c.h.length))=true then c.ρ (j-c.h.length)else none)=some b:=hj
  show(twH c.h)[i]? = _\/(twH c.h)[j]? = _
  have dd:∀ k,¬ k<c.h.length->AA (aP c.h (k-c.h.length))=true->(twH c.h)[k]? = some (.dead false):=fun k h1 h2=>by
   have:=P9 h2
   unfold twH
   rw[o5 (by omega),b8,aM this];rfl
  split at hi
  ·rename_i h1
   split at hj
   ·rename_i h2
    rcases h.inj i j b hij hi hj with e|e
    ·left;rw[KL h1];exact e
    ·right;rw[KL h2];exact e
   ·rename_i h2
    split at hj
    ·rename_i h3;exact .inr (dd j h2 h3)
    ·cases hj
  ·rename_i h1
   split at hi
   ·rename_i h3;exact .inl (dd i h1 h3)
   ·cases hi
 bj:=fun i j b o hij hi hj ho=>by
  have hi:(if i<c.h.length then c.ρ i else if AA (aP c.h (i-c.h.length))=true then c.ρ (i-c.h.length)else none)=some b:=hi
  have hj:(if j<c.h.length then c.ρ j else if AA (aP c.h (j-c.h.length))=true then c.ρ (j-c.h.length)else none)=some b:=hj
  have ho:(twH c.h)[i]? = some o:=ho
  by_cases h1:i<c.h.length
  ·rw[aA h1]at hi
   rw[KL h1]at ho
   split at hj
   ·exact h.bj i j b o hij hi hj ho
   ·split at hj
    ·rename_i h2 h3
     by_cases he:i=j-c.h.length
     ·subst he
      rw[dP ho]at h3
      cases o with
      | lst _ _ _ _=>rfl
      | box _ _=>cases h3
      | dead _=>rfl
     ·exact h.bj i _ b o he hi hj ho
    ·cases hj
  ·rw[aBl h1 ho];rfl
 dom:=fun i hi=>by
  have hi:(twH c.h).length<=i:=hi
  have hl:(twH c.h).length=c.h.length+c.h.length:=by unfold twH;rw[aR,e8]
  show(if i<c.h.length then c.ρ i else if AA (aP c.h (i-c.h.length))=true then c.ρ (i-c.h.length)else none)=none
  rw[aC (by omega)]
  split
  ·rename_i h3;have:=P9 h3;omega
  ·rfl
end
end Go.Mach
