/- Part of the proof. No condition. -/
import Derived.Test.YtpigepmgheabhaaGreatDoorYVTw
import Derived.Test.YtpigepmgheabhaaGreatDoorYKept
import Derived.Test.YtpigepmgheabhaaGreatDoorYLock
import Derived.Test.YtpigepmgheabhaaGreatDoorZ32
import Derived.Test.YtpigepmgheabhaaGreatDoorYExtS
import Derived.Test.YtpigepmgheabhaaGreatDoorProg
import Derived.KernelRfl
namespace Go.Mach
set_option linter.unusedVariables false
set_option linter.unusedSimpArgs false
def dnL (h:List VO):VV->VV
 | .own i=>match aP h i with
   | .lst _ t l true => .fz false t l
   | _ => .own i
 | .fz _ t l => .fz false t l
 | .fptr _ t l ix off => .fptr false t l ix off
 | v=>v
def dn1 (h:List VO):VV->VV
 | .agg l => .agg (l.map (dnL h))
 | .bx l off => .bx (l.map (dnL h)) off
 | .bs l => .bs (l.map (dnL h))
 | v=>dnL h v
def dn2 (h:List VO):VV->VV
 | .tup l => .tup (l.map (dn1 h))
 | .fn f l => .fn f (l.map (dn1 h))
 | v=>dn1 h v
def dnO (h:List VO):VO->VO
 | .box cs fr => .box (cs.map (dnL h)) fr
 | .lst _ t l fr => .lst t.flat t l fr
 | o=>o
def ntL:VV->Bool
 | .fz o _ _ => !o
 | .fptr o _ _ _ _ => !o
 | _=>true
def nt1:VV->Bool
 | .agg l | .bx l _ | .bs l=>l.all ntL
 | v=>ntL v
def nt2:VV->Bool
 | .tup l | .fn _ l=>l.all nt1
 | v=>nt1 v
def ntO:VO->Bool
 | .box cs fr=>cs.all ntL && !fr
 | .lst o t _ fr=>(!o||t.flat) && !fr
 | .dead _=>false
def bkI (ids:List Nat)(n q:Nat):Nat:=if q<ids.length then ids.getD q 0 else n+(q-ids.length)
def bkL (ids:List Nat)(n:Nat):VV->VV
 | .own q => .own (bkI ids n q)
 | .ptr q off => .ptr (bkI ids n q) off
 | .eptr q ix off => .eptr (bkI ids n q) ix off
 | .pl v => .pl v
 | .er b => .er b
 | .fz o t l => .fz o t l
 | .fptr o t l ix off => .fptr o t l ix off
 | .hof i => .hof i
 | _ => .undef
def bk1 (ids:List Nat)(n:Nat):VV->VV
 | .agg l => .agg (l.map (bkL ids n))
 | .bx l off => .bx (l.map (bkL ids n)) off
 | .bs l => .bs (l.map (bkL ids n))
 | v=>bkL ids n v
def bkO (ids:List Nat)(n:Nat):VO->VO
 | .box cs fr => .box (cs.map (bkL ids n)) fr
 | o=>o
def DT:VO->VO
 | .dead _ => .dead false
 | o=>o
def bkH (ids:List Nat)(h h':List VO):List VO :=
 ((List.range h.length).map fun i=>match fY i ids 0 with
   | some k=>bkO ids h.length (aP h' k)
   | none=>DT (aP h i))++(h'.drop ids.length).map (bkO ids h.length)
abbrev QM:=List VV->List VO->Prop
def aGK (O:List VV->List VO->QM->Prop)(ids:List Nat)(a:List VV)(h:List VO)(s:VS)(k:VV->VS->Prop):Prop :=
 match a.all nt2&&h.all ntO with
 | true=>O a h fun vs h'=>k (JM (vs.map (bk1 ids s.h.length))) ⟨s.t,bkH ids s.h h'⟩
 | false=>False
def aF8 (O:List VV->List VO->QM->Prop)(ids:List Nat)(a:List VV)(h:List VO)(s:VS)(k:VV->VS->Prop):Prop :=
 aGK O ids (a.map (D9 ids)) (ids.map fun i=>qP ids (aP h i)) s k
def aEv (O:List VV->List VO->QM->Prop)(a:List VV)(h:List VO)(s:VS)(k:VV->VS->Prop):Prop :=
 aF8 O (mP (2*h.length+40) h (a.flatMap GK) []) a h s k
def AX (O:List VV->List VO->QM->Prop)(args:List VV)(s:VS)(k:VV->VS->Prop):Prop :=
 aEv O (args.map (dn2 s.h)) (s.h.map (dnO s.h)) s k
def W4 (c c':Ctx):Prop:=∀ (k:Nat) (o:VO),c.h[k]? = some o->c'.ρ k=c.ρ k/\∃ o',c'.h[k]? = some o'/\VO.le o o'
def EL (P:Program)(f:FuncId)(args:List VV)(h:List VO)(Q:QM):Prop :=
 ∀ (F0:Fz) (H0:Base) (c:Ctx) (H:aD) (fl:Nat) (az:List Value),Ok F0 H0 c H->c.h=h->Fl fl H0->All2 (R2 c) args az ->
   WCall P fl f az.toArray H fun v H'=>∃ vs azz c',Q vs c'.h/\c'.hs=c.hs/\Ok F0 H0 c' H'/\W4 c c'/\All2 (R1 c') vs azz/\v=iE azz
section
variable {F0:Fz} {H0:Base} {c c':Ctx} {H H':aD}
theorem xK (n:Nat->Bool)(F:Fz):cA false n F=F:=by
 funext b
 unfold cA
 rw[aC (by simp)]
theorem RC.dn {n:Nat->Bool}{F:Fz}{o:Bool}{t:Ty}{l:List t.den}{azz:List Value}(h:RC (cA o n F) t l azz):RC (cA t.flat n F) t l azz:=by
 cases hf:t.flat with
 | false=>exact h.mono (jJ fun e=>by cases e)
 | true=>have:=h.flat;rwa [hf,AZ]at this
def dnC (c:Ctx):Ctx:=⟨c.n0,c.F,c.ρ,c.h.map (dnO c.h),c.hs⟩
theorem CW (hok:Ok F0 H0 c H){v:VV}{a:Value}(h:RL c v a):RL (dnC c) (dnL c.h v) a:=by
 have hget:∀ (i:Nat) (o:VO),c.h[i]? = some o->(dnC c).h[i]? = some (dnO c.h o):=fun i o e=>by
  show(c.h.map _)[i]? = _
  rw[b8,e];rfl
 cases v with
 | fz o t l =>
   obtain⟨ad,k,h1,h2⟩:=fzA h
   exact⟨ad,k,h1,h2⟩
 | fptr o t l ix off =>
   obtain⟨b,q,B,x,cs,h1,h2,h3,h4,h5⟩:=h
   exact⟨b,q,B,x,cs,h1,jJ (fun e=>by cases e) _ _ h2,h3,h4,RT.mono (jJ fun e=>by cases e) _ _ _ h5⟩
 | own i =>
   unfold dnL
   simp only
   split
   ·rename_i o t l e
    have hi:=cV e (by intro e;cases e)
    obtain⟨ad,k,h1,h2⟩:=aGt hok hi h
    exact⟨ad,k,h1,h2⟩
   ·simp only[RL]at h⊢
    cases hi:c.h[i]? with
    | none=>rw[hi]at h;exact h.elim
    | some o =>
      rw[hi]at h
      rw[hget i o hi]
      cases o <;> exact h
 | ptr i off =>
   obtain⟨b,cs,fr,h1,h2,h3⟩:=h
   exact⟨b,_,fr,hget i _ h1,h2,h3⟩
 | eptr i ix off =>
   obtain⟨b,h1,h2⟩:=h
   refine⟨b,h1,?_⟩
   cases hi:c.h[i]? with
   | none=>rw[hi]at h2;exact h2.elim
   | some o =>
     rw[hi]at h2
     rw[hget i o hi]
     cases o <;> exact h2
 | mptr i off =>
   rcases h with h|⟨b,h1,h2,h3⟩
   ·exact .inl h
   ·exact .inr ⟨b,h1,by show i<(c.h.map _).length;rw[e8];exact h2,h3⟩
 | _=>exact h
theorem QL (hok:Ok F0 H0 c H){v:VV}{a:Value}(h:R1 c v a):R1 (dnC c) (dn1 c.h v) a:=by
 cases v
 case agg l=>obtain⟨azz,h1,h2⟩:=h;exact⟨azz,h1,h2.mapL fun v a h=>CW hok h⟩
 case bx l off=>obtain⟨b,B,h1,h2,h3⟩:=h;exact⟨b,B,h1,h2,h3.mapL fun v a h=>CW hok h⟩
 case bs l=>obtain⟨b,B,k,h1,h2,h4,h3⟩:=h;exact⟨b,B,k,by simpa using h1,h2,h4,h3.mapL fun v a h=>CW hok h⟩
 all_goals exact FU (CW hok (yT (fun _ e=>by cases e) (fun _ _ e=>by cases e) (fun _ e=>by cases e) h))
theorem WU (hok:Ok F0 H0 c H){v:VV}{a:Value}(h:R2 c v a):R2 (dnC c) (dn2 c.h v) a:=by
 cases v
 case tup l=>obtain⟨azz,h1,h2⟩:=h;exact⟨azz,h1,h2.mapL fun v a h=>QL hok h⟩
 case fn f l=>obtain⟨azz,h1,h2⟩:=h;exact⟨azz,h1,h2.mapL fun v a h=>QL hok h⟩
 all_goals exact rD (QL hok (BP (fun _ e=>by cases e) (fun _ _ e=>by cases e) h))
theorem aCR {i:Nat}{o':VO}(h:(dnC c).h[i]? = some o'):∃ o,c.h[i]? = some o/\o'=dnO c.h o:=by
 have h:(c.h.map (dnO c.h))[i]? = some o':=h
 rw[b8]at h
 cases e:c.h[i]? with
 | none=>rw[e]at h;cases h
 | some o=>rw[e]at h;exact⟨o,rfl,(eR h).symm⟩
theorem Ok.dn (h:Ok F0 H0 c H):Ok F0 H0 (dnC c) H where
 n0:=h.n0
 pre:=h.pre
 fz:=h.fz
 low:=h.low
 obj:=fun i o' hi=>by
  obtain⟨o,h1,rfl⟩:=aCR hi
  have ob:=h.obj i o h1
  exact {
   lo:=ob.lo
   box:=fun cs fr e=>by
    cases o with
    | box cs' fr' =>
      cases e
      obtain⟨b,azz,k1,k2,k3,k4⟩:=ob.box _ _ rfl
      exact⟨b,azz,k1,k2,k3.mapL fun v a h'=>CW h h',k4⟩
    | _=>cases e
   lst:=fun q t l fr e=>by
    cases o with
    | lst q' t' l' fr' =>
      cases e
      obtain⟨k1,k2⟩:=ob.lst _ _ _ _ rfl
      refine⟨k1,fun b e => ?_⟩
      obtain⟨azz,ex,m1,m2,m3,m4⟩:=k2 b e
      exact⟨azz,ex,m1,m2.dn,m3,m4⟩
    | _=>cases e
   dead:=fun b e e'=>by
    cases o with
    | dead x=>exact ob.dead b e e'
    | _=>cases e }
 inj:=fun i j b hij hi hj=>by
  have key:∀ i:Nat,c.h[i]? = some (.dead false)->(dnC c).h[i]? = some (.dead false):=fun i e=>by
   show(c.h.map _)[i]? = _
   rw[b8,e];rfl
  exact(h.inj i j b hij hi hj).imp (key i) (key j)
 bj:=h.bj.of fun i o' hi=>by
  obtain⟨o,h1,rfl⟩:=aCR hi
  exact⟨o,h1,fun e=>by cases o <;> first|rfl|cases e⟩
 dom:=fun i hi=>h.dom i (by have:(c.h.map (dnO c.h)).length<=i:=hi;rwa [e8]at this)
def reN (c:Ctx)(N:Nat->Bool):Ctx:=⟨N,c.F,c.ρ,c.h,c.hs⟩
theorem W0 {N:Nat->Bool}{v:VV}{a:Value}(hv:ntL v=true)(h:RL c v a):RL (reN c N) v a:=by
 cases v with
 | fz o t l =>
   have ho:o=false:=by simpa [ntL] using hv
   subst ho
   obtain⟨ad,k,h1,h2⟩:=h
   rw[xK]at h2
   refine⟨ad,k,h1,?_⟩
   rw[xK];exact h2
 | fptr o t l ix off =>
   have ho:o=false:=by simpa [ntL] using hv
   subst ho
   obtain⟨b,q,B,x,cs,h1,h2,h3,h4,h5⟩:=h
   rw[xK]at h2 h5
   refine⟨b,q,B,x,cs,h1,?_,h3,h4,?_⟩
   ·rw[xK];exact h2
   ·rw[xK];exact h5
 | _=>exact h
theorem w7 {N:Nat->Bool}:∀ {l:List VV} {azz:List Value},l.all ntL=true->All2 (RL c) l azz->All2 (RL (reN c N)) l azz
 | [],_,_,.nil => .nil
 | _::_,_,hv,.cons h t=>by
   simp only[List.all_cons,aH]at hv
   exact .cons (W0 hv.1 h) (w7 hv.2 t)
theorem XU {N:Nat->Bool}{v:VV}{a:Value}(hv:nt1 v=true)(h:R1 c v a):R1 (reN c N) v a:=by
 cases v
 case agg l=>obtain⟨azz,h1,h2⟩:=h;exact⟨azz,h1,w7 hv h2⟩
 case bx l off=>obtain⟨b,B,h1,h2,h3⟩:=h;exact⟨b,B,h1,h2,w7 hv h3⟩
 case bs l=>obtain⟨b,B,k,h1,h2,h4,h3⟩:=h;exact⟨b,B,k,h1,h2,h4,w7 hv h3⟩
 all_goals exact FU (W0 hv (yT (fun _ e=>by cases e) (fun _ _ e=>by cases e) (fun _ e=>by cases e) h))
theorem J1 {N:Nat->Bool}:∀ {l:List VV} {azz:List Value},l.all nt1=true->All2 (R1 c) l azz->All2 (R1 (reN c N)) l azz
 | [],_,_,.nil => .nil
 | _::_,_,hv,.cons h t=>by
   simp only[List.all_cons,aH]at hv
   exact .cons (XU hv.1 h) (J1 hv.2 t)
theorem aDz {N:Nat->Bool}{v:VV}{a:Value}(hv:nt2 v=true)(h:R2 c v a):R2 (reN c N) v a:=by
 cases v
 case tup l=>obtain⟨azz,h1,h2⟩:=h;exact⟨azz,h1,J1 hv h2⟩
 case fn f l=>obtain⟨azz,h1,h2⟩:=h;exact⟨azz,h1,J1 hv h2⟩
 all_goals exact rD (XU hv (BP (fun _ e=>by cases e) (fun _ _ e=>by cases e) h))
theorem JF {N:Nat->Bool}:∀ {l:List VV} {azz:List Value},l.all nt2=true->All2 (R2 c) l azz->All2 (R2 (reN c N)) l azz
 | [],_,_,.nil => .nil
 | _::_,_,hv,.cons h t=>by
   simp only[List.all_cons,aH]at hv
   exact .cons (aDz hv.1 h) (JF hv.2 t)
theorem Ok.reN (h:Ok F0 H0 c H)(B:Base)(hB:B.H=H)(hnt:c.h.all ntO=true)(hlo:∀ i b,c.ρ i=some b->B.N b=false):Ok c.F B (reN c B.N) H where
 n0:=rfl
 pre:=⟨by rw[hB];exact aF _,fun b _=>by rw[hB]⟩
 fz:=h.fz
 low:=fun _ _=>rfl
 obj:=fun i o hi=>by
  have ob:=h.obj i o hi
  have hn:ntO o=true:=List.all_eq_true.1 hnt o (fW hi)
  exact {
   lo:=fun b e=>⟨hlo i b e,(ob.lo b e).2⟩
   box:=fun cs fr e=>by
    subst e
    obtain⟨b,azz,k1,k2,k3,k4⟩:=ob.box _ _ rfl
    simp only[ntO,aH]at hn
    exact⟨b,azz,k1,k2,w7 hn.1 k3,k4⟩
   lst:=fun q t l fr e=>by
    subst e
    obtain⟨k1,k2⟩:=ob.lst _ _ _ _ rfl
    refine⟨k1,fun b e => ?_⟩
    obtain⟨azz,ex,m1,m2,m3⟩:=k2 b e
    refine⟨azz,ex,m1,?_,m3⟩
    simp only[ntO,aH,iX]at hn
    rcases hn.1 with hq|hf
    ·have:q=false:=by simpa using hq
     subst this
     rw[xK]at m2⊢;exact m2
    ·exact⟨m2.1,fun i x hx=>let ⟨cs,g1,g2⟩:=m2.2 i x hx;⟨cs,g1,RT.flat _ _ _ hf g2⟩⟩
   dead:=fun b e e'=>ob.dead b e e' }
 inj:=h.inj
 bj:=h.bj
 dom:=h.dom
theorem DI:∀ {ids:List Nat} {i n:Nat},fY i ids n=none->i∉ids
 | [],_,_,_,h=>by cases h
 | x::ids,i,n,e,h=>by
   unfold fY at e
   split at e
   ·cases e
   ·rename_i hx
    rcases List.mem_cons.1 h with h|h
    ·exact hx h
    ·exact DI e h
def gH (c:Ctx)(ids:List Nat)(H:aD):Base:=⟨H,fun b=>decide (b<H.length) && !(ids.any fun i=>c.ρ i==some b),fun b h=>by
 simp only[aH]at h
 exact tX h.1⟩
theorem GZ {ids:List Nat}{b:Nat}(h:(gH c ids H).N b=false):H.length<=b\/∃ i∈ids,c.ρ i=some b:=by
 have h:(decide (b<H.length) && !(ids.any fun i=>c.ρ i==some b))=false:=h
 by_cases hb:b<H.length
 ·rw[gB hb,lP,Bool.not_eq_false',List.any_eq_true]at h
  obtain⟨i,h1,h2⟩:=h
  exact .inr ⟨i,h1,by simpa using h2⟩
 ·exact .inl (by omega)
theorem PU {ids:List Nat}{b:Nat}(hb:b<H.length)(h:∀ i∈ids,c.ρ i≠some b):(gH c ids H).N b=true:=by
 show(decide (b<H.length) && !(ids.any fun i=>c.ρ i==some b))=true
 rw[gB hb,lP,AP,List.any_eq_false]
 intro i hi e
 exact h i hi (by simpa using e)
theorem X2 {ids:List Nat}{b i:Nat}(hi:i∈ids)(e:c.ρ i=some b):(gH c ids H).N b=false:=by
 show(decide (b<H.length) && !(ids.any fun i=>c.ρ i==some b))=false
 have:(ids.any fun i=>c.ρ i==some b)=true:=List.any_eq_true.2 ⟨i,hi,by simp[e]⟩
 rw[this];simp
def bkC (c c3:Ctx)(ids:List Nat)(H:aD):Ctx :=
 ⟨c.n0,fun b=>if (gH c ids H).N b=true then c.F b else c3.F b,fun i=>if i<c.h.length then c.ρ i else c3.ρ (ids.length+(i-c.h.length)),bkH ids c.h c3.h,c.hs⟩
theorem G7 (ids:List Nat)(h h':List VO):(bkH ids h h').length=h.length+(h'.length-ids.length):=by simp[bkH]
theorem XC {ids:List Nat}{h h':List VO}{i:Nat}(hi:i<h.length):(bkH ids h h')[i]? = some (match fY i ids 0 with
 | some k=>bkO ids h.length (aP h' k)
 | none=>DT (aP h i)):=by
 unfold bkH
 rw[dL (by simpa using hi),b8,List.getElem?_range hi]
 rfl
theorem WZ {ids:List Nat}{h h':List VO}(j:Nat):(bkH ids h h')[h.length+j]? = (h'[ids.length+j]?).map (bkO ids h.length):=by
 unfold bkH
 rw[o5 (by simp),e8,List.length_range,Nat.add_sub_cancel_left,b8,q8]
theorem HU:∀ {ids:List Nat} {k i:Nat} (n:Nat),ids.Nodup->ids[k]? = some i->fY i ids n=some (n+k)
 | [],_,_,_,_,h=>by cases h
 | x::ids,0,i,n,hn,h=>by
   simp only[List.getElem?_cons_zero,aX]at h
   unfold fY
   rw[aA h.symm];rfl
 | x::ids,k+1,i,n,hn,h=>by
   rw[List.getElem?_cons_succ]at h
   have hx:i≠x:=fun e=>(List.nodup_cons.1 hn).1 (e▸fW h)
   unfold fY
   rw[aC hx,HU (n+1) (List.nodup_cons.1 hn).2 h]
   congr 1;omega
structure Bk (c c3:Ctx)(ids:List Nat)(F0:Fz)(H0:Base)(H H':aD):Prop where
 ok:Ok F0 H0 c H
 ok3:Ok c.F (gH c ids H) c3 H'
 nd:ids.Nodup
 hs:c3.hs=c.hs
 lent:∀ (k i:Nat),ids[k]? = some i->c3.ρ k=c.ρ i/\∃ o o',c.h[i]? = some o/\c3.h[k]? = some o'/\VO.le o o'/\vL o=false
theorem Bk.nB {ids:List Nat}{c3:Ctx}(h:Bk c c3 ids F0 H0 H H'){b:Nat}(hb:c.n0 b=true):(gH c ids H).N b=true:=by
 refine PU ?_ fun i _ e => ?_
 ·rw[h.ok.n0]at hb
  exact dC (H0.lt b hb) h.ok.pre.len
 ·rw[(h.ok.blk e).1]at hb;cases hb
theorem Bk.F {ids:List Nat}{c3:Ctx}(h:Bk c c3 ids F0 H0 H H')(o:Bool):(cA o c3.n0 c3.F).ext (cA o (bkC c c3 ids H).n0 (bkC c c3 ids H).F):=by
 intro b X hX
 have e3:c3.n0=(gH c ids H).N:=h.ok3.n0
 unfold cA at hX⊢
 rw[e3]at hX
 split at hX
 ·cases hX
 rename_i hn
 show(if o=true/\c.n0 b=true then none else if (gH c ids H).N b=true then c.F b else c3.F b)=_
 rw[aC fun k=>hn ⟨k.1,h.nB k.2⟩]
 by_cases hb:(gH c ids H).N b=true
 ·rw[aA hb,<- h.ok3.low b hb];exact hX
 ·rw[aC hb];exact hX
theorem Bk.get {ids:List Nat}{c3:Ctx}(h:Bk c c3 ids F0 H0 H H'){q:Nat}{o:VO}(hq:c3.h[q]? = some o):(bkC c c3 ids H).h[bkI ids c.h.length q]? = some (bkO ids c.h.length o)/\(bkC c c3 ids H).ρ (bkI ids c.h.length q)=c3.ρ q:=by
 show(bkH ids c.h c3.h)[_]? = _/\(if bkI ids c.h.length q<c.h.length then _ else _)=_
 unfold bkI
 by_cases hl:q<ids.length
 ·rw[aA hl]
  have hi:ids[q]? = some ids[q]:=aM hl
  have hg:ids.getD q 0=ids[q]:=by rw[cH,hi];rfl
  rw[hg]
  obtain⟨e1,o1,o2,e2,_⟩:=h.lent q _ hi
  have hlt:=bB e2
  rw[XC hlt,HU 0 h.nd hi,aA hlt,e9]
  simp only[dP hq]
  exact⟨trivial,e1.symm⟩
 ·rw[aC hl,WZ,show ids.length+(q-ids.length)=q by omega,hq,aC (by omega),show c.h.length+(q-ids.length)-c.h.length=q-ids.length by omega,show ids.length+(q-ids.length)=q by omega]
  exact⟨rfl,rfl⟩
theorem Bk.rel {ids:List Nat}{c3:Ctx}(h:Bk c c3 ids F0 H0 H H'){v:VV}{a:Value}(hr:RL c3 v a):RL (bkC c c3 ids H) (bkL ids c.h.length v) a:=by
 cases v with
 | pl v=>exact hr
 | er b=>exact hr
 | undef=>trivial
 | mptr i off=>trivial
 | hof i=>simp only[bkL,RL]at hr⊢;rw[h.hs]at hr;exact hr
 | fz o t l =>
   obtain⟨ad,k,h1,h2⟩:=hr
   exact⟨ad,k,h1,h2.mono (h.F o) (RT.mono (h.F o) t)⟩
 | fptr o t l ix off =>
   obtain⟨b,q,B,x,cs,h1,h2,h3,h4,h5⟩:=hr
   exact⟨b,q,B,x,cs,h1,h.F o _ _ h2,h3,h4,RT.mono (h.F o) _ _ _ h5⟩
 | own i =>
   simp only[bkL,RL]at hr⊢
   cases hi:c3.h[i]? with
   | none=>rw[hi]at hr;exact hr.elim
   | some o =>
     rw[hi]at hr
     obtain⟨k1,k2⟩:=h.get hi
     rw[k1,k2]
     cases o <;> exact hr
 | ptr i off =>
   obtain⟨b,cs,fr,h1,h2,h3⟩:=hr
   obtain⟨k1,k2⟩:=h.get h1
   exact⟨b,_,fr,k1,k2.trans h2,h3⟩
 | eptr i ix off =>
   obtain⟨b,h1,h2⟩:=hr
   cases hi:c3.h[i]? with
   | none=>rw[hi]at h2;exact h2.elim
   | some o =>
     rw[hi]at h2
     obtain⟨k1,k2⟩:=h.get hi
     refine⟨b,k2.trans h1,?_⟩
     rw[k1]
     cases o <;> exact h2
 | agg l=>exact hr.elim
 | tup l=>exact hr.elim
 | bx l off=>exact hr.elim
 | fn f l=>exact hr.elim
 | nw t l=>exact hr.elim
 | bs l=>exact hr.elim
theorem Bk.rel1 {ids:List Nat}{c3:Ctx}(h:Bk c c3 ids F0 H0 H H'){v:VV}{a:Value}(hr:R1 c3 v a):R1 (bkC c c3 ids H) (bk1 ids c.h.length v) a:=by
 have hF:c3.F.ext (bkC c c3 ids H).F:=by have:=h.F false;rwa [xK,xK]at this
 cases v
 case agg l=>obtain⟨azz,h1,h2⟩:=hr;exact⟨azz,h1,h2.mapL fun v a k=>h.rel k⟩
 case bx l off=>obtain⟨b,B,h1,h2,h3⟩:=hr;exact⟨b,B,h1,hF _ _ h2,h3.mapL fun v a k=>h.rel k⟩
 case bs l=>obtain⟨b,B,k,h1,h2,h4,h3⟩:=hr;exact⟨b,B,k,by simpa using h1,hF _ _ h2,h4,h3.mapL fun v a k=>h.rel k⟩
 all_goals exact FU (h.rel (yT (fun _ e=>by cases e) (fun _ _ e=>by cases e) (fun _ e=>by cases e) hr))
theorem ZY:∀ o:VO,VO.le o (DT o)
 | .box _ _=>trivial
 | .lst _ _ _ _=>⟨rfl,rfl⟩
 | .dead _=>trivial
theorem aGN (ids:List Nat)(n:Nat):∀ {o o':VO},VO.le o o'->VO.le o (bkO ids n o')
 | .box _ _,.box _ _,h=>h
 | .lst _ _ _ _,.lst _ _ _ _,h=>h
 | .lst _ _ _ _,.dead _,h=>h
 | .dead _,.dead _,h=>h
theorem Bk.old {ids:List Nat}{c3:Ctx}(h:Bk c c3 ids F0 H0 H H'){i:Nat}{o:VO}(hi:c.h[i]? = some o):∃ o',(bkC c c3 ids H).h[i]? = some o'/\VO.le o o'/\((i∉ids/\o'=DT o)\/∃ (k:Nat) (p:VO),ids[k]? = some i/\c3.h[k]? = some p/\o'=bkO ids c.h.length p):=by
 have hlt:=bB hi
 show ∃ o',(bkH ids c.h c3.h)[i]? = some o'/\_
 rw[XC hlt]
 cases e:fY i ids 0 with
 | none =>
   refine⟨_,rfl,?_,.inl ⟨DI e,?_⟩⟩
   ·simp only[dP hi];exact ZY o
   ·simp only[dP hi]
 | some k =>
   have hk:=(xU e).2
   rw[Nat.sub_zero]at hk
   obtain⟨_,o1,o2,e2,e3,e4,_⟩:=h.lent k i hk
   rw[hi]at e2;cases e2
   refine⟨_,rfl,?_,.inr ⟨k,o2,hk,e3,?_⟩⟩
   ·simp only[dP e3];exact aGN _ _ e4
   ·simp only[dP e3]
theorem Bk.le {ids:List Nat}{c3:Ctx}(h:Bk c c3 ids F0 H0 H H'):Le c (bkC c c3 ids H) where
 n0:=rfl
 F:=fun b X hX=>by
  show(if (gH c ids H).N b=true then c.F b else c3.F b)=_
  by_cases hb:(gH c ids H).N b=true
  ·rw[aA hb];exact hX
  ·exfalso
   rcases GZ (Bool.eq_false_iff.2 hb)with h1|⟨i,h1,h2⟩
   ·have:=h.ok.below hX;omega
   ·obtain⟨k,hk⟩:=List.mem_iff_getElem?.1 h1
    obtain⟨_,o,_,e2,_,_,e5⟩:=h.lent k i hk
    have ob:=h.ok.obj i o e2
    cases o with
    | box cs fr =>
      obtain⟨b',azz,k1,_,_,_,k5⟩:=ob.box _ _ rfl
      rw[h2]at k1;cases k1
      rw[k5 e5]at hX;cases hX
    | lst q t l fr =>
      obtain⟨azz,ex,_,_,_,k5⟩:=(ob.lst _ _ _ _ rfl).2 b h2
      rw[k5 e5]at hX;cases hX
    | dead x=>cases e5
 hs:=rfl
 len:=by show _<=(bkH ids c.h c3.h).length;rw[G7];omega
 ρ:=fun i hi=>aA hi
 h:=fun i o hi=>let ⟨o',h1,h2,_⟩:=h.old hi;⟨o',h1,h2⟩
theorem Bk.obj3 {ids:List Nat}{c3:Ctx}(h:Bk c c3 ids F0 H0 H H'){q:Nat}{o:VO}(hq:c3.h[q]? = some o){i:Nat}(hi:(bkC c c3 ids H).ρ i=c3.ρ q):ObjOk (bkC c c3 ids H) H' i (bkO ids c.h.length o):=by
 have ob:=h.ok3.obj q o hq
 have e3:c3.n0=(gH c ids H).N:=h.ok3.n0
 have hNf:∀ b,c3.ρ q=some b->(gH c ids H).N b=false:=fun b e=>by rw[<- e3];exact(ob.lo b e).1
 have hF:∀ b,c3.ρ q=some b->(bkC c c3 ids H).F b=c3.F b:=fun b e=>by
  show(if (gH c ids H).N b=true then c.F b else c3.F b)=_
  rw[aC (by rw[hNf b e];simp)]
 exact {
  lo:=fun b e=>by
   rw[hi]at e
   refine⟨?_,(ob.lo b e).2⟩
   cases hn:c.n0 b with
   | false=>exact hn
   | true=>have:=h.nB hn;rw[hNf b e]at this;cases this
  box:=fun cs fr e=>by
   cases o with
   | box cs' fr' =>
     cases e
     obtain⟨b,azz,k1,k2,k3,k4,k5⟩:=ob.box _ _ rfl
     exact⟨b,azz,hi.trans k1,k2,k3.mapL fun v a k=>h.rel k,fun e=>(hF b k1).trans (k4 e),fun e=>(hF b k1).trans (k5 e)⟩
   | lst _ _ _ _=>cases e
   | dead _=>cases e
  lst:=fun q' t l fr e=>by
   cases o with
   | lst q2 t2 l2 fr2 =>
     cases e
     rw[hi]
     obtain⟨k1,k2⟩:=ob.lst _ _ _ _ rfl
     refine⟨k1,fun b e => ?_⟩
     obtain⟨azz,ex,m1,m2,m3,m4⟩:=k2 b e
     exact⟨azz,ex,m1,m2.mono (h.F _),fun e'=>(hF b e).trans (m3 e'),fun e'=>(hF b e).trans (m4 e')⟩
   | box _ _=>cases e
   | dead _=>cases e
  dead:=fun b e e'=>by
   rw[hi]at e'
   cases o with
   | dead x=>rw[hF b e'];exact ob.dead b e e'
   | box _ _=>cases e
   | lst _ _ _ _=>cases e }
theorem Bk.other {ids:List Nat}{c3:Ctx}(h:Bk c c3 ids F0 H0 H H'){i b:Nat}{o:VO}(hi:c.h[i]? = some o)(hm:i∉ids)(hd:o ≠ .dead false)(e:c.ρ i=some b):(gH c ids H).N b=true:=by
 refine PU (h.ok.blk e).2 fun j hj ej => ?_
 obtain⟨k,hk⟩:=List.mem_iff_getElem?.1 hj
 obtain⟨_,o1,_,e2,_,_,e5⟩:=h.lent k j hk
 rcases h.ok.inj i j b (fun e=>hm (e▸hj)) e ej with k1|k1
 ·rw[hi]at k1;cases k1;exact hd rfl
 ·rw[e2]at k1;cases k1;cases e5
theorem Bk.from {ids:List Nat}{c3:Ctx}(h:Bk c c3 ids F0 H0 H H'){i:Nat}{o':VO}(hi:(bkC c c3 ids H).h[i]? = some o') :
 (∃ o,c.h[i]? = some o/\i∉ids/\o'=DT o/\(bkC c c3 ids H).ρ i=c.ρ i)\/∃ (q:Nat) (o:VO),c3.h[q]? = some o/\o'=bkO ids c.h.length o/\(bkC c c3 ids H).ρ i=c3.ρ q/\(i<c.h.length->ids[q]? = some i)/\(c.h.length<=i->q=ids.length+(i-c.h.length)):=by
 by_cases hl:i<c.h.length
 ·obtain⟨o'',e1,_,k⟩:=h.old (aM hl)
  rw[hi]at e1;cases e1
  have hρ:(bkC c c3 ids H).ρ i=c.ρ i:=aA hl
  rcases k with⟨k1,k2⟩|⟨q,p,k1,k2,k3⟩
  ·exact .inl ⟨_,aM hl,k1,k2,hρ⟩
  ·exact .inr ⟨q,p,k2,k3,by rw[hρ];exact(h.lent q i k1).1.symm,fun _=>k1,fun h=>by omega⟩
 ·have hi:(bkH ids c.h c3.h)[i]? = some o':=hi
  rw[show i=c.h.length+(i-c.h.length) by omega,WZ]at hi
  cases e:c3.h[ids.length+(i-c.h.length)]? with
  | none=>rw[e]at hi;cases hi
  | some o =>
    rw[e]at hi
    exact .inr ⟨_,o,e,(eR hi).symm,aC hl,fun h=>by omega,fun _=>rfl⟩
theorem Bk.done {ids:List Nat}{c3:Ctx}(h:Bk c c3 ids F0 H0 H H'):Ok F0 H0 (bkC c c3 ids H) H' where
 n0:=h.ok.n0
 pre:=⟨bY h.ok.pre.len h.ok3.pre.len,fun b hb=>(h.ok3.pre.get b (h.nB (by rw[h.ok.n0];exact hb))).trans (h.ok.pre.get b hb)⟩
 fz:=fun b B e=>by
  have e:(if (gH c ids H).N b=true then c.F b else c3.F b)=some B:=e
  split at e
  ·rename_i hb
   have:=h.ok.fz b B e
   unfold blk? at this⊢
   rw[h.ok3.pre.get b hb];exact this
  ·exact h.ok3.fz b B e
 low:=fun b hb=>by
  show(if (gH c ids H).N b=true then c.F b else c3.F b)=_
  rw[aA (h.nB (by rw[h.ok.n0];exact hb))]
  exact h.ok.low b hb
 obj:=fun i o' hi=>by
  rcases h.from hi with⟨o,k1,k2,rfl,k4⟩|⟨q,o,k1,rfl,k3,_⟩
  ·have ob:=h.ok.obj i o k1
   cases o with
   | dead x=>exact { lo:=fun b e=>by rw[k4]at e;have:=ob.lo b e;exact⟨this.1,dC this.2 h.ok3.pre.len⟩,box:=fun _ _ e=>(by cases e),lst:=fun _ _ _ _ e=>(by cases e),dead:=fun _ e=>by cases e }
   | box cs fr =>
     refine ob.mono h.le k4 (fun b e => ?_) (fun b B e hB => ?_) h.ok3.pre.len
     ·exact aA (h.other k1 k2 (fun e=>by cases e) e)
     ·unfold blk? at hB⊢
      rw[h.ok3.pre.get b (h.other k1 k2 (fun e=>by cases e) e)];exact hB
   | lst q t l fr =>
     refine ob.mono h.le k4 (fun b e => ?_) (fun b B e hB => ?_) h.ok3.pre.len
     ·exact aA (h.other k1 k2 (fun e=>by cases e) e)
     ·unfold blk? at hB⊢
      rw[h.ok3.pre.get b (h.other k1 k2 (fun e=>by cases e) e)];exact hB
  ·exact h.obj3 k1 k3
 inj:=fun i j b hij hi hj=>by
  have hlt:∀ i,(bkC c c3 ids H).ρ i=some b->∃ o,(bkC c c3 ids H).h[i]? = some o:=fun i e=>by
   by_cases hl:i<c.h.length
   ·obtain⟨o,e1,_⟩:=h.old (aM hl)
    exact⟨o,e1⟩
   ·have e:(if i<c.h.length then c.ρ i else c3.ρ (ids.length+(i-c.h.length)))=some b:=e
    rw[aC hl]at e
    have:=h.ok3.lt e
    refine⟨_,aM ?_⟩
    show i<(bkH ids c.h c3.h).length
    rw[G7];omega
  obtain⟨oi,hoi⟩:=hlt i hi
  obtain⟨oj,hoj⟩:=hlt j hj
  rw[hoi,hoj]
  rcases h.from hoi with⟨o,k1,k2,rfl,k4⟩|⟨q,o,k1,rfl,k3,k5,k6⟩
  ·rcases h.from hoj with⟨p,m1,m2,rfl,m4⟩|⟨r,p,m1,rfl,m3,_⟩
   ·rw[k4]at hi;rw[m4]at hj
    rcases h.ok.inj i j b hij hi hj with e|e
    ·left;rw[k1]at e;cases e;rfl
    ·right;rw[m1]at e;cases e;rfl
   ·left
    by_cases hd:o = .dead false
    ·subst hd;rfl
    ·rw[k4]at hi;rw[m3]at hj
     have:=h.other k1 k2 hd hi
     rw[<- h.ok3.n0,((h.ok3.obj r p m1).lo b hj).1]at this;cases this
  ·rcases h.from hoj with⟨p,m1,m2,rfl,m4⟩|⟨r,p,m1,rfl,m3,m5,m6⟩
   ·right
    by_cases hd:p = .dead false
    ·subst hd;rfl
    ·rw[k3]at hi;rw[m4]at hj
     have:=h.other m1 m2 hd hj
     rw[<- h.ok3.n0,((h.ok3.obj q o k1).lo b hi).1]at this;cases this
   ·rw[k3]at hi;rw[m3]at hj
    have hqr:q≠r:=fun e=>by
     subst e
     by_cases hl:i<c.h.length
     ·have e1:=k5 hl
      by_cases hl2:j<c.h.length
      ·have e2:=m5 hl2;rw[e1]at e2;exact hij (eR e2)
      ·have:=m6 (by omega);have:=(List.getElem?_eq_some_iff.1 e1).1;omega
     ·have e1:=k6 (by omega)
      by_cases hl2:j<c.h.length
      ·have:=(List.getElem?_eq_some_iff.1 (m5 hl2)).1;omega
      ·have:=m6 (by omega);omega
    rcases h.ok3.inj q r b hqr hi hj with e|e
    ·left;rw[k1]at e;cases e;rfl
    ·right;rw[m1]at e;cases e;rfl
 bj:=fun i j b o' hij hi hj ho=>by
  have hlt:∃ p,(bkC c c3 ids H).h[j]? = some p:=by
   by_cases hl:j<c.h.length
   ·obtain⟨o,e1,_⟩:=h.old (aM hl)
    exact⟨o,e1⟩
   ·have e:(if j<c.h.length then c.ρ j else c3.ρ (ids.length+(j-c.h.length)))=some b:=hj
    rw[aC hl]at e
    have:=h.ok3.lt e
    refine⟨_,aM ?_⟩
    show j<(bkH ids c.h c3.h).length
    rw[G7];omega
  obtain⟨oj,hoj⟩:=hlt
  have bxo:∀ o:VO,AG (bkO ids c.h.length o)=AG o:=fun o=>by cases o <;> rfl
  have bxu:∀ o:VO,AG (DT o)=AG o:=fun o=>by cases o <;> rfl
  rcases h.from ho with⟨o,k1,k2,rfl,k4⟩|⟨q,o,k1,rfl,k3,k5,k6⟩
  ·rw[bxu]
   by_cases hd:o = .dead false
   ·subst hd;rfl
   ·rw[k4]at hi
    have hN:=h.other k1 k2 hd hi
    rcases h.from hoj with⟨p,m1,m2,rfl,m4⟩|⟨r,p,m1,rfl,m3,_⟩
    ·rw[m4]at hj;exact h.ok.bj i j b o hij hi hj k1
    ·rw[m3]at hj
     rw[<- h.ok3.n0,((h.ok3.obj r p m1).lo b hj).1]at hN;cases hN
  ·rw[bxo]
   rw[k3]at hi
   have hN:(gH c ids H).N b=false:=by rw[<- h.ok3.n0];exact((h.ok3.obj q o k1).lo b hi).1
   rcases h.from hoj with⟨p,m1,m2,rfl,m4⟩|⟨r,p,m1,rfl,m3,m5,m6⟩
   ·rw[m4]at hj
    rcases GZ hN with g|⟨x,g1,g2⟩
    ·have:=(h.ok.blk hj).2;omega
    ·obtain⟨k,hk⟩:=List.mem_iff_getElem?.1 g1
     obtain⟨n1,o1,o2,n2,n3,_⟩:=h.lent k x hk
     by_cases hkq:k=q
     ·subst hkq
      rw[k1]at n3;cases n3
      have hxj:x≠j:=fun e=>m2 (e▸g1)
      have b1:=h.ok.bj x j b o1 hxj g2 hj n2
      cases hb:AG o with
      | false=>rfl
      | true =>
        have:=VO.le_bx (o:=o1) (o':=o) (by
         obtain⟨_,o3,o4,q1,q2,q3,_⟩:=h.lent k x hk
         rw[n2]at q1;cases q1
         rw[k1]at q2;cases q2
         exact q3) hb
        rw[b1]at this;cases this
     ·exact h.ok3.bj q k b o (fun e=>hkq e.symm) hi (n1.trans g2) k1
   ·rw[m3]at hj
    have hqr:q≠r:=fun e=>by
     subst e
     by_cases hl:i<c.h.length
     ·have e1:=k5 hl
      by_cases hl2:j<c.h.length
      ·have e2:=m5 hl2;rw[e1]at e2;exact hij (eR e2)
      ·have:=m6 (by omega);have:=(List.getElem?_eq_some_iff.1 e1).1;omega
     ·have e1:=k6 (by omega)
      by_cases hl2:j<c.h.length
      ·have:=(List.getElem?_eq_some_iff.1 (m5 hl2)).1;omega
      ·have:=m6 (by omega);omega
    exact h.ok3.bj q r b o hqr hi hj k1
 dom:=fun i hi=>by
  have hi:(bkH ids c.h c3.h).length<=i:=hi
  rw[G7]at hi
  show(if i<c.h.length then c.ρ i else c3.ρ (ids.length+(i-c.h.length)))=none
  rw[aC (by omega)]
  exact h.ok3.dom _ (by omega)
theorem D1 {ids:List Nat}{c3:Ctx}(h:Bk c c3 ids F0 H0 H H'):∀ {vs:List VV} {azz:List Value},All2 (R1 c3) vs azz->All2 (R1 (bkC c c3 ids H)) (vs.map (bk1 ids c.h.length)) azz
 | _,_,.nil => .nil
 | _,_,.cons hv t => .cons (h.rel1 hv) (D1 h t)
theorem Ok.heap {B B':Base}(h:Ok F0 B c H)(hN:B'.N=B.N)(hp:PreB B' H')(hlen:H.length<=H'.length)(hb:∀ b,B.N b=false\/c.F b≠none->blk? H' b=blk? H b):Ok F0 B' c H' where
 n0:=h.n0.trans hN.symm
 pre:=hp
 fz:=fun b X e=>(hb b (.inr (by rw[e];simp))).trans (h.fz b X e)
 low:=fun b e=>h.low b (by rw[<- hN];exact e)
 obj:=fun i o hi=>by
  have ob:=h.obj i o hi
  have hx:∀ b,c.ρ i=some b->blk? H' b=blk? H b:=fun b e=>hb b (.inl (by rw[<- h.n0];exact(ob.lo b e).1))
  exact {
   lo:=fun b e=>⟨(ob.lo b e).1,dC (ob.lo b e).2 hlen⟩
   box:=fun cs fr e=>by
    obtain⟨b,azz,k1,k2,k3⟩:=ob.box cs fr e
    exact⟨b,azz,k1,(hx b k1).trans k2,k3⟩
   lst:=fun q t l fr e=>by
    obtain⟨k1,k2⟩:=ob.lst q t l fr e
    refine⟨k1,fun b e => ?_⟩
    obtain⟨azz,ex,m1,m2⟩:=k2 b e
    exact⟨azz,ex,(hx b e).trans m1,m2⟩
   dead:=ob.dead }
 inj:=h.inj
 bj:=h.bj
 dom:=h.dom
def aEj (args:List VV)(h:List VO):List Nat:=mP (2*(h.map (dnO h)).length+40) (h.map (dnO h)) ((args.map (dn2 h)).flatMap GK) []
def aEa:VO->Bool
 | .box _ fr => !fr
 | _=>false
def T4 (_:FuncId)(args:List VV)(s:VS)(X:List Nat):Bool:=X.all fun j=>aEa (aP s.h j)&&(aEj args s.h).all fun i => !Nat.beq i j
theorem aGH {P:Program}{O:FuncId->List VV->List VO->QM->Prop}(hO:∀ f args h Q,O f args h Q->EL P f args h Q)(B:FuncId->Bool):aAy P ⟨B,fun g args s k=>AX (O g) args s k,T4⟩:=by
 intro g args s k hB hr F0 H0 c H fl ta az hrel hfl ha
 obtain⟨hh,hok,ht⟩:=hrel
 have hr:AX (O g) args s k:=hr
 unfold AX aEv aF8 at hr
 rw[<- hh]at hr
 have hn:(mP (2*(c.h.map (dnO c.h)).length+40) (c.h.map (dnO c.h)) ((args.map (dn2 c.h)).flatMap GK) []).Nodup:=j5 _ List.nodup_nil
 generalize mP (2*(c.h.map (dnO c.h)).length+40) (c.h.map (dnO c.h)) ((args.map (dn2 c.h)).flatMap GK) []=ids at hr hn
 unfold aGK at hr
 split at hr
 case h_2=>exact hr.elim
 rename_i hnt
 simp only[aH]at hnt
 obtain⟨hna,hnh⟩:=hnt
 rw[<- hh]at hr
 have ok0:=hok.dn
 have a0:All2 (R2 (dnC c)) (args.map (dn2 c.h)) az:=ha.mapL fun v a h=>WU hok h
 have ok1:=ok0.clean hn
 have a1:All2 (R2 (jW (dnC c) ids)) ((args.map (dn2 c.h)).map (D9 ids)) az:=a0.mapL fun v a h=>w9 ids h
 have alive:∀ (k i:Nat),ids[k]? = some i->∃ o,c.h[i]? = some o/\vL o=false/\(jW (dnC c) ids).h[k]? = some (qP ids (dnO c.h o)):=by
  intro k i hk
  have hk2:(ids.map fun i=>qP ids (aP (c.h.map (dnO c.h)) i))[k]? = some (qP ids (aP (c.h.map (dnO c.h)) i)):=by rw[b8,hk];rfl
  have hf:=List.all_eq_true.1 hnh _ (fW hk2)
  cases hi:c.h[i]? with
  | none =>
    have hg:aP (c.h.map (dnO c.h)) i = .dead false:=by unfold aP;rw[cH,b8,hi];rfl
    rw[hg]at hf;cases hf
  | some o =>
    have hg:aP (c.h.map (dnO c.h)) i=dnO c.h o:=dP (by rw[b8,hi];rfl)
    rw[hg]at hf
    refine⟨o,rfl,?_,by rw[<- hg];exact hk2⟩
    cases o with
    | box cs fr=>simp only[dnO,qP,ntO,aH]at hf;simpa [vL] using hf.2
    | lst q t l fr=>simp only[dnO,qP,ntO,aH]at hf;simpa [vL] using hf.2
    | dead x=>cases hf
 have ok2:=ok1.reN (gH c ids H) rfl hnh (fun k b e=>by
  have e:(ids[k]?).bind c.ρ=some b:=e
  cases hk:ids[k]? with
  | none=>rw[hk]at e;cases e
  | some i=>rw[hk]at e;exact X2 (fW hk) e)
 have hfl2:Fl fl (gH c ids H):=fun b hb=>by
  rcases GZ hb with h|⟨i,hi,e⟩
  ·exact bY (hok.flen hfl) h
  ·exact hok.fl hfl e
 refine WCall.mono (hO _ _ _ _ hr c.F (gH c ids H) _ H fl az ok2 rfl hfl2 (JF hna a1)) ?_
 rintro v H' ⟨vs,azz,c3,hQ,e1,ok3,kept,hvs,rfl⟩
 have hb:Bk c c3 ids F0 H0 H H':=⟨hok,ok3,hn,e1,fun k i hk=>by
  obtain⟨o,h1,h2,h3⟩:=alive k i hk
  obtain⟨g1,o',g2,g3⟩:=kept k _ h3
  refine⟨g1.trans (by show(ids[k]?).bind c.ρ=_;rw[hk];rfl),o,o',h1,g2,?_,h2⟩
  cases o with
  | box _ _=>cases o' <;> exact g3
  | lst _ _ _ _=>cases o' <;> exact g3
  | dead _=>cases h2⟩
 exact⟨_,⟨s.t,bkH ids c.h c3.h⟩,bkC c c3 ids H,rfl,⟨rfl,hb.done,fun d=>R2.mono hb.le _ _ (ht d)⟩,yU (D1 hb hvs),hQ⟩
theorem aB2 {P:Program}{O:FuncId->List VV->List VO->QM->Prop}(hO:∀ f args h Q,O f args h Q->EL P f args h Q)(B:FuncId->Bool):X3 P ⟨B,fun g args s k=>AX (O g) args s k,T4⟩:=by
 intro g args s k X hB hlk hr F0 H0 c H fl ta az X' hrel hfl ha hX
 obtain⟨hh,hok,ht⟩:=hrel
 have hr:AX (O g) args s k:=hr
 have hlk:T4 g args s X=true:=hlk
 unfold T4 aEj at hlk
 unfold AX aEv aF8 at hr
 rw[<- hh]at hr hlk
 have hn:(mP (2*(c.h.map (dnO c.h)).length+40) (c.h.map (dnO c.h)) ((args.map (dn2 c.h)).flatMap GK) []).Nodup:=j5 _ List.nodup_nil
 generalize mP (2*(c.h.map (dnO c.h)).length+40) (c.h.map (dnO c.h)) ((args.map (dn2 c.h)).flatMap GK) []=ids at hr hn hlk
 unfold aGK at hr
 split at hr
 case h_2=>exact hr.elim
 rename_i hnt
 simp only[aH]at hnt
 obtain⟨hna,hnh⟩:=hnt
 rw[<- hh]at hr
 have ok0:=hok.dn
 have a0:All2 (R2 (dnC c)) (args.map (dn2 c.h)) az:=ha.mapL fun v a h=>WU hok h
 have ok1:=ok0.clean hn
 have a1:All2 (R2 (jW (dnC c) ids)) ((args.map (dn2 c.h)).map (D9 ids)) az:=a0.mapL fun v a h=>w9 ids h
 have alive:∀ (k i:Nat),ids[k]? = some i->∃ o,c.h[i]? = some o/\vL o=false/\(jW (dnC c) ids).h[k]? = some (qP ids (dnO c.h o)):=by
  intro k i hk
  have hk2:(ids.map fun i=>qP ids (aP (c.h.map (dnO c.h)) i))[k]? = some (qP ids (aP (c.h.map (dnO c.h)) i)):=by rw[b8,hk];rfl
  have hf:=List.all_eq_true.1 hnh _ (fW hk2)
  cases hi:c.h[i]? with
  | none =>
    have hg:aP (c.h.map (dnO c.h)) i = .dead false:=by unfold aP;rw[cH,b8,hi];rfl
    rw[hg]at hf;cases hf
  | some o =>
    have hg:aP (c.h.map (dnO c.h)) i=dnO c.h o:=dP (by rw[b8,hi];rfl)
    rw[hg]at hf
    refine⟨o,rfl,?_,by rw[<- hg];exact hk2⟩
    cases o with
    | box cs fr=>simp only[dnO,qP,ntO,aH]at hf;simpa [vL] using hf.2
    | lst q t l fr=>simp only[dnO,qP,ntO,aH]at hf;simpa [vL] using hf.2
    | dead x=>cases hf
 have ok2:=ok1.reN (gH c ids H) rfl hnh (fun k b e=>by
  have e:(ids[k]?).bind c.ρ=some b:=e
  cases hk:ids[k]? with
  | none=>rw[hk]at e;cases e
  | some i=>rw[hk]at e;exact X2 (fW hk) e)
 have hfl2:Fl fl (gH c ids H):=fun b hb=>by
  rcases GZ hb with h|⟨i,hi,e⟩
  ·exact bY (hok.flen hfl) h
  ·exact hok.fl hfl e
 have hXf:∀ b∈X',c.F b=none/\b<H.length/\(gH c ids H).N b=true:=fun b hb=>by
  obtain⟨j,hj,e⟩:=hX b hb
  have h1:=List.all_eq_true.1 hlk j hj
  simp only[aH]at h1
  obtain⟨h1,h2⟩:=h1
  cases hjc:c.h[j]? with
  | none =>
    have hg:aP c.h j = .dead false:=by unfold aP;rw[cH,hjc];rfl
    rw[hg]at h1;cases h1
  | some o =>
    rw[dP hjc]at h1
    cases o with
    | lst _ _ _ _=>cases h1
    | dead _=>cases h1
    | box cs fr =>
      have hfr:fr=false:=by simpa [aEa] using h1
      obtain⟨b',azz,k1,k2,k3,k4,k5⟩:=(hok.obj j _ hjc).box _ _ rfl
      rw[e]at k1;cases k1
      have hlt:=((hok.obj j _ hjc).lo b e).2
      refine⟨k5 hfr,hlt,PU hlt fun i hi ei => ?_⟩
      have hij:i≠j:=fun e=>by
       have:=List.all_eq_true.1 h2 i hi
       rw[e]at this
       simp at this
      obtain⟨k,hk⟩:=List.mem_iff_getElem?.1 hi
      obtain⟨o1,o2,o3,_⟩:=alive k i hk
      rcases hok.inj i j b hij ei e with q|q
      ·rw[o2]at q;cases q;cases o3
      ·rw[hjc]at q;cases q
 have hnot:∀ b,(gH c ids H).N b=false\/c.F b≠none->b∉X':=fun b h hb=>by
  obtain⟨h1,h2,h3⟩:=hXf b hb
  rcases h with h|h
  ·rw[h3]at h;cases h
  ·exact h h1
 have ok2':=ok2.heap (B':=⟨kV X' H,(gH c ids H).N,fun b h=>by rw[eO];exact(gH c ids H).lt b h⟩) (H':=kV X' H) rfl ⟨aF _,fun _ _=>rfl⟩ (by rw[eO];exact aF _) (fun b h=>MY (hnot b h))
 obtain⟨N,v,K,hcall,vs,azz,c3,hQ,e1,ok3,kept,hvs,rfl⟩:=hO _ _ _ _ hr c.F _ _ (kV X' H) fl az ok2' rfl hfl2 (JF hna a1)
 have hlK:H.length<=K.length:=by have:=ok3.pre.len;rw[show(Base.H ⟨kV X' H,(gH c ids H).N,_⟩:aD)=kV X' H from rfl,eO]at this;exact this
 have hKX:∀ b∈X',blk? K b=none:=fun b hb=>by
  have h1:=ok3.pre.get b (hXf b hb).2.2
  cases hk:blk? K b with
  | none=>rfl
  | some B =>
    have:blk? (kV X' H) b=some B:=by rw[<- hk];unfold blk?;rw[h1]
    exact absurd hb (jV this).1
 have hat:=qZ H X' K hlK
 have ok3:Ok c.F (gH c ids H) c3 (gG X' H K):=ok3.heap rfl ⟨by rw[j4];exact hlK,fun b hb=>by
  rw[hat]
  split
  ·rfl
  ·rename_i hx
   have h1:=ok3.pre.get b hb
   rw[h1,oT]
   split
   ·rename_i hm;exact absurd ⟨hm,(hXf b hm).2.1⟩ hx
   ·rfl⟩ (by rw[j4];exact aF _) (fun b h=>by
  have:b∉X':=fun hb=>by
   rcases h with h|h
   ·have h3:=(hXf b hb).2.2;rw[h3]at h;cases h
   ·cases hf:c3.F b with
    | none=>exact h hf
    | some B=>have:=ok3.fz b B hf;rw[hKX b hb]at this;cases this
  unfold blk?
  rw[hat,aC fun k=>this k.1])
 refine⟨N,iE azz,gG X' H K,by unfold cM;rw[hcall],?_⟩
 generalize gG X' H K=H' at ok3
 have hb:Bk c c3 ids F0 H0 H H':=⟨hok,ok3,hn,e1,fun k i hk=>by
  obtain⟨o,h1,h2,h3⟩:=alive k i hk
  obtain⟨g1,o',g2,g3⟩:=kept k _ h3
  refine⟨g1.trans (by show(ids[k]?).bind c.ρ=_;rw[hk];rfl),o,o',h1,g2,?_,h2⟩
  cases o with
  | box _ _=>cases o' <;> exact g3
  | lst _ _ _ _=>cases o' <;> exact g3
  | dead _=>cases h2⟩
 exact⟨_,⟨s.t,bkH ids c.h c3.h⟩,bkC c c3 ids H,hb.le,⟨rfl,hb.done,fun d=>R2.mono hb.le _ _ (ht d)⟩,yU (D1 hb hvs),hQ⟩
end
def hd1 (o:VO)(k:Nat):VV :=
 match o with
 | .box _ _ => .ptr k 0
 | _ => .own k
def hdl:List VO->Nat->List VV
 | [],_=>[]
 | o::r,k=>hd1 o k::hdl r (k+1)
def tyB (t t':Ty):Bool :=
 match Ty.dec t t' with
 | .isTrue _=>true
 | .isFalse _=>false
theorem aFp {t t':Ty}(h:tyB t t'=true):t=t':=by
 unfold tyB at h
 split at h
 ·assumption
 ·cases h
def okH:List VO->List VO->List VV->Nat->Bool
 | [],_,_,_=>true
 | .box _ _::r,.box _ _::r',.ptr j 0::vs,k=>Nat.beq j k&&okH r r' vs (k+1)
 | .lst _ t _ _::r,o::r',.own j::vs,k=>Nat.beq j k&&(match o with
   | .lst _ t' _ _=>tyB t t'
   | .dead _=>true
   | _=>false)&&okH r r' vs (k+1)
 | _,_,_,_=>false
def aGw (h:List VO)(vs:List VV)(h2:List VO)(Q:QM):Prop :=
 match okH h h2 (vs.take h.length) 0 with
 | true=>Q (vs.drop h.length) h2
 | false=>False
def aGm (h:List VO)(ids:List Nat)(vs:List VV)(hh:List VO)(Q:QM):Prop:=aGw h (vs.map (D9 ids)) (ids.map fun i=>qP ids (aP hh i)) Q
def aHn (h:List VO)(vs:List VV)(hh:List VO)(Q:QM):Prop:=aGm h (mP (2*hh.length+40) hh (vs.flatMap GK) []) vs hh Q
def aCB (h:List VO)(n:Nat)(t:List (Nat×VV))(vs:List VV)(hh:List VO)(Q:QM):Prop :=
 match vs.all r1B with
 | true=>aHn h ((List.range h.length).map (fun k=>bQ t (k+n))++vs) hh Q
 | false=>False
def YE (G:Cfg)(ct:Tab)(en:nJ)(fn:Func)(c:Code)(args:List VV)(h:List VO)(Q:QM):Prop :=
 rK ct 1 (vwp G ct en c 1) (twS (lS args++wX fn.ntmps (lS (hdT h))) h (twI h)) fun e s2=>match e with
  | .normal | .ret=>GH G s2 fn.results.toList fun vs=>aCB h fn.ntmps s2.t vs s2.h Q
  | _=>False
section
variable {F0:Fz} {H0:Base} {c c':Ctx} {H H':aD}
def o7 (c:Ctx)(k:Nat):Value :=
 match c.h[k]? with
 | some (.box _ _) => .pointer ((c.ρ k).map fun b=>⟨b,0,none⟩)
 | some (.lst _ _ l _)=>sl (c.ρ k) l.length
 | some (.dead _) => .slice ((c.ρ k).map fun b=>⟨b,0,none⟩) 0 0
 | none=>undef
theorem SW (hok:Ok F0 H0 c H){k:Nat}{o:VO}(e:c.h[k]? = some o):R2 c (hd1 o k) (o7 c k):=by
 unfold o7
 rw[e]
 cases o with
 | box cs fr =>
   obtain⟨b,azz,h1,_⟩:=(hok.obj k _ e).box _ _ rfl
   exact⟨b,cs,fr,e,h1,by rw[h1];rfl⟩
 | lst q t l fr=>show RL c (.own k) _;simp only[RL,e]
 | dead x=>show RL c (.own k) _;simp only[RL,e];exact⟨_,_,rfl⟩
theorem aDx (hok:Ok F0 H0 c H){k:Nat}(hk:k<c.h.length):R2 (twC c) (aF7 c.h k) (o7 c k):=by
 have e:c.h[k]? = some (c.h[k]):=aM hk
 have hl:=dP e
 unfold aF7 o7
 rw[e,hl]
 cases ho:c.h[k]with
 | box cs fr =>
   rw[ho]at e
   exact R2.mono (P7 c) _ _ (by have:=SW hok e;unfold o7 at this;rw[e]at this;exact this)
 | dead x =>
   rw[ho]at e
   exact R2.mono (P7 c) _ _ (by have:=SW hok e;unfold o7 at this;rw[e]at this;exact this)
 | lst q t l fr =>
   have h1:(twC c).h[c.h.length+k]? = some (.dead false):=by
    show(twH c.h)[c.h.length+k]? = _
    unfold twH
    rw[o5 (by omega),b8,show c.h.length+k-c.h.length=k by omega,e];rfl
   have h2:(twC c).ρ (c.h.length+k)=c.ρ k:=by
    show(if c.h.length+k<c.h.length then c.ρ (c.h.length+k)else if AA (aP c.h (c.h.length+k-c.h.length))=true then c.ρ (c.h.length+k-c.h.length)else none)=_
    rw[aC (by omega),show c.h.length+k-c.h.length=k by omega,hl,ho];rfl
   show RL (twC c) (.own (c.h.length+k)) _
   simp only[RL,h1,h2]
   exact⟨_,_,rfl⟩
theorem aEO (hok:Ok F0 H0 c H):∀ i,R2 (twC c) (bQ (lS (hdT c.h)) i) (o7 c i):=by
 have key:∀ (vs:List VV) (n:Nat),(∀ k v,vs[k]? = some v->R2 (twC c) v (o7 c (n+k)))->∀ i,R2 (twC c) (bQ (CX (List.range' n vs.length) vs) i) (o7 c i):=by
  intro vs
  induction vs with
  | nil=>intro n _ i;exact trivial
  | cons v vs ih =>
    intro n h i
    show R2 (twC c) (if n=i then v else bQ (CX (List.range' (n+1) vs.length) vs) i) _
    split
    ·rename_i e;subst e;exact h 0 v rfl
    ·exact ih (n+1) (fun k v e=>by have:=h (k+1) v (by rw[List.getElem?_cons_succ];exact e);rwa [show n+1+k=n+(k+1) by omega]) i
 have:=key (hdT c.h) 0 (fun k v e=>by
  unfold hdT at e
  rw[b8]at e
  by_cases hk:k<c.h.length
  ·rw[List.getElem?_range hk]at e
   cases e
   rw[e9]
   exact aDx hok hk
  ·rw[List.getElem?_eq_none_iff.2 (by rw[List.length_range];omega)]at e;cases e)
 intro i
 unfold lS
 rw[List.range_eq_range']
 exact this i
theorem D8 {c3:Ctx}:∀ (h h2:List VO) (vs:List VV) (azz:List Value) (n:Nat),okH h h2 vs n=true->All2 (R2 c3) vs azz->(∀ k o,h2[k]? = some o->c3.h[n+k]? = some o)->∀ (k:Nat) (o:VO),h[k]? = some o->∃ (v:VV) (a:Value) (o':VO),vs[k]? = some v/\azz[k]? = some a/\R2 c3 v a/\c3.h[n+k]? = some o'/\((∃ cs fr,o = .box cs fr/\v = .ptr (n+k) 0/\∃ cs' fr',o' = .box cs' fr')\/(∃ q t l fr,o = .lst q t l fr/\v = .own (n+k)/\((∃ q' l' fr',o' = .lst q' t l' fr')\/∃ x,o' = .dead x)))
 | [],_,_,_,_,_,_,_,k,o,e=>by cases e
 | o1::r,h2,vs,azz,n,hk,hv,hg,k,o,e=>by
   unfold okH at hk
   split at hk
   case h_1=>rename_i e1;cases e1
   case h_2 cs fr r0 cs' fr' r' j vs' e1 =>
    cases e1
    simp only[aH]at hk
    have hj:=Nat.eq_of_beq_eq_true hk.1
    subst hj
    cases hv with
    | cons hv1 hvt =>
    cases k with
    | zero =>
      simp only[List.getElem?_cons_zero,aX]at e
      subst e
      exact⟨_,_,_,rfl,rfl,hv1,hg 0 _ rfl,.inl ⟨_,_,rfl,rfl,_,_,rfl⟩⟩
    | succ k =>
      rw[List.getElem?_cons_succ]at e
      obtain⟨v,a,o',q1,q2,q3,q4,q5⟩:=D8 _ _ _ _ _ hk.2 hvt (fun k o ho=>by rw[show ∀ n:Nat,n+1+k=n+(k+1)from fun n=>by omega];exact hg (k+1) o (by rw[List.getElem?_cons_succ];exact ho)) k o e
      rw[show ∀ n:Nat,n+1+k=n+(k+1)from fun n=>by omega]at q4 q5
      exact⟨v,a,o',by rw[List.getElem?_cons_succ];exact q1,by rw[List.getElem?_cons_succ];exact q2,q3,q4,q5⟩
   case h_3 q t l fr r0 o2 r' j vs' e1 =>
    cases e1
    simp only[aH]at hk
    have hj:=Nat.eq_of_beq_eq_true hk.1.1
    subst hj
    cases hv with
    | cons hv1 hvt =>
    cases k with
    | zero =>
      simp only[List.getElem?_cons_zero,aX]at e
      subst e
      refine⟨_,_,_,rfl,rfl,hv1,hg 0 _ rfl,.inr ⟨_,_,_,_,rfl,rfl,?_⟩⟩
      have ht:=hk.1.2
      split at ht
      ·have:=aFp ht;subst this;exact .inl ⟨_,_,_,rfl⟩
      ·exact .inr ⟨_,rfl⟩
      ·cases ht
    | succ k =>
      rw[List.getElem?_cons_succ]at e
      obtain⟨v,a,o',q1,q2,q3,q4,q5⟩:=D8 _ _ _ _ _ hk.2 hvt (fun k o ho=>by rw[show ∀ n:Nat,n+1+k=n+(k+1)from fun n=>by omega];exact hg (k+1) o (by rw[List.getElem?_cons_succ];exact ho)) k o e
      rw[show ∀ n:Nat,n+1+k=n+(k+1)from fun n=>by omega]at q4 q5
      exact⟨v,a,o',by rw[List.getElem?_cons_succ];exact q1,by rw[List.getElem?_cons_succ];exact q2,q3,q4,q5⟩
   case h_4=>cases hk
theorem aGF {a b:Option Nat}{n m:Nat}(h:sl a n=sl b m):a=b/\n=m:=by
 unfold sl at h
 simp only[Value.slice.injEq]at h
 refine⟨?_,h.2.1⟩
 cases a <;> cases b <;> simp_all
theorem aDt {a b:Option Nat}(h:(a.map fun b=>(⟨b,0,none⟩:Addr))=b.map fun b=>⟨b,0,none⟩):a=b:=by
 cases a <;> cases b <;> simp_all
theorem aC9 {c3:Ctx}(hok:Ok F0 H0 c H){h2:List VO}{vs:List VV}{azz:List Value}(hk:okH c.h h2 vs 0=true)(hh:c3.h=h2)(hv:All2 (R2 c3) vs azz)(ha:∀ k a,azz[k]? = some a->a=o7 c k):W4 c c3:=by
 intro k o e
 obtain⟨v,a,o',q1,q2,q3,q4,q5⟩:=D8 _ _ _ _ 0 hk hv (fun k o ho=>by rw[e9,hh];exact ho) k o e
 rw[e9]at q4 q5
 have ea:=ha k a q2
 subst ea
 unfold o7 at q3
 rw[e]at q3
 rcases q5 with⟨cs,fr,rfl,rfl,cs',fr',rfl⟩|⟨q,t,l,fr,rfl,rfl,q6⟩
 ·obtain⟨b,cs2,fr2,g1,g2,g3⟩:=q3
  refine⟨?_,_,q4,trivial⟩
  obtain⟨b2,_,k1,_⟩:=(hok.obj k _ e).box _ _ rfl
  rw[k1]at g3⊢
  simp only[Option.map_some,Value.pointer.injEq,aX,Addr.mk.injEq]at g3
  rw[g2,g3.1]
 ·have q3:RL c3 (.own k) (sl (c.ρ k) l.length):=q3
  simp only[RL,q4]at q3
  rcases q6 with⟨q',l',fr',rfl⟩|⟨x,rfl⟩
  ·have q3:sl (c.ρ k) l.length=sl (c3.ρ k) l'.length:=q3
   obtain⟨e1,e2⟩:=aGF q3
   exact⟨e1.symm,_,q4,rfl,e2⟩
  ·obtain⟨n,m,e1⟩:=q3
   unfold sl at e1
   simp only[Value.slice.injEq]at e1
   exact⟨(aDt e1.1).symm,_,q4,trivial⟩
end
section
variable {G:Cfg}
theorem RY {ct:Tab}{en:nJ}{f:FuncId}{fn:Func}{cd:Code}{args:List VV}{h:List VO}{Q:QM}
 (hf:G.P.funcs[f]? = some fn) (hb:bod fn=some cd) (hfo:okF f fn cd=true) (hsz:args.length<=fn.ntmps) (htab:NX G ct en cd) (hO:∀ f args Q,G.O f args Q->fH G.P f args Q) (hI:∀ J,G.I=some J->fB G.P J)
 (hv:YE G ct en fn cd args h Q):EL G.P f args h Q:=by
 intro F0 H0 c H fl az hok hh hfl ha
 refine aC5 hf hb hfo (by simp;rw[<- ha.len];exact hsz) ?_
 have hco:bD fn.ntmps cd=true:=by
  have hfo:=HS hfo
  unfold q7 at hfo
  simp only[aH]at hfo
  exact hfo.1.1
 have hres:(fn.results.toList.all fun | .tmp d=>d<fn.ntmps | .cell d _=>d<fn.ntmps)=true:=by
  have hfo:=HS hfo
  unfold q7 at hfo
  simp only[aH]at hfo
  exact hfo.2
 unfold YE at hv
 subst hh
 generalize hn:fn.ntmps=n at *
 let t2:aE:=fun i=>if i<n then start az.toArray i else o7 c (i-n)
 have htok:Tok (twC c) (lS args++wX n (lS (hdT c.h))) t2:=by
  intro i
  rw[M8]
  by_cases hi:i<n
  ·have e2:t2 i=start az.toArray i:=aA hi
   rw[e2]
   have h1:=JY (ha.mono fun v a h=>R2.mono (P7 c) v a h) i
   split
   ·exact h1
   ·rename_i hk
    rw[xF n _ i hi]
    rw[KJ _ _ (Bool.eq_false_iff.2 hk)]at h1
    exact h1
  ·have e2:t2 i=o7 c (i-n):=aC hi
   rw[e2]
   split
   ·rename_i hk
    have:=TO args i hk
    omega
   ·have:=E7 n (lS (hdT c.h)) (i-n)
    rw[show i-n+n=i by omega]at this
    rw[this]
    exact aEO hok (i-n)
 have hr0:qO F0 H0 c.hs (twS (lS args++wX n (lS (hdT c.h))) c.h (twI c.h)) t2 H:=⟨jW (twC c) (twI c.h),rfl,rfl,(aFy hok).clean (Y4 _),fun i=>by
  show R2 _ (bQ (aEB _ _) i) _
  rw[NU]
  exact w9 _ (htok i)⟩
 have he:aEr G H0 c.hs fl:=⟨hO,hfl,hI⟩
 have key:∃ s',qO F0 H0 c.hs s' t2 H/\vwp G ct en cd 1 s' (fun e s2=>match e with
  | .normal | .ret=>GH G s2 fn.results.toList fun vs=>aCB c.h n s2.t vs s2.h Q
  | _=>False):=by
  unfold rK at hv
  split at hv
  ·rename_i E hE
   obtain⟨y,h1,h2⟩:=AN hr0 hv
   exact⟨_,h2,(htab 1 E hE 1 cd rfl y _ h1).it⟩
  ·exact⟨_,hr0,hv⟩
 obtain⟨s',hr',hv'⟩:=key
 have hW:W G.P fl cd t2 H fun e ta' H'=>∃ s2,qO F0 H0 c.hs s2 ta' H'/\(match e with
  | .normal | .ret=>GH G s2 fn.results.toList fun vs=>aCB c.h n s2.t vs s2.h Q
  | _=>False):=MZ (n:=n) he htab cd 1 (aF _) ⟨1,rfl⟩ hco hr' hv' fun e s2 ta' H' h1 h2=>⟨s2,h1,h2⟩
 have hF:=aDP (t:=start az.toArray) hco (fun i hi=>(aA hi).symm) hW
 obtain⟨N,e,t',H',h1,t2',h2,h3,s2,⟨c2,q1,q2⟩,h5⟩:=hF
 refine⟨N,e,t',H',h1,?_⟩
 have fin:(GH G s2 fn.results.toList fun vs=>aCB c.h n s2.t vs s2.h Q)->∃ vs,bV G.P t' H' fn.results.toList=some vs/\∃ vv azz c',Q vv c'.h/\c'.hs=c.hs/\Ok F0 H0 c' H'/\W4 c c'/\All2 (R1 c') vv azz/\iE vs=iE azz:=by
  intro hk
  obtain⟨vs,as2,g1,g2,g3⟩:=uC q2 hk
  unfold aCB at g1
  split at g1
  case h_2=>exact g1.elim
  rename_i hvs
  refine⟨as2,(DC hres h2).trans g3,?_⟩
  unfold aHn aGm at g1
  obtain⟨r1,r2,r3⟩:=q2
  have hall:All2 (R2 c2) ((List.range c.h.length).map (fun k=>bQ s2.t (k+n))++vs) ((List.range c.h.length).map (o7 c)++as2):=by
   refine All2.app ?_ g2
   have:∀ l:List Nat,All2 (R2 c2) (l.map fun k=>bQ s2.t (k+n)) (l.map (o7 c)):=fun l=>by
    induction l with
    | nil=>exact .nil
    | cons k l ih =>
      refine .cons ?_ ih
      have h6:=r3 (k+n)
      rw[h3 (k+n) (by omega)]at h6
      have e2:t2 (k+n)=o7 c k:=by
       show(if k+n<n then _ else o7 c (k+n-n))=o7 c k
       rw[aC (by omega),Nat.add_sub_cancel]
      have h6:R2 c2 (bQ s2.t (k+n)) (t2 (k+n)):=h6
      rw[e2]at h6
      exact h6
   exact this _
  have hnd:=j5 (2*s2.h.length+40) (h:=s2.h) (todo:=((List.range c.h.length).map (fun k=>bQ s2.t (k+n))++vs).flatMap GK) (acc:=[]) List.nodup_nil
  generalize mP (2*s2.h.length+40) s2.h (((List.range c.h.length).map (fun k=>bQ s2.t (k+n))++vs).flatMap GK) []=ids at g1 hnd
  unfold aGw at g1
  split at g1
  case h_2=>exact g1.elim
  rename_i hokh
  have ok3:=r2.clean hnd
  have e3:(jW c2 ids).h=ids.map fun i=>qP ids (aP s2.h i):=by rw[<- r1];rfl
  have a3:All2 (R2 (jW c2 ids)) ((((List.range c.h.length).map (fun k=>bQ s2.t (k+n))++vs)).map (D9 ids)) ((List.range c.h.length).map (o7 c)++as2):=hall.mapL fun v a k=>w9 ids k
  rw[<- e3]at g1 hokh
  have hkept:W4 c (jW c2 ids):=aC9 hok hokh rfl (a3.take c.h.length) (fun k a ha=>by
   rw[List.take_append_of_le_length (by simp)]at ha
   rw[List.getElem?_take]at ha
   split at ha
   ·rename_i hlt
    rw[b8,List.getElem?_range hlt]at ha
    cases ha;rfl
   ·cases ha)
  have a4:=a3.drop c.h.length
  rw[List.drop_append_of_le_length (by simp)]at a4
  have e5:List.drop c.h.length (List.map (o7 c) (List.range c.h.length))=[]:=List.drop_of_length_le (by simp)
  rw[e5,List.nil_append]at a4
  have hvs2:(List.drop c.h.length ((((List.range c.h.length).map (fun k=>bQ s2.t (k+n))++vs)).map (D9 ids))).all r1B=true:=by
   rw[uZ,List.drop_append_of_le_length (by simp),List.drop_of_length_le (by simp),List.nil_append,List.all_map]
   rw[bW]at hvs⊢
   intro v hv
   have:=hvs v hv
   cases v <;> first|exact this|rfl|(simp only[Function.comp,D9,aA8,L4];split <;> rfl)
  exact⟨_,as2,jW c2 ids,g1,q1,ok3,hkept,XI hvs2 a4,rfl⟩
 cases e with
 | normal=>exact fin h5
 | ret=>exact fin h5
 | _=>exact h5.elim
def aGz (x:Lf)(v:VV):Bool :=
 match x,v with
 | .int k,.pl (.int k' _)=>decide (k=k')
 | .bool,.pl (.bool _)=>true
 | .str,.pl (.string _)=>true
 | .flt,.pl (.float .f64 _)=>true
 | .cpx,.pl (.complex .f64 _ _)=>true
 | .fz o t,.fz o' t' _=>(o==o')&&tyB t t'
 | .cst c,v=>I7 c v
 | .fp _ _,.fptr _ _ _ _ _=>true
 | _,_=>false
def aDi:List Lf->List VV->Bool
 | [],[]=>true
 | x::l,v::r=>aGz x v&&aDi l r
 | _,_=>false
def aIO (x:Sh)(v:VV):Bool :=
 match x,v with
 | .lf x,v=>aGz x v
 | .agg l,.agg cs=>aDi l cs
 | .bx l,.bx cs 0=>aDi l cs
 | .fn g _,.fn g' _=>Nat.beq g g'
 | _,_=>false
def aHv:List Sh->List VV->Bool
 | [],[]=>true
 | x::l,v::r=>aIO x v&&aHv l r
 | _,_=>false
def aIT (x:OSh)(v:VO):Bool :=
 match x,v with
 | .box l fr,.box cs fr'=>(fr==fr')&&aDi l cs
 | .lst o t fr,.lst o' t' _ fr'=>(o==o')&&(fr==fr')&&tyB t t'
 | _,_=>false
def aGo:List OSh->List VO->Bool
 | [],[]=>true
 | x::l,v::r=>aIT x v&&aGo l r
 | _,_=>false
structure TbM (P:Program) where
 B:FuncId->Bool
 O:FuncId->List VV->List VO->QM->Prop
 ok:∀ f args h Q,O f args h Q->EL P f args h Q
def TbM.none {P:Program}:TbM P:=⟨fun _=>false,fun _ _ _ _=>False,fun _ _ _ _ h=>h.elim⟩
def TbM.inl {P:Program}(t:TbM P):Inl:=⟨t.B,fun g args s k=>AX (t.O g) args s k,T4⟩
theorem TbM.inl_ok {P:Program}(t:TbM P):fB P t.inl:=⟨aGH t.ok t.B,aB2 t.ok t.B⟩
def TbM.add {P:Program}(t:TbM P)(f0:FuncId)(sh:List Sh)(ob:List OSh){D:jK sh×B4 ob->QM->Prop}(hD:∀ x Q,D x Q->EL P f0 (jS sh x.1) (IU ob x.2) Q):TbM P :=
 ⟨fun f=>Nat.beq f f0||t.B f,fun f args h Q=>match Nat.beq f f0&&aHv sh args&&aGo ob h with
  | true=>unS sh args fun a=>unO ob h fun b=>D (a,b) Q
  | false=>t.O f args h Q,fun f args h Q hq=>by
    split at hq
    ·rename_i e
     simp only[aH]at e
     have:=Nat.eq_of_beq_eq_true e.1.1
     subst this
     obtain⟨a,e1,hq1⟩:=EH hq
     subst e1
     obtain⟨b,e2,hq2⟩:=EP hq1
     subst e2
     exact hD (a,b) Q hq2
    ·exact t.ok f args h Q hq⟩
theorem aED {P:Program}(t:Tb P){tt:TypeId->Option Ty}{I:Option Inl}{hv:Bool}{un:Nat}{f:FuncId}{fn:Func}(hf:P.funcs[f]? = some fn){res:List Nat}{cos:List (Nat×List Co)}{l:List (Nat×Ent)}{sh:List Sh}{ob:List OSh}{D:jK sh×B4 ob->QM->Prop}
 (hI:∀ J,I=some J->fB P J) (htab:SV (t.cfg tt I hv un) (lk l) (L9 (bd fn) res cos) (bd fn) l)
 (h:∀ x (Q:QM),D x Q->∃ R:Prop,R/\(YE (t.cfg tt I hv un) (lk l) (L9 (bd fn) res cos) fn (bd fn) (jS sh x.1) (IU ob x.2) Q)=R)
 (hb:bod fn=some (bd fn)) (ho:okF f fn (bd fn)=true) (hs:Nat.ble sh.length fn.ntmps=true) (x:jK sh×B4 ob) (Q:QM) (hx:D x Q):EL P f (jS sh x.1) (IU ob x.2) Q:=by
 obtain⟨R,h1,e⟩:=h x Q hx
 exact RY (G:=t.cfg tt I hv un) hf hb ho (by rw[DW];exact Nat.le_of_ble_eq_true hs) (aGW htab) t.ok hI (e.symm▸h1)
def TbM.put {P:Program}(m:TbM P)(t:Tb P)(tt:TypeId->Option Ty)(f:FuncId){fn:Func}(hf:P.funcs[f]? = some fn)(res:List Nat)(cos:List (Nat×List Co))(l:List (Nat×Ent))(sh:List Sh)(ob:List OSh)(D:jK sh×B4 ob->QM->Prop)
    (htab:SV (t.cfg tt (some m.inl) false 0) (lk l) (L9 (bd fn) res cos) (bd fn) l)
    (h:∀ x (Q:QM),D x Q->∃ R:Prop,R/\(YE (t.cfg tt (some m.inl) false 0) (lk l) (L9 (bd fn) res cos) fn (bd fn) (jS sh x.1) (IU ob x.2) Q)=R)
    (hb:bod fn=some (bd fn):=by kernel_rfl) (ho:okF f fn (bd fn)=true:=by kernel_rfl) (hs:Nat.ble sh.length fn.ntmps=true:=by kernel_rfl):TbM P :=
 m.add f sh ob (aED t hf (hI1 m.inl_ok) htab h hb ho hs)
end
end Go.Mach

namespace Go.Mach
open Go.Proofs
set_option linter.unusedVariables false
set_option linter.unusedSimpArgs false
theorem qD {f:FuncId}(h3:(Tryz.prog.funcs[f]?.bind fun fn=>(bod fn).map fun c=>okF f fn c)=some false){fl:Nat}{args:Array Value}{H:aD}{r:Value×aD}(h:zA Tryz.prog fl f args H=some r) :
 f9 Tryz.prog 1 fl f args H=some r:=by
 simp only[f9]
 cases h5:Tryz.prog.funcs[f]? with
 | none=>rw[h5]at h3;cases h3
 | some fn =>
   cases h6:bod fn with
   | none=>rw[h5]at h3;simp[h6]at h3
   | some c =>
     rw[h5]at h3
     simp only[Option.bind_some,h6,Option.map_some,aX]at h3
     simp only[h6,h3,Bool.false_and,eK,aS]
     exact h
theorem aBP (P:Program)(fl:Nat)(n:Int)(H:aD)(hb : -9223372036854775808<=n/\n<=9223372036854775807):zA P fl AC #[.int .i64 n] H=some (.string (itoaS n),H):=by
 show IF P fl AC #[.int .i64 n] H=_
 unfold IF
 by_cases hs:BA n=true
 ·have e:lA P fl AC #[.int .i64 n] H=some (.string ⟨⟨X1 n⟩⟩,H):=by
   show(if AC=AC/\BA n=true then _ else _)=_
   rw[aA ⟨rfl,hs⟩]
  rw[e]
  unfold itoaS
  rw[(S0 hs).1]
 ·have e:lA P fl AC #[.int .i64 n] H=none:=by
   show(if AC=AC/\BA n=true then _ else _)=_
   rw[aC (fun k=>hs k.2)]
  rw[e]
  show(if AC=AC/\_/\_ then _ else _)=_
  rw[aA ⟨rfl,hb⟩]
theorem aDU (P:Program)(fl:Nat)(s sep:ByteArray)(H:aD):zA P fl GN #[.string s,.string sep] H=TB P fl GN #[.string s,.string sep] H:=by
 show IF P fl GN #[.string s,.string sep] H=_
 unfold IF
 have e:lA P fl GN #[.string s,.string sep] H=none:=rfl
 rw[e]
theorem ZN (P:Program)(fl:Nat)(s sep:ByteArray)(H:aD)(hb:s.size<4294967281/\1<=sep.size):zA P fl extS #[.string s,.string sep] H=some (iE [Value.slice (some ⟨H.length,0,none⟩) (splitS s sep).length (splitS s sep).length],H++[⟨(splitS s sep).map Value.string,1,false,true⟩]):=by
 show IF P fl extS #[.string s,.string sep] H=_
 unfold IF
 by_cases hs:AB sep=true
 ·have e:lA P fl extS #[.string s,.string sep] H=some (.slice (some ⟨H.length,0,none⟩) (pP s.data.toList).length (pP s.data.toList).length,H++[⟨(pP s.data.toList).map OW,1,false,true⟩]):=by
   show(if extS=extS/\s.size<4294967281/\AB sep=true then _ else none)=_
   rw[aA ⟨rfl,hb.1,hs⟩]
  rw[e]
  obtain⟨c,hsep,hc⟩:∃ c,sep.data.toList=[c]/\c.toNat=32:=by
   unfold AB at hs
   split at hs
   ·exact⟨_,‹_›,Nat.eq_of_beq_eq_true hs⟩
   ·cases hs
  have hsp:splitS s sep=(pP s.data.toList).map fun x=>⟨⟨x⟩⟩:=aHJ hsep hc s
  rw[hsp,List.map_map,e8]
  rfl
 ·have e:lA P fl extS #[.string s,.string sep] H=none:=by
   show(if extS=extS/\s.size<4294967281/\AB sep=true then _ else none)=_
   rw[aC (fun k=>hs k.2.2)]
  rw[e]
  have hne : ¬ (extS=GN/\s.size<4294967281):=fun k=>absurd k.1 (by decide)
  show TB P fl extS #[.string s,.string sep] H=_
  unfold TB
  simp only[aC hne]
  rw[aA ⟨trivial,hb⟩]
  rfl
theorem awake_snd (Q:List (Bool×List VV)->Prop)(hb:True)(h:Q [(false,[.pl (.bool true)])]):fH Tryz.prog aEN [] Q:=by
 intro F fl H az hF hfl ha
 cases ha
 refine⟨1,_,_,qD (by kernel_rfl) (show zA Tryz.prog fl aEN #[] H=some (iE [Value.bool true],H)from rfl),_,h,.inl ⟨sR F H tP,[],[.bool true],yH F H tP hF,(XS.one (is:=[]) (XR.pl rfl XR.nil) XS.nil).toZ,List.nodup_nil,rfl⟩⟩
theorem itoa_snd (n:Int)(Q:List (Bool×List VV)->Prop)(hb : -9223372036854775808<=n/\n<=9223372036854775807)(h:Q [(false,[.pl (.string (itoaS n))])]) :
 fH Tryz.prog AC [.pl (.int .i64 n)] Q:=by
 intro F fl H az hF hfl ha
 cases ha with
 | cons h1 ht =>
 cases ht
 obtain⟨rfl,_⟩:=h1
 refine⟨1,_,_,qD (by kernel_rfl) (show zA Tryz.prog fl AC #[.int .i64 n] H=some (iE [Value.string (itoaS n)],H)from aBP _ _ n H hb),_,h,.inl ⟨sR F H tP,[],[.string (itoaS n)],yH F H tP hF,(XS.one (is:=[]) (XR.pl rfl XR.nil) XS.nil).toZ,List.nodup_nil,rfl⟩⟩
theorem atoi_snd (s:ByteArray)(Q:List (Bool×List VV)->Prop)(hb:s.size<=281474976710656)(h:Q [(false,[.pl (.int .i64 (atoiS s).1)]),(false,[.er (atoiS s).2])]) :
 fH Tryz.prog VF [.pl (.string s)] Q:=by
 intro F fl H az hF hfl ha
 cases ha with
 | cons h1 ht =>
 cases ht
 obtain⟨rfl,_⟩:=h1
 cases hs:atoiS s with
 | mk v b =>
 rw[hs]at h
 cases b with
 | true =>
   refine⟨1,_,_,qD (by kernel_rfl) (show(if VF=VF/\_ then _ else _)=some (iE [Value.int .i64 v,.nilIface],H)from by rw[aA ⟨rfl,hb⟩,hs];rfl),_,h,.inl ⟨sR F H tP,[],[.int .i64 v,.nilIface],yH F H tP hF,
    (XS.one (is:=[]) (XR.pl rfl XR.nil) (XS.one (is:=[]) (XR.er (.inl ⟨rfl,rfl⟩) XR.nil) XS.nil)).toZ,List.nodup_nil,rfl⟩⟩
 | false =>
   refine⟨1,_,_,qD (by kernel_rfl) (show(if VF=VF/\_ then _ else _)=some (iE [Value.int .i64 v,.iface aAN (.pointer (some ⟨H.length,0,none⟩))],H++[⟨[],0,false,true⟩])from by rw[aA ⟨rfl,hb⟩,hs];rfl),_,h,
    .inl ⟨sR F H tP,[],[.int .i64 v,.iface aAN (.pointer (some ⟨H.length,0,none⟩))],?_,
    (XS.one (is:=[]) (XR.pl rfl XR.nil) (XS.one (is:=[]) (XR.er (.inr ⟨rfl,_,_,rfl⟩) XR.nil) XS.nil)).toZ,List.nodup_nil,rfl⟩⟩
   exact⟨rfl,(PreB.refl H).trans (Pre.push _ _),fun b B hB=>(Pre.push H _).blk (hF _ _ hB),fun _ _=>rfl,fun i o hi=>(by simp[sR]at hi),fun i j b _ hi=>(by cases hi),fun i j b _ _ hi=>(by cases hi),fun _ _=>rfl⟩
theorem cut_snd (s sep:ByteArray)(Q:List (Bool×List VV)->Prop)(hb:s.size<4294967281)(h:Q [(false,[.pl (.string (cutS s sep).1)]),(false,[.pl (.string (cutS s sep).2.1)]),(false,[.pl (.bool (cutS s sep).2.2)])]) :
 fH Tryz.prog GN [.pl (.string s),.pl (.string sep)] Q:=by
 intro F fl H az hF hfl ha
 cases ha with
 | cons h1 ht =>
 cases ht with
 | cons h2 ht =>
 cases ht
 obtain⟨rfl,_⟩:=h1
 obtain⟨rfl,_⟩:=h2
 refine⟨1,_,_,qD (by kernel_rfl) (show zA Tryz.prog fl GN #[.string s,.string sep] H=some (iE [Value.string (cutS s sep).1,.string (cutS s sep).2.1,.bool (cutS s sep).2.2],H)from by rw[aDU];show(if GN=GN/\_ then _ else _)=_;rw[aA ⟨rfl,hb⟩];rfl),_,h,
  .inl ⟨sR F H tP,[],[.string (cutS s sep).1,.string (cutS s sep).2.1,.bool (cutS s sep).2.2],yH F H tP hF,
  (XS.one (is:=[]) (XR.pl rfl XR.nil) (XS.one (is:=[]) (XR.pl rfl XR.nil) (XS.one (is:=[]) (XR.pl rfl XR.nil) XS.nil))).toZ,List.nodup_nil,rfl⟩⟩
theorem split_snd (s sep:ByteArray)(Q:List (Bool×List VV)->Prop)(hb:s.size<4294967281/\1<=sep.size)(h:Q [(false,[.nw .str (splitS s sep)])]) :
 fH Tryz.prog extS [.pl (.string s),.pl (.string sep)] Q:=by
 intro F fl H az hF hfl ha
 cases ha with
 | cons h1 ht =>
 cases ht with
 | cons h2 ht =>
 cases ht
 obtain⟨rfl,_⟩:=h1
 obtain⟨rfl,_⟩:=h2
 have hne : ¬ (extS=GN/\s.size<4294967281):=fun k=>absurd k.1 (by decide)
 have hrc:∀ (F:Fz) (l:List ByteArray),RC F .str l (l.map Value.string):=by
  intro F l
  induction l with
  | nil=>exact RC.nil F .str
  | cons x l ih=>exact RC.cons (t := .str) (x:=x) (cs:=[.string x]) rfl ih
 have key:=ZN Tryz.prog fl s sep H hb
 refine⟨1,_,_,qD (by kernel_rfl) key,_,h,.inl ⟨mI (sR F H tP) (some H.length) (.lst true .str (splitS s sep) false),[0],[Value.slice (some ⟨H.length,0,none⟩) (splitS s sep).length (splitS s sep).length],?_,?_,by simp,rfl⟩⟩
 ·exact(yH F H tP hF).addLst (ex:=false) (Pre.push _ _) (aF _) (rY H _ rfl) (hrc _ _)
 ·refine(XS.one (is:=[0]) ?_ XS.nil).toZ
  exact XR.nw (T := .str) (x:=splitS s sep) (i:=0) rfl XR.nil
end Go.Mach

namespace Go.Proofs.YtpigepmgheabhaaGreatDoor
open IntKind (i8 i16 i32 i64 u8 u16 u32 u64)
open Go.Mach
set_option maxRecDepth 100000
set_option linter.unusedVariables false
noncomputable section
abbrev TT7:Ty:=(.pair (.int .i64) (.pair (.int .i64) (.pair .bool (.int .u8))))
abbrev aHI:Ty:=(.pair .str (.int .u64))
abbrev aF1:Ty:=(.pair (.pair (.int .i64) (.pair (.int .i64) (.int .i64))) (.slc (.pair (.int .i64) (.pair (.int .i64) (.pair (.int .i64) (.pair (.int .i64) (.pair (.int .i64) (.pair (.int .i64) .bool))))))))
abbrev aFg:Type:=(Int×Int×Int)×List (Int×Int×Int×Int×Int×Int×Bool)
abbrev aGC:Ty:=(.pair (.pair (.int .i64) (.pair (.int .i64) (.int .i64))) (.pair (.int .i64) (.pair (.int .i64) (.slc (.pair (.slc dJ) (.int .i64))))))
abbrev Y5:Type:=(Int×Int×Int)×Int×Int×List ((List Int)×Int)
abbrev aFB:Ty:=(.pair (.int .u64) (.pair (.int .i64) (.slc (.pair (.pair (.slc cE) (.pair (.int .i64) (.slc dJ))) (.pair (.slc kW) (.pair (.slc cE) (.pair (.int .i64) (.slc dJ))))))))
abbrev aFm:Type:=Int×Int×List (((List Int)×Int×List Int)×(List Int)×(List Int)×Int×List Int)
abbrev LR:Ty:=(.pair (.int .i64) (.pair (.int .i64) (.pair (.int .i64) (.pair (.int .i64) (.pair (.int .i64) (.pair (.int .i64) .bool))))))
abbrev vQ:Type:=Int×Int×Int×Int×Int×Int×Bool
abbrev nR:Ty:=(.pair (.slc dJ) (.int .i64))
abbrev kX:Type:=(List Int)×Int
abbrev Y1:Ty:=(.pair (.slc cE) (.pair (.int .i64) (.slc dJ)))
abbrev aDB:Type:=(List Int)×Int×List Int
abbrev pM:Ty:=(.pair Y1 (.pair (.slc kW) Y1))
abbrev pC:Type:=aDB×(List Int)×aDB
abbrev OD:Ty:=(.pair (.int .i64) (.pair (.int .i64) (.pair (.int .i64) (.pair (.int .i64) (.pair (.int .i64) (.int .i64))))))
abbrev aEY:Ty:=(.pair (.slc .str) .bool)
abbrev aAj:Ty:=(.pair .str (.slc cE))
abbrev aGb:Type:=ByteArray×List Int
abbrev aEd:Ty:=(.pair (.slc (.int .u8)) (.int .i64))
abbrev aEe:Ty:=(.pair (.int .i64) (.pair (.int .i64) (.slc (.int .u8))))
abbrev aEV:Ty:=(.pair (.slc (.pair (.int .u8) (.pair (.int .u8) (.pair (.int .u8) (.pair (.int .u8) (.pair (.int .u8) (.pair (.int .u8) (.pair (.int .u8) (.pair (.int .u8) (.pair (.int .u8) (.pair (.int .u8) (.pair (.int .u8) (.pair (.int .u8) (.pair (.int .u8) (.pair (.int .u8) (.pair (.int .u8) (.pair (.int .u8) (.pair (.int .u8) (.pair (.int .u8) (.pair (.int .u8) (.pair (.int .u8) (.pair (.int .u8) (.pair (.int .u8) (.pair (.int .u8) (.pair (.int .u8) (.pair (.int .u8) (.pair (.int .u8) (.pair (.int .u8) (.pair (.int .u8) (.pair (.int .u8) (.pair (.int .u8) (.pair (.int .u8) (.pair (.int .u8) (.pair (.int .u8) (.pair (.int .u8) (.pair (.int .u8) (.pair (.int .u8) (.pair (.int .u8) (.pair (.int .u8) (.pair (.int .u8) (.pair (.int .u8) (.pair (.int .u8) (.pair (.int .u8) (.pair (.int .u8) (.pair (.int .u8) (.pair (.int .u8) (.pair (.int .u8) (.pair (.int .u8) (.pair (.int .u8) (.pair (.int .u8) (.pair (.int .u8) (.pair (.int .u8) (.pair (.int .u8) (.pair (.int .u8) (.pair (.int .u8) (.pair (.int .u8) (.pair (.int .u8) (.pair (.int .u8) (.pair (.int .u8) (.pair (.int .u8) (.pair (.int .u8) (.pair (.int .u8) (.pair (.int .u8) (.pair (.int .u8) (.int .u8))))))))))))))))))))))))))))))))))))))))))))))))))))))))))))))))) (.pair (.slc (.pair (.int .u8) (.pair (.int .u8) (.pair (.int .u8) (.pair (.int .u8) (.pair (.int .u8) (.pair (.int .u8) (.pair (.int .u8) (.pair (.int .u8) (.pair (.int .u8) (.pair (.int .u8) (.pair (.int .u8) (.pair (.int .u8) (.pair (.int .u8) (.pair (.int .u8) (.pair (.int .u8) (.pair (.int .u8) (.pair (.int .u8) (.pair (.int .u8) (.pair (.int .u8) (.pair (.int .u8) (.pair (.int .u8) (.pair (.int .u8) (.pair (.int .u8) (.pair (.int .u8) (.pair (.int .u8) (.pair (.int .u8) (.pair (.int .u8) (.pair (.int .u8) (.pair (.int .u8) (.pair (.int .u8) (.pair (.int .u8) (.pair (.int .u8) (.pair (.int .u8) (.pair (.int .u8) (.pair (.int .u8) (.pair (.int .u8) (.pair (.int .u8) (.pair (.int .u8) (.pair (.int .u8) (.pair (.int .u8) (.pair (.int .u8) (.pair (.int .u8) (.pair (.int .u8) (.pair (.int .u8) (.pair (.int .u8) (.pair (.int .u8) (.pair (.int .u8) (.pair (.int .u8) (.pair (.int .u8) (.pair (.int .u8) (.pair (.int .u8) (.pair (.int .u8) (.pair (.int .u8) (.pair (.int .u8) (.pair (.int .u8) (.pair (.int .u8) (.pair (.int .u8) (.pair (.int .u8) (.pair (.int .u8) (.pair (.int .u8) (.pair (.int .u8) (.pair (.int .u8) (.pair (.int .u8) (.int .u8))))))))))))))))))))))))))))))))))))))))))))))))))))))))))))))))) (.pair (.slc (.pair (.int .i64) (.pair (.int .u8) (.pair (.int .u8) (.pair (.int .u8) (.pair (.int .u8) (.pair (.int .u8) (.pair (.int .u8) (.pair (.int .u8) (.pair (.int .u8) (.pair (.int .u8) (.pair (.int .u8) (.pair (.int .u8) (.pair (.int .u8) (.pair (.int .u8) (.pair (.int .u8) (.pair (.int .u8) (.pair (.int .u8) (.pair (.int .u8) (.pair (.int .u8) (.pair (.int .u8) (.pair (.int .u8) (.pair (.int .u8) (.pair (.int .u8) (.pair (.int .u8) (.pair (.int .u8) (.pair (.int .u8) (.pair (.int .u8) (.pair (.int .u8) (.pair (.int .u8) (.pair (.int .u8) (.pair (.int .u8) (.pair (.int .u8) (.pair (.int .u8) (.pair (.int .u8) (.pair (.int .u8) (.pair (.int .u8) (.pair (.int .u8) (.pair (.int .u8) (.pair (.int .u8) (.pair (.int .u8) (.pair (.int .u8) (.pair (.int .u8) (.pair (.int .u8) (.pair (.int .u8) (.pair (.int .u8) (.pair (.int .u8) (.pair (.int .u8) (.pair (.int .u8) (.pair (.int .u8) (.pair (.int .u8) (.pair (.int .u8) (.pair (.int .u8) (.pair (.int .u8) (.pair (.int .u8) (.pair (.int .u8) (.pair (.int .u8) (.pair (.int .u8) (.pair (.int .u8) (.pair (.int .u8) (.pair (.int .u8) (.pair (.int .u8) (.pair (.int .u8) (.pair (.int .u8) (.pair (.int .u8) (.int .u8)))))))))))))))))))))))))))))))))))))))))))))))))))))))))))))))))) (.pair (.int .i64) (.pair (.int .i64) .bool)))))
abbrev jH:Ty:=(.pair (.int .u8) (.int .u8))
abbrev aBr:Ty:=(.pair (.int .i64) (.pair (.int .u8) (.pair (.int .u8) (.pair (.int .u8) (.pair (.int .u8) (.pair (.int .u8) (.pair (.int .u8) (.pair (.int .u8) (.pair (.int .u8) (.pair (.int .u8) (.pair (.int .u8) (.pair (.int .u8) (.pair (.int .u8) (.pair (.int .u8) (.pair (.int .u8) (.pair (.int .u8) (.pair (.int .u8) (.pair (.int .u8) (.pair (.int .u8) (.pair (.int .u8) (.pair (.int .u8) (.pair (.int .u8) (.pair (.int .u8) (.pair (.int .u8) (.pair (.int .u8) (.pair (.int .u8) (.pair (.int .u8) (.pair (.int .u8) (.pair (.int .u8) (.pair (.int .u8) (.pair (.int .u8) (.pair (.int .u8) (.pair (.int .u8) (.pair (.int .u8) (.pair (.int .u8) (.pair (.int .u8) (.pair (.int .u8) (.pair (.int .u8) (.pair (.int .u8) (.pair (.int .u8) (.pair (.int .u8) (.pair (.int .u8) (.pair (.int .u8) (.pair (.int .u8) (.pair (.int .u8) (.pair (.int .u8) (.pair (.int .u8) (.pair (.int .u8) (.pair (.int .u8) (.pair (.int .u8) (.pair (.int .u8) (.pair (.int .u8) (.pair (.int .u8) (.pair (.int .u8) (.pair (.int .u8) (.pair (.int .u8) (.pair (.int .u8) (.pair (.int .u8) (.pair (.int .u8) (.pair (.int .u8) (.pair (.int .u8) (.pair (.int .u8) (.pair (.int .u8) jH)))))))))))))))))))))))))))))))))))))))))))))))))))))))))))))))
abbrev aEg:Ty:=(.pair (.slc Y1) (.slc (.slc cE)))
abbrev YF:Ty:=(.pair (.slc cE) (.pair (.int .i64) (.slc kW)))
abbrev aCT:Ty:=(.pair .bool (.pair YF YF))
abbrev aEk:Ty:=(.pair OD (.pair (.int .u64) (.pair (.int .i64) (.int .i64))))
abbrev aEl:Ty:=(.pair (.int .i64) OD)
abbrev OO:Ty:=(.pair (.int .i64) (.pair (.int .i64) (.int .i64)))
abbrev aE5:Type:=Int×Int×Int
abbrev aCD:Ty:=(.pair (.int .i64) (.pair (.int .i64) OO))
noncomputable def tt:TypeId->Option Ty:=fun t=>match t with
 | 2=>some (.int .i64)
 | 3=>some (.int .i64)
 | 4=>some .bool
 | 5=>some (.int .u8)
 | 6=>some (.int .u8)
 | 7=>some TT7
 | 8=>some TT7
 | 9=>some .str
 | 10=>some .str
 | 11=>some .str
 | 12=>some (.int .u64)
 | 13=>some aHI
 | 14=>some aHI
 | 21=>some (.int .i32)
 | 22=>some (.slc (.int .u8))
 | 24=>some OO
 | 25=>some (.slc LR)
 | 26=>some aF1
 | 27=>some aF1
 | 28=>some (.int .i64)
 | 33=>some (.slc nR)
 | 34=>some aGC
 | 35=>some aGC
 | 40=>some (.int .u64)
 | 41=>some (.slc pM)
 | 42=>some aFB
 | 43=>some aFB
 | 51=>some LR
 | 52=>some LR
 | 62=>some (.slc cE)
 | 68=>some (.int .i8)
 | 71=>some (.slc dJ)
 | 72=>some nR
 | 73=>some nR
 | 78=>some (.slc (.int .u8))
 | 79=>some (.slc (.int .u8))
 | 81=>some aCD
 | 89=>some (.int .u32)
 | 91=>some Y1
 | 92=>some Y1
 | 93=>some (.slc kW)
 | 94=>some pM
 | 95=>some pM
 | 102=>some OD
 | 103=>some OD
 | 112=>some (.slc .str)
 | 118=>some aEY
 | 119=>some aEY
 | 120=>some aAj
 | 121=>some aAj
 | 132=>some aEd
 | 133=>some aEd
 | 162=>some aEe
 | 163=>some aEe
 | 172=>some (.int .u64)
 | 184=>some (.slc (.slc cE))
 | 190=>some (.slc (.pair (.int .u8) (.pair (.int .u8) (.pair (.int .u8) (.pair (.int .u8) (.pair (.int .u8) (.pair (.int .u8) (.pair (.int .u8) (.pair (.int .u8) (.pair (.int .u8) (.pair (.int .u8) (.pair (.int .u8) (.pair (.int .u8) (.pair (.int .u8) (.pair (.int .u8) (.pair (.int .u8) (.pair (.int .u8) (.pair (.int .u8) (.pair (.int .u8) (.pair (.int .u8) (.pair (.int .u8) (.pair (.int .u8) (.pair (.int .u8) (.pair (.int .u8) (.pair (.int .u8) (.pair (.int .u8) (.pair (.int .u8) (.pair (.int .u8) (.pair (.int .u8) (.pair (.int .u8) (.pair (.int .u8) (.pair (.int .u8) (.pair (.int .u8) (.pair (.int .u8) (.pair (.int .u8) (.pair (.int .u8) (.pair (.int .u8) (.pair (.int .u8) (.pair (.int .u8) (.pair (.int .u8) (.pair (.int .u8) (.pair (.int .u8) (.pair (.int .u8) (.pair (.int .u8) (.pair (.int .u8) (.pair (.int .u8) (.pair (.int .u8) (.pair (.int .u8) (.pair (.int .u8) (.pair (.int .u8) (.pair (.int .u8) (.pair (.int .u8) (.pair (.int .u8) (.pair (.int .u8) (.pair (.int .u8) (.pair (.int .u8) (.pair (.int .u8) (.pair (.int .u8) (.pair (.int .u8) (.pair (.int .u8) (.pair (.int .u8) (.pair (.int .u8) (.pair (.int .u8) jH)))))))))))))))))))))))))))))))))))))))))))))))))))))))))))))))
 | 191=>some (.slc aBr)
 | 192=>some aEV
 | 193=>some aEV
 | 237=>some (.int .i64)
 | 241=>some (.pair (.int .u8) (.pair (.int .u8) (.pair (.int .u8) (.pair (.int .u8) (.pair (.int .u8) (.pair (.int .u8) (.pair (.int .u8) (.pair (.int .u8) (.pair (.int .u8) (.pair (.int .u8) (.pair (.int .u8) (.pair (.int .u8) (.pair (.int .u8) (.pair (.int .u8) (.pair (.int .u8) (.pair (.int .u8) (.pair (.int .u8) (.pair (.int .u8) (.pair (.int .u8) (.pair (.int .u8) (.pair (.int .u8) (.pair (.int .u8) jH))))))))))))))))))))))
 | 254=>some (.pair (.int .u8) (.pair (.int .u8) (.pair (.int .u8) (.pair (.int .u8) (.pair (.int .u8) (.pair (.int .u8) (.pair (.int .u8) (.pair (.int .u8) (.pair (.int .u8) (.pair (.int .u8) (.pair (.int .u8) (.pair (.int .u8) (.pair (.int .u8) (.pair (.int .u8) (.pair (.int .u8) (.pair (.int .u8) (.pair (.int .u8) (.pair (.int .u8) (.pair (.int .u8) (.pair (.int .u8) (.pair (.int .u8) (.pair (.int .u8) (.pair (.int .u8) (.pair (.int .u8) (.pair (.int .u8) (.pair (.int .u8) (.pair (.int .u8) (.pair (.int .u8) (.pair (.int .u8) (.pair (.int .u8) (.pair (.int .u8) (.pair (.int .u8) (.pair (.int .u8) (.pair (.int .u8) (.pair (.int .u8) (.pair (.int .u8) (.pair (.int .u8) (.pair (.int .u8) (.pair (.int .u8) (.pair (.int .u8) (.pair (.int .u8) (.pair (.int .u8) (.pair (.int .u8) (.pair (.int .u8) (.pair (.int .u8) (.pair (.int .u8) (.pair (.int .u8) (.pair (.int .u8) (.pair (.int .u8) (.pair (.int .u8) (.pair (.int .u8) (.pair (.int .u8) (.pair (.int .u8) (.pair (.int .u8) (.pair (.int .u8) (.pair (.int .u8) (.pair (.int .u8) (.pair (.int .u8) (.pair (.int .u8) (.pair (.int .u8) (.pair (.int .u8) (.pair (.int .u8) jH))))))))))))))))))))))))))))))))))))))))))))))))))))))))))))))
 | 255=>some (.pair (.int .u8) (.pair (.int .u8) (.pair (.int .u8) (.pair (.int .u8) (.pair (.int .u8) (.pair (.int .u8) (.pair (.int .u8) (.pair (.int .u8) (.pair (.int .u8) (.pair (.int .u8) (.pair (.int .u8) (.pair (.int .u8) (.pair (.int .u8) (.pair (.int .u8) (.pair (.int .u8) (.pair (.int .u8) (.pair (.int .u8) (.pair (.int .u8) (.pair (.int .u8) (.pair (.int .u8) (.pair (.int .u8) (.pair (.int .u8) (.pair (.int .u8) (.pair (.int .u8) (.pair (.int .u8) (.pair (.int .u8) (.pair (.int .u8) (.pair (.int .u8) (.pair (.int .u8) (.pair (.int .u8) (.pair (.int .u8) (.pair (.int .u8) (.pair (.int .u8) (.pair (.int .u8) (.pair (.int .u8) (.pair (.int .u8) (.pair (.int .u8) (.pair (.int .u8) (.pair (.int .u8) (.pair (.int .u8) (.pair (.int .u8) (.pair (.int .u8) (.pair (.int .u8) (.pair (.int .u8) (.pair (.int .u8) (.pair (.int .u8) (.pair (.int .u8) (.pair (.int .u8) (.pair (.int .u8) (.pair (.int .u8) (.pair (.int .u8) (.pair (.int .u8) (.pair (.int .u8) (.pair (.int .u8) (.pair (.int .u8) (.pair (.int .u8) (.pair (.int .u8) (.pair (.int .u8) (.pair (.int .u8) (.pair (.int .u8) (.pair (.int .u8) (.pair (.int .u8) jH))))))))))))))))))))))))))))))))))))))))))))))))))))))))))))))
 | 275=>some (.pair (.int .u64) (.pair (.int .u64) (.pair (.int .u64) (.pair (.int .u64) (.pair (.int .u64) (.pair (.int .u64) (.pair (.int .u64) (.pair (.int .u64) (.pair (.int .u64) (.pair (.int .u64) (.pair (.int .u64) (.pair (.int .u64) (.pair (.int .u64) (.pair (.int .u64) (.pair (.int .u64) (.pair (.int .u64) (.pair (.int .u64) (.pair (.int .u64) (.pair (.int .u64) (.int .u64))))))))))))))))))))
 | 280=>some jH
 | 281=>some jH
 | 282=>some (.pair jH (.pair jH (.pair jH (.pair jH (.pair jH (.pair jH (.pair jH (.pair jH (.pair jH (.pair jH (.pair jH (.pair jH (.pair jH (.pair jH (.pair jH jH)))))))))))))))
 | 285=>some aBr
 | 286=>some aBr
 | 288=>some (.slc Y1)
 | 289=>some aEg
 | 290=>some aEg
 | 294=>some (.slc aCT)
 | 301=>some (.slc (.slc dJ))
 | 309=>some .str
 | 310=>some .str
 | 324=>some YF
 | 325=>some YF
 | 326=>some aCT
 | 327=>some aCT
 | 336=>some (.pair (.int .u8) (.pair (.int .u8) (.pair (.int .u8) (.pair (.int .u8) (.pair (.int .u8) (.pair (.int .u8) (.pair (.int .u8) (.pair (.int .u8) (.pair (.int .u8) (.pair (.int .u8) (.pair (.int .u8) (.pair (.int .u8) (.pair (.int .u8) (.pair (.int .u8) (.pair (.int .u8) (.pair (.int .u8) (.pair (.int .u8) (.pair (.int .u8) (.pair (.int .u8) (.pair (.int .u8) (.pair (.int .u8) (.pair (.int .u8) (.pair (.int .u8) (.pair (.int .u8) (.pair (.int .u8) (.pair (.int .u8) (.pair (.int .u8) (.pair (.int .u8) (.pair (.int .u8) (.pair (.int .u8) jH))))))))))))))))))))))))))))))
 | 350=>some aEk
 | 351=>some aEk
 | 369=>some OD
 | 370=>some OD
 | 386=>some (.slc cE)
 | 395=>some aEl
 | 396=>some aEl
 | 400=>some (.slc OO)
 | 402=>some OO
 | 403=>some OO
 | 409=>some aCD
 | 410=>some aCD
 | 413=>some .cpx
 | 417=>some .flt
 | 424=>some (.int .u8)
 | 425=>some (.int .u8)
 | 427=>some (.int .i32)
 | 428=>some (.int .i32)
 | _=>none
noncomputable def T__:Tb Tryz.prog:=Tb.none
noncomputable def aI5:TbM Tryz.prog:=TbM.none
structure iP (a0 a1 a2:Int)(Q:Bool->Prop):Prop where
 it:Q ((decide (a1<=a0))&&(decide (a0<=a2)))
def V6:=T__.put tt 52 Tryz.func52 [6] [] [] [sI,sI,sI] [] [(false,.bool)] (fun x=>iP x.1 x.2.1 x.2.2.1) trivial fun _ _ h=>⟨_,h.it,by kernel_rfl⟩
structure pO (a0:aE5)(Q:Bool->Prop):Prop where
 it:iP a0.1 1 8 (fun r1=>jn (fun v2=>jn (fun v5=>Q v5) (fun J6=>if v2=true then iP a0.2.2 1 16 (fun r7=>J6 r7)else J6 false)) (fun J3=>if r1=true then iP a0.2.1 1 16 (fun r4=>J3 r4)else J3 false))
def JV:=V6.put tt 50 Tryz.func50 [2] [] [] [.agg [lI,lI,lI]] [] [(false,.bool)] (fun x=>pO (x.1.1,(x.1.2.1,x.1.2.2.1))) trivial fun _ _ h=>⟨_,h.it,by kernel_rfl⟩
structure pX (a0:vQ)(Q:Bool->Prop):Prop where
 it:iP a0.2.2.1 1 5 (fun r1=>jn (fun v2=>Q v2) (fun J3=>if r1=true then iP a0.2.2.2.1 1 4 (fun r4=>J3 r4)else J3 false))
def IC:=JV.put tt 53 Tryz.func53 [2] [] [] [.agg [lI,lI,lI,lI,lI,lI,lB]] [] [(false,.bool)] (fun x=>pX (x.1.1,(x.1.2.1,(x.1.2.2.1,(x.1.2.2.2.1,(x.1.2.2.2.2.1,(x.1.2.2.2.2.2.1,x.1.2.2.2.2.2.2.1))))))) trivial fun _ _ h=>⟨_,h.it,by kernel_rfl⟩
structure kA  (K0:Unit->Prop):Prop where
 it:K0 ()
structure uS (x0:Int)(x1:Bool)(x2:Int)(x3:Bool)(x9 x16:Int)(K0:(Bool×Int)->Prop):Prop where
 it:if x3=true then K0 (x1,x16)else if (x2==7)=true then iP x9 0 (i64.wrap (x0-1)) (fun r12=>K0 (r12,x9))else K0 (false,x16)
structure uI (x0:Int)(x1:Bool)(x2:Int)(x3:Bool)(x4 x5 x6 x7 x8 x9:Int)(x10:Bool)(x13 x14 x16:Int)(K0:(Bool×Int×Int×Int)->Prop):Prop where
 it:if x3=true then pX (x4,(x5,(x6,(x7,(x8,(x9,x10)))))) (fun r11=>K0 (r11,x6,x7,x16))else if (x2==5)=true then uS x0 x1 x2 (x2==5) x9 x16 (fun y12=>K0 (y12.1,x13,x14,y12.2))else uS x0 x1 x2 (x2==6) x9 x16 (fun y13=>K0 (y13.1,x13,x14,y13.2))
structure xX (a0:vQ)(a1:Int)(Q:Bool->Prop):Prop where
 it:if (a0.1==1)=true then iP a0.2.1 1 4096 (fun r1=>kA (fun _=>Q (r1&&((a0.1==a0.1)&&((a0.2.1==a0.2.1)&&((a0.2.2.1==0)&&((a0.2.2.2.1==0)&&((a0.2.2.2.2.1==0)&&((a0.2.2.2.2.2.1==0)&&((a0.2.2.2.2.2.2==a0.2.2.2.2.2.2)&&(true)))))))))))else if (a0.1==2)=true then iP a0.2.1 1 8 (fun r3=>jn (fun v4=>jn (fun v7=>kA (fun _=>Q (v7&&((a0.1==a0.1)&&((a0.2.1==a0.2.1)&&((a0.2.2.1==a0.2.2.1)&&((a0.2.2.2.1==a0.2.2.2.1)&&((a0.2.2.2.2.1==a0.2.2.2.2.1)&&((a0.2.2.2.2.2.1==0)&&((a0.2.2.2.2.2.2==a0.2.2.2.2.2.2)&&(true))))))))))) (fun J8=>if v4=true then iP a0.2.2.2.2.1 0 (i64.wrap (a0.2.2.1-1)) (fun r9=>J8 r9)else J8 false)) (fun J5=>if r3=true then pX a0 (fun r6=>J5 r6)else J5 false))else if (a0.1==3)=true then uI a1 true a0.1 (a0.1==3) a0.1 a0.2.1 a0.2.2.1 a0.2.2.2.1 a0.2.2.2.2.1 a0.2.2.2.2.2.1 a0.2.2.2.2.2.2 0 0 0 (fun y14=>kA (fun _=>Q (y14.1&&((a0.1==a0.1)&&((a0.2.1==0)&&((a0.2.2.1==y14.2.1)&&((a0.2.2.2.1==y14.2.2.1)&&((a0.2.2.2.2.1==0)&&((a0.2.2.2.2.2.1==y14.2.2.2)&&((a0.2.2.2.2.2.2==false)&&(true)))))))))))else uI a1 true a0.1 (a0.1==4) a0.1 a0.2.1 a0.2.2.1 a0.2.2.2.1 a0.2.2.2.2.1 a0.2.2.2.2.2.1 a0.2.2.2.2.2.2 0 0 0 (fun y16=>kA (fun _=>Q (y16.1&&((a0.1==a0.1)&&((a0.2.1==0)&&((a0.2.2.1==y16.2.1)&&((a0.2.2.2.1==y16.2.2.1)&&((a0.2.2.2.2.1==0)&&((a0.2.2.2.2.2.1==y16.2.2.2)&&((a0.2.2.2.2.2.2==false)&&(true)))))))))))
def PP:Ent:=⟨[2,5,6],[sPt 0,sPt 1,sB],[.box [lI,lI,lI,lI,lI,lI,lB] false,.box [lI,lI,lI,lI,lI,lI,lB] false],fun⟨⟨_,_,a,_⟩,⟨⟨b,c,d,e,f,g,i,_⟩,⟨j,l,m,n,o,p,q,_⟩,_⟩⟩ k=>kA (fun _=>k .ret ⟨[(4,vB (a&&((b==j)&&((c==l)&&((d==m)&&((e==n)&&((f==o)&&((g==p)&&((i==q)&&(true))))))))))],[]⟩)⟩
def QS:Ent:=⟨[1,2,5,6,11,42],[sI,sPt 0,sPt 1,sB,sI,sB],[.box [lI,lI,lI,lI,lI,lI,lB] false,.box [lI,lI,lI,lI,lI,lI,lB] false],fun⟨⟨a,_,_,b,c,d,_⟩,⟨⟨e,f,g,i,j,l,m,_⟩,⟨n,o,p,q,t,u,w,_⟩,_⟩⟩ k=>uI a b c d e f g i j l m p q u (fun y19=>k .normal ⟨[(2,.ptr 0 0),(5,.ptr 1 0),(6,vB y19.1)],[.box [vI e,vI f,vI g,vI i,vI j,vI l,vB m] false,.box [vI n,vI o,vI y19.2.1,vI y19.2.2.1,vI t,vI y19.2.2.2,vB w] false]⟩)⟩
def P8:Ent:=⟨[1,2,5,6,11,53],[sI,sPt 0,sPt 1,sB,sI,sB],[.box [lI,lI,lI,lI,lI,lI,lB] false,.box [lI,lI,lI,lI,lI,lI,lB] false],fun⟨⟨a,_,_,b,c,d,_⟩,⟨⟨e,f,g,i,j,l,m,_⟩,⟨n,o,p,q,t,u,w,_⟩,_⟩⟩ k=>uS a b c d l u (fun y20=>k .normal ⟨[(2,.ptr 0 0),(5,.ptr 1 0),(6,vB y20.1)],[.box [vI e,vI f,vI g,vI i,vI j,vI l,vB m] false,.box [vI n,vI o,vI p,vI q,vI t,vI y20.2,vB w] false]⟩)⟩
def QY:=IC.put tt 16 Tryz.func16 [4] [] [(31,PP),(3935,QS),(15743,P8)] [.agg [lI,lI,lI,lI,lI,lI,lB],sI] [] [(false,.bool)] (fun x=>xX (x.1.1,(x.1.2.1,(x.1.2.2.1,(x.1.2.2.2.1,(x.1.2.2.2.2.1,(x.1.2.2.2.2.2.1,x.1.2.2.2.2.2.2.1)))))) x.2.1) ⟨fun _ _ hs ⟨⟨_,_,_,_⟩,⟨⟨_,_,_,_,_,_,_,_⟩,⟨_,_,_,_,_,_,_,_⟩,_⟩⟩ _ h=>fQ hs h.it,fun _ _ hs ⟨⟨_,_,_,_,_,_,_⟩,⟨⟨_,_,_,_,_,_,_,_⟩,⟨_,_,_,_,_,_,_,_⟩,_⟩⟩ _ h=>fQ hs h.it,fun _ _ hs ⟨⟨_,_,_,_,_,_,_⟩,⟨⟨_,_,_,_,_,_,_,_⟩,⟨_,_,_,_,_,_,_,_⟩,_⟩⟩ _ h=>fQ hs h.it,trivial⟩ fun _ _ h=>⟨_,h.it,by kernel_rfl⟩
def m7 (x0:List vQ)(x1:Int)(K0 K1:Unit->Prop)(s:Int)(nx:Int->Prop):Prop :=
 if (decide (s<x1))=true then ck (iQ s x0.length) (xX (x0.getD ((s).toNat) (0,(0,(0,(0,(0,(0,false))))))) s (fun r5=>if (!r5)=true then K1 ()else nx (i64.wrap (s+1))))else K0 ()
structure CC (x0:List vQ)(x1:Int)(K0 K1:Unit->Prop)(s:Int):Prop where
 it:Go.Mach.Loop (m7 x0 x1 K0 K1) s
structure EN (a0:aFg)(Q:Bool->Prop):Prop where
 it:pO a0.1 (fun r1=>jn (fun v2=>if v2=true then Q false else CC a0.2 (a0.2.length:Int) (fun _=>Q true) (fun _=>Q false) 0) (fun J3=>if (!r1)=true then J3 true else iP (a0.2.length:Int) 1 12 (fun r4=>J3 (!r4))))
def PC:Ent:=⟨[17,18,19],[sZ LR,sI,sI],[],fun⟨⟨a,b,c,_⟩,_⟩ k=>CC a b (fun _=>k (.exit 0) ⟨[],[]⟩) (fun _=>k .ret ⟨[(2,vB false)],[]⟩) c⟩
def TE:=QY.put tt 17 Tryz.func17 [2] [] [(58,PC)] [.agg [lI,lI,lI,lZ LR]] [] [(false,.bool)] (fun x=>EN ((x.1.1,(x.1.2.1,x.1.2.2.1)),x.1.2.2.2.1)) ⟨fun _ _ hs ⟨⟨a,b,c,_⟩,_⟩ _ h=>cP hs (fun y=>⟨⟨a,b,y,()⟩,()⟩) c h.it,trivial⟩ fun _ _ h=>⟨_,h.it,by kernel_rfl⟩
def strconv_Itoa (a0:Int)(Q:ByteArray->Prop):Prop:=(-9223372036854775808<=a0/\a0<=9223372036854775807)/\Q (Go.Mach.itoaS a0)
def lJ:List Sh:=[.lf (.int .i64)]
def HY (x:jK lJ)(Q:List (Bool×List VV)->Prop):Prop:=strconv_Itoa x.1 (fun(r:ByteArray)=>Q (f5 [(false,.str)] [.n] (r,())))
theorem EG (x:jK lJ)(Q:List (Bool×List VV)->Prop)(h:HY x Q):fH Tryz.prog 54 (jS lJ x) Q:=by
 exact Go.Mach.itoa_snd _ Q h.1 h.2
noncomputable def LV:Tb Tryz.prog:=TE.add 54 lJ EG
def iK (x1:List Int)(x2:Int)(K0:ByteArray->Prop)(s:ByteArray×Int)(nx:(ByteArray×Int)->Prop):Prop :=
 if (decide (s.2<x2))=true then ck (iQ s.2 x1.length) (strconv_Itoa (x1.getD ((s.2).toNat) 0) (fun r1=>ck ((⟨#[32]⟩:ByteArray).size+r1.size<=2 ^ 60) (ck (s.1.size+((⟨#[32]⟩:ByteArray)++r1).size<=2 ^ 60) (nx (s.1++((⟨#[32]⟩:ByteArray)++r1),i64.wrap (s.2+1))))))else K0 s.1
structure tV (x1:List Int)(x2:Int)(K0:ByteArray->Prop)(s:ByteArray×Int):Prop where
 it:Go.Mach.Loop (iK x1 x2 K0) s
structure fO (a0:ByteArray)(a1:List Int)(Q:ByteArray->Prop):Prop where
 it:tV a1 (a1.length:Int) (fun y2=>Q y2) (a0,0)
def D3:Ent:=⟨[0,7,8,9],[.lf (.str),sZ cE,sI,sI],[],fun⟨⟨a,b,c,d,_⟩,_⟩ k=>tV b c (fun y3=>k (.exit 0) ⟨[(0,.pl (.string y3))],[]⟩) (a,d)⟩
def GU:=LV.put tt 18 Tryz.func18 [4] [] [(26,D3)] [.lf (.str),sZ cE] [] [(false,.str)] (fun x=>fO x.1 x.2.1) ⟨fun _ _ hs ⟨⟨a,b,c,d,_⟩,_⟩ _ h=>cP hs (fun y=>⟨⟨y.1,b,c,y.2,()⟩,()⟩) (a,d) h.it,trivial⟩ fun _ _ h=>⟨_,h.it,by kernel_rfl⟩
def oH:ByteArray:=⟨#[100,101,110,115,101]⟩
def jM:ByteArray:=⟨#[32,102,114,111,122,101,110]⟩
structure s8 (x0:ByteArray)(K0:ByteArray->Prop):Prop where
 it:ck (x0.size+(⟨#[10]⟩:ByteArray).size<=2 ^ 60) (K0 (x0++(⟨#[10]⟩:ByteArray)))
structure dX (x0:ByteArray)(x7:Bool)(K0:ByteArray->Prop):Prop where
 it:if x7=true then ck (x0.size+jM.size<=2 ^ 60) (s8 (x0++jM) (fun y2=>K0 y2))else s8 x0 (fun y3=>K0 y3)
structure AY (a0:vQ)(Q:ByteArray->Prop):Prop where
 it:if (a0.1==1)=true then fO oH [a0.2.1] (fun r1=>dX r1 a0.2.2.2.2.2.2 (fun y4=>Q y4))else if (a0.1==2)=true then fO (⟨#[99,111,110,118]⟩:ByteArray) [a0.2.1,a0.2.2.1,a0.2.2.2.1,a0.2.2.2.2.1] (fun r5=>dX r5 a0.2.2.2.2.2.2 (fun y6=>Q y6))else if (a0.1==3)=true then fO (⟨#[109,97,120]⟩:ByteArray) [a0.2.2.1,a0.2.2.2.1] (fun r7=>dX r7 a0.2.2.2.2.2.2 (fun y8=>Q y8))else if (a0.1==4)=true then fO (⟨#[97,118,103]⟩:ByteArray) [a0.2.2.1,a0.2.2.2.1] (fun r9=>dX r9 a0.2.2.2.2.2.2 (fun y10=>Q y10))else if (a0.1==5)=true then dX (⟨#[114,101,108,117]⟩:ByteArray) a0.2.2.2.2.2.2 (fun y11=>Q y11)else if (a0.1==6)=true then dX (⟨#[102,108,97,116]⟩:ByteArray) a0.2.2.2.2.2.2 (fun y12=>Q y12)else if (a0.1==7)=true then fO (⟨#[97,100,100]⟩:ByteArray) [a0.2.2.2.2.2.1] (fun r13=>dX r13 a0.2.2.2.2.2.2 (fun y14=>Q y14))else dX (⟨#[]⟩:ByteArray) a0.2.2.2.2.2.2 (fun y15=>Q y15)
def MJ:Ent:=⟨[1,3],[sPt 0,.lf (.str)],[.box [lI,lI,lI,lI,lI,lI,lB] false],fun⟨⟨_,a,_⟩,⟨⟨_,_,_,_,_,_,i,_⟩,_⟩⟩ k=>dX a i (fun y16=>k .ret ⟨[(2,.pl (.string y16))],[]⟩)⟩
def MD:Ent:=⟨[3],[.lf (.str)],[],fun⟨⟨a,_⟩,_⟩ k=>s8 a (fun y17=>k .ret ⟨[(2,.pl (.string y17))],[]⟩)⟩
def PX:=GU.put tt 19 Tryz.func19 [2] [] [(15,MJ),(31,MD)] [.agg [lI,lI,lI,lI,lI,lI,lB]] [] [(false,.str)] (fun x=>AY (x.1.1,(x.1.2.1,(x.1.2.2.1,(x.1.2.2.2.1,(x.1.2.2.2.2.1,(x.1.2.2.2.2.2.1,x.1.2.2.2.2.2.2.1))))))) ⟨fun _ _ hs ⟨⟨_,_,_⟩,⟨⟨_,_,_,_,_,_,_,_⟩,_⟩⟩ _ h=>fQ hs h.it,fun _ _ hs ⟨⟨_,_⟩,_⟩ _ h=>fQ hs h.it,trivial⟩ fun _ _ h=>⟨_,h.it,by kernel_rfl⟩
def lK (x1:List vQ)(x2:Int)(K0:ByteArray->Prop)(s:ByteArray×Int)(nx:(ByteArray×Int)->Prop):Prop :=
 if (decide (s.2<x2))=true then ck (iQ s.2 x1.length) (AY (x1.getD ((s.2).toNat) (0,(0,(0,(0,(0,(0,false))))))) (fun r3=>ck (s.1.size+r3.size<=2 ^ 60) (nx (s.1++r3,i64.wrap (s.2+1)))))else K0 s.1
structure zJ (x1:List vQ)(x2:Int)(K0:ByteArray->Prop)(s:ByteArray×Int):Prop where
 it:Go.Mach.Loop (lK x1 x2 K0) s
structure AQ (a0:aFg)(Q:(ByteArray×Int)->Prop):Prop where
 it:EN a0 (fun r1=>if (!r1)=true then Q ((⟨#[]⟩:ByteArray),1)else fO (⟨#[105,110]⟩:ByteArray) ([a0.1.1,a0.1.2.1,a0.1.2.2]:List Int) (fun r2=>ck (r2.size+(⟨#[10]⟩:ByteArray).size<=2 ^ 60) (zJ a0.2 (a0.2.length:Int) (fun y4=>Q (y4,0)) (r2++(⟨#[10]⟩:ByteArray),0))))
def MQ:Ent:=⟨[4,15,16,17],[.lf (.str),sZ LR,sI,sI],[],fun⟨⟨a,b,c,d,_⟩,_⟩ k=>zJ b c (fun y5=>k (.exit 0) ⟨[(4,.pl (.string y5))],[]⟩) (a,d)⟩
def QI:=PX.put tt 6 Tryz.func6 [2,3] [] [(122,MQ)] [.agg [lI,lI,lI,lZ LR]] [] [(false,.str),(false,cE)] (fun x=>AQ ((x.1.1,(x.1.2.1,x.1.2.2.1)),x.1.2.2.2.1)) ⟨fun _ _ hs ⟨⟨a,b,c,d,_⟩,_⟩ _ h=>cP hs (fun y=>⟨⟨y.1,b,c,y.2,()⟩,()⟩) (a,d) h.it,trivial⟩ fun _ _ h=>⟨_,h.it,by kernel_rfl⟩
structure g8 (a0 a1:ByteArray)(Q:Bool->Prop):Prop where
 it:jn (fun v1=>Q v1) (fun J2=>if (decide ((a1.size:Int)<=(a0.size:Int)))=true then ck (True/\(0:Int)<=(i64.wrap ((a0.size:Int)-(a1.size:Int)))/\(i64.wrap ((a0.size:Int)-(a1.size:Int)))<=(a0.data.toList.length:Int)/\(a0.data.toList.length:Int)<=(a0.data.toList.length:Int)) (J2 ((⟨((a0.data.toList.take ((a0.data.toList.length:Int)).toNat).drop (i64.wrap ((a0.size:Int)-(a1.size:Int))).toNat).toArray⟩:ByteArray).toList==a1.toList))else J2 false)
def nG:=QI.put tt 127 Tryz.func127 [4] [] [] [.lf (.str),.lf (.str)] [] [(false,.bool)] (fun x=>g8 x.1 x.2.1) trivial fun _ _ h=>⟨_,h.it,by kernel_rfl⟩
structure g9 (a0 a1:ByteArray)(Q:(ByteArray×Bool)->Prop):Prop where
 it:g8 a0 a1 (fun r1=>if (!r1)=true then Q (a0,false)else ck (True/\(0:Int)<=0/\(0:Int)<=(i64.wrap ((a0.size:Int)-(a1.size:Int)))/\(i64.wrap ((a0.size:Int)-(a1.size:Int)))<=(a0.data.toList.length:Int)) (Q ((⟨((a0.data.toList.take (i64.wrap ((a0.size:Int)-(a1.size:Int))).toNat).drop ((0:Int)).toNat).toArray⟩:ByteArray),true)))
def nE:=nG.put tt 91 Tryz.func91 [4,5] [] [] [.lf (.str),.lf (.str)] [] [(false,.str),(false,.bool)] (fun x=>g9 x.1 x.2.1) trivial fun _ _ h=>⟨_,h.it,by kernel_rfl⟩
structure nI (a0 a1:ByteArray)(Q:(ByteArray×Bool)->Prop):Prop where
 it:g9 a0 a1 (fun r1=>Q (r1.1,r1.2))
def yW:=nE.put tt 51 Tryz.func51 [4,5] [] [] [.lf (.str),.lf (.str)] [] [(false,.str),(false,.bool)] (fun x=>nI x.1 x.2.1) trivial fun _ _ h=>⟨_,h.it,by kernel_rfl⟩
def strings_Split (a0:ByteArray)(a1:ByteArray)(Q:List ByteArray->Prop):Prop:=(a0.size<4294967281/\1<=a1.size)/\Q (Go.Mach.splitS a0 a1)
def kB:List Sh:=[.lf (.str),.lf (.str)]
def GM (x:jK kB)(Q:List (Bool×List VV)->Prop):Prop:=strings_Split x.1 x.2.1 (fun(r:List ByteArray)=>Q (f5 [(false,.slc .str)] [.n] (r,())))
theorem CE (x:jK kB)(Q:List (Bool×List VV)->Prop)(h:GM x Q):fH Tryz.prog 45 (jS kB x) Q:=by
 exact Go.Mach.split_snd _ _ Q h.1 h.2
noncomputable def GO:Tb Tryz.prog:=yW.add 45 kB CE
def uX (a0:ByteArray)(Q:Int×Bool->Prop):Prop:=(a0.size<=281474976710656)/\Q (Go.Mach.atoiS a0)
def lG:List Sh:=[.lf (.str)]
def I9 (x:jK lG)(Q:List (Bool×List VV)->Prop):Prop:=uX x.1 (fun(r:Int×Bool)=>Q [(false,[.pl (.int .i64 r.1)]),(false,[.er r.2])])
theorem DV (x:jK lG)(Q:List (Bool×List VV)->Prop)(h:I9 x Q):fH Tryz.prog 90 (jS lG x) Q:=by
 exact Go.Mach.atoi_snd _ Q h.1 h.2
noncomputable def LJ:Tb Tryz.prog:=GO.add 90 lG DV
def mS (x0:List ByteArray)(x1:Int)(K0:(List Int)->Prop)(K1:ByteArray->Prop)(s:Int×List Int)(nx:(Int×List Int)->Prop):Prop :=
 if (decide (s.1<x1))=true then ck (iQ s.1 x0.length) (uX (x0.getD ((s.1).toNat) ByteArray.empty) (fun r6=>jn (fun v7=>if v7=true then K1 ByteArray.empty else ck ((s.2.length+[r6.1].length)*8<=140737488355328) (nx (i64.wrap (s.1+1),s.2++[r6.1]))) (fun J8=>if (((!r6.2)||(decide (r6.1<0)))||(decide (4<((x0.getD ((s.1).toNat) ByteArray.empty).size:Int))))=true then J8 true else strconv_Itoa r6.1 (fun r9=>J8 (!(r9.toList==(x0.getD ((s.1).toNat) ByteArray.empty).toList))))))else K0 s.2
structure CN (x0:List ByteArray)(x1:Int)(K0:(List Int)->Prop)(K1:ByteArray->Prop)(s:Int×List Int):Prop where
 it:Go.Mach.Loop (mS x0 x1 K0 K1) s
structure yE (a0:ByteArray)(Q:(aGb×Bool)->Prop):Prop where
 it:strings_Split a0 (⟨#[32]⟩:ByteArray) (fun r1=>ck (iQ 0 r1.length) (ck (True/\(0:Int)<=1/\(1:Int)<=(r1.length:Int)/\(r1.length:Int)<=(r1.length:Int)) (CN ((r1.take ((r1.length:Int)).toNat).drop ((1:Int)).toNat) (((r1.take ((r1.length:Int)).toNat).drop ((1:Int)).toNat).length:Int) (fun y10=>Q (((r1.getD 0 ByteArray.empty),y10),true)) (fun y11=>Q ((y11,([]:List Int)),false)) (0,([]:List Int)))))
def P3:Ent:=⟨[2,5,17,18,19],[sPt 0,sPt 1,.lf (.fz true .str),sI,sI],[.box [.str,i7] false,.box [.str,i7] false],fun⟨⟨_,_,a,b,c,_⟩,⟨⟨d,_⟩,⟨e,_⟩,_⟩⟩ k=>CN a b (fun y12=>k (.exit 0) ⟨[(2,.ptr 0 0),(5,.ptr 1 0)],[.box [.pl (.string d),fF] false,.box [.pl (.string e),.own 2] false,.lst true cE y12 false]⟩) (fun y13=>k .ret ⟨[(2,.ptr 0 0),(3,vB false)],[.box [.pl (.string y13),fF] false]⟩) (c,([]:List Int))⟩
def RO:=LJ.put tt 49 Tryz.func49 [2,3] [(122,[⟨5,some 1,false,cE⟩])] [(122,P3)] [.lf (.str)] [] [(true,aAj),(false,.bool)] (fun x=>yE x.1) ⟨fun _ _ hs ⟨⟨_,_,a,b,c,_⟩,⟨⟨d,_⟩,⟨e,_⟩,_⟩⟩ _ h=>mA hs (fun y=>⟨[(2,.ptr 0 0),(5,.ptr 1 0),(17,vT .str a),(18,vI b),(19,vI y.1)],[.box [.pl (.string d),fF] false,.box [.pl (.string e),.own 2] false,.lst true cE y.2 false]⟩) (c,([]:List Int)) h.it,trivial⟩ fun _ _ h=>⟨_,h.it,by kernel_rfl⟩
structure xC (a0:ByteArray)(Q:(vQ×Bool)->Prop):Prop where
 it:nI a0 jM (fun r1=>yE r1.1 (fun r2=>if ((!r2.2)||((r1.2&&(!(r2.1.1.toList==oH.toList)))&&(!(r2.1.1.toList==(⟨#[99,111,110,118]⟩:ByteArray).toList))))=true then Q ((0,(0,(0,(0,(0,(0,false)))))),false)else if (r2.1.1.toList==oH.toList)=true then if (((1:Int)==0)||((r2.1.2.length:Int) != 1))=true then Q ((0,(0,(0,(0,(0,(0,false)))))),false)else ck (iQ 0 r2.1.2.length) (Q ((1,(r2.1.2.getD 0 0,(0,(0,(0,(0,r1.2)))))),true))else if (r2.1.1.toList==(⟨#[99,111,110,118]⟩:ByteArray).toList)=true then if (((2:Int)==0)||((r2.1.2.length:Int) != 4))=true then Q ((0,(0,(0,(0,(0,(0,false)))))),false)else ck (iQ 0 r2.1.2.length) (ck (iQ 1 r2.1.2.length) (ck (iQ 2 r2.1.2.length) (ck (iQ 3 r2.1.2.length) (Q ((2,(r2.1.2.getD 0 0,(r2.1.2.getD 1 0,(r2.1.2.getD 2 0,(r2.1.2.getD 3 0,(0,r1.2)))))),true)))))else if (r2.1.1.toList==(⟨#[109,97,120]⟩:ByteArray).toList)=true then if (((3:Int)==0)||((r2.1.2.length:Int) != 2))=true then Q ((0,(0,(0,(0,(0,(0,false)))))),false)else ck (iQ 0 r2.1.2.length) (ck (iQ 1 r2.1.2.length) (Q ((3,(0,(r2.1.2.getD 0 0,(r2.1.2.getD 1 0,(0,(0,r1.2)))))),true)))else if (r2.1.1.toList==(⟨#[97,118,103]⟩:ByteArray).toList)=true then if (((4:Int)==0)||((r2.1.2.length:Int) != 2))=true then Q ((0,(0,(0,(0,(0,(0,false)))))),false)else ck (iQ 0 r2.1.2.length) (ck (iQ 1 r2.1.2.length) (Q ((4,(0,(r2.1.2.getD 0 0,(r2.1.2.getD 1 0,(0,(0,r1.2)))))),true)))else if (r2.1.1.toList==(⟨#[114,101,108,117]⟩:ByteArray).toList)=true then if (((5:Int)==0)||((r2.1.2.length:Int) != 0))=true then Q ((0,(0,(0,(0,(0,(0,false)))))),false)else Q ((5,(0,(0,(0,(0,(0,r1.2)))))),true)else if (r2.1.1.toList==(⟨#[102,108,97,116]⟩:ByteArray).toList)=true then if (((6:Int)==0)||((r2.1.2.length:Int) != 0))=true then Q ((0,(0,(0,(0,(0,(0,false)))))),false)else Q ((6,(0,(0,(0,(0,(0,r1.2)))))),true)else if (r2.1.1.toList==(⟨#[97,100,100]⟩:ByteArray).toList)=true then if (((7:Int)==0)||((r2.1.2.length:Int) != 1))=true then Q ((0,(0,(0,(0,(0,(0,false)))))),false)else ck (iQ 0 r2.1.2.length) (Q ((7,(0,(0,(0,(0,(r2.1.2.getD 0 0,r1.2)))))),true))else if (((0:Int)==0)||((r2.1.2.length:Int) != 0))=true then Q ((0,(0,(0,(0,(0,(0,false)))))),false)else Q ((0,(0,(0,(0,(0,(0,r1.2)))))),true)))
def LZ:=RO.putX tt 15 Tryz.func15 [2,3] [] [] [.lf (.str)] [] [(true,LR),(false,.bool)] (fun x=>xC x.1) [] none false 5 hI0 trivial fun _ _ h=>⟨_,h.it,by kernel_rfl⟩
structure vW (a0:ByteArray)(Q:(aE5×Bool)->Prop):Prop where
 it:yE a0 (fun r1=>jn (fun v2=>if v2=true then Q ((0,(0,0)),false)else ck (3<=List.length r1.1.2) (ck (0+3<=List.length r1.1.2) (Q ((r1.1.2.getD 0 0,(r1.1.2.getD 1 0,r1.1.2.getD 2 0)),true)))) (fun J3=>if (((!r1.2)||(!(r1.1.1.toList==(⟨#[105,110]⟩:ByteArray).toList)))||((r1.1.2.length:Int) != 3))=true then J3 true else ck (3<=List.length r1.1.2) (ck (0+3<=List.length r1.1.2) (pO (r1.1.2.getD 0 0,(r1.1.2.getD 1 0,r1.1.2.getD 2 0)) (fun r4=>J3 (!r4))))))
def MO:=LZ.put tt 14 Tryz.func14 [2,3] [] [] [.lf (.str)] [] [(true,OO),(false,.bool)] (fun x=>vW x.1) trivial fun _ _ h=>⟨_,h.it,by kernel_rfl⟩
def strings_Cut (a0:ByteArray)(a1:ByteArray)(Q:ByteArray×ByteArray×Bool->Prop):Prop:=(a0.size<4294967281)/\Q (Go.Mach.cutS a0 a1)
def nK:List Sh:=[.lf (.str),.lf (.str)]
def L6 (x:jK nK)(Q:List (Bool×List VV)->Prop):Prop:=strings_Cut x.1 x.2.1 (fun(r:ByteArray×ByteArray×Bool)=>Q (f5 [(false,.str),(false,.str),(false,.bool)] [.n,.n,.n] (r.1,r.2.1,r.2.2,())))
theorem GI (x:jK nK)(Q:List (Bool×List VV)->Prop)(h:L6 x Q):fH Tryz.prog 13 (jS nK x) Q:=by
 exact Go.Mach.cut_snd _ _ Q h.1 h.2
noncomputable def L7:Tb Tryz.prog:=MO.add 13 nK GI
structure qJ  (K0:Unit->Prop):Prop where
 it:K0 ()
def tS  (K0:(Int×Int)->Prop)(K1:(Int×Int×Int×List vQ)->Prop)(s:ByteArray×Int×Int×Int×Int×Int×Int×Int×Int×Int×Int×Bool×List vQ)(nx:(ByteArray×Int×Int×Int×Int×Int×Int×Int×Int×Int×Int×Bool×List vQ)->Prop):Prop :=
 if ((s.1.toList==(⟨#[]⟩:ByteArray).toList)&&(decide (2<(i64.wrap (s.2.1+1)))))=true then K1 (s.2.2.1,s.2.2.2.1,s.2.2.2.2.1,s.2.2.2.2.2.2.2.2.2.2.2.2)else strings_Cut s.1 (⟨#[10]⟩:ByteArray) (fun r8=>if (!r8.2.2)=true then K0 (i64.wrap (s.2.1+1),5)else if ((i64.wrap (s.2.1+1))==1)=true then vW r8.1 (fun r9=>if (!r9.2)=true then K0 (i64.wrap (s.2.1+1),5)else nx (r8.2.1,i64.wrap (s.2.1+1),r9.1.1,r9.1.2.1,r9.1.2.2,s.2.2.2.2.2.1,s.2.2.2.2.2.2.1,s.2.2.2.2.2.2.2.1,s.2.2.2.2.2.2.2.2.1,s.2.2.2.2.2.2.2.2.2.1,s.2.2.2.2.2.2.2.2.2.2.1,s.2.2.2.2.2.2.2.2.2.2.2.1,s.2.2.2.2.2.2.2.2.2.2.2.2))else xC r8.1 (fun r10=>jn (fun v11=>if v11=true then K0 (i64.wrap (s.2.1+1),5)else if ((s.2.2.2.2.2.2.2.2.2.2.2.2.length:Int)==12)=true then K0 (i64.wrap (s.2.1+1),10)else ck ((s.2.2.2.2.2.2.2.2.2.2.2.2.length+[r10.1].length)*56<=140737488355328) (nx (r8.2.1,i64.wrap (s.2.1+1),s.2.2.1,s.2.2.2.1,s.2.2.2.2.1,r10.1.1,r10.1.2.1,r10.1.2.2.1,r10.1.2.2.2.1,r10.1.2.2.2.2.1,r10.1.2.2.2.2.2.1,r10.1.2.2.2.2.2.2,s.2.2.2.2.2.2.2.2.2.2.2.2++[r10.1]))) (fun J12=>if (!r10.2)=true then J12 true else xX r10.1 (s.2.2.2.2.2.2.2.2.2.2.2.2.length:Int) (fun r13=>J12 (!r13)))))
structure wT  (K0:(Int×Int)->Prop)(K1:(Int×Int×Int×List vQ)->Prop)(s:ByteArray×Int×Int×Int×Int×Int×Int×Int×Int×Int×Int×Bool×List vQ):Prop where
 it:Go.Mach.Loop (tS K0 K1) s
structure xD (a0:ByteArray)(Q:(aFg×Int×Int)->Prop):Prop where
 it:if (decide (2000<(a0.size:Int)))=true then qJ (fun _=>Q (((0,(0,0)),([]:List vQ)),0,10))else wT (fun y14=>qJ (fun _=>Q (((0,(0,0)),([]:List vQ)),y14.1,y14.2))) (fun y16=>Q (((y16.1,(y16.2.1,y16.2.2.1)),y16.2.2.2),0,0)) (a0,0,0,0,0,0,0,0,0,0,0,false,([]:List vQ))
def I4:Ent:=⟨[2,7,8],[sPt 0,sI,sI],[.box [lI,lI,lI,i7] false],fun⟨⟨_,a,b,_⟩,_⟩ k=>qJ (fun _=>k .ret ⟨[(2,.ptr 0 0),(3,vI a),(4,vI b)],[.box [vI 0,vI 0,vI 0,fF] false]⟩)⟩
def HN:Ent:=⟨[0,2,5,6,7],[.lf (.str),sPt 0,sPt 1,sPt 2,sI],[.box [lI,lI,lI,i7] false,.box [lI,lI,lI,i7] false,.box [lI,lI,lI,lI,lI,lI,lB] false],fun⟨⟨a,_,_,_,b,_⟩,⟨⟨c,d,e,_⟩,⟨f,g,i,_⟩,⟨j,l,m,n,o,p,q,_⟩,_⟩⟩ k=>wT (fun y18=>k (.exit 1000002) ⟨[(2,.ptr 0 0),(7,vI y18.1),(8,vI y18.2)],[.box [vI c,vI d,vI e,fF] false]⟩) (fun y19=>k .ret ⟨[(2,.ptr 0 0),(3,vI 0),(4,vI 0)],[.box [vI y19.1,vI y19.2.1,vI y19.2.2.1,.own 1] false,.lst true LR y19.2.2.2 false]⟩) (a,b,f,g,i,j,l,m,n,o,p,q,([]:List vQ))⟩
def MC:=L7.put tt 5 Tryz.func5 [2,3,4] [(25,[⟨5,some 3,false,LR⟩])] [(7,I4),(25,HN)] [.lf (.str)] [] [(true,aF1),(false,cE),(false,cE)] (fun x=>xD x.1) ⟨fun _ _ hs ⟨⟨_,_,_,_⟩,_⟩ _ h=>fQ hs h.it,fun _ _ hs ⟨⟨a,_,_,_,b,_⟩,⟨⟨c,d,e,_⟩,⟨f,g,i,_⟩,⟨j,l,m,n,o,p,q,_⟩,_⟩⟩ _ h=>mA hs (fun y=>⟨[(0,.pl (.string y.1)),(2,.ptr 0 0),(5,.ptr 1 0),(6,.ptr 2 0),(7,vI y.2.1)],[.box [vI c,vI d,vI e,fF] false,.box [vI y.2.2.1,vI y.2.2.2.1,vI y.2.2.2.2.1,.own 3] false,.box [vI y.2.2.2.2.2.1,vI y.2.2.2.2.2.2.1,vI y.2.2.2.2.2.2.2.1,vI y.2.2.2.2.2.2.2.2.1,vI y.2.2.2.2.2.2.2.2.2.1,vI y.2.2.2.2.2.2.2.2.2.2.1,vB y.2.2.2.2.2.2.2.2.2.2.2.1] false,.lst true LR y.2.2.2.2.2.2.2.2.2.2.2.2 false]⟩) (a,b,f,g,i,j,l,m,n,o,p,q,([]:List vQ)) h.it,trivial⟩ fun _ _ h=>⟨_,h.it,by kernel_rfl⟩
structure dZ (a0:List Int)(Q:(List Int)->Prop):Prop where
 it:nq a0 (Q ([]:List Int)) (ck ((([]:List Int).length+a0.length)*1<=140737488355328) (Q (([]:List Int)++a0)))
def bN:=MC.put tt 55 Tryz.func55 [2] [] [] [sZ (.int .u8)] [] [(false,(.slc (.int .u8)))] (fun x=>dZ x.1) trivial fun _ _ h=>⟨_,h.it,by kernel_rfl⟩
structure pK (a0:List Int)(Q:((List Int)×Int)->Prop):Prop where
 it:dZ a0 (fun r1=>Q (r1,0))
def DA:=TbM.put aI5 bN tt 20 Tryz.func20 [2] [(7,[⟨2,some 0,true,(.int .u8)⟩])] [] [sZ (.int .u8)] [] (fun x Q=>pK x.1.1 (fun y=>Q [.ptr 0 0] [.box [vZ (.int .u8) y.1,vI y.2] false])) trivial (fun _ _ h=>⟨_,h.it,by kernel_rfl⟩)
structure jE (a0:Int)(a1:List Int)(a2:Int)(Q:((List Int)×(List Int)×Int)->Prop):Prop where
 it:jn (fun v1=>if (v1||(decide (a0<=0)))=true then Q (([]:List Int),a1,a2)else if (decide ((a1.length:Int)<a0))=true then Q (([]:List Int),([]:List Int),4)else ck (a1≠[]/\(0:Int)<=0/\(0:Int)<=a0/\a0<=(a1.length:Int)) (dZ ((a1.take (a0).toNat).drop ((0:Int)).toNat) (fun r3=>ck (a1≠[]/\(0:Int)<=a0/\a0<=(a1.length:Int)/\(a1.length:Int)<=(a1.length:Int)) (Q (r3,(a1.take ((a1.length:Int)).toNat).drop (a0).toNat,a2))))) (fun J2=>if false=true then J2 true else J2 (a2 != 0))
def yV:=TbM.put DA bN tt 56 Tryz.func56 [4,49] [(53,[⟨4,none,true,(.int .u8)⟩,⟨49,some 0,true,(.int .u8)⟩]),(127,[⟨4,none,true,(.int .u8)⟩,⟨49,some 0,true,(.int .u8)⟩]),(235,[⟨4,none,true,(.int .u8)⟩,⟨49,some 0,true,(.int .u8)⟩])] [] [sPt 0,sI] [.box [lZ (.int .u8),lI] false] (fun x Q=>jE x.1.2.1 x.2.1.1 x.2.1.2.1 (fun y=>Q [vZ (.int .u8) y.1] [.box [vZ (.int .u8) y.2.1,vI y.2.2] false])) trivial (fun _ _ h=>⟨_,h.it,by kernel_rfl⟩)
structure fT (a0:Int)(a1:List Int)(a2:Int)(Q:((List Int)×(List Int)×Int)->Prop):Prop where
 it:jE a0 a1 a2 (fun y1=>Q (y1.1,y1.2.1,y1.2.2))
def AW:=TbM.put yV bN tt 21 Tryz.func21 [4,8] [(7,[⟨4,none,true,(.int .u8)⟩,⟨8,some 0,true,(.int .u8)⟩])] [] [sPt 0,sI] [.box [lZ (.int .u8),lI] false] (fun x Q=>fT x.1.2.1 x.2.1.1 x.2.1.2.1 (fun y=>Q [vZ (.int .u8) y.1] [.box [vZ (.int .u8) y.2.1,vI y.2.2] false])) trivial (fun _ _ h=>⟨_,h.it,by kernel_rfl⟩)
def gJ (x1:List Int)(x2:Int)(K0:Int->Prop)(s:Int×Int)(nx:(Int×Int)->Prop):Prop :=
 if (decide (s.2<x2))=true then ck (iQ s.2 x1.length) (ck ((0:Int)<=8) (nx (u64.wrap ((BitVec.ofInt (u64).bits (u64.wrap (s.1*2 ^ (min ((8:Int)).toNat (u64).bits))) ||| BitVec.ofInt (u64).bits (u64.wrap (x1.getD ((s.2).toNat) 0))).toNat:Nat),i64.wrap (s.2+1))))else K0 s.1
structure nH (x1:List Int)(x2:Int)(K0:Int->Prop)(s:Int×Int):Prop where
 it:Go.Mach.Loop (gJ x1 x2 K0) s
structure dM (a0:Int)(a1:List Int)(a2:Int)(Q:(Int×(List Int)×Int)->Prop):Prop where
 it:jE a0 a1 a2 (fun y1=>nH y1.1 (y1.1.length:Int) (fun y2=>Q (y2,y1.2.1,y1.2.2)) (0,0))
def u4:Ent:=⟨[5,10,11,12,23],[.lf (.int .u64),sZ (.int .u8),sI,sI,sPt 0],[.box [lZ (.int .u8),lI] false],fun⟨⟨a,b,c,d,_⟩,⟨⟨e,f,_⟩,_⟩⟩ k=>nH b c (fun y3=>k (.exit 0) ⟨[(5,vK .u64 y3),(23,.ptr 0 0)],[.box [vZ (.int .u8) e,vI f] false]⟩) (a,d)⟩
def vO:=TbM.put AW bN tt 57 Tryz.func57 [4,23] [(31,[⟨23,some 0,true,(.int .u8)⟩])] [(58,u4)] [sPt 0,sI] [.box [lZ (.int .u8),lI] false] (fun x Q=>dM x.1.2.1 x.2.1.1 x.2.1.2.1 (fun y=>Q [vK .u64 y.1] [.box [vZ (.int .u8) y.2.1,vI y.2.2] false])) ⟨fun _ _ hs ⟨⟨a,b,c,d,_⟩,⟨⟨e,f,_⟩,_⟩⟩ _ h=>cP hs (fun y=>⟨⟨y.1,b,c,y.2,(),()⟩,⟨⟨e,f,()⟩,()⟩⟩) (a,d) h.it,trivial⟩ (fun _ _ h=>⟨_,h.it,by kernel_rfl⟩)
structure cL (a0:List Int)(a1:Int)(Q:(Int×(List Int)×Int)->Prop):Prop where
 it:dM 1 a0 a1 (fun y1=>Q (i64.wrap y1.1,y1.2.1,y1.2.2))
def CJ:=TbM.put vO bN tt 22 Tryz.func22 [2,6] [(7,[⟨6,some 0,true,(.int .u8)⟩])] [] [sPt 0] [.box [lZ (.int .u8),lI] false] (fun x Q=>cL x.2.1.1 x.2.1.2.1 (fun y=>Q [vI y.1] [.box [vZ (.int .u8) y.2.1,vI y.2.2] false])) trivial (fun _ _ h=>⟨_,h.it,by kernel_rfl⟩)
structure gW (a0:List Int)(a1:Int)(Q:(Int×(List Int)×Int)->Prop):Prop where
 it:dM 2 a0 a1 (fun y1=>Q (i64.wrap y1.1,y1.2.1,y1.2.2))
def BE:=TbM.put CJ bN tt 23 Tryz.func23 [2,6] [(7,[⟨6,some 0,true,(.int .u8)⟩])] [] [sPt 0] [.box [lZ (.int .u8),lI] false] (fun x Q=>gW x.2.1.1 x.2.1.2.1 (fun y=>Q [vI y.1] [.box [vZ (.int .u8) y.2.1,vI y.2.2] false])) trivial (fun _ _ h=>⟨_,h.it,by kernel_rfl⟩)
structure cQ (a0:List Int)(a1:Int)(Q:(Int×(List Int)×Int)->Prop):Prop where
 it:jn (fun v1=>if v1=true then Q (5,a0,a1)else Q (a1,a0,a1)) (fun J2=>if (a1==0)=true then J2 (decide (0<(a0.length:Int)))else J2 false)
def lX:=TbM.put BE bN tt 24 Tryz.func24 [2,24] [(15,[⟨24,some 0,true,(.int .u8)⟩]),(101,[⟨24,some 0,true,(.int .u8)⟩]),(413,[⟨24,some 0,true,(.int .u8)⟩])] [] [sPt 0] [.box [lZ (.int .u8),lI] false] (fun x Q=>cQ x.2.1.1 x.2.1.2.1 (fun y=>Q [vI y.1] [.box [vZ (.int .u8) y.2.1,vI y.2.2] false])) trivial (fun _ _ h=>⟨_,h.it,by kernel_rfl⟩)
structure iF (a0 a1 a2:Int)(Q:Bool->Prop):Prop where
 it:Q ((decide (a1<=a0))&&(decide (a0<=a2)))
def QQ:=bN.put tt 58 Tryz.func58 [6] [] [] [sI,sI,sI] [] [(false,.bool)] (fun x=>iF x.1 x.2.1 x.2.2.1) trivial fun _ _ h=>⟨_,h.it,by kernel_rfl⟩
structure p7 (a0:Y5)(a1:Int)(Q:Bool->Prop):Prop where
 it:iF a0.1.1 1 8 (fun r1=>jn (fun v2=>jn (fun v5=>jn (fun v8=>jn (fun v11=>jn (fun v14=>Q v14) (fun J15=>if v11=true then iF a1 1 64 (fun r16=>J15 r16)else J15 false)) (fun J12=>if v8=true then iF a0.2.2.1 2 10 (fun r13=>J12 r13)else J12 false)) (fun J9=>if v5=true then iF a0.2.1 (-64) 64 (fun r10=>J9 r10)else J9 false)) (fun J6=>if v2=true then iF a0.1.2.2 1 16 (fun r7=>J6 r7)else J6 false)) (fun J3=>if r1=true then iF a0.1.2.1 1 16 (fun r4=>J3 r4)else J3 false))
def HD:=QQ.put tt 25 Tryz.func25 [4] [] [] [.agg [lI,lI,lI,lI,lI,lZ nR],sI] [] [(false,.bool)] (fun x=>p7 ((x.1.1,(x.1.2.1,x.1.2.2.1)),(x.1.2.2.2.1,(x.1.2.2.2.2.1,x.1.2.2.2.2.2.1))) x.2.1) trivial fun _ _ h=>⟨_,h.it,by kernel_rfl⟩
structure pZ (a0:Y5)(Q:Int->Prop):Prop where
 it:Q (i64.wrap ((i64.wrap (a0.1.1*a0.1.2.1))*a0.1.2.2))
def HA:=HD.put tt 26 Tryz.func26 [2] [] [] [.agg [lI,lI,lI,lI,lI,lZ nR]] [] [(false,cE)] (fun x=>pZ ((x.1.1,(x.1.2.1,x.1.2.2.1)),(x.1.2.2.2.1,(x.1.2.2.2.2.1,x.1.2.2.2.2.2.1)))) trivial fun _ _ h=>⟨_,h.it,by kernel_rfl⟩
def fJ (x0:List Int)(x1 x2:Int)(K0:Unit->Prop)(K1:Int->Prop)(s:Int)(nx:Int->Prop):Prop :=
 if (decide (s<x2))=true then ck (iQ s x0.length) (if (x1==(x0.getD ((s).toNat) 0))=true then K1 s else nx (i64.wrap (s+1)))else K0 ()
structure kJ (x0:List Int)(x1 x2:Int)(K0:Unit->Prop)(K1:Int->Prop)(s:Int):Prop where
 it:Go.Mach.Loop (fJ x0 x1 x2 K0 K1) s
structure mL (a0:List Int)(a1:Int)(Q:Int->Prop):Prop where
 it:kJ a0 a1 (a0.length:Int) (fun _=>Q (-1)) (fun y2=>Q y2) 0
def rO:Ent:=⟨[0,1,7,8],[sZ dJ,.lf (.int .i8),sI,sI],[],fun⟨⟨a,b,c,d,_⟩,_⟩ k=>kJ a b c (fun _=>k (.exit 0) ⟨[],[]⟩) (fun y4=>k .ret ⟨[(4,vI y4)],[]⟩) d⟩
def sS:=HA.put tt 93 Tryz.func93 [4] [] [(26,rO)] [sZ dJ,.lf (.int .i8)] [] [(false,cE)] (fun x=>mL x.1 x.2.1) ⟨fun _ _ hs ⟨⟨a,b,c,d,_⟩,_⟩ _ h=>cP hs (fun y=>⟨⟨a,b,c,y,()⟩,()⟩) d h.it,trivial⟩ fun _ _ h=>⟨_,h.it,by kernel_rfl⟩
structure eL (a0:List Int)(a1:Int)(Q:Bool->Prop):Prop where
 it:mL a0 a1 (fun r1=>Q (decide (0<=r1)))
def pN:=sS.put tt 59 Tryz.func59 [4] [] [] [sZ dJ,.lf (.int .i8)] [] [(false,.bool)] (fun x=>eL x.1 x.2.1) trivial fun _ _ h=>⟨_,h.it,by kernel_rfl⟩
structure sK (a0:Y5)(a1:kX)(Q:Bool->Prop):Prop where
 it:pZ a0 (fun r1=>jn (fun v2=>jn (fun v5=>Q v5) (fun J6=>if v2=true then iF a1.2 0 (i64.wrap (a0.2.2.1-1)) (fun r7=>J6 r7)else J6 false)) (fun J3=>if ((a1.1.length:Int)==r1)=true then eL a1.1 (-128) (fun r4=>J3 (!r4))else J3 false))
def L8:=pN.put tt 27 Tryz.func27 [4] [] [] [.agg [lI,lI,lI,lI,lI,lZ nR],.agg [lZ dJ,lI]] [] [(false,.bool)] (fun x=>sK ((x.1.1,(x.1.2.1,x.1.2.2.1)),(x.1.2.2.2.1,(x.1.2.2.2.2.1,x.1.2.2.2.2.2.1))) (x.2.1.1,x.2.1.2.1)) trivial fun _ _ h=>⟨_,h.it,by kernel_rfl⟩
def kT (x3:List Int)(x4:Int)(K0:(List Int)->Prop)(s:Int×List Int)(nx:(Int×List Int)->Prop):Prop :=
 if (decide (s.1<x4))=true then ck (iQ s.1 x3.length) (ck ((s.2.length+[i8.wrap (x3.getD ((s.1).toNat) 0)].length)*1<=140737488355328) (nx (i64.wrap (s.1+1),s.2++[i8.wrap (x3.getD ((s.1).toNat) 0)])))else K0 s.2
structure nQ (x3:List Int)(x4:Int)(K0:(List Int)->Prop)(s:Int×List Int):Prop where
 it:Go.Mach.Loop (kT x3 x4 K0) s
structure gI (x15:Int)(x16:List kX)(x17:List Int)(K0:Unit->Prop):Prop where
 it:ck ((x16.length+[(x17,x15)].length)*32<=140737488355328) (K0 ())
def kS (x0 x10 x11 x12 x13 x14:Int)(K0:(Int×(List Int)×Int×List kX)->Prop)(s:Int×Int×(List Int)×Int×List kX)(nx:(Int×Int×(List Int)×Int×List kX)->Prop):Prop :=
 if ((s.1==0)&&(decide (s.2.1<x0)))=true then cL s.2.2.1 s.2.2.2.1 (fun y11=>pZ ((x10,(x11,x12)),(x13,(x14,s.2.2.2.2))) (fun r12=>fT r12 y11.2.1 y11.2.2 (fun y13=>nQ y13.1 (y13.1.length:Int) (fun y14=>cQ y13.2.1 y13.2.2 (fun y15=>if (y15.1==4)=true then gI y11.1 s.2.2.2.2 y14 (fun _=>nx (4,i64.wrap (s.2.1+1),y15.2.1,y15.2.2,s.2.2.2.2++[(y14,y11.1)]))else sK ((x10,(x11,x12)),(x13,(x14,s.2.2.2.2))) (y14,y11.1) (fun r17=>if (!r17)=true then gI y11.1 s.2.2.2.2 y14 (fun _=>nx (5,i64.wrap (s.2.1+1),y15.2.1,y15.2.2,s.2.2.2.2++[(y14,y11.1)]))else gI y11.1 s.2.2.2.2 y14 (fun _=>nx (s.1,i64.wrap (s.2.1+1),y15.2.1,y15.2.2,s.2.2.2.2++[(y14,y11.1)]))))) (0,([]:List Int)))))else K0 (s.1,s.2.2.1,s.2.2.2.1,s.2.2.2.2)
structure fE (x0 x10 x11 x12 x13 x14:Int)(K0:(Int×(List Int)×Int×List kX)->Prop)(s:Int×Int×(List Int)×Int×List kX):Prop where
 it:Go.Mach.Loop (kS x0 x10 x11 x12 x13 x14 K0) s
structure nP (a0:List Int)(Q:(Y5×Int)->Prop):Prop where
 it:pK a0 (fun y1=>fT 4 y1.1 y1.2 (fun y2=>if (((y2.1.length:Int)==4)&&(!((pD y2.1).toList==(⟨#[112,100,100,115]⟩:ByteArray).toList)))=true then Q (((0,(0,0)),(0,(0,([]:List kX)))),5)else cL y2.2.1 y2.2.2 (fun y3=>cL y3.2.1 y3.2.2 (fun y4=>cL y4.2.1 y4.2.2 (fun y5=>cL y5.2.1 y5.2.2 (fun y6=>cL y6.2.1 y6.2.2 (fun y7=>gW y7.2.1 y7.2.2 (fun y8=>cQ y8.2.1 y8.2.2 (fun y9=>if ((y9.1==0)||(y9.1==5))=true then p7 ((y3.1,(y4.1,y5.1)),(i64.wrap (i8.wrap y6.1),(y7.1,([]:List kX)))) y8.1 (fun r10=>if (!r10)=true then fE y8.1 y3.1 y4.1 y5.1 (i64.wrap (i8.wrap y6.1)) y7.1 (fun y20=>if (y20.1==0)=true then cQ y20.2.1 y20.2.2.1 (fun y21=>if (y21.1 != 0)=true then Q (((0,(0,0)),(0,(0,([]:List kX)))),y21.1)else Q (((y3.1,(y4.1,y5.1)),((i64.wrap (i8.wrap y6.1)),(y7.1,y20.2.2.2))),0))else if (y20.1 != 0)=true then Q (((0,(0,0)),(0,(0,([]:List kX)))),y20.1)else Q (((y3.1,(y4.1,y5.1)),((i64.wrap (i8.wrap y6.1)),(y7.1,y20.2.2.2))),0)) (5,0,y9.2.1,y9.2.2,([]:List kX))else fE y8.1 y3.1 y4.1 y5.1 (i64.wrap (i8.wrap y6.1)) y7.1 (fun y22=>if (y22.1==0)=true then cQ y22.2.1 y22.2.2.1 (fun y23=>if (y23.1 != 0)=true then Q (((0,(0,0)),(0,(0,([]:List kX)))),y23.1)else Q (((y3.1,(y4.1,y5.1)),((i64.wrap (i8.wrap y6.1)),(y7.1,y22.2.2.2))),0))else if (y22.1 != 0)=true then Q (((0,(0,0)),(0,(0,([]:List kX)))),y22.1)else Q (((y3.1,(y4.1,y5.1)),((i64.wrap (i8.wrap y6.1)),(y7.1,y22.2.2.2))),0)) (0,0,y9.2.1,y9.2.2,([]:List kX)))else fE y8.1 y3.1 y4.1 y5.1 (i64.wrap (i8.wrap y6.1)) y7.1 (fun y24=>if (y24.1==0)=true then cQ y24.2.1 y24.2.2.1 (fun y25=>if (y25.1 != 0)=true then Q (((0,(0,0)),(0,(0,([]:List kX)))),y25.1)else Q (((y3.1,(y4.1,y5.1)),((i64.wrap (i8.wrap y6.1)),(y7.1,y24.2.2.2))),0))else if (y24.1 != 0)=true then Q (((0,(0,0)),(0,(0,([]:List kX)))),y24.1)else Q (((y3.1,(y4.1,y5.1)),((i64.wrap (i8.wrap y6.1)),(y7.1,y24.2.2.2))),0)) (y9.1,0,y9.2.1,y9.2.2,([]:List kX)))))))))))
def C6:Ent:=⟨[2,4,6,7,8,9],[sPt 0,sPt 1,sPt 2,sI,sI,sI],[.box [lI,lI,lI,lI,lI,i7] false,.box [lZ (.int .u8),lI] false,.box [lI,lI,lI,lI,lI,i7] false],fun⟨⟨_,_,_,a,b,c,_⟩,⟨⟨d,e,f,g,i,_⟩,⟨j,l,_⟩,⟨m,n,o,p,q,_⟩,_⟩⟩ k=>fE a m n o p q (fun y26=>k (.exit 0) ⟨[(2,.ptr 0 0),(4,.ptr 1 0),(6,.ptr 2 0),(8,vI y26.1)],[.box [vI d,vI e,vI f,vI g,vI i,fF] false,.box [vZ (.int .u8) y26.2.1,vI y26.2.2.1] false,.box [vI m,vI n,vI o,vI p,vI q,.own 3] false,.lst true nR y26.2.2.2 false]⟩) (b,c,j,l,([]:List kX))⟩
def CF:Ent:=⟨[2,4,6,7,8,9,10],[sPt 0,sPt 1,sPt 2,sI,sI,sI,sPt 3],[.box [lI,lI,lI,lI,lI,i7] false,.box [lZ (.int .u8),lI] false,.box [lI,lI,lI,lI,lI,.cst (.own 4)] false,.box [.cst (.own 5),lI] false,.lst true nR false,.lst true dJ false],fun⟨⟨_,_,_,a,b,c,_⟩,⟨⟨d,e,f,g,i,_⟩,⟨j,l,_⟩,⟨m,n,o,p,q,_⟩,⟨_,t,_⟩,u,w,_⟩⟩ k=>gI t u w (fun _=>k .normal ⟨[(2,.ptr 0 0),(4,.ptr 1 0),(6,.ptr 2 0),(7,vI a),(8,vI b),(9,vI c)],[.box [vI d,vI e,vI f,vI g,vI i,fF] false,.box [vZ (.int .u8) j,vI l] false,.box [vI m,vI n,vI o,vI p,vI q,.own 3] false,.lst true nR (u++[(w,t)]) false]⟩)⟩
def CR:Ent:=⟨[2,4,6,7,8,9,10,69,70,71],[sPt 0,sPt 1,sPt 2,sI,sI,sI,sPt 3,sZ (.int .u8),sI,sI],[.box [lI,lI,lI,lI,lI,i7] false,.box [lZ (.int .u8),lI] false,.box [lI,lI,lI,lI,lI,.cst (.own 4)] false,.box [i7,lI] false,.lst true nR false],fun⟨⟨_,_,_,a,b,c,_,d,e,f,_⟩,⟨⟨g,i,j,l,m,_⟩,⟨n,o,_⟩,⟨p,q,t,u,w,_⟩,⟨_,z,_⟩,a0,_⟩⟩ k=>nQ d e (fun y28=>k (.exit 2) ⟨[(2,.ptr 0 0),(4,.ptr 1 0),(6,.ptr 2 0),(7,vI a),(8,vI b),(9,vI c),(10,.ptr 3 0)],[.box [vI g,vI i,vI j,vI l,vI m,fF] false,.box [vZ (.int .u8) n,vI o] false,.box [vI p,vI q,vI t,vI u,vI w,.own 4] false,.box [.own 5,vI z] false,.lst true nR a0 false,.lst true dJ y28 false]⟩) (f,([]:List Int))⟩
def j8:=L8.putX tt 7 Tryz.func7 [2,3] [(2042,[⟨6,some 5,false,nR⟩]),(522826,[⟨10,some 0,false,dJ⟩])] [(2042,C6),(261415,CF),(522826,CR)] [sZ (.int .u8)] [] [(true,aGC),(false,cE)] (fun x=>nP x.1) [] (some lX.inl) false 0 (hI1 lX.inl_ok) ⟨fun _ _ hs ⟨⟨_,_,_,a,b,c,_⟩,⟨⟨d,e,f,g,i,_⟩,⟨j,l,_⟩,⟨m,n,o,p,q,_⟩,_⟩⟩ _ h=>mA hs (fun y=>⟨[(2,.ptr 0 0),(4,.ptr 1 0),(6,.ptr 2 0),(7,vI a),(8,vI y.1),(9,vI y.2.1)],[.box [vI d,vI e,vI f,vI g,vI i,fF] false,.box [vZ (.int .u8) y.2.2.1,vI y.2.2.2.1] false,.box [vI m,vI n,vI o,vI p,vI q,.own 3] false,.lst true nR y.2.2.2.2 false]⟩) (b,c,j,l,([]:List kX)) h.it,fun _ _ hs ⟨⟨_,_,_,_,_,_,_⟩,⟨⟨_,_,_,_,_,_⟩,⟨_,_,_⟩,⟨_,_,_,_,_,_⟩,⟨_,_,_⟩,_,_,_⟩⟩ _ h=>fQ hs h.it,fun _ _ hs ⟨⟨_,_,_,a,b,c,_,d,e,f,_⟩,⟨⟨g,i,j,l,m,_⟩,⟨n,o,_⟩,⟨p,q,t,u,w,_⟩,⟨_,z,_⟩,a0,_⟩⟩ _ h=>mA hs (fun y=>⟨[(2,.ptr 0 0),(4,.ptr 1 0),(6,.ptr 2 0),(7,vI a),(8,vI b),(9,vI c),(10,.ptr 3 0),(69,vZ (.int .u8) d),(70,vI e),(71,vI y.1)],[.box [vI g,vI i,vI j,vI l,vI m,fF] false,.box [vZ (.int .u8) n,vI o] false,.box [vI p,vI q,vI t,vI u,vI w,.own 4] false,.box [.own 5,vI z] false,.lst true nR a0 false,.lst true dJ y.2 false]⟩) (f,([]:List Int)) h.it,trivial⟩ fun _ _ h=>⟨_,h.it,by kernel_rfl⟩
structure eM  (K0:Unit->Prop):Prop where
 it:K0 ()
structure bZ (a0:Bool)(a1:Int)(a2:List Int)(a3:Int)(Q:(Bool×Int×(List Int)×Int)->Prop):Prop where
 it:if (a1 != 0)=true then eM (fun _=>Q (a1==0,a1,a2,a3))else cQ a2 a3 (fun y2=>if (y2.1==4)=true then eM (fun _=>Q (4==0,4,y2.2.1,y2.2.2))else if (!a0)=true then eM (fun _=>Q (5==0,5,y2.2.1,y2.2.2))else eM (fun _=>Q (a1==0,a1,y2.2.1,y2.2.2)))
def vM:Ent:=⟨[0,32,33],[sPt 0,sPt 0,sPt 1],[.box [.cst (.ptr 1 0),lI] false,.box [lZ (.int .u8),lI] false],fun⟨_,⟨⟨_,a,_⟩,⟨b,c,_⟩,_⟩⟩ k=>eM (fun _=>k .ret ⟨[(4,vB (a==0)),(32,.ptr 0 0),(33,.ptr 1 0)],[.box [.ptr 1 0,vI a] false,.box [vZ (.int .u8) b,vI c] false]⟩)⟩
def wG:=TbM.put lX j8 tt 33 Tryz.func33 [4,32,33] [(15,[⟨33,some 0,true,(.int .u8)⟩])] [(7,vM)] [sPt 0,sB] [.box [.cst (.ptr 1 0),lI] false,.box [lZ (.int .u8),lI] false] (fun x Q=>bZ x.1.2.1 x.2.1.2.1 x.2.2.1.1 x.2.2.1.2.1 (fun y=>Q [vB y.1] [.box [.ptr 1 0,vI y.2.1] false,.box [vZ (.int .u8) y.2.2.1,vI y.2.2.2] false])) ⟨fun _ _ hs ⟨_,⟨⟨_,_,_⟩,⟨_,_,_⟩,_⟩⟩ _ h=>fQ hs h.it,trivial⟩ (fun _ _ h=>⟨_,h.it,by kernel_rfl⟩)
structure nZ (a0:List Int)(a1:Int)(Q:(Int×(List Int)×Int)->Prop):Prop where
 it:dM 8 a0 a1 (fun y1=>Q (y1.1,y1.2.1,y1.2.2))
def AO:=TbM.put wG j8 tt 34 Tryz.func34 [2,5] [(7,[⟨5,some 0,true,(.int .u8)⟩])] [] [sPt 0] [.box [lZ (.int .u8),lI] false] (fun x Q=>nZ x.2.1.1 x.2.1.2.1 (fun y=>Q [vK .u64 y.1] [.box [vZ (.int .u8) y.2.1,vI y.2.2] false])) trivial (fun _ _ h=>⟨_,h.it,by kernel_rfl⟩)
structure j9 (a0:List Int)(a1:Int)(Q:(Int×(List Int)×Int)->Prop):Prop where
 it:dM 4 a0 a1 (fun y1=>Q (u32.wrap y1.1,y1.2.1,y1.2.2))
def zZ:=TbM.put AO j8 tt 35 Tryz.func35 [2,6] [(7,[⟨6,some 0,true,(.int .u8)⟩])] [] [sPt 0] [.box [lZ (.int .u8),lI] false] (fun x Q=>j9 x.2.1.1 x.2.1.2.1 (fun y=>Q [vK .u32 y.1] [.box [vZ (.int .u8) y.2.1,vI y.2.2] false])) trivial (fun _ _ h=>⟨_,h.it,by kernel_rfl⟩)
def vH (x1:List Int)(x2:Int)(K0:Int->Prop)(K1:Unit->Prop)(s:Int×Int)(nx:(Int×Int)->Prop):Prop :=
 if (decide (s.2<x2))=true then ck (iQ s.2 x1.length) (if (((decide ((x1.getD ((s.2).toNat) 0)<1))||(decide (4096<(x1.getD ((s.2).toNat) 0))))||(decide (8192<(i64.wrap (s.1*(x1.getD ((s.2).toNat) 0))))))=true then K1 ()else nx (i64.wrap (s.1*(x1.getD ((s.2).toNat) 0)),i64.wrap (s.2+1)))else K0 s.1
structure zW (x1:List Int)(x2:Int)(K0:Int->Prop)(K1:Unit->Prop)(s:Int×Int):Prop where
 it:Go.Mach.Loop (vH x1 x2 K0 K1) s
structure q9 (a0:List Int)(Q:Int->Prop):Prop where
 it:if ((decide ((a0.length:Int)<1))||(decide (4<(a0.length:Int))))=true then Q 0 else zW a0 (a0.length:Int) (fun y1=>Q y1) (fun _=>Q 0) (1,0)
def MG:Ent:=⟨[3,14,15,16],[sI,sZ cE,sI,sI],[],fun⟨⟨a,b,c,d,_⟩,_⟩ k=>zW b c (fun y3=>k (.exit 0) ⟨[(3,vI y3)],[]⟩) (fun _=>k .ret ⟨[(2,vI 0)],[]⟩) (a,d)⟩
def OZ:=j8.put tt 95 Tryz.func95 [2] [] [(122,MG)] [sZ cE] [] [(false,cE)] (fun x=>q9 x.1) ⟨fun _ _ hs ⟨⟨a,b,c,d,_⟩,_⟩ _ h=>cP hs (fun y=>⟨⟨y.1,b,c,y.2,()⟩,()⟩) (a,d) h.it,trivial⟩ fun _ _ h=>⟨_,h.it,by kernel_rfl⟩
structure tN (a0:List Int)(Q:Bool->Prop):Prop where
 it:q9 a0 (fun r1=>Q (decide (0<r1)))
def S5:=OZ.put tt 63 Tryz.func63 [2] [] [] [sZ cE] [] [(false,.bool)] (fun x=>tN x.1) trivial fun _ _ h=>⟨_,h.it,by kernel_rfl⟩
structure LF (a0 a1:Int)(Q:Bool->Prop):Prop where
 it:Q ((decide ((i64.wrap (0-a1))<=a0))&&(decide (a0<=a1)))
def QH:=S5.put tt 129 Tryz.func129 [4] [] [] [sI,sI] [] [(false,.bool)] (fun x=>LF x.1 x.2.1) trivial fun _ _ h=>⟨_,h.it,by kernel_rfl⟩
structure rI (a0:aDB)(Q:Bool->Prop):Prop where
 it:tN a0.1 (fun r1=>jn (fun v2=>jn (fun v5=>jn (fun v8=>Q v8) (fun J9=>if v5=true then eL a0.2.2 (-128) (fun r10=>J9 (!r10))else J9 false)) (fun J6=>if v2=true then LF a0.2.1 64 (fun r7=>J6 r7)else J6 false)) (fun J3=>if r1=true then q9 a0.1 (fun r4=>J3 ((a0.2.2.length:Int)==r4))else J3 false))
def BZ:=QH.put tt 96 Tryz.func96 [2] [] [] [.agg aCk] [] [(false,.bool)] (fun x=>rI (x.1.1,(x.1.2.1,x.1.2.2.1))) trivial fun _ _ h=>⟨_,h.it,by kernel_rfl⟩
def gN (x0:List Int)(x1:Int)(K0:(List Int)->Prop)(s:Int×List Int)(nx:(Int×List Int)->Prop):Prop :=
 if (decide (s.1<x1))=true then ck (iQ s.1 x0.length) (ck ((s.2.length+[i8.wrap (x0.getD ((s.1).toNat) 0)].length)*1<=140737488355328) (nx (i64.wrap (s.1+1),s.2++[i8.wrap (x0.getD ((s.1).toNat) 0)])))else K0 s.2
structure iM (x0:List Int)(x1:Int)(K0:(List Int)->Prop)(s:Int×List Int):Prop where
 it:Go.Mach.Loop (gN x0 x1 K0) s
structure gV (a0:Int)(a1 a2:List Int)(a3:Int)(Q:(Int×Int×(List Int)×Int×(List Int)×List Int)->Prop):Prop where
 it:cL a2 a3 (fun y1=>q9 a1 (fun r2=>fT r2 y1.2.1 y1.2.2 (fun y3=>iM y3.1 (y3.1.length:Int) (fun y4=>rI (a1,((i64.wrap (i8.wrap y1.1)),y4)) (fun r5=>bZ r5 a0 y3.2.1 y3.2.2 (fun y6=>Q ((i64.wrap (i8.wrap y1.1)),y6.2.1,y6.2.2.1,y6.2.2.2,a1,y4)))) (0,([]:List Int)))))
def t7:Ent:=⟨[0,4,5,23,24,25,42,43,44],[sPt 0,sPt 1,sPt 2,sZ (.int .u8),sI,sI,sPt 0,sC (.own 3),sPt 4],[.box [.cst (.ptr 4 0),lI] false,aIg,.box [.cst (.own 5),lI,i7] false,.dead,.box [lZ (.int .u8),lI] false,oQa],fun⟨⟨_,_,_,a,b,c,_⟩,⟨⟨_,d,_⟩,⟨_,e,_⟩,⟨_,f,_⟩,_,⟨g,i,_⟩,j,_⟩⟩ k=>iM a b (fun y7=>k (.exit 0) ⟨[(0,.ptr 0 0),(4,.ptr 1 0),(5,.ptr 2 0),(42,.ptr 0 0),(43,.own 3),(44,.ptr 4 0)],[.box [.ptr 4 0,vI d] false,.box [fF,vI e,fF] false,.box [.own 5,vI f,.own 6] false,.dead false,.box [vZ (.int .u8) g,vI i] false,.lst true cE j false,.lst true dJ y7 false]⟩) (c,([]:List Int))⟩
def vP:=TbM.put zZ BZ tt 64 Tryz.func64 [4,42,43,44] [(58,[⟨5,some 2,false,dJ⟩]),(63,[⟨4,some 0,false,cE⟩,⟨4,some 2,false,dJ⟩,⟨44,some 0,true,(.int .u8)⟩])] [(58,t7)] [sPt 0,sC (.own 1)] [.box [.cst (.ptr 2 0),lI] false,oQa,.box [lZ (.int .u8),lI] false] (fun x Q=>gV x.2.1.2.1 x.2.2.1 x.2.2.2.1.1 x.2.2.2.1.2.1 (fun y=>Q [.agg [.own 3,vI y.1,.own 4]] [.box [.ptr 2 0,vI y.2.1] false,.dead false,.box [vZ (.int .u8) y.2.2.1,vI y.2.2.2.1] false,.lst true cE y.2.2.2.2.1 false,.lst true dJ y.2.2.2.2.2 false])) ⟨fun _ _ hs ⟨⟨_,_,_,a,b,c,_⟩,⟨⟨_,d,_⟩,⟨_,e,_⟩,⟨_,f,_⟩,_,⟨g,i,_⟩,j,_⟩⟩ _ h=>mA hs (fun y=>⟨[(0,.ptr 0 0),(4,.ptr 1 0),(5,.ptr 2 0),(23,vZ (.int .u8) a),(24,vI b),(25,vI y.1),(42,.ptr 0 0),(43,.own 3),(44,.ptr 4 0)],[.box [.ptr 4 0,vI d] false,.box [fF,vI e,fF] false,.box [.own 5,vI f,.own 6] false,.dead false,.box [vZ (.int .u8) g,vI i] false,.lst true cE j false,.lst true dJ y.2 false]⟩) (c,([]:List Int)) h.it,trivial⟩ (fun _ _ h=>⟨_,h.it,by kernel_rfl⟩)
structure FL (a0:Int)(Q:Bool->Prop):Prop where
 it:Q ((decide (a0<(-1048576)))||(decide (1048576<a0)))
def ML:=BZ.put tt 98 Tryz.func98 [2] [] [] [.lf (.int .i32)] [] [(false,.bool)] (fun x=>FL x.1) trivial fun _ _ h=>⟨_,h.it,by kernel_rfl⟩
def bX (x0:List Int)(x1:Int)(K0:Unit->Prop)(K1:Int->Prop)(s:Int)(nx:Int->Prop):Prop :=
 if (decide (s<x1))=true then ck (iQ s x0.length) (FL (x0.getD ((s).toNat) 0) (fun r1=>if r1=true then K1 s else nx (i64.wrap (s+1))))else K0 ()
structure dR (x0:List Int)(x1:Int)(K0:Unit->Prop)(K1:Int->Prop)(s:Int):Prop where
 it:Go.Mach.Loop (bX x0 x1 K0 K1) s
structure eE (a0:List Int)(Q:Int->Prop):Prop where
 it:dR a0 (a0.length:Int) (fun _=>Q (-1)) (fun y3=>Q y3) 0
def hU:Ent:=⟨[0,1,7,8],[sZ kW,sC (.fn 98 []),sI,sI],[],fun⟨⟨a,_,b,c,_⟩,_⟩ k=>dR a b (fun _=>k (.exit 0) ⟨[],[]⟩) (fun y5=>k .ret ⟨[(4,vI y5)],[]⟩) c⟩
def iB:=ML.putX tt 130 Tryz.func130 [4] [] [(26,hU)] [sZ kW,.fn 98 []] [] [(false,cE)] (fun x=>eE x.1) [98] none false 0 hI0 ⟨fun _ _ hs ⟨⟨a,_,b,c,_⟩,_⟩ _ h=>cP hs (fun y=>⟨⟨a,(),b,y,()⟩,()⟩) c h.it,trivial⟩ fun _ _ h=>⟨_,h.it,by kernel_rfl⟩
structure dT (a0:List Int)(Q:Bool->Prop):Prop where
 it:eE a0 (fun r1=>Q (decide (0<=r1)))
def gM:=iB.putX tt 97 Tryz.func97 [4] [] [] [sZ kW,.fn 98 []] [] [(false,.bool)] (fun x=>dT x.1) [98] none false 0 hI0 trivial fun _ _ h=>⟨_,h.it,by kernel_rfl⟩
structure sD (a0:pC)(Q:Bool->Prop):Prop where
 it:jn (fun v1=>Q v1) (fun J2=>if ((a0.2.1.length:Int)==(a0.1.2.2.length:Int))=true then dT a0.2.1 (fun r3=>J2 (!r3))else J2 false)
def zP:=gM.put tt 65 Tryz.func65 [2] [] [] [.agg [lZ cE,lI,lZ dJ,lZ kW,lZ cE,lI,lZ dJ]] [] [(false,.bool)] (fun x=>sD ((x.1.1,(x.1.2.1,x.1.2.2.1)),(x.1.2.2.2.1,(x.1.2.2.2.2.1,(x.1.2.2.2.2.2.1,x.1.2.2.2.2.2.2.1))))) trivial fun _ _ h=>⟨_,h.it,by kernel_rfl⟩
def g7 (x0:Int)(K0:((List Int)×(List Int)×Int)->Prop)(s:Int×(List Int)×(List Int)×Int)(nx:(Int×(List Int)×(List Int)×Int)->Prop):Prop :=
 if (decide (s.1<x0))=true then gW s.2.2.1 s.2.2.2 (fun y4=>ck ((s.2.1.length+[y4.1].length)*8<=140737488355328) (nx (i64.wrap (s.1+1),s.2.1++[y4.1],y4.2.1,y4.2.2)))else K0 (s.2.1,s.2.2.1,s.2.2.2)
structure jC (x0:Int)(K0:((List Int)×(List Int)×Int)->Prop)(s:Int×(List Int)×(List Int)×Int):Prop where
 it:Go.Mach.Loop (g7 x0 K0) s
def iA (x0:Int)(K0:((List Int)×Int×List Int)->Prop)(s:Int×(List Int)×Int×List Int)(nx:(Int×(List Int)×Int×List Int)->Prop):Prop :=
 if (decide (s.1<x0))=true then j9 s.2.1 s.2.2.1 (fun y10=>ck ((s.2.2.2.length+[i32.wrap y10.1].length)*4<=140737488355328) (nx (i64.wrap (s.1+1),y10.2.1,y10.2.2,s.2.2.2++[i32.wrap y10.1])))else K0 (s.2.1,s.2.2.1,s.2.2.2)
structure iZ (x0:Int)(K0:((List Int)×Int×List Int)->Prop)(s:Int×(List Int)×Int×List Int):Prop where
 it:Go.Mach.Loop (iA x0 K0) s
structure iY  (K0:Unit->Prop):Prop where
 it:K0 ()
structure lY (a0:Int)(a1:List Int)(a2:Int)(Q:(Int×Int×Int×(List Int)×Int×(List Int)×(List Int)×(List Int)×(List Int)×List Int)->Prop):Prop where
 it:cL a1 a2 (fun y1=>bZ (decide (y1.1<=4)) a0 y1.2.1 y1.2.2 (fun y2=>if ((!y2.1)||(y1.1==0))=true then Q (0,0,y2.2.1,y2.2.2.1,y2.2.2.2,([]:List Int),([]:List Int),([]:List Int),([]:List Int),([]:List Int))else jC y1.1 (fun y5=>tN y5.1 (fun r6=>bZ r6 y2.2.1 y5.2.1 y5.2.2 (fun y7=>if (!y7.1)=true then Q (0,0,y7.2.1,y7.2.2.1,y7.2.2.2,([]:List Int),([]:List Int),([]:List Int),([]:List Int),([]:List Int))else gV y7.2.1 y5.1 y7.2.2.1 y7.2.2.2 (fun y8=>if (y8.2.1 != 0)=true then Q (y8.1,0,y8.2.1,y8.2.2.1,y8.2.2.2.1,y8.2.2.2.2.1,y8.2.2.2.2.2,([]:List Int),([]:List Int),([]:List Int))else iZ (y8.2.2.2.2.2.length:Int) (fun y11=>sD ((y8.2.2.2.2.1,(y8.1,y8.2.2.2.2.2)),(y11.2.2,(([]:List Int),(0,([]:List Int))))) (fun r12=>bZ r12 y8.2.1 y11.1 y11.2.1 (fun y13=>if (!y13.1)=true then Q (y8.1,0,y13.2.1,y13.2.2.1,y13.2.2.2,y8.2.2.2.2.1,y8.2.2.2.2.2,y11.2.2,([]:List Int),([]:List Int))else gW y13.2.2.1 y13.2.2.2 (fun y14=>tN [y14.1] (fun r15=>bZ r15 y13.2.1 y14.2.1 y14.2.2 (fun y16=>if y16.1=true then gV y16.2.1 [y14.1] y16.2.2.1 y16.2.2.2 (fun y17=>iY (fun _=>Q (y8.1,y17.1,y17.2.1,y17.2.2.1,y17.2.2.2.1,y8.2.2.2.2.1,y8.2.2.2.2.2,y11.2.2,y17.2.2.2.2.1,y17.2.2.2.2.2)))else iY (fun _=>Q (y8.1,0,y16.2.1,y16.2.2.1,y16.2.2.2,y8.2.2.2.2.1,y8.2.2.2.2.2,y11.2.2,([]:List Int),([]:List Int))))))))) (0,y8.2.2.1,y8.2.2.2.1,([]:List Int)))))) (0,([]:List Int),y2.2.2.1,y2.2.2.2)))
def vS:Ent:=⟨[0,2,3,5,21,22,88,89],[sPt 0,sPt 1,sPt 2,aI9,sI,sI,sPt 0,sPt 3],[.box [.cst (.ptr 3 0),lI] false,.box [i7,lI,i7,i7,i7,lI,i7] false,.box [i7,lI,i7,i7,i7,lI,i7] false,.box [lZ (.int .u8),lI] false],fun⟨⟨_,_,_,_,a,b,_⟩,⟨⟨_,c,_⟩,⟨_,d,_,_,_,e,_⟩,⟨_,f,_,_,_,g,_⟩,⟨i,j,_⟩,_⟩⟩ k=>jC a (fun y20=>k (.exit 0) ⟨[(0,.ptr 0 0),(2,.ptr 1 0),(3,.ptr 2 0),(5,.own 3),(88,.ptr 0 0),(89,.ptr 4 0)],[.box [.ptr 4 0,vI c] false,.box [fF,vI d,fF,fF,fF,vI e,fF] false,.box [fF,vI f,fF,fF,fF,vI g,fF] false,.lst true cE y20.1 false,.box [vZ (.int .u8) y20.2.1,vI y20.2.2] false]⟩) (b,([]:List Int),i,j)⟩
def vR:Ent:=⟨[0,2,3,52,53,88,89],[sPt 0,sPt 1,sPt 2,sI,sI,sPt 0,sPt 3],[.box [.cst (.ptr 3 0),lI] false,.box [i7,lI,i7,i7,i7,lI,i7] false,.box [.cst (.own 4),lI,.cst (.own 5),i7,i7,lI,i7] false,.box [lZ (.int .u8),lI] false,oQa,.lst true dJ false],fun⟨⟨_,_,_,a,b,_⟩,⟨⟨_,c,_⟩,⟨_,d,_,_,_,e,_⟩,⟨_,f,_,_,_,g,_⟩,⟨i,j,_⟩,l,m,_⟩⟩ k=>iZ a (fun y21=>k (.exit 2) ⟨[(0,.ptr 0 0),(2,.ptr 1 0),(3,.ptr 2 0),(88,.ptr 0 0),(89,.ptr 3 0)],[.box [.ptr 3 0,vI c] false,.box [fF,vI d,fF,fF,fF,vI e,fF] false,.box [.own 4,vI f,.own 5,.own 6,fF,vI g,fF] false,.box [vZ (.int .u8) y21.1,vI y21.2.1] false,.lst true cE l false,.lst true dJ m false,.lst true kW y21.2.2 false]⟩) (b,i,j,([]:List Int))⟩
def vN:Ent:=⟨[2,3,88,89],[sPt 0,sPt 1,sPt 2,sPt 3],[.box [i7,lI,i7,i7,i7,lI,i7] false,.box [.cst (.own 4),lI,.cst (.own 5),.cst (.own 6),.cst (.own 7),lI,.cst (.own 8)] false,.box [.cst (.ptr 3 0),lI] false,.box [lZ (.int .u8),lI] false,oQa,.lst true dJ false,oQc,oQa,.lst true dJ false],fun⟨_,⟨_,⟨_,c,_,_,_,d,_⟩,⟨_,e,_⟩,⟨f,g,_⟩,i,j,l,m,n,_⟩⟩ k=>iY (fun _=>k .ret ⟨[(2,.ptr 0 0),(88,.ptr 1 0),(89,.ptr 2 0)],[.box [.own 3,vI c,.own 4,.own 5,.own 6,vI d,.own 7] false,.box [.ptr 2 0,vI e] false,.box [vZ (.int .u8) f,vI g] false,.lst true cE i false,.lst true dJ j false,.lst true kW l false,.lst true cE m false,.lst true dJ n false]⟩)⟩
def jO:=TbM.put vP zP tt 36 Tryz.func36 [2,88,89] [(245,[⟨2,some 0,false,cE⟩,⟨2,some 2,false,dJ⟩,⟨2,some 3,false,kW⟩,⟨2,some 4,false,cE⟩,⟨2,some 6,false,dJ⟩,⟨89,some 0,true,(.int .u8)⟩]),(506,[⟨5,none,false,cE⟩]),(2037,[⟨2,some 0,false,cE⟩,⟨2,some 2,false,dJ⟩,⟨2,some 3,false,kW⟩,⟨2,some 4,false,cE⟩,⟨2,some 6,false,dJ⟩,⟨89,some 0,true,(.int .u8)⟩]),(4090,[⟨3,some 3,false,kW⟩]),(8173,[⟨2,some 0,false,cE⟩,⟨2,some 2,false,dJ⟩,⟨2,some 3,false,kW⟩,⟨2,some 4,false,cE⟩,⟨2,some 6,false,dJ⟩,⟨89,some 0,true,(.int .u8)⟩]),(16373,[⟨2,some 0,false,cE⟩,⟨2,some 2,false,dJ⟩,⟨2,some 3,false,kW⟩,⟨2,some 4,false,cE⟩,⟨2,some 6,false,dJ⟩,⟨89,some 0,true,(.int .u8)⟩]),(16383,[⟨2,some 0,false,cE⟩,⟨2,some 2,false,dJ⟩,⟨2,some 3,false,kW⟩,⟨2,some 4,false,cE⟩,⟨2,some 6,false,dJ⟩,⟨89,some 0,true,(.int .u8)⟩]),(32762,[⟨3,some 4,false,cE⟩,⟨3,some 6,false,dJ⟩]),(32763,[⟨3,some 4,false,cE⟩,⟨3,some 6,false,dJ⟩])] [(506,vS),(4090,vR),(8191,vN)] [sPt 0] [.box [.cst (.ptr 1 0),lI] false,.box [lZ (.int .u8),lI] false] (fun x Q=>lY x.2.1.2.1 x.2.2.1.1 x.2.2.1.2.1 (fun y=>Q [.agg [.own 2,vI y.1,.own 3,.own 4,.own 5,vI y.2.1,.own 6]] [.box [.ptr 1 0,vI y.2.2.1] false,.box [vZ (.int .u8) y.2.2.2.1,vI y.2.2.2.2.1] false,.lst true cE y.2.2.2.2.2.1 false,.lst true dJ y.2.2.2.2.2.2.1 false,.lst true kW y.2.2.2.2.2.2.2.1 false,.lst true cE y.2.2.2.2.2.2.2.2.1 false,.lst true dJ y.2.2.2.2.2.2.2.2.2 false])) ⟨fun _ _ hs ⟨⟨_,_,_,_,a,b,_⟩,⟨⟨_,c,_⟩,⟨_,d,_,_,_,e,_⟩,⟨_,f,_,_,_,g,_⟩,⟨i,j,_⟩,_⟩⟩ _ h=>mA hs (fun y=>⟨[(0,.ptr 0 0),(2,.ptr 1 0),(3,.ptr 2 0),(5,.own 3),(21,vI a),(22,vI y.1),(88,.ptr 0 0),(89,.ptr 4 0)],[.box [.ptr 4 0,vI c] false,.box [fF,vI d,fF,fF,fF,vI e,fF] false,.box [fF,vI f,fF,fF,fF,vI g,fF] false,.lst true cE y.2.1 false,.box [vZ (.int .u8) y.2.2.1,vI y.2.2.2] false]⟩) (b,([]:List Int),i,j) h.it,fun _ _ hs ⟨⟨_,_,_,a,b,_⟩,⟨⟨_,c,_⟩,⟨_,d,_,_,_,e,_⟩,⟨_,f,_,_,_,g,_⟩,⟨i,j,_⟩,l,m,_⟩⟩ _ h=>mA hs (fun y=>⟨[(0,.ptr 0 0),(2,.ptr 1 0),(3,.ptr 2 0),(52,vI a),(53,vI y.1),(88,.ptr 0 0),(89,.ptr 3 0)],[.box [.ptr 3 0,vI c] false,.box [fF,vI d,fF,fF,fF,vI e,fF] false,.box [.own 4,vI f,.own 5,.own 6,fF,vI g,fF] false,.box [vZ (.int .u8) y.2.1,vI y.2.2.1] false,.lst true cE l false,.lst true dJ m false,.lst true kW y.2.2.2 false]⟩) (b,i,j,([]:List Int)) h.it,fun _ _ hs ⟨_,⟨_,⟨_,_,_,_,_,_,_⟩,⟨_,_,_⟩,⟨_,_,_⟩,_,_,_,_,_,_⟩⟩ _ h=>fQ hs h.it,trivial⟩ (fun _ _ h=>⟨_,h.it,by kernel_rfl⟩)
def mM (x0:Int)(K0:(Int×(List Int)×Int×List pC)->Prop)(s:Int×Int×(List Int)×Int×List pC)(nx:(Int×Int×(List Int)×Int×List pC)->Prop):Prop :=
 if ((s.2.1==0)&&(decide (s.1<x0)))=true then lY s.2.1 s.2.2.1 s.2.2.2.1 (fun y10=>ck ((s.2.2.2.2.length+[((y10.2.2.2.2.2.1,(y10.1,y10.2.2.2.2.2.2.1)),(y10.2.2.2.2.2.2.2.1,(y10.2.2.2.2.2.2.2.2.1,(y10.2.1,y10.2.2.2.2.2.2.2.2.2))))].length)*136<=140737488355328) (nx (i64.wrap (s.1+1),y10.2.2.1,y10.2.2.2.1,y10.2.2.2.2.1,s.2.2.2.2++[((y10.2.2.2.2.2.1,(y10.1,y10.2.2.2.2.2.2.1)),(y10.2.2.2.2.2.2.2.1,(y10.2.2.2.2.2.2.2.2.1,(y10.2.1,y10.2.2.2.2.2.2.2.2.2))))])))else K0 (s.2.1,s.2.2.1,s.2.2.2.1,s.2.2.2.2)
structure pH (x0:Int)(K0:(Int×(List Int)×Int×List pC)->Prop)(s:Int×Int×(List Int)×Int×List pC):Prop where
 it:Go.Mach.Loop (mM x0 K0) s
structure qA (a0:List Int)(Q:(aFm×Int)->Prop):Prop where
 it:pK a0 (fun y1=>fT 4 y1.1 y1.2 (fun y2=>bZ ((pD y2.1).toList==(⟨#[112,100,115,116]⟩:ByteArray).toList) 0 y2.2.1 y2.2.2 (fun y3=>nZ y3.2.2.1 y3.2.2.2 (fun y4=>j9 y4.2.1 y4.2.2 (fun y5=>bZ (decide ((i64.wrap y5.1)<=1000000)) y3.2.1 y5.2.1 y5.2.2 (fun y6=>cL y6.2.2.1 y6.2.2.2 (fun y7=>bZ (decide (y7.1<=12)) y6.2.1 y7.2.1 y7.2.2 (fun y8=>pH y7.1 (fun y11=>if (y11.1==0)=true then cQ y11.2.1 y11.2.2.1 (fun y12=>if (y12.1 != 0)=true then Q ((0,(0,([]:List pC))),y12.1)else Q ((y4.1,((i64.wrap y5.1),y11.2.2.2)),0))else if (y11.1 != 0)=true then Q ((0,(0,([]:List pC))),y11.1)else Q ((y4.1,((i64.wrap y5.1),y11.2.2.2)),0)) (0,y8.2.1,y8.2.2.1,y8.2.2.2,([]:List pC))))))))))
def GG:Ent:=⟨[2,4,5,6,7],[sPt 0,sPt 1,sPt 2,sI,sI],[.box [.int .u64,lI,i7] false,.box [.cst (.ptr 3 0),lI] false,.box [.int .u64,lI,i7] false,.box [lZ (.int .u8),lI] false],fun⟨⟨_,_,_,a,b,_⟩,⟨⟨c,d,_⟩,⟨_,e,_⟩,⟨f,g,_⟩,⟨i,j,_⟩,_⟩⟩ k=>pH a (fun y13=>k (.exit 0) ⟨[(2,.ptr 0 0),(4,.ptr 1 0),(5,.ptr 2 0)],[.box [vK .u64 c,vI d,fF] false,.box [.ptr 3 0,vI y13.1] false,.box [vK .u64 f,vI g,.own 4] false,.box [vZ (.int .u8) y13.2.1,vI y13.2.2.1] false,.lst true pM y13.2.2.2 false]⟩) (b,e,i,j,([]:List pC))⟩
def KZ:=zP.putX tt 9 Tryz.func9 [2,3] [(2042,[⟨5,some 2,false,pM⟩])] [(2042,GG)] [sZ (.int .u8)] [] [(true,aFB),(false,cE)] (fun x=>qA x.1) [] (some jO.inl) false 0 (hI1 jO.inl_ok) ⟨fun _ _ hs ⟨⟨_,_,_,a,b,_⟩,⟨⟨c,d,_⟩,⟨_,e,_⟩,⟨f,g,_⟩,⟨i,j,_⟩,_⟩⟩ _ h=>mA hs (fun y=>⟨[(2,.ptr 0 0),(4,.ptr 1 0),(5,.ptr 2 0),(6,vI a),(7,vI y.1)],[.box [vK .u64 c,vI d,fF] false,.box [.ptr 3 0,vI y.2.1] false,.box [vK .u64 f,vI g,.own 4] false,.box [vZ (.int .u8) y.2.2.1,vI y.2.2.2.1] false,.lst true pM y.2.2.2.2 false]⟩) (b,e,i,j,([]:List pC)) h.it,trivial⟩ fun _ _ h=>⟨_,h.it,by kernel_rfl⟩
structure zO (a0:kX)(a1 a2 a3 a4 a5:Int)(a6:List kX)(Q:Bool->Prop):Prop where
 it:sK ((a1,(a2,a3)),(a4,(a5,a6))) a0 (fun r1=>Q (!r1))
def GC:=KZ.put tt 61 Tryz.func61 [3] [] [] [.agg [lZ dJ,lI],.bx [lI,lI,lI,lI,lI,lZ nR]] [] [(false,.bool)] (fun x=>zO (x.1.1,x.1.2.1) x.2.1.1 x.2.1.2.1 x.2.1.2.2.1 x.2.1.2.2.2.1 x.2.1.2.2.2.2.1 x.2.1.2.2.2.2.2.1) trivial fun _ _ h=>⟨_,h.it,by kernel_rfl⟩
def bA (x0:List kX)(x1 x2 x3 x4 x5:Int)(x6:List kX)(x7:Int)(K0:Unit->Prop)(K1:Int->Prop)(s:Int)(nx:Int->Prop):Prop :=
 if (decide (s<x7))=true then ck (iQ s x0.length) (zO (x0.getD ((s).toNat) ([],0)) x1 x2 x3 x4 x5 x6 (fun r1=>if r1=true then K1 s else nx (i64.wrap (s+1))))else K0 ()
structure cB (x0:List kX)(x1 x2 x3 x4 x5:Int)(x6:List kX)(x7:Int)(K0:Unit->Prop)(K1:Int->Prop)(s:Int):Prop where
 it:Go.Mach.Loop (bA x0 x1 x2 x3 x4 x5 x6 x7 K0 K1) s
structure cJ (a0:List kX)(a1 a2 a3 a4 a5:Int)(a6:List kX)(Q:Int->Prop):Prop where
 it:cB a0 a1 a2 a3 a4 a5 a6 (a0.length:Int) (fun _=>Q (-1)) (fun y3=>Q y3) 0
def eN:Ent:=⟨[0,1,7,8],[sZ nR,.fn 61 [.bx [lI,lI,lI,lI,lI,lZ nR]],sI,sI],[],fun⟨⟨a,⟨⟨b,c,d,e,f,g,_⟩,_⟩,i,j,_⟩,_⟩ k=>cB a b c d e f g i (fun _=>k (.exit 0) ⟨[],[]⟩) (fun y5=>k .ret ⟨[(4,vI y5)],[]⟩) j⟩
def eX:=GC.putX tt 94 Tryz.func94 [4] [] [(26,eN)] [sZ nR,.fn 61 [.bx [lI,lI,lI,lI,lI,lZ nR]]] [] [(false,cE)] (fun x=>cJ x.1 x.2.1.1.1 x.2.1.1.2.1 x.2.1.1.2.2.1 x.2.1.1.2.2.2.1 x.2.1.1.2.2.2.2.1 x.2.1.1.2.2.2.2.2.1) [61] none false 0 hI0 ⟨fun _ _ hs ⟨⟨a,⟨⟨b,c,d,e,f,g,_⟩,_⟩,i,j,_⟩,_⟩ _ h=>cP hs (fun y=>⟨⟨a,⟨⟨b,c,d,e,f,g,()⟩,()⟩,i,y,()⟩,()⟩) j h.it,trivial⟩ fun _ _ h=>⟨_,h.it,by kernel_rfl⟩
structure cC (a0:List kX)(a1 a2 a3 a4 a5:Int)(a6:List kX)(Q:Bool->Prop):Prop where
 it:cJ a0 a1 a2 a3 a4 a5 a6 (fun r1=>Q (decide (0<=r1)))
def eG:=eX.putX tt 60 Tryz.func60 [4] [] [] [sZ nR,.fn 61 [.bx [lI,lI,lI,lI,lI,lZ nR]]] [] [(false,.bool)] (fun x=>cC x.1 x.2.1.1.1 x.2.1.1.2.1 x.2.1.1.2.2.1 x.2.1.1.2.2.2.1 x.2.1.1.2.2.2.2.1 x.2.1.1.2.2.2.2.2.1) [61] none false 0 hI0 trivial fun _ _ h=>⟨_,h.it,by kernel_rfl⟩
structure w8 (a0:Y5)(Q:Bool->Prop):Prop where
 it:p7 a0 (a0.2.2.2.length:Int) (fun r1=>jn (fun v2=>Q v2) (fun J3=>if r1=true then cC a0.2.2.2 a0.1.1 a0.1.2.1 a0.1.2.2 a0.2.1 a0.2.2.1 a0.2.2.2 (fun r4=>J3 (!r4))else J3 false))
def iV:=eG.put tt 28 Tryz.func28 [2] [] [] [.agg [lI,lI,lI,lI,lI,lZ nR]] [] [(false,.bool)] (fun x=>w8 ((x.1.1,(x.1.2.1,x.1.2.2.1)),(x.1.2.2.2.1,(x.1.2.2.2.2.1,x.1.2.2.2.2.2.1)))) trivial fun _ _ h=>⟨_,h.it,by kernel_rfl⟩
structure oA (a0:List Int)(Q:(List Int)->Prop):Prop where
 it:ck (a0.length*1<=140737488355328) (Q a0)
def zY:=TbM.put jO iV tt 29 Tryz.func29 [15,16] [] [] [sPt 0,sC (.own 1)] [.box [i7] false,.lst true (.int .u8) false] (fun x Q=>oA x.2.2.1 (fun y=>Q [] [.box [.own 2] false,.dead false,.lst true (.int .u8) y false])) trivial (fun _ _ h=>⟨_,h.it,by kernel_rfl⟩)
def jB (x0 x1 x2:Int)(K0:(List Int)->Prop)(s:Int×List Int)(nx:(Int×List Int)->Prop):Prop :=
 if (decide (s.1<x2))=true then ck ((0:Int)<=(i64.wrap (8*(i64.wrap ((i64.wrap (x1-1))-s.1))))) (ck ((s.2.length+[u8.wrap ((x0).fdiv (2 ^ (min (i64.wrap (8*(i64.wrap ((i64.wrap (x1-1))-s.1)))).toNat (u64).bits)))].length)*1<=140737488355328) (nx (i64.wrap (s.1+1),s.2++[u8.wrap ((x0).fdiv (2 ^ (min (i64.wrap (8*(i64.wrap ((i64.wrap (x1-1))-s.1)))).toNat (u64).bits)))])))else K0 s.2
structure pL (x0 x1 x2:Int)(K0:(List Int)->Prop)(s:Int×List Int):Prop where
 it:Go.Mach.Loop (jB x0 x1 x2 K0) s
structure fU (a0 a1:Int)(a2:List Int)(Q:(List Int)->Prop):Prop where
 it:pL a0 a1 a1 (fun y1=>Q y1) (0,a2)
def yY:Ent:=⟨[0,1,2,9,10,31,32],[sPt 0,.lf (.int .u64),sI,sI,sI,sPt 0,sC (.own 1)],[.box [.cst (.own 2)] false,.dead,.lst true (.int .u8) false],fun⟨⟨_,a,b,c,d,_⟩,⟨_,_,e,_⟩⟩ k=>pL a b c (fun y2=>k (.exit 0) ⟨[(31,.ptr 0 0),(32,.own 1)],[.box [.own 2] false,.dead false,.lst true (.int .u8) y2 false]⟩) (d,e)⟩
def A8:=TbM.put zY iV tt 62 Tryz.func62 [31,32] [] [(14,yY)] [sPt 0,.lf (.int .u64),sI] [.box [.cst (.own 1)] false,.lst true (.int .u8) false] (fun x Q=>fU x.1.2.1 x.1.2.2.1 x.2.2.1 (fun y=>Q [] [.box [.own 2] false,.dead false,.lst true (.int .u8) y false])) ⟨fun _ _ hs ⟨⟨_,a,b,c,d,_⟩,⟨_,_,e,_⟩⟩ _ h=>cP hs (fun y=>⟨⟨(),a,b,c,y.1,(),(),()⟩,⟨⟨(),()⟩,(),y.2,()⟩⟩) (d,e) h.it,trivial⟩ (fun _ _ h=>⟨_,h.it,by kernel_rfl⟩)
structure dO (a0:Int)(a1:List Int)(Q:(List Int)->Prop):Prop where
 it:fU (u64.wrap a0) 1 a1 (fun y1=>Q y1)
def CT:=TbM.put A8 iV tt 30 Tryz.func30 [8,9] [] [] [sPt 0,sI] [.box [.cst (.own 1)] false,.lst true (.int .u8) false] (fun x Q=>dO x.1.2.1 x.2.2.1 (fun y=>Q [] [.box [.own 2] false,.dead false,.lst true (.int .u8) y false])) trivial (fun _ _ h=>⟨_,h.it,by kernel_rfl⟩)
structure gX (a0:Int)(a1:List Int)(Q:(List Int)->Prop):Prop where
 it:fU (u64.wrap a0) 2 a1 (fun y1=>Q y1)
def BG:=TbM.put CT iV tt 31 Tryz.func31 [8,9] [] [] [sPt 0,sI] [.box [.cst (.own 1)] false,.lst true (.int .u8) false] (fun x Q=>gX x.1.2.1 x.2.2.1 (fun y=>Q [] [.box [.own 2] false,.dead false,.lst true (.int .u8) y false])) trivial (fun _ _ h=>⟨_,h.it,by kernel_rfl⟩)
structure lQ (a0:List Int)(Q:((List Int)×List Int)->Prop):Prop where
 it:dZ a0 (fun r1=>Q (r1,a0))
def jR:=TbM.put BG iV tt 32 Tryz.func32 [2,10,11] [(15,[⟨2,none,true,(.int .u8)⟩]),(53,[⟨2,none,true,(.int .u8)⟩])] [] [sPt 0] [.box [.cst (.own 1)] false,.lst true (.int .u8) false] (fun x Q=>lQ x.2.2.1 (fun y=>Q [vZ (.int .u8) y.1] [.box [.own 2] false,.dead false,.lst true (.int .u8) y.2 false])) trivial (fun _ _ h=>⟨_,h.it,by kernel_rfl⟩)
def kR (x0 x1 x2 x3 x4:Int)(K0:(List Int)->Prop)(s:Int×List Int)(nx:(Int×List Int)->Prop):Prop :=
 if (decide (s.1<5))=true then ck ((0:Int)<=s.1/\s.1<((5:Nat):Int)) (dO ([x0,x1,x2,x3,x4].getD ((s.1).toNat) 0) s.2 (fun y3=>nx (i64.wrap (s.1+1),y3)))else K0 s.2
structure mK (x0 x1 x2 x3 x4:Int)(K0:(List Int)->Prop)(s:Int×List Int):Prop where
 it:Go.Mach.Loop (kR x0 x1 x2 x3 x4 K0) s
def kO (x3:List Int)(x4:Int)(K0:(List Int)->Prop)(s:Int×List Int)(nx:(Int×List Int)->Prop):Prop :=
 if (decide (s.1<x4))=true then ck (iQ s.1 x3.length) (dO (i64.wrap (x3.getD ((s.1).toNat) 0)) s.2 (fun y7=>nx (i64.wrap (s.1+1),y7)))else K0 s.2
structure mO (x3:List Int)(x4:Int)(K0:(List Int)->Prop)(s:Int×List Int):Prop where
 it:Go.Mach.Loop (kO x3 x4 K0) s
def kL (x0:List kX)(x1:Int)(K0:(List Int)->Prop)(s:Int×List Int)(nx:(Int×List Int)->Prop):Prop :=
 if (decide (s.1<x1))=true then ck (iQ s.1 x0.length) (dO ((x0.getD ((s.1).toNat) ([],0)).2) s.2 (fun y6=>mO ((x0.getD ((s.1).toNat) ([],0)).1) (((x0.getD ((s.1).toNat) ([],0)).1).length:Int) (fun y7=>nx (i64.wrap (s.1+1),y7)) (0,y6)))else K0 s.2
structure nA (x0:List kX)(x1:Int)(K0:(List Int)->Prop)(s:Int×List Int):Prop where
 it:Go.Mach.Loop (kL x0 x1 K0) s
structure mU (a0:Y5)(Q:((List Int)×Int)->Prop):Prop where
 it:w8 a0 (fun r1=>if (!r1)=true then Q (([]:List Int),1)else ck (([112,100,100,115]:List Int)≠[]) (oA [112,100,100,115] (fun y2=>mK a0.1.1 a0.1.2.1 a0.1.2.2 a0.2.1 a0.2.2.1 (fun y4=>gX (a0.2.2.2.length:Int) y4 (fun y5=>nA a0.2.2.2 (a0.2.2.2.length:Int) (fun y8=>lQ y8 (fun y9=>Q (y9.1,0))) (0,y5))) (0,y2))))
def CB:Ent:=⟨[1,4,33,34],[sPt 0,sPt 1,.agg [lI,lI,lI,lI,lI],sI],[.box [lI,lI,lI,lI,lI,lZ nR] false,.box [.cst (.own 2)] false,.lst true (.int .u8) false],fun⟨⟨_,_,⟨a,b,c,d,e,_⟩,f,_⟩,⟨⟨g,i,j,l,m,n,_⟩,_,o,_⟩⟩ k=>mK a b c d e (fun y10=>k (.exit 0) ⟨[(1,.ptr 0 0),(4,.ptr 1 0)],[.box [vI g,vI i,vI j,vI l,vI m,vZ nR n] false,.box [.own 2] false,.lst true (.int .u8) y10 false]⟩) (f,o)⟩
def BT:Ent:=⟨[4,47,48,49],[sPt 0,sZ nR,sI,sI],[.box [.cst (.own 1)] false,.lst true (.int .u8) false],fun⟨⟨_,a,b,c,_⟩,⟨_,d,_⟩⟩ k=>nA a b (fun y11=>k (.exit 2) ⟨[(4,.ptr 0 0)],[.box [.own 1] false,.lst true (.int .u8) y11 false]⟩) (c,d)⟩
def C1:Ent:=⟨[4,47,48,49,58,59,60],[sPt 0,sZ nR,sI,sI,sZ dJ,sI,sI],[.box [.cst (.own 1)] false,.lst true (.int .u8) false],fun⟨⟨_,a,b,c,d,e,f,_⟩,⟨_,g,_⟩⟩ k=>mO d e (fun y12=>k (.exit 4) ⟨[(4,.ptr 0 0),(47,vZ nR a),(48,vI b),(49,vI c)],[.box [.own 1] false,.lst true (.int .u8) y12 false]⟩) (f,g)⟩
def EM:=iV.putX tt 8 Tryz.func8 [2,3] [] [(250,CB),(1018,BT),(521422,C1)] [.agg [lI,lI,lI,lI,lI,lZ nR]] [.f] [(false,(.slc (.int .u8))),(false,cE)] (fun x=>mU ((x.1.1,(x.1.2.1,x.1.2.2.1)),(x.1.2.2.2.1,(x.1.2.2.2.2.1,x.1.2.2.2.2.2.1)))) [] (some jR.inl) false 0 (hI1 jR.inl_ok) ⟨fun _ _ hs ⟨⟨_,_,⟨a,b,c,d,e,_⟩,f,_⟩,⟨⟨g,i,j,l,m,n,_⟩,_,o,_⟩⟩ _ h=>cP hs (fun y=>⟨⟨(),(),⟨a,b,c,d,e,()⟩,y.1,()⟩,⟨⟨g,i,j,l,m,n,()⟩,⟨(),()⟩,y.2,()⟩⟩) (f,o) h.it,fun _ _ hs ⟨⟨_,a,b,c,_⟩,⟨_,d,_⟩⟩ _ h=>cP hs (fun y=>⟨⟨(),a,b,y.1,()⟩,⟨⟨(),()⟩,y.2,()⟩⟩) (c,d) h.it,fun _ _ hs ⟨⟨_,a,b,c,d,e,f,_⟩,⟨_,g,_⟩⟩ _ h=>cP hs (fun y=>⟨⟨(),a,b,c,d,e,y.1,()⟩,⟨⟨(),()⟩,y.2,()⟩⟩) (f,g) h.it,trivial⟩ fun _ _ h=>⟨_,h.it,by kernel_rfl⟩
def kE (x0 x1:List Int)(x2:Int)(K0 K1:Unit->Prop)(s:Int)(nx:Int->Prop):Prop :=
 if (decide (s<x2))=true then ck (iQ s x0.length) (ck (iQ s x1.length) (if ((x0.getD ((s).toNat) 0) != (x1.getD ((s).toNat) 0))=true then K1 ()else nx (i64.wrap (s+1))))else K0 ()
structure mC (x0 x1:List Int)(x2:Int)(K0 K1:Unit->Prop)(s:Int):Prop where
 it:Go.Mach.Loop (kE x0 x1 x2 K0 K1) s
structure jU (a0 a1:List Int)(Q:Bool->Prop):Prop where
 it:if ((a0.length:Int) != (a1.length:Int))=true then Q false else mC a0 a1 (a0.length:Int) (fun _=>Q true) (fun _=>Q false) 0
def tD:Ent:=⟨[0,1,12,13],[sZ cE,sZ cE,sI,sI],[],fun⟨⟨a,b,c,d,_⟩,_⟩ k=>mC a b c (fun _=>k (.exit 0) ⟨[],[]⟩) (fun _=>k .ret ⟨[(4,vB false)],[]⟩) d⟩
def uR:=EM.put tt 173 Tryz.func173 [4] [] [(58,tD)] [sZ cE,sZ cE] [] [(false,.bool)] (fun x=>jU x.1 x.2.1) ⟨fun _ _ hs ⟨⟨a,b,c,d,_⟩,_⟩ _ h=>cP hs (fun y=>⟨⟨a,b,c,y,()⟩,()⟩) d h.it,trivial⟩ fun _ _ h=>⟨_,h.it,by kernel_rfl⟩
structure JL (a0 a1:List Int)(Q:Bool->Prop):Prop where
 it:jU a0 a1 (fun r1=>Q r1)
def OT:=uR.put tt 167 Tryz.func167 [4] [] [] [sZ cE,sZ cE] [] [(false,.bool)] (fun x=>JL x.1 x.2.1) trivial fun _ _ h=>⟨_,h.it,by kernel_rfl⟩
def jF (x0 x1:List Int)(x2:Int)(K0 K1:Unit->Prop)(s:Int)(nx:Int->Prop):Prop :=
 if (decide (s<x2))=true then ck (iQ s x0.length) (ck (iQ s x1.length) (if ((x0.getD ((s).toNat) 0) != (x1.getD ((s).toNat) 0))=true then K1 ()else nx (i64.wrap (s+1))))else K0 ()
structure kI (x0 x1:List Int)(x2:Int)(K0 K1:Unit->Prop)(s:Int):Prop where
 it:Go.Mach.Loop (jF x0 x1 x2 K0 K1) s
structure iJ (a0 a1:List Int)(Q:Bool->Prop):Prop where
 it:if ((a0.length:Int) != (a1.length:Int))=true then Q false else kI a0 a1 (a0.length:Int) (fun _=>Q true) (fun _=>Q false) 0
def rL:Ent:=⟨[0,1,12,13],[sZ dJ,sZ dJ,sI,sI],[],fun⟨⟨a,b,c,d,_⟩,_⟩ k=>kI a b c (fun _=>k (.exit 0) ⟨[],[]⟩) (fun _=>k .ret ⟨[(4,vB false)],[]⟩) d⟩
def sT:=OT.put tt 168 Tryz.func168 [4] [] [(58,rL)] [sZ dJ,sZ dJ] [] [(false,.bool)] (fun x=>iJ x.1 x.2.1) ⟨fun _ _ hs ⟨⟨a,b,c,d,_⟩,_⟩ _ h=>cP hs (fun y=>⟨⟨a,b,c,y,()⟩,()⟩) d h.it,trivial⟩ fun _ _ h=>⟨_,h.it,by kernel_rfl⟩
structure oN (a0 a1:aDB)(Q:Bool->Prop):Prop where
 it:JL a0.1 a1.1 (fun r1=>jn (fun v2=>Q v2) (fun J3=>if (r1&&(a0.2.1==a1.2.1))=true then iJ a0.2.2 a1.2.2 (fun r4=>J3 r4)else J3 false))
def ME:=sT.put tt 131 Tryz.func131 [4] [] [] [.agg aCk,.agg aCk] [] [(false,.bool)] (fun x=>oN (x.1.1,(x.1.2.1,x.1.2.2.1)) (x.2.1.1,(x.2.1.2.1,x.2.1.2.2.1))) trivial fun _ _ h=>⟨_,h.it,by kernel_rfl⟩
def iD (x0 x1:List Int)(x2:Int)(K0 K1:Unit->Prop)(s:Int)(nx:Int->Prop):Prop :=
 if (decide (s<x2))=true then ck (iQ s x0.length) (ck (iQ s x1.length) (if ((x0.getD ((s).toNat) 0) != (x1.getD ((s).toNat) 0))=true then K1 ()else nx (i64.wrap (s+1))))else K0 ()
structure jD (x0 x1:List Int)(x2:Int)(K0 K1:Unit->Prop)(s:Int):Prop where
 it:Go.Mach.Loop (iD x0 x1 x2 K0 K1) s
structure gK (a0 a1:List Int)(Q:Bool->Prop):Prop where
 it:if ((a0.length:Int) != (a1.length:Int))=true then Q false else jD a0 a1 (a0.length:Int) (fun _=>Q true) (fun _=>Q false) 0
def pR:Ent:=⟨[0,1,12,13],[sZ kW,sZ kW,sI,sI],[],fun⟨⟨a,b,c,d,_⟩,_⟩ k=>jD a b c (fun _=>k (.exit 0) ⟨[],[]⟩) (fun _=>k .ret ⟨[(4,vB false)],[]⟩) d⟩
def rB:=ME.put tt 132 Tryz.func132 [4] [] [(58,pR)] [sZ kW,sZ kW] [] [(false,.bool)] (fun x=>gK x.1 x.2.1) ⟨fun _ _ hs ⟨⟨a,b,c,d,_⟩,_⟩ _ h=>cP hs (fun y=>⟨⟨a,b,c,y,()⟩,()⟩) d h.it,trivial⟩ fun _ _ h=>⟨_,h.it,by kernel_rfl⟩
structure sJ (a0 a1:pC)(Q:Bool->Prop):Prop where
 it:oN a0.1 a1.1 (fun r1=>jn (fun v2=>jn (fun v5=>Q v5) (fun J6=>if v2=true then oN a0.2.2 a1.2.2 (fun r7=>J6 r7)else J6 false)) (fun J3=>if r1=true then gK a0.2.1 a1.2.1 (fun r4=>J3 r4)else J3 false))
def MA:=rB.put tt 101 Tryz.func101 [4] [] [] [.agg [lZ cE,lI,lZ dJ,lZ kW,lZ cE,lI,lZ dJ],.agg [lZ cE,lI,lZ dJ,lZ kW,lZ cE,lI,lZ dJ]] [] [(false,.bool)] (fun x=>sJ ((x.1.1,(x.1.2.1,x.1.2.2.1)),(x.1.2.2.2.1,(x.1.2.2.2.2.1,(x.1.2.2.2.2.2.1,x.1.2.2.2.2.2.2.1)))) ((x.2.1.1,(x.2.1.2.1,x.2.1.2.2.1)),(x.2.1.2.2.2.1,(x.2.1.2.2.2.2.1,(x.2.1.2.2.2.2.2.1,x.2.1.2.2.2.2.2.2.1))))) trivial fun _ _ h=>⟨_,h.it,by kernel_rfl⟩
def aL (x0 x1:List pC)(x2:Int)(K0 K1:Unit->Prop)(s:Int)(nx:Int->Prop):Prop :=
 if (decide (s<x2))=true then ck (iQ s x1.length) (ck (iQ s x0.length) (sJ (x1.getD ((s).toNat) (([],(0,[])),([],([],(0,[]))))) (x0.getD ((s).toNat) (([],(0,[])),([],([],(0,[]))))) (fun r1=>if (!r1)=true then K1 ()else nx (i64.wrap (s+1)))))else K0 ()
structure bF (x0 x1:List pC)(x2:Int)(K0 K1:Unit->Prop)(s:Int):Prop where
 it:Go.Mach.Loop (aL x0 x1 x2 K0 K1) s
structure bL (a0 a1:List pC)(Q:Bool->Prop):Prop where
 it:if ((a0.length:Int) != (a1.length:Int))=true then Q false else bF a1 a0 (a0.length:Int) (fun _=>Q true) (fun _=>Q false) 0
def dG:Ent:=⟨[1,2,15,16,17],[sZ pM,sC (.fn 101 []),sZ pM,sI,sI],[],fun⟨⟨a,_,b,c,d,_⟩,_⟩ k=>bF a b c (fun _=>k (.exit 0) ⟨[],[]⟩) (fun _=>k .ret ⟨[(6,vB false)],[]⟩) d⟩
def dI:=MA.putX tt 100 Tryz.func100 [6] [] [(58,dG)] [sZ pM,sZ pM,.fn 101 []] [] [(false,.bool)] (fun x=>bL x.1 x.2.1) [101] none false 0 hI0 ⟨fun _ _ hs ⟨⟨a,_,b,c,d,_⟩,_⟩ _ h=>cP hs (fun y=>⟨⟨a,(),b,c,y,()⟩,()⟩) d h.it,trivial⟩ fun _ _ h=>⟨_,h.it,by kernel_rfl⟩
structure FZ (a0 a1:List pC)(Q:Bool->Prop):Prop where
 it:bL a0 a1 (fun r1=>Q r1)
def L5:=dI.put tt 69 Tryz.func69 [4] [] [] [sZ pM,sZ pM] [] [(false,.bool)] (fun x=>FZ x.1 x.2.1) trivial fun _ _ h=>⟨_,h.it,by kernel_rfl⟩
structure qK (a0:pC)(Q:Bool->Prop):Prop where
 it:FZ [a0] [((([]:List Int),(0,([]:List Int))),(([]:List Int),(([]:List Int),(0,([]:List Int)))))] (fun r1=>Q r1)
def PJ:=L5.put tt 40 Tryz.func40 [2] [] [] [.agg [lZ cE,lI,lZ dJ,lZ kW,lZ cE,lI,lZ dJ]] [] [(false,.bool)] (fun x=>qK ((x.1.1,(x.1.2.1,x.1.2.2.1)),(x.1.2.2.2.1,(x.1.2.2.2.2.1,(x.1.2.2.2.2.2.1,x.1.2.2.2.2.2.2.1))))) trivial fun _ _ h=>⟨_,h.it,by kernel_rfl⟩
structure D5 (a0:pC)(Q:Bool->Prop):Prop where
 it:qK a0 (fun r1=>jn (fun v2=>Q v2) (fun J3=>if r1=true then J3 true else rI a0.1 (fun r4=>jn (fun v5=>jn (fun v8=>J3 (v8&&((a0.2.2.1.length:Int)==1))) (fun J9=>if v5=true then rI a0.2.2 (fun r10=>J9 r10)else J9 false)) (fun J6=>if r4=true then sD a0 (fun r7=>J6 r7)else J6 false))))
def Q8:=PJ.put tt 68 Tryz.func68 [2] [] [] [.agg [lZ cE,lI,lZ dJ,lZ kW,lZ cE,lI,lZ dJ]] [] [(false,.bool)] (fun x=>D5 ((x.1.1,(x.1.2.1,x.1.2.2.1)),(x.1.2.2.2.1,(x.1.2.2.2.2.1,(x.1.2.2.2.2.2.1,x.1.2.2.2.2.2.2.1))))) trivial fun _ _ h=>⟨_,h.it,by kernel_rfl⟩
structure FF (a0:pC)(Q:Bool->Prop):Prop where
 it:D5 a0 (fun r1=>Q (!r1))
def MM:=Q8.put tt 67 Tryz.func67 [2] [] [] [.agg [lZ cE,lI,lZ dJ,lZ kW,lZ cE,lI,lZ dJ]] [] [(false,.bool)] (fun x=>FF ((x.1.1,(x.1.2.1,x.1.2.2.1)),(x.1.2.2.2.1,(x.1.2.2.2.2.1,(x.1.2.2.2.2.2.1,x.1.2.2.2.2.2.2.1))))) trivial fun _ _ h=>⟨_,h.it,by kernel_rfl⟩
def bI (x0:List pC)(x1:Int)(K0:Unit->Prop)(K1:Int->Prop)(s:Int)(nx:Int->Prop):Prop :=
 if (decide (s<x1))=true then ck (iQ s x0.length) (FF (x0.getD ((s).toNat) (([],(0,[])),([],([],(0,[]))))) (fun r1=>if r1=true then K1 s else nx (i64.wrap (s+1))))else K0 ()
structure cW (x0:List pC)(x1:Int)(K0:Unit->Prop)(K1:Int->Prop)(s:Int):Prop where
 it:Go.Mach.Loop (bI x0 x1 K0 K1) s
structure dD (a0:List pC)(Q:Int->Prop):Prop where
 it:cW a0 (a0.length:Int) (fun _=>Q (-1)) (fun y3=>Q y3) 0
def fK:Ent:=⟨[0,1,7,8],[sZ pM,sC (.fn 67 []),sI,sI],[],fun⟨⟨a,_,b,c,_⟩,_⟩ k=>cW a b (fun _=>k (.exit 0) ⟨[],[]⟩) (fun y5=>k .ret ⟨[(4,vI y5)],[]⟩) c⟩
def fS:=MM.putX tt 99 Tryz.func99 [4] [] [(26,fK)] [sZ pM,.fn 67 []] [] [(false,cE)] (fun x=>dD x.1) [67] none false 0 hI0 ⟨fun _ _ hs ⟨⟨a,_,b,c,_⟩,_⟩ _ h=>cP hs (fun y=>⟨⟨a,(),b,y,()⟩,()⟩) c h.it,trivial⟩ fun _ _ h=>⟨_,h.it,by kernel_rfl⟩
structure cX (a0:List pC)(Q:Bool->Prop):Prop where
 it:dD a0 (fun r1=>Q (decide (0<=r1)))
def fG:=fS.putX tt 66 Tryz.func66 [4] [] [] [sZ pM,.fn 67 []] [] [(false,.bool)] (fun x=>cX x.1) [67] none false 0 hI0 trivial fun _ _ h=>⟨_,h.it,by kernel_rfl⟩
structure DN (a0:aFm)(Q:Bool->Prop):Prop where
 it:jn (fun v1=>Q v1) (fun J2=>if (((decide (0<=a0.2.1))&&(decide (a0.2.1<=1000000)))&&(decide ((a0.2.2.length:Int)<=12)))=true then cX a0.2.2 (fun r3=>J2 (!r3))else J2 false)
def rW:=fG.put tt 37 Tryz.func37 [2] [] [] [.agg [.int .u64,lI,lZ pM]] [] [(false,.bool)] (fun x=>DN (x.1.1,(x.1.2.1,x.1.2.2.1))) trivial fun _ _ h=>⟨_,h.it,by kernel_rfl⟩
structure nW (a0:Int)(a1:List Int)(Q:(List Int)->Prop):Prop where
 it:fU a0 8 a1 (fun y1=>Q y1)
def BB:=TbM.put jR rW tt 38 Tryz.func38 [7,8] [] [] [sPt 0,.lf (.int .u64)] [.box [.cst (.own 1)] false,.lst true (.int .u8) false] (fun x Q=>nW x.1.2.1 x.2.2.1 (fun y=>Q [] [.box [.own 2] false,.dead false,.lst true (.int .u8) y false])) trivial (fun _ _ h=>⟨_,h.it,by kernel_rfl⟩)
structure kD (a0:Int)(a1:List Int)(Q:(List Int)->Prop):Prop where
 it:fU (u64.wrap a0) 4 a1 (fun y1=>Q y1)
def z8:=TbM.put BB rW tt 39 Tryz.func39 [8,9] [] [] [sPt 0,.lf (.int .u32)] [.box [.cst (.own 1)] false,.lst true (.int .u8) false] (fun x Q=>kD x.1.2.1 x.2.2.1 (fun y=>Q [] [.box [.own 2] false,.dead false,.lst true (.int .u8) y false])) trivial (fun _ _ h=>⟨_,h.it,by kernel_rfl⟩)
def lW (x0:List Int)(x1:Int)(K0:(List Int)->Prop)(s:Int×List Int)(nx:(Int×List Int)->Prop):Prop :=
 if (decide (s.1<x1))=true then ck (iQ s.1 x0.length) (dO (i64.wrap (x0.getD ((s.1).toNat) 0)) s.2 (fun y2=>nx (i64.wrap (s.1+1),y2)))else K0 s.2
structure tQ (x0:List Int)(x1:Int)(K0:(List Int)->Prop)(s:Int×List Int):Prop where
 it:Go.Mach.Loop (lW x0 x1 K0) s
structure oF (a0:List Int)(a1:Int)(a2 a3:List Int)(Q:(List Int)->Prop):Prop where
 it:dO a1 a3 (fun y1=>tQ a2 (a2.length:Int) (fun y3=>Q y3) (0,y1))
def D2:Ent:=⟨[0,11,12,13,22,23],[sPt 0,sZ dJ,sI,sI,sPt 0,sC (.own 1)],[.box [.cst (.own 2)] false,.dead,.lst true (.int .u8) false],fun⟨⟨_,a,b,c,_⟩,⟨_,_,d,_⟩⟩ k=>tQ a b (fun y4=>k (.exit 0) ⟨[(22,.ptr 0 0),(23,.own 1)],[.box [.own 2] false,.dead false,.lst true (.int .u8) y4 false]⟩) (c,d)⟩
def vG:=TbM.put z8 rW tt 41 Tryz.func41 [22,23] [] [(30,D2)] [sPt 0,.agg aCk] [.box [.cst (.own 1)] false,.lst true (.int .u8) false] (fun x Q=>oF x.1.2.1.1 x.1.2.1.2.1 x.1.2.1.2.2.1 x.2.2.1 (fun y=>Q [] [.box [.own 2] false,.dead false,.lst true (.int .u8) y false])) ⟨fun _ _ hs ⟨⟨_,a,b,c,_⟩,⟨_,_,d,_⟩⟩ _ h=>cP hs (fun y=>⟨⟨(),a,b,y.1,(),(),()⟩,⟨⟨(),()⟩,(),y.2,()⟩⟩) (c,d) h.it,trivial⟩ (fun _ _ h=>⟨_,h.it,by kernel_rfl⟩)
structure o8 (x2:Int)(K0:Int->Prop):Prop where
 it:K0 (i64.wrap (x2+1))
def mY (x3:List Int)(x4:Int)(K0:(List Int)->Prop)(s:Int×List Int)(nx:(Int×List Int)->Prop):Prop :=
 if (decide (s.1<x4))=true then ck (iQ s.1 x3.length) (gX (x3.getD ((s.1).toNat) 0) s.2 (fun y9=>nx (i64.wrap (s.1+1),y9)))else K0 s.2
structure pI (x3:List Int)(x4:Int)(K0:(List Int)->Prop)(s:Int×List Int):Prop where
 it:Go.Mach.Loop (mY x3 x4 K0) s
def mT (x3:List Int)(x4:Int)(K0:(List Int)->Prop)(s:Int×List Int)(nx:(Int×List Int)->Prop):Prop :=
 if (decide (s.1<x4))=true then ck (iQ s.1 x3.length) (kD (u32.wrap (x3.getD ((s.1).toNat) 0)) s.2 (fun y12=>nx (i64.wrap (s.1+1),y12)))else K0 s.2
structure pE (x3:List Int)(x4:Int)(K0:(List Int)->Prop)(s:Int×List Int):Prop where
 it:Go.Mach.Loop (mT x3 x4 K0) s
def mZ (x0:List pC)(x1:Int)(K0:(List Int)->Prop)(s:Int×List Int)(nx:(Int×List Int)->Prop):Prop :=
 if (decide (s.1<x1))=true then ck (iQ s.1 x0.length) (dO ((((x0.getD ((s.1).toNat) (([],(0,[])),([],([],(0,[]))))).1).1).length:Int) s.2 (fun y6=>qK (x0.getD ((s.1).toNat) (([],(0,[])),([],([],(0,[]))))) (fun r7=>if r7=true then o8 s.1 (fun y8=>nx (y8,y6))else pI (((x0.getD ((s.1).toNat) (([],(0,[])),([],([],(0,[]))))).1).1) ((((x0.getD ((s.1).toNat) (([],(0,[])),([],([],(0,[]))))).1).1).length:Int) (fun y9=>oF (((x0.getD ((s.1).toNat) (([],(0,[])),([],([],(0,[]))))).1).1) ((((x0.getD ((s.1).toNat) (([],(0,[])),([],([],(0,[]))))).1).2).1) ((((x0.getD ((s.1).toNat) (([],(0,[])),([],([],(0,[]))))).1).2).2) y9 (fun y10=>pE (((x0.getD ((s.1).toNat) (([],(0,[])),([],([],(0,[]))))).2).1) ((((x0.getD ((s.1).toNat) (([],(0,[])),([],([],(0,[]))))).2).1).length:Int) (fun y11=>ck (iQ 0 ((((x0.getD ((s.1).toNat) (([],(0,[])),([],([],(0,[]))))).2).2).1).length) (gX ((((((x0.getD ((s.1).toNat) (([],(0,[])),([],([],(0,[]))))).2).2).1)).getD 0 0) y11 (fun y12=>oF ((((x0.getD ((s.1).toNat) (([],(0,[])),([],([],(0,[]))))).2).2).1) (((((x0.getD ((s.1).toNat) (([],(0,[])),([],([],(0,[]))))).2).2).2).1) (((((x0.getD ((s.1).toNat) (([],(0,[])),([],([],(0,[]))))).2).2).2).2) y12 (fun y13=>o8 s.1 (fun y14=>nx (y14,y13)))))) (0,y10))) (0,y6))))else K0 s.2
structure pB (x0:List pC)(x1:Int)(K0:(List Int)->Prop)(s:Int×List Int):Prop where
 it:Go.Mach.Loop (mZ x0 x1 K0) s
structure pW (a0:aFm)(Q:((List Int)×Int)->Prop):Prop where
 it:DN a0 (fun r1=>if (!r1)=true then Q (([]:List Int),1)else ck (([112,100,115,116]:List Int)≠[]) (oA [112,100,115,116] (fun y2=>nW a0.1 y2 (fun y3=>kD (u32.wrap a0.2.1) y3 (fun y4=>dO (a0.2.2.length:Int) y4 (fun y5=>pB a0.2.2 (a0.2.2.length:Int) (fun y15=>lQ y15 (fun y16=>Q (y16.1,0))) (0,y5)))))))
def GV:Ent:=⟨[4,35,36,37],[sPt 0,sZ pM,sI,sI],[.box [.cst (.own 1)] false,.lst true (.int .u8) false],fun⟨⟨_,a,b,c,_⟩,⟨_,d,_⟩⟩ k=>pB a b (fun y17=>k (.exit 0) ⟨[(4,.ptr 0 0)],[.box [.own 1] false,.lst true (.int .u8) y17 false]⟩) (c,d)⟩
def GD:Ent:=⟨[4,35,36,37],[sPt 0,sZ pM,sI,sI],[.box [.cst (.own 1)] false,.lst true (.int .u8) false],fun⟨⟨_,a,b,c,_⟩,⟨_,d,_⟩⟩ k=>o8 c (fun y18=>k .normal ⟨[(4,.ptr 0 0),(35,vZ pM a),(36,vI b),(37,vI y18)],[.box [.own 1] false,.lst true (.int .u8) d false]⟩)⟩
def GQ:Ent:=⟨[4,6,35,36,37,51,52,53],[sPt 0,sPt 1,sZ pM,sI,sI,sZ cE,sI,sI],[.box [.cst (.own 2)] false,.box [lZ cE,lI,lZ dJ,lZ kW,lZ cE,lI,lZ dJ] false,.lst true (.int .u8) false],fun⟨⟨_,_,a,b,c,d,e,f,_⟩,⟨_,⟨g,i,j,l,m,n,o,_⟩,p,_⟩⟩ k=>pI d e (fun y19=>k (.exit 2) ⟨[(4,.ptr 0 0),(6,.ptr 1 0),(35,vZ pM a),(36,vI b),(37,vI c)],[.box [.own 2] false,.box [vZ cE g,vI i,vZ dJ j,vZ kW l,vZ cE m,vI n,vZ dJ o] false,.lst true (.int .u8) y19 false]⟩) (f,p)⟩
def GY:Ent:=⟨[4,6,35,36,37,66,67,68],[sPt 0,sPt 1,sZ pM,sI,sI,sZ kW,sI,sI],[.box [.cst (.own 2)] false,.box [lZ cE,lI,lZ dJ,lZ kW,lZ cE,lI,lZ dJ] false,.lst true (.int .u8) false],fun⟨⟨_,_,a,b,c,d,e,f,_⟩,⟨_,⟨g,i,j,l,m,n,o,_⟩,p,_⟩⟩ k=>pE d e (fun y20=>k (.exit 4) ⟨[(4,.ptr 0 0),(6,.ptr 1 0),(35,vZ pM a),(36,vI b),(37,vI c)],[.box [.own 2] false,.box [vZ cE g,vI i,vZ dJ j,vZ kW l,vZ cE m,vI n,vZ dJ o] false,.lst true (.int .u8) y20 false]⟩) (f,p)⟩
def IA:=rW.putX tt 10 Tryz.func10 [2,3] [] [(2042,GV),(32679,GD),(4182842,GQ),(16731386,GY)] [.agg [.int .u64,lI,lZ pM]] [.f] [(false,(.slc (.int .u8))),(false,cE)] (fun x=>pW (x.1.1,(x.1.2.1,x.1.2.2.1))) [] (some vG.inl) false 0 (hI1 vG.inl_ok) ⟨fun _ _ hs ⟨⟨_,a,b,c,_⟩,⟨_,d,_⟩⟩ _ h=>cP hs (fun y=>⟨⟨(),a,b,y.1,()⟩,⟨⟨(),()⟩,y.2,()⟩⟩) (c,d) h.it,fun _ _ hs ⟨⟨_,_,_,_,_⟩,⟨_,_,_⟩⟩ _ h=>fQ hs h.it,fun _ _ hs ⟨⟨_,_,a,b,c,d,e,f,_⟩,⟨_,⟨g,i,j,l,m,n,o,_⟩,p,_⟩⟩ _ h=>cP hs (fun y=>⟨⟨(),(),a,b,c,d,e,y.1,()⟩,⟨⟨(),()⟩,⟨g,i,j,l,m,n,o,()⟩,y.2,()⟩⟩) (f,p) h.it,fun _ _ hs ⟨⟨_,_,a,b,c,d,e,f,_⟩,⟨_,⟨g,i,j,l,m,n,o,_⟩,p,_⟩⟩ _ h=>cP hs (fun y=>⟨⟨(),(),a,b,c,d,e,y.1,()⟩,⟨⟨(),()⟩,⟨g,i,j,l,m,n,o,()⟩,y.2,()⟩⟩) (f,p) h.it,trivial⟩ fun _ _ h=>⟨_,h.it,by kernel_rfl⟩
end
end Go.Proofs.YtpigepmgheabhaaGreatDoor



namespace Go.Mach
set_option linter.unusedVariables false
set_option linter.unusedSimpArgs false
def tab (n:Nat)(f:Nat->Int):List Int:=(List.range n).map f
@[simp] theorem tab_len (n:Nat) (f:Nat->Int):(tab n f).length=n:=by simp[tab]
theorem Loop.rangeI {S:Type}{B:S->(S->Prop)->Prop}(n:Nat)(I:Nat->S->Prop){s0:S}(h0:I 0 s0)(step:∀ i,i<n->∀ s,I i s->∀ X,(∀ s',I (i+1) s'->X s')->B s X)(last:∀ s,I n s->∀ X,B s X):Loop B s0:=by
 refine Loop.inv (n:=n) (fun m s=>∃ i,i+m=n/\I i s) ⟨0,by omega,h0⟩ ?_
 rintro m s X ⟨i,hi,hI⟩ hX
 by_cases h:i<n
 ·exact step i h s hI X fun s' hI'=>hX (m-1) s' (by omega) ⟨i+1,by omega,hI'⟩
 ·have:i=n:=by omega
  subst this
  exact last s hI X
theorem Loop.all {α:Type}{B:Int->(Int->Prop)->Prop}(l:List α)(p:α->Bool){K0 K1:Prop}
 (step:∀ i (h:i<l.length) X,(p l[i]=true->X ((i+1:Nat):Int))->(p l[i]=false->K1)->B (i:Int) X) (last:K0->∀ X,B (l.length:Int) X)
 (h:if l.all p=true then K0 else K1):Loop B 0:=by
 refine Loop.range (B:=B) (f:=fun i:Nat=>(i:Int)) l.length (fun i=>∀ j (hj:j<i) (hl:j<l.length),p l[j]=true) (fun j hj=>absurd hj (by omega)) ?_ ?_
 ·intro i hi hI X hX
  refine step i hi X (fun hp=>hX fun j hj hl => ?_) (fun hp => ?_)
  ·by_cases e:j=i
   ·subst e;exact hp
   ·exact hI j (by omega) hl
  ·have : ¬ l.all p=true:=by
    rw[bW]
    intro ha
    have:=ha _ (lO hi)
    rw[hp]at this;cases this
   rwa [aC this]at h
 ·intro hI X
  refine last ?_ X
  have:l.all p=true:=by
   rw[bW]
   intro a ha
   obtain⟨j,hj,rfl⟩:=List.getElem_of_mem ha
   exact hI j hj hj
  rwa [aA this]at h
end Go.Mach

namespace Go.Proofs.YtpigepmgheabhaaGreatDoor
open IntKind (i8 i16 i32 i64 u8 u16 u32 u64)
open Go.Mach
set_option linter.unusedVariables false
set_option linter.unusedSimpArgs false
abbrev exT:Type:=List Int×Int
abbrev dsT:Type:=(Int×Int×Int)×Int×Int×List exT
abbrev tnT:Type:=List Int×Int×List Int
abbrev paT:Type:=tnT×List Int×tnT
abbrev stT:Type:=Int×Int×List paT
def Byt (l:List Int):Prop:=∀ x∈l,0<=x/\x<=255
theorem Byt.drop {l:List Int}(h:Byt l)(n:Nat):Byt (l.drop n):=fun x hx=>h x (List.mem_of_mem_drop hx)
theorem Byt.take {l:List Int}(h:Byt l)(n:Nat):Byt (l.take n):=fun x hx=>h x (List.mem_of_mem_take hx)
theorem C7 {a:List Int}{Q:List Int->Prop}(hl:a.length<=100000)(h:Q a):dZ a Q :=
 ⟨⟨fun e=>by subst e;exact h,by simp only[List.length_nil,e9,mV];omega,by rw[List.nil_append];exact h⟩⟩
def mR (n:Int)(l:List Int)(e:Int):List Int×List Int×Int :=
 if e≠0\/n<=0 then([],l,e)else if (l.length:Int)<n then([],[],4)else(l.take n.toNat,l.drop n.toNat,e)
theorem aB3 {n e:Int}{l:List Int}{Q:List Int×List Int×Int->Prop}(hl:l.length<=100000)(h:Q (mR n l e)):jE n l e Q:=by
 constructor
 simp only[jn,eK,aS]
 unfold mR at h
 by_cases h1:e≠0\/n<=0
 ·rw[aA h1]at h
  rw[aA (by simpa using h1)]
  exact h
 ·rw[aC h1]at h
  rw[aC (by simpa using h1)]
  by_cases h2:(l.length:Int)<n
  ·rw[aA h2]at h
   rw[aA (by simpa using h2)]
   exact h
  ·rw[aC h2]at h
   rw[aC (by simpa using h2)]
   have hne:l≠[]:=fun e=>by subst e;simp at h2;omega
   refine⟨⟨hne,by omega,by omega,by omega⟩,?_⟩
   simp only[Int.toNat_zero,EJ]
   refine C7 (by rw[eI];omega) ⟨⟨hne,by omega,by omega,by omega⟩,?_⟩
   simp only[Int.toNat_natCast,kK]
   exact h
def aN:List Int->Int->Int
 | [],a=>a
 | c::l,a=>aN l (a*256+c)
theorem FC (l m:List Int)(a:Int):aN (l++m) a=aN m (aN l a):=by
 induction l generalizing a with
 | nil=>rfl
 | cons c l ih=>exact ih _
theorem aD9 (a c:Int)(ha:0<=a)(hb:a<72057594037927936)(hc:0<=c/\c<=255) :
 u64.wrap ((BitVec.ofInt (u64).bits (u64.wrap (a*2 ^ (min ((8:Int)).toNat (u64).bits))) ||| BitVec.ofInt (u64).bits (u64.wrap c)).toNat:Nat)=a*256+c:=by
 obtain⟨n,rfl⟩:=ES ha
 obtain⟨m,rfl⟩:=ES hc.1
 have h1:u64.wrap ((n:Int)*2 ^ (min ((8:Int)).toNat (u64).bits))=((n*256:Nat):Int):=by
  show u64.wrap ((n:Int)*256)=_
  simp only[IntKind.wrap,IntKind.bits,IntKind.signed];simp;omega
 have h2:u64.wrap (m:Int)=(m:Int):=by
  simp only[IntKind.wrap,IntKind.bits,IntKind.signed];simp;omega
 rw[h1,h2]
 have h3:(BitVec.ofInt (u64).bits ((n*256:Nat):Int) ||| BitVec.ofInt (u64).bits (m:Int)).toNat=n*256+m:=by
  rw[BitVec.toNat_or,BitVec.ofInt_natCast,BitVec.ofInt_natCast,BitVec.toNat_ofNat,BitVec.toNat_ofNat]
  show(n*256%2 ^ 64 ||| m%2 ^ 64)=_
  rw[Nat.mod_eq_of_lt (by omega),Nat.mod_eq_of_lt (by omega)]
  have:=Nat.two_pow_add_eq_or_of_lt (i:=8) (b:=m) (by omega) n
  rw[show 2 ^ 8*n=n*256 by omega]at this
  exact this.symm
 rw[h3]
 simp only[IntKind.wrap,IntKind.bits,IntKind.signed];simp;omega
theorem aDJ {l:List Int}:∀ {a:Int} {k:Nat},Byt l->l.length<=k->0<=a->a<256 ^ (8-k)->k<=8->0<=aN l a/\aN l a<256 ^ (8-(k-l.length)):=by
 induction l with
 | nil=>intro a k _ _ h0 h1 _;exact⟨h0,by show a<_;simpa using h1⟩
 | cons c l ih =>
   intro a k hB hl h0 h1 hk
   have hc:=hB c (cN ..)
   have hl':l.length+1<=k:=hl
   have e:(256:Int) ^ (8-(k-1))=256 ^ (8-k)*256:=by rw[show 8-(k-1)=(8-k)+1 by omega,Int.pow_succ]
   have:=ih (a:=a*256+c) (k:=k-1) (fun x hx=>hB x (dA _ hx)) (by omega) (by omega) (by rw[e];omega) (by omega)
   show 0<=aN l (a*256+c)/\_
   rw[show k-(c::l).length=k-1-l.length by simp;omega]
   exact this
theorem aCY {n e:Int}{l:List Int}{Q:Int×List Int×Int->Prop}(hl:l.length<=100000)(hB:Byt l)(hn:n<=8)(h:Q (aN (mR n l e).1 0,(mR n l e).2.1,(mR n l e).2.2)):dM n l e Q:=by
 refine⟨aB3 hl ⟨?_⟩⟩
 have hT:Byt (mR n l e).1/\(mR n l e).1.length<=8:=by
  unfold mR
  split
  ·exact⟨fun x hx=>(by cases hx),(by simp)⟩
  ·split
   ·exact⟨fun x hx=>(by cases hx),(by simp)⟩
   ·refine⟨hB.take _,?_⟩
    show(List.take _ _).length<=8
    rw[eI];omega
 obtain⟨hTB,hTl⟩:=hT
 generalize (mR n l e).1=t at hTB hTl h⊢
 refine Loop.rangeI t.length (fun i s=>s=(aN (t.take i) 0,(i:Int))) rfl ?_ ?_
 ·rintro i hi s rfl X hX
  unfold gJ
  rw[aA (by simpa using hi)]
  refine⟨⟨by omega,by simpa using hi⟩,by omega,hX _ ?_⟩
  have hg:t.getD i 0=t[i]:=by rw[cH,aM hi];rfl
  have hbd:=aDJ (l:=t.take i) (a:=0) (k:=i+1) (hTB.take i) (by rw[eI];omega) (by omega) (Int.pow_pos (by omega)) (by omega)
  rw[eI,xG (by omega),show i+1-i=1 by omega]at hbd
  simp only[Int.toNat_natCast,hg]
  refine Prod.ext ?_ ?_
  ·show _=aN (t.take (i+1)) 0
   rw[List.take_succ_eq_append_getElem hi,FC]
   refine aD9 _ _ hbd.1 ?_ (hTB _ (lO hi))
   exact hbd.2
  ·show i64.wrap ((i:Int)+1)=((i+1:Nat):Int)
   simp only[IntKind.wrap,IntKind.bits,IntKind.signed];simp;omega
 ·rintro s rfl X
  unfold gJ
  rw[aC (by simp)]
  rw[kK]
  exact h
structure Read (b p l:List Int)(e:Int):Prop where
 byt:Byt l
 len:l.length<=100000
 e04:e=0\/e=4
 eq:e=0->b=p++l
theorem Read.take {b p l:List Int}{e:Int}(h:Read b p l e)(n:Int):Read b (p++(mR n l e).1) (mR n l e).2.1 (mR n l e).2.2/\Byt (mR n l e).1/\((mR n l e).1.length:Int)<=max n 0/\((mR n l e).2.2=0->e=0/\((mR n l e).1.length:Int)=max n 0):=by
 unfold mR
 split
 ·rename_i h1
  refine⟨⟨h.byt,h.len,h.e04,fun e=>by rw[bJ];exact h.eq e⟩,fun x hx=>(by cases hx),by simp;omega,fun e0=>⟨e0,?_⟩⟩
  have e0:e=0:=e0
  show((([]:List Int).length:Nat):Int)=_
  rcases h1 with h1|h1
  ·exact absurd e0 h1
  ·simp;omega
 ·rename_i h1
  split
  ·refine⟨⟨fun x hx=>(by cases hx),by simp,.inr rfl,fun e=>by cases e⟩,fun x hx=>(by cases hx),by simp;omega,fun e=>by cases e⟩
  ·rename_i h2
   refine⟨⟨h.byt.drop _,by show(List.drop _ _).length<=_;rw[oB];have:=h.len;omega,h.e04,fun e => ?_⟩,h.byt.take _,?_,fun e0=>⟨e0,?_⟩⟩
   ·show b=p++List.take _ _++List.drop _ _
    rw[bM,nV];exact h.eq e
   ·show((List.take _ _).length:Int)<=_
    rw[eI];omega
   ·show((List.take _ _).length:Int)=_
    rw[eI];omega
def iN:Nat->Int->List Int
 | 0,_=>[]
 | w+1,n=>iN w (n / 256)++[n%256]
theorem dB:∀ (w:Nat) (n:Int),(iN w n).length=w
 | 0,_=>rfl
 | w+1,n=>by rw[iN,aR,dB w];rfl
theorem tJ (t:List Int)(hB:Byt t):iN t.length (aN t 0)=t:=by
 have key:∀ (w:Nat) (t:List Int),t.length=w->Byt t->iN w (aN t 0)=t:=by
  intro w
  induction w with
  | zero=>intro t hl _;rw[List.length_eq_zero_iff.1 hl];rfl
  | succ w ih =>
    intro t hl hB
    have hne:t≠[]:=fun e=>by rw[e]at hl;cases hl
    have ht:=List.dropLast_concat_getLast hne
    have hc:=hB _ (List.getLast_mem hne)
    have hd:t.dropLast.length=w:=by rw[List.length_dropLast];omega
    have hdB:Byt t.dropLast:=fun x hx=>hB x (by rw[<- ht];exact lU _ hx)
    have e:aN t 0=aN t.dropLast 0*256+t.getLast hne:=by
     conv=>lhs;rw[<- ht]
     rw[FC];rfl
    rw[iN,e,show(aN t.dropLast 0*256+t.getLast hne) / 256=aN t.dropLast 0 by omega,show(aN t.dropLast 0*256+t.getLast hne)%256=t.getLast hne by omega,ih _ hd hdB]
    exact ht
 exact key _ t rfl hB
theorem Q3:∀ (w:Nat) (n:Int) (i:Nat) (h:i<(iN w n).length),(iN w n)[i]=n / 256 ^ (w-1-i)%256
 | 0,n,i,h=>by cases h
 | w+1,n,i,h=>by
   simp only[iN]
   rw[dB]at h
   by_cases hi:i<w
   ·rw[List.getElem_append_left (by rw[dB];exact hi),Q3 w,Int.ediv_ediv_of_nonneg (by omega),show(256:Int)*256 ^ (w-1-i)=256 ^ (w+1-1-i) by rw[show w+1-1-i=w-1-i+1 by omega,Int.pow_succ];omega]
   ·have:i=w:=by omega
    subst this
    rw[List.getElem_append_right (by rw[dB];omega)]
    simp[dB]
theorem XJ {n:Int}{w:Nat}{a:List Int}{Q:List Int->Prop}(hn:0<=n)(hw:w<=8)(ha:a.length<=1000000)(h:Q (a++iN w n)):fU n (w:Int) a Q:=by
 refine⟨⟨?_⟩⟩
 refine Loop.rangeI w (fun i s=>s=((i:Int),a++(iN w n).take i)) (by simp) ?_ ?_
 ·rintro i hi s rfl X hX
  unfold jB
  rw[aA (by simpa using hi)]
  have e1:i64.wrap ((w:Int)-1)=(w:Int)-1:=by simp only[IntKind.wrap,IntKind.bits,IntKind.signed];simp;omega
  have e2:i64.wrap ((w:Int)-1-(i:Int))=(w:Int)-1-(i:Int):=by simp only[IntKind.wrap,IntKind.bits,IntKind.signed];simp;omega
  have e3:i64.wrap (8*((w:Int)-1-(i:Int)))=8*((w:Int)-1-(i:Int)):=by simp only[IntKind.wrap,IntKind.bits,IntKind.signed];simp;omega
  simp only[e1,e2,e3]
  refine⟨by omega,by simp only[aR,eI,List.length_singleton,List.length_cons,List.length_nil];omega,hX _ ?_⟩
  refine Prod.ext ?_ ?_
  ·show i64.wrap ((i:Int)+1)=((i+1:Nat):Int)
   simp only[IntKind.wrap,IntKind.bits,IntKind.signed];simp;omega
  ·show a++List.take i (iN w n)++[_]=a++List.take (i+1) (iN w n)
   rw[List.take_succ_eq_append_getElem (by rw[dB];exact hi),bM,Q3]
   congr 2
   have e4:(min (8*((w:Int)-1-(i:Int))).toNat (u64).bits)=8*(w-1-i):=by
    show min _ 64=_
    omega
   rw[e4,Int.pow_mul,Int.fdiv_eq_ediv_of_nonneg _ (Int.pow_nonneg (by decide))]
   show [u8.wrap (n / 256 ^ (w-1-i))]=[n / 256 ^ (w-1-i)%256]
   have:0<=n / 256 ^ (w-1-i):=Int.ediv_nonneg hn (Int.pow_nonneg (by decide))
   generalize n / 256 ^ (w-1-i)=m at this⊢
   simp only[IntKind.wrap,IntKind.bits,IntKind.signed];simp
 ·rintro s rfl X
  unfold jB
  rw[aC (by simp)]
  have:(iN w n).take w=iN w n:=by rw[List.take_of_length_le (by rw[dB];omega)]
  rw[this];exact h
def yX (l:List Int)(e:Int):Int:=if e=0/\l≠[]then 5 else e
theorem ID {l:List Int}{e:Int}{Q:Int×List Int×Int->Prop}(h:Q (yX l e,l,e)):cQ l e Q:=by
 refine⟨?_⟩
 simp only[jn]
 unfold yX at h
 by_cases h1:e=0
 ·subst h1
  rw[aA (by simp)]
  by_cases h2:l=[]
  ·subst h2
   rw[aC (by simp)]at h⊢
   exact h
  ·have:=List.length_pos_iff.2 h2
   rw[aA ⟨rfl,h2⟩]at h
   rw[aA (by simpa using this)]
   exact h
 ·rw[aC (by simpa using h1)]
  rw[aC (fun k=>h1 k.1)]at h
  rw[aC (by simp)]
  exact h
end Go.Proofs.YtpigepmgheabhaaGreatDoor

namespace Go.Proofs.YtpigepmgheabhaaGreatDoor
open IntKind (i8 i16 i32 i64 u8 u16 u32 u64)
open Go.Mach
set_option linter.unusedVariables false
set_option linter.unusedSimpArgs false
section
variable {b p l:List Int} {e:Int}
theorem fM {x:Int}(h : -9223372036854775808<=x/\x<=9223372036854775807):i64.wrap x=x:=by
 simp only[IntKind.wrap,IntKind.bits,IntKind.signed];simp;omega
theorem Z1 (n:Int)(l:List Int)(e:Int):(mR n l e).1.length<=l.length:=by
 unfold mR
 split
 ·simp
 ·split
  ·simp
  ·show(List.take _ _).length<=_
   rw[eI];omega
theorem W6 {n:Int}{Q:List Int×List Int×Int->Prop}(hR:Read b p l e)(h:∀ t l' e',Read b (p++t) l' e'->Byt t->t.length<=100000->(e'=0->e=0/\(t.length:Int)=max n 0)->Q (t,l',e')):fT n l e Q:=by
 have:=hR.take n
 exact⟨aB3 hR.len (h _ _ _ this.1 this.2.1 (bY (Z1 n l e) hR.len) this.2.2.2)⟩
theorem OX {t:List Int}{w:Nat}(hB:Byt t)(hl:t.length<=w)(hw:w<=8):0<=aN t 0/\aN t 0<256 ^ w:=by
 have key:∀ (t:List Int) (a:Int),Byt t->0<=a->0<=aN t a/\aN t a<(a+1)*256 ^ t.length:=by
  intro t
  induction t with
  | nil=>intro a _ h;exact⟨h,by show a<_;simp;omega⟩
  | cons c t ih =>
    intro a hB h
    have hc:=hB c (cN ..)
    have:=ih (a*256+c) (fun x hx=>hB x (dA _ hx)) (by omega)
    refine⟨this.1,Int.lt_of_lt_of_le this.2 ?_⟩
    rw[wM,Int.pow_succ,Int.mul_comm (256 ^ t.length) 256,<- Int.mul_assoc]
    exact Int.mul_le_mul_of_nonneg_right (by omega) (Int.pow_nonneg (by decide))
 have h1:=key t 0 hB (by omega)
 refine⟨h1.1,Int.lt_of_lt_of_le h1.2 ?_⟩
 rw[show((0:Int)+1)*256 ^ t.length=256 ^ t.length by omega]
 have h2:((256 ^ t.length:Nat):Int)<=((256 ^ w:Nat):Int):=Int.ofNat_le.2 (Nat.pow_le_pow_right (show 256>0 by omega) hl)
 rw[Int.natCast_pow,Int.natCast_pow]at h2
 exact h2
theorem XA {n:Nat}{Q:Int×List Int×Int->Prop}(hn:n<=8)(hR:Read b p l e)(h:∀ t l' e',Read b (p++t) l' e'->Byt t->t.length<=n->(e'=0->e=0/\t.length=n)->Q (aN t 0,l',e')):dM (n:Int) l e Q:=by
 have:=hR.take n
 refine aCY hR.len hR.byt (by omega) (h _ _ _ this.1 this.2.1 (by omega) fun e0=>⟨(this.2.2.2 e0).1,by have:=(this.2.2.2 e0).2;omega⟩)
theorem P6 {Q:Int×List Int×Int->Prop}(hR:Read b p l e)(h:∀ t l' e',Read b (p++t) l' e'->Byt t->t.length<=1->(e'=0->e=0/\t.length=1)->0<=aN t 0->aN t 0<=255->Q (aN t 0,l',e')):cL l e Q:=by
 refine⟨XA (n:=1) (by omega) hR fun t l' e' h1 h2 h3 h4 => ?_⟩
 have hb:=OX h2 h3 (by omega)
 have e1:i64.wrap (aN t 0)=aN t 0:=fM (by omega)
 simp only[e1]
 exact h t l' e' h1 h2 h3 h4 hb.1 (by omega)
theorem aBH {Q:Int×List Int×Int->Prop}(hR:Read b p l e)(h:∀ t l' e',Read b (p++t) l' e'->Byt t->t.length<=2->(e'=0->e=0/\t.length=2)->0<=aN t 0->aN t 0<=65535->Q (aN t 0,l',e')):gW l e Q:=by
 refine⟨XA (n:=2) (by omega) hR fun t l' e' h1 h2 h3 h4 => ?_⟩
 have hb:=OX h2 h3 (by omega)
 have e1:i64.wrap (aN t 0)=aN t 0:=fM (by omega)
 simp only[e1]
 exact h t l' e' h1 h2 h3 h4 hb.1 (by omega)
theorem rR {t:List Int}(hl:t.length=1):t=[aN t 0]:=by
 obtain⟨x,rfl⟩:=List.length_eq_one_iff.1 hl
 show [x]=[0*256+x]
 rw[Int.zero_mul,Int.zero_add]
end
def inB (n lo hi:Int):Bool:=decide (lo<=n)&&decide (n<=hi)
def E9 (d:dsT)(n:Int):Bool:=inB d.1.1 1 8&&inB d.1.2.1 1 16&&inB d.1.2.2 1 16&&inB d.2.1 (-64) 64&&inB d.2.2.1 2 10&&inB n 1 64
theorem UX {n lo hi:Int}{Q:Bool->Prop}(h:Q (inB n lo hi)):iF n lo hi Q:=⟨h⟩
theorem aBc {d:dsT}{n:Int}{Q:Bool->Prop}(h:Q (E9 d n)):p7 d n Q:=by
 unfold E9 at h
 refine⟨UX ?_⟩
 simp only[jn]
 cases h1:inB d.1.1 1 8 with
 | false=>simpa [h1] using h
 | true =>
   rw[aA rfl]
   refine UX ?_
   cases h2:inB d.1.2.1 1 16 with
   | false=>simpa [h1,h2] using h
   | true =>
     rw[aA rfl]
     refine UX ?_
     cases h3:inB d.1.2.2 1 16 with
     | false=>simpa [h1,h2,h3] using h
     | true =>
       rw[aA rfl]
       refine UX ?_
       cases h4:inB d.2.1 (-64) 64 with
       | false=>simpa [h1,h2,h3,h4] using h
       | true =>
         rw[aA rfl]
         refine UX ?_
         cases h5:inB d.2.2.1 2 10 with
         | false=>simpa [h1,h2,h3,h4,h5] using h
         | true =>
           rw[aA rfl]
           refine UX ?_
           simpa [h1,h2,h3,h4,h5] using h
def szF (d:dsT):Int:=d.1.1*d.1.2.1*d.1.2.2
def DSm (d:dsT):Prop:=(0<=d.1.1/\d.1.1<=255)/\(0<=d.1.2.1/\d.1.2.1<=255)/\(0<=d.1.2.2/\d.1.2.2<=255)/\(0<=d.2.2.1/\d.2.2.1<=255)
theorem HV {a b A B:Int}(h1:0<=a/\a<=A)(h2:0<=b/\b<=B):0<=a*b/\a*b<=A*B :=
 ⟨Int.mul_nonneg h1.1 h2.1,Int.mul_le_mul h1.2 h2.2 h2.1 (Int.le_trans h1.1 h1.2)⟩
theorem DSm.sz {d:dsT}(h:DSm d):0<=szF d/\szF d<=16581375:=by
 have:=HV (HV h.1 h.2.1) h.2.2.1
 exact⟨this.1,Int.le_trans this.2 (by decide)⟩
theorem aBw {d:dsT}{Q:Int->Prop}(hd:DSm d)(h:Q (szF d)):pZ d Q:=by
 have h1:=HV hd.1 hd.2.1
 have h2:=hd.sz
 refine⟨?_⟩
 rw[fM (x:=d.1.1*d.1.2.1) (by omega),fM (by unfold szF at h2;omega)]
 exact h
theorem HP {l:List Int}{a:Int}{Q:Bool->Prop}(hl:l.length<=100000)(h:Q (!(l.all fun y => !(a==y)))):eL l a Q:=by
 refine⟨⟨⟨?_⟩⟩⟩
 refine Loop.all l (fun y => !(a==y)) (K0:=Q false) (K1:=Q true) ?_ ?_ ?_
 ·intro i hi X h1 h2
  unfold fJ
  have hg:l.getD ((i:Int).toNat) 0=l[i]:=by rw[gZ,cH,aM hi];rfl
  rw[aA (by simpa using hi)]
  refine⟨⟨by omega,by simpa using hi⟩,?_⟩
  rw[hg]
  cases hc:(a==l[i])with
  | true =>
    rw[aA rfl]
    have:=h2 (by simp only[hc];rfl)
    show Q (decide (0<=(i:Int)))
    rw[show decide (0<=(i:Int))=true by simp]
    exact this
  | false =>
    rw[aC (by simp),fM (by omega)]
    exact h1 (by simp only[hc];rfl)
 ·intro hk X
  unfold fJ
  rw[aC (by simp)]
  exact hk
 ·cases hc:(l.all fun y => !(a==y))with
  | true=>rw[hc]at h;rw[aA rfl];exact h
  | false=>rw[hc]at h;rw[aC (by simp)];exact h
def xL (d:dsT)(x:exT):Bool:=((x.1.length:Int)==szF d)&&(x.1.all fun y => !((-128:Int)==y))&&inB x.2 0 (d.2.2.1-1)
theorem aEQ {d:dsT}{x:exT}{Q:Bool->Prop}(hd:DSm d)(hl:x.1.length<=100000)(h:Q (xL d x)):sK d x Q:=by
 refine⟨aBw hd ?_⟩
 simp only[jn]
 unfold xL at h
 cases h1:((x.1.length:Int)==szF d)with
 | false=>rw[h1]at h;rw[aC (by simp),aC (by simp)];exact h
 | true =>
   rw[h1]at h
   rw[aA rfl]
   refine HP hl ?_
   rw[Bool.not_not]
   cases h2:(x.1.all fun y => !((-128:Int)==y))with
   | false=>rw[h2]at h;rw[aC (by simp)];exact h
   | true =>
     rw[h2]at h
     rw[aA rfl]
     refine UX ?_
     have:=hd.2.2.2
     rw[fM (by omega)]
     exact h
theorem aFR {t:List Int}{K:List Int->Prop}(hl:t.length<=100000)(h:K (t.map fun c=>i8.wrap c)):nQ t (t.length:Int) K (0,([]:List Int)):=by
 refine⟨Loop.rangeI t.length (fun i s=>s=((i:Int),(t.take i).map fun c=>i8.wrap c)) rfl ?_ ?_⟩
 ·rintro i hi s rfl X hX
  unfold kT
  have hg:t.getD ((i:Int).toNat) 0=t[i]:=by rw[gZ,cH,aM hi];rfl
  rw[aA (by simpa using hi)]
  simp only[hg]
  refine⟨⟨by omega,by simpa using hi⟩,by simp only[e8,eI,List.length_cons,List.length_nil];omega,hX _ ?_⟩
  refine Prod.ext ?_ ?_
  ·show i64.wrap ((i:Int)+1)=((i+1:Nat):Int)
   rw[fM (by omega)];omega
  ·show List.map _ _++[_]=List.map _ _
   rw[List.take_succ_eq_append_getElem hi,uZ];rfl
 ·rintro s rfl X
  unfold kT
  rw[aC (by simp),kK]
  exact h
def exF (x:exT):List Int:=x.2%256::x.1.map fun c=>c%256
theorem V7 {c:Int}(h:0<=c/\c<=255):i8.wrap c%256=c:=by
 simp only[IntKind.wrap,IntKind.bits,IntKind.signed];simp;omega
theorem aEb {t t2:List Int}(h1:t.length=1)(hB:Byt t)(hB2:Byt t2):exF (t2.map fun c=>i8.wrap c,aN t 0)=t++t2:=by
 obtain⟨x,rfl⟩:=List.length_eq_one_iff.1 h1
 have hx:=hB x (List.mem_singleton.2 rfl)
 have e1:aN [x] 0=x:=by show 0*256+x=x;omega
 unfold exF
 simp only[e1,List.map_map]
 rw[show x%256=x by omega]
 show x::_=x::t2
 congr 1
 have:∀ c∈t2,((fun c=>c%256) ∘ fun c=>i8.wrap c) c=c:=fun c hc=>V7 (hB2 c hc)
 rw[List.map_congr_left this,List.map_id']
theorem aGR {b hd:List Int}{n:Nat}{i0 i1 i2 x cl:Int}{K:Int×List Int×Int×List exT->Prop}(hn:n<=65535)(hS:DSm ((i0,i1,i2),x,cl,[]))
 (hK:∀ e l re xs,(e=4\/e=5\/(e=0/\re=0/\Read b (hd++xs.flatMap exF) l re/\xs.length=n/\∀ y∈xs,xL ((i0,i1,i2),x,cl,[]) y=true))->K (e,l,re,xs)) {e re:Int} {l:List Int}
 (h0:e=4\/e=5\/(e=0/\re=0/\Read b hd l re)):fE (n:Int) i0 i1 i2 x cl K (e,0,l,re,([]:List exT)):=by
 refine⟨Loop.inv (n:=n) (fun m s=>s.2.1=(s.2.2.2.2.length:Int)/\s.2.2.2.2.length+m=n/\(s.1=4\/s.1=5\/(s.1=0/\s.2.2.2.1=0/\Read b (hd++s.2.2.2.2.flatMap exF) s.2.2.1 s.2.2.2.1/\∀ y∈s.2.2.2.2,xL ((i0,i1,i2),x,cl,[]) y=true))) ⟨rfl,by simp,?_⟩ ?_⟩
 ·rcases h0 with h|h|⟨h1,h2,h3⟩
  ·exact .inl h
  ·exact .inr (.inl h)
  ·exact .inr (.inr ⟨h1,h2,by simpa using h3,fun y hy=>by cases hy⟩)
 ·rintro m ⟨e,i,l,re,xs⟩ X ⟨hi,hm,hI⟩ hX
  simp only at hi hm hI
  subst hi
  unfold kS
  by_cases hc:e=0/\xs.length<n
  ·rw[aA (by simp only[aH,eP,cK];exact⟨hc.1,by omega⟩)]
   have hI:re=0/\Read b (hd++xs.flatMap exF) l re/\∀ y∈xs,xL ((i0,i1,i2),x,cl,[]) y=true:=by
    rcases hI with h|h|h
    ·omega
    ·omega
    ·exact h.2
   obtain⟨h1,hR,h3⟩:=hI
   refine P6 hR fun t l1 e1 hR1 hB1 hl1 hz1 hn0 hn1 => ?_
   refine aBw (d:=((i0,(i1,i2)),(x,(cl,xs)))) hS ?_
   have hsz:=DSm.sz hS
   refine W6 hR1 fun t2 l2 e2 hR2 hB2 hl2 hz2 => ?_
   refine aFR hl2 ?_
   refine ID ?_
   have nx:∀ e':Int,(e'=4\/e'=5\/(e'=0/\e2=0/\xL ((i0,i1,i2),x,cl,[]) (t2.map (fun c=>i8.wrap c),aN t 0)=true))->gI (aN t 0) xs (t2.map fun c=>i8.wrap c) fun _=>X (e',i64.wrap ((xs.length:Int)+1),l2,e2,xs++[(t2.map (fun c=>i8.wrap c),aN t 0)]):=by
    intro e' he'
    refine⟨⟨by simp only[List.length_cons,List.length_nil];omega,hX (m-1) _ (by omega) ⟨?_,?_,?_⟩⟩⟩
    ·show i64.wrap _=_
     rw[fM (by omega),aR];rfl
    ·show(xs++_).length+(m-1)=n
     rw[aR]
     show xs.length+1+(m-1)=n
     omega
    ·rcases he' with h|h|⟨g1,g2,g3⟩
     ·exact .inl h
     ·exact .inr (.inl h)
     ·refine .inr (.inr ⟨g1,g2,?_,?_⟩)
      ·have k2:=hz2 g2
       have k1:=hz1 k2.1
       show Read b (hd++(xs++[_]).flatMap exF) l2 e2
       rw[pG,jA,List.flatMap_nil,bJ,aEb k1.2 hB1 hB2,<- bM,<- bM]
       exact hR2
      ·intro y hy
       rcases List.mem_append.1 hy with hy|hy
       ·exact h3 y hy
       ·rw[nN]at hy
        subst hy
        exact g3
   have he2:=hR2.e04
   have hend:yX l2 e2=4 ↔ e2=4:=by
    unfold yX
    split
    ·rename_i k;omega
    ·exact Iff.rfl
   by_cases h4:e2=4
   ·rw[aA (by simpa using hend.2 h4)]
    exact nx 4 (.inl rfl)
   ·rw[aC (by simpa using fun k=>h4 (hend.1 k))]
    refine aEQ (d:=((i0,(i1,i2)),(x,(cl,xs)))) hS (by rw[e8];exact hl2) ?_
    have ho:xL ((i0,i1,i2),x,cl,xs) (t2.map (fun c=>i8.wrap c),aN t 0)=xL ((i0,i1,i2),x,cl,[]) (t2.map (fun c=>i8.wrap c),aN t 0):=rfl
    cases hone:xL ((i0,i1,i2),x,cl,[]) (t2.map (fun c=>i8.wrap c),aN t 0)with
    | true =>
      show if (!(xL ((i0,i1,i2),x,cl,xs) (t2.map (fun c=>i8.wrap c),aN t 0)))=true then _ else _
      rw[ho,hone,aC (by simp)]
      exact nx e (.inr (.inr ⟨hc.1,by omega,hone⟩))
    | false =>
      show if (!(xL ((i0,i1,i2),x,cl,xs) (t2.map (fun c=>i8.wrap c),aN t 0)))=true then _ else _
      rw[ho,hone,aA (by simp)]
      exact nx 5 (.inr (.inl rfl))
  ·rw[aC (by simp only[aH,eP,cK];intro k;exact hc ⟨k.1,by omega⟩)]
   refine hK _ _ _ _ ?_
   rcases hI with h|h|h
   ·exact .inl h
   ·exact .inr (.inl h)
   ·exact .inr (.inr ⟨h.1,h.2.1,h.2.2.1,by show xs.length=n;have : ¬ xs.length<n:=fun k=>hc ⟨h.1,k⟩;omega,h.2.2.2⟩)
end Go.Proofs.YtpigepmgheabhaaGreatDoor

namespace Go.Proofs.YtpigepmgheabhaaGreatDoor
open IntKind (i8 i16 i32 i64 u8 u16 u32 u64)
open Go.Mach
set_option linter.unusedVariables false
set_option linter.unusedSimpArgs false
def aDW (d:dsT):List Int:=[112,100,100,115]++([d.1.1%256]++[d.1.2.1%256]++[d.1.2.2%256]++[d.2.1%256]++[d.2.2.1%256])++iN 2 d.2.2.2.length++d.2.2.2.flatMap exF
def ZE (d:dsT):Bool:=E9 d d.2.2.2.length&&d.2.2.2.all (xL d)
theorem FT (s:ByteArray):∀ (n i:Nat) (r:List UInt8),s.size-i=n->ByteArray.toList.loop s i r=r.reverse++s.data.toList.drop i
 | 0,i,r,h=>by
   have e:s.data.toList.length=s.size:=by rw[xE];rfl
   rw[ByteArray.toList.loop,aC (by omega),List.drop_eq_nil_of_le (by omega),bJ]
 | n+1,i,r,h=>by
   rw[ByteArray.toList.loop,aA (by omega),FT s n (i+1) _ (by omega)]
   have e:s.data.toList.length=s.size:=by rw[xE];rfl
   have hi:i<s.data.toList.length:=by omega
   rw[wF hi]
   simp[ByteArray.get!]
   rw[getElem!_pos s.data i (by simpa using hi)]
theorem zI (s:ByteArray):s.toList=s.data.toList:=by
 unfold ByteArray.toList
 rw[FT s s.size 0 [] rfl]
 simp
theorem TG {t:List Int}{c0 c1 c2 c3:UInt8}(hB:Byt t)(h:((pD t).toList==(⟨#[c0,c1,c2,c3]⟩:ByteArray).toList)=true):t=[(c0.toNat:Int),(c1.toNat:Int),(c2.toNat:Int),(c3.toNat:Int)]:=by
 have h:=eq_of_beq h
 rw[zI,zI]at h
 have h:(t.map fun z=>UInt8.ofNat z.toNat)=[c0,c1,c2,c3]:=by simpa [pD] using h
 have key:∀ z∈t,((UInt8.ofNat z.toNat).toNat:Int)=z:=fun z hz=>by
  have:=hB z hz
  rw[UInt8.toNat_ofNat']
  omega
 have:(t.map fun z=>((UInt8.ofNat z.toNat).toNat:Int))=t:=by rw[List.map_congr_left key,List.map_id']
 rw[<- this]
 have:=congrArg (List.map fun c:UInt8=>(c.toNat:Int)) h
 rw[List.map_map]at this
 exact this
theorem aCU {n i0 i1 i2 x cl e i re:Int}{l:List Int}{xs:List exT}{K:Int×List Int×Int×List exT->Prop}(he:e≠0)(h:K (e,l,re,xs)):fE n i0 i1 i2 x cl K (e,i,l,re,xs) :=
 ⟨fun X hX=>hX _ (by unfold kS;rw[aC (by simp[he])];exact h)⟩
theorem aAh {b:List Int}{Q:dsT×Int->Prop}(hB:Byt b)(hl:b.length<=100000)(hok:∀ d,b=aDW d->ZE d=true->DSm d->Q (d,0))(hbad:∀ e,e=4\/e=5->Q (((0,(0,0)),(0,(0,[]))),e)):nP b Q:=by
 refine⟨⟨C7 hl ?_⟩⟩
 have hR0:Read b [] b 0:=⟨hB,hl,.inl rfl,fun _=>rfl⟩
 refine W6 hR0 fun t0 l0 e0 hR1 hB0 hl0 hz0 => ?_
 split
 ·exact hbad 5 (.inr rfl)
 rename_i hbeg
 refine P6 hR1 fun t1 l1 e1 hR2 hB1 hk1 hz1 ha1 hb1 => ?_
 refine P6 hR2 fun t2 l2 e2 hR3 hB2 hk2 hz2 ha2 hb2 => ?_
 refine P6 hR3 fun t3 l3 e3 hR4 hB3 hk3 hz3 ha3 hb3 => ?_
 refine P6 hR4 fun t4 l4 e4 hR5 hB4 hk4 hz4 ha4 hb4 => ?_
 refine P6 hR5 fun t5 l5 e5 hR6 hB5 hk5 hz5 ha5 hb5 => ?_
 refine aBH hR6 fun t6 l6 e6 hR7 hB6 hk6 hz6 ha6 hb6 => ?_
 refine ID ?_
 dsimp only
 have hx:i64.wrap (i8.wrap (aN t4 0))=i8.wrap (aN t4 0):=by
  simp only[IntKind.wrap,IntKind.bits,IntKind.signed];simp;omega
 rw[hx]
 obtain⟨n,hn⟩:=ES ha6
 have hS:DSm ((aN t1 0,aN t2 0,aN t3 0),i8.wrap (aN t4 0),aN t5 0,[]):=⟨⟨ha1,hb1⟩,⟨ha2,hb2⟩,⟨ha3,hb3⟩,⟨ha5,hb5⟩⟩
 have fin:∀ (e re:Int) (l:List Int) (xs:List exT),(e=4\/e=5\/(e=0/\re=0/\Read b ([]++t0++t1++t2++t3++t4++t5++t6++xs.flatMap exF) l re/\xs.length=n/\∀ y∈xs,xL ((aN t1 0,aN t2 0,aN t3 0),i8.wrap (aN t4 0),aN t5 0,[]) y=true))->(e=0->e6=0/\E9 ((aN t1 0,aN t2 0,aN t3 0),i8.wrap (aN t4 0),aN t5 0,[]) (n:Int)=true) ->
  (if (e==0)=true then cQ l re fun y21=>if (y21.1 != 0)=true then Q (((0,(0,0)),(0,(0,[]))),y21.1)else Q (((aN t1 0,aN t2 0,aN t3 0),i8.wrap (aN t4 0),aN t5 0,xs),0)else if (e != 0)=true then Q (((0,(0,0)),(0,(0,[]))),e)else Q (((aN t1 0,aN t2 0,aN t3 0),i8.wrap (aN t4 0),aN t5 0,xs),0)):=by
  intro e re l xs h hh
  by_cases he:e=0
  ·subst he
   rw[aA (show((0:Int)==0)=true from rfl)]
   refine ID ?_
   dsimp only
   have h:re=0/\Read b ([]++t0++t1++t2++t3++t4++t5++t6++xs.flatMap exF) l re/\xs.length=n/\∀ y∈xs,xL ((aN t1 0,aN t2 0,aN t3 0),i8.wrap (aN t4 0),aN t5 0,[]) y=true:=by
    rcases h with h|h|h
    ·omega
    ·omega
    ·exact h.2
   obtain⟨rfl,hR,hlen,hone⟩:=h
   obtain⟨h6,hhd⟩:=hh rfl
   unfold yX
   by_cases hnil:l=[]
   ·subst hnil
    rw[aC (by simp)]
    refine hok _ ?_ ?_ hS
    ·have:=hR.eq rfl
     have z6:=hz6 h6
     have z5:=hz5 z6.1
     have z4:=hz4 z5.1
     have z3:=hz3 z4.1
     have z2:=hz2 z3.1
     have z1:=hz1 z2.1
     have z0:=hz0 z1.1
     have k0:t0=[112,100,100,115]:=by
      have hl4:(t0.length:Int)=4:=by omega
      have:((pD t0).toList==(⟨#[112,100,100,115]⟩:ByteArray).toList)=true:=by
       simpa [hl4] using hbeg
      exact TG hB0 this
     have k1:aN t1 0%256=aN t1 0:=by omega
     have k2:aN t2 0%256=aN t2 0:=by omega
     have k3:aN t3 0%256=aN t3 0:=by omega
     have k5:aN t5 0%256=aN t5 0:=by omega
     have k6:iN 2 (n:Int)=t6:=by rw[show(n:Int)=aN t6 0 from hn.symm,<- z6.2];exact tJ t6 hB6
     show b=[112,100,100,115]++([aN t1 0%256]++[aN t2 0%256]++[aN t3 0%256]++[i8.wrap (aN t4 0)%256]++[aN t5 0%256])++iN 2 (xs.length:Int)++xs.flatMap exF
     rw[hlen,k6,k1,k2,k3,V7 ⟨ha4,hb4⟩,k5,<- rR z1.2,<- rR z2.2,<- rR z3.2,<- rR z4.2,<- rR z5.2,<- k0,this]
     simp only[List.nil_append,bJ,bM]
    ·unfold ZE
     rw[aH]
     refine⟨?_,?_⟩
     ·show E9 ((aN t1 0,aN t2 0,aN t3 0),i8.wrap (aN t4 0),aN t5 0,xs) (xs.length:Int)=true
      rw[hlen];exact hhd
     ·rw[bW];exact fun y hy=>hone y hy
   ·have e5:(if (0:Int)=0/\l≠[]then(5:Int)else 0)=5:=aA ⟨rfl,hnil⟩
    rw[e5,aA (show((5:Int) != 0)=true from rfl)]
    exact hbad 5 (.inr rfl)
  ·rw[aC (by simpa using he),aA (by simpa using he)]
   refine hbad e ?_
   rcases h with h|h|h
   ·exact .inl h
   ·exact .inr h
   ·exact absurd h.1 he
 have hn2:n<=65535:=by rw[hn]at hb6;omega
 rw[hn]
 by_cases h6:e6=0
 ·have hc:((yX l6 e6==0)||(yX l6 e6==5))=true:=by
   unfold yX
   split
   ·rfl
   ·rw[h6];rfl
  rw[aA hc]
  refine aBc ?_
  cases hh:E9 ((aN t1 0,aN t2 0,aN t3 0),i8.wrap (aN t4 0),aN t5 0,[]) (n:Int)with
  | false =>
    rw[aA (by simp)]
    exact aCU (by decide) (fin 5 e6 l6 [] (.inr (.inl rfl)) (fun k=>by cases k))
  | true =>
    rw[aC (by simp)]
    exact aGR (hd:=[]++t0++t1++t2++t3++t4++t5++t6) hn2 hS (fun e l re xs h=>fin e re l xs h fun _=>⟨h6,hh⟩) (.inr (.inr ⟨rfl,h6,hR7⟩))
 ·have h4:e6=4:=by rcases hR7.e04 with h|h;exact absurd h h6;exact h
  have hc : ¬ ((yX l6 e6==0)||(yX l6 e6==5))=true:=by
   unfold yX
   rw[aC (fun k=>h6 k.1),h4];decide
  rw[aC hc]
  have he:yX l6 e6=4:=by unfold yX;rw[aC (fun k=>h6 k.1),h4]
  rw[he]
  exact aCU (by decide) (fin 4 e6 l6 [] (.inl rfl) (fun k=>by cases k))
theorem aDj (x:Int):u64.wrap x%256=x%256:=by
 simp only[IntKind.wrap,IntKind.bits,IntKind.signed];simp
theorem YM (x:Int):i64.wrap x%256=x%256:=by
 simp only[IntKind.wrap,IntKind.bits,IntKind.signed];simp;omega
theorem PA (x:Int):0<=u64.wrap x:=by
 simp only[IntKind.wrap,IntKind.bits,IntKind.signed];simp;omega
theorem UB {x:Int}{a:List Int}{Q:List Int->Prop}(ha:a.length<=1000000)(h:Q (a++[x%256])):dO x a Q:=by
 refine⟨XJ (w:=1) (PA x) (by omega) ha ?_⟩
 show Q (a++([]++[u64.wrap x%256]))
 rw[aDj];exact h
theorem aBC {x:Int}{a:List Int}{Q:List Int->Prop}(hx:0<=x/\x<=65535)(ha:a.length<=1000000)(h:Q (a++iN 2 x)):gX x a Q:=by
 refine⟨XJ (w:=2) (PA x) (by omega) ha ?_⟩
 have:u64.wrap x=x:=by simp only[IntKind.wrap,IntKind.bits,IntKind.signed];simp;omega
 rw[this];exact h
theorem YO {d:dsT}{n:Int}(h:E9 d n=true):DSm d/\szF d<=2048/\1<=n/\n<=64:=by
 unfold E9 inB at h
 simp only[aH,cK]at h
 obtain⟨⟨⟨⟨⟨h1,h2⟩,h3⟩,h4⟩,h5⟩,h6⟩:=h
 refine⟨⟨by omega,by omega,by omega,by omega⟩,?_,h6.1,h6.2⟩
 have:=HV (HV (a:=d.1.1) (b:=d.1.2.1) (A:=8) (B:=16) (by omega) (by omega)) (b:=d.1.2.2) (B:=16) (by omega)
 exact Int.le_trans this.2 (by decide)
theorem aHd {d:dsT}{Q:Bool->Prop}(hm:ZE d=true)(h:Q true):w8 d Q:=by
 unfold ZE at hm
 rw[aH,bW]at hm
 obtain⟨h1,h2⟩:=hm
 obtain⟨hS,hsz,hn1,hn2⟩:=YO h1
 refine⟨aBc ?_⟩
 simp only[jn]
 rw[h1,aA rfl]
 refine⟨⟨⟨?_⟩⟩⟩
 refine Loop.all d.2.2.2 (xL d) (K0:=Q (!(decide (0<=(-1:Int))))) (K1:=False) ?_ ?_ ?_
 ·intro i hi X g1 g2
  unfold bA
  have hg:d.2.2.2.getD ((i:Int).toNat) ([],0)=d.2.2.2[i]:=by rw[gZ,cH,aM hi];rfl
  rw[aA (by simpa using hi)]
  refine⟨⟨by omega,by simpa using hi⟩,⟨?_⟩⟩
  rw[hg]
  have ho:=h2 _ (lO hi)
  have hlen:(d.2.2.2[i].1.length:Int)=szF d:=by
   have ho:=ho
   unfold xL at ho
   simp only[aH,eP]at ho
   exact ho.1.1
  refine aEQ (d:=((d.1.1,(d.1.2.1,d.1.2.2)),(d.2.1,(d.2.2.1,d.2.2.2)))) hS (by omega) ?_
  show if (!(xL d d.2.2.2[i]))=true then _ else _
  rw[ho,aC (by simp),fM (by omega)]
  exact g1 ho
 ·intro hk X
  unfold bA
  rw[aC (by simp)]
  exact hk
 ·rw[aA (List.all_eq_true.2 h2)]
  exact h
theorem aIW {x0 x1 x2 x3 x4:Int}{a:List Int}{K:List Int->Prop}(ha:a.length<=1000)(h:K (a++([x0%256]++[x1%256]++[x2%256]++[x3%256]++[x4%256]))):mK x0 x1 x2 x3 x4 K (0,a):=by
 refine⟨Loop.rangeI 5 (fun i s=>s=((i:Int),a++([x0,x1,x2,x3,x4].take i).map fun c=>c%256)) (by simp) ?_ ?_⟩
 ·rintro i hi s rfl X hX
  unfold kR
  have hi2:i<[x0,x1,x2,x3,x4].length:=hi
  have hg:[x0,x1,x2,x3,x4].getD ((i:Int).toNat) 0=[x0,x1,x2,x3,x4][i]:=by rw[gZ,cH,aM hi2];rfl
  rw[aA (gB (show(i:Int)<5 by omega))]
  refine⟨⟨by omega,by show(i:Int)<5;omega⟩,?_⟩
  rw[hg]
  refine UB (by simp only[aR,e8,eI];omega) (hX _ ?_)
  refine Prod.ext ?_ ?_
  ·show i64.wrap ((i:Int)+1)=((i+1:Nat):Int)
   rw[fM (by omega)];omega
  ·show a++List.map _ _++[_]=a++List.map _ _
   rw[List.take_succ_eq_append_getElem hi2,uZ,bM];rfl
 ·rintro s rfl X
  unfold kR
  rw[aC (by simp)]
  exact h
theorem aI1 {t a:List Int}{K:List Int->Prop}(ha:a.length+t.length<=1000000)(h:K (a++t.map fun c=>c%256)):mO t (t.length:Int) K (0,a):=by
 refine⟨Loop.rangeI t.length (fun i s=>s=((i:Int),a++(t.take i).map fun c=>c%256)) (by simp) ?_ ?_⟩
 ·rintro i hi s rfl X hX
  unfold kO
  have hg:t.getD ((i:Int).toNat) 0=t[i]:=by rw[gZ,cH,aM hi];rfl
  rw[aA (by simpa using hi)]
  refine⟨⟨by omega,by simpa using hi⟩,?_⟩
  rw[hg]
  refine UB (by simp only[aR,e8,eI];omega) (hX _ ?_)
  refine Prod.ext ?_ ?_
  ·show i64.wrap ((i:Int)+1)=((i+1:Nat):Int)
   rw[fM (by omega)];omega
  ·show a++List.map _ _++[_]=a++List.map _ _
   rw[List.take_succ_eq_append_getElem hi,uZ,bM,YM];rfl
 ·rintro s rfl X
  unfold kO
  rw[aC (by simp),kK]
  exact h
theorem aI7 {xs:List exT}{a:List Int}{K:List Int->Prop}(hn:xs.length<=65535)(ha:a.length+(xs.flatMap exF).length<=1000000)(h:K (a++xs.flatMap exF)):nA xs (xs.length:Int) K (0,a):=by
 have hpre:∀ i,((xs.take i).flatMap exF).length<=(xs.flatMap exF).length:=fun i=>by
  conv=>rhs;rw[<- nV i xs,pG,aR]
  omega
 refine⟨Loop.rangeI xs.length (fun i s=>s=((i:Int),a++(xs.take i).flatMap exF)) (by simp) ?_ ?_⟩
 ·rintro i hi s rfl X hX
  unfold kL
  have hg:xs.getD ((i:Int).toNat) ([],0)=xs[i]:=by rw[gZ,cH,aM hi];rfl
  rw[aA (by simpa using hi)]
  refine⟨⟨by omega,by simpa using hi⟩,?_⟩
  simp only[hg]
  have h1:=hpre (i+1)
  have e1:(xs.take (i+1)).flatMap exF=(xs.take i).flatMap exF++exF xs[i]:=by rw[List.take_succ_eq_append_getElem hi,pG,jA,List.flatMap_nil,bJ]
  have e2:(exF xs[i]).length=1+xs[i].1.length:=by unfold exF;rw[wM,e8];omega
  rw[e1,aR,e2]at h1
  refine UB (by rw[aR];omega) (aI1 (by simp only[aR,List.length_cons,List.length_nil];omega) (hX _ ?_))
  refine Prod.ext ?_ ?_
  ·show i64.wrap ((i:Int)+1)=((i+1:Nat):Int)
   rw[fM (by omega)];omega
  ·show a++_++[_]++List.map _ _=a++_
   rw[e1]
   unfold exF
   simp only[bM,List.singleton_append]
 ·rintro s rfl X
  unfold kL
  rw[aC (by simp),kK]
  exact h
theorem aBq {d:dsT}{Q:List Int×Int->Prop}(hm:ZE d=true)(hl:(aDW d).length<=100000)(h:Q (aDW d,0)):mU d Q:=by
 have hh:=hm
 unfold ZE at hh
 rw[aH]at hh
 obtain⟨hS,hsz,hn1,hn2⟩:=YO hh.1
 have hl2:=hl
 unfold aDW at hl2
 simp only[aR]at hl2
 refine⟨aHd hm ?_⟩
 rw[aC (by simp)]
 refine⟨by simp,⟨⟨by simp,aIW (by simp) (aBC (by omega) (by simp) (aI7 (by omega) (by simp only[aR];omega) ⟨C7 ?_ ?_⟩))⟩⟩⟩
 ·exact hl
 ·exact h
theorem SM {b:List Int}(hB:Byt b)(hl:b.length<=100000){Q:dsT×Int->Prop}(hok:∀ d,(∀ R:List Int×Int->Prop,R (b,0)->mU d R)->Q (d,0))(hbad:∀ e,e=4\/e=5->Q (((0,(0,0)),(0,(0,[]))),e)):nP b Q :=
 aAh hB hl (fun d e hm _=>hok d fun R hR=>aBq hm (by rw[<- e];exact hl) (by rw[<- e];exact hR)) hbad
def sgo:Int->List Int->Int
 | acc,[]=>acc
 | acc,d::r=>if ((decide (d<1)||decide (4096<d))||decide (8192<i64.wrap (acc*d)))=true then 0 else sgo (i64.wrap (acc*d)) r
def szS (l:List Int):Int:=if (decide ((l.length:Int)<1)||decide (4<(l.length:Int)))=true then 0 else sgo 1 l
theorem aBx:∀ (l:List Int) (acc:Int),acc<=8192->sgo acc l<=8192
 | [],acc,h=>h
 | d::r,acc,h=>by
   unfold sgo
   split
   ·omega
   ·rename_i hn
    simp only[iX,cK,not_or]at hn
    exact aBx r _ (by omega)
theorem aFb (l:List Int):szS l<=8192:=by
 unfold szS
 split
 ·omega
 ·exact aBx l 1 (by omega)
theorem PT {a:List Int}{Q:Int->Prop}(h:Q (szS a)):q9 a Q:=by
 refine⟨?_⟩
 unfold szS at h
 by_cases e:(decide ((a.length:Int)<1)||decide (4<(a.length:Int)))=true
 ·rw[aA e]at h⊢;exact h
 ·rw[aC e]at h⊢
  simp only[iX,cK,not_or]at e
  obtain⟨z,hzz⟩:∃ z,sgo 1 a=z:=⟨_,rfl⟩
  rw[hzz]at h
  refine⟨?_⟩
  refine Loop.inv (n:=a.length) (fun m s=>∃ i:Nat,i+m=a.length/\s.2=(i:Int)/\sgo s.1 (a.drop i)=z) ⟨0,by omega,rfl,hzz⟩ ?_
  rintro m ⟨acc,i'⟩ X ⟨i,hi,he,hz⟩ hX
  simp only at he hz
  subst he
  unfold vH
  by_cases hlt:i<a.length
  ·have hd:a.drop i=a.getD i 0::a.drop (i+1):=by
    rw[wF hlt,cH,aM hlt];rfl
   rw[hd]at hz
   rw[aA (by simpa using hlt)]
   refine⟨by simp only[];omega,?_⟩
   simp only[Int.toNat_natCast]
   unfold sgo at hz
   split
   ·rename_i hc
    rw[aA hc]at hz
    rw[<- hz]at h;exact h
   ·rename_i hc
    rw[aC hc]at hz
    refine hX (m-1) _ (by omega) ⟨i+1,by omega,?_,hz⟩
    show i64.wrap ((i:Int)+1)=_
    rw[fM (by omega)];rfl
  ·have hil:i=a.length:=by omega
   subst hil
   rw[aC (by simp)]
   rw[List.drop_length]at hz
   unfold sgo at hz
   show Q acc
   rw[hz];exact h
def WR (l:List Int):Bool:=decide (0<szS l)
theorem VR {a:List Int}{Q:Bool->Prop}(h:Q (WR a)):tN a Q:=⟨PT h⟩
def BX (a:tnT):Bool:=WR a.1&&((a.2.2.length:Int)==szS a.1)&&inB a.2.1 (-64) 64&&a.2.2.all fun y => !((-128:Int)==y)
theorem UV {a:tnT}{Q:Bool->Prop}(hl:a.2.2.length<=100000)(h:Q (BX a)):rI a Q:=by
 unfold BX at h
 refine⟨VR ?_⟩
 simp only[jn]
 cases h1:WR a.1 with
 | false=>rw[h1]at h;rw[aC (by simp),aC (by simp),aC (by simp)];exact h
 | true =>
   rw[h1]at h
   rw[aA rfl]
   refine PT ?_
   cases h2:((a.2.2.length:Int)==szS a.1)with
   | false=>rw[h2]at h;rw[aC (by simp),aC (by simp)];exact h
   | true =>
     rw[h2]at h
     rw[aA rfl]
     have e64:i64.wrap (0-64) = -64:=by decide
     refine⟨?_⟩
     rw[e64]
     show if (inB a.2.1 (-64) 64)=true then _ else _
     cases h3:inB a.2.1 (-64) 64 with
     | false=>rw[h3]at h;rw[aC (by simp)];exact h
     | true =>
       rw[h3]at h
       rw[aA rfl]
       refine HP hl ?_
       rw[Bool.not_not]
       exact h
def yZ (ok:Bool)(e re:Int):Int:=if e≠0 then e else if re=4 then 4 else if ok=true then 0 else 5
theorem rX {ok:Bool}{e re:Int}{l:List Int}{Q:Bool×Int×List Int×Int->Prop}(hre:re=0\/re=4)(h:Q (yZ ok e re==0,yZ ok e re,l,re)):bZ ok e l re Q:=by
 refine⟨?_⟩
 unfold yZ at h
 by_cases he:e=0
 ·subst he
  rw[aC (show ¬ (((0:Int) != 0)=true) by decide)]
  rw[aC (show ¬ ((0:Int)≠0) by omega)]at h
  refine ID ?_
  have hend:yX l re=4 ↔ re=4:=by
   unfold yX
   split
   ·rename_i k;omega
   ·exact Iff.rfl
  by_cases h4:re=4
  ·rw[aA h4]at h
   rw[aA (by simpa using hend.2 h4)]
   exact⟨h⟩
  ·rw[aC h4]at h
   rw[aC (by simpa using fun k=>h4 (hend.1 k))]
   cases ok with
   | true=>rw[aA rfl]at h;rw[aC (by simp)];exact⟨h⟩
   | false=>rw[aC (by simp)]at h;rw[aA (by simp)];exact⟨h⟩
 ·rw[aA he]at h
  rw[aA (by simpa using he)]
  exact⟨h⟩
theorem F8 {ok:Bool}{e re:Int}(he:e=0\/e=4\/e=5):yZ ok e re=0\/yZ ok e re=4\/yZ ok e re=5:=by
 unfold yZ
 split
 ·exact he
 ·split
  ·exact .inr (.inl rfl)
  ·split
   ·exact .inl rfl
   ·exact .inr (.inr rfl)
theorem CV {ok:Bool}{e re:Int}(hre:re=0\/re=4)(h:yZ ok e re=0):e=0/\re=0/\ok=true:=by
 unfold yZ at h
 split at h
 ·rename_i k;exact absurd h k
 ·rename_i k
  split at h
  ·cases h
  ·rename_i k2
   split at h
   ·rename_i k3;exact⟨by omega,by omega,k3⟩
   ·cases h
theorem aDT {t:List Int}{K:List Int->Prop}(hl:t.length<=100000)(h:K (t.map fun c=>i8.wrap c)):iM t (t.length:Int) K (0,([]:List Int)):=by
 refine⟨Loop.rangeI t.length (fun i s=>s=((i:Int),(t.take i).map fun c=>i8.wrap c)) rfl ?_ ?_⟩
 ·rintro i hi s rfl X hX
  unfold gN
  have hg:t.getD ((i:Int).toNat) 0=t[i]:=by rw[gZ,cH,aM hi];rfl
  rw[aA (by simpa using hi)]
  simp only[hg]
  refine⟨⟨by omega,by simpa using hi⟩,by simp only[e8,eI,List.length_cons,List.length_nil];omega,hX _ ?_⟩
  refine Prod.ext ?_ ?_
  ·show i64.wrap ((i:Int)+1)=((i+1:Nat):Int)
   rw[fM (by omega)];omega
  ·show List.map _ _++[_]=List.map _ _
   rw[List.take_succ_eq_append_getElem hi,uZ];rfl
 ·rintro s rfl X
  unfold gN
  rw[aC (by simp),kK]
  exact h
def xI (a:tnT):List Int:=a.2.1%256::a.2.2.map fun c=>c%256
theorem aCx {t t2:List Int}{dims:List Int}(h1:t.length=1)(hB:Byt t)(hB2:Byt t2):xI (dims,i8.wrap (aN t 0),t2.map fun c=>i8.wrap c)=t++t2:=by
 have:=aEb h1 hB hB2
 unfold exF at this
 unfold xI
 obtain⟨x,rfl⟩:=List.length_eq_one_iff.1 h1
 have hx:=hB x (List.mem_singleton.2 rfl)
 have e1:aN [x] 0=x:=by show 0*256+x=x;omega
 simp only[e1]at this⊢
 rw[V7 hx]
 rw[show x%256=x by omega]at this
 exact this
theorem RU {b p l:List Int}{e re:Int}{dims:List Int}{Q:Int×Int×List Int×Int×List Int×List Int->Prop}(he:e=0\/e=4\/e=5)(hR:Read b p l re)
 (h:∀ (a:tnT) (ts l':List Int) (e' re':Int),a.1=dims->(e'=0\/e'=4\/e'=5)->Read b (p++ts) l' re'->a.2.2.length<=100000->(e'=0->e=0/\re'=0/\BX a=true/\xI a=ts)->Q (a.2.1,e',l',re',dims,a.2.2)):gV e dims l re Q:=by
 refine⟨P6 hR fun t1 l1 e1 hR1 hB1 hk1 hz1 ha1 hb1=>PT (W6 hR1 fun t2 l2 e2 hR2 hB2 hl2 hz2=>aDT hl2 ?_)⟩
 have hx:i64.wrap (i8.wrap (aN t1 0))=i8.wrap (aN t1 0):=by
  simp only[IntKind.wrap,IntKind.bits,IntKind.signed];simp;omega
 rw[hx]
 refine UV (by show(List.map _ _).length<=_;rw[e8];exact hl2) (rX hR2.e04 ?_)
 refine h (dims,i8.wrap (aN t1 0),t2.map fun c=>i8.wrap c) (t1++t2) l2 _ e2 rfl (F8 he) (by rw[<- bM];exact hR2) (by show(List.map _ _).length<=_;rw[e8];exact hl2) fun e0 => ?_
 obtain⟨k1,k2,k3⟩:=CV hR2.e04 e0
 have z2:=hz2 k2
 have z1:=hz1 z2.1
 exact⟨k1,k2,k3,aCx z1.2 hB1 hB2⟩
end Go.Proofs.YtpigepmgheabhaaGreatDoor
