/- Part of the proof. No condition. -/
import Derived.Test.YtpigepmgheabhaaGreatDoorYVRel
namespace Go.Mach
set_option linter.unusedVariables false
section
variable {F0:Fz} {H0:Base} {c c':Ctx} {H H':aD}
theorem Ok.below (h:Ok F0 H0 c H){b:Nat}{B:Blk}(hb:c.F b=some B):b<H.length:=blk?_below (h.fz b B hb)
theorem Ok.new_none (h:Ok F0 H0 c H){b:Nat}(hb:H.length<=b):c.F b=none:=by
 cases e:c.F b with
 | none=>rfl
 | some B=>have:=h.below e;omega
theorem ObjOk.mono {i:Nat}{o:VO}(h:ObjOk c H i o)(hle:Le c c')(hρ:c'.ρ i=c.ρ i)(hF:∀ b,c.ρ i=some b->c'.F b=c.F b)(hb:∀ b B,c.ρ i=some b->blk? H b=some B->blk? H' b=some B)(hl:H.length<=H'.length):ObjOk c' H' i o where
 lo:=fun b e=>by rw[hle.n0];have:=h.lo b (hρ▸e);exact⟨this.1,by omega⟩
 box:=fun cs fr e=>by
  obtain⟨b,azz,h1,h2,h3,h4,h5⟩:=h.box cs fr e
  exact⟨b,azz,hρ.trans h1,hb b _ h1 h2,h3.mono (RL.mono hle),fun e=>(hF b h1).trans (h4 e),fun e=>(hF b h1).trans (h5 e)⟩
 lst:=fun q t l fr e=>by
  obtain⟨h1,h2⟩:=h.lst q t l fr e
  refine⟨fun e=>h1 (hρ▸e),fun b e => ?_⟩
  rw[hρ]at e
  obtain⟨azz,ex,k1,k2,k3,k4⟩:=h2 b e
  exact⟨azz,ex,hb b _ e k1,by rw[hle.n0];exact k2.mono (oQ hle.F),fun e'=>(hF b e).trans (k3 e'),fun e'=>(hF b e).trans (k4 e')⟩
 dead:=fun b e e'=>by rw[hF b (hρ▸e')];exact h.dead b e (hρ▸e')
theorem Ok.lt (h:Ok F0 H0 c H){i b:Nat}(e:c.ρ i=some b):i<c.h.length:=by
 by_cases hl:i<c.h.length
 ·exact hl
 ·rw[h.dom i (by omega)]at e;cases e
theorem Ok.blk (h:Ok F0 H0 c H){i b:Nat}(e:c.ρ i=some b):c.n0 b=false/\b<H.length :=
 (h.obj i _ (aM (h.lt e))).lo b e
theorem Ok.fl (h:Ok F0 H0 c H){fl i b:Nat}(hfl:Fl fl H0)(e:c.ρ i=some b):fl<=b:=hfl b (by rw[<- h.n0];exact(h.blk e).1)
theorem Ok.flen (h:Ok F0 H0 c H){fl:Nat}(hfl:Fl fl H0):fl<=H.length:=hfl _ (H0.new h.pre.len)
theorem Ok.new (h:Ok F0 H0 c H){b:Nat}(hb:H.length<=b):c.n0 b=false:=by rw[h.n0];exact H0.new (bY h.pre.len hb)
def mI (c:Ctx)(a:Option Nat)(o:VO):Ctx:=⟨c.n0,c.F,fun i=>if i=c.h.length then a else c.ρ i,c.h++[o],c.hs⟩
theorem gT (a:Option Nat)(o:VO):Le c (mI c a o) where
 n0:=rfl
 F:=Fz.ext_refl _
 hs:=rfl
 len:=by simp[mI]
 ρ:=fun i hi=>by show(if i=c.h.length then a else c.ρ i)=_;rw[aC (by omega)]
 h:=fun i o' h=>⟨o',by show(c.h++[o])[i]? = _;rw[dL (bB h)];exact h,VO.le_refl _⟩
theorem J4 {a:Option Nat}{o o':VO}{i:Nat}(h:(mI c a o).h[i]? = some o'):(i=c.h.length/\o'=o)\/c.h[i]? = some o':=by
 have h:(c.h++[o])[i]? = some o':=h
 grind
theorem addC_ρ {a:Option Nat}{o:VO}:(mI c a o).ρ c.h.length=a:=by simp[mI]
theorem QX {a:Option Nat}{o:VO}:(mI c a o).h[c.h.length]? = some o:=by simp[mI]
theorem Ok.add (h:Ok F0 H0 c H)(o:VO)(a:Option Nat)(hp:Pre H H')(ha:∀ b,a=some b->H.length<=b)
 (ho:ObjOk (mI c a o) H' c.h.length o):Ok F0 H0 (mI c a o) H' where
 n0:=h.n0
 pre:=h.pre.trans hp
 fz:=fun b B e=>hp.blk (h.fz b B e)
 low:=h.low
 obj:=fun i o' hi=>by
  rcases J4 hi with⟨rfl,rfl⟩|h1
  ·exact ho
  ·exact(h.obj i o' h1).mono (gT a o) ((gT a o).ρ i (bB h1)) (fun _ _=>rfl) (fun b B _ hB=>hp.blk hB) hp.len
 inj:=fun i j b hij hi hj=>by
  have hi:(if i=c.h.length then a else c.ρ i)=some b:=hi
  have hj:(if j=c.h.length then a else c.ρ j)=some b:=hj
  show(c.h++[o])[i]? = _\/(c.h++[o])[j]? = _
  split at hi
  ·split at hj
   ·omega
   ·have:=ha b hi;have:=(h.blk hj).2;omega
  ·split at hj
   ·have:=ha b hj;have:=(h.blk hi).2;omega
   ·rw[dL (h.lt hi),dL (h.lt hj)]
    exact h.inj i j b hij hi hj
 bj:=h.bj.add fun b e i e'=>by have:=ha b e;have:=(h.blk e').2;omega
 dom:=fun i hi=>by
  have hi:(c.h++[o]).length<=i:=hi
  simp at hi
  show(if i=c.h.length then a else c.ρ i)=none
  rw[aC (by omega)]
  exact h.dom i (by omega)
theorem Ok.addBox (h:Ok F0 H0 c H){cs:List VV}{azz:List Value}(hc:All2 (RL c) cs azz):Ok F0 H0 (mI c (some H.length) (.box cs false)) (H++[⟨azz,0,true,true⟩]) :=
 h.add _ _ (Pre.push _ _) (fun b e=>by cases e;exact aF _) {
   lo:=fun b e=>by
    have e:(if c.h.length=c.h.length then some H.length else c.ρ c.h.length)=some b:=e
    rw[aA rfl]at e;cases e
    exact⟨h.new (aF _),by simp⟩
   box:=fun cs' fr e=>by
    cases e
    exact⟨H.length,azz,addC_ρ,rY H _ rfl,hc.mono (RL.mono (gT _ _)),fun e=>(by cases e),fun _=>h.new_none (aF _)⟩
   lst:=fun q t l fr e=>by cases e
   dead:=fun b e=>by cases e }
theorem Ok.addLst (h:Ok F0 H0 c H){q:Bool}{t:Ty}{l:List t.den}{azz:List Value}{ex:Bool}(hH:Pre H H'){b:Nat}(hb:H.length<=b)(hB:blk? H' b=some ⟨azz,t.w,ex,true⟩)(hc:RC (cA q c.n0 c.F) t l azz):Ok F0 H0 (mI c (some b) (.lst q t l false)) H' :=
 h.add _ _ hH (fun b' e=>by cases e;exact hb) {
   lo:=fun b' e=>by
    rw[addC_ρ]at e;cases e
    exact⟨h.new hb,blk?_below hB⟩
   box:=fun cs' fr e=>by cases e
   lst:=fun q' t' l' fr e=>by
    cases e
    refine⟨fun e=>(by rw[addC_ρ]at e;cases e),fun b' e => ?_⟩
    rw[addC_ρ]at e;cases e
    exact⟨azz,ex,hB,hc,fun e=>(by cases e),fun _=>h.new_none hb⟩
   dead:=fun b e=>by cases e }
theorem Ok.addNil (h:Ok F0 H0 c H)(q:Bool)(t:Ty)(hp:Pre H H'):Ok F0 H0 (mI c none (.lst q t [] false)) H' :=
 h.add _ _ hp (fun b e=>by cases e) {
   lo:=fun b e=>by rw[addC_ρ]at e;cases e
   box:=fun cs' fr e=>by cases e
   lst:=fun q' t' l' fr e=>by
    cases e
    exact⟨fun _=>rfl,fun b e=>by rw[addC_ρ]at e;cases e⟩
   dead:=fun b e=>by cases e }
def kU (c:Ctx)(i:Nat)(o:VO):Ctx:=⟨c.n0,c.F,c.ρ,c.h.set i o,c.hs⟩
theorem pS {i:Nat}{o o':VO}(hi:c.h[i]? = some o)(ho:VO.le o o'):Le c (kU c i o') where
 n0:=rfl
 F:=Fz.ext_refl _
 hs:=rfl
 len:=by simp[kU]
 ρ:=fun _ _=>rfl
 h:=fun j p hj=>by
  show ∃ o'',(c.h.set i o')[j]? = some o''/\_
  by_cases e:i=j
  ·subst e
   rw[gQ (bB hi)]
   rw[hi]at hj;cases hj
   exact⟨o',rfl,ho⟩
  ·rw[dK e];exact⟨p,hj,VO.le_refl _⟩
theorem w6 {i j:Nat}{o p:VO}(h:(kU c i o).h[j]? = some p):(j=i/\p=o)\/(j≠i/\c.h[j]? = some p):=by
 have h:(c.h.set i o)[j]? = some p:=h
 grind
theorem Ok.other (h:Ok F0 H0 c H){i j b b':Nat}{o:VO}(hi:c.h[i]? = some o)(hd:o ≠ .dead false)(hij:j≠i)(ei:c.ρ i=some b)(ej:c.ρ j=some b')(hjd:c.h[j]? ≠ some (.dead false)):b'≠b:=by
 intro e
 subst e
 rcases h.inj j i b' hij ej ei with k|k
 ·exact hjd k
 ·rw[hi]at k;cases k;exact hd rfl
theorem Ok.upd (h:Ok F0 H0 c H){i b:Nat}{o o':VO}(hi:c.h[i]? = some o)(hd:o ≠ .dead false)(ho:VO.le o o')(hρ:c.ρ i=some b)(hFb:c.F b=none)(u:Upd H H' b)
 (hn:ObjOk (kU c i o') H' i o') (hdd:o' ≠ .dead false):Ok F0 H0 (kU c i o') H' where
 n0:=h.n0
 pre:=h.pre.upd u (by rw[<- h.n0];exact(h.blk hρ).1)
 fz:=fun b' B e=>u.blk (by have e:c.F b'=some B:=e;intro e';subst e';rw[hFb]at e;cases e) (h.fz b' B e)
 low:=h.low
 obj:=fun j p hj=>by
  rcases w6 hj with⟨rfl,rfl⟩|⟨hne,h1⟩
  ·exact hn
  ·by_cases hpd:p = .dead false
   ·subst hpd
    exact { lo:=fun b' e=>by have:=(h.obj j _ h1).lo b' e;rw[u.len];exact this,box:=fun _ _ e=>(by cases e),lst:=fun _ _ _ _ e=>(by cases e),dead:=fun _ e=>by cases e }
   ·exact(h.obj j p h1).mono (pS hi ho) rfl (fun _ _=>rfl) (fun b' B e hB=>u.blk (h.other hi hd hne hρ e (by rw[h1];intro e;cases e;exact hpd rfl)) hB) (by rw[u.len];exact aF _)
 inj:=fun j k b' hjk hj hk=>by
  show(c.h.set i o')[j]? = _\/(c.h.set i o')[k]? = _
  rcases h.inj j k b' hjk hj hk with e|e
  ·left
   by_cases hji:i=j
   ·subst hji;rw[hi]at e;cases e;exact absurd rfl hd
   ·rw[dK hji];exact e
  ·right
   by_cases hki:i=k
   ·subst hki;rw[hi]at e;cases e;exact absurd rfl hd
   ·rw[dK hki];exact e
 bj:=h.bj.set hi (VO.le_bx ho)
 dom:=fun j hj=>h.dom j (by have:(c.h.set i o').length<=j:=hj;simpa using this)
def frF (F:Fz)(b:Nat)(B:Blk):Fz:=fun x=>if x=b then some B else F x
theorem dP {h:List VO}{i:Nat}{o:VO}(e:h[i]? = some o):aP h i=o:=by
 unfold aP;rw[cH,e];rfl
theorem yN:∀ o:VO,VO.le o (eU o)
 | .box _ _=>trivial
 | .lst _ _ _ _=>⟨rfl,rfl⟩
 | .dead _=>trivial
theorem Ok.freeze1 (h:Ok F0 H0 c H)(i:Nat):∃ F',c.F.ext F'/\Le c ⟨c.n0,F',c.ρ,c.h.set i (eU (aP c.h i)),c.hs⟩/\Ok F0 H0 ⟨c.n0,F',c.ρ,c.h.set i (eU (aP c.h i)),c.hs⟩ H /\
 ∀ q t l fr,c.h[i]? = some (.lst q t l fr)->∀ b,c.ρ i=some b->∃ azz ex,F' b=some ⟨azz,t.w,ex,true⟩/\RC (cA q c.n0 F') t l azz:=by
 cases hi:c.h[i]? with
 | none =>
   have e:c.h.set i (eU (aP c.h i))=c.h:=List.set_eq_of_length_le (by
    have:=List.getElem?_eq_none_iff.1 hi;exact this)
   rw[e]
   exact⟨c.F,Fz.ext_refl _,Le.refl c,h,fun q t l fr e=>(by cases e)⟩
 | some o =>
   have hg:=dP hi
   rw[hg]
   cases hρ:c.ρ i with
   | none =>
     have hle:Le c (kU c i (eU o)):=pS hi (yN o)
     refine⟨c.F,Fz.ext_refl _,hle,?_,fun q t l fr e b e'=>by cases e'⟩
     exact {
      n0:=h.n0,pre:=h.pre,fz:=h.fz,low:=h.low
      obj:=fun j p hj=>by
       rcases w6 (c:=c) hj with⟨rfl,rfl⟩|⟨hne,h1⟩
       ·have ok:=h.obj j o hi
        exact {
         lo:=fun b e=>by have e:c.ρ j=some b:=e;rw[hρ]at e;cases e
         box:=fun cs fr e=>by
          cases o with
          | box cs' fr'=>obtain⟨b,_,h1,_⟩:=ok.box cs' fr' rfl;rw[hρ]at h1;cases h1
          | lst _ _ _ _=>cases e
          | dead _=>cases e
         lst:=fun q t l fr e=>by
          cases o with
          | box cs' fr'=>cases e
          | dead _=>cases e
          | lst q' t' l' fr'=>cases e;exact⟨fun _=>(ok.lst _ _ _ _ rfl).1 hρ,fun b e=>(by have e:c.ρ j=some b:=e;rw[hρ]at e;cases e)⟩
         dead:=fun b e e'=>by have e':c.ρ j=some b:=e';rw[hρ]at e';cases e' }
       ·exact(h.obj j p h1).mono hle rfl (fun _ _=>rfl) (fun _ _ _ hB=>hB) (aF _)
      inj:=fun j k b' hjk hj hk=>by
       have hj:c.ρ j=some b':=hj
       have hk:c.ρ k=some b':=hk
       show(c.h.set i _)[j]? = _\/(c.h.set i _)[k]? = _
       rw[dK (by intro e;subst e;rw[hρ]at hj;cases hj),dK (by intro e;subst e;rw[hρ]at hk;cases hk)]
       exact h.inj j k b' hjk hj hk
      bj:=h.bj.set hi (VO.le_bx (yN o))
      dom:=fun j hj=>h.dom j (by have:(c.h.set i (eU o)).length<=j:=hj;simpa using this) }
   | some b =>
     have ok:=h.obj i o hi
     have hbl:=h.blk hρ
     have hblk:(∃ B,blk? H b=some B/\((∃ cs fr,o = .box cs fr)\/∃ q t l fr,o = .lst q t l fr))\/∃ x,o = .dead x:=by
      cases o with
      | box cs fr=>obtain⟨b',azz,h1,h2,_⟩:=ok.box cs fr rfl;rw[hρ]at h1;cases h1;exact .inl ⟨_,h2,.inl ⟨_,_,rfl⟩⟩
      | lst q t l fr=>obtain⟨azz,ex,h2,_⟩:=(ok.lst q t l fr rfl).2 b hρ;exact .inl ⟨_,h2,.inr ⟨_,_,_,_,rfl⟩⟩
      | dead x=>exact .inr ⟨x,rfl⟩
     rcases hblk with⟨B,hB,hkind⟩|⟨x,rfl⟩
     ·have hFb:c.F b=none\/c.F b=some B:=by
       cases e:c.F b with
       | none=>exact .inl rfl
       | some B'=>have:=h.fz b B' e;rw[hB]at this;cases this;exact .inr rfl
      have hnd:o ≠ .dead false:=by rcases hkind with⟨_,_,rfl⟩|⟨_,_,_,_,rfl⟩ <;> (intro e;cases e)
      have hext:c.F.ext (frF c.F b B):=by
       intro y Y hY
       unfold frF
       split
       ·rename_i e;subst e
        rcases hFb with k|k
        ·rw[k]at hY;cases hY
        ·rw[k]at hY;exact hY
       ·exact hY
      have hle:Le c ⟨c.n0,frF c.F b B,c.ρ,c.h.set i (eU o),c.hs⟩:={
       n0:=rfl,F:=hext,hs:=rfl,len:=by simp,ρ:=fun _ _=>rfl
       h:=fun j p hj=>by
        obtain⟨o',h1,h2⟩:=(pS (c:=c) hi (yN o)).h j p hj
        exact⟨o',h1,h2⟩ }
      refine⟨frF c.F b B,hext,hle,?_,?_⟩
      ·exact {
        n0:=h.n0,pre:=h.pre
        fz:=fun y Y hY=>by
         have hY:(if y=b then some B else c.F y)=some Y:=hY
         by_cases e:y=b
         ·rw[aA e]at hY;rw[e,<- eR hY];exact hB
         ·rw[aC e]at hY;exact h.fz y Y hY
        low:=fun y hy=>by
         show(if y=b then some B else c.F y)=_
         rw[aC (by intro e;subst e;rw[<- h.n0,hbl.1]at hy;cases hy)]
         exact h.low y hy
        obj:=fun j p hj=>by
         rcases w6 (c:=c) hj with⟨rfl,rfl⟩|⟨hne,h1⟩
         ·exact {
           lo:=fun b' e=>ok.lo b' e
           box:=fun cs fr e=>by
            cases o with
            | box cs' fr' =>
              cases e
              obtain⟨b',azz,k1,k2,k3,k4,k5⟩:=ok.box _ fr' rfl
              rw[hρ]at k1;cases k1
              rw[hB]at k2;cases k2
              exact⟨b,azz,hρ,hB,k3.mono (RL.mono hle),fun _=>aA rfl,fun e=>(by cases e)⟩
            | lst _ _ _ _=>cases e
            | dead _=>cases e
           lst:=fun q t l fr e=>by
            cases o with
            | box cs' fr'=>cases e
            | dead _=>cases e
            | lst q' t' l' fr' =>
              cases e
              refine⟨fun e=>(by have e:c.ρ j=none:=e;rw[hρ]at e;cases e),fun b' e => ?_⟩
              have e:c.ρ j=some b':=e
              rw[hρ]at e;cases e
              obtain⟨azz,ex,k1,k2,_⟩:=(ok.lst _ _ _ _ rfl).2 b hρ
              rw[hB]at k1;cases k1
              exact⟨azz,ex,hB,k2.mono (oQ hext),fun _=>aA rfl,fun e=>(by cases e)⟩
           dead:=fun b' e=>by
            cases o with
            | box cs' fr'=>cases e
            | lst _ _ _ _=>cases e
            | dead x=>rcases hkind with⟨_,_,e⟩|⟨_,_,_,_,e⟩ <;> cases e }
         ·by_cases hpd:p = .dead false
          ·subst hpd
           exact { lo:=fun b' e=>(h.obj j _ h1).lo b' e,box:=fun _ _ e=>(by cases e),lst:=fun _ _ _ _ e=>(by cases e),dead:=fun _ e=>by cases e }
          ·refine(h.obj j p h1).mono hle rfl (fun b' e => ?_) (fun _ _ _ hB=>hB) (aF _)
           have hne':b'≠b:=h.other hi hnd hne hρ e (by rw[h1];intro e;cases e;exact hpd rfl)
           exact aC hne'
        inj:=fun j k b' hjk hj hk=>by
         show(c.h.set i (eU o))[j]? = _\/(c.h.set i (eU o))[k]? = _
         rcases h.inj j k b' hjk hj hk with e|e
         ·left
          by_cases hji:i=j
          ·subst hji;rw[hi]at e;cases e;exact absurd rfl hnd
          ·rw[dK hji];exact e
         ·right
          by_cases hki:i=k
          ·subst hki;rw[hi]at e;cases e;exact absurd rfl hnd
          ·rw[dK hki];exact e
        bj:=h.bj.set hi (VO.le_bx (yN o))
        dom:=fun j hj=>h.dom j (by have:(c.h.set i (eU o)).length<=j:=hj;simpa using this) }
      ·intro q t l fr e b' e'
       cases e;cases e'
       obtain⟨azz,ex,k1,k2,_⟩:=(ok.lst _ _ _ _ rfl).2 b hρ
       rw[hB]at k1;cases k1
       exact⟨azz,ex,aA rfl,k2.mono (oQ hext)⟩
     ·have e:c.h.set i (eU (.dead x))=c.h:=by
       apply wQ
       intro j
       by_cases hj:i=j
       ·subst hj;rw[gQ (bB hi),hi];rfl
       ·rw[dK hj]
      rw[e]
      exact⟨c.F,Fz.ext_refl _,Le.refl c,h,fun q t l fr e=>(by cases e)⟩
end
end Go.Mach
