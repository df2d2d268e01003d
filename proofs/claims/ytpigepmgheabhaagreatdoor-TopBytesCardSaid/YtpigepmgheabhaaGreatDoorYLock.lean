/- Part of the proof. No condition. -/
import Derived.Test.YtpigepmgheabhaaGreatDoorYStep
namespace Go.Mach
section
variable {P:Program} {call:aQ} {base:Nat} {w0:World}
theorem CallerSound.toW (h:CallerSound base w0 P call)(fl:Nat):CallerW base w0 P fl (fun id=>fl<=id) call :=
 fun f args cargs ρ H H' w v S hb hf hfr hl hc=>(h fl f args cargs ρ H H' w v S hb hf hfr hl hc).mono fun _ _ ⟨v',ρ',h1,h2,h3⟩=>⟨v',ρ',h1,h2,h3.turn (aF _) fun _ h _=>h⟩
theorem CallerKept.toW (h:CallerKept call)(fl:Nat):SA fl (fun id=>fl<=id) call:=fun f args H v H' hc=>h fl f args H v H' hc
theorem CallerW.mono {fl:Nat}{W W':Nat->Prop}(h:CallerW base w0 P fl W call)(hw:∀ id,W id->W' id):CallerW base w0 P fl W' call :=
 fun f args cargs ρ H H' w v S hb hf hfr hl hc=>(h f args cargs ρ H H' w v S hb hf hfr hl hc).mono fun _ _ ⟨v',ρ',h1,h2,h3⟩=>⟨v',ρ',h1,h2,h3.turn (aF _) fun id _ h=>hw id h⟩
theorem jV {X:List Nat}{H:aD}{id:Nat}{B:Blk}(h:blk? (kV X H) id=some B):id∉X/\blk? H id=some B:=by
 unfold blk? at h⊢
 rw[oT]at h
 by_cases hx:id∈X
 ·rw[aA hx]at h
  cases hH:H[id]? with
  | none=>rw[hH]at h;cases h
  | some C=>rw[hH]at h;simp at h
 ·rw[aC hx]at h
  exact⟨hx,h⟩
theorem MY {X:List Nat}{H:aD}{id:Nat}(hx:id∉X):blk? (kV X H) id=blk? H id:=by
 unfold blk?
 rw[oT,aC hx]
theorem aCm {X:List Nat}{ρ:Ren}{H:aD}{w:World}(S:Sim base w0 All ρ H w):Sim base w0 All ρ (kV X H) w where
 base_le:=S.base_le
 old:=S.old
 dom:=S.dom
 apart:=S.apart
 stat:=fun id L B h hB=>by
  rw[oT]at hB
  split at hB
  ·cases hH:H[id]? with
   | none=>rw[hH]at hB;cases hB
   | some C =>
     rw[hH]at hB
     cases hB
     exact S.stat id L C h hH
  ·exact S.stat id L B h hB
 cont:=fun id L B a h hB=>S.cont id L B a h (jV hB).2
 inj:=fun id id' L L' a a' h h' hl hl'=>by
  obtain⟨B,hB⟩:=Option.isSome_iff_exists.1 hl
  obtain⟨B',hB'⟩:=Option.isSome_iff_exists.1 hl'
  exact S.inj id id' L L' a a' h h' (by rw[(jV hB).2];rfl) (by rw[(jV hB').2];rfl)
theorem aAK {X:List Nat}{fl:Nat}(hbf:base<=fl){ρ ρ':Ren}{H K:aD}{w w':World}(S:Sim base w0 All ρ H w)(hfr:∀ id,H.length<=id->id<K.length->ρ id=none)(st:Step base w0 All All fl ρ (kV X H) w ρ' K w') :
 Step base w0 All (fun id=>fl<=id /\ ¬ id∈X) fl ρ H w ρ' (gG X H K) w':=by
 have hl:H.length<=K.length:=by have:=st.len;rw[eO]at this;exact this
 have hat:=qZ H X K hl
 have hin:∀ id,id∈X->id<H.length->(gG X H K)[id]? = H[id]? := fun id h1 h2=>by rw[hat,aA ⟨h1,h2⟩]
 have hout:∀ id,¬ (id∈X/\id<H.length)->(gG X H K)[id]? = K[id]? := fun id h=>by rw[hat,aC h]
 have bin:∀ id,id∈X->id<H.length->blk? (gG X H K) id=blk? H id:=fun id h1 h2=>by unfold blk?;rw[hin id h1 h2]
 have bout:∀ id,¬ (id∈X/\id<H.length)->blk? (gG X H K) id=blk? K id:=fun id h=>by unfold blk?;rw[hout id h]
 have back:∀ id L,id<H.length->ρ' id=some L->ρ id=some L:=fun id L h1 h2=>by
  cases h3:ρ id with
  | none =>
    have:=(st.new id L h3 h2).1
    rw[eO]at this
    omega
  | some L0 =>
    have:=st.ext id L0 h3
    rw[h2]at this
    exact this.symm
 have away:∀ id L,id∈X->ρ id=some L->(blk? H id).isSome=true->∀ id1 L1,fl<=id1->ρ id1=some L1->(blk? (kV X H) id1).isSome=true->L1.blk≠L.blk:=by
  intro id L hx hL hb id1 L1 hf1 h1 hb1 he
  obtain⟨B1,hB1⟩:=Option.isSome_iff_exists.1 hb1
  obtain⟨hx1,hB1'⟩:=jV hB1
  by_cases hbid:base<=id
  ·have:=S.inj id1 id L1 L trivial trivial h1 hL (by rw[hB1'];rfl) hb (bY hbf hf1) hbid he
   subst this
   exact hx1 hx
  ·exact S.apart id L (by omega) hL L1.blk ((S.dom id1 L1 h1).2 (bY hbf hf1)) he.symm
 refine⟨⟨st.sim.base_le,st.sim.old,st.sim.dom,st.sim.apart,fun id L B h hB => ?_,fun id L B a h hB => ?_,fun id id' L L' a a' h h' hl1 hl2 b1 b2 he => ?_⟩,st.ext,fun id L h h' => ?_,fun b hb hn => ?_,st.grow,st.side,by rw[j4];exact hl,fun id hid hk => ?_,fun id hid hb => ?_⟩
 ·by_cases hx:id∈X/\id<H.length
  ·rw[hin id hx.1 hx.2]at hB
   exact S.stat id L B (back id L hx.2 h) hB
  ·rw[hout id hx]at hB
   exact st.sim.stat id L B h hB
 ·by_cases hx:id∈X/\id<H.length
  ·rw[bin id hx.1 hx.2]at hB
   have hL:=back id L hx.2 h
   obtain⟨cc,e,fz,g1,g2,g3,g4⟩:=S.cont id L B trivial hL hB
   refine⟨cc,e,fz,?_,g2,g3,fun i v hv hh => ?_⟩
   ·rw[st.frame L.blk (S.dom id L hL).1 fun id1 L1 f1 _ _ e1 al=>away id L hx.1 hL (by rw[hB];rfl) id1 L1 f1 e1 al]
    exact g1
   ·obtain⟨v',p,q⟩:=g4 i v hv hh
    exact⟨v',p,q.mono st.ext⟩
  ·rw[bout id hx]at hB
   exact st.sim.cont id L B (.inl trivial) h hB
 ·have cross:∀ id id' L L',id∈X->id<H.length -> ¬ (id'∈X/\id'<H.length)->ρ' id=some L->ρ' id'=some L'->(blk? (gG X H K) id).isSome=true->(blk? (gG X H K) id').isSome=true->base<=id->base<=id'->L.blk=L'.blk->False:=by
   intro id id' L L' hx hlt hx' h h' hl1 hl2 b1 b2 he
   rw[bin id hx hlt]at hl1
   rw[bout id' hx']at hl2
   have hL:=back id L hlt h
   cases hr:ρ id' with
   | some L1 =>
     have e1:=st.ext id' L1 hr
     rw[h']at e1;cases e1
     have hlt':id'<H.length\/H.length<=id':=lM _ _
     rcases hlt' with hlt'|hge
     ·have hal:=st.dead id' (by rw[eO];exact hlt') hl2
      obtain⟨B1,hB1⟩:=Option.isSome_iff_exists.1 hal
      obtain⟨q1,q2⟩:=jV hB1
      have:=S.inj id id' L L' trivial trivial hL hr hl1 (by rw[q2];rfl) b1 b2 he
      subst this
      exact hx' ⟨hx,hlt⟩
     ·have:=hfr id' hge (blk?_lt hl2)
      rw[hr]at this
      cases this
   | none =>
     obtain⟨_,_,h3⟩:=st.new id' L' hr h'
     rcases h3 with h3|⟨id0,L0,f,_,_,e0,eb,al,de⟩
     ·have:=(S.dom id L hL).1
      omega
     ·exact away id L hx hL hl1 id0 L0 f e0 al (by omega)
  by_cases hx:id∈X/\id<H.length
  ·by_cases hx':id'∈X/\id'<H.length
   ·rw[bin id hx.1 hx.2]at hl1
    rw[bin id' hx'.1 hx'.2]at hl2
    exact S.inj id id' L L' trivial trivial (back id L hx.2 h) (back id' L' hx'.2 h') hl1 hl2 b1 b2 he
   ·exact(cross id id' L L' hx.1 hx.2 hx' h h' hl1 hl2 b1 b2 he).elim
  ·by_cases hx':id'∈X/\id'<H.length
   ·exact(cross id' id L' L hx'.1 hx'.2 hx h' h hl2 hl1 b2 b1 he.symm).elim
   ·rw[bout id hx]at hl1
    rw[bout id' hx']at hl2
    exact st.sim.inj id id' L L' (.inl trivial) (.inl trivial) h h' hl1 hl2 b1 b2 he
 ·obtain⟨h1,h2,h3⟩:=st.new id L h h'
  rw[eO]at h1
  refine⟨h1,by rw[j4];exact h2,?_⟩
  rcases h3 with h3|⟨id0,L0,f,_,_,e0,eb,al,de⟩
  ·exact .inl h3
  ·obtain⟨B0,hB0⟩:=Option.isSome_iff_exists.1 al
   obtain⟨q1,q2⟩:=jV hB0
   exact .inr ⟨id0,L0,f,trivial,⟨f,q1⟩,e0,eb,by rw[q2];rfl,by rw[bout id0 (fun h=>q1 h.1)];exact de⟩
 ·refine st.frame b hb fun id L f _ _ e al => ?_
  obtain⟨B0,hB0⟩:=Option.isSome_iff_exists.1 al
  obtain⟨q1,q2⟩:=jV hB0
  exact hn id L f ⟨f,q1⟩ trivial e (by rw[q2];rfl)
 ·by_cases hx:id∈X
  ·exact hin id hx hid
  ·have hf:id<fl:=by
    rcases hk with hk|hk
    ·exact hk
    ·rcases lM id fl with h|h
     ·exact h
     ·exact absurd ⟨h,hx⟩ hk
   rw[hout id (fun h=>hx h.1),st.keep id (by rw[eO];exact hid) (.inl hf),oT,aC hx]
 ·by_cases hx:id∈X
  ·rw[bin id hx hid]at hb;exact hb
  ·rw[bout id (fun h=>hx h.1)]at hb
   have:=st.dead id (by rw[eO];exact hid) hb
   rw[MY hx]at this
   exact this
theorem V2 (hcs:CallerSound base w0 P call)(X:List Nat)(fl:Nat):CallerW base w0 P fl (fun id=>fl<=id /\ ¬ id∈X) (cM call X):=by
 intro f args cargs ρ H H' w v S hb hf hfr hl h
 unfold cM at h
 split at h
 case h_2=>cases h
 rename_i v' K hk
 cases h
 rw[j4]at hfr
 refine(hcs fl f args cargs ρ (kV X H) K w v (aCm S) hb (by rw[eO];exact hf) (by rw[eO];exact hfr) hl hk).mono ?_
 rintro e w' ⟨v2,ρ',h1,h2,h3⟩
 exact⟨v2,ρ',h1,h2,aAK hb S hfr h3⟩
end
end Go.Mach
