/- Part of the proof. No condition. -/
import Derived.Test.YtpigepmgheabhaaGreatDoorYRegion
import Derived.Test.YtpigepmgheabhaaGreatDoorYExtS
import Derived.LoopN
import Derived.Scope
namespace Go.Mach
inductive aCS:bE->Exit->Prop
 | normal:aCS .normal .normal
 | exit (id:Nat):aCS (.exit id) (.exit id)
 | goto (l:Nat):aCS (.goto l) (.goto l)
 | ret:aCS .ret .ret
section
variable {P:Program} {call:aQ} {base fl n:Nat} {w0:World}
def Out (base:Nat)(w0:World)(fl n:Nat)(ρ:Ren)(H:aD)(w:World)(e:bE)(t':aE)(H':aD)(Q:Exit->Act->World->Prop):Prop :=
 ∀ e' ρ' a' w',aCS e e'->TRel n ρ' t' a'->Step base w0 All All fl ρ H w ρ' H' w'->Q e' a' w'
theorem aEn {H:aD}:(fun id=>All id\/H.length<=id)=All:=funext fun _=>propext ⟨fun _=>trivial,fun _ => .inl trivial⟩
theorem Step.simAll {fl:Nat}{ρ ρ':Ren}{H H':aD}{w w':World}(s:Step base w0 All All fl ρ H w ρ' H' w'):Sim base w0 All ρ' H' w':=by
 have:=s.sim
 rwa [aEn]at this
theorem Step.fresh {fl:Nat}{ρ ρ1:Ren}{H H1 H2:aD}{w w1:World}(s:Step base w0 All All fl ρ H w ρ1 H1 w1)(hfr:∀ id,H.length<=id->id<H2.length->ρ id=none) :
 ∀ id,H1.length<=id->id<H2.length->ρ1 id=none:=fun id h1 h2=>by
 cases h3:ρ1 id with
 | none=>rfl
 | some L =>
   have:=s.new id L (hfr id (bY s.len h1) h2) h3
   omega
theorem Step.andThen {fl:Nat}{ρ ρ1 ρ2:Ren}{H H1 H2:aD}{w w1 w2:World}(s:Step base w0 All All fl ρ H w ρ1 H1 w1)(s':Step base w0 All All fl ρ1 H1 w1 ρ2 H2 w2)
 (hfr:∀ id,H.length<=id->id<H2.length->ρ id=none):Step base w0 All All fl ρ H w ρ2 H2 w2 :=
 s.trans (W1:=All) (by rw[aEn];exact s') (fun _ _ => .inl trivial) hfr
def aHA (P:Program)(base fl n:Nat)(w0:World)(f:aE->aD->Option (bE×aE×aD))(c:Code):Prop :=
 ∀ (t:aE) (H:aD) e t' H' ρ w a Q,Sim base w0 All ρ H w->fl<=H.length->(∀ id,H.length<=id->id<H'.length->ρ id=none)->TRel n ρ t a->f t H=some (e,t',H') ->
   Out base w0 fl n ρ H w e t' H' Q->c.wp P Q a w
theorem IB {f:aE->aD->Option (bE×aE×aD)}{c:Code}(hr:aHA P base fl n w0 f c)(hk:∀ t H e t' H',f t H=some (e,t',H')->Kept (fun id=>fl<=id) H H') :
 ∀ (m:Nat) (t:aE) (H:aD) e t' H' ρ w a Q,Sim base w0 All ρ H w->fl<=H.length->(∀ id,H.length<=id->id<H'.length->ρ id=none)->TRel n ρ t a->fV f m t H=some (e,t',H') ->
   Out base w0 fl n ρ H w e t' H' Q->Code.rounds P c Q m a w
 | 0,_,_,_,_,_,_,_,_,_,_,_,_,_,h,_=>by cases h
 | m+1,t,H,e,t',H',ρ,w,a,Q,S,hfl,hfr,hT,h,hQ=>by
   rw[rounds_succ]
   simp only[fV]at h
   split at h
   ·rename_i t1 H1 hf
    have k1:=hk _ _ _ _ _ hf
    have k2:=A6 hk m _ _ _ _ _ h
    refine hr t H _ t1 H1 ρ w a _ S hfl (fun id h1 h2=>hfr id h1 (dC h2 k2.len)) hT hf ?_
    intro e1 ρ1 a1 w1 he hT1 hs
    cases he
    refine IB hr hk m t1 H1 e t' H' ρ1 w1 a1 Q hs.simAll (bY hfl k1.len) (hs.fresh hfr) hT1 h ?_
    intro e2 ρ2 a2 w2 he2 hT2 hs2
    exact hQ e2 ρ2 a2 w2 he2 hT2 (hs.andThen hs2 hfr)
   ·rename_i hne
    refine hr t H e t' H' ρ w a _ S hfl hfr hT h ?_
    intro e1 ρ1 a1 w1 he hT1 hs
    cases he with
    | normal=>exact absurd h (hne _ _)
    | exit id=>exact hQ _ ρ1 a1 w1 (.exit id) hT1 hs
    | goto l=>exact hQ _ ρ1 a1 w1 (.goto l) hT1 hs
    | ret=>exact hQ _ ρ1 a1 w1 .ret hT1 hs
theorem qT (hcs:CallerSound base w0 P call)(hck:CallerKept call)(hm:P.follows .mixedOrders=true)(hbf:base<=fl)(m:Nat):∀ (c:Code),bD n c=true->aHA P base fl n w0 (aU P call m fl c) c:=by
 intro c
 induction c with
 | skip =>
   intro _ t H e t' H' ρ w a Q S hfl hfr hT h hQ
   cases h
   exact wp_skip (hQ _ ρ a w .normal hT (Step.same S ⟨rfl,rfl,rfl,rfl⟩))
 | label l =>
   intro _ t H e t' H' ρ w a Q S hfl hfr hT h hQ
   cases h
   exact wp_label (hQ _ ρ a w .normal hT (Step.same S ⟨rfl,rfl,rfl,rfl⟩))
 | exit id =>
   intro _ t H e t' H' ρ w a Q S hfl hfr hT h hQ
   cases h
   exact wp_exit (hQ _ ρ a w (.exit id) hT (Step.same S ⟨rfl,rfl,rfl,rfl⟩))
 | ret =>
   intro _ t H e t' H' ρ w a Q S hfl hfr hT h hQ
   cases h
   exact wp_ret (hQ _ ρ a w .ret hT (Step.same S ⟨rfl,rfl,rfl,rfl⟩))
 | region id ops draw =>
   intro hok t H e t' H' ρ w a Q S hfl hfr hT h hQ
   simp only[aU]at h
   split at h
   ·rename_i t1 H1 hr
    cases h
    have hok':∀ (i:Nat) o,ops[i]? = some o->gO n ops o=true:=fun i o ho=>by
     simp only[bD,bW]at hok
     exact hok o (by simpa using Array.mem_of_getElem? ho)
    cases draw with
    | true=>exact T8 hcs hck hbf hfl hok' S hfr hT hm id hr fun ρ' a' w' hT' hs=>hQ _ ρ' a' w' .normal hT' hs
    | false =>
      refine wp_region ?_
      unfold cZ at hr
      simp only[eK,aS]at hr
      have:=BW (n:=n) (Q:=Q) hcs hck hbf ops.toList 0 t t' H H' ρ w a (fun k o hk=>by
       have:ops[k]? = some o:=by simpa using hk
       exact⟨by rw[e9];exact this,hok' k o this⟩) S hfl hfr hT hr fun ρ' a' w' hT' hs=>hQ _ ρ' a' w' .normal hT' hs
      rw[xE]at this
      rw[List.range_eq_range']
      exact this
   ·cases h
 | seq x y ihx ihy =>
   intro hok t H e t' H' ρ w a Q S hfl hfr hT h hQ
   simp only[bD,aH]at hok
   simp only[aU]at h
   refine wp_seq ?_
   split at h
   ·rename_i t1 H1 hx
    have k1:=iW hck _ _ _ _ _ _ hx
    have k2:=iW hck _ _ _ _ _ _ h
    refine ihx hok.1 t H _ t1 H1 ρ w a _ S hfl (fun id h1 h2=>hfr id h1 (dC h2 k2.len)) hT hx ?_
    intro e1 ρ1 a1 w1 he hT1 hs
    cases he
    refine ihy hok.2 t1 H1 e t' H' ρ1 w1 a1 Q hs.simAll (bY hfl k1.len) (hs.fresh hfr) hT1 h ?_
    intro e2 ρ2 a2 w2 he2 hT2 hs2
    exact hQ e2 ρ2 a2 w2 he2 hT2 (hs.andThen hs2 hfr)
   ·rename_i hne
    refine ihx hok.1 t H e t' H' ρ w a _ S hfl hfr hT h ?_
    intro e1 ρ1 a1 w1 he hT1 hs
    cases he with
    | normal=>exact absurd h (hne _ _)
    | exit id=>exact hQ _ ρ1 a1 w1 (.exit id) hT1 hs
    | goto l=>exact hQ _ ρ1 a1 w1 (.goto l) hT1 hs
    | ret=>exact hQ _ ρ1 a1 w1 .ret hT1 hs
 | cond c x y ihx ihy =>
   intro hok t H e t' H' ρ w a Q S hfl hfr hT h hQ
   simp only[bD,aH]at hok
   have hc:=hT.eval hok.1.1
   simp only[aU]at h
   split at h
   ·rename_i he
    rw[he]at hc
    have:a.eval c = .bool true:=by
     generalize a.eval c=u at hc
     cases hc;rfl
    exact wp_cond_true this (ihx hok.1.2 t H e t' H' ρ w a Q S hfl hfr hT h hQ)
   ·rename_i he
    rw[he]at hc
    have:a.eval c = .bool false:=by
     generalize a.eval c=u at hc
     cases hc;rfl
    exact wp_cond_false this (ihy hok.2 t H e t' H' ρ w a Q S hfl hfr hT h hQ)
   ·cases h
 | block id c ih =>
   intro hok t H e t' H' ρ w a Q S hfl hfr hT h hQ
   simp only[bD]at hok
   simp only[aU]at h
   refine wp_block ?_
   split at h
   ·rename_i id' t1 H1 hx
    cases h
    refine ih hok t H _ t' H' ρ w a _ S hfl hfr hT hx ?_
    intro e1 ρ1 a1 w1 he hT1 hs
    cases he
    unfold Exit.inBlock
    by_cases hid:id'=id
    ·subst hid
     simp only[aO]at hQ⊢
     exact hQ _ ρ1 a1 w1 .normal hT1 hs
    ·simp only[hid,aS]at hQ⊢
     exact hQ _ ρ1 a1 w1 (.exit id') hT1 hs
   ·rename_i hne
    refine ih hok t H e t' H' ρ w a _ S hfl hfr hT h ?_
    intro e1 ρ1 a1 w1 he hT1 hs
    cases he with
    | normal=>exact hQ _ ρ1 a1 w1 .normal hT1 hs
    | exit id=>exact absurd h (hne _ _ _)
    | goto l=>exact hQ _ ρ1 a1 w1 (.goto l) hT1 hs
    | ret=>exact hQ _ ρ1 a1 w1 .ret hT1 hs
 | loop c ih =>
   intro hok t H e t' H' ρ w a Q S hfl hfr hT h hQ
   simp only[bD]at hok
   simp only[aU]at h
   exact wp_loop_rounds m (IB (ih hok) (fun t H e t' H' h=>iW hck c t H e t' H' h) m t H e t' H' ρ w a Q S hfl hfr hT h hQ)
 | rangeFunc=>intro hok;cases hok
 | scope=>intro hok;cases hok
 | goto l =>
   intro _ t H e t' H' ρ w a Q S hfl hfr hT h hQ
   cases h
   exact wp_goto (hQ _ ρ a w (.goto l) hT (Step.same S ⟨rfl,rfl,rfl,rfl⟩))
 | refuse=>intro hok;cases hok
inductive SRun (P:Program)(call:aQ)(m fl:Nat)(b:Code):Code->aE->aD->bE->aE->aD->Prop
 | stop {c t H e t' H'} (h:aU P call m fl c t H=some (e,t',H')) (he:∀ l,e ≠ .goto l):SRun P call m fl b c t H e t' H'
 | jump {c t H l t1 H1 r e t' H'} (h:aU P call m fl c t H=some (.goto l,t1,H1)) (hr:findLabel b l=some r) (k:SRun P call m fl b r t1 H1 e t' H'):SRun P call m fl b c t H e t' H'
def InS (P:Program)(b c:Code)(Q:Exit->Act->World->Prop)(a:Act)(w:World):Prop :=
 ∀ (f:Frame) (k:List Item) (cs:List Frame),∃ e a' w',Q e a' w'/\Arrives P (lone (f.at a (.code c :: .inScope b::k)) cs w) f k cs e a' w'
theorem InS.of {b c:Code}{Q:Exit->Act->World->Prop}{a:Act}{w:World}
 (h:c.wp P (fun e a w=>match e with
  | .goto l=>∃ r,findLabel b l=some r/\InS P b r Q a w
  | e=>Q e a w) a w):InS P b c Q a w:=by
 intro f k cs
 obtain⟨e,a₁,w₁,hq,harr⟩:=h f (.inScope b::k) cs
 cases e with
 | normal=>exact⟨.normal,a₁,w₁,hq,Steps.trans harr (.one step_inScope)⟩
 | exit id=>exact⟨.exit id,a₁,w₁,hq,fun k' hk=>harr k' (by simp[exitTo,hk])⟩
 | goto l =>
   obtain⟨r,hr,hs⟩:=hq
   obtain⟨e₂,a₂,w₂,hq₂,harr₂⟩:=hs f k cs
   exact⟨e₂,a₂,w₂,hq₂,.of_steps (harr _ (by simp[gotoIn,hr])) harr₂⟩
 | ret=>exact⟨_,a₁,w₁,hq,harr⟩
 | panic ch=>exact⟨_,a₁,w₁,hq,harr⟩
 | outgrown=>exact⟨_,a₁,w₁,hq,harr⟩
theorem InS.scope {b:Code}{Q:Exit->Act->World->Prop}{a:Act}{w:World}(h:InS P b b Q a w):(Code.scope b).wp P Q a w:=by
 intro f k cs
 obtain⟨e,a₁,w₁,hq,harr⟩:=h f k cs
 exact⟨e,a₁,w₁,hq,.of_steps (.one step_scope) harr⟩
theorem SRun.kept {m:Nat}(hck:CallerKept call){b c:Code}{t:aE}{H:aD}{e:bE}{t':aE}{H':aD}(h:SRun P call m fl b c t H e t' H'):Kept (fun id=>fl<=id) H H':=by
 induction h with
 | stop h _=>exact iW hck _ _ _ _ _ _ h
 | jump h _ _ ih=>exact(iW hck _ _ _ _ _ _ h).trans ih
theorem u9 {l:Nat}:∀ {b r:Code},bD n b=true->findLabel b l=some r->bD n r=true
 | .seq x y,r,ho,h=>by
   simp only[bD,aH]at ho
   simp only[findLabel]at h
   split at h
   ·rename_i x' hx
    cases h
    simp only[bD,aH]
    exact⟨u9 ho.1 hx,ho.2⟩
   ·exact u9 ho.2 h
 | .label l',r,ho,h=>by
   simp only[findLabel]at h
   split at h
   ·cases h;rfl
   ·cases h
 | .skip,r,ho,h=>by cases h
 | .region ..,r,ho,h=>by cases h
 | .cond ..,r,ho,h=>by cases h
 | .block ..,r,ho,h=>by cases h
 | .loop ..,r,ho,h=>by cases h
 | .rangeFunc ..,r,ho,h=>by cases h
 | .exit ..,r,ho,h=>by cases h
 | .scope ..,r,ho,h=>by cases h
 | .goto ..,r,ho,h=>by cases h
 | .ret,r,ho,h=>by cases h
 | .refuse ..,r,ho,h=>by cases h
theorem UP (hcs:CallerSound base w0 P call)(hck:CallerKept call)(hm:P.follows .mixedOrders=true)(hbf:base<=fl){m:Nat}{b:Code}(hb:bD n b=true){c:Code}{t:aE}{H:aD}{e:bE}{t':aE}{H':aD}
 (h:SRun P call m fl b c t H e t' H'):bD n c=true->∀ ρ w a Q,Sim base w0 All ρ H w->fl<=H.length->(∀ id,H.length<=id->id<H'.length->ρ id=none)->TRel n ρ t a ->
  Out base w0 fl n ρ H w e t' H' Q->InS P b c Q a w:=by
 induction h with
 | stop h he =>
   intro hc ρ w a Q S hfl hfr hT hQ
   refine .of (qT hcs hck hm hbf m _ hc _ _ _ _ _ ρ w a _ S hfl hfr hT h ?_)
   intro e1 ρ1 a1 w1 hee hT1 hs
   cases hee with
   | goto l=>exact absurd rfl (he l)
   | normal=>exact hQ _ ρ1 a1 w1 .normal hT1 hs
   | exit id=>exact hQ _ ρ1 a1 w1 (.exit id) hT1 hs
   | ret=>exact hQ _ ρ1 a1 w1 .ret hT1 hs
 | jump h hr k ih =>
   intro hc ρ w a Q S hfl hfr hT hQ
   have k1:=iW hck _ _ _ _ _ _ h
   have k2:=k.kept hck
   refine .of (qT hcs hck hm hbf m _ hc _ _ _ _ _ ρ w a _ S hfl (fun id h1 h2=>hfr id h1 (dC h2 k2.len)) hT h ?_)
   intro e1 ρ1 a1 w1 hee hT1 hs
   cases hee
   refine⟨_,hr,ih (u9 hb hr) ρ1 w1 a1 Q hs.simAll (bY hfl k1.len) (hs.fresh hfr) hT1 ?_⟩
   intro e2 ρ2 a2 w2 he2 hT2 hs2
   exact hQ e2 ρ2 a2 w2 he2 hT2 (hs.andThen hs2 hfr)
def fwd (l1 l2:Nat):bE->bE
 | .goto l=>if l=l1 then .exit xA else if l=l2 then .exit xB else .goto l
 | e=>e
def j6 (l1 l2:Nat)(r:Option (bE×aE×aD)):Option (bE×aE×aD):=r.map fun x=>(fwd l1 l2 x.1,x.2)
theorem JQ {l1 l2:Nat}{e:bE}(h:e ≠ .normal):fwd l1 l2 e ≠ .normal:=by
 intro k
 cases e with
 | normal=>exact h rfl
 | goto l=>simp only[fwd]at k;split at k <;> first|cases k|(split at k <;> cases k)
 | exit id=>cases k
 | ret=>cases k
theorem NZ {l1 l2:Nat}{f g:aE->aD->Option (bE×aE×aD)}(h:∀ t H,g t H=j6 l1 l2 (f t H)):∀ (m:Nat) (t:aE) (H:aD),fV g m t H=j6 l1 l2 (fV f m t H)
 | 0,_,_=>rfl
 | m+1,t,H=>by
   simp only[fV,h]
   cases f t H with
   | none=>rfl
   | some r =>
     obtain⟨e,t1,H1⟩:=r
     cases e with
     | normal=>exact NZ h m t1 H1
     | exit id=>rfl
     | ret=>rfl
     | goto l =>
       have:=JQ (l1:=l1) (l2:=l2) (e := .goto l) (by intro k;cases k)
       simp only[j6,Option.map_some]
       split
       ·rename_i hh;simp only[aX,Prod.mk.injEq]at hh;exact absurd hh.1 this
       ·rfl
theorem HB {a b:Nat}(h:(!(Nat.beq a b))=true):a≠b:=by
 intro k
 rw[k,Nat.beq_refl]at h
 cases h
theorem yC {m l1 l2:Nat}:∀ (c:Code),gL c=true->∀ (t:aE) (H:aD),aU P call m fl (lR l1 l2 c) t H=j6 l1 l2 (aU P call m fl c t H):=by
 intro c
 induction c with
 | skip=>intro _ t H;rfl
 | label l=>intro _ t H;rfl
 | exit id=>intro _ t H;rfl
 | ret=>intro _ t H;rfl
 | rangeFunc=>intro _ t H;rfl
 | scope=>intro _ t H;rfl
 | refuse=>intro _ t H;rfl
 | goto l =>
   intro _ t H
   by_cases h1:l=l1
   ·simp[lR,aU,j6,fwd,h1]
   ·by_cases h2:l=l2
    ·subst h2;simp[lR,aU,j6,fwd,h1]
    ·simp[lR,aU,j6,fwd,h1,h2]
 | region id ops draw =>
   intro _ t H
   simp only[lR,aU]
   cases cZ P call fl ops draw t H with
   | none=>rfl
   | some r=>rfl
 | seq a b iha ihb =>
   intro hf t H
   simp only[gL,aH]at hf
   simp only[lR,aU,iha hf.1]
   cases aU P call m fl a t H with
   | none=>rfl
   | some r =>
     obtain⟨e,t1,H1⟩:=r
     cases e with
     | normal=>exact ihb hf.2 t1 H1
     | exit id=>rfl
     | ret=>rfl
     | goto l =>
       have:=JQ (l1:=l1) (l2:=l2) (e := .goto l) (by intro k;cases k)
       simp only[j6,Option.map_some]
       split
       ·rename_i hh;simp only[aX,Prod.mk.injEq]at hh;exact absurd hh.1 this
       ·rfl
 | cond o x y ihx ihy =>
   intro hf t H
   simp only[gL,aH]at hf
   simp only[lR,aU]
   split
   ·exact ihx hf.1 t H
   ·exact ihy hf.2 t H
   ·rfl
 | block id b ih =>
   intro hf t H
   simp only[gL,aH]at hf
   have n1:=HB hf.1.1
   have n2:=HB hf.1.2
   simp only[lR,aU,ih hf.2]
   cases aU P call m fl b t H with
   | none=>rfl
   | some r =>
     obtain⟨e,t1,H1⟩:=r
     cases e with
     | normal=>rfl
     | exit id' =>
       simp only[j6,Option.map_some,fwd]
       by_cases hi:id'=id
       ·simp[hi]
       ·simp[hi]
     | ret=>rfl
     | goto l =>
       by_cases h1:l=l1
       ·simp[j6,fwd,h1,Ne.symm n1]
       ·by_cases h2:l=l2
        ·subst h2;simp[j6,fwd,h1,Ne.symm n2]
        ·simp[j6,fwd,h1,h2]
 | loop b ih =>
   intro hf t H
   simp only[lR,aU]
   exact NZ (fun t H=>ih hf t H) m t H
theorem I8 {f:aE->aD->Option (bE×aE×aD)}{p:Nat->Prop}(h:∀ t H id t' H',f t H=some (.exit id,t',H')->p id):∀ (m:Nat) (t:aE) (H:aD) id t' H',fV f m t H=some (.exit id,t',H')->p id
 | 0,_,_,_,_,_,k=>by cases k
 | m+1,t,H,id,t',H',k=>by
   simp only[fV]at k
   split at k
   ·exact I8 h m _ _ _ _ _ k
   ·exact h _ _ _ _ _ k
theorem uA {m:Nat}:∀ (c:Code),gL c=true->∀ (t:aE) (H:aD) (id:Nat) (t':aE) (H':aD),aU P call m fl c t H=some (.exit id,t',H')->id≠xA/\id≠xB:=by
 intro c
 induction c with
 | skip=>intro _ t H id t' H' h;cases h
 | label l=>intro _ t H id t' H' h;cases h
 | ret=>intro _ t H id t' H' h;cases h
 | rangeFunc=>intro _ t H id t' H' h;cases h
 | scope=>intro _ t H id t' H' h;cases h
 | refuse=>intro _ t H id t' H' h;cases h
 | goto l=>intro _ t H id t' H' h;cases h
 | exit id0 =>
   intro hf t H id t' H' h
   cases h
   simp only[gL,aH]at hf
   exact⟨HB hf.1,HB hf.2⟩
 | region id0 ops draw =>
   intro _ t H id t' H' h
   simp only[aU]at h
   split at h <;> cases h
 | seq a b iha ihb =>
   intro hf t H id t' H' h
   simp only[gL,aH]at hf
   simp only[aU]at h
   split at h
   ·exact ihb hf.2 _ _ _ _ _ h
   ·exact iha hf.1 _ _ _ _ _ h
 | cond o x y ihx ihy =>
   intro hf t H id t' H' h
   simp only[gL,aH]at hf
   simp only[aU]at h
   split at h
   ·exact ihx hf.1 _ _ _ _ _ h
   ·exact ihy hf.2 _ _ _ _ _ h
   ·cases h
 | block id0 b ih =>
   intro hf t H id t' H' h
   simp only[gL,aH]at hf
   simp only[aU]at h
   split at h
   ·rename_i hx
    simp only[aX,Prod.mk.injEq]at h
    obtain⟨h,rfl,rfl⟩:=h
    split at h
    ·cases h
    ·cases h;exact ih hf.2 _ _ _ _ _ hx
   ·exact ih hf.2 _ _ _ _ _ h
 | loop b ih =>
   intro hf t H id t' H' h
   simp only[aU]at h
   exact I8 (p:=fun id=>id≠xA/\id≠xB) (fun t H id t' H' k=>ih hf t H id t' H' k) m _ _ _ _ _ h
def mQ (P:Program)(call:aQ)(m fl:Nat):List Code->aE->aD->Option (bE×aE×aD)
 | [],t,H=>some (.normal,t,H)
 | c::r,t,H=>match aU P call m fl c t H with
   | some (.normal,t',H')=>mQ P call m fl r t' H'
   | r=>r
theorem lH {m:Nat}:∀ (l:List Code) (t:aE) (H:aD),aU P call m fl (un l) t H=mQ P call m fl l t H
 | [],t,H=>rfl
 | c::r,t,H=>by
   simp only[un,aU,mQ]
   split
   ·rename_i h;rw[h];exact lH r _ _
   ·rename_i h
    split
    ·rename_i k;exact absurd k (h _ _)
    ·rfl
theorem yP {m:Nat}:∀ (l l':List Code) (t:aE) (H:aD),mQ P call m fl (l++l') t H=(match mQ P call m fl l t H with
 | some (.normal,t',H')=>mQ P call m fl l' t' H'
 | r=>r)
 | [],l',t,H=>rfl
 | c::r,l',t,H=>by
   simp only[List.cons_append,mQ]
   cases aU P call m fl c t H with
   | none=>rfl
   | some x =>
     obtain⟨e,t1,H1⟩:=x
     cases e with
     | normal=>exact yP r l' t1 H1
     | _=>rfl
theorem gE {m:Nat}(c:Code)(t:aE)(H:aD):mQ P call m fl [c] t H=aU P call m fl c t H:=by
 simp only[mQ]
 cases aU P call m fl c t H with
 | none=>rfl
 | some x =>
   obtain⟨e,t1,H1⟩:=x
   cases e <;> rfl
theorem uT {m:Nat}:∀ (c:Code) (t:aE) (H:aD),aU P call m fl c t H=mQ P call m fl (gR c) t H
 | .seq a b,t,H=>by
   simp only[gR,aU,mQ]
   cases aU P call m fl a t H with
   | none=>rfl
   | some x =>
     obtain⟨e,t1,H1⟩:=x
     cases e with
     | normal=>exact uT b t1 H1
     | _=>rfl
 | .skip,t,H=>(gE _ t H).symm
 | .region ..,t,H=>(gE _ t H).symm
 | .cond ..,t,H=>(gE _ t H).symm
 | .block ..,t,H=>(gE _ t H).symm
 | .loop ..,t,H=>(gE _ t H).symm
 | .rangeFunc ..,t,H=>(gE _ t H).symm
 | .exit ..,t,H=>(gE _ t H).symm
 | .scope ..,t,H=>(gE _ t H).symm
 | .label ..,t,H=>(gE _ t H).symm
 | .goto ..,t,H=>(gE _ t H).symm
 | .ret,t,H=>(gE _ t H).symm
 | .refuse ..,t,H=>(gE _ t H).symm
theorem uJ:∀ {l p q:List Code} {n:Nat},aAU l=some (p,n,q)->l=p ++ .label n::q
 | [],_,_,_,h=>by cases h
 | x::r,p,q,n,h=>by
   unfold aAU at h
   split at h
   ·cases h
   ·rename_i h1
    simp only[List.cons.injEq]at h1
    obtain⟨rfl,rfl⟩:=h1
    cases h
    rfl
   ·rename_i h1
    simp only[List.cons.injEq]at h1
    obtain⟨rfl,rfl⟩:=h1
    split at h
    ·rename_i h2
     cases h
     rw[uJ h2]
     rfl
    ·cases h
theorem uQ {l:Nat}{m:Nat}:∀ {c:Code} {p q:List Code},gR c=p ++ .label l::q->p.all (CA l)=true ->
 ∃ r,findLabel c l=some r/\∀ t H,aU P call m fl r t H=mQ P call m fl q t H
 | .seq a b,p,q,h,hp=>by
   simp only[gR]at h
   cases p with
   | nil =>
     simp only[List.nil_append,List.cons.injEq]at h
     obtain⟨rfl,rfl⟩:=h
     refine⟨.seq .skip b,by simp[findLabel],fun t H => ?_⟩
     simp only[aU]
     exact uT b t H
   | cons x p =>
     simp only[List.cons_append,List.cons.injEq]at h
     obtain⟨rfl,h⟩:=h
     simp only[List.all_cons,aH]at hp
     obtain⟨r,h1,h2⟩:=uQ h hp.2
     have h3:findLabel a l=none:=by
      have:=hp.1
      unfold CA at this
      exact Option.isNone_iff_eq_none.1 this
     exact⟨r,by simp only[findLabel,h3];exact h1,h2⟩
 | .label l',p,q,h,hp=>by
   cases p with
   | nil =>
     simp only[gR,List.nil_append,List.cons.injEq,Code.label.injEq]at h
     obtain⟨rfl,rfl⟩:=h
     exact⟨.skip,by simp[findLabel],fun t H=>rfl⟩
   | cons x p=>simp[gR]at h
 | .skip,p,q,h,hp=>by cases p <;> simp[gR]at h
 | .region ..,p,q,h,hp=>by cases p <;> simp[gR]at h
 | .cond ..,p,q,h,hp=>by cases p <;> simp[gR]at h
 | .block ..,p,q,h,hp=>by cases p <;> simp[gR]at h
 | .loop ..,p,q,h,hp=>by cases p <;> simp[gR]at h
 | .rangeFunc ..,p,q,h,hp=>by cases p <;> simp[gR]at h
 | .exit ..,p,q,h,hp=>by cases p <;> simp[gR]at h
 | .scope ..,p,q,h,hp=>by cases p <;> simp[gR]at h
 | .goto ..,p,q,h,hp=>by cases p <;> simp[gR]at h
 | .ret,p,q,h,hp=>by cases p <;> simp[gR]at h
 | .refuse ..,p,q,h,hp=>by cases p <;> simp[gR]at h
theorem SRun.same {m:Nat}{b c c':Code}{t t1:aE}{H H1:aD}{e:bE}{t':aE}{H':aD}(he:aU P call m fl c' t1 H1=aU P call m fl c t H)(h:SRun P call m fl b c t H e t' H'):SRun P call m fl b c' t1 H1 e t' H':=by
 cases h with
 | stop h k=>exact .stop (he.trans h) k
 | jump h hr k=>exact .jump (he.trans h) hr k
theorem OQ {m:Nat}{a b:Code}{t:aE}{H:aD}:aU P call m fl (.seq a b) t H=(match aU P call m fl a t H with
 | some (.normal,t',H')=>aU P call m fl b t' H'
 | r=>r):=by simp only[aU];rfl
theorem QD {m id:Nat}{b:Code}{t:aE}{H:aD}:aU P call m fl (.block id b) t H=(match aU P call m fl b t H with
 | some (.exit id',t',H')=>some (if id'=id then .normal else .exit id',t',H')
 | r=>r):=by simp only[aU];rfl
theorem WY {m:Nat}{b:Code}{t:aE}{H:aD}:aU P call m fl (.loop b) t H=fV (aU P call m fl b) m t H:=by simp only[aU]
theorem YS {m id:Nat}{t:aE}{H:aD}:aU P call m fl (.exit id) t H=some (.exit id,t,H):=rfl
theorem FG {m l1 l2:Nat}{b:Code}{B C:List Code}{r1 r2:Code}(hl:l1≠l2)(hB:gL (un B)=true)(h1:findLabel b l1=some r1)(h2:findLabel b l2=some r2)
 (e1:∀ t H,aU P call m fl r1 t H=mQ P call m fl (B ++ .label l2::C) t H) (e2:∀ t H,aU P call m fl r2 t H=mQ P call m fl C t H) :
 ∀ (k:Nat) (t:aE) (H:aD) (e:bE) (t1:aE) (H1:aD),fV (aU P call m fl (.block xA (.seq (lR l1 l2 (un B)) (.exit xB)))) k t H=some (e,t1,H1) ->
   (e = .exit xB->∀ e' t' H',SRun P call m fl b r2 t1 H1 e' t' H'->SRun P call m fl b r1 t H e' t' H')/\(e = .ret->SRun P call m fl b r1 t H .ret t1 H1)/\e ≠ .normal
 | 0,_,_,_,_,_,h=>by cases h
 | k+1,t,H,e,t1,H1,h=>by
   simp only[fV,QD,OQ,YS,yC _ hB,lH]at h
   have hr1:=e1 t H
   rw[yP]at hr1
   cases hx:mQ P call m fl B t H with
   | none=>rw[hx]at h;cases h
   | some x =>
     obtain⟨ex,tx,Hx⟩:=x
     rw[hx]at h hr1
     cases ex with
     | normal =>
       simp only[j6,Option.map_some,fwd]at h
       have hd:xB≠xA:=by decide
       simp only[hd,aS,aX,Prod.mk.injEq]at h
       obtain⟨rfl,rfl,rfl⟩:=h
       refine⟨fun _ e' t' H' hs=>hs.same ?_,fun k=>(by cases k),fun k=>(by cases k)⟩
       rw[hr1,e2]
       rfl
     | ret =>
       simp only[j6,Option.map_some,fwd,aX,Prod.mk.injEq]at h
       obtain⟨rfl,rfl,rfl⟩:=h
       exact⟨fun k=>(by cases k),fun _ => .stop hr1 (fun l k=>by cases k),fun k=>(by cases k)⟩
     | goto l =>
       by_cases hl1:l=l1
       ·subst hl1
        simp only[j6,Option.map_some,fwd,aO]at h
        obtain⟨g1,g2,g3⟩:=FG hl hB h1 h2 e1 e2 k tx Hx e t1 H1 h
        exact⟨fun he e' t' H' hs => .jump hr1 h1 (g1 he e' t' H' hs),fun he => .jump hr1 h1 (g2 he),g3⟩
       ·by_cases hl2:l=l2
        ·subst hl2
         have hd:xB≠xA:=by decide
         simp only[j6,Option.map_some,fwd,aO,aC hl1,aC hd,aX,Prod.mk.injEq]at h
         obtain⟨rfl,rfl,rfl⟩:=h
         exact⟨fun _ e' t' H' hs => .jump hr1 h2 hs,fun k=>(by cases k),fun k=>(by cases k)⟩
        ·simp only[j6,Option.map_some,fwd,aC hl1,aC hl2,aX,Prod.mk.injEq]at h
         obtain⟨rfl,rfl,rfl⟩:=h
         exact⟨fun k=>(by cases k),fun k=>(by cases k),fun k=>(by cases k)⟩
     | exit id =>
       have hn:=uA _ hB t H id tx Hx (by rw[lH];exact hx)
       simp only[j6,Option.map_some,fwd,aC hn.1,aX,Prod.mk.injEq]at h
       obtain⟨rfl,rfl,rfl⟩:=h
       exact⟨fun k=>(by cases k;exact absurd rfl hn.2),fun k=>(by cases k),fun k=>(by cases k)⟩
theorem DL {m l1:Nat}{b:Code}{B:List Code}{r1:Code}(hB:gL (un B)=true)(h1:findLabel b l1=some r1)
 (e1:∀ t H,aU P call m fl r1 t H=mQ P call m fl B t H) :
 ∀ (k:Nat) (t:aE) (H:aD) (e:bE) (t1:aE) (H1:aD),fV (aU P call m fl (.block xA (.seq (lR l1 l1 (un B)) (.exit xB)))) k t H=some (e,t1,H1) ->
   (e = .exit xB->SRun P call m fl b r1 t H .normal t1 H1)/\(e = .ret->SRun P call m fl b r1 t H .ret t1 H1)/\e ≠ .normal
 | 0,_,_,_,_,_,h=>by cases h
 | k+1,t,H,e,t1,H1,h=>by
   simp only[fV,QD,OQ,YS,yC _ hB,lH]at h
   have hr1:=e1 t H
   cases hx:mQ P call m fl B t H with
   | none=>rw[hx]at h;cases h
   | some x =>
     obtain⟨ex,tx,Hx⟩:=x
     rw[hx]at h hr1
     cases ex with
     | normal =>
       simp only[j6,Option.map_some,fwd]at h
       have hd:xB≠xA:=by decide
       simp only[hd,aS,aX,Prod.mk.injEq]at h
       obtain⟨rfl,rfl,rfl⟩:=h
       exact⟨fun _ => .stop hr1 (fun l k=>by cases k),fun k=>(by cases k),fun k=>(by cases k)⟩
     | ret =>
       simp only[j6,Option.map_some,fwd,aX,Prod.mk.injEq]at h
       obtain⟨rfl,rfl,rfl⟩:=h
       exact⟨fun k=>(by cases k),fun _ => .stop hr1 (fun l k=>by cases k),fun k=>(by cases k)⟩
     | goto l =>
       by_cases hl1:l=l1
       ·subst hl1
        simp only[j6,Option.map_some,fwd,aO]at h
        obtain⟨g1,g2,g3⟩:=DL hB h1 e1 k tx Hx e t1 H1 h
        exact⟨fun he => .jump hr1 h1 (g1 he),fun he => .jump hr1 h1 (g2 he),g3⟩
       ·simp only[j6,Option.map_some,fwd,aC hl1,aX,Prod.mk.injEq]at h
        obtain⟨rfl,rfl,rfl⟩:=h
        exact⟨fun k=>(by cases k),fun k=>(by cases k),fun k=>(by cases k)⟩
     | exit id =>
       have hn:=uA _ hB t H id tx Hx (by rw[lH];exact hx)
       simp only[j6,Option.map_some,fwd,aC hn.1,aX,Prod.mk.injEq]at h
       obtain⟨rfl,rfl,rfl⟩:=h
       exact⟨fun k=>(by cases k;exact absurd rfl hn.2),fun k=>(by cases k),fun k=>(by cases k)⟩
theorem aAL {m l1:Nat}{b b':Code}{A r:List Code}(hc1:aAU (gR b)=some (A,l1,r))
 (h:(if (gL (un A)&&gL (un r)&&A.all (CA l1))=true then some (Code.seq (.block xB (.seq (lR l1 l1 (un A)) (.loop (.block xA (.seq (lR l1 l1 (un r)) (.exit xB)))))) .skip)else none)=some b')
 {t:aE} {H:aD} {e:bE} {t':aE} {H':aD} (hx:aU P call m fl b' t H=some (e,t',H')) (he:e = .normal\/e = .ret) :
 SRun P call m fl b b t H e t' H':=by
 split at h
 case isFalse=>cases h
 rename_i hk
 simp only[aH]at hk
 obtain⟨⟨hA,hB⟩,hA1⟩:=hk
 cases h
 have hsp:gR b=A ++ .label l1::r:=uJ hc1
 obtain⟨r1,f1,e1⟩:=uQ (P:=P) (call:=call) (fl:=fl) (m:=m) hsp hA1
 have hng:∀ l,e ≠ .goto l:=fun l k=>by rcases he with h|h <;> rw[h]at k <;> cases k
 have hb0:=uT (P:=P) (call:=call) (fl:=fl) (m:=m) b t H
 rw[hsp,yP]at hb0
 have skp:∀ t1 H1,aU P call m fl .skip t1 H1=some (.normal,t1,H1):=fun _ _=>rfl
 simp only[OQ,QD,WY,yC _ hA,lH,skp]at hx
 cases hxa:mQ P call m fl A t H with
 | none=>rw[hxa]at hx;cases hx
 | some x =>
   obtain⟨ea,ta,Ha⟩:=x
   rw[hxa]at hx hb0
   cases ea with
   | normal =>
     have hb1:aU P call m fl b t H=aU P call m fl r1 ta Ha:=by
      rw[hb0,e1]
      rfl
     simp only[j6,Option.map_some,fwd]at hx
     cases hlp:fV (aU P call m fl (.block xA (.seq (lR l1 l1 (un r)) (.exit xB)))) m ta Ha with
     | none=>rw[hlp]at hx;cases hx
     | some y =>
       obtain⟨el,tl,Hl⟩:=y
       obtain⟨g1,g2,g3⟩:=DL hB f1 e1 m ta Ha el tl Hl hlp
       rw[hlp]at hx
       cases el with
       | normal=>exact absurd rfl g3
       | ret =>
         simp only[aX,Prod.mk.injEq]at hx
         obtain⟨rfl,rfl,rfl⟩:=hx
         exact(g2 rfl).same hb1
       | goto l =>
         simp only[aX,Prod.mk.injEq]at hx
         exact absurd hx.1.symm (hng l)
       | exit id =>
         by_cases hid:id=xB
         ·subst hid
          simp only[aO,aX,Prod.mk.injEq]at hx
          obtain⟨rfl,rfl,rfl⟩:=hx
          exact(g1 rfl).same hb1
         ·simp only[aC hid,aX,Prod.mk.injEq]at hx
          rcases he with h|h <;> rw[h]at hx <;> cases hx.1
   | ret =>
     simp only[j6,Option.map_some,fwd,aX,Prod.mk.injEq]at hx
     obtain⟨rfl,rfl,rfl⟩:=hx
     exact .stop hb0 hng
   | exit id =>
     have hn:=uA _ hA t H id ta Ha (by rw[lH];exact hxa)
     simp only[j6,Option.map_some,fwd,aC hn.2,aX,Prod.mk.injEq]at hx
     rcases he with h|h <;> rw[h]at hx <;> cases hx.1
   | goto l =>
     by_cases hl1:l=l1
     ·subst hl1
      have hd:xA≠xB:=by decide
      simp only[j6,Option.map_some,fwd,aO,aC hd,aX,Prod.mk.injEq]at hx
      rcases he with h|h <;> rw[h]at hx <;> cases hx.1
     ·simp only[j6,Option.map_some,fwd,aC hl1,aX,Prod.mk.injEq]at hx
      exact absurd hx.1.symm (hng l)
theorem aAe {m:Nat}{b b':Code}(h:trS b=some b'){t:aE}{H:aD}{e:bE}{t':aE}{H':aD}(hx:aU P call m fl b' t H=some (e,t',H'))(he:e = .normal\/e = .ret) :
 SRun P call m fl b b t H e t' H':=by
 unfold trS at h
 split at h
 case h_2=>cases h
 rename_i A l1 r hc1
 split at h
 case h_2=>exact aAL hc1 h hx he
 rename_i B l2 C hc2
 split at h
 case isFalse=>cases h
 rename_i hk
 simp only[aH]at hk
 obtain⟨⟨⟨⟨⟨hl,hA⟩,hB⟩,hA1⟩,hA2⟩,hB2⟩:=hk
 cases h
 have hl:=HB hl
 have hsp:gR b=A ++ .label l1::(B ++ .label l2::C):=by rw[uJ hc1,uJ hc2]
 obtain⟨r1,f1,e1⟩:=uQ (P:=P) (call:=call) (fl:=fl) (m:=m) hsp hA1
 obtain⟨r2,f2,e2⟩:=uQ (P:=P) (call:=call) (fl:=fl) (m:=m) (l:=l2) (c:=b) (p:=A ++ .label l1::B) (q:=C) (by rw[hsp];simp) (by
  rw[List.all_append,hA2,List.all_cons,hB2]
  have:CA l2 (.label l1)=true:=by simp[CA,findLabel,hl]
  rw[this];rfl)
 have hng:∀ l,e ≠ .goto l:=fun l k=>by rcases he with h|h <;> rw[h]at k <;> cases k
 have hb0:=uT (P:=P) (call:=call) (fl:=fl) (m:=m) b t H
 rw[hsp,yP]at hb0
 have fin:∀ t1 H1,aU P call m fl (un C) t1 H1=some (e,t',H')->SRun P call m fl b r2 t1 H1 e t' H':=fun t1 H1 k => .stop ((e2 t1 H1).trans ((lH C t1 H1).symm.trans k)) hng
 simp only[OQ,QD,WY,yC _ hA,lH]at hx
 cases hxa:mQ P call m fl A t H with
 | none=>rw[hxa]at hx;cases hx
 | some x =>
   obtain⟨ea,ta,Ha⟩:=x
   rw[hxa]at hx hb0
   cases ea with
   | normal =>
     have hb1:aU P call m fl b t H=aU P call m fl r1 ta Ha:=by
      rw[hb0,e1]
      rfl
     simp only[j6,Option.map_some,fwd]at hx
     cases hlp:fV (aU P call m fl (.block xA (.seq (lR l1 l2 (un B)) (.exit xB)))) m ta Ha with
     | none=>rw[hlp]at hx;cases hx
     | some y =>
       obtain⟨el,tl,Hl⟩:=y
       obtain⟨g1,g2,g3⟩:=FG hl hB f1 f2 e1 e2 m ta Ha el tl Hl hlp
       rw[hlp]at hx
       cases el with
       | normal=>exact absurd rfl g3
       | ret =>
         simp only[aX,Prod.mk.injEq]at hx
         obtain⟨rfl,rfl,rfl⟩:=hx
         exact(g2 rfl).same hb1
       | goto l =>
         simp only[aX,Prod.mk.injEq]at hx
         exact absurd hx.1.symm (hng l)
       | exit id =>
         by_cases hid:id=xB
         ·subst hid
          simp only[aO]at hx
          exact(g1 rfl _ _ _ (fin tl Hl (by rw[lH];exact hx))).same hb1
         ·simp only[aC hid,aX,Prod.mk.injEq]at hx
          rcases he with h|h <;> rw[h]at hx <;> cases hx.1
   | ret =>
     simp only[j6,Option.map_some,fwd,aX,Prod.mk.injEq]at hx
     obtain⟨rfl,rfl,rfl⟩:=hx
     exact .stop hb0 hng
   | exit id =>
     have hn:=uA _ hA t H id ta Ha (by rw[lH];exact hxa)
     simp only[j6,Option.map_some,fwd,aC hn.2,aX,Prod.mk.injEq]at hx
     rcases he with h|h <;> rw[h]at hx <;> cases hx.1
   | goto l =>
     by_cases hl1:l=l1
     ·subst hl1
      have hd:xA≠xB:=by decide
      simp only[j6,Option.map_some,fwd,aO,aC hd,aX,Prod.mk.injEq]at hx
      rcases he with h|h <;> rw[h]at hx <;> cases hx.1
     ·by_cases hl2:l=l2
      ·subst hl2
       simp only[j6,Option.map_some,fwd,aC hl1,aO]at hx
       exact .jump hb0 f2 (fin ta Ha (by rw[lH];exact hx))
      ·simp only[j6,Option.map_some,fwd,aC hl1,aC hl2,aX,Prod.mk.injEq]at hx
       exact absurd hx.1.symm (hng l)
theorem sN {l1 l2:Nat}:∀ (c:Code),bD n (lR l1 l2 c)=bD n c
 | .goto l=>by
   simp only[lR]
   split
   ·rfl
   ·split <;> rfl
 | .seq a b=>by simp only[lR,bD,sN a,sN b]
 | .cond c a b=>by simp only[lR,bD,sN a,sN b]
 | .block id b=>by simp only[lR,bD,sN b]
 | .loop b=>by simp only[lR,bD,sN b]
 | .skip=>rfl
 | .region .. => rfl
 | .rangeFunc .. => rfl
 | .exit .. => rfl
 | .scope .. => rfl
 | .label .. => rfl
 | .ret=>rfl
 | .refuse .. => rfl
theorem aCV:∀ (l:List Code),bD n (un l)=l.all (bD n)
 | []=>rfl
 | c::r=>by simp only[un,bD,List.all_cons,aCV r]
theorem IJ:∀ (c:Code),(gR c).all (bD n)=bD n c
 | .seq a b=>by simp only[gR,bD,List.all_cons,IJ b]
 | .cond c a b=>by simp[gR]
 | .block id b=>by simp[gR]
 | .loop b=>by simp[gR]
 | .skip=>rfl
 | .region .. => by simp[gR]
 | .rangeFunc .. => rfl
 | .exit .. => rfl
 | .scope .. => rfl
 | .label .. => rfl
 | .goto .. => rfl
 | .ret=>rfl
 | .refuse .. => rfl
theorem aCp {b b':Code}(h:trS b=some b')(ho:bD n b'=true):bD n b=true:=by
 unfold trS at h
 split at h
 case h_2=>cases h
 rename_i A l1 r hc1
 split at h
 case h_2 =>
  split at h
  case isFalse=>cases h
  cases h
  simp only[bD,sN,aCV,aH]at ho
  rw[<- IJ,uJ hc1]
  simp only[List.all_append,List.all_cons,bD,aH,lP]
  exact⟨ho.1.1,ho.1.2.1⟩
 rename_i B l2 C hc2
 split at h
 case isFalse=>cases h
 cases h
 simp only[bD,sN,aCV,aH]at ho
 rw[<- IJ,uJ hc1,uJ hc2]
 simp only[List.all_append,List.all_cons,bD,aH,lP]
 exact⟨ho.1.1,ho.1.2.1,ho.2⟩
theorem JR (hcs:CallerSound base w0 P call)(hck:CallerKept call)(hm:P.follows .mixedOrders=true)(hbf:base<=fl)(m:Nat)(c:Code)(hok:bD n (RR c)=true)(t:aE)(H:aD)(e:bE)(t':aE)(H':aD)
 (ρ:Ren) (w:World) (a:Act) (Q:Exit->Act->World->Prop) (S:Sim base w0 All ρ H w) (hfl:fl<=H.length) (hfr:∀ id,H.length<=id->id<H'.length->ρ id=none) (hT:TRel n ρ t a)
 (h:aU P call m fl (RR c) t H=some (e,t',H')) (he:e = .normal\/e = .ret) (hQ:Out base w0 fl n ρ H w e t' H' Q):c.wp P Q a w:=by
 have plain:RR c=c->c.wp P Q a w:=fun k=>by
  rw[k]at hok h
  exact qT hcs hck hm hbf m c hok t H e t' H' ρ w a Q S hfl hfr hT h hQ
 cases c with
 | seq x y =>
   cases y with
   | scope b =>
     cases hb:trS b with
     | none=>exact plain (by simp only[RR,hb])
     | some b' =>
       simp only[RR,hb]at hok h
       simp only[bD,aH]at hok
       simp only[aU]at h
       refine wp_seq ?_
       split at h
       ·rename_i t1 H1 hx
        have k1:=iW hck _ _ _ _ _ _ hx
        have k2:=iW hck _ _ _ _ _ _ h
        refine qT hcs hck hm hbf m x hok.1 t H _ t1 H1 ρ w a _ S hfl (fun id h1 h2=>hfr id h1 (dC h2 k2.len)) hT hx ?_
        intro e1 ρ1 a1 w1 hee hT1 hs
        cases hee
        refine InS.scope (UP hcs hck hm hbf (aCp hb hok.2) (aAe hb h he) (aCp hb hok.2) ρ1 w1 a1 Q hs.simAll (bY hfl k1.len) (hs.fresh hfr) hT1 ?_)
        intro e2 ρ2 a2 w2 he2 hT2 hs2
        exact hQ e2 ρ2 a2 w2 he2 hT2 (hs.andThen hs2 hfr)
       ·rename_i hne
        refine qT hcs hck hm hbf m x hok.1 t H e t' H' ρ w a _ S hfl hfr hT h ?_
        intro e1 ρ1 a1 w1 hee hT1 hs
        cases hee with
        | normal=>exact absurd h (hne _ _)
        | exit id=>exact hQ _ ρ1 a1 w1 (.exit id) hT1 hs
        | goto l=>exact hQ _ ρ1 a1 w1 (.goto l) hT1 hs
        | ret=>exact hQ _ ρ1 a1 w1 .ret hT1 hs
   | _=>exact plain rfl
 | _=>exact plain rfl
theorem GB {N:Nat}{fl:Nat}{f:FuncId}{args:Array Value}{H H':aD}{v:Value}(h:f9 P (N+1) fl f args H=some (v,H')) :
 (∃ fn c e t' vs,P.funcs[f]? = some fn/\bod fn=some c/\q7 fn c=true/\args.size<=fn.ntmps/\aU P (f9 P N) N fl c (start args) H=some (e,t',H')/\(e = .normal\/e = .ret) /\
  bV P t' H' fn.results.toList=some vs/\v=iE vs)\/zA P fl f args H=some (v,H'):=by
 simp only[f9]at h
 cases hf:P.funcs[f]? with
 | none=>simp[hf]at h
 | some fn =>
   simp only[hf]at h
   cases hb:bod fn with
   | none=>simp[hb]at h
   | some c =>
     simp only[hb]at h
     split at h
     ·rename_i hok
      simp only[aH,cK]at hok
      split at h
      ·rename_i t1 H1 hx
       cases hv:bV P t1 H1 fn.results.toList with
       | none=>simp[hv]at h
       | some vs =>
         simp[hv]at h
         obtain⟨rfl,rfl⟩:=h
         exact .inl ⟨fn,c,_,t1,vs,rfl,hb,HS hok.1,hok.2,hx,.inl rfl,hv,rfl⟩
      ·rename_i t1 H1 hx
       cases hv:bV P t1 H1 fn.results.toList with
       | none=>simp[hv]at h
       | some vs =>
         simp[hv]at h
         obtain⟨rfl,rfl⟩:=h
         exact .inl ⟨fn,c,_,t1,vs,rfl,hb,HS hok.1,hok.2,hx,.inr rfl,hv,rfl⟩
      ·cases h
     ·exact .inr h
theorem HX (P:Program):∀ N,CallerKept (f9 P N)
 | 0,_,_,_,_,_,_,h=>by cases h
 | N+1,fl,f,args,H,v,H',h=>by
   rcases GB h with⟨fn,c,e,t',vs,_,_,_,_,hx,_⟩|h
   ·exact iW (HX P N) _ _ _ _ _ _ hx
   ·exact aAM P _ _ _ _ _ _ h
theorem TRel.start {n:Nat}{ρ:Ren}{args cargs:Array Value}(h:LRel ρ args.toList cargs.toList)(hn:args.size<=n) :
 TRel n ρ (start args) { tmps:=cargs++Array.replicate (n-cargs.size) undef,defers:=[] }:=by
 have hsz:cargs.size=args.size:=by have:=h.1;simpa using this.symm
 refine⟨by simp;omega,rfl,fun d hd => ?_⟩
 have:=h.getD (VRel.undef ρ) d
 show VRel ρ (args.getD d undef) _
 simp only[nT,List.getD,nF]at this⊢
 by_cases hc:d<cargs.size
 ·rw[Array.getElem?_append_left hc];exact this
 ·rw[Array.getElem?_append_right (by omega),Array.getElem?_replicate,aA (by omega)]
  rw[Array.getElem?_eq_none (by omega)]
  exact VRel.undef ρ
def LO (tmps:Array Value):ResultVar->Sem Value
 | .tmp t=>pure (tmps.getD t undef)
 | .cell x ty=>do loadVar ty (<- asAddr (tmps.getD x undef))
theorem pA {n:Nat}{ρ:Ren}{t:aE}{H:aD}{w:World}{a:Act}(S:Sim base w0 All ρ H w)(hT:TRel n ρ t a):∀ (rs:List ResultVar) (vs:List Value),
 (rs.all fun | .tmp d=>decide (d<n) | .cell d _=>decide (d<n))=true->bV P t H rs=some vs ->
 ∃ vs',(rs.mapM (LO a.tmps)).run P w = .ok vs' w/\LRel ρ vs vs'
 | [],vs,_,h=>by cases h;exact⟨[],by simp,LRel.nil ρ⟩
 | r::rs,vs,hok,h=>by
   simp only[List.all_cons,aH]at hok
   simp only[bV]at h
   cases h1:iU P t H r with
   | none=>simp[h1]at h
   | some v =>
     cases h2:bV P t H rs with
     | none=>simp[h1,h2]at h
     | some us =>
       simp[h1,h2]at h
       subst h
       obtain⟨us',g1,g2⟩:=pA S hT rs us hok.2 h2
       cases r with
       | tmp d =>
         have hd:d<n:=by simpa using hok.1
         simp only[iU,aX]at h1
         subst h1
         refine⟨a.tmps.getD d undef::us',?_,LRel.cons (hT.rel d hd) g2⟩
         rw[List.mapM_cons]
         simp only[LO,Sem.run_bind,Sem.run_pure,Result.andThen_ok,g1]
       | cell x ty =>
         have hd:x<n:=by simpa using hok.1
         have hx:=hT.rel x hd
         simp only[iU]at h1
         split at h1
         ·rename_i p hp
          obtain⟨b,o,s⟩:=p
          rw[hp]at hx
          generalize hu:a.tmps.getD x undef=u at hx
          obtain⟨rfl,L,hL,rfl⟩:=uG hx
          obtain⟨v',r1,r2⟩:=FB (P:=P) S trivial hL h1
          refine⟨v'::us',?_,LRel.cons r2 g2⟩
          rw[List.mapM_cons]
          have ha:(asAddr (a.tmps.getD x undef)).run P w = .ok ⟨L.blk,L.off+o,none⟩ w:=by rw[hu];rfl
          simp only[LO,Sem.run_bind,ha,Result.andThen_ok,r1,g1,Sem.run_pure]
         ·cases h1
theorem yG {ρ:Ren}{vs vs':List Value}(h:LRel ρ vs vs'):VRel ρ (iE vs) (iE vs'):=by
 cases vs with
 | nil=>rw[h.inv_nil];exact .tuple _ _ rfl fun i v v' hv=>by simp at hv
 | cons v l =>
   obtain⟨y,ys,rfl,hv,ht⟩:=h.inv
   cases l with
   | nil=>rw[ht.inv_nil];exact hv
   | cons u l =>
     obtain⟨z,zs,rfl,hu,hs⟩:=ht.inv
     have hl:=h.1
     exact .tuple _ _ (by simpa using hl) fun i a c ha hc=>h.2 i a c (by simpa using ha) (by simpa using hc)
theorem FI {fn:Func}{tmps:Array Value}{w:World}{vs':List Value}
 (h:(fn.results.toList.mapM (LO tmps)).run P w = .ok vs' w) :
 (results fn tmps).run P w = .ok (iE vs') w:=by
 have he:results fn tmps=(do
  let vs <- fn.results.mapM (LO tmps)
  pure (if h:vs.size=1 then vs[0]else .tuple vs)):=by
  unfold results
  congr 1
 rw[he,Array.mapM_eq_mapM_toList]
 simp only[Sem.run_bind,Sem.run_map]
 rw[h]
 simp only[Result.andThen_ok,Sem.run_pure]
 congr 1
 cases vs' with
 | nil=>rfl
 | cons v l=>cases l <;> rfl
theorem FY (P:Program)(hX:CallerSound base w0 P (zA P))(hm:P.follows .mixedOrders=true):∀ N,CallerSound base w0 P (f9 P N)
 | 0,_,_,_,_,_,_,_,_,_,_,_,_,_,_,h=>by cases h
 | N+1,fl,f,args,cargs,ρ,H,H',w,v,S,hbf,hfl,hfr,hargs,h=>by
   rcases GB h with⟨fn,c,e,t',vs,hf,hb,hok,hsz,hx,he,hr,rfl⟩|h
   case inr=>exact hX fl f args cargs ρ H H' w v S hbf hfl hfr hargs h
   simp only[q7,aH]at hok
   have hcsz:cargs.size=args.size:=by have:=hargs.1;simpa using this.symm
   obtain⟨c0,hb0,rfl⟩:∃ c0,fn.body=some c0/\RR c0=c:=by
    unfold bod at hb
    exact Option.map_eq_some_iff.1 hb
   refine calls_of_wp hf hb0 ?_
   refine JR (n:=fn.ntmps) (w0:=w0) (FY P hX hm N) (HX P N) hm hbf N c0 hok.1.1 (start args) H e t' H' ρ w _ _ S hfl hfr (TRel.start hargs hsz) hx he ?_
   intro e' ρ' a' w' hee hT hs
   obtain⟨vs',g1,g2⟩:=pA (P:=P) hs.simAll hT fn.results.toList vs hok.2 hr
   have hres:=FI g1
   rcases he with rfl|rfl
   ·cases hee
    exact⟨hT.defers,_,hres,_,ρ',rfl,yG g2,hs⟩
   ·cases hee
    exact⟨hT.defers,_,hres,_,ρ',rfl,yG g2,hs⟩
theorem FX {xb:FuncId->Bool}{xf:aQ}{N:Nat}{fl:Nat}{f:FuncId}{args:Array Value}{H H':aD}{v:Value}(h:jI xb xf P (N+1) fl f args H=some (v,H')) :
 (∃ fn c e t' vs,P.funcs[f]? = some fn/\bod fn=some c/\q7 fn c=true/\args.size<=fn.ntmps/\aU P (jI xb xf P N) N fl c (start args) H=some (e,t',H')/\(e = .normal\/e = .ret) /\
  bV P t' H' fn.results.toList=some vs/\v=iE vs)\/xf fl f args H=some (v,H'):=by
 simp only[jI]at h
 cases hf:P.funcs[f]? with
 | none=>simp[hf]at h
 | some fn =>
   simp only[hf]at h
   cases hb:bod fn with
   | none=>simp[hb]at h
   | some c =>
     simp only[hb]at h
     split at h
     ·rename_i hok
      simp only[aH,cK]at hok
      split at h
      ·rename_i t1 H1 hx
       cases hv:bV P t1 H1 fn.results.toList with
       | none=>simp[hv]at h
       | some vs =>
         simp[hv]at h
         obtain⟨rfl,rfl⟩:=h
         exact .inl ⟨fn,c,_,t1,vs,rfl,hb,aAX hok.1,hok.2,hx,.inl rfl,hv,rfl⟩
      ·rename_i t1 H1 hx
       cases hv:bV P t1 H1 fn.results.toList with
       | none=>simp[hv]at h
       | some vs =>
         simp[hv]at h
         obtain⟨rfl,rfl⟩:=h
         exact .inl ⟨fn,c,_,t1,vs,rfl,hb,aAX hok.1,hok.2,hx,.inr rfl,hv,rfl⟩
      ·cases h
     ·exact .inr h
theorem rF (xb:FuncId->Bool){xf:aQ}(hxk:CallerKept xf)(P:Program):∀ N,CallerKept (jI xb xf P N)
 | 0,_,_,_,_,_,_,h=>by cases h
 | N+1,fl,f,args,H,v,H',h=>by
   rcases FX h with⟨fn,c,e,t',vs,_,_,_,_,hx,_⟩|h
   ·exact iW (rF xb hxk P N) _ _ _ _ _ _ hx
   ·exact hxk _ _ _ _ _ _ h
theorem GA (xb:FuncId->Bool){xf:aQ}(hxk:CallerKept xf)(P:Program)(hX:CallerSound base w0 P xf)(hm:P.follows .mixedOrders=true):∀ N,CallerSound base w0 P (jI xb xf P N)
 | 0,_,_,_,_,_,_,_,_,_,_,_,_,_,_,h=>by cases h
 | N+1,fl,f,args,cargs,ρ,H,H',w,v,S,hbf,hfl,hfr,hargs,h=>by
   rcases FX h with⟨fn,c,e,t',vs,hf,hb,hok,hsz,hx,he,hr,rfl⟩|h
   case inr=>exact hX fl f args cargs ρ H H' w v S hbf hfl hfr hargs h
   simp only[q7,aH]at hok
   have hcsz:cargs.size=args.size:=by have:=hargs.1;simpa using this.symm
   obtain⟨c0,hb0,rfl⟩:∃ c0,fn.body=some c0/\RR c0=c:=by
    unfold bod at hb
    exact Option.map_eq_some_iff.1 hb
   refine calls_of_wp hf hb0 ?_
   refine JR (n:=fn.ntmps) (w0:=w0) (GA xb hxk P hX hm N) (rF xb hxk P N) hm hbf N c0 hok.1.1 (start args) H e t' H' ρ w _ _ S hfl hfr (TRel.start hargs hsz) hx he ?_
   intro e' ρ' a' w' hee hT hs
   obtain⟨vs',g1,g2⟩:=pA (P:=P) hs.simAll hT fn.results.toList vs hok.2 hr
   have hres:=FI g1
   rcases he with rfl|rfl
   ·cases hee
    exact⟨hT.defers,_,hres,_,ρ',rfl,yG g2,hs⟩
   ·cases hee
    exact⟨hT.defers,_,hres,_,ρ',rfl,yG g2,hs⟩
end
end Go.Mach
