/- Part of the proof. No condition. -/
import Derived.Test.YtcfpfefadlnmcaaGreatYRegion
import Derived.Test.YtcfpfefadlnmcaaGreatYExtS
import Derived.LoopN
import Derived.Scope
namespace Go.Mach
inductive aJT:f9->Exit->Prop
 | normal:aJT .normal .normal
 | exit (id:Nat):aJT (.exit id) (.exit id)
 | goto (l:Nat):aJT (.goto l) (.goto l)
 | ret:aJT .ret .ret
section
variable {P:Program} {call:nS} {base fl n:Nat} {w0:World}
def Out (base:Nat)(w0:World)(fl n:Nat)(ρ:Ren)(H:aE)(w:World)(e:f9)(t':aJ)(H':aE)(Q:Exit->Act->World->Prop):Prop :=
 ∀ e' ρ' a' w',aJT e e'->TRel n ρ' t' a'->Step base w0 All All fl ρ H w ρ' H' w'->Q e' a' w'
theorem aLu {H:aE}:(fun id=>All id\/H.length<=id)=All:=funext fun _=>propext ⟨fun _=>trivial,fun _ => .inl trivial⟩
theorem Step.simAll {fl:Nat}{ρ ρ':Ren}{H H':aE}{w w':World}(s:Step base w0 All All fl ρ H w ρ' H' w'):Sim base w0 All ρ' H' w':=by
 have:=s.sim
 rwa [aLu]at this
theorem Step.fresh {fl:Nat}{ρ ρ1:Ren}{H H1 H2:aE}{w w1:World}(s:Step base w0 All All fl ρ H w ρ1 H1 w1)(hfr:∀ id,H.length<=id->id<H2.length->ρ id=none) :
 ∀ id,H1.length<=id->id<H2.length->ρ1 id=none:=fun id h1 h2=>by
 cases h3:ρ1 id with
 | none=>rfl
 | some L =>
   have:=s.new id L (hfr id (jH s.len h1) h2) h3
   omega
theorem Step.andThen {fl:Nat}{ρ ρ1 ρ2:Ren}{H H1 H2:aE}{w w1 w2:World}(s:Step base w0 All All fl ρ H w ρ1 H1 w1)(s':Step base w0 All All fl ρ1 H1 w1 ρ2 H2 w2)
 (hfr:∀ id,H.length<=id->id<H2.length->ρ id=none):Step base w0 All All fl ρ H w ρ2 H2 w2 :=
 s.trans (W1:=All) (by rw[aLu];exact s') (fun _ _ => .inl trivial) hfr
def aOF (P:Program)(base fl n:Nat)(w0:World)(f:aJ->aE->Option (f9×aJ×aE))(c:Code):Prop :=
 ∀ (t:aJ) (H:aE) e t' H' ρ w a Q,Sim base w0 All ρ H w->fl<=H.length->(∀ id,H.length<=id->id<H'.length->ρ id=none)->TRel n ρ t a->f t H=some (e,t',H') ->
   Out base w0 fl n ρ H w e t' H' Q->c.wp P Q a w
theorem aAr {f:aJ->aE->Option (f9×aJ×aE)}{c:Code}(hr:aOF P base fl n w0 f c)(hk:∀ t H e t' H',f t H=some (e,t',H')->Kept (fun id=>fl<=id) H H') :
 ∀ (m:Nat) (t:aJ) (H:aE) e t' H' ρ w a Q,Sim base w0 All ρ H w->fl<=H.length->(∀ id,H.length<=id->id<H'.length->ρ id=none)->TRel n ρ t a->GA f m t H=some (e,t',H') ->
   Out base w0 fl n ρ H w e t' H' Q->Code.rounds P c Q m a w
 | 0,_,_,_,_,_,_,_,_,_,_,_,_,_,h,_=>by cases h
 | m+1,t,H,e,t',H',ρ,w,a,Q,S,hfl,hfr,hT,h,hQ=>by
   rw[rounds_succ]
   simp only[GA]at h
   split at h
   ·rename_i t1 H1 hf
    have k1:=hk _ _ _ _ _ hf
    have k2:=SB hk m _ _ _ _ _ h
    refine hr t H _ t1 H1 ρ w a _ S hfl (fun id h1 h2=>hfr id h1 (oW h2 k2.len)) hT hf ?_
    intro e1 ρ1 a1 w1 he hT1 hs
    cases he
    refine aAr hr hk m t1 H1 e t' H' ρ1 w1 a1 Q hs.simAll (jH hfl k1.len) (hs.fresh hfr) hT1 h ?_
    intro e2 ρ2 a2 w2 he2 hT2 hs2
    exact hQ e2 ρ2 a2 w2 he2 hT2 (hs.andThen hs2 hfr)
   ·rename_i hne
    refine hr t H e t' H' ρ w a _ S hfl hfr hT h ?_
    intro e1 ρ1 a1 w1 he hT1 hs
    cases he with
    | normal=>exact absurd h (hne _ _)
    | exit id=>exact hQ _ ρ1 a1 w1 (.exit id) hT1 hs
    | goto l=>exact hQ _ ρ1 a1 w1 (.goto l) hT1 hs
    | ret=>exact hQ _ ρ1 a1 w1 .ret hT1 hs
theorem aH1 (hcs:kW base w0 P call)(hck:jB call)(hm:P.follows .mixedOrders=true)(hbf:base<=fl)(m:Nat):∀ (c:Code),jA n c=true->aOF P base fl n w0 (lD P call m fl c) c:=by
 intro c
 induction c with
 | skip =>
   intro _ t H e t' H' ρ w a Q S hfl hfr hT h hQ
   cases h
   exact wp_skip (hQ _ ρ a w .normal hT (Step.same S ⟨rfl,rfl,rfl,rfl⟩))
 | label l =>
   intro _ t H e t' H' ρ w a Q S hfl hfr hT h hQ
   cases h
   exact wp_label (hQ _ ρ a w .normal hT (Step.same S ⟨rfl,rfl,rfl,rfl⟩))
 | exit id =>
   intro _ t H e t' H' ρ w a Q S hfl hfr hT h hQ
   cases h
   exact wp_exit (hQ _ ρ a w (.exit id) hT (Step.same S ⟨rfl,rfl,rfl,rfl⟩))
 | ret =>
   intro _ t H e t' H' ρ w a Q S hfl hfr hT h hQ
   cases h
   exact wp_ret (hQ _ ρ a w .ret hT (Step.same S ⟨rfl,rfl,rfl,rfl⟩))
 | region id ops draw =>
   intro hok t H e t' H' ρ w a Q S hfl hfr hT h hQ
   simp only[lD]at h
   split at h
   ·rename_i t1 H1 hr
    cases h
    have hok':∀ (i:Nat) o,ops[i]? = some o->tH n ops o=true:=fun i o ho=>by
     simp only[jA,jG]at hok
     exact hok o (by simpa using Array.mem_of_getElem? ho)
    cases draw with
    | true=>exact aEz hcs hck hbf hfl hok' S hfr hT hm id hr fun ρ' a' w' hT' hs=>hQ _ ρ' a' w' .normal hT' hs
    | false =>
      refine wp_region ?_
      unfold j8 at hr
      simp only[eW,cN]at hr
      have:=UL (n:=n) (Q:=Q) hcs hck hbf ops.toList 0 t t' H H' ρ w a (fun k o hk=>by
       have:ops[k]? = some o:=by simpa using hk
       exact⟨by rw[tA];exact this,hok' k o this⟩) S hfl hfr hT hr fun ρ' a' w' hT' hs=>hQ _ ρ' a' w' .normal hT' hs
      rw[aCY]at this
      rw[List.range_eq_range']
      exact this
   ·cases h
 | seq x y ihx ihy =>
   intro hok t H e t' H' ρ w a Q S hfl hfr hT h hQ
   simp only[jA,aI]at hok
   simp only[lD]at h
   refine wp_seq ?_
   split at h
   ·rename_i t1 H1 hx
    have k1:=QE hck _ _ _ _ _ _ hx
    have k2:=QE hck _ _ _ _ _ _ h
    refine ihx hok.1 t H _ t1 H1 ρ w a _ S hfl (fun id h1 h2=>hfr id h1 (oW h2 k2.len)) hT hx ?_
    intro e1 ρ1 a1 w1 he hT1 hs
    cases he
    refine ihy hok.2 t1 H1 e t' H' ρ1 w1 a1 Q hs.simAll (jH hfl k1.len) (hs.fresh hfr) hT1 h ?_
    intro e2 ρ2 a2 w2 he2 hT2 hs2
    exact hQ e2 ρ2 a2 w2 he2 hT2 (hs.andThen hs2 hfr)
   ·rename_i hne
    refine ihx hok.1 t H e t' H' ρ w a _ S hfl hfr hT h ?_
    intro e1 ρ1 a1 w1 he hT1 hs
    cases he with
    | normal=>exact absurd h (hne _ _)
    | exit id=>exact hQ _ ρ1 a1 w1 (.exit id) hT1 hs
    | goto l=>exact hQ _ ρ1 a1 w1 (.goto l) hT1 hs
    | ret=>exact hQ _ ρ1 a1 w1 .ret hT1 hs
 | cond c x y ihx ihy =>
   intro hok t H e t' H' ρ w a Q S hfl hfr hT h hQ
   simp only[jA,aI]at hok
   have hc:=hT.eval hok.1.1
   simp only[lD]at h
   split at h
   ·rename_i he
    rw[he]at hc
    have:a.eval c = .bool true:=by
     generalize a.eval c=u at hc
     cases hc;rfl
    exact wp_cond_true this (ihx hok.1.2 t H e t' H' ρ w a Q S hfl hfr hT h hQ)
   ·rename_i he
    rw[he]at hc
    have:a.eval c = .bool false:=by
     generalize a.eval c=u at hc
     cases hc;rfl
    exact wp_cond_false this (ihy hok.2 t H e t' H' ρ w a Q S hfl hfr hT h hQ)
   ·cases h
 | block id c ih =>
   intro hok t H e t' H' ρ w a Q S hfl hfr hT h hQ
   simp only[jA]at hok
   simp only[lD]at h
   refine wp_block ?_
   split at h
   ·rename_i id' t1 H1 hx
    cases h
    refine ih hok t H _ t' H' ρ w a _ S hfl hfr hT hx ?_
    intro e1 ρ1 a1 w1 he hT1 hs
    cases he
    unfold Exit.inBlock
    by_cases hid:id'=id
    ·subst hid
     simp only[bS]at hQ⊢
     exact hQ _ ρ1 a1 w1 .normal hT1 hs
    ·simp only[hid,cN]at hQ⊢
     exact hQ _ ρ1 a1 w1 (.exit id') hT1 hs
   ·rename_i hne
    refine ih hok t H e t' H' ρ w a _ S hfl hfr hT h ?_
    intro e1 ρ1 a1 w1 he hT1 hs
    cases he with
    | normal=>exact hQ _ ρ1 a1 w1 .normal hT1 hs
    | exit id=>exact absurd h (hne _ _ _)
    | goto l=>exact hQ _ ρ1 a1 w1 (.goto l) hT1 hs
    | ret=>exact hQ _ ρ1 a1 w1 .ret hT1 hs
 | loop c ih =>
   intro hok t H e t' H' ρ w a Q S hfl hfr hT h hQ
   simp only[jA]at hok
   simp only[lD]at h
   exact wp_loop_rounds m (aAr (ih hok) (fun t H e t' H' h=>QE hck c t H e t' H' h) m t H e t' H' ρ w a Q S hfl hfr hT h hQ)
 | rangeFunc=>intro hok;cases hok
 | scope=>intro hok;cases hok
 | goto l =>
   intro _ t H e t' H' ρ w a Q S hfl hfr hT h hQ
   cases h
   exact wp_goto (hQ _ ρ a w (.goto l) hT (Step.same S ⟨rfl,rfl,rfl,rfl⟩))
 | refuse=>intro hok;cases hok
theorem aHZ (hcs:kW base w0 P call)(hck:jB call)(hm:P.follows .mixedOrders=true)(hbf:base<=fl)(m:Nat)(c:Code)(hok:jA n (aL1 c)=true)(t:aJ)(H:aE)(e:f9)(t':aJ)(H':aE)
 (ρ:Ren) (w:World) (a:Act) (Q:Exit->Act->World->Prop) (S:Sim base w0 All ρ H w) (hfl:fl<=H.length) (hfr:∀ id,H.length<=id->id<H'.length->ρ id=none) (hT:TRel n ρ t a)
 (h:lD P call m fl (aL1 c) t H=some (e,t',H')) (he:e = .normal\/e = .ret) (hQ:Out base w0 fl n ρ H w e t' H' Q):c.wp P Q a w:=by
 exact aH1 hcs hck hm hbf m c hok t H e t' H' ρ w a Q S hfl hfr hT h hQ
theorem XP {N:Nat}{fl:Nat}{f:FuncId}{args:Array Value}{H H':aE}{v:Value}(h:xM P (N+1) fl f args H=some (v,H')) :
 (∃ fn c e t' vs,P.funcs[f]? = some fn/\bod fn=some c/\SN fn c=true/\args.size<=fn.ntmps/\lD P (xM P N) N fl c (start args) H=some (e,t',H')/\(e = .normal\/e = .ret) /\
  iD P t' H' fn.results.toList=some vs/\v=F1 vs)\/YJ P fl f args H=some (v,H'):=by
 simp only[xM]at h
 cases hf:P.funcs[f]? with
 | none=>simp[hf]at h
 | some fn =>
   simp only[hf]at h
   cases hb:bod fn with
   | none=>simp[hb]at h
   | some c =>
     simp only[hb]at h
     split at h
     ·rename_i hok
      simp only[aI,aT]at hok
      split at h
      ·rename_i t1 H1 hx
       cases hv:iD P t1 H1 fn.results.toList with
       | none=>simp[hv]at h
       | some vs =>
         simp[hv]at h
         obtain⟨rfl,rfl⟩:=h
         exact .inl ⟨fn,c,_,t1,vs,rfl,hb,ZG hok.1,hok.2,hx,.inl rfl,hv,rfl⟩
      ·rename_i t1 H1 hx
       cases hv:iD P t1 H1 fn.results.toList with
       | none=>simp[hv]at h
       | some vs =>
         simp[hv]at h
         obtain⟨rfl,rfl⟩:=h
         exact .inl ⟨fn,c,_,t1,vs,rfl,hb,ZG hok.1,hok.2,hx,.inr rfl,hv,rfl⟩
      ·cases h
     ·exact .inr h
theorem aAe (P:Program):∀ N,jB (xM P N)
 | 0,_,_,_,_,_,_,h=>by cases h
 | N+1,fl,f,args,H,v,H',h=>by
   rcases XP h with⟨fn,c,e,t',vs,_,_,_,_,hx,_⟩|h
   ·exact QE (aAe P N) _ _ _ _ _ _ hx
   ·exact aIY P _ _ _ _ _ _ h
theorem TRel.start {n:Nat}{ρ:Ren}{args cargs:Array Value}(h:LRel ρ args.toList cargs.toList)(hn:args.size<=n) :
 TRel n ρ (start args) { tmps:=cargs++Array.replicate (n-cargs.size) undef,defers:=[] }:=by
 have hsz:cargs.size=args.size:=by have:=h.1;simpa using this.symm
 refine⟨by simp;omega,rfl,fun d hd => ?_⟩
 have:=h.getD (VRel.undef ρ) d
 show VRel ρ (args.getD d undef) _
 simp only[C1,List.getD,yC]at this⊢
 by_cases hc:d<cargs.size
 ·rw[Array.getElem?_append_left hc];exact this
 ·rw[Array.getElem?_append_right (by omega),Array.getElem?_replicate,aB (by omega)]
  rw[Array.getElem?_eq_none (by omega)]
  exact VRel.undef ρ
def aAY (tmps:Array Value):ResultVar->Sem Value
 | .tmp t=>pure (tmps.getD t undef)
 | .cell x ty=>do loadVar ty (<- asAddr (tmps.getD x undef))
theorem MO {n:Nat}{ρ:Ren}{t:aJ}{H:aE}{w:World}{a:Act}(S:Sim base w0 All ρ H w)(hT:TRel n ρ t a):∀ (rs:List ResultVar) (vs:List Value),
 (rs.all fun | .tmp d=>decide (d<n) | .cell d _=>decide (d<n))=true->iD P t H rs=some vs ->
 ∃ vs',(rs.mapM (aAY a.tmps)).run P w = .ok vs' w/\LRel ρ vs vs'
 | [],vs,_,h=>by cases h;exact⟨[],by simp,LRel.nil ρ⟩
 | r::rs,vs,hok,h=>by
   simp only[List.all_cons,aI]at hok
   simp only[iD]at h
   cases h1:xH P t H r with
   | none=>simp[h1]at h
   | some v =>
     cases h2:iD P t H rs with
     | none=>simp[h1,h2]at h
     | some us =>
       simp[h1,h2]at h
       subst h
       obtain⟨us',g1,g2⟩:=MO S hT rs us hok.2 h2
       cases r with
       | tmp d =>
         have hd:d<n:=by simpa using hok.1
         simp only[xH,iJ]at h1
         subst h1
         refine⟨a.tmps.getD d undef::us',?_,LRel.cons (hT.rel d hd) g2⟩
         rw[List.mapM_cons]
         simp only[aAY,Sem.run_bind,Sem.run_pure,Result.andThen_ok,g1]
       | cell x ty =>
         have hd:x<n:=by simpa using hok.1
         have hx:=hT.rel x hd
         simp only[xH]at h1
         split at h1
         ·rename_i p hp
          obtain⟨b,o,s⟩:=p
          rw[hp]at hx
          generalize hu:a.tmps.getD x undef=u at hx
          obtain⟨rfl,L,hL,rfl⟩:=LZ hx
          obtain⟨v',r1,r2⟩:=XO (P:=P) S trivial hL h1
          refine⟨v'::us',?_,LRel.cons r2 g2⟩
          rw[List.mapM_cons]
          have ha:(asAddr (a.tmps.getD x undef)).run P w = .ok ⟨L.blk,L.off+o,none⟩ w:=by rw[hu];rfl
          simp only[aAY,Sem.run_bind,ha,Result.andThen_ok,r1,g1,Sem.run_pure]
         ·cases h1
theorem aCg {ρ:Ren}{vs vs':List Value}(h:LRel ρ vs vs'):VRel ρ (F1 vs) (F1 vs'):=by
 cases vs with
 | nil=>rw[h.inv_nil];exact .tuple _ _ rfl fun i v v' hv=>by simp at hv
 | cons v l =>
   obtain⟨y,ys,rfl,hv,ht⟩:=h.inv
   cases l with
   | nil=>rw[ht.inv_nil];exact hv
   | cons u l =>
     obtain⟨z,zs,rfl,hu,hs⟩:=ht.inv
     have hl:=h.1
     exact .tuple _ _ (by simpa using hl) fun i a c ha hc=>h.2 i a c (by simpa using ha) (by simpa using hc)
theorem aFa {fn:Func}{tmps:Array Value}{w:World}{vs':List Value}
 (h:(fn.results.toList.mapM (aAY tmps)).run P w = .ok vs' w) :
 (results fn tmps).run P w = .ok (F1 vs') w:=by
 have he:results fn tmps=(do
  let vs <- fn.results.mapM (aAY tmps)
  pure (if h:vs.size=1 then vs[0]else .tuple vs)):=by
  unfold results
  congr 1
 rw[he,Array.mapM_eq_mapM_toList]
 simp only[Sem.run_bind,Sem.run_map]
 rw[h]
 simp only[Result.andThen_ok,Sem.run_pure]
 congr 1
 cases vs' with
 | nil=>rfl
 | cons v l=>cases l <;> rfl
theorem W7 (P:Program)(hX:kW base w0 P (YJ P))(hm:P.follows .mixedOrders=true):∀ N,kW base w0 P (xM P N)
 | 0,_,_,_,_,_,_,_,_,_,_,_,_,_,_,h=>by cases h
 | N+1,fl,f,args,cargs,ρ,H,H',w,v,S,hbf,hfl,hfr,hargs,h=>by
   rcases XP h with⟨fn,c,e,t',vs,hf,hb,hok,hsz,hx,he,hr,rfl⟩|h
   case inr=>exact hX fl f args cargs ρ H H' w v S hbf hfl hfr hargs h
   simp only[SN,aI]at hok
   have hcsz:cargs.size=args.size:=by have:=hargs.1;simpa using this.symm
   obtain⟨c0,hb0,rfl⟩:∃ c0,fn.body=some c0/\aL1 c0=c:=by
    unfold bod at hb
    exact Option.map_eq_some_iff.1 hb
   refine calls_of_wp hf hb0 ?_
   refine aHZ (n:=fn.ntmps) (w0:=w0) (W7 P hX hm N) (aAe P N) hm hbf N c0 hok.1.1 (start args) H e t' H' ρ w _ _ S hfl hfr (TRel.start hargs hsz) hx he ?_
   intro e' ρ' a' w' hee hT hs
   obtain⟨vs',g1,g2⟩:=MO (P:=P) hs.simAll hT fn.results.toList vs hok.2 hr
   have hres:=aFa g1
   rcases he with rfl|rfl
   ·cases hee
    exact⟨hT.defers,_,hres,_,ρ',rfl,aCg g2,hs⟩
   ·cases hee
    exact⟨hT.defers,_,hres,_,ρ',rfl,aCg g2,hs⟩
end
end Go.Mach
