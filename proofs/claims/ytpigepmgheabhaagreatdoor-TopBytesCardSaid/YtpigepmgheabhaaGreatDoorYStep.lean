/- Part of the proof. No condition. -/
import Derived.Test.YtpigepmgheabhaaGreatDoorYPrimAll
import Derived.Test.YtpigepmgheabhaaGreatDoorYKept
namespace Go.Mach
def All:Nat->Prop:=fun _=>True
structure TRel (n:Nat)(ρ:Ren)(t:aE)(a:Act):Prop where
 size:a.tmps.size=n
 defers:a.defers=[]
 rel:∀ d,d<n->VRel ρ (t d) (a.tmps.getD d undef)
theorem TRel.mono {n:Nat}{ρ ρ':Ren}{t:aE}{a:Act}(h:TRel n ρ t a)(e:Ext ρ ρ'):TRel n ρ' t a:=⟨h.size,h.defers,fun d hd=>(h.rel d hd).mono e⟩
theorem TRel.put {n:Nat}{ρ:Ren}{t:aE}{a:Act}(h:TRel n ρ t a){dst:Option Tmp}(hd:dst.all (· < n)=true){v v':Value}(hv:VRel ρ v v'):TRel n ρ (lN t dst v) (a.put dst v'):=by
 cases dst with
 | none=>exact h
 | some d =>
   have hdn:d<n:=by simpa using hd
   refine⟨by simp[Act.put,h.size],h.defers,fun i hi => ?_⟩
   simp only[lN,Act.put]
   by_cases he:i=d
   ·subst he
    rw[tO]
    simp[h.size,hdn]
    exact hv
   ·rw[sF _ _ _ _ he]
    have:=h.rel i hi
    simp only[nT]at this⊢
    rw[FP (fun e=>he e.symm)]
    exact this
theorem TRel.eval {n:Nat}{ρ:Ren}{t:aE}{a:Act}(h:TRel n ρ t a){x:Operand}(hx:aG n x=true):VRel ρ (eval t x) (a.eval x):=by
 cases x with
 | tmp d=>exact h.rel d (by simpa [aG] using hx)
 | const v =>
   have hp:fX v=true:=by simpa [aG] using hx
   exact VRel.plain hp
 | global g=>simp[aG]at hx
 | func f=>exact VRel.func_of _ (LRel.nil ρ) (LRel.nil ρ)
theorem TRel.wanted {n:Nat}{ρ:Ren}{t:aE}{a:Act}{ops:Array Oper}{o:Oper}(hs:a.tmps.size=n)
 (hg:∀ j w d,o.guard=some (j,w)->(ops[j]?).bind (·.dst)=some d->d<n->VRel ρ (t d) (a.tmps.getD d undef))
 (hok:gO n ops o=true):bS ops t o=Region.wanted o (yielded ops a.tmps):=by
 unfold bS Region.wanted yielded
 cases hgd:o.guard with
 | none=>rfl
 | some jw =>
   obtain⟨j,w⟩:=jw
   simp only[gO,hgd,aH]at hok
   cases hd:(ops[j]?).bind (·.dst)with
   | none=>simp[hd]
   | some d =>
     have hdn:d<n:=by have:=hok.2;rw[hd]at this;simpa using this
     have hr:=hg j w d hgd hd hdn
     simp only[hd,Option.bind_some]
     rw[nT,nU (by rw[hs];exact hdn)]at hr
     rw[nU (by rw[hs];exact hdn)]
     simp only[Option.getD_some]at hr
     generalize t d=u at hr
     generalize a.tmps[d]'_=u' at hr
     cases hr <;> simp
theorem Step.turn {base:Nat}{w0:World}{A W W':Nat->Prop}{fl fl':Nat}{ρ ρ':Ren}{H H':aD}{w w':World}(s:Step base w0 A W' fl' ρ H w ρ' H' w')(hf:fl<=fl')
 (hW:∀ id,fl'<=id->W' id->W id):Step base w0 A W fl ρ H w ρ' H' w' where
 sim:=s.sim
 ext:=s.ext
 new:=fun id L h h'=>by
  obtain⟨a,b,c⟩:=s.new id L h h'
  refine⟨a,b,?_⟩
  rcases c with c|⟨i,L0,f,x,y,z⟩
  ·exact .inl c
  ·exact .inr ⟨i,L0,bY hf f,x,hW i f y,z⟩
 frame:=fun b hb hno=>s.frame b hb fun id L f wr a e al=>hno id L (bY hf f) (hW id f wr) a e al
 grow:=s.grow
 side:=s.side
 len:=s.len
 keep:=fun id h hk=>s.keep id h (by
  rcases hk with hk|hk
  ·exact .inl (dC hk hf)
  ·by_cases h1:fl'<=id
   ·exact .inr fun h2=>hk (hW id h1 h2)
   ·exact .inl (by omega))
 dead:=s.dead
def CallerSound (base:Nat)(w0:World)(P:Program)(call:aQ):Prop :=
 ∀ (fl:Nat) (f:FuncId) (args cargs:Array Value) (ρ:Ren) (H H':aD) (w:World) (v:Value),Sim base w0 All ρ H w->base<=fl->fl<=H.length ->
   (∀ id,H.length<=id->id<H'.length->ρ id=none)->LRel ρ args.toList cargs.toList->call fl f args H=some (v,H') ->
   Calls P f cargs w fun e w'=>∃ v' ρ',e = .returned v'/\VRel ρ' v v'/\Step base w0 All All fl ρ H w ρ' H' w'
section
variable {P:Program} {call:aQ} {base:Nat} {w0:World} {A W:Nat->Prop} {fl flc n:Nat} {ρ:Ren} {H H':aD} {w:World} {ops:Array Oper} {i:Nat} {o:Oper} {t t':aE} {a:Act}
theorem PQ {Q:Exit->Act->World->Prop}{K:Act->World->Prop}(hcs:CallerSound base w0 P call)(hck:CallerKept call)(S:Sim base w0 A ρ H w)(hbf:base<=fl)(hfc:fl<=flc)(hflc:flc<=H.length)
 (ho:ops[i]? = some o) (hfr:∀ id,H.length<=id->id<H'.length->ρ id=none)
 (hv:∀ x∈o.op.operands,VRel ρ (eval t x) (a.eval x)) (hw:bS ops t o=Region.wanted o (yielded ops a.tmps))
 (hA:∀ b∈cI o.op (eval t),A b) (hcall:aK o.op=4->∀ id,A id) (hW:∀ b∈j0 o.op (eval t),W b) (hWc:aK o.op=4->∀ id,flc<=id->W id)
 (h:cF P call fl flc ops o t H=some (t',H'))
 (hK:∀ v v' ρ' w',t'=lN t o.dst v->VRel ρ' v v'->Step base w0 A W fl ρ H w ρ' H' w'->K (a.put o.dst v') w'):wpOp P ops Q i K a w:=by
 unfold wpOp
 simp only[ho]
 unfold cF at h
 by_cases hwa:bS ops t o=true
 ·rw[aA hwa]at h
  rw[hw]at hwa
  rw[aA hwa]
  refine .inl ?_
  unfold Oper.wp
  have aJ:∀ r H1,aJ P fl o.op (eval t) H=some (r,H1)->(∀ id,H.length<=id->id<H1.length->ρ id=none)->Done P base w0 A W fl ρ H w (execOp a.eval o) r H1 :=
   fun r H1 hp hf1=>IP S hbf (by omega) hf1 hv hA hW hp
  split at h
  ·rename_i v H1 hp
   cases h
   obtain⟨ρ',r',w',hrun,hr,hst⟩:=aJ _ _ hp hfr
   rw[hrun]
   cases r' <;> try exact hr.elim
   exact hK v _ ρ' w' rfl hr hst
  ·rename_i H1 hp
   cases h
   obtain⟨ρ',r',w',hrun,hr,hst⟩:=aJ _ _ hp hfr
   rw[hrun]
   cases r' <;> try exact hr.elim
   exact hK undef _ ρ' w' rfl (VRel.undef _) hst
  ·rename_i f args H1 hp
   split at h
   ·rename_i v H2 hc
    cases h
    have hk4:=qQ hp
    have hlen:H1.length<=H'.length:=(hck _ _ _ _ _ _ hc).len
    obtain⟨ρ1,r',w1,hrun,hr,hst⟩:=aJ _ _ hp fun id h1 h2=>hfr id h1 (by omega)
    rw[hrun]
    cases r' with
    | enter f' args' =>
      obtain⟨rfl,hargs⟩:=hr
      have hAeq:(fun id=>A id\/H.length<=id)=All:=funext fun id=>propext ⟨fun _=>trivial,fun _ => .inl (hcall hk4 id)⟩
      have hsim:=hst.sim
      rw[hAeq]at hsim
      have hfr1:∀ id,H1.length<=id->id<H'.length->ρ1 id=none:=fun id h1 h2=>by
       cases h3:ρ1 id with
       | none=>rfl
       | some L =>
         have:=hst.new id L (hfr id (bY hst.len h1) h2) h3
         omega
      rw[Oper.upon_enter]
      refine(hcs flc f args args' ρ1 H1 H' w1 v hsim (by omega) (bY hflc hst.len) hfr1 hargs hc).mono ?_
      rintro e w2 ⟨v',ρ2,rfl,hvr,hs2⟩
      have hs2':=hs2.turn (W:=W) hfc fun id h1 _=>hWc hk4 id h1
      rw[<- hAeq]at hs2'
      exact hK v v' ρ2 w2 rfl hvr (hst.trans hs2' (fun id h => .inl h) hfr)
    | _=>exact hr.elim
   ·cases h
  ·cases h
 ·rw[aC hwa]at h
  cases h
  rw[hw]at hwa
  rw[aC hwa]
  exact hK undef undef ρ w rfl (VRel.undef _) (Step.same S ⟨rfl,rfl,rfl,rfl⟩)
def CallerW (base:Nat)(w0:World)(P:Program)(fl:Nat)(W:Nat->Prop)(call:aQ):Prop :=
 ∀ (f:FuncId) (args cargs:Array Value) (ρ:Ren) (H H':aD) (w:World) (v:Value),Sim base w0 All ρ H w->base<=fl->fl<=H.length ->
   (∀ id,H.length<=id->id<H'.length->ρ id=none)->LRel ρ args.toList cargs.toList->call fl f args H=some (v,H') ->
   Calls P f cargs w fun e w'=>∃ v' ρ',e = .returned v'/\VRel ρ' v v'/\Step base w0 All W fl ρ H w ρ' H' w'
theorem MP {Wc:Nat->Prop}{Q:Exit->Act->World->Prop}{K:Act->World->Prop}(hcs:CallerW base w0 P flc Wc call)(hck:SA flc Wc call)(S:Sim base w0 A ρ H w)(hbf:base<=fl)(hfc:fl<=flc)(hflc:flc<=H.length)
 (ho:ops[i]? = some o) (hfr:∀ id,H.length<=id->id<H'.length->ρ id=none)
 (hv:∀ x∈o.op.operands,VRel ρ (eval t x) (a.eval x)) (hw:bS ops t o=Region.wanted o (yielded ops a.tmps))
 (hA:∀ b∈cI o.op (eval t),A b) (hcall:aK o.op=4->∀ id,A id) (hW:∀ b∈j0 o.op (eval t),W b) (hWc:aK o.op=4->∀ id,flc<=id->Wc id->W id)
 (h:cF P call fl flc ops o t H=some (t',H'))
 (hK:∀ v v' ρ' w',t'=lN t o.dst v->VRel ρ' v v'->Step base w0 A W fl ρ H w ρ' H' w'->K (a.put o.dst v') w'):wpOp P ops Q i K a w:=by
 unfold wpOp
 simp only[ho]
 unfold cF at h
 by_cases hwa:bS ops t o=true
 ·rw[aA hwa]at h
  rw[hw]at hwa
  rw[aA hwa]
  refine .inl ?_
  unfold Oper.wp
  have aJ:∀ r H1,aJ P fl o.op (eval t) H=some (r,H1)->(∀ id,H.length<=id->id<H1.length->ρ id=none)->Done P base w0 A W fl ρ H w (execOp a.eval o) r H1 :=
   fun r H1 hp hf1=>IP S hbf (by omega) hf1 hv hA hW hp
  split at h
  ·rename_i v H1 hp
   cases h
   obtain⟨ρ',r',w',hrun,hr,hst⟩:=aJ _ _ hp hfr
   rw[hrun]
   cases r' <;> try exact hr.elim
   exact hK v _ ρ' w' rfl hr hst
  ·rename_i H1 hp
   cases h
   obtain⟨ρ',r',w',hrun,hr,hst⟩:=aJ _ _ hp hfr
   rw[hrun]
   cases r' <;> try exact hr.elim
   exact hK undef _ ρ' w' rfl (VRel.undef _) hst
  ·rename_i f args H1 hp
   split at h
   ·rename_i v H2 hc
    cases h
    have hk4:=qQ hp
    have hlen:H1.length<=H'.length:=(hck _ _ _ _ _ hc).len
    obtain⟨ρ1,r',w1,hrun,hr,hst⟩:=aJ _ _ hp fun id h1 h2=>hfr id h1 (by omega)
    rw[hrun]
    cases r' with
    | enter f' args' =>
      obtain⟨rfl,hargs⟩:=hr
      have hAeq:(fun id=>A id\/H.length<=id)=All:=funext fun id=>propext ⟨fun _=>trivial,fun _ => .inl (hcall hk4 id)⟩
      have hsim:=hst.sim
      rw[hAeq]at hsim
      have hfr1:∀ id,H1.length<=id->id<H'.length->ρ1 id=none:=fun id h1 h2=>by
       cases h3:ρ1 id with
       | none=>rfl
       | some L =>
         have:=hst.new id L (hfr id (bY hst.len h1) h2) h3
         omega
      rw[Oper.upon_enter]
      refine(hcs f args args' ρ1 H1 H' w1 v hsim (by omega) (bY hflc hst.len) hfr1 hargs hc).mono ?_
      rintro e w2 ⟨v',ρ2,rfl,hvr,hs2⟩
      have hs2':=hs2.turn (W:=W) hfc fun id h1 h2=>hWc hk4 id h1 h2
      rw[<- hAeq]at hs2'
      exact hK v v' ρ2 w2 rfl hvr (hst.trans hs2' (fun id h => .inl h) hfr)
    | _=>exact hr.elim
   ·cases h
  ·cases h
 ·rw[aC hwa]at h
  cases h
  rw[hw]at hwa
  rw[aC hwa]
  exact hK undef undef ρ w rfl (VRel.undef _) (Step.same S ⟨rfl,rfl,rfl,rfl⟩)
theorem BW {Q:Exit->Act->World->Prop}(hcs:CallerSound base w0 P call)(hck:CallerKept call)(hbf:base<=fl):∀ (l:List Oper) (i:Nat) (t t':aE) (H H':aD) (ρ:Ren) (w:World) (a:Act),
 (∀ k o,l[k]? = some o->ops[i+k]? = some o/\gO n ops o=true)->Sim base w0 All ρ H w->fl<=H.length->(∀ id,H.length<=id->id<H'.length->ρ id=none)->TRel n ρ t a ->
 kQ P call fl ops l t H=some (t',H')->(∀ ρ' a' w',TRel n ρ' t' a'->Step base w0 All All fl ρ H w ρ' H' w'->Q .normal a' w')->wpOps P ops Q (List.range' i l.length) a w
 | [],i,t,t',H,H',ρ,w,a,_,S,_,_,hT,h,hQ=>by
   cases h
   simpa [wpOps] using hQ ρ a w hT (Step.same S ⟨rfl,rfl,rfl,rfl⟩)
 | o::l,i,t,t',H,H',ρ,w,a,hl,S,hfl,hfr,hT,h,hQ=>by
   simp only[kQ]at h
   split at h
   ·rename_i t1 H1 hs
    obtain⟨ho,hok⟩:=hl 0 o rfl
    rw[wM,List.range'_succ,wpOps_cons]
    have hk:=kC hck (.inl (aF fl)) hs
    have hk2:=xT hck l _ _ _ _ h
    have hokd:o.dst.all (· < n)=true:=by
     simp only[gO,aH]at hok;exact hok.1.2
    have hoko:∀ x∈o.op.operands,aG n x=true:=by
     simp only[gO,aH]at hok
     intro x hx
     exact List.all_eq_true.1 hok.1.1 x (by simpa using hx)
    refine PQ (W:=All) (A:=All) hcs hck S hbf (aF fl) hfl (by simpa using ho) (fun id h1 h2=>hfr id h1 (dC h2 hk2.len)) (fun x hx=>hT.eval (hoko x hx))
     (TRel.wanted hT.size (fun j w d _ _ hd=>hT.rel d hd) hok) (fun _ _=>trivial) (fun _ _=>trivial) (fun _ _=>trivial) (fun _ _ _=>trivial) hs ?_
    rintro v v' ρ1 w1 rfl hv hst
    have hAeq:(fun id=>All id\/H.length<=id)=All:=funext fun id=>propext ⟨fun _=>trivial,fun _ => .inl trivial⟩
    have hsim:=hst.sim
    rw[hAeq]at hsim
    refine BW hcs hck hbf l (i+1) _ _ _ _ ρ1 w1 _ (fun k o hk=>by have:=hl (k+1) o (by simpa using hk);rwa [show i+(k+1)=i+1+k by omega]at this) hsim (bY hfl hk.len)
     (fun id h1 h2 => ?_) ((hT.mono hst.ext).put hokd hv) h ?_
    ·cases h3:ρ1 id with
     | none=>rfl
     | some L =>
       have:=hst.new id L (hfr id (bY hst.len h1) h2) h3
       omega
    ·intro ρ2 a2 w2 hT2 hs2
     refine hQ ρ2 a2 w2 hT2 (hst.trans (W1:=All) ?_ (fun _ _ => .inl trivial) hfr)
     rw[hAeq];exact hs2
   ·cases h
end
end Go.Mach
