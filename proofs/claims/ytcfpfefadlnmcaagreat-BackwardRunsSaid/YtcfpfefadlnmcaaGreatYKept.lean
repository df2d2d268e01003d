/- Part of the proof. No condition. -/
import Derived.Test.YtcfpfefadlnmcaaGreatYRun
namespace Go.Mach
structure Kept (W:Nat->Prop)(H H':aE):Prop where
 len:H.length<=H'.length
 keep:∀ id:Nat,id<H.length -> ¬ W id->H'[id]? = H[id]?
 stat:∀ (id:Nat) B,H[id]? = some B->∃ B',H'[id]? = some B'/\B'.cells.length=B.cells.length/\B'.exact=B.exact/\B'.es=B.es/\(B'.alive=true->B.alive=true)
theorem Kept.refl (W:Nat->Prop)(H:aE):Kept W H H:=⟨aR _,fun _ _ _=>rfl,fun _ B h=>⟨B,h,rfl,rfl,rfl,fun h=>h⟩⟩
theorem Kept.trans {W:Nat->Prop}{H H1 H2:aE}(a:Kept W H H1)(b:Kept W H1 H2):Kept W H H2 where
 len:=jH a.len b.len
 keep:=fun id h hw=>by rw[b.keep id (oW h a.len) hw,a.keep id h hw]
 stat:=fun id B h=>by
  obtain⟨B1,h1,p1,p2,p3,p4⟩:=a.stat id B h
  obtain⟨B2,h2,q1,q2,q3,q4⟩:=b.stat id B1 h1
  exact⟨B2,h2,q1.trans p1,q2.trans p2,q3.trans p3,fun x=>p4 (q4 x)⟩
theorem Kept.mono {W W':Nat->Prop}{H H':aE}(h:Kept W H H')(hw:∀ id,id<H.length->W id->W' id):Kept W' H H' :=
 ⟨h.len,fun id hi hn=>h.keep id hi fun x=>hn (hw id hi x),h.stat⟩
theorem Kept.push (W:Nat->Prop)(H K:aE):Kept W H (H++K) :=
 ⟨by simp,fun id h _=>gW h,fun id B h=>⟨B,by rw[gW (List.getElem?_eq_some_iff.1 h).1];exact h,rfl,rfl,rfl,fun h=>h⟩⟩
theorem Kept.set {W:Nat->Prop}{H:aE}{i:Nat}{B B':Blk}(hi:H[i]? = some B)(hW:W i)(h1:B'.cells.length=B.cells.length)(h2:B'.exact=B.exact)(h3:B'.es=B.es)(h4:B'.alive=true->B.alive=true) :
 Kept W H (H.set i B') where
 len:=by simp
 keep:=fun id _ hn=>gY fun e=>hn (by rw[<- e];exact hW)
 stat:=fun id C hC=>by
  have hl:=(List.getElem?_eq_some_iff.1 hi).1
  by_cases he:i=id
  ·subst he
   rw[hi]at hC;cases hC
   exact⟨B',rG hl,h1,h2,h3,h4⟩
  ·exact⟨C,by rw[gY he];exact hC,rfl,rfl,rfl,fun h=>h⟩
theorem blk?_inv {H:aE}{id:Nat}{B:Blk}(h:blk? H id=some B):H[id]? = some B/\B.alive=true:=by
 unfold blk? at h
 cases hg:H[id]? with
 | none=>simp[hg]at h
 | some C =>
   simp only[hg]at h
   split at h
   ·cases h;exact⟨rfl,‹_›⟩
   ·cases h
theorem TM:∀ (vs a:List Value) (i:Nat),(setCells a i vs).length=a.length
 | [],_,_=>rfl
 | _::vs,a,i=>by rw[setCells,TM vs];simp
theorem LV {fl:Nat}{H H':aE}{p:Addr}{vs:List Value}(h:storeAt fl H p vs=some H'):Kept (fun id=>id=p.block/\fl<=id) H H':=by
 cases vs with
 | nil=>cases h;exact Kept.refl _ _
 | cons v vs =>
   simp only[storeAt]at h
   cases hB:blk? H p.block with
   | none=>simp[hB]at h
   | some B =>
     simp only[hB]at h
     split at h
     ·rename_i hc
      cases h
      obtain⟨h1,h2⟩:=blk?_inv hB
      exact Kept.set h1 ⟨rfl,hc.1⟩ (TM _ _ _) rfl rfl fun _=>h2
     ·cases h
theorem aIj {fl es:Nat}{H H':aE}{ba:Option Addr}(h:MQ fl H es ba=some H'):Kept (fun id=>ba.any (·.block==id)=true/\fl<=id) H H':=by
 unfold MQ at h
 split at h
 ·cases h;exact Kept.refl _ _
 ·rename_i a
  split at h
  ·rename_i B hB
   split at h
   ·cases h;exact Kept.refl _ _
   ·split at h
    ·rename_i hc
     cases h
     exact Kept.set hB ⟨by simp,hc.2.2⟩ rfl rfl rfl fun h=>by cases h
    ·cases h
  ·cases h
theorem aF1 {P:Program}{fl:Nat}{ats:Array TypeId}{args:Array Value}{H H':aE}{v:Value}(h:DR P fl ats args H=some (v,H')) :
 Kept (fun id=>id∈args[0]?.elim [] eS/\fl<=id) H H':=by
 unfold DR at h
 split at h
 case h_2=>cases h
 rename_i st xt bs n c x hst hxt hs hx
 have⟨e,es,eb,m,h⟩:∃ e es eb m,wJ P fl e es eb bs n c m x H=some (v,H'):=by
  split at h
  ·exact⟨_,_,_,_,h⟩
  ·exact⟨_,_,_,_,h⟩
  ·cases h
 unfold wJ at h
 split at h
 case h_2=>cases h
 split at h
 ·split at h
  ·split at h
   ·cases h
    rename_i a _ hst2
    refine(LV hst2).mono fun id _ hi=>⟨?_,hi.2⟩
    simp only[hs,Option.elim,eS,GJ]
    rw[hi.1]
    unfold Addr.add
    split <;> rfl
   ·cases h
  ·cases h;exact Kept.refl _ _
 ·split at h
  ·split at h
   ·cases h
    rename_i hk
    refine((aIj hk).mono fun id _ hi=>⟨?_,hi.2⟩).trans (Kept.push _ _ _)
    simp only[hs,Option.elim]
    cases bs with
    | none=>simp at hi
    | some a=>simp at hi;simp[eS,hi.1]
   ·cases h
  ·cases h
theorem aIS {P:Program}{fl:Nat}{ats:Array TypeId}{args:Array Value}{H H':aE}{v:Value}(h:ZQ P fl ats args H=some (v,H')) :
 Kept (fun id=>id∈args[0]?.elim [] eS/\fl<=id) H H':=by
 unfold ZQ at h
 split at h
 case h_2=>cases h
 rename_i dt ba n c x hdt hs hx
 split at h
 case h_2=>cases h
 split at h
 case h_2=>cases h
 split at h
 ·split at h
  ·cases h
   rename_i a _ hst2
   refine(LV hst2).mono fun id _ hi=>⟨?_,hi.2⟩
   simp only[hs,Option.elim,eS,GJ]
   exact hi.1
  ·cases h
 ·cases h;exact Kept.refl _ _
theorem aI4 {P:Program}{s d:TypeId}{x v:Value}{H H':aE}(W:Nat->Prop)(h:JB P s d x H=some (v,H')):Kept W H H':=by
 unfold JB at h
 (repeat' split at h) <;> first
  | (cases h;done)
  | (cases h;exact Kept.refl _ _)
  | (cases h;exact Kept.push _ _ _)
theorem U7 {P:Program}{fl:Nat}{op:Op}{ev:Operand->Value}{H H':aE}{r:JE}(h:bX P fl op ev H=some (r,H')) :
 Kept (fun id=>id∈xY op ev/\fl<=id) H H':=by
 have same:∀ {o:Option Value},(o.map fun v=>(JE.value v,H))=some (r,H')->Kept (fun id=>id∈xY op ev/\fl<=id) H H':=by
  intro o ho
  cases o with
  | none=>cases ho
  | some v=>cases ho;exact Kept.refl _ _
 cases op <;> simp only[bX]at h <;> try (cases h;done)
 case move x=>cases h;exact Kept.refl _ _
 case assign x=>cases h;exact Kept.refl _ _
 case pick c a b=>split at h <;> cases h;exact Kept.refl _ _
 case alloc t=>split at h <;> cases h;exact Kept.push _ _ _
 case box t x=>cases h;exact Kept.push _ _ _
 case build t parts =>
  (repeat' split at h) <;> cases h <;> exact Kept.refl _ _
 case buildSlice t n parts =>
  (repeat' split at h) <;> cases h
  exact Kept.push _ _ _
 case load t a =>
  split at h
  ·exact same h
  ·cases h
 case store t a x =>
  split at h
  ·rename_i p hp
   cases hs:OB P fl t H p (ev x)with
   | none=>simp[hs]at h
   | some K =>
     simp[hs]at h
     obtain⟨rfl,rfl⟩:=h
     unfold OB at hs
     split at hs
     ·refine(LV hs).mono fun id _ hi=>⟨?_,hi.2⟩
      simp[xY,hp,eS,hi.1]
     ·cases hs
  ·cases h
 case nilCheck x=>split at h <;> cases h <;> exact Kept.refl _ _
 case binOp=>exact same h
 case unOp=>exact same h
 case convert s d x =>
  cases hc:JB P s d (ev x) H with
  | none=>simp[hc]at h
  | some q =>
    simp[hc]at h
    obtain⟨rfl,rfl⟩:=h
    exact aI4 _ (v:=q.1) (H':=q.2) hc
 case makeFunc=>cases h;exact Kept.refl _ _
 case makeSlice t l c =>
  (repeat' split at h) <;> cases h
  exact Kept.push _ _ _
 case slice=>exact same h
 case fieldAddr=>exact same h
 case field=>exact same h
 case indexAddr=>exact same h
 case index=>exact same h
 case extract x i =>
  split at h
  ·exact same h
  ·cases h
 case sliceToArrayPointer=>exact same h
 case makeInterface t x =>
  split at h <;> cases h
  exact Kept.refl _ _
 case call c =>
  obtain⟨cal,args,ats⟩:=c
  unfold vW at h
  cases cal with
  | invoke rv m=>simp at h
  | value f =>
    simp only at h
    split at h
    ·split at h <;> cases h
     exact Kept.refl _ _
    ·cases h
  | builtin b =>
    cases b <;> simp only at h <;> try (cases h;done)
    case len=>exact same h
    case append =>
     cases hc:DR P fl ats (args.map ev) H with
     | none=>simp[hc]at h
     | some q =>
       simp[hc]at h
       obtain⟨rfl,rfl⟩:=h
       exact aF1 (v:=q.1) (H':=q.2) hc
    case copy =>
     cases hc:ZQ P fl ats (args.map ev) H with
     | none=>simp[hc]at h
     | some q =>
       simp[hc]at h
       obtain⟨rfl,rfl⟩:=h
       exact aIS (v:=q.1) (H':=q.2) hc
    case max =>
     split at h
     ·exact same h
     ·cases h
    case min =>
     split at h
     ·exact same h
     ·cases h
    case complex=>(repeat' split at h) <;> cases h <;> exact Kept.refl _ _
    case real=>(repeat' split at h) <;> cases h <;> exact Kept.refl _ _
    case imag=>(repeat' split at h) <;> cases h <;> exact Kept.refl _ _
theorem SW {P:Program}{fl:Nat}{op:Op}{ev:Operand->Value}{H H':aE}{f:FuncId}{args:Array Value}(h:bX P fl op ev H=some (.enter f args,H')):cL op=4:=by
 have no:∀ {α:Type} {o:Option α} {g:α->Value×aE},(o.map fun v=>(JE.value (g v).1,(g v).2))=some (.enter f args,H')->False:=by
  intro α o g ho
  cases o with
  | none=>cases ho
  | some v=>simp at ho
 have no':∀ {o:Option Value},(o.map fun v=>(JE.value v,H))=some (.enter f args,H')->False:=fun {o} ho=>no (g:=fun v=>(v,H)) ho
 cases op <;> simp only[bX]at h
 case call c =>
  obtain⟨cal,azz,ats⟩:=c
  unfold vW at h
  cases cal with
  | invoke rv m=>simp at h
  | value f=>rfl
  | builtin b =>
    exfalso
    cases b <;> simp only at h <;> (try (cases h;done))
    case len=>exact no' h
    case append=>exact no (g:=fun q=>q) h
    case copy=>exact no (g:=fun q=>q) h
    case max =>
     split at h
     ·exact no' h
     ·cases h
    case min =>
     split at h
     ·exact no' h
     ·cases h
    case complex=>(repeat' split at h) <;> cases h
    case real=>(repeat' split at h) <;> cases h
    case imag=>(repeat' split at h) <;> cases h
 all_goals
  exfalso
  first
   | (cases h;done)
   | exact no' h
   | exact no (g:=fun q=>q) h
   | (split at h <;> first|(cases h;done)|exact no' h)
   | ((repeat' split at h) <;> cases h;done)
   | skip
 case store t a x =>
  split at h
  ·rename_i p hp
   cases hs:OB P fl t H p (ev x)with
   | none=>simp[hs]at h
   | some K=>simp[hs]at h
  ·cases h
def jB (call:nS):Prop:=∀ fl f args H v H',call fl f args H=some (v,H')->Kept (fun id=>fl<=id) H H'
theorem FV {P:Program}{call:nS}(hc:jB call){fl flc:Nat}{ops:Array Oper}{o:Oper}{t t':aJ}{H H':aE}(h:o8 P call fl flc ops o t H=some (t',H')) :
 Kept (fun id=>(id∈xY o.op (eval t)/\fl<=id)\/(cL o.op=4/\flc<=id)) H H'/\∃ v,t'=C6 t o.dst v:=by
 unfold o8 at h
 split at h
 ·split at h
  ·cases h
   exact⟨(U7 ‹_›).mono fun id _ h => .inl h,_,rfl⟩
  ·cases h
   exact⟨(U7 ‹_›).mono fun id _ h => .inl h,_,rfl⟩
  ·rename_i f args H1 hp
   split at h
   ·rename_i v H2 hcall
    cases h
    refine⟨((U7 hp).mono fun id _ h => .inl h).trans ((hc _ _ _ _ _ _ hcall).mono fun id _ h => .inr ⟨?_,h⟩),_,rfl⟩
    exact SW hp
   ·cases h
  ·cases h
 ·cases h
  exact⟨Kept.refl _ _,_,rfl⟩
theorem DF {P:Program}{call:nS}(hc:jB call){fl flc:Nat}{ops:Array Oper}{o:Oper}{t t':aJ}{H H':aE}(hf:fl<=flc\/H.length<=flc)
 (h:o8 P call fl flc ops o t H=some (t',H')):Kept (fun id=>fl<=id) H H' :=
 (FV hc h).1.mono fun id hl hi=>by
  rcases hi with hi|hi
  ·exact hi.2
  ·omega
theorem OX {P:Program}{call:nS}(hc:jB call){fl:Nat}{ops:Array Oper}:∀ (l:List Oper) (t t':aJ) (H H':aE),
 yS P call fl ops l t H=some (t',H')->Kept (fun id=>fl<=id) H H'
 | [],t,t',H,H',h=>by cases h;exact Kept.refl _ _
 | o::l,t,t',H,H',h=>by
   simp only[yS]at h
   split at h
   ·exact(DF hc (.inl (aR _)) ‹_›).trans (OX hc l _ _ _ _ h)
   ·cases h
theorem Q2 {P:Program}{call:nS}(hc:jB call){fl:Nat}{ops:Array Oper}{b:Array Nat}:∀ (l:List Oper) (i:Nat) (t t':aJ) (H H':aE),
 oT P call fl ops b i l t H=some (t',H')->Kept (fun id=>fl<=id) H H'
 | [],i,t,t',H,H',h=>by cases h;exact Kept.refl _ _
 | o::l,i,t,t',H,H',h=>by
   simp only[oT]at h
   split at h
   ·rename_i t1 H1 hs
    have k:=DF hc (by split <;> first|exact .inl (aR _)|exact .inr (aR _)) hs
    exact k.trans (Q2 hc l _ _ _ _ _ h)
   ·cases h
theorem ZX {P:Program}{call:nS}(hc:jB call){fl:Nat}{ops:Array Oper}{draw:Bool}{t t':aJ}{H H':aE}
 (h:j8 P call fl ops draw t H=some (t',H')):Kept (fun id=>fl<=id) H H':=by
 unfold j8 at h
 split at h
 ·simp only at h
  split at h
  ·split at h
   ·split at h
    ·cases h;exact Q2 hc _ _ _ _ _ _ ‹_›
    ·cases h
   ·cases h
  ·cases h
 ·exact OX hc _ _ _ _ _ h
theorem SB {fl:Nat}{body:aJ->aE->Option (f9×aJ×aE)}(hb:∀ t H e t' H',body t H=some (e,t',H')->Kept (fun id=>fl<=id) H H') :
 ∀ (n:Nat) (t:aJ) (H:aE) (e:f9) (t':aJ) (H':aE),GA body n t H=some (e,t',H')->Kept (fun id=>fl<=id) H H'
 | 0,_,_,_,_,_,h=>by cases h
 | n+1,t,H,e,t',H',h=>by
   simp only[GA]at h
   split at h
   ·rename_i t1 H1 hs
    exact(hb _ _ _ _ _ hs).trans (SB hb n _ _ _ _ _ h)
   ·exact hb _ _ _ _ _ h
theorem QE {P:Program}{call:nS}(hc:jB call){m fl:Nat}:∀ (c:Code) (t:aJ) (H:aE) (e:f9) (t':aJ) (H':aE),
 lD P call m fl c t H=some (e,t',H')->Kept (fun id=>fl<=id) H H':=by
 intro c
 induction c with
 | skip=>intro t H e t' H' h;cases h;exact Kept.refl _ _
 | label l=>intro t H e t' H' h;cases h;exact Kept.refl _ _
 | exit id=>intro t H e t' H' h;cases h;exact Kept.refl _ _
 | ret=>intro t H e t' H' h;cases h;exact Kept.refl _ _
 | region id ops draw =>
   intro t H e t' H' h
   simp only[lD]at h
   split at h
   ·cases h;exact ZX hc ‹_›
   ·cases h
 | seq a b iha ihb =>
   intro t H e t' H' h
   simp only[lD]at h
   split at h
   ·rename_i t1 H1 hs
    exact(iha _ _ _ _ _ hs).trans (ihb _ _ _ _ _ h)
   ·exact iha _ _ _ _ _ h
 | cond c x y ihx ihy =>
   intro t H e t' H' h
   simp only[lD]at h
   split at h
   ·exact ihx _ _ _ _ _ h
   ·exact ihy _ _ _ _ _ h
   ·cases h
 | block id b ih =>
   intro t H e t' H' h
   simp only[lD]at h
   split at h
   ·cases h;exact ih _ _ _ _ _ ‹_›
   ·exact ih _ _ _ _ _ h
 | loop b ih =>
   intro t H e t' H' h
   simp only[lD]at h
   exact SB (fun t H e t' H' h=>ih t H e t' H' h) _ _ _ _ _ _ h
 | rangeFunc=>intro t H e t' H' h;cases h
 | scope=>intro t H e t' H' h;cases h
 | goto l=>intro t H e t' H' h;cases h;exact Kept.refl _ _
 | refuse=>intro t H e t' H' h;cases h
end Go.Mach
