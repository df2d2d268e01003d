/- Part of the proof. No condition. -/
import Derived.Test.YtpigepmgheabhaaGreatDoorYRun
namespace Go.Mach
structure Kept (W:Nat->Prop)(H H':aD):Prop where
 len:H.length<=H'.length
 keep:∀ id:Nat,id<H.length -> ¬ W id->H'[id]? = H[id]?
 stat:∀ (id:Nat) B,H[id]? = some B->∃ B',H'[id]? = some B'/\B'.cells.length=B.cells.length/\B'.exact=B.exact/\B'.es=B.es/\(B'.alive=true->B.alive=true)
theorem Kept.refl (W:Nat->Prop)(H:aD):Kept W H H:=⟨aF _,fun _ _ _=>rfl,fun _ B h=>⟨B,h,rfl,rfl,rfl,fun h=>h⟩⟩
theorem Kept.trans {W:Nat->Prop}{H H1 H2:aD}(a:Kept W H H1)(b:Kept W H1 H2):Kept W H H2 where
 len:=bY a.len b.len
 keep:=fun id h hw=>by rw[b.keep id (dC h a.len) hw,a.keep id h hw]
 stat:=fun id B h=>by
  obtain⟨B1,h1,p1,p2,p3,p4⟩:=a.stat id B h
  obtain⟨B2,h2,q1,q2,q3,q4⟩:=b.stat id B1 h1
  exact⟨B2,h2,q1.trans p1,q2.trans p2,q3.trans p3,fun x=>p4 (q4 x)⟩
theorem Kept.mono {W W':Nat->Prop}{H H':aD}(h:Kept W H H')(hw:∀ id,id<H.length->W id->W' id):Kept W' H H' :=
 ⟨h.len,fun id hi hn=>h.keep id hi fun x=>hn (hw id hi x),h.stat⟩
theorem Kept.push (W:Nat->Prop)(H K:aD):Kept W H (H++K) :=
 ⟨by simp,fun id h _=>dL h,fun id B h=>⟨B,by rw[dL (List.getElem?_eq_some_iff.1 h).1];exact h,rfl,rfl,rfl,fun h=>h⟩⟩
theorem Kept.set {W:Nat->Prop}{H:aD}{i:Nat}{B B':Blk}(hi:H[i]? = some B)(hW:W i)(h1:B'.cells.length=B.cells.length)(h2:B'.exact=B.exact)(h3:B'.es=B.es)(h4:B'.alive=true->B.alive=true) :
 Kept W H (H.set i B') where
 len:=by simp
 keep:=fun id _ hn=>dK fun e=>hn (by rw[<- e];exact hW)
 stat:=fun id C hC=>by
  have hl:=(List.getElem?_eq_some_iff.1 hi).1
  by_cases he:i=id
  ·subst he
   rw[hi]at hC;cases hC
   exact⟨B',gQ hl,h1,h2,h3,h4⟩
  ·exact⟨C,by rw[dK he];exact hC,rfl,rfl,rfl,fun h=>h⟩
theorem blk?_inv {H:aD}{id:Nat}{B:Blk}(h:blk? H id=some B):H[id]? = some B/\B.alive=true:=by
 unfold blk? at h
 cases hg:H[id]? with
 | none=>simp[hg]at h
 | some C =>
   simp only[hg]at h
   split at h
   ·cases h;exact⟨rfl,‹_›⟩
   ·cases h
theorem pT:∀ (vs a:List Value) (i:Nat),(setCells a i vs).length=a.length
 | [],_,_=>rfl
 | _::vs,a,i=>by rw[setCells,pT vs];simp
theorem pQ {fl:Nat}{H H':aD}{p:Addr}{vs:List Value}(h:storeAt fl H p vs=some H'):Kept (fun id=>id=p.block/\fl<=id) H H':=by
 cases vs with
 | nil=>cases h;exact Kept.refl _ _
 | cons v vs =>
   simp only[storeAt]at h
   cases hB:blk? H p.block with
   | none=>simp[hB]at h
   | some B =>
     simp only[hB]at h
     split at h
     ·rename_i hc
      cases h
      obtain⟨h1,h2⟩:=blk?_inv hB
      exact Kept.set h1 ⟨rfl,hc.1⟩ (pT _ _ _) rfl rfl fun _=>h2
     ·cases h
theorem M7 {fl es:Nat}{H H':aD}{ba:Option Addr}(h:nO fl H es ba=some H'):Kept (fun id=>ba.any (·.block==id)=true/\fl<=id) H H':=by
 unfold nO at h
 split at h
 ·cases h;exact Kept.refl _ _
 ·rename_i a
  split at h
  ·rename_i B hB
   split at h
   ·cases h;exact Kept.refl _ _
   ·split at h
    ·rename_i hc
     cases h
     exact Kept.set hB ⟨by simp,hc.2.2⟩ rfl rfl rfl fun h=>by cases h
    ·cases h
  ·cases h
theorem KH {P:Program}{fl e es eb n c m:Nat}{bs:Option Addr}{new:List Value}{args:Array Value}{H H':aD}{v:Value}(hs:args[0]? = some (.slice bs n c))(h:mD P fl e es eb bs n c m new H=some (v,H')) :
 Kept (fun id=>id∈args[0]?.elim [] bK/\fl<=id) H H':=by
 unfold mD at h
 split at h
 ·split at h
  ·split at h
   ·cases h
    rename_i a _ hst2
    refine(pQ hst2).mono fun id _ hi=>⟨?_,hi.2⟩
    simp only[hs,Option.elim,bK,nN]
    rw[hi.1]
    unfold Addr.add
    split <;> rfl
   ·cases h
  ·cases h;exact Kept.refl _ _
 ·split at h
  ·split at h
   ·cases h
    rename_i hk
    refine((M7 hk).mono fun id _ hi=>⟨?_,hi.2⟩).trans (Kept.push _ _ _)
    simp only[hs,Option.elim]
    cases bs with
    | none=>simp at hi
    | some a=>simp at hi;simp[bK,hi.1]
   ·cases h
  ·cases h
theorem SK {P:Program}{fl:Nat}{ats:Array TypeId}{args:Array Value}{H H':aD}{v:Value}(h:mN P fl ats args H=some (v,H')) :
 Kept (fun id=>id∈args[0]?.elim [] bK/\fl<=id) H H':=by
 unfold mN at h
 split at h
 case h_2=>cases h
 rename_i st xt bs n c x hst hxt hs hx
 have hcase:(∃ e es eb m,gF P fl e es eb bs n c m x H=some (v,H'))\/∃ e es eb,rP P fl e es eb bs n c xt x H=some (v,H'):=by
  split at h
  ·exact .inl ⟨_,_,_,_,h⟩
  ·exact .inl ⟨_,_,_,_,h⟩
  ·exact .inr ⟨_,_,_,h⟩
  ·cases h
 rcases hcase with⟨e,es,eb,m,h⟩|⟨e,es,eb,h⟩
 rotate_left
 ·unfold rP at h
  split at h
  ·split at h
   ·exact KH hs h
   ·cases h
  ·cases h
 unfold gF at h
 split at h
 case h_2=>cases h
 split at h
 ·split at h
  ·split at h
   ·cases h
    rename_i a _ hst2
    refine(pQ hst2).mono fun id _ hi=>⟨?_,hi.2⟩
    simp only[hs,Option.elim,bK,nN]
    rw[hi.1]
    unfold Addr.add
    split <;> rfl
   ·cases h
  ·cases h;exact Kept.refl _ _
 ·split at h
  ·split at h
   ·cases h
    rename_i hk
    refine((M7 hk).mono fun id _ hi=>⟨?_,hi.2⟩).trans (Kept.push _ _ _)
    simp only[hs,Option.elim]
    cases bs with
    | none=>simp at hi
    | some a=>simp at hi;simp[bK,hi.1]
   ·cases h
  ·cases h
theorem ZZ {P:Program}{fl:Nat}{ats:Array TypeId}{args:Array Value}{H H':aD}{v:Value}(h:DG P fl ats args H=some (v,H')) :
 Kept (fun id=>id∈args[0]?.elim [] bK/\fl<=id) H H':=by
 unfold DG at h
 split at h
 case h_2=>cases h
 rename_i dt ba n c x hdt hs hx
 split at h
 case h_2=>cases h
 split at h
 case h_2=>cases h
 split at h
 ·split at h
  ·cases h
   rename_i a _ hst2
   refine(pQ hst2).mono fun id _ hi=>⟨?_,hi.2⟩
   simp only[hs,Option.elim,bK,nN]
   exact hi.1
  ·cases h
 ·cases h;exact Kept.refl _ _
theorem ZG {P:Program}{s d:TypeId}{x v:Value}{H H':aD}(W:Nat->Prop)(h:kF P s d x H=some (v,H')):Kept W H H':=by
 unfold kF at h
 (repeat' split at h) <;> first
  | (cases h;done)
  | (cases h;exact Kept.refl _ _)
  | (cases h;exact Kept.push _ _ _)
theorem qH {P:Program}{fl:Nat}{op:Op}{ev:Operand->Value}{H H':aD}{r:tG}(h:aJ P fl op ev H=some (r,H')) :
 Kept (fun id=>id∈j0 op ev/\fl<=id) H H':=by
 have same:∀ {o:Option Value},(o.map fun v=>(tG.value v,H))=some (r,H')->Kept (fun id=>id∈j0 op ev/\fl<=id) H H':=by
  intro o ho
  cases o with
  | none=>cases ho
  | some v=>cases ho;exact Kept.refl _ _
 cases op <;> simp only[aJ]at h <;> try (cases h;done)
 case move x=>cases h;exact Kept.refl _ _
 case assign x=>cases h;exact Kept.refl _ _
 case pick c a b=>split at h <;> cases h;exact Kept.refl _ _
 case alloc t=>split at h <;> cases h;exact Kept.push _ _ _
 case box t x=>cases h;exact Kept.push _ _ _
 case build t parts =>
  (repeat' split at h) <;> cases h <;> exact Kept.refl _ _
 case buildSlice t n parts =>
  (repeat' split at h) <;> cases h
  exact Kept.push _ _ _
 case load t a =>
  split at h
  ·exact same h
  ·cases h
 case store t a x =>
  split at h
  ·rename_i p hp
   cases hs:uY P fl t H p (ev x)with
   | none=>simp[hs]at h
   | some K =>
     simp[hs]at h
     obtain⟨rfl,rfl⟩:=h
     unfold uY at hs
     split at hs
     ·refine(pQ hs).mono fun id _ hi=>⟨?_,hi.2⟩
      simp[j0,hp,bK,hi.1]
     ·cases hs
  ·cases h
 case nilCheck x=>split at h <;> cases h <;> exact Kept.refl _ _
 case binOp=>exact same h
 case unOp=>exact same h
 case convert s d x =>
  cases hm:kY P fl s d (ev x) H with
  | some v=>simp[hm]at h;obtain⟨_,rfl⟩:=h;exact Kept.refl _ _
  | none =>
  rw[hm]at h
  cases hc:kF P s d (ev x) H with
  | none=>simp[hc]at h
  | some q =>
    simp[hc]at h
    obtain⟨rfl,rfl⟩:=h
    exact ZG _ (v:=q.1) (H':=q.2) hc
 case makeFunc=>cases h;exact Kept.refl _ _
 case makeSlice t l c =>
  (repeat' split at h) <;> cases h
  exact Kept.push _ _ _
 case slice=>exact same h
 case fieldAddr=>exact same h
 case field=>exact same h
 case indexAddr=>exact same h
 case index=>exact same h
 case extract x i =>
  split at h
  ·exact same h
  ·cases h
 case sliceToArrayPointer=>exact same h
 case makeInterface t x =>
  split at h <;> cases h
  exact Kept.refl _ _
 case call c =>
  obtain⟨cal,args,ats⟩:=c
  unfold fP at h
  cases cal with
  | invoke rv m=>simp at h
  | value f =>
    simp only at h
    split at h
    ·split at h <;> cases h
     exact Kept.refl _ _
    ·cases h
  | builtin b =>
    cases b <;> simp only at h <;> try (cases h;done)
    case len=>exact same h
    case append =>
     cases hc:mN P fl ats (args.map ev) H with
     | none=>simp[hc]at h
     | some q =>
       simp[hc]at h
       obtain⟨rfl,rfl⟩:=h
       exact SK (v:=q.1) (H':=q.2) hc
    case copy =>
     cases hc:DG P fl ats (args.map ev) H with
     | none=>simp[hc]at h
     | some q =>
       simp[hc]at h
       obtain⟨rfl,rfl⟩:=h
       exact ZZ (v:=q.1) (H':=q.2) hc
    case max =>
     split at h
     ·exact same h
     ·cases h
    case min =>
     split at h
     ·exact same h
     ·cases h
    case complex=>(repeat' split at h) <;> cases h <;> exact Kept.refl _ _
    case real=>(repeat' split at h) <;> cases h <;> exact Kept.refl _ _
    case imag=>(repeat' split at h) <;> cases h <;> exact Kept.refl _ _
theorem qQ {P:Program}{fl:Nat}{op:Op}{ev:Operand->Value}{H H':aD}{f:FuncId}{args:Array Value}(h:aJ P fl op ev H=some (.enter f args,H')):aK op=4:=by
 have no:∀ {α:Type} {o:Option α} {g:α->Value×aD},(o.map fun v=>(tG.value (g v).1,(g v).2))=some (.enter f args,H')->False:=by
  intro α o g ho
  cases o with
  | none=>cases ho
  | some v=>simp at ho
 have no':∀ {o:Option Value},(o.map fun v=>(tG.value v,H))=some (.enter f args,H')->False:=fun {o} ho=>no (g:=fun v=>(v,H)) ho
 cases op <;> simp only[aJ]at h
 case convert s d x =>
  exfalso
  split at h
  ·cases h
  ·exact no (g:=fun q=>q) h
 case call c =>
  obtain⟨cal,azz,ats⟩:=c
  unfold fP at h
  cases cal with
  | invoke rv m=>simp at h
  | value f=>rfl
  | builtin b =>
    exfalso
    cases b <;> simp only at h <;> (try (cases h;done))
    case len=>exact no' h
    case append=>exact no (g:=fun q=>q) h
    case copy=>exact no (g:=fun q=>q) h
    case max =>
     split at h
     ·exact no' h
     ·cases h
    case min =>
     split at h
     ·exact no' h
     ·cases h
    case complex=>(repeat' split at h) <;> cases h
    case real=>(repeat' split at h) <;> cases h
    case imag=>(repeat' split at h) <;> cases h
 all_goals
  exfalso
  first
   | (cases h;done)
   | exact no' h
   | exact no (g:=fun q=>q) h
   | (split at h <;> first|(cases h;done)|exact no' h)
   | ((repeat' split at h) <;> cases h;done)
   | skip
 case store t a x =>
  split at h
  ·rename_i p hp
   cases hs:uY P fl t H p (ev x)with
   | none=>simp[hs]at h
   | some K=>simp[hs]at h
  ·cases h
def CallerKept (call:aQ):Prop:=∀ fl f args H v H',call fl f args H=some (v,H')->Kept (fun id=>fl<=id) H H'
theorem R4 {P:Program}{call:aQ}(hc:CallerKept call){fl flc:Nat}{ops:Array Oper}{o:Oper}{t t':aE}{H H':aD}(h:cF P call fl flc ops o t H=some (t',H')) :
 Kept (fun id=>(id∈j0 o.op (eval t)/\fl<=id)\/(aK o.op=4/\flc<=id)) H H'/\∃ v,t'=lN t o.dst v:=by
 unfold cF at h
 split at h
 ·split at h
  ·cases h
   exact⟨(qH ‹_›).mono fun id _ h => .inl h,_,rfl⟩
  ·cases h
   exact⟨(qH ‹_›).mono fun id _ h => .inl h,_,rfl⟩
  ·rename_i f args H1 hp
   split at h
   ·rename_i v H2 hcall
    cases h
    refine⟨((qH hp).mono fun id _ h => .inl h).trans ((hc _ _ _ _ _ _ hcall).mono fun id _ h => .inr ⟨?_,h⟩),_,rfl⟩
    exact qQ hp
   ·cases h
  ·cases h
 ·cases h
  exact⟨Kept.refl _ _,_,rfl⟩
def SA (flc:Nat)(W:Nat->Prop)(call:aQ):Prop:=∀ f args H v H',call flc f args H=some (v,H')->Kept W H H'
theorem pY {P:Program}{call:aQ}{fl flc:Nat}{W:Nat->Prop}(hc:SA flc W call){ops:Array Oper}{o:Oper}{t t':aE}{H H':aD}(h:cF P call fl flc ops o t H=some (t',H')) :
 Kept (fun id=>(id∈j0 o.op (eval t)/\fl<=id)\/(aK o.op=4/\W id)) H H'/\∃ v,t'=lN t o.dst v:=by
 unfold cF at h
 split at h
 ·split at h
  ·cases h
   exact⟨(qH ‹_›).mono fun id _ h => .inl h,_,rfl⟩
  ·cases h
   exact⟨(qH ‹_›).mono fun id _ h => .inl h,_,rfl⟩
  ·rename_i f args H1 hp
   split at h
   ·rename_i v H2 hcall
    cases h
    refine⟨((qH hp).mono fun id _ h => .inl h).trans ((hc _ _ _ _ _ hcall).mono fun id _ h => .inr ⟨?_,h⟩),_,rfl⟩
    exact qQ hp
   ·cases h
  ·cases h
 ·cases h
  exact⟨Kept.refl _ _,_,rfl⟩
theorem kC {P:Program}{call:aQ}(hc:CallerKept call){fl flc:Nat}{ops:Array Oper}{o:Oper}{t t':aE}{H H':aD}(hf:fl<=flc\/H.length<=flc)
 (h:cF P call fl flc ops o t H=some (t',H')):Kept (fun id=>fl<=id) H H' :=
 (R4 hc h).1.mono fun id hl hi=>by
  rcases hi with hi|hi
  ·exact hi.2
  ·omega
theorem xT {P:Program}{call:aQ}(hc:CallerKept call){fl:Nat}{ops:Array Oper}:∀ (l:List Oper) (t t':aE) (H H':aD),
 kQ P call fl ops l t H=some (t',H')->Kept (fun id=>fl<=id) H H'
 | [],t,t',H,H',h=>by cases h;exact Kept.refl _ _
 | o::l,t,t',H,H',h=>by
   simp only[kQ]at h
   split at h
   ·exact(kC hc (.inl (aF _)) ‹_›).trans (xT hc l _ _ _ _ h)
   ·cases h
theorem aAz (H:aD)(x i:Nat):(rQ H x)[i]? = if i=x then(H[i]?).map (fun B=>{ B with alive:=false })else H[i]? := by
 unfold rQ
 cases hx:H[x]? with
 | none =>
   simp only
   split
   ·rename_i h;rw[h,hx];rfl
   ·rfl
 | some B =>
   simp only
   have hlt:=(List.getElem?_eq_some_iff.1 hx).1
   split
   ·rename_i h;subst h;rw[gQ hlt,hx];rfl
   ·rename_i h;rw[dK (Ne.symm h)]
theorem ZW (H:aD)(x:Nat):(rQ H x).length=H.length:=by
 unfold rQ
 split <;> simp
theorem eO:∀ (X:List Nat) (H:aD),(kV X H).length=H.length
 | [],_=>rfl
 | x::X,H=>(eO X (rQ H x)).trans (ZW H x)
theorem oT:∀ (X:List Nat) (H:aD) (i:Nat),(kV X H)[i]? = if i∈X then(H[i]?).map (fun B=>{ B with alive:=false })else H[i]?
 | [],H,i=>by simp[kV]
 | x::X,H,i=>by
   show(kV X (rQ H x))[i]? = _
   rw[oT X (rQ H x) i,aAz]
   by_cases h1:i=x
   ·subst h1
    simp only[aO,DY,true_or]
    split
    ·cases H[i]? <;> rfl
    ·rfl
   ·simp only[h1,aS,DY,false_or]
theorem FQ (H K:aD)(x:Nat):(lF H K x).length=K.length:=by
 unfold lF
 split <;> simp
theorem j4 (H:aD):∀ (X:List Nat) (K:aD),(gG X H K).length=K.length
 | [],_=>rfl
 | x::X,K=>(j4 H X (lF H K x)).trans (FQ H K x)
theorem WA (H K:aD)(hl:H.length<=K.length)(x i:Nat):(lF H K x)[i]? = if i=x/\i<H.length then H[i]? else K[i]? := by
 unfold lF
 cases hx:H[x]? with
 | none =>
   simp only
   split
   ·rename_i h;obtain⟨rfl,h⟩:=h
    rw[O2]at hx;omega
   ·rfl
 | some B =>
   simp only
   have hlt:=(List.getElem?_eq_some_iff.1 hx).1
   split
   ·rename_i h;obtain⟨rfl,h⟩:=h
    rw[gQ (by omega),hx]
   ·rename_i h;rw[dK (fun e=>h ⟨e.symm,by omega⟩)]
theorem qZ (H:aD):∀ (X:List Nat) (K:aD),H.length<=K.length->∀ (i:Nat),(gG X H K)[i]? = if i∈X/\i<H.length then H[i]? else K[i]?
 | [],K,_,i=>by simp[gG]
 | x::X,K,hl,i=>by
   show(gG X H (lF H K x))[i]? = _
   rw[qZ H X _ (by rw[FQ];exact hl) i,WA H K hl]
   by_cases h1:i=x
   ·subst h1
    simp only[true_and,DY,true_or]
    split
    ·rename_i h;simp[h.2]
    ·rfl
   ·simp only[h1,false_and,aS,DY,false_or]
theorem OJ {call:aQ}(hc:CallerKept call)(X:List Nat)(fl:Nat):SA fl (fun id=>fl<=id /\ ¬ id∈X) (cM call X):=by
 intro f args H v H' h
 unfold cM at h
 split at h
 case h_2=>cases h
 rename_i v' K hk
 cases h
 have k:=hc _ _ _ _ _ _ hk
 have hl:H.length<=K.length:=by have:=k.len;rw[eO]at this;exact this
 refine⟨by rw[j4];exact hl,fun id hid hn => ?_,fun id B hB => ?_⟩
 ·rw[qZ H X K hl]
  split
  ·rfl
  ·rename_i h2
   have hx:id∉X:=fun h=>h2 ⟨h,hid⟩
   rw[k.keep id (by rw[eO];exact hid) (fun h=>hn ⟨h,hx⟩),oT,aC hx]
 ·rw[qZ H X K hl]
  split
  ·exact⟨B,hB,rfl,rfl,rfl,fun h=>h⟩
  ·rename_i h2
   have hx:id∉X:=fun h=>h2 ⟨h,(List.getElem?_eq_some_iff.1 hB).1⟩
   exact k.stat id B (by rw[oT,aC hx];exact hB)
theorem zM {call:aQ}(hc:CallerKept call)(X:List Nat):CallerKept (cM call X):=fun fl f args H v H' h=>(OJ hc X fl f args H v H' h).mono fun _ _ h=>h.1
theorem B6 {P:Program}{call:aQ}(hc:CallerKept call){fl:Nat}{ops:Array Oper}{b:Array Nat}:∀ (l:List Oper) (i:Nat) (X:List Nat) (Z:List (Nat×List Nat)) (t t':aE) (H H':aD),
 fL P call fl ops b i X Z l t H=some (t',H')->Kept (fun id=>fl<=id) H H'
 | [],i,X,Z,t,t',H,H',h=>by cases h;exact Kept.refl _ _
 | o::l,i,X,Z,t,t',H,H',h=>by
   simp only[fL]at h
   split at h
   case isFalse=>cases h
   split at h
   ·rename_i t1 H1 hs
    have hc':CallerKept (if eH ops b i o then cM call X else call):=by
     split
     ·exact zM hc X
     ·exact hc
    exact(kC hc' (by split <;> first|exact .inl (aF _)|exact .inr (aF _)) hs).trans (B6 hc l _ _ _ _ _ _ _ h)
   ·cases h
theorem zB {P:Program}{call:aQ}(hc:CallerKept call){fl:Nat}{ops:Array Oper}{b:Array Nat}:∀ (l:List Oper) (i:Nat) (t t':aE) (H H':aD),
 eB P call fl ops b i l t H=some (t',H')->Kept (fun id=>fl<=id) H H'
 | [],i,t,t',H,H',h=>by cases h;exact Kept.refl _ _
 | o::l,i,t,t',H,H',h=>by
   simp only[eB]at h
   split at h
   ·rename_i t1 H1 hs
    have k:=kC hc (by split <;> first|exact .inl (aF _)|exact .inr (aF _)) hs
    exact k.trans (zB hc l _ _ _ _ _ h)
   ·cases h
theorem JG {P:Program}{call:aQ}(hc:CallerKept call){fl:Nat}{ops:Array Oper}{draw:Bool}{t t':aE}{H H':aD}
 (h:cZ P call fl ops draw t H=some (t',H')):Kept (fun id=>fl<=id) H H':=by
 unfold cZ at h
 split at h
 ·simp only at h
  split at h
  ·split at h
   ·rename_i t1 H1 hrun
    split at h
    ·cases h
     split at hrun
     ·exact B6 hc _ _ _ _ _ _ _ _ hrun
     ·exact zB hc _ _ _ _ _ _ hrun
    ·cases h
   ·cases h
  ·cases h
 ·exact xT hc _ _ _ _ _ h
theorem A6 {fl:Nat}{body:aE->aD->Option (bE×aE×aD)}(hb:∀ t H e t' H',body t H=some (e,t',H')->Kept (fun id=>fl<=id) H H') :
 ∀ (n:Nat) (t:aE) (H:aD) (e:bE) (t':aE) (H':aD),fV body n t H=some (e,t',H')->Kept (fun id=>fl<=id) H H'
 | 0,_,_,_,_,_,h=>by cases h
 | n+1,t,H,e,t',H',h=>by
   simp only[fV]at h
   split at h
   ·rename_i t1 H1 hs
    exact(hb _ _ _ _ _ hs).trans (A6 hb n _ _ _ _ _ h)
   ·exact hb _ _ _ _ _ h
theorem iW {P:Program}{call:aQ}(hc:CallerKept call){m fl:Nat}:∀ (c:Code) (t:aE) (H:aD) (e:bE) (t':aE) (H':aD),
 aU P call m fl c t H=some (e,t',H')->Kept (fun id=>fl<=id) H H':=by
 intro c
 induction c with
 | skip=>intro t H e t' H' h;cases h;exact Kept.refl _ _
 | label l=>intro t H e t' H' h;cases h;exact Kept.refl _ _
 | exit id=>intro t H e t' H' h;cases h;exact Kept.refl _ _
 | ret=>intro t H e t' H' h;cases h;exact Kept.refl _ _
 | region id ops draw =>
   intro t H e t' H' h
   simp only[aU]at h
   split at h
   ·cases h;exact JG hc ‹_›
   ·cases h
 | seq a b iha ihb =>
   intro t H e t' H' h
   simp only[aU]at h
   split at h
   ·rename_i t1 H1 hs
    exact(iha _ _ _ _ _ hs).trans (ihb _ _ _ _ _ h)
   ·exact iha _ _ _ _ _ h
 | cond c x y ihx ihy =>
   intro t H e t' H' h
   simp only[aU]at h
   split at h
   ·exact ihx _ _ _ _ _ h
   ·exact ihy _ _ _ _ _ h
   ·cases h
 | block id b ih =>
   intro t H e t' H' h
   simp only[aU]at h
   split at h
   ·cases h;exact ih _ _ _ _ _ ‹_›
   ·exact ih _ _ _ _ _ h
 | loop b ih =>
   intro t H e t' H' h
   simp only[aU]at h
   exact A6 (fun t H e t' H' h=>ih t H e t' H' h) _ _ _ _ _ _ h
 | rangeFunc=>intro t H e t' H' h;cases h
 | scope=>intro t H e t' H' h;cases h
 | goto l=>intro t H e t' H' h;cases h;exact Kept.refl _ _
 | refuse=>intro t H e t' H' h;cases h
end Go.Mach
