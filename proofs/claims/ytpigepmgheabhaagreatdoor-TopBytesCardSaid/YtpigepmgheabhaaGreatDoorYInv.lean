/- Part of the proof. No condition. -/
import Derived.Test.YtpigepmgheabhaaGreatDoorYDrawn
namespace Go.Mach
def EA (fl:Nat)(ops:Array Oper)(Pm:Nat->Nat->Prop)(T:Nat->aE)(HH:Nat->aD)(S:Nat->Prop)(id k:Nat):Prop:=∀ j,j<ops.size->tL fl ops Pm T HH j id->(S j ↔ j<k)
def PD (fl:Nat)(ops:Array Oper)(Pm:Nat->Nat->Prop)(T:Nat->aE)(HH:Nat->aD)(S:Nat->Prop)(id:Nat):Prop :=
 ∃ k,k<=ops.size/\EA fl ops Pm T HH S id k/\(blk? (HH k) id).isSome=true
structure Inv (base:Nat)(w0:World)(fl n:Nat)(ops:Array Oper)(Pm:Nat->Nat->Prop)(T:Nat->aE)(HH:Nat->aD)(ρ0:Ren)(wS:World)(S:Nat->Prop)(ρ:Ren)(a:Act)(w:World):Prop where
 ext:Ext ρ0 ρ
 new:∀ id L,ρ0 id=none->ρ id=some L->(∃ k,k<ops.size/\S k/\(HH k).length<=id/\id<(HH (k+1)).length) /\
  (wS.heap.size<=L.blk\/∃ id0 L0,fl<=id0/\ρ0 id0=some L0/\L0.blk=L.blk/\(blk? (HH 0) id0).isSome=true /\ ¬ PD fl ops Pm T HH S id0)
 base_le:base<=w.heap.size
 old:∀ i,i<base->w.heap[i]? = w0.heap[i]?
 dom:∀ id L,ρ id=some L->L.blk<w.heap.size/\(base<=id->base<=L.blk)
 apart:∀ id L,id<base->ρ id=some L->∀ i,base<=i->L.blk≠i
 stat:∀ k,k<=ops.size->∀ (id:Nat) L B,ρ id=some L->(HH k)[id]? = some B->B.cells.length=L.n/\B.exact=L.exact/\B.es=L.es/\L.n<=L.room/\(L.exact=true->L.n=L.room)
 cont:∀ k,k<=ops.size->∀ id L B,ρ id=some L->EA fl ops Pm T HH S id k->blk? (HH k) id=some B->∃ cc e fz,w.heap[L.blk]? = some (.cells cc e fz)/\L.off+L.room<=cc.size /\
  (base<=id->fz.1=fz.2\/cc.size<=fz.1)/\∀ (i:Nat) v,B.cells[i]? = some v->lC v=false->∃ v',cc[L.off+i]? = some v'/\VRel ρ v v'
 inj:∀ id id' L L',ρ id=some L->ρ id'=some L'->PD fl ops Pm T HH S id->PD fl ops Pm T HH S id'->base<=id->base<=id'->L.blk=L'.blk->id=id'
 frame:∀ i,i<wS.heap.size->(∀ id L,fl<=id->ρ0 id=some L->(blk? (HH 0) id).isSome=true->L.blk≠i)->w.heap[i]? = wS.heap[i]?
 grow:wS.heap.size<=w.heap.size
 side:w.os=wS.os/\w.tape=wS.tape/\w.output=wS.output
 acc:∀ (j:Nat) o,ops[j]? = some o->S j->∀ id∈cI o.op (eval (T j)),(ρ id).isSome=true
 size:a.tmps.size=n
 defers:a.defers=[]
 tmps:∀ d,d<n->∀ k,k<=ops.size->(∀ (j:Nat) o,ops[j]? = some o->o.dst=some d->(S j ↔ j<k))->VRel ρ (T k d) (a.tmps.getD d undef)
section
variable {P:Program} {cl:Nat->aQ} {fc:Nat->Nat} {Pm:Nat->Nat->Prop} {base fl n:Nat} {ops:Array Oper} {b:Array Nat} {T:Nat->aE} {HH:Nat->aD} {w0:World} {ρ0 ρ:Ren} {wS w:World} {S:Nat->Prop} {a:Act}
theorem yQ {v v':Value}(h:VRel ρ v v'):∀ id∈bK v,(ρ id).isSome=true:=by
 intro id hid
 cases h <;> simp only[bK,nN]at hid <;> try (cases hid;done)
 case ptr h=>rw[hid,h];rfl
 case slice h _=>rw[hid,h];rfl
 case empty h=>rw[hid,h];rfl
theorem aAO {op:Op}{ev cev:Operand->Value}(h:∀ x∈op.operands,VRel ρ (ev x) (cev x)):∀ id∈cI op ev,(ρ id).isSome=true:=by
 intro id hid
 unfold cI at hid
 cases op <;> simp only at hid <;> try (cases hid;done)
 case load t a=>exact yQ (h a (by simp[Op.operands])) id hid
 case store t a x=>exact yQ (h a (by simp[Op.operands])) id hid
 case convert s d x=>exact yQ (h x (by simp[Op.operands])) id hid
 case call c =>
  obtain⟨cal,args,ats⟩:=c
  have args_case:id∈(args.map ev).toList.flatMap bK->(ρ id).isSome=true:=by
   intro hm
   obtain⟨v,hv,hb⟩:=List.mem_flatMap.1 hm
   simp only[Array.toList_map,List.mem_map,Array.mem_toList_iff]at hv
   obtain⟨x,hx,rfl⟩:=hv
   exact yQ (h x (by simp[Op.operands,Call.operands,hx])) id hb
  cases cal with
  | builtin b'=>grind
  | _=>cases hid
structure Upnext (ops:Array Oper)(b:Array Nat)(S:Nat->Prop)(i:Nat):Prop where
 lt:i<ops.size
 out : ¬ S i
 ahead:∀ j,Bef b i j->S j
 closed:∀ i j,i<ops.size->S i->Bef b i j->S j
theorem Upnext.sync {i j:Nat}(h:Upnext ops b S i)(hj:j<ops.size)(hc:j≠i->Cmp b i j):S j ↔ j<i:=by
 by_cases he:j=i
 ·subst he
  exact⟨fun hs=>absurd hs h.out,fun hlt=>by omega⟩
 ·have hc:=hc he
  rcases Nat.lt_or_gt_of_ne he with hlt|hgt
  ·exact⟨fun _=>hlt,fun _=>h.ahead j (hc.2 hlt)⟩
  ·exact⟨fun hs=>absurd (h.closed j i hj hs (hc.1 hgt)) h.out,fun hlt=>by omega⟩
theorem zT {i:Nat}(hn:Upnext ops b S i){id k:Nat}(hk:k<=ops.size)(hs:EA fl ops Pm T HH (fun j=>S j\/j=i) id k)
 (hc:∀ j,j≠i->j<ops.size->tL fl ops Pm T HH j id->S j->Cmp b i j):∀ j,i<j->j<k -> ¬ tL fl ops Pm T HH j id:=by
 intro j h1 h2 hw
 have hj:j<ops.size:=by omega
 have hS:S j:=by
  rcases(hs j hj hw).2 h2 with h|h
  ·exact h
  ·omega
 have:=hn.closed j i hj hS ((hc j (by omega) hj hw hS).1 h1)
 exact hn.out this
theorem Inv.start (D:Drawn P cl fc Pm base w0 fl n ops b T HH)(Sm:Sim base w0 All ρ0 (HH 0) wS)(hfr:∀ id,(HH 0).length<=id->id<(HH ops.size).length->ρ0 id=none)(hT:TRel n ρ0 (T 0) a) :
 Inv base w0 fl n ops Pm T HH ρ0 wS (fun _=>False) ρ0 a wS:=by
 have down:∀ k,k<=ops.size->∀ id B,(ρ0 id).isSome=true->(HH k)[id]? = some B->id<(HH 0).length:=by
  intro k hk id B hr hB
  have h1:=(List.getElem?_eq_some_iff.1 hB).1
  rcases lM id (HH 0).length with h|h
  ·exact h
  ·rw[hfr id h (dC h1 (D.len hk (aF _)))]at hr;cases hr
 have syn0:∀ k,k<=ops.size->∀ id,id<(HH 0).length->EA fl ops Pm T HH (fun _=>False) id k->(HH k)[id]? = (HH 0)[id]? := by
  intro k hk id hid hs
  exact D.keep (eJ k) hk hid fun j _ h2 hw=>((hs j (by omega) hw).2 h2)
 have blk0:∀ k,k<=ops.size->∀ id,(ρ0 id).isSome=true->EA fl ops Pm T HH (fun _=>False) id k->(blk? (HH k) id).isSome=true->blk? (HH k) id=blk? (HH 0) id:=by
  intro k hk id hr hs hb
  have h1:=blk?_lt hb
  have:id<(HH 0).length:=by
   rcases lM id (HH 0).length with h|h
   ·exact h
   ·rw[hfr id h (dC h1 (D.len hk (aF _)))]at hr;cases hr
  unfold blk?
  rw[syn0 k hk id this hs]
 refine⟨Ext.refl _,fun id L h h'=>(by rw[h]at h';cases h'),Sm.base_le,Sm.old,Sm.dom,Sm.apart,fun k hk id L B h hB => ?_,fun k hk id L B h hs hB => ?_,fun id id' L L' h h' hl hl' b1 b2 he => ?_,fun i _ _=>rfl,aF _,⟨rfl,rfl,rfl⟩,fun j o _ h=>h.elim,hT.size,hT.defers,fun d hd k hk hs => ?_⟩
 ·have hlt:=down k hk id B (by rw[h];rfl) hB
  obtain⟨B',h1,h2,h3,h4,_⟩:=D.stat (aM hlt) (eJ k) hk
  rw[hB]at h1;cases h1
  have:=Sm.stat id L _ h (aM hlt)
  rw[h2,h3,h4];exact this
 ·rw[blk0 k hk id (by rw[h];rfl) hs (by rw[hB];rfl)]at hB
  exact Sm.cont id L B trivial h hB
 ·obtain⟨k,hk,hs,hb⟩:=hl
  obtain⟨k',hk',hs',hb'⟩:=hl'
  rw[blk0 k hk id (by rw[h];rfl) hs hb]at hb
  rw[blk0 k' hk' id' (by rw[h'];rfl) hs' hb']at hb'
  exact Sm.inj id id' L L' trivial trivial h h' hb hb' b1 b2 he
 ·rw[D.tmp (eJ k) hk fun j o _ h2 ho he=>(hs j o ho he).2 h2]
  exact hT.rel d hd
theorem M9 {fl:Nat}{op:Op}{ev:Operand->Value}{H H':aD}{r:tG}(h:aJ P fl op ev H=some (r,H'))(hk:aK op=0):H'=H:=by
 have same:∀ {o:Option Value},(o.map fun v=>(tG.value v,H))=some (r,H')->H'=H:=by
  intro o ho
  cases o with
  | none=>cases ho
  | some v=>simp at ho;exact ho.2.symm
 cases op <;> simp only[aJ]at h <;> (try (cases hk;done)) <;> (try (cases h;done))
 case convert s d x =>
  unfold aK at hk
  simp only at hk
  split at hk <;> cases hk
 case call c =>
  obtain⟨cal,args,ats⟩:=c
  unfold fP at h
  cases cal with
  | invoke rv m=>simp at h
  | value f=>cases hk
  | builtin b =>
    cases b <;> simp only at h <;> (try (cases h;done)) <;> (try (cases hk;done)) <;>
     first
      | exact same h
      | (split at h
         ·exact same h
         ·cases h)
      | ((repeat' split at h) <;> cases h <;> rfl)
 all_goals
  first
   | exact same h
   | (cases h;rfl)
   | (split at h <;> first|(cases h;done)|exact same h|(cases h;rfl))
   | ((repeat' split at h) <;> cases h <;> rfl)
theorem wJ {call:aQ}{fl flc:Nat}{o:Oper}{t t':aE}{H H':aD}(h:cF P call fl flc ops o t H=some (t',H'))(hk:aK o.op=0):H'=H:=by
 unfold cF at h
 split at h
 ·split at h
  ·rename_i hp
   simp at h
   rw[<- h.2];exact M9 hp hk
  ·rename_i hp
   simp at h
   rw[<- h.2];exact M9 hp hk
  ·rename_i hp
   have:=qQ hp
   omega
  ·cases h
 ·simp at h
  exact h.2.symm
theorem QW {call:aQ}{fl flc:Nat}{o:Oper}{t t':aE}{H H':aD}(h:cF P call fl flc ops o t H=some (t',H'))(hl:nL o.op=true):H'=H:=by
 unfold cF at h
 split at h
 ·cases ho:o.op <;> rw[ho]at hl <;> first|cases hl|skip
  simp only[ho,aJ]at h
  split at h
  ·rename_i v H1 hp
   cases h
   split at hp
   ·rename_i p hpp
    cases hla:lD P _ H p with
    | none=>rw[hla]at hp;cases hp
    | some u=>rw[hla]at hp;cases hp;rfl
   ·cases hp
  ·rename_i H1 hp
   split at hp
   ·rename_i p hpp
    cases hla:lD P _ H p with
    | none=>rw[hla]at hp;cases hp
    | some u=>rw[hla]at hp;cases hp
   ·cases hp
  ·rename_i f args H1 hp
   split at hp
   ·rename_i p hpp
    cases hla:lD P _ H p with
    | none=>rw[hla]at hp;cases hp
    | some u=>rw[hla]at hp;cases hp
   ·cases hp
  ·cases h
 ·cases h;rfl
theorem Inv.step (D:Drawn P cl fc Pm base w0 fl n ops b T HH)(I:Inv base w0 fl n ops Pm T HH ρ0 wS S ρ a w)(hfr0:∀ id,(HH 0).length<=id->id<(HH ops.size).length->ρ0 id=none)
 {i:Nat} (hn:Upnext ops b S i) {o:Oper} (ho:ops[i]? = some o) {Q:Exit->Act->World->Prop} {K:Act->World->Prop}
 (hK:∀ ρ' a' w',Inv base w0 fl n ops Pm T HH ρ0 wS (fun j=>S j\/j=i) ρ' a' w'->K a' w'):wpOp P ops Q i K a w:=by
 have hi:=hn.lt
 have hs:=D.step i o ho
 have hok:=D.hok i o ho
 have hlen01:(HH 0).length<=(HH i).length:=D.len (eJ i) (kP hi)
 have hlenN:(HH (i+1)).length<=(HH ops.size).length:=D.len hi (aF _)
 have hleni:(HH i).length<=(HH (i+1)).length:=D.len (Nat.le_succ i) hi
 have syncAcc:∀ id,(id∈cI o.op (eval (T i))\/aK o.op=4)->EA fl ops Pm T HH S id i:=fun id h j hj hw=>hn.sync hj fun hne=>D.cmp_wrote ho (fun e=>hne e.symm) h hw
 have hfresh:∀ id,(HH i).length<=id->id<(HH (i+1)).length->ρ id=none:=by
  intro id h1 h2
  cases hr:ρ id with
  | none=>rfl
  | some L =>
    obtain⟨⟨k,hk,hSk,h3,h4⟩,_⟩:=I.new id L (hfr0 id (by omega) (by omega)) hr
    have hne:k≠i:=fun e=>hn.out (e▸hSk)
    rcases Nat.lt_or_gt_of_ne hne with hlt|hgt
    ·have:=D.len (i:=k+1) (k:=i) (by omega) (by omega);omega
    ·have:=D.len (i:=i+1) (k:=k) (by omega) (by omega);omega
 have hsim:Sim base w0 (fun id=>EA fl ops Pm T HH S id i) ρ (HH i) w :=
  ⟨I.base_le,I.old,I.dom,I.apart,fun id L B h hB=>I.stat i (kP hi) id L B h hB,fun id L B a h hB=>I.cont i (kP hi) id L B h a hB,
    fun id id' L L' a a' h h' hl hl' b1 b2 he=>I.inj id id' L L' h h' ⟨i,kP hi,a,hl⟩ ⟨i,kP hi,a',hl'⟩ b1 b2 he⟩
 have look:∀ d,d<n->d∈BM ops o->VRel ρ (T i d) (a.tmps.getD d undef):=by
  intro d hd hm
  refine I.tmps d hd i (kP hi) fun j p hp he=>hn.sync (cR hp) fun _ => ?_
  refine D.cmp_tmp ho hp ?_
  unfold oM
  simp only[he,iX]
  right
  simpa using hm
 have hv:∀ x∈o.op.operands,VRel ρ (eval (T i) x) (a.eval x):=by
  intro x hx
  have hxo:aG n x=true:=by
   simp only[gO,aH]at hok
   exact List.all_eq_true.1 hok.1.1 x (by simpa using hx)
  cases x with
  | tmp d=>exact look d (by simpa [aG] using hxo) (lU _ (List.mem_filterMap.2 ⟨.tmp d,by simpa using hx,rfl⟩))
  | const v =>
    have hp:fX v=true:=by simpa [aG] using hxo
    exact VRel.plain hp
  | global g=>simp[aG]at hxo
  | func f=>exact VRel.func_of _ (LRel.nil ρ) (LRel.nil ρ)
 have hwant:bS ops (T i) o=Region.wanted o (yielded ops a.tmps):=by
  refine TRel.wanted (ρ:=ρ) I.size (fun j w d hg hd hdn=>look d hdn ?_) hok
  unfold BM
  rw[hg]
  exact gA _ (by simp[hd])
 refine MP (W:=fun id=>id∈j0 o.op (eval (T i))\/(aK o.op=4/\Pm i id)) (A:=fun id=>EA fl ops Pm T HH S id i)
  (D.hcs i) (D.hck i) hsim D.hbf (D.hfc i hi).1 (D.hfc i hi).2 ho hfresh hv hwant
  (fun id h=>syncAcc id (.inl h)) (fun h id=>syncAcc id (.inr h)) (fun id h => .inl h) (fun h id _ h' => .inr ⟨h,h'⟩) hs ?_
 intro v v' ρ' w' hT hvr st
 refine hK ρ' _ w' ?_
 have toWrote:∀ id,fl<=id->(id∈j0 o.op (eval (T i))\/(aK o.op=4/\Pm i id))->id<(HH i).length->tL fl ops Pm T HH i id:=by
  intro id hf hw hl
  refine⟨hl,o,ho,?_⟩
  rcases hw with hw|⟨hw,hc⟩
  ·exact .inl ⟨hw,hf⟩
  ·exact .inr ⟨hw,hc⟩
 have accWrote:∀ id,tL fl ops Pm T HH i id->id∈cI o.op (eval (T i))\/aK o.op=4:=by
  rintro id ⟨_,p,hp,h⟩
  rw[ho]at hp;cases hp
  rcases h with h|h
  ·exact .inl (aAt h.1)
  ·exact .inr h.1
 have NB:∀ id k,k<=ops.size->tL fl ops Pm T HH i id->EA fl ops Pm T HH (fun j=>S j\/j=i) id k->i<k/\(HH k)[id]? = (HH (i+1))[id]? := by
  intro id k hk hw hsy
  have hik:i<k:=(hsy i hi hw).1 (.inr rfl)
  refine⟨hik,D.keep hik hk (dC hw.1 hleni) fun j h1 h2 => ?_⟩
  exact zT hn hk hsy (fun j hne _ hwj _=>D.cmp_wrote ho (fun e=>hne e.symm) (accWrote id hw) hwj) j (by omega) h2
 have NBn:∀ id k L,k<=ops.size->ρ id=none->ρ' id=some L->id<(HH k).length->EA fl ops Pm T HH (fun j=>S j\/j=i) id k->(HH k)[id]? = (HH (i+1))[id]? := by
  intro id k L hk hr hr' hid hsy
  obtain⟨h1,h2,_⟩:=st.new id L hr hr'
  have hik:i+1<=k:=by
   rcases lM i k with h|h
   ·exact h
   ·have:=D.len (i:=k) (k:=i) h (kP hi);omega
  refine D.keep hik hk h2 fun j g1 g2=>zT hn hk hsy (fun j hne hj hwj hS => ?_) j (by omega) g2
  obtain⟨hwj0,p,hp,hw⟩:=hwj
  rcases hw with hw|⟨hk4,hap⟩
  ·have:=I.acc j p hp hS id (aAt hw.1)
   rw[hr]at this;cases this
  ·rcases lM i j with hlt|hge
   ·exact(D.hperm j p hp hk4 id hwj0 hap).2 i o ho hlt (by omega)
   ·have:=D.len (i:=j) (k:=i) hge (kP hi)
    have:=hwj0
    omega
 have syncBack:∀ id k,¬ tL fl ops Pm T HH i id->EA fl ops Pm T HH (fun j=>S j\/j=i) id k->EA fl ops Pm T HH S id k:=by
  intro id k hnw hsy j hj hw
  have hne:j≠i:=fun e=>hnw (e▸hw)
  have:=hsy j hj hw
  simpa [hne] using this
 have liveBack:∀ id,PD fl ops Pm T HH (fun j=>S j\/j=i) id->(ρ id).isSome=true->PD fl ops Pm T HH S id:=by
  rintro id ⟨k,hk,hsy,hb⟩ hr
  by_cases hw:tL fl ops Pm T HH i id
  ·obtain⟨hik,he⟩:=NB id k hk hw hsy
   refine⟨i,kP hi,syncAcc id (accWrote id hw),st.dead id hw.1 ?_⟩
   unfold blk? at hb⊢
   rwa [he]at hb
  ·exact⟨k,hk,syncBack id k hw hsy,hb⟩
 have notLive:∀ id,fl<=id->(id∈j0 o.op (eval (T i))\/(aK o.op=4/\Pm i id))->(blk? (HH i) id).isSome=true->blk? (HH (i+1)) id=none ->
  ¬ PD fl ops Pm T HH (fun j=>S j\/j=i) id:=by
  rintro id hf hw hal hde ⟨k,hk,hsy,hb⟩
  obtain⟨_,he⟩:=NB id k hk (toWrote id hf hw (blk?_lt hal)) hsy
  unfold blk? at hb hde
  rw[he,hde]at hb
  cases hb
 have down0:∀ id L,ρ0 id=some L->id<(HH i).length->(blk? (HH i) id).isSome=true->(blk? (HH 0) id).isSome=true:=by
  intro id L hr hl hb
  have h0:id<(HH 0).length:=by
   rcases lM id (HH 0).length with h|h
   ·exact h
   ·rw[hfr0 id h (by omega)]at hr;cases hr
  cases hbi:blk? (HH i) id with
  | none=>rw[hbi]at hb;cases hb
  | some B =>
    obtain⟨q1,q2⟩:=blk?_inv hbi
    obtain⟨B',r1,_,_,_,r5⟩:=D.stat (aM h0) (eJ i) (kP hi)
    rw[q1]at r1;cases r1
    unfold blk?
    rw[aM h0]
    simp[r5 q2]
 refine⟨I.ext.trans st.ext,fun id L h h' => ?_,st.sim.base_le,st.sim.old,st.sim.dom,st.sim.apart,fun k hk id L B h hB => ?_,fun k hk id L B h hsy hB => ?_,fun id id' L L' h h' hl hl' b1 b2 he => ?_,
  fun m hm hno => ?_,bY I.grow st.grow,⟨st.side.1.trans I.side.1,st.side.2.1.trans I.side.2.1,st.side.2.2.trans I.side.2.2⟩,fun j p hp hSj id hid => ?_,?_,?_,fun d hd k hk hdst => ?_⟩
 ·
   cases hr:ρ id with
   | some L1 =>
     have:=st.ext id L1 hr
     rw[h']at this;cases this
     obtain⟨⟨k,h1,h2,h3⟩,h4⟩:=I.new id L h hr
     refine⟨⟨k,h1,.inl h2,h3⟩,?_⟩
     rcases h4 with h4|⟨id0,L0,f,e0,eb,al,nl⟩
     ·exact .inl h4
     ·exact .inr ⟨id0,L0,f,e0,eb,al,fun hl=>nl (liveBack id0 hl (by rw[I.ext id0 L0 e0];rfl))⟩
   | none =>
     obtain⟨h1,h2,h3⟩:=st.new id L hr h'
     refine⟨⟨i,hi,.inr rfl,h1,h2⟩,?_⟩
     rcases h3 with h3|⟨id0,L0,f,a0,w1,e0,eb,al,de⟩
     ·exact .inl (bY I.grow h3)
     ·cases h0:ρ0 id0 with
      | some K0 =>
        have:=I.ext id0 K0 h0
        rw[e0]at this;cases this
        exact .inr ⟨id0,L0,f,h0,eb,down0 id0 L0 h0 (blk?_lt al) al,notLive id0 f w1 al de⟩
      | none =>
        obtain⟨_,h4⟩:=I.new id0 L0 h0 e0
        rcases h4 with h4|⟨id1,L1,f1,e1,eb1,al1,nl1⟩
        ·exact .inl (by omega)
        ·exact .inr ⟨id1,L1,f1,e1,by omega,al1,fun hl=>nl1 (liveBack id1 hl (by rw[I.ext id1 L1 e1];rfl))⟩
 ·
   cases hr:ρ id with
   | some L1 =>
     have:=st.ext id L1 hr
     rw[h]at this;cases this
     exact I.stat k hk id L B hr hB
   | none =>
     obtain⟨h1,h2,_⟩:=st.new id L hr h
     have hik:i+1<=k:=by
      rcases lM i k with h|h
      ·exact h
      ·have:=D.len (i:=k) (k:=i) h (kP hi)
       have:=(List.getElem?_eq_some_iff.1 hB).1;omega
     obtain⟨B',r1,r2,r3,r4,_⟩:=D.stat (aM h2) hik hk
     rw[hB]at r1;cases r1
     rw[r2,r3,r4]
     exact st.sim.stat id L _ h (aM h2)
 ·
   cases hr:ρ id with
   | none =>
     have he:=NBn id k L hk hr h (blk?_lt (by rw[hB];rfl)) hsy
     unfold blk? at hB
     rw[he]at hB
     obtain⟨h1,_,_⟩:=st.new id L hr h
     exact st.sim.cont id L B (.inr h1) h hB
   | some L1 =>
     have:=st.ext id L1 hr
     rw[h]at this;cases this
     by_cases hw:tL fl ops Pm T HH i id
     ·obtain⟨_,he⟩:=NB id k hk hw hsy
      unfold blk? at hB
      rw[he]at hB
      exact st.sim.cont id L B (.inl (syncAcc id (accWrote id hw))) h hB
     ·have hsy':=syncBack id k hw hsy
      obtain⟨cc,e,fz,g1,g2,g3,g4⟩:=I.cont k hk id L B hr hsy' hB
      refine⟨cc,e,fz,?_,g2,g3,fun m u hu hh => ?_⟩
      ·rw[st.frame L.blk (I.dom id L hr).1 ?_]
       ·exact g1
       ·intro id1 L1 f1 w1 a1 e1 al1 heq
        by_cases hbid:base<=id
        ·have:=I.inj id1 id L1 L e1 hr ⟨i,kP hi,a1,al1⟩ ⟨k,hk,hsy',by rw[hB];rfl⟩ (bY D.hbf f1) hbid heq
         subst this
         exact hw (toWrote id1 f1 w1 (blk?_lt al1))
        ·exact I.apart id L (by omega) hr L1.blk ((I.dom id1 L1 e1).2 (bY D.hbf f1)) heq.symm
      ·obtain⟨u',p,q⟩:=g4 m u hu hh
       exact⟨u',p,q.mono st.ext⟩
 ·
   have newLive:∀ id L,ρ id=none->ρ' id=some L->PD fl ops Pm T HH (fun j=>S j\/j=i) id->(blk? (HH (i+1)) id).isSome=true:=by
    rintro id L hr hr' ⟨k,hk,hsy,hb⟩
    have he:=NBn id k L hk hr hr' (blk?_lt hb) hsy
    unfold blk? at hb⊢
    rwa [he]at hb
   have cross:∀ id id' L L',ρ id=none->ρ' id=some L->ρ id'=some L'->PD fl ops Pm T HH (fun j=>S j\/j=i) id'->base<=id'->L.blk=L'.blk->False:=by
    intro id id' L L' hr hr1 hr' hl' b2 he
    obtain⟨_,_,h3⟩:=st.new id L hr hr1
    have hd:=(I.dom id' L' hr').1
    rcases h3 with h3|⟨id0,L0,f,a0,w1,e0,eb,al,de⟩
    ·omega
    ·have:=I.inj id0 id' L0 L' e0 hr' ⟨i,kP hi,a0,al⟩ (liveBack id' hl' (by rw[hr'];rfl)) (bY D.hbf f) b2 (by omega)
     subst this
     exact notLive id0 f w1 al de hl'
   cases hr:ρ id with
   | some L1 =>
     have e1:=st.ext id L1 hr
     rw[h]at e1;cases e1
     cases hr':ρ id' with
     | some L2 =>
       have e2:=st.ext id' L2 hr'
       rw[h']at e2;cases e2
       exact I.inj id id' L L' hr hr' (liveBack id hl (by rw[hr];rfl)) (liveBack id' hl' (by rw[hr'];rfl)) b1 b2 he
     | none=>exact(cross id' id L' L hr' h' hr hl b1 he.symm).elim
   | none =>
     cases hr':ρ id' with
     | some L2 =>
       have e2:=st.ext id' L2 hr'
       rw[h']at e2;cases e2
       exact(cross id id' L L' hr h hr' hl' b2 he).elim
     | none =>
       exact st.sim.inj id id' L L' (.inr (st.new id L hr h).1) (.inr (st.new id' L' hr' h').1) h h' (newLive id L hr h hl) (newLive id' L' hr' h' hl') b1 b2 he
 ·
   rw[st.frame m (dC hm I.grow) ?_,I.frame m hm hno]
   intro id1 L1 f1 w1 a1 e1 al1
   cases h0:ρ0 id1 with
   | some K0 =>
     have:=I.ext id1 K0 h0
     rw[e1]at this;cases this
     exact hno id1 L1 f1 h0 (down0 id1 L1 h0 (blk?_lt al1) al1)
   | none =>
     obtain⟨_,h4⟩:=I.new id1 L1 h0 e1
     rcases h4 with h4|⟨id2,L2,f2,e2,eb2,al2,_⟩
     ·omega
     ·rw[<- eb2];exact hno id2 L2 f2 e2 al2
 ·
   have up:∀ id,(ρ id).isSome=true->(ρ' id).isSome=true:=fun id h=>by
    obtain⟨L,hL⟩:=Option.isSome_iff_exists.1 h
    rw[st.ext id L hL];rfl
   rcases hSj with hSj|rfl
   ·exact up id (I.acc j p hp hSj id hid)
   ·rw[ho]at hp;cases hp
    exact up id (aAO hv id hid)
 ·cases o.dst <;> simp[Act.put,I.size]
 ·cases o.dst <;> simp[Act.put,I.defers]
 ·
   by_cases hod:o.dst=some d
   ·have hik:i<k:=(hdst i o ho hod).1 (.inr rfl)
    have:T k d=T (i+1) d:=D.tmp hik hk fun j p h1 h2 hp he=>by
     have hS:S j:=by
      rcases(hdst j p hp he).2 h2 with h|h
      ·exact h
      ·omega
     have hc:Cmp b i j:=D.cmp_tmp ho hp (by unfold oM;simp[hod,he])
     exact hn.out (hn.closed j i (cR hp) hS (hc.1 (by omega)))
    rw[this,hT,hod]
    simp only[lN,Act.put]
    rw[tO]
    simp only[nT]
    rw[JT (by rw[I.size];exact hd)]
    exact hvr
   ·have hr:=I.tmps d hd k hk fun j p hp he=>by
     have hne:j≠i:=fun e=>by subst e;rw[ho]at hp;cases hp;exact hod he
     have:=hdst j p hp he
     simpa [hne] using this
    have heq:(a.put o.dst v').tmps.getD d undef=a.tmps.getD d undef:=by
     cases hdd:o.dst with
     | none=>rfl
     | some e =>
       have hne:e≠d:=fun h=>hod (by rw[hdd,h])
       simp only[Act.put,nT]
       rw[FP hne]
    rw[heq]
    exact hr.mono st.ext
end
end Go.Mach
