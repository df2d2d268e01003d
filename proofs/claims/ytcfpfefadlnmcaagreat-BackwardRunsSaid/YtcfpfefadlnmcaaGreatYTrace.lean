/- Part of the proof. No condition. -/
import Derived.Test.YtcfpfefadlnmcaaGreatYStep
namespace Go.Mach
theorem UA (acc:Array Nat)(j:Nat):∀ (l:List Edge) (s:Nat),
 (l.foldl (fun s e=>if Region.binds .any e then s ||| 2 ^ e.on ||| acc.getD e.on 0 else s) s).testBit j=true ->
 s.testBit j=true\/∃ e∈l,Region.binds .any e=true/\(e.on=j\/(acc.getD e.on 0).testBit j=true)
 | [],s,h => .inl h
 | e::l,s,h=>by
   rw[List.foldl_cons]at h
   rcases UA acc j l _ h with h|⟨e',he',h'⟩
   ·split at h
    ·rename_i hb
     simp only[Nat.testBit_or,cG,Nat.testBit_two_pow,aT]at h
     rcases h with(h|h)|h
     ·exact .inl h
     ·exact .inr ⟨e,jO ..,hb,.inl h⟩
     ·exact .inr ⟨e,jO ..,hb,.inr h⟩
    ·exact .inl h
   ·exact .inr ⟨e',lY _ he',h'⟩
theorem aED {acc:Array Nat}{o:Oper}{j:Nat}(h:(P3 acc o).testBit j=true) :
 ∃ e∈o.after.toList,Region.binds .any e=true/\(e.on=j\/(acc.getD e.on 0).testBit j=true):=by
 rcases UA acc j _ 0 h with h|h
 ·simp at h
 ·exact h
theorem UJ:∀ (l:List Oper) (acc:Array Nat),
 (∀ i,i<acc.size->(cY l acc).getD i 0=acc.getD i 0) /\
 ∀ k o,l[k]? = some o->∃ acc':Array Nat,acc'.size=acc.size+k/\(∀ i,i<acc'.size->acc'.getD i 0=(cY l acc).getD i 0)/\(cY l acc).getD (acc.size+k) 0=P3 acc' o
 | [],acc=>⟨fun _ _=>rfl,fun k o h=>by simp at h⟩
 | o::l,acc=>by
   obtain⟨h1,h2⟩:=UJ l (acc.push (P3 acc o))
   simp only[Array.size_push]at h1 h2
   have hpush:∀ i,i<acc.size->(acc.push (P3 acc o)).getD i 0=acc.getD i 0:=fun i hi=>by
    simp only[C1,Array.getElem?_push,aA (Nat.ne_of_lt hi)]
   refine⟨fun i hi=>by rw[cY,h1 i (by omega),hpush i hi],fun k p hk => ?_⟩
   cases k with
   | zero =>
     simp at hk;subst hk
     refine⟨acc,by simp,fun i hi => ?_,?_⟩
     ·rw[cY,h1 i (by omega),hpush i hi]
     ·rw[cY,h1 _ (by simp),Nat.add_zero]
      simp[C1]
   | succ k =>
     obtain⟨acc',g1,g2,g3⟩:=h2 k p (by simpa using hk)
     exact⟨acc',by omega,fun i hi=>by rw[g2 i hi,cY],by rw[cY,show acc.size+(k+1)=acc.size+1+k by omega];exact g3⟩
theorem S1 {ops:Array Oper}{i j:Nat}{o:Oper}(ho:ops[i]? = some o)(h:((cY ops.toList #[]).getD i 0).testBit j=true) :
 ∃ e∈o.after.toList,Region.binds .any e=true/\(e.on=j\/(e.on<i/\((cY ops.toList #[]).getD e.on 0).testBit j=true)):=by
 obtain⟨acc,h1,h2,h3⟩:=(UJ ops.toList #[]).2 i o (by simpa using ho)
 simp only[List.size_toArray,List.length_nil,tA]at h1 h3
 rw[h3]at h
 obtain⟨e,he,hb,h⟩:=aED h
 refine⟨e,he,hb,?_⟩
 rcases h with h|h
 ·exact .inl h
 ·right
  by_cases hi:e.on<i
  ·exact⟨hi,by rw[<- h2 e.on (by omega)];exact h⟩
  ·rw[C1,Array.getElem?_eq_none (by omega)]at h
   simp at h
theorem aF8 {P:Program}{call:nS}{fl:Nat}{ops:Array Oper}{b:Array Nat}:∀ (l:List Oper) (i:Nat) (t t':aJ) (H H':aE),oT P call fl ops b i l t H=some (t',H') ->
 ∃ (T:Nat->aJ) (HH:Nat->aE),T i=t/\HH i=H/\T (i+l.length)=t'/\HH (i+l.length)=H' /\
   ∀ k o,l[k]? = some o->o8 P call fl (if cL o.op==4&&lQ ops b (i+k)then fl else(HH (i+k)).length) ops o (T (i+k)) (HH (i+k))=some (T (i+k+1),HH (i+k+1))
 | [],i,t,t',H,H',h=>by
   cases h
   exact⟨fun _=>t,fun _=>H,rfl,rfl,rfl,rfl,fun k o h=>by simp at h⟩
 | o::l,i,t,t',H,H',h=>by
   simp only[oT]at h
   split at h
   ·rename_i t1 H1 hs
    obtain⟨T,HH,h1,h2,h3,h4,h5⟩:=aF8 l (i+1) _ _ _ _ h
    refine⟨fun k=>if k=i then t else T k,fun k=>if k=i then H else HH k,by simp,by simp,?_,?_,fun k p hk => ?_⟩
    ·simp only[List.length_cons,aA (show ¬ i+(l.length+1)=i by omega)]
     rw[<- h3];congr 1;omega
    ·simp only[List.length_cons,aA (show ¬ i+(l.length+1)=i by omega)]
     rw[<- h4];congr 1;omega
    ·cases k with
     | zero =>
       simp at hk;subst hk
       simp only[Nat.add_zero,bS,aA (show ¬ i+1=i by omega),h1,h2]
       exact hs
     | succ k =>
       simp only[aA (show ¬ i+(k+1)=i by omega),aA (show ¬ i+(k+1)+1=i by omega)]
       have:=h5 k p (by simpa using hk)
       rw[show i+1+k=i+(k+1) by omega]at this
       exact this
   ·cases h
theorem O7 {op:Op}{ev ev':Operand->Value}(h:∀ x∈op.operands,ev x=ev' x):pI op ev=pI op ev':=by
 unfold pI
 cases op <;> try rfl
 case load t a=>simp only[h a (by simp[Op.operands])]
 case store t a x=>simp only[h a (by simp[Op.operands])]
 case convert s d x=>simp only[h x (by simp[Op.operands])]
 case call c =>
  have:c.args.map ev=c.args.map ev':=aFe fun x hx=>h x (by simp[Op.operands,Call.operands,hx])
  simp only[this]
theorem RV {op:Op}{ev ev':Operand->Value}(h:∀ x∈op.operands,ev x=ev' x):xY op ev=xY op ev':=by
 unfold xY
 cases op <;> try rfl
 case store t a x=>simp only[h a (by simp[Op.operands])]
 case call c =>
  have:c.args.map ev=c.args.map ev':=aFe fun x hx=>h x (by simp[Op.operands,Call.operands,hx])
  simp only[this]
theorem aH8 {op:Op}{ev:Operand->Value}{id:Nat}(h:id∈xY op ev):cL op=3:=by
 unfold xY at h
 cases op <;> try (cases h;done)
 case store t a x=>rfl
 case call c =>
  obtain⟨cal,args,ats⟩:=c
  cases cal with
  | builtin b=>cases b <;> first|rfl|(cases h;done)
  | _=>cases h
theorem aEs {op:Op}{ev:Operand->Value}{id:Nat}(h:id∈pI op ev):cL op=2\/cL op=3:=by
 unfold pI at h
 cases op <;> try (cases h;done)
 case load t a=>exact .inl rfl
 case store t a x=>exact .inr rfl
 case convert s d x=>exact .inl rfl
 case call c =>
  obtain⟨cal,args,ats⟩:=c
  cases cal with
  | builtin b=>cases b <;> first|exact .inr rfl|(cases h;done)
  | _=>cases h
theorem aKK {op:Op}{ev:Operand->Value}{id:Nat}(h:id∈xY op ev):id∈pI op ev:=by
 unfold xY at h
 unfold pI
 cases op <;> try (cases h;done)
 case store t a x=>exact h
 case call c =>
  obtain⟨cal,args,ats⟩:=c
  cases cal with
  | builtin b =>
    cases b <;> first
     | (cases h;done)
     | (simp only at h⊢
        cases hx:(args.map ev)[0]? with
        | none=>simp[hx]at h
        | some x =>
          simp only[hx,Option.elim]at h
          exact List.mem_flatMap.2 ⟨x,sR (i:=0) (by rw[yC];exact hx),h⟩)
  | _=>cases h
theorem X9 {l:List Nat}(hn:l.Nodup){p:Nat->Bool}{i:Nat}(hi:i∈l)(hp:p i=true) :
 (l.filter p).length=(l.filter fun x=>p x&&x != i).length+1:=by
 induction l with
 | nil=>cases hi
 | cons x l ih =>
   rw[List.nodup_cons]at hn
   by_cases hx:x=i
   ·subst hx
    have h1:l.filter (fun y=>p y&&y != x)=l.filter p:=List.filter_congr fun y hy=>by
     have:y≠x:=fun e=>hn.1 (e▸hy)
     simp[this]
    simp[hp,h1]
   ·have hil:i∈l:=by
     rcases List.mem_cons.1 hi with h|h
     ·exact absurd h.symm hx
     ·exact h
    have:=ih hn.2 hil
    cases hpx:p x <;> simp[hpx,hx,this]
end Go.Mach
