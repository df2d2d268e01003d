/- Part of the proof. No condition. -/
import Derived.Test.YtpigepmgheabhaaGreatDoorYLock
namespace Go.Mach
theorem B5 (acc:Array Nat)(j:Nat):∀ (l:List Edge) (s:Nat),
 (l.foldl (fun s e=>if Region.binds .any e then s ||| 2 ^ e.on ||| acc.getD e.on 0 else s) s).testBit j=true ->
 s.testBit j=true\/∃ e∈l,Region.binds .any e=true/\(e.on=j\/(acc.getD e.on 0).testBit j=true)
 | [],s,h => .inl h
 | e::l,s,h=>by
   rw[List.foldl_cons]at h
   rcases B5 acc j l _ h with h|⟨e',he',h'⟩
   ·split at h
    ·rename_i hb
     simp only[Nat.testBit_or,iX,Nat.testBit_two_pow,cK]at h
     rcases h with(h|h)|h
     ·exact .inl h
     ·exact .inr ⟨e,cN ..,hb,.inl h⟩
     ·exact .inr ⟨e,cN ..,hb,.inr h⟩
    ·exact .inl h
   ·exact .inr ⟨e',dA _ he',h'⟩
theorem P0 {acc:Array Nat}{o:Oper}{j:Nat}(h:(vV acc o).testBit j=true) :
 ∃ e∈o.after.toList,Region.binds .any e=true/\(e.on=j\/(acc.getD e.on 0).testBit j=true):=by
 rcases B5 acc j _ 0 h with h|h
 ·simp at h
 ·exact h
theorem DH:∀ (l:List Oper) (acc:Array Nat),
 (∀ i,i<acc.size->(aI l acc).getD i 0=acc.getD i 0) /\
 ∀ k o,l[k]? = some o->∃ acc':Array Nat,acc'.size=acc.size+k/\(∀ i,i<acc'.size->acc'.getD i 0=(aI l acc).getD i 0)/\(aI l acc).getD (acc.size+k) 0=vV acc' o
 | [],acc=>⟨fun _ _=>rfl,fun k o h=>by simp at h⟩
 | o::l,acc=>by
   obtain⟨h1,h2⟩:=DH l (acc.push (vV acc o))
   simp only[Array.size_push]at h1 h2
   have hpush:∀ i,i<acc.size->(acc.push (vV acc o)).getD i 0=acc.getD i 0:=fun i hi=>by
    simp only[nT,Array.getElem?_push,aC (Nat.ne_of_lt hi)]
   refine⟨fun i hi=>by rw[aI,h1 i (by omega),hpush i hi],fun k p hk => ?_⟩
   cases k with
   | zero =>
     simp at hk;subst hk
     refine⟨acc,by simp,fun i hi => ?_,?_⟩
     ·rw[aI,h1 i (by omega),hpush i hi]
     ·rw[aI,h1 _ (by simp),Nat.add_zero]
      simp[nT]
   | succ k =>
     obtain⟨acc',g1,g2,g3⟩:=h2 k p (by simpa using hk)
     exact⟨acc',by omega,fun i hi=>by rw[g2 i hi,aI],by rw[aI,show acc.size+(k+1)=acc.size+1+k by omega];exact g3⟩
theorem A7 {ops:Array Oper}{i j:Nat}{o:Oper}(ho:ops[i]? = some o)(h:((aI ops.toList #[]).getD i 0).testBit j=true) :
 ∃ e∈o.after.toList,Region.binds .any e=true/\(e.on=j\/(e.on<i/\((aI ops.toList #[]).getD e.on 0).testBit j=true)):=by
 obtain⟨acc,h1,h2,h3⟩:=(DH ops.toList #[]).2 i o (by simpa using ho)
 simp only[List.size_toArray,List.length_nil,e9]at h1 h3
 rw[h3]at h
 obtain⟨e,he,hb,h⟩:=P0 h
 refine⟨e,he,hb,?_⟩
 rcases h with h|h
 ·exact .inl h
 ·right
  by_cases hi:e.on<i
  ·exact⟨hi,by rw[<- h2 e.on (by omega)];exact h⟩
  ·rw[nT,Array.getElem?_eq_none (by omega)]at h
   simp at h
theorem RV {P:Program}{call:aQ}{fl:Nat}{ops:Array Oper}{b:Array Nat}:∀ (l:List Oper) (i:Nat) (t t':aE) (H H':aD),eB P call fl ops b i l t H=some (t',H') ->
 ∃ (T:Nat->aE) (HH:Nat->aD),T i=t/\HH i=H/\T (i+l.length)=t'/\HH (i+l.length)=H' /\
   ∀ k o,l[k]? = some o->cF P call fl (if aK o.op==4&&bH ops b (i+k)then fl else(HH (i+k)).length) ops o (T (i+k)) (HH (i+k))=some (T (i+k+1),HH (i+k+1))
 | [],i,t,t',H,H',h=>by
   cases h
   exact⟨fun _=>t,fun _=>H,rfl,rfl,rfl,rfl,fun k o h=>by simp at h⟩
 | o::l,i,t,t',H,H',h=>by
   simp only[eB]at h
   split at h
   ·rename_i t1 H1 hs
    obtain⟨T,HH,h1,h2,h3,h4,h5⟩:=RV l (i+1) _ _ _ _ h
    refine⟨fun k=>if k=i then t else T k,fun k=>if k=i then H else HH k,by simp,by simp,?_,?_,fun k p hk => ?_⟩
    ·simp only[List.length_cons,aC (show ¬ i+(l.length+1)=i by omega)]
     rw[<- h3];congr 1;omega
    ·simp only[List.length_cons,aC (show ¬ i+(l.length+1)=i by omega)]
     rw[<- h4];congr 1;omega
    ·cases k with
     | zero =>
       simp at hk;subst hk
       simp only[Nat.add_zero,aO,aC (show ¬ i+1=i by omega),h1,h2]
       exact hs
     | succ k =>
       simp only[aC (show ¬ i+(k+1)=i by omega),aC (show ¬ i+(k+1)+1=i by omega)]
       have:=h5 k p (by simpa using hk)
       rw[show i+1+k=i+(k+1) by omega]at this
       exact this
   ·cases h
theorem mE {op:Op}{ev ev':Operand->Value}(h:∀ x∈op.operands,ev x=ev' x):cI op ev=cI op ev':=by
 unfold cI
 cases op <;> try rfl
 case load t a=>simp only[h a (by simp[Op.operands])]
 case store t a x=>simp only[h a (by simp[Op.operands])]
 case convert s d x=>simp only[h x (by simp[Op.operands])]
 case call c =>
  have:c.args.map ev=c.args.map ev':=TX fun x hx=>h x (by simp[Op.operands,Call.operands,hx])
  simp only[this]
theorem uV {op:Op}{ev ev':Operand->Value}(h:∀ x∈op.operands,ev x=ev' x):j0 op ev=j0 op ev':=by
 unfold j0
 cases op <;> try rfl
 case store t a x=>simp only[h a (by simp[Op.operands])]
 case convert s d x=>simp only[h x (by simp[Op.operands])]
 case call c =>
  have:c.args.map ev=c.args.map ev':=TX fun x hx=>h x (by simp[Op.operands,Call.operands,hx])
  simp only[this]
theorem XB {op:Op}{ev:Operand->Value}{id:Nat}(h:id∈j0 op ev):aK op=3:=by
 unfold j0 at h
 cases op <;> try (cases h;done)
 case store t a x=>rfl
 case convert s d x =>
  simp only at h
  split at h
  ·rename_i hs;simp only[aK,hs,aO]
  ·cases h
 case call c =>
  obtain⟨cal,args,ats⟩:=c
  cases cal with
  | builtin b=>cases b <;> first|rfl|(cases h;done)
  | _=>cases h
theorem CM {op:Op}{ev:Operand->Value}{id:Nat}(h:id∈cI op ev):aK op=2\/aK op=3:=by
 unfold cI at h
 cases op <;> try (cases h;done)
 case load t a=>exact .inl rfl
 case store t a x=>exact .inr rfl
 case convert s d x =>
  by_cases hs:s=d
  ·exact .inr (by simp only[aK,hs,aO])
  ·exact .inl (by simp only[aK,hs,aS])
 case call c =>
  obtain⟨cal,args,ats⟩:=c
  cases cal with
  | builtin b=>cases b <;> first|exact .inr rfl|(cases h;done)
  | _=>cases h
theorem aAt {op:Op}{ev:Operand->Value}{id:Nat}(h:id∈j0 op ev):id∈cI op ev:=by
 unfold j0 at h
 unfold cI
 cases op <;> try (cases h;done)
 case store t a x=>exact h
 case convert s d x =>
  simp only at h
  split at h
  ·exact h
  ·cases h
 case call c =>
  obtain⟨cal,args,ats⟩:=c
  cases cal with
  | builtin b =>
    cases b <;> first
     | (cases h;done)
     | (simp only at h⊢
        cases hx:(args.map ev)[0]? with
        | none=>simp[hx]at h
        | some x =>
          simp only[hx,Option.elim]at h
          exact List.mem_flatMap.2 ⟨x,fW (i:=0) (by rw[nF];exact hx),h⟩)
  | _=>cases h
theorem GS {l:List Nat}(hn:l.Nodup){p:Nat->Bool}{i:Nat}(hi:i∈l)(hp:p i=true) :
 (l.filter p).length=(l.filter fun x=>p x&&x != i).length+1:=by
 induction l with
 | nil=>cases hi
 | cons x l ih =>
   rw[List.nodup_cons]at hn
   by_cases hx:x=i
   ·subst hx
    have h1:l.filter (fun y=>p y&&y != x)=l.filter p:=List.filter_congr fun y hy=>by
     have:y≠x:=fun e=>hn.1 (e▸hy)
     simp[this]
    simp[hp,h1]
   ·have hil:i∈l:=by
     rcases List.mem_cons.1 hi with h|h
     ·exact absurd h.symm hx
     ·exact h
    have:=ih hn.2 hil
    cases hpx:p x <;> simp[hpx,hx,this]
theorem MV {P:Program}{call:aQ}{fl:Nat}{ops:Array Oper}{b:Array Nat}:∀ (l:List Oper) (i:Nat) (X:List Nat) (Z:List (Nat×List Nat)) (t t':aE) (H H':aD),i<=ops.size->(∀ k,l[k]? = ops[i+k]?) ->
 fL P call fl ops b i X Z l t H=some (t',H') ->
 ∃ (T:Nat->aE) (HH:Nat->aD) (XX:Nat->List Nat),T i=t/\HH i=H/\XX i=X/\T ops.size=t'/\HH ops.size=H' /\
   (∀ j o,i<=j->ops[j]? = some o->cF P (if eH ops b j o then cM call (XX j)else call) fl (if aK o.op==4&&(bH ops b j||qS ops b j o)then fl else(HH j).length) ops o (T j) (HH j)=some (T (j+1),HH (j+1))) /\
   (∀ j o,i<=j->ops[j]? = some o->nL o.op=true->∀ m,j<m->m<=ops.size->∀ id∈cI o.op (eval (T j)),id∈XX m) /\
   (∀ m,i<=m->m<=ops.size->∀ id∈X,id∈XX m) /\
   (∀ z∈Z,∀ j o,i<=j->ops[j]? = some o->(b.getD j 0).testBit z.1=true\/∀ id∈cI o.op (eval (T j)),id∈z.2) /\
   (∀ j o j' o',i<=j->ops[j]? = some o->ops[j']? = some o'->j<j'->eH ops b j o=true->(b.getD j' 0).testBit j=true\/∀ id∈cI o'.op (eval (T j')),id∈XX j)
 | [],i,X,Z,t,t',H,H',hi,hl,h=>by
   cases h
   have hn:∀ j,i<=j->ops[j]? = none:=fun j hj=>by
    have:=hl (j-i)
    rw[show i+(j-i)=j from by omega]at this
    rw[<- this]
    rfl
   have he:ops.size=i:=by
    have:=hn i (aF _)
    rw[Array.getElem?_eq_none_iff]at this
    omega
   refine⟨fun _=>t,fun _=>H,fun _=>X,rfl,rfl,rfl,rfl,rfl,fun j o h1 h2 => ?_,fun j o h1 h2 => ?_,fun _ _ _ _ h=>h,fun z _ j o h1 h2 => ?_,fun j o _ _ h1 h2 => ?_⟩ <;> (rw[hn _ h1]at h2;cases h2)
 | o::l,i,X,Z,t,t',H,H',hi,hl,h=>by
   have ho:ops[i]? = some o:=(hl 0).symm
   have hlt:i<ops.size:=(Array.getElem?_eq_some_iff.1 ho).1
   simp only[fL]at h
   split at h
   case isFalse=>cases h
   rename_i hchk
   split at h
   case h_2=>cases h
   rename_i t1 H1 hs
   obtain⟨T1,HH1,XX1,e1,e2,e3,e4,e5,s1,s2,s3,s4,s5⟩:=MV l (i+1) _ _ t1 t' H1 H' hlt (fun k=>by
    have:=hl (k+1)
    rw[show i+1+k=i+(k+1)from by omega,<- this]
    rfl) h
   obtain⟨T,hT0,hT1⟩:∃ T:Nat->aE,T i=t/\∀ j,i<j->T j=T1 j:=⟨fun j=>if j=i then t else T1 j,aA rfl,fun j h=>aC (by omega)⟩
   obtain⟨HH,hH0,hH1⟩:∃ HH:Nat->aD,HH i=H/\∀ j,i<j->HH j=HH1 j:=⟨fun j=>if j=i then H else HH1 j,aA rfl,fun j h=>aC (by omega)⟩
   obtain⟨XX,hX0,hX1⟩:∃ XX:Nat->List Nat,XX i=X/\∀ j,i<j->XX j=XX1 j:=⟨fun j=>if j=i then X else XX1 j,aA rfl,fun j h=>aC (by omega)⟩
   have at_i:∀ {j:Nat} {p:Oper},i<=j->ops[j]? = some p->(j=i/\p=o)\/i+1<=j:=fun {j p} h1 h2=>by
    rcases Nat.eq_or_lt_of_le h1 with h3|h3
    ·subst h3;rw[ho]at h2;cases h2;exact .inl ⟨rfl,rfl⟩
    ·exact .inr h3
   have grown:∀ m,i<m->m<=ops.size->∀ id∈X,id∈XX m:=fun m h1 h2 id hid=>by
    rw[hX1 m h1]
    refine s3 m h1 h2 id ?_
    split
    ·exact gA _ hid
    ·exact hid
   refine⟨T,HH,XX,hT0,hH0,hX0,by rw[hT1 _ hlt];exact e4,by rw[hH1 _ hlt];exact e5,fun j p h1 h2 => ?_,fun j p h1 h2 hld m h3 h4 id hid => ?_,fun m h1 h2 id hid => ?_,fun z hz j p h1 h2 => ?_,fun j p j' p' h1 h2 h3 h4 hsa => ?_⟩
   ·rcases at_i h1 h2 with⟨rfl,rfl⟩|h3
    ·rw[hT0,hH0,hX0,hT1 (j+1) (by omega),hH1 (j+1) (by omega),e1,e2]
     exact hs
    ·rw[hT1 j (by omega),hH1 j (by omega),hX1 j (by omega),hT1 (j+1) (by omega),hH1 (j+1) (by omega)]
     exact s1 j p h3 h2
   ·rcases at_i h1 h2 with⟨rfl,rfl⟩|h5
    ·rw[hT0]at hid
     rw[hX1 m h3]
     refine s3 m h3 h4 id ?_
     rw[aA hld]
     exact lU _ hid
    ·rw[hT1 j (by omega)]at hid
     rw[hX1 m (by omega)]
     exact s2 j p h5 h2 hld m h3 h4 id hid
   ·rcases Nat.eq_or_lt_of_le h1 with h3|h3
    ·subst h3;rw[hX0];exact hid
    ·exact grown m h3 h2 id hid
   ·rcases at_i h1 h2 with⟨rfl,rfl⟩|h3
    ·have:=List.all_eq_true.1 hchk z hz
     rw[iX]at this
     rw[hT0]
     rcases this with h5|h5
     ·exact .inl h5
     ·exact .inr fun id hid=>by simpa using List.all_eq_true.1 h5 id hid
    ·rw[hT1 j (by omega)]
     refine s4 z ?_ j p h3 h2
     split
     ·exact dA _ hz
     ·exact hz
   ·rcases at_i h1 h2 with⟨rfl,rfl⟩|h5
    ·rw[hT1 j' h4,hX0]
     exact s4 (j,X) (by rw[aA hsa];exact cN ..) j' p' h4 h3
    ·rw[hT1 j' (by omega),hX1 j (by omega)]
     exact s5 j p j' p' h5 h2 h3 h4 hsa
end Go.Mach
