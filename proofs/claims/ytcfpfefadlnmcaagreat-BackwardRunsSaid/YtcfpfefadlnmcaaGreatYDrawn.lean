/- Part of the proof. No condition. -/
import Derived.Test.YtcfpfefadlnmcaaGreatYTrace
namespace Go.Mach
structure Drawn (P:Program)(call:nS)(base:Nat)(w0:World)(fl n:Nat)(ops:Array Oper)(b:Array Nat)(T:Nat->aJ)(HH:Nat->aE):Prop where
 hb:b=cY ops.toList #[]
 hbf:base<=fl
 hfl:fl<=(HH 0).length
 hcs:kW base w0 P call
 hck:jB call
 hok:∀ (i:Nat) (o:Oper),ops[i]? = some o->tH n ops o=true
 hdraw:GK ops b=true
 hlast:(n6 ops b).all (fun p=>wT ops p.1&&wT ops p.2)=true
 hclash:(n6 ops b).all (nW ops (T ops.size))=true
 step:∀ (k:Nat) (o:Oper),ops[k]? = some o->o8 P call fl (if cL o.op==4&&lQ ops b k then fl else(HH k).length) ops o (T k) (HH k)=some (T (k+1),HH (k+1))
section
variable {P:Program} {call:nS} {base fl n:Nat} {w0:World} {ops:Array Oper} {b:Array Nat} {T:Nat->aJ} {HH:Nat->aE}
def Bef (b:Array Nat)(j i:Nat):Prop:=(b.getD j 0).testBit i=true
def Cmp (b:Array Nat)(i j:Nat):Prop:=(i<j->Bef b j i)/\(j<i->Bef b i j)
theorem Cmp.symm {b:Array Nat}{i j:Nat}(h:Cmp b i j):Cmp b j i:=⟨h.2,h.1⟩
def MT (fl:Nat)(ops:Array Oper)(b:Array Nat)(T:Nat->aJ)(HH:Nat->aE)(j id:Nat):Prop :=
 id<(HH j).length/\∃ o,ops[j]? = some o/\((id∈xY o.op (eval (T j))/\fl<=id)\/(cL o.op=4/\lQ ops b j=true/\fl<=id))
theorem nH {ops:Array Oper}{i:Nat}{o:Oper}(h:ops[i]? = some o):i<ops.size:=(Array.getElem?_eq_some_iff.1 h).1
theorem Drawn.len1 (D:Drawn P call base w0 fl n ops b T HH){k:Nat}(hk:k<ops.size):(HH k).length<=(HH (k+1)).length:=by
 have hs:=D.step k ops[k] (FZ hk)
 exact(DF D.hck (by split <;> first|exact .inl (aR _)|exact .inr (aR _)) hs).len
theorem Drawn.lens (D:Drawn P call base w0 fl n ops b T HH):∀ {k:Nat},k<=ops.size->fl<=(HH k).length
 | 0,_=>D.hfl
 | k+1,hk=>jH (D.lens (k:=k) (by omega)) (D.len1 (by omega))
theorem Drawn.len (D:Drawn P call base w0 fl n ops b T HH){i:Nat}:∀ {k:Nat},i<=k->k<=ops.size->(HH i).length<=(HH k).length
 | 0,h,_=>by
   have:i=0:=by omega
   subst this;exact aR _
 | k+1,h,hk=>by
   by_cases he:i=k+1
   ·subst he;exact aR _
   ·exact jH (D.len (k:=k) (by omega) (by omega)) (D.len1 (by omega))
theorem Drawn.keep1 (D:Drawn P call base w0 fl n ops b T HH){k id:Nat}(hk:k<ops.size)(hid:id<(HH k).length)(hw : ¬ MT fl ops b T HH k id):(HH (k+1))[id]? = (HH k)[id]? := by
 have ho:=FZ hk
 have hs:=D.step k ops[k] ho
 refine(FV D.hck hs).1.keep id hid ?_
 rintro(⟨h1,h2⟩|⟨h1,h2⟩)
 ·exact hw ⟨hid,_,ho,.inl ⟨h1,h2⟩⟩
 ·split at h2
  ·rename_i hc
   simp only[aI]at hc
   exact hw ⟨hid,_,ho,.inr ⟨h1,hc.2,h2⟩⟩
  ·omega
theorem Drawn.keep (D:Drawn P call base w0 fl n ops b T HH){i id:Nat}:∀ {k:Nat},i<=k->k<=ops.size->id<(HH i).length->(∀ j,i<=j->j<k -> ¬ MT fl ops b T HH j id)->(HH k)[id]? = (HH i)[id]?
 | 0,h,_,_,_=>by
   have:i=0:=by omega
   subst this;rfl
 | k+1,h,hk,hid,hw=>by
   by_cases he:i=k+1
   ·subst he;rfl
   ·rw[D.keep1 (by omega) (oW hid (D.len (by omega) (by omega))) (hw k (by omega) (by omega))]
    exact D.keep (k:=k) (by omega) (by omega) hid fun j h1 h2=>hw j h1 (by omega)
theorem Drawn.stat (D:Drawn P call base w0 fl n ops b T HH){i id:Nat}{B:Blk}(hB:(HH i)[id]? = some B):∀ {k:Nat},i<=k->k<=ops.size ->
 ∃ B',(HH k)[id]? = some B'/\B'.cells.length=B.cells.length/\B'.exact=B.exact/\B'.es=B.es/\(B'.alive=true->B.alive=true)
 | 0,h,_=>by
   have:i=0:=by omega
   subst this;exact⟨B,hB,rfl,rfl,rfl,fun h=>h⟩
 | k+1,h,hk=>by
   by_cases he:i=k+1
   ·subst he;exact⟨B,hB,rfl,rfl,rfl,fun h=>h⟩
   ·obtain⟨B1,h1,a1,a2,a3,a4⟩:=D.stat hB (k:=k) (by omega) (by omega)
    have hs:=D.step k ops[k] (FZ (by omega))
    obtain⟨B2,h2,c1,c2,c3,c4⟩:=(FV D.hck hs).1.stat id B1 h1
    exact⟨B2,h2,c1.trans a1,c2.trans a2,c3.trans a3,fun x=>a4 (c4 x)⟩
theorem Drawn.tmp1 (D:Drawn P call base w0 fl n ops b T HH){k:Nat}{o:Oper}(ho:ops[k]? = some o){d:Nat}(hd:o.dst≠some d):T (k+1) d=T k d:=by
 obtain⟨v,hv⟩:=(FV D.hck (D.step k o ho)).2
 rw[hv]
 unfold C6
 cases hdst:o.dst with
 | none=>rfl
 | some e=>exact L4 _ _ _ _ fun he=>hd (by rw[hdst,he])
theorem Drawn.tmp (D:Drawn P call base w0 fl n ops b T HH){i d:Nat}:∀ {k:Nat},i<=k->k<=ops.size->(∀ j o,i<=j->j<k->ops[j]? = some o->o.dst≠some d)->T k d=T i d
 | 0,h,_,_=>by
   have:i=0:=by omega
   subst this;rfl
 | k+1,h,hk,hw=>by
   by_cases he:i=k+1
   ·subst he;rfl
   ·rw[D.tmp1 (FZ (show k<ops.size by omega)) (hw k _ (by omega) (by omega) (FZ (by omega)))]
    exact D.tmp (k:=k) (by omega) (by omega) fun j o h1 h2=>hw j o h1 (by omega)
theorem Drawn.pair (D:Drawn P call base w0 fl n ops b T HH){i j:Nat}{oi oj:Oper}(hi:ops[i]? = some oi)(hj:ops[j]? = some oj)(hlt:i<j) :
 Bef b j i\/(BM ops oi oj=false /\ ¬ (cL oi.op=4/\cL oj.op=3) /\ ¬ (cL oi.op=3/\cL oj.op=4)):=by
 have:=D.hdraw
 simp only[GK,aI,jG,KL]at this
 have:=this.2 j (nH hj) i hlt
 simp only[hi,hj,cG,aI,nJ,JH,beq_eq_false_iff_ne,ne_eq]at this
 rcases this with h|⟨⟨h1,h2⟩,h3⟩
 ·exact .inl h
 ·exact .inr ⟨h1,by omega,by omega⟩
theorem aBf (ops:Array Oper)(x y:Oper)(h:BM ops x y=false):BM ops y x=false:=by
 unfold BM at h⊢
 cases hx:x.dst with
 | none =>
   cases hy:y.dst with
   | none=>rfl
   | some e =>
     simp only[hx,hy,dP]at h⊢
     exact⟨⟨h.2,by simp⟩,trivial⟩
 | some d =>
   cases hy:y.dst with
   | none =>
     simp only[hx,hy,dP]at h⊢
     exact⟨trivial,h.1.1⟩
   | some e =>
     simp only[hx,hy,dP]at h⊢
     refine⟨⟨h.2,?_⟩,h.1.1⟩
     have:=h.1.2
     simp only[beq_eq_false_iff_ne,ne_eq,iJ]at this⊢
     exact fun he=>this he.symm
theorem Drawn.cmp_tmp (D:Drawn P call base w0 fl n ops b T HH){i j:Nat}{oi oj:Oper}(hi:ops[i]? = some oi)(hj:ops[j]? = some oj)(h:BM ops oi oj=true):Cmp b i j:=by
 refine⟨fun hlt => ?_,fun hlt => ?_⟩
 ·rcases D.pair hi hj hlt with h1|⟨h1,_⟩
  ·exact h1
  ·rw[h]at h1;cases h1
 ·rcases D.pair hj hi hlt with h1|⟨h1,_⟩
  ·exact h1
  ·have:=aBf _ _ _ h1
   rw[h]at this;cases this
theorem Drawn.cmp_call (D:Drawn P call base w0 fl n ops b T HH){i j:Nat}{oi oj:Oper}(hi:ops[i]? = some oi)(hj:ops[j]? = some oj)(h:cL oi.op=4)(h':cL oj.op=3):Cmp b i j:=by
 refine⟨fun hlt => ?_,fun hlt => ?_⟩
 ·rcases D.pair hi hj hlt with h1|⟨_,h1,_⟩
  ·exact h1
  ·exact absurd ⟨h,h'⟩ h1
 ·rcases D.pair hj hi hlt with h1|⟨_,_,h1⟩
  ·exact h1
  ·exact absurd ⟨h',h⟩ h1
theorem Drawn.bef_lt (D:Drawn P call base w0 fl n ops b T HH):∀ {j i:Nat},j<ops.size->Bef b j i->i<j:=by
 intro j
 induction j using Nat.strongRecOn with
 | _ j ih =>
   intro i hj h
   have ho:=FZ hj
   unfold Bef at h
   rw[D.hb]at h
   obtain⟨e,he,hbd,h⟩:=S1 ho h
   have hedge:e.on<j:=by
    have:=D.hdraw
    simp only[GK,aI]at this
    have:=this.1
    simp only[aE1,jG,KL]at this
    have:=this j hj
    simp only[ho,Option.map_some,Option.getD_some,jG]at this
    have:=this e he
    simpa [hbd] using this
   rcases h with h|⟨h1,h2⟩
   ·omega
   ·have:=ih e.on h1 (by omega) (by unfold Bef;rw[D.hb];exact h2)
    omega
theorem Drawn.cmp_apart (D:Drawn P call base w0 fl n ops b T HH){i j:Nat}{oj:Oper}(hi:i<ops.size)(hj:ops[j]? = some oj)(hne:j≠i)(hk:cL oj.op≠0)(hk1:cL oj.op=1->j<i)(h:lQ ops b i=true):Cmp b i j:=by
 simp only[lQ,jG,KL]at h
 have:=h j (nH hj)
 simp only[hj,Option.map_some,Option.getD_some,cG,aI,dS,aT]at this
 rcases this with((h1|h1|h1)|h1)|h1
 ·exact absurd h1 hne
 ·exact absurd h1 hk
 ·have:=hk1 h1.1;omega
 ·have:=D.bef_lt hi h1
  exact⟨fun h=>by omega,fun _=>h1⟩
 ·have:=D.bef_lt (nH hj) h1
  exact⟨fun _=>h1,fun h=>by omega⟩
theorem Drawn.last_eval (D:Drawn P call base w0 fl n ops b T HH){i:Nat}{o:Oper}(ho:ops[i]? = some o)(hl:wT ops i=true){x:Operand}(hx:x∈o.op.operands) :
 eval (T ops.size) x=eval (T i) x:=by
 cases x with
 | tmp d =>
   have hd:d∈aGd o.op:=List.mem_filterMap.2 ⟨.tmp d,by simpa using hx,rfl⟩
   refine D.tmp (tN (nH ho)) (aR _) fun j p h1 h2 hp he => ?_
   unfold wT at hl
   simp only[ho,jG,KL]at hl
   have:=hl j (nH hp)
   simp only[hp,he,Option.map_some,Option.getD_some,cG,aT,nJ,List.contains_eq_mem,eZ]at this
   rcases this with h|h
   ·omega
   ·exact h hd
 | _=>rfl
theorem Drawn.apart (D:Drawn P call base w0 fl n ops b T HH){i j:Nat}{oi oj:Oper}(hi:ops[i]? = some oi)(hj:ops[j]? = some oj){id:Nat}
 (h1:id∈pI oi.op (eval (T i))) (h2:id∈xY oj.op (eval (T j))):Cmp b i j:=by
 have k2:=aH8 h2
 have k1:=aEs h1
 have main:∀ {i j:Nat} {oi oj:Oper},ops[i]? = some oi->ops[j]? = some oj->i<j -> ¬ Bef b j i->(cL oi.op=3/\(cL oj.op=2\/cL oj.op=3))\/(cL oj.op=3/\cL oi.op=2) ->
  (∀ id,id∈xY oi.op (eval (T i))->id∈pI oj.op (eval (T j))->False)/\(∀ id,id∈pI oi.op (eval (T i))->id∈xY oj.op (eval (T j))->False):=by
  intro i j oi oj hi hj hlt hnb hk
  have hmem:(i,j)∈n6 ops b:=by
   unfold n6
   refine List.mem_flatMap.2 ⟨j,List.mem_range.2 (nH hj),List.mem_map.2 ⟨i,List.mem_filter.2 ⟨List.mem_range.2 hlt,?_⟩,rfl⟩⟩
   simp only[hi,hj,aI,nJ,cG,dS]
   exact⟨by simpa [Bef] using hnb,hk⟩
  have hl:=List.all_eq_true.1 D.hlast _ hmem
  have hc:=List.all_eq_true.1 D.hclash _ hmem
  simp only[aI]at hl
  simp only[nW,hi,hj,aI]at hc
  rw[RV (op:=oi.op) fun x hx=>D.last_eval hi hl.1 hx,O7 (op:=oj.op) fun x hx=>D.last_eval hj hl.2 hx,
   O7 (op:=oi.op) fun x hx=>D.last_eval hi hl.1 hx,RV (op:=oj.op) fun x hx=>D.last_eval hj hl.2 hx]at hc
  simp only[SG,jG,nZ,ne_eq]at hc
  exact⟨fun id a c=>hc.1 id a id c rfl,fun id a c=>hc.2 id a id c rfl⟩
 refine⟨fun hlt => ?_,fun hlt => ?_⟩
 ·by_cases hb:Bef b j i
  ·exact hb
  ·exact((main hi hj hlt hb (by rcases k1 with k|k;· exact .inr ⟨k2,k⟩
                                ·exact .inl ⟨k,.inr k2⟩)).2 id h1 h2).elim
 ·by_cases hb:Bef b i j
  ·exact hb
  ·exact((main hj hi hlt hb (.inl ⟨k2,k1⟩)).1 id h2 h1).elim
theorem Drawn.cmp_wrote (D:Drawn P call base w0 fl n ops b T HH){i j:Nat}{oi:Oper}(hi:ops[i]? = some oi)(hne:i≠j){id:Nat}
 (h1:id∈pI oi.op (eval (T i))\/cL oi.op=4) (h2:MT fl ops b T HH j id):Cmp b i j:=by
 obtain⟨_,oj,hj,h2|⟨hk,ha,_⟩⟩:=h2
 ·rcases h1 with h1|h1
  ·exact D.apart hi hj h1 h2.1
  ·exact D.cmp_call hi hj h1 (aH8 h2.1)
 ·have hk':cL oi.op≠0/\cL oi.op≠1:=by
   rcases h1 with h1|h1
   ·rcases aEs h1 with h|h <;> omega
   ·omega
  exact(D.cmp_apart (nH hj) hi hne hk'.1 (fun e=>absurd e hk'.2) ha).symm
end
end Go.Mach
