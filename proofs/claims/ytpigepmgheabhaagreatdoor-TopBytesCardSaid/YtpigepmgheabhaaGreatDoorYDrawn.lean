/- Part of the proof. No condition. -/
import Derived.Test.YtpigepmgheabhaaGreatDoorYTrace
namespace Go.Mach
def Bef (b:Array Nat)(j i:Nat):Prop:=(b.getD j 0).testBit i=true
def Cmp (b:Array Nat)(i j:Nat):Prop:=(i<j->Bef b j i)/\(j<i->Bef b i j)
theorem Cmp.symm {b:Array Nat}{i j:Nat}(h:Cmp b i j):Cmp b j i:=⟨h.2,h.1⟩
structure Drawn (P:Program)(cl:Nat->aQ)(fc:Nat->Nat)(Pm:Nat->Nat->Prop)(base:Nat)(w0:World)(fl n:Nat)(ops:Array Oper)(b:Array Nat)(T:Nat->aE)(HH:Nat->aD):Prop where
 hb:b=aI ops.toList #[]
 hbf:base<=fl
 hfl:fl<=(HH 0).length
 hcs:∀ k,CallerW base w0 P (fc k) (Pm k) (cl k)
 hck:∀ k,SA (fc k) (Pm k) (cl k)
 hfc:∀ k,k<ops.size->fl<=fc k/\fc k<=(HH k).length
 hpf:∀ k id,Pm k id->fc k<=id
 hperm:∀ (j:Nat) (oj:Oper),ops[j]? = some oj->aK oj.op=4->∀ id,id<(HH j).length->Pm j id ->
  (∀ (i:Nat) (oi:Oper),ops[i]? = some oi->i≠j->(id∈cI oi.op (eval (T i))\/aK oi.op=4)->Cmp b i j) /\
  (∀ (i:Nat) (oi:Oper),ops[i]? = some oi->i<j->(HH i).length<(HH (i+1)).length->Cmp b i j)
 hok:∀ (i:Nat) (o:Oper),ops[i]? = some o->gO n ops o=true
 hdraw:gU ops b=true
 hlast:(b7 ops b).all (fun p=>c7 ops p.1&&c7 ops p.2)=true
 hclash:(b7 ops b).all (dE ops (T ops.size))=true
 step:∀ (k:Nat) (o:Oper),ops[k]? = some o->cF P (cl k) fl (fc k) ops o (T k) (HH k)=some (T (k+1),HH (k+1))
section
variable {P:Program} {cl:Nat->aQ} {fc:Nat->Nat} {Pm:Nat->Nat->Prop} {base fl n:Nat} {w0:World} {ops:Array Oper} {b:Array Nat} {T:Nat->aE} {HH:Nat->aD}
def tL (fl:Nat)(ops:Array Oper)(Pm:Nat->Nat->Prop)(T:Nat->aE)(HH:Nat->aD)(j id:Nat):Prop :=
 id<(HH j).length/\∃ o,ops[j]? = some o/\((id∈j0 o.op (eval (T j))/\fl<=id)\/(aK o.op=4/\Pm j id))
theorem cR {ops:Array Oper}{i:Nat}{o:Oper}(h:ops[i]? = some o):i<ops.size:=(Array.getElem?_eq_some_iff.1 h).1
theorem Drawn.len1 (D:Drawn P cl fc Pm base w0 fl n ops b T HH){k:Nat}(hk:k<ops.size):(HH k).length<=(HH (k+1)).length:=by
 have hs:=D.step k ops[k] (nU hk)
 exact(pY (D.hck k) hs).1.len
theorem Drawn.len (D:Drawn P cl fc Pm base w0 fl n ops b T HH){i:Nat}:∀ {k:Nat},i<=k->k<=ops.size->(HH i).length<=(HH k).length
 | 0,h,_=>by
   have:i=0:=by omega
   subst this;exact aF _
 | k+1,h,hk=>by
   by_cases he:i=k+1
   ·subst he;exact aF _
   ·exact bY (D.len (k:=k) (by omega) (by omega)) (D.len1 (by omega))
theorem Drawn.keep1 (D:Drawn P cl fc Pm base w0 fl n ops b T HH){k id:Nat}(hk:k<ops.size)(hid:id<(HH k).length)(hw : ¬ tL fl ops Pm T HH k id):(HH (k+1))[id]? = (HH k)[id]? := by
 have ho:=nU hk
 have hs:=D.step k ops[k] ho
 refine(pY (D.hck k) hs).1.keep id hid ?_
 rintro(⟨h1,h2⟩|⟨h1,h2⟩)
 ·exact hw ⟨hid,_,ho,.inl ⟨h1,h2⟩⟩
 ·exact hw ⟨hid,_,ho,.inr ⟨h1,h2⟩⟩
theorem Drawn.wrote_fl (D:Drawn P cl fc Pm base w0 fl n ops b T HH){j id:Nat}(hj:j<ops.size)(h:tL fl ops Pm T HH j id):fl<=id:=by
 obtain⟨_,o,_,h|h⟩:=h
 ·exact h.2
 ·exact bY (D.hfc j hj).1 (D.hpf j id h.2)
theorem Drawn.keep (D:Drawn P cl fc Pm base w0 fl n ops b T HH){i id:Nat}:∀ {k:Nat},i<=k->k<=ops.size->id<(HH i).length->(∀ j,i<=j->j<k -> ¬ tL fl ops Pm T HH j id)->(HH k)[id]? = (HH i)[id]?
 | 0,h,_,_,_=>by
   have:i=0:=by omega
   subst this;rfl
 | k+1,h,hk,hid,hw=>by
   by_cases he:i=k+1
   ·subst he;rfl
   ·rw[D.keep1 (by omega) (dC hid (D.len (by omega) (by omega))) (hw k (by omega) (by omega))]
    exact D.keep (k:=k) (by omega) (by omega) hid fun j h1 h2=>hw j h1 (by omega)
theorem Drawn.stat (D:Drawn P cl fc Pm base w0 fl n ops b T HH){i id:Nat}{B:Blk}(hB:(HH i)[id]? = some B):∀ {k:Nat},i<=k->k<=ops.size ->
 ∃ B',(HH k)[id]? = some B'/\B'.cells.length=B.cells.length/\B'.exact=B.exact/\B'.es=B.es/\(B'.alive=true->B.alive=true)
 | 0,h,_=>by
   have:i=0:=by omega
   subst this;exact⟨B,hB,rfl,rfl,rfl,fun h=>h⟩
 | k+1,h,hk=>by
   by_cases he:i=k+1
   ·subst he;exact⟨B,hB,rfl,rfl,rfl,fun h=>h⟩
   ·obtain⟨B1,h1,a1,a2,a3,a4⟩:=D.stat hB (k:=k) (by omega) (by omega)
    have hs:=D.step k ops[k] (nU (by omega))
    obtain⟨B2,h2,c1,c2,c3,c4⟩:=(pY (D.hck k) hs).1.stat id B1 h1
    exact⟨B2,h2,c1.trans a1,c2.trans a2,c3.trans a3,fun x=>a4 (c4 x)⟩
theorem Drawn.tmp1 (D:Drawn P cl fc Pm base w0 fl n ops b T HH){k:Nat}{o:Oper}(ho:ops[k]? = some o){d:Nat}(hd:o.dst≠some d):T (k+1) d=T k d:=by
 obtain⟨v,hv⟩:=(pY (D.hck k) (D.step k o ho)).2
 rw[hv]
 unfold lN
 cases hdst:o.dst with
 | none=>rfl
 | some e=>exact sF _ _ _ _ fun he=>hd (by rw[hdst,he])
theorem Drawn.tmp (D:Drawn P cl fc Pm base w0 fl n ops b T HH){i d:Nat}:∀ {k:Nat},i<=k->k<=ops.size->(∀ j o,i<=j->j<k->ops[j]? = some o->o.dst≠some d)->T k d=T i d
 | 0,h,_,_=>by
   have:i=0:=by omega
   subst this;rfl
 | k+1,h,hk,hw=>by
   by_cases he:i=k+1
   ·subst he;rfl
   ·rw[D.tmp1 (nU (show k<ops.size by omega)) (hw k _ (by omega) (by omega) (nU (by omega)))]
    exact D.tmp (k:=k) (by omega) (by omega) fun j o h1 h2=>hw j o h1 (by omega)
theorem Drawn.pair (D:Drawn P cl fc Pm base w0 fl n ops b T HH){i j:Nat}{oi oj:Oper}(hi:ops[i]? = some oi)(hj:ops[j]? = some oj)(hlt:i<j) :
 Bef b j i\/(oM ops oi oj=false /\ ¬ (aK oi.op=4/\aK oj.op=3) /\ ¬ (aK oi.op=3/\aK oj.op=4)):=by
 have:=D.hdraw
 simp only[gU,aH,bW,qW]at this
 have:=this.2 j (cR hj) i hlt
 simp only[hi,hj,iX,aH,AP,Bool.and_eq_false_iff,beq_eq_false_iff_ne,ne_eq]at this
 rcases this with h|⟨⟨h1,h2⟩,h3⟩
 ·exact .inl h
 ·exact .inr ⟨h1,by omega,by omega⟩
theorem MB (ops:Array Oper)(x y:Oper)(h:oM ops x y=false):oM ops y x=false:=by
 unfold oM at h⊢
 cases hx:x.dst with
 | none =>
   cases hy:y.dst with
   | none=>rfl
   | some e =>
     simp only[hx,hy,ER]at h⊢
     exact⟨⟨h.2,by simp⟩,trivial⟩
 | some d =>
   cases hy:y.dst with
   | none =>
     simp only[hx,hy,ER]at h⊢
     exact⟨trivial,h.1.1⟩
   | some e =>
     simp only[hx,hy,ER]at h⊢
     refine⟨⟨h.2,?_⟩,h.1.1⟩
     have:=h.1.2
     simp only[beq_eq_false_iff_ne,ne_eq,aX]at this⊢
     exact fun he=>this he.symm
theorem Drawn.cmp_tmp (D:Drawn P cl fc Pm base w0 fl n ops b T HH){i j:Nat}{oi oj:Oper}(hi:ops[i]? = some oi)(hj:ops[j]? = some oj)(h:oM ops oi oj=true):Cmp b i j:=by
 refine⟨fun hlt => ?_,fun hlt => ?_⟩
 ·rcases D.pair hi hj hlt with h1|⟨h1,_⟩
  ·exact h1
  ·rw[h]at h1;cases h1
 ·rcases D.pair hj hi hlt with h1|⟨h1,_⟩
  ·exact h1
  ·have:=MB _ _ _ h1
   rw[h]at this;cases this
theorem Drawn.cmp_call (D:Drawn P cl fc Pm base w0 fl n ops b T HH){i j:Nat}{oi oj:Oper}(hi:ops[i]? = some oi)(hj:ops[j]? = some oj)(h:aK oi.op=4)(h':aK oj.op=3):Cmp b i j:=by
 refine⟨fun hlt => ?_,fun hlt => ?_⟩
 ·rcases D.pair hi hj hlt with h1|⟨_,h1,_⟩
  ·exact h1
  ·exact absurd ⟨h,h'⟩ h1
 ·rcases D.pair hj hi hlt with h1|⟨_,_,h1⟩
  ·exact h1
  ·exact absurd ⟨h',h⟩ h1
theorem G5 {ops:Array Oper}{b:Array Nat}(hb:b=aI ops.toList #[])(hdraw:gU ops b=true):∀ {j i:Nat},j<ops.size->Bef b j i->i<j:=by
 intro j
 induction j using Nat.strongRecOn with
 | _ j ih =>
   intro i hj h
   have ho:=nU hj
   unfold Bef at h
   rw[hb]at h
   obtain⟨e,he,hbd,h⟩:=A7 ho h
   have hedge:e.on<j:=by
    have:=hdraw
    simp only[gU,aH]at this
    have:=this.1
    simp only[O3,bW,qW]at this
    have:=this j hj
    simp only[ho,Option.map_some,Option.getD_some,bW]at this
    have:=this e he
    simpa [hbd] using this
   rcases h with h|⟨h1,h2⟩
   ·omega
   ·have:=ih e.on h1 (by omega) (by unfold Bef;rw[hb];exact h2)
    omega
theorem uW {ops:Array Oper}{b:Array Nat}(hb:b=aI ops.toList #[])(hdraw:gU ops b=true){i j:Nat}{oj:Oper}(hi:i<ops.size)(hj:ops[j]? = some oj)(hne:j≠i)(hk:aK oj.op≠0)(hk1:aK oj.op=1->j<i)(h:bH ops b i=true):Cmp b i j:=by
 simp only[bH,bW,qW]at h
 have:=h j (cR hj)
 simp only[hj,Option.map_some,Option.getD_some,iX,aH,eP,cK]at this
 rcases this with((h1|h1|h1)|h1)|h1
 ·exact absurd h1 hne
 ·exact absurd h1 hk
 ·have:=hk1 h1.1;omega
 ·have:=G5 hb hdraw hi h1
  exact⟨fun h=>by omega,fun _=>h1⟩
 ·have:=G5 hb hdraw (cR hj) h1
  exact⟨fun _=>h1,fun h=>by omega⟩
theorem OA {ops:Array Oper}{b:Array Nat}(hb:b=aI ops.toList #[])(hdraw:gU ops b=true){i j:Nat}{oj:Oper}(hi:i<ops.size)(hj:ops[j]? = some oj)(hne:j≠i)(hk:aK oj.op≠0)(hk1:aK oj.op=1->j<i)(hld : ¬ nL oj.op=true)(h:CD ops b i=true):Cmp b i j:=by
 simp only[CD,bW,qW]at h
 have:=h j (cR hj)
 simp only[hj,Option.map_some,Option.getD_some,iX,aH,eP,cK]at this
 rcases this with((h1|(h1|h1)|h1)|h1)|h1
 ·exact absurd h1 hne
 ·exact absurd h1 hk
 ·have:=hk1 h1.1;omega
 ·exact absurd h1 hld
 ·have:=G5 hb hdraw hi h1
  exact⟨fun h=>by omega,fun _=>h1⟩
 ·have:=G5 hb hdraw (cR hj) h1
  exact⟨fun _=>h1,fun h=>by omega⟩
theorem Drawn.last_eval (D:Drawn P cl fc Pm base w0 fl n ops b T HH){i:Nat}{o:Oper}(ho:ops[i]? = some o)(hl:c7 ops i=true){x:Operand}(hx:x∈o.op.operands) :
 eval (T ops.size) x=eval (T i) x:=by
 cases x with
 | tmp d =>
   have hd:d∈EX o.op:=List.mem_filterMap.2 ⟨.tmp d,by simpa using hx,rfl⟩
   refine D.tmp (kP (cR ho)) (aF _) fun j p h1 h2 hp he => ?_
   unfold c7 at hl
   simp only[ho,bW,qW]at hl
   have:=hl j (cR hp)
   simp only[hp,he,Option.map_some,Option.getD_some,iX,cK,AP,List.contains_eq_mem,decide_eq_false_iff_not]at this
   rcases this with h|h
   ·omega
   ·exact h hd
 | _=>rfl
theorem Drawn.apart (D:Drawn P cl fc Pm base w0 fl n ops b T HH){i j:Nat}{oi oj:Oper}(hi:ops[i]? = some oi)(hj:ops[j]? = some oj){id:Nat}
 (h1:id∈cI oi.op (eval (T i))) (h2:id∈j0 oj.op (eval (T j))):Cmp b i j:=by
 have k2:=XB h2
 have k1:=CM h1
 have main:∀ {i j:Nat} {oi oj:Oper},ops[i]? = some oi->ops[j]? = some oj->i<j -> ¬ Bef b j i->(aK oi.op=3/\(aK oj.op=2\/aK oj.op=3))\/(aK oj.op=3/\aK oi.op=2) ->
  (∀ id,id∈j0 oi.op (eval (T i))->id∈cI oj.op (eval (T j))->False)/\(∀ id,id∈cI oi.op (eval (T i))->id∈j0 oj.op (eval (T j))->False):=by
  intro i j oi oj hi hj hlt hnb hk
  have hmem:(i,j)∈b7 ops b:=by
   unfold b7
   refine List.mem_flatMap.2 ⟨j,List.mem_range.2 (cR hj),List.mem_map.2 ⟨i,List.mem_filter.2 ⟨List.mem_range.2 hlt,?_⟩,rfl⟩⟩
   simp only[hi,hj,aH,AP,iX,eP]
   exact⟨by simpa [Bef] using hnb,hk⟩
  have hl:=List.all_eq_true.1 D.hlast _ hmem
  have hc:=List.all_eq_true.1 D.hclash _ hmem
  simp only[aH]at hl
  simp only[dE,hi,hj,aH]at hc
  rw[uV (op:=oi.op) fun x hx=>D.last_eval hi hl.1 hx,mE (op:=oj.op) fun x hx=>D.last_eval hj hl.2 hx,
   mE (op:=oi.op) fun x hx=>D.last_eval hi hl.1 hx,uV (op:=oj.op) fun x hx=>D.last_eval hj hl.2 hx]at hc
  simp only[A4,bW,bne_iff_ne,ne_eq]at hc
  exact⟨fun id a c=>hc.1 id a id c rfl,fun id a c=>hc.2 id a id c rfl⟩
 refine⟨fun hlt => ?_,fun hlt => ?_⟩
 ·by_cases hb:Bef b j i
  ·exact hb
  ·exact((main hi hj hlt hb (by rcases k1 with k|k;· exact .inr ⟨k2,k⟩
                                ·exact .inl ⟨k,.inr k2⟩)).2 id h1 h2).elim
 ·by_cases hb:Bef b i j
  ·exact hb
  ·exact((main hj hi hlt hb (.inl ⟨k2,k1⟩)).1 id h2 h1).elim
theorem Drawn.cmp_wrote (D:Drawn P cl fc Pm base w0 fl n ops b T HH){i j:Nat}{oi:Oper}(hi:ops[i]? = some oi)(hne:i≠j){id:Nat}
 (h1:id∈cI oi.op (eval (T i))\/aK oi.op=4) (h2:tL fl ops Pm T HH j id):Cmp b i j:=by
 obtain⟨hlt,oj,hj,h2|⟨hk,hp⟩⟩:=h2
 ·rcases h1 with h1|h1
  ·exact D.apart hi hj h1 h2.1
  ·exact D.cmp_call hi hj h1 (XB h2.1)
 ·exact(D.hperm j oj hj hk id hlt hp).1 i oi hi hne h1
end
end Go.Mach
