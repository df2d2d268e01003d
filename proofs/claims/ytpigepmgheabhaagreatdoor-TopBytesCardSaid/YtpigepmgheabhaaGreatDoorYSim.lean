/- Part of the proof. No condition. -/
import Derived.Test.YtpigepmgheabhaaGreatDoorYMach
import Derived.Laws.Rows
import Derived.Laws.Append
import Derived.Laws.AppendOwn
namespace Go.Mach
structure Loc where
 blk:Nat
 off:Nat
 room:Nat
 n:Nat
 es:Nat
 exact:Bool
abbrev Ren:=Nat->Option Loc
def Fit (L:Loc)(o len c o' c':Nat):Prop:=len<=c /\
 ((o'=L.off+o/\c'=c) \/
 (L.exact=false/\o'=L.off+o/\o+c*L.es=L.n/\c<=c'/\L.n+(c'-c)*L.es<=L.room) \/
 (L.exact=false/\len=0/\c=0/\c'=0))
inductive VRel (ρ:Ren):Value->Value->Prop
 | bool (b):VRel ρ (.bool b) (.bool b)
 | int (k n):VRel ρ (.int k n) (.int k n)
 | float (k n):VRel ρ (.float k n) (.float k n)
 | complex (k a b):VRel ρ (.complex k a b) (.complex k a b)
 | string (s):VRel ρ (.string s) (.string s)
 | nilptr:VRel ρ (.pointer none) (.pointer none)
 | ptr {b o:Nat} {L:Loc} (h:ρ b=some L):VRel ρ (.pointer (some ⟨b,o,none⟩)) (.pointer (some ⟨L.blk,L.off+o,none⟩))
 | nilslice (n c):VRel ρ (.slice none n c) (.slice none n c)
 | slice {b o n c o' c':Nat} {L:Loc} (h:ρ b=some L) (hf:Fit L o n c o' c'):VRel ρ (.slice (some ⟨b,o,none⟩) n c) (.slice (some ⟨L.blk,o',none⟩) n c')
 | empty {b o:Nat} {L:Loc} (a':Addr) (h:ρ b=some L):VRel ρ (.slice (some ⟨b,o,none⟩) 0 0) (.slice (some a') 0 0)
 | func (fn) (xs xs' ys ys':Array Value) (hx:xs.size=xs'.size) (hy:ys.size=ys'.size)
  (h:∀ (i:Nat) v v',xs[i]? = some v->xs'[i]? = some v'->VRel ρ v v') (h':∀ (i:Nat) v v',ys[i]? = some v->ys'[i]? = some v'->VRel ρ v v') :
  VRel ρ (.func fn xs ys) (.func fn xs' ys')
 | nilFunc:VRel ρ .nilFunc .nilFunc
 | nilIface:VRel ρ .nilIface .nilIface
 | iface (t) {v v'} (h:VRel ρ v v'):VRel ρ (.iface t v) (.iface t v')
 | agg (xs xs':Array Value) (hx:xs.size=xs'.size) (h:∀ (i:Nat) v v',xs[i]? = some v->xs'[i]? = some v'->VRel ρ v v'):VRel ρ (.agg xs) (.agg xs')
 | tuple (xs xs':Array Value) (hx:xs.size=xs'.size) (h:∀ (i:Nat) v v',xs[i]? = some v->xs'[i]? = some v'->VRel ρ v v'):VRel ρ (.tuple xs) (.tuple xs')
def Ext (ρ ρ':Ren):Prop:=∀ id L,ρ id=some L->ρ' id=some L
theorem Ext.refl (ρ:Ren):Ext ρ ρ:=fun _ _ h=>h
theorem Ext.trans {a b c:Ren}(h:Ext a b)(h':Ext b c):Ext a c:=fun _ _ x=>h' _ _ (h _ _ x)
theorem VRel.mono {ρ ρ':Ren}(e:Ext ρ ρ'){v v':Value}(h:VRel ρ v v'):VRel ρ' v v':=by
 induction h with
 | bool b=>exact .bool b
 | int k n=>exact .int k n
 | float k n=>exact .float k n
 | complex k a b=>exact .complex k a b
 | string s=>exact .string s
 | nilptr=>exact .nilptr
 | ptr h=>exact .ptr (e _ _ h)
 | nilslice n c=>exact .nilslice n c
 | slice h hf=>exact .slice (e _ _ h) hf
 | empty a' h=>exact .empty a' (e _ _ h)
 | func fn xs xs' ys ys' hx hy _ _ ih ih'=>exact .func fn xs xs' ys ys' hx hy ih ih'
 | nilFunc=>exact .nilFunc
 | nilIface=>exact .nilIface
 | iface t _ ih=>exact .iface t ih
 | agg xs xs' hx _ ih=>exact .agg xs xs' hx ih
 | tuple xs xs' hx _ ih=>exact .tuple xs xs' hx ih
def LRel (ρ:Ren)(xs ys:List Value):Prop:=xs.length=ys.length/\∀ (i:Nat) v v',xs[i]? = some v->ys[i]? = some v'->VRel ρ v v'
theorem LRel.nil (ρ:Ren):LRel ρ [] []:=⟨rfl,fun i v v' h=>by simp at h⟩
theorem LRel.cons {ρ:Ren}{x y:Value}{xs ys:List Value}(h:VRel ρ x y)(t:LRel ρ xs ys):LRel ρ (x::xs) (y::ys):=by
 refine⟨by simp[t.1],fun i v v' a b => ?_⟩
 cases i with
 | zero=>simp at a b;subst a;subst b;exact h
 | succ i=>exact t.2 i v v' (by simpa using a) (by simpa using b)
theorem LRel.inv {ρ:Ren}{x:Value}{xs ys:List Value}(h:LRel ρ (x::xs) ys):∃ y ys',ys=y::ys'/\VRel ρ x y/\LRel ρ xs ys':=by
 cases ys with
 | nil=>have:=h.1;simp at this
 | cons y ys =>
   exact⟨y,ys,rfl,h.2 0 x y rfl rfl,by have:=h.1;simp at this;exact this,fun i v v' a b=>h.2 (i+1) v v' (by simpa using a) (by simpa using b)⟩
theorem LRel.inv_nil {ρ:Ren}{ys:List Value}(h:LRel ρ [] ys):ys=[]:=by
 cases ys with
 | nil=>rfl
 | cons y ys=>have:=h.1;simp at this
theorem LRel.append {ρ:Ren}{a b c d:List Value}(h:LRel ρ a b)(h':LRel ρ c d):LRel ρ (a++c) (b++d):=by
 refine⟨by simp[h.1,h'.1],fun i v v' x y => ?_⟩
 by_cases hi:i<a.length
 ·rw[dL hi]at x
  rw[dL (h.1▸hi)]at y
  exact h.2 i v v' x y
 ·rw[o5 (by omega)]at x
  rw[o5 (by have:=h.1;omega),<- h.1]at y
  exact h'.2 _ v v' x y
theorem LRel.set {ρ:Ren}{a b:List Value}(h:LRel ρ a b)(n:Nat){x y:Value}(hx:VRel ρ x y):LRel ρ (a.set n x) (b.set n y):=by
 refine⟨by simp[h.1],fun i v v' p q => ?_⟩
 by_cases hi:n=i
 ·grind
 ·rw[dK hi]at p q
  exact h.2 i v v' p q
theorem LRel.get {ρ:Ren}{a b:List Value}(h:LRel ρ a b){i:Nat}{v:Value}(hv:a[i]? = some v):∃ v',b[i]? = some v'/\VRel ρ v v':=by
 have hi:i<b.length:=by
  have:=(List.getElem?_eq_some_iff.1 hv).1;have:=h.1;omega
 exact⟨b[i],aM hi,h.2 i v _ hv (aM hi)⟩
theorem LRel.getD {ρ:Ren}{a b:List Value}(h:LRel ρ a b){d:Value}(hd:VRel ρ d d)(i:Nat):VRel ρ (a.getD i d) (b.getD i d):=by
 by_cases hi:i<a.length
 ·have hb:i<b.length:=h.1▸hi
  simp only[List.getD,aM hi,aM hb,Option.getD_some]
  exact h.2 i _ _ (aM hi) (aM hb)
 ·have hb : ¬ i<b.length:=h.1▸hi
  grind
theorem VRel.agg_of {ρ:Ren}{xs ys:List Value}(h:LRel ρ xs ys):VRel ρ (.agg xs.toArray) (.agg ys.toArray) :=
 .agg _ _ (by simp[h.1]) fun i v v' a b=>h.2 i v v' (by simpa using a) (by simpa using b)
theorem VRel.agg_inv {ρ:Ren}{xs:Array Value}{v:Value}(h:VRel ρ (.agg xs) v):∃ ys:Array Value,v = .agg ys/\LRel ρ xs.toList ys.toList:=by
 cases h with
 | agg _ ys hx h=>exact⟨ys,rfl,by simpa using hx,fun i v v' a b=>h i v v' (by simpa using a) (by simpa using b)⟩
theorem VRel.tuple_inv {ρ:Ren}{xs:Array Value}{v:Value}(h:VRel ρ (.tuple xs) v):∃ ys:Array Value,v = .tuple ys/\LRel ρ xs.toList ys.toList:=by
 cases h with
 | tuple _ ys hx h=>exact⟨ys,rfl,by simpa using hx,fun i v v' a b=>h i v v' (by simpa using a) (by simpa using b)⟩
theorem VRel.func_of {ρ:Ren}(fn:Fn){xs xs' ys ys':Array Value}(h:LRel ρ xs.toList xs'.toList)(h':LRel ρ ys.toList ys'.toList) :
 VRel ρ (.func fn xs ys) (.func fn xs' ys') :=
 .func fn _ _ _ _ (by simpa using h.1) (by simpa using h'.1) (fun i v v' a b=>h.2 i v v' (by simpa using a) (by simpa using b))
  fun i v v' a b=>h'.2 i v v' (by simpa using a) (by simpa using b)
theorem VRel.func_inv {ρ:Ren}{fn:Fn}{xs ys:Array Value}{v:Value}(h:VRel ρ (.func fn xs ys) v) :
 ∃ xs' ys':Array Value,v = .func fn xs' ys'/\LRel ρ xs.toList xs'.toList/\LRel ρ ys.toList ys'.toList:=by
 cases h with
 | func _ _ xs' _ ys' hx hy h h' =>
   exact⟨xs',ys',rfl,⟨by simpa using hx,fun i v v' a b=>h i v v' (by simpa using a) (by simpa using b)⟩,
    by simpa using hy,fun i v v' a b=>h' i v v' (by simpa using a) (by simpa using b)⟩
theorem VRel.cells {ρ:Ren}{v v':Value}(h:VRel ρ v v'):LRel ρ v.cells.toList v'.cells.toList:=by
 cases h
 case agg xs ys hx h=>exact⟨by simpa [Value.cells] using hx,fun i v v' a b=>h i v v' (by simpa [Value.cells] using a) (by simpa [Value.cells] using b)⟩
 all_goals
  refine LRel.cons ?_ (LRel.nil ρ)
  constructor <;> assumption
theorem VRel.oneCell {ρ:Ren}{v v':Value}(h:VRel ρ v v'):v'.oneCell'=v.oneCell':=by cases h <;> rfl
theorem VRel.undef (ρ:Ren):VRel ρ undef undef := .tuple _ _ rfl fun i v v' h=>by simp at h
theorem LRel.setCells {ρ:Ren}:∀ (vs vs':List Value) (a b:List Value) (i:Nat),LRel ρ a b->LRel ρ vs vs'->LRel ρ (setCells a i vs) (setCells b i vs')
 | [],vs',a,b,i,h,hv=>by rw[hv.inv_nil];exact h
 | v::vs,vs',a,b,i,h,hv=>by
   obtain⟨y,ys,rfl,hy,ht⟩:=hv.inv
   exact LRel.setCells vs ys _ _ _ (h.set i hy) ht
theorem eF:∀ (vs a:List Value) (i:Nat),(setCells a i vs).length=a.length
 | [],_,_=>rfl
 | _::vs,a,i=>by rw[setCells,eF vs];simp
structure Sim (base:Nat)(w0:World)(A:Nat->Prop)(ρ:Ren)(H:aD)(w:World):Prop where
 base_le:base<=w.heap.size
 old:∀ b,b<base->w.heap[b]? = w0.heap[b]?
 dom:∀ id L,ρ id=some L->L.blk<w.heap.size/\(base<=id->base<=L.blk)
 apart:∀ id L,id<base->ρ id=some L->∀ b,base<=b->L.blk≠b
 stat:∀ id L B,ρ id=some L->H[id]? = some B->B.cells.length=L.n/\B.exact=L.exact/\B.es=L.es/\L.n<=L.room/\(L.exact=true->L.n=L.room)
 cont:∀ id L B,A id->ρ id=some L->blk? H id=some B->∃ cc e fz,w.heap[L.blk]? = some (.cells cc e fz)/\L.off+L.room<=cc.size /\
  (base<=id->fz.1=fz.2\/cc.size<=fz.1)/\∀ i v,B.cells[i]? = some v->lC v=false->∃ v',cc[L.off+i]? = some v'/\VRel ρ v v'
 inj:∀ id id' L L',A id->A id'->ρ id=some L->ρ id'=some L'->(blk? H id).isSome=true->(blk? H id').isSome=true->base<=id->base<=id'->L.blk=L'.blk->id=id'
theorem Sim.weaken {base:Nat}{w0:World}{A A':Nat->Prop}{ρ:Ren}{H:aD}{w:World}(S:Sim base w0 A ρ H w)(h:∀ id,A' id->A id):Sim base w0 A' ρ H w :=
 ⟨S.base_le,S.old,S.dom,S.apart,S.stat,fun id L B a=>S.cont id L B (h id a),fun id id' L L' a a'=>S.inj id id' L L' (h id a) (h id' a')⟩
theorem Sim.heap {base:Nat}{w0:World}{A:Nat->Prop}{ρ:Ren}{H:aD}{w w':World}(S:Sim base w0 A ρ H w)(h:w'.heap=w.heap):Sim base w0 A ρ H w' :=
 ⟨by rw[h];exact S.base_le,by rw[h];exact S.old,by rw[h];exact S.dom,S.apart,S.stat,by rw[h];exact S.cont,S.inj⟩
structure D4 (w w':World)(h:Array Obj):Prop where
 heap:w'.heap=h
 os:w'.os=w.os
 tape:w'.tape=w.tape
 output:w'.output=w.output
structure Step (base:Nat)(w0:World)(A W:Nat->Prop)(fl:Nat)(ρ:Ren)(H:aD)(w:World)(ρ':Ren)(H':aD)(w':World):Prop where
 sim:Sim base w0 (fun id=>A id\/H.length<=id) ρ' H' w'
 ext:Ext ρ ρ'
 new:∀ id L,ρ id=none->ρ' id=some L->H.length<=id/\id<H'.length /\
  (w.heap.size<=L.blk\/∃ id0 L0,fl<=id0/\A id0/\W id0/\ρ id0=some L0/\L0.blk=L.blk/\(blk? H id0).isSome=true/\blk? H' id0=none)
 frame:∀ b,b<w.heap.size->(∀ id L,fl<=id->W id->A id->ρ id=some L->(blk? H id).isSome=true->L.blk≠b)->w'.heap[b]? = w.heap[b]?
 grow:w.heap.size<=w'.heap.size
 side:w'.os=w.os/\w'.tape=w.tape/\w'.output=w.output
 len:H.length<=H'.length
 keep:∀ id,id<H.length->(id<fl \/ ¬ W id)->H'[id]? = H[id]?
 dead:∀ id,id<H.length->(blk? H' id).isSome=true->(blk? H id).isSome=true
theorem blk?_lt {H:aD}{id:Nat}(h:(blk? H id).isSome=true):id<H.length:=by
 unfold blk? at h
 cases hg:H[id]? with
 | none=>simp[hg]at h
 | some B=>exact(List.getElem?_eq_some_iff.1 hg).1
theorem Step.same {base:Nat}{w0:World}{A W:Nat->Prop}{fl:Nat}{ρ:Ren}{H:aD}{w w':World}(S:Sim base w0 A ρ H w)(hw:D4 w w' w.heap) :
 Step base w0 A W fl ρ H w ρ H w' where
 sim:=by
  have S':=S.heap hw.heap
  refine⟨S'.base_le,S'.old,S'.dom,S'.apart,S'.stat,fun id L B a => ?_,fun id id' L L' a a' => ?_⟩
  ·intro hr hb
   have:=blk?_lt (H:=H) (id:=id) (by rw[hb];rfl)
   exact S'.cont id L B (a.resolve_right (by omega)) hr hb
  ·intro hr hr' hb hb'
   have:=blk?_lt hb;have:=blk?_lt hb'
   exact S'.inj id id' L L' (a.resolve_right (by omega)) (a'.resolve_right (by omega)) hr hr' hb hb'
 ext:=Ext.refl ρ
 new:=fun id L h h'=>by rw[h]at h';cases h'
 frame:=fun b _ _=>by rw[hw.heap]
 grow:=by rw[hw.heap];exact aF _
 side:=⟨hw.os,hw.tape,hw.output⟩
 len:=aF _
 keep:=fun _ _ _=>rfl
 dead:=fun _ _ h=>h
theorem blk?_append_left {H K:aD}{id:Nat}(h:id<H.length):blk? (H++K) id=blk? H id:=by
 simp[blk?,dL h]
def WH (ρ:Ren)(id:Nat)(L:Loc):Ren:=fun i=>if i=id then some L else ρ i
theorem bC (ρ:Ren)(id:Nat)(L:Loc):WH ρ id L id=some L:=aA rfl
theorem dF (ρ:Ren){id i:Nat}(L:Loc)(h:i≠id):WH ρ id L i=ρ i:=aC h
theorem JP {ρ:Ren}{id:Nat}(L:Loc)(h:ρ id=none):Ext ρ (WH ρ id L):=fun i K hi=>by
 by_cases he:i=id
 ·subst he;rw[h]at hi;cases hi
 ·rw[dF _ _ he];exact hi
theorem Step.new_block {base:Nat}{w0:World}{A W:Nat->Prop}{fl:Nat}{ρ:Ren}{H:aD}{w w':World}(S:Sim base w0 A ρ H w)(hfr:ρ H.length=none)(hb:base<=H.length)
 (cs:List Value) (cc:Array Value) (e:TypeId) (fz:Nat×Nat) (es:Nat) (exact:Bool) (hw:D4 w w' (w.heap.push (.cells cc e fz)))
 (hn:cs.length<=cc.size) (hex:exact=true->cs.length=cc.size) (hfz:fz.1=fz.2\/cc.size<=fz.1)
 (hrel:∀ (i:Nat) v,cs[i]? = some v->∃ v',cc[i]? = some v'/\VRel ρ v v') :
 Step base w0 A W fl ρ H w (WH ρ H.length ⟨w.heap.size,0,cc.size,cs.length,es,exact⟩) (H++[⟨cs,es,exact,true⟩]) w':=by
 have ext:=JP ⟨w.heap.size,0,cc.size,cs.length,es,exact⟩ hfr
 have hsz:w'.heap.size=w.heap.size+1:=by rw[hw.heap];simp
 have hold:∀ b,b<w.heap.size->w'.heap[b]? = w.heap[b]? := fun b h=>by rw[hw.heap,Array.getElem?_push,aC (Nat.ne_of_lt h)]
 refine⟨⟨by have:=S.base_le;omega,fun b h => ?_,fun id L h => ?_,fun id L h0 h => ?_,fun id L B h hB => ?_,fun id L B a h hB => ?_,fun id id' L L' a a' h h' hl hl' b1 b2 he => ?_⟩,ext,fun id L h h' => ?_,fun b h _=>hold b h,by omega,⟨hw.os,hw.tape,hw.output⟩,by simp,fun id h _ => ?_,fun id h hl => ?_⟩
 ·rw[hold b (by have:=S.base_le;omega)];exact S.old b h
 ·by_cases hi:id=H.length
  ·subst hi;rw[bC]at h;cases h;exact⟨by simp;omega,fun _=>S.base_le⟩
  ·rw[dF _ _ hi]at h;exact⟨by have:=(S.dom id L h).1;omega,(S.dom id L h).2⟩
 ·rw[dF _ _ (by omega)]at h;exact S.apart id L h0 h
 ·by_cases hi:id=H.length
  ·subst hi;rw[bC]at h;cases h
   simp at hB;subst hB
   exact⟨rfl,rfl,rfl,hn,hex⟩
  ·rw[dF _ _ hi]at h
   have hlt:id<H.length:=by
    have:=(List.getElem?_eq_some_iff.1 hB).1
    simp at this;omega
   rw[dL hlt]at hB
   exact S.stat id L B h hB
 ·by_cases hi:id=H.length
  ·subst hi;rw[bC]at h;cases h
   have hB':B=⟨cs,es,exact,true⟩:=by simpa [blk?] using hB.symm
   subst hB'
   refine⟨cc,e,fz,by rw[hw.heap];simp,by simp,fun _=>hfz,fun i v hv _ => ?_⟩
   obtain⟨v',h1,h2⟩:=hrel i v hv
   exact⟨v',by simpa using h1,h2.mono ext⟩
  ·rw[dF _ _ hi]at h
   have hlt:id<H.length:=by
    have:=blk?_lt (H:=H++[_]) (id:=id) (by rw[hB];rfl)
    simp at this;omega
   rw[blk?_append_left hlt]at hB
   obtain⟨c2,e2,f2,h1,h2,h3,h4⟩:=S.cont id L B (a.resolve_right (by omega)) h hB
   refine⟨c2,e2,f2,by rw[hold _ (S.dom id L h).1];exact h1,h2,h3,fun i v hv hh => ?_⟩
   obtain⟨v',p,q⟩:=h4 i v hv hh
   exact⟨v',p,q.mono ext⟩
 ·by_cases hi:id=H.length
  ·by_cases hi':id'=H.length
   ·omega
   ·subst hi;rw[bC]at h;cases h
    rw[dF _ _ hi']at h'
    have:=(S.dom id' L' h').1
    simp at he;omega
  ·by_cases hi':id'=H.length
   ·subst hi';rw[bC]at h';cases h'
    rw[dF _ _ hi]at h
    have:=(S.dom id L h).1
    simp at he;omega
   ·rw[dF _ _ hi]at h;rw[dF _ _ hi']at h'
    have k1:=blk?_lt hl;have k2:=blk?_lt hl'
    simp at k1 k2
    rw[blk?_append_left (by omega)]at hl hl'
    exact S.inj id id' L L' (a.resolve_right (by omega)) (a'.resolve_right (by omega)) h h' hl hl' b1 b2 he
 ·by_cases hi:id=H.length
  ·subst hi;rw[bC]at h';cases h'
   exact⟨aF _,by simp,.inl (aF _)⟩
  ·rw[dF _ _ hi]at h';rw[h]at h';cases h'
 ·exact dL h
 ·rw[blk?_append_left h]at hl;exact hl
def ORel (ρ:Ren)(d:Nat)(a b:List Value):Prop:=d+a.length<=b.length/\∀ (i:Nat) v,a[i]? = some v->lC v=false->∃ v',b[d+i]? = some v'/\VRel ρ v v'
theorem ORel.set {ρ:Ren}{d:Nat}{a b:List Value}(h:ORel ρ d a b)(o:Nat){x y:Value}(hx:VRel ρ x y):ORel ρ d (a.set o x) (b.set (d+o) y):=by
 refine⟨by simpa using h.1,?_⟩
 intro i v hv hh
 by_cases hi:o=i
 ·subst hi
  by_cases hl:o<a.length
  ·rw[gQ hl]at hv
   cases hv
   exact⟨y,gQ (by have:=h.1;omega),hx⟩
  ·grind
 ·rw[dK hi]at hv
  obtain⟨v',p,q⟩:=h.2 i v hv hh
  grind
theorem ORel.setCells {ρ:Ren}{d:Nat}:∀ (vs vs':List Value) {a b:List Value} (o:Nat),ORel ρ d a b->LRel ρ vs vs'->ORel ρ d (setCells a o vs) (setCells b (d+o) vs')
 | [],vs',a,b,o,h,hv=>by rw[hv.inv_nil];exact h
 | v::vs,vs',a,b,o,h,hv=>by
   obtain⟨y,ys,rfl,hy,ht⟩:=hv.inv
   have:=ORel.setCells vs ys (o+1) (h.set o hy) ht
   exact this
theorem jY:∀ (vs a:List Value) (k i:Nat),i<k\/k+vs.length<=i->(setCells a k vs)[i]? = a[i]?
 | [],_,_,_,_=>rfl
 | v::vs,a,k,i,h=>by
   have h':i<k+1\/k+1+vs.length<=i:=by simp at h;omega
   rw[setCells,jY vs _ (k+1) i h',dK (by simp at h;omega)]
theorem oL:∀ (vs a:List Value) (k i:Nat),k+vs.length<=a.length->i<vs.length->(setCells a k vs)[k+i]? = vs[i]?
 | [],_,_,_,_,h=>by simp at h
 | v::vs,a,k,0,h,_=>by
   have h2:k+(vs.length+1)<=a.length:=h
   rw[setCells,jY vs _ (k+1) (k+0) (by omega)]
   have h3:k<a.length:=by omega
   simp[h3]
 | v::vs,a,k,i+1,h,h'=>by
   have:=oL vs (a.set k v) (k+1) i (by simp at h⊢;omega) (by simpa using h')
   rw[setCells,show k+(i+1)=k+1+i by omega,this]
   simp
theorem blk?_set {H:aD}{id i:Nat}{B:Blk}(h:id<H.length):blk? (H.set id B) i=if i=id then(if B.alive then some B else none)else blk? H i:=by
 unfold blk?
 grind
theorem blk?_some {H:aD}{id:Nat}{B:Blk}(h:blk? H id=some B):H[id]? = some B/\B.alive=true:=by
 unfold blk? at h
 cases hg:H[id]? with
 | none=>simp[hg]at h
 | some C=>grind
theorem Step.store {base:Nat}{w0:World}{A W:Nat->Prop}{fl:Nat}{ρ:Ren}{H:aD}{w w':World}(S:Sim base w0 A ρ H w)(hbf:base<=fl)
 {id o:Nat} {L:Loc} {B:Blk} {vs vs':List Value} {cc:Array Value} {e:TypeId} {fz:Nat×Nat} (hA:A id) (hW:W id) (hfl:fl<=id) (hL:ρ id=some L) (hB:blk? H id=some B)
 (hv:LRel ρ vs vs') (hc:w.heap[L.blk]? = some (.cells cc e fz))
 (hw:D4 w w' (w.heap.setIfInBounds L.blk (.cells (setCells cc.toList (L.off+o) vs').toArray e fz))) :
 Step base w0 A W fl ρ H w ρ (H.set id { B with cells:=setCells B.cells o vs }) w':=by
 obtain⟨hB1,hB2⟩:=blk?_some hB
 have hlt:id<H.length:=(List.getElem?_eq_some_iff.1 hB1).1
 have hbl:L.blk<w.heap.size:=(S.dom id L hL).1
 have hsz:w'.heap.size=w.heap.size:=by rw[hw.heap];simp
 have hbase:base<=L.blk:=(S.dom id L hL).2 (by omega)
 have hother:∀ b,b≠L.blk->w'.heap[b]? = w.heap[b]? := fun b hb=>by rw[hw.heap,FP (fun e=>hb e.symm)]
 have hthere:w'.heap[L.blk]? = some (.cells (setCells cc.toList (L.off+o) vs').toArray e fz):=by rw[hw.heap,JT hbl]
 have hb? : ∀ i,blk? (H.set id { B with cells:=setCells B.cells o vs }) i=if i=id then some { B with cells:=setCells B.cells o vs } else blk? H i:=fun i=>by
  rw[blk?_set hlt];simp[hB2]
 have hst:=S.stat id L B hL hB1
 refine⟨⟨by have:=S.base_le;omega,fun b h => ?_,fun i K h => ?_,fun i K h0 h=>S.apart i K h0 h,fun i K C h hC => ?_,fun i K C a h hC => ?_,fun i i' K K' a a' h h' hl hl' b1 b2 he => ?_⟩,Ext.refl ρ,fun i K h h' => ?_,fun b h hb => ?_,by omega,⟨hw.os,hw.tape,hw.output⟩,by simp,fun i h hk => ?_,fun i h hl => ?_⟩
 ·rw[hother b (by omega)];exact S.old b h
 ·rw[hsz];exact S.dom i K h
 ·by_cases hi:i=id
  ·subst hi
   rw[gQ hlt]at hC
   cases hC
   rw[hL]at h;cases h
   simpa [eF] using hst
  ·rw[dK (fun e=>hi e.symm)]at hC
   exact S.stat i K C h hC
 ·rw[hb?]at hC
  by_cases hi:i=id
  ·subst hi
   simp at hC;subst hC
   rw[hL]at h;cases h
   obtain⟨c2,e2,f2,h1,h2,h3,h4⟩:=S.cont i L B hA hL hB
   rw[hc]at h1;cases h1
   refine⟨_,e,fz,hthere,by simpa [eF] using h2,by simpa [eF] using h3,fun k v hk hh => ?_⟩
   have ho:ORel ρ L.off B.cells cc.toList:=⟨by
    have h5:=S.stat i L B hL (blk?_some hB).1
    rw[h5.1]
    simp only[Array.length_toList]
    omega,fun k v hk hh=>by
    obtain⟨v',p,q⟩:=h4 k v hk hh
    exact⟨v',by simpa using p,q⟩⟩
   obtain⟨v',p,q⟩:=(ho.setCells vs vs' o hv).2 k v hk hh
   exact⟨v',by simpa using p,q⟩
  ·rw[aC hi]at hC
   have hCl:=blk?_lt (H:=H) (id:=i) (by rw[hC];rfl)
   have a':A i:=a.resolve_right (by omega)
   obtain⟨c2,e2,f2,h1,h2,h3,h4⟩:=S.cont i K C a' h hC
   refine⟨c2,e2,f2,?_,h2,h3,h4⟩
   rw[hother _ ?_];exact h1
   intro heq
   by_cases hbi:base<=i
   ·exact hi (S.inj i id K L a' hA h hL (by rw[hC];rfl) (by rw[hB];rfl) hbi (by omega) heq)
   ·have hd:=S.dom i K h
    exact absurd heq (S.apart i K (by omega) h L.blk hbase)
 ·rw[hb?]at hl hl'
  have c1:i<H.length:=by
   by_cases hi:i=id
   ·omega
   ·rw[aC hi]at hl;exact blk?_lt hl
  have c2:i'<H.length:=by
   by_cases hi:i'=id
   ·omega
   ·rw[aC hi]at hl';exact blk?_lt hl'
  refine S.inj i i' K K' (a.resolve_right (by omega)) (a'.resolve_right (by omega)) h h' ?_ ?_ b1 b2 he
  ·grind
  ·grind
 ·rw[h]at h';cases h'
 ·exact hother b (fun e=>hb id L hfl hW hA hL (by rw[hB];rfl) e.symm)
 ·grind
 ·grind
theorem Step.inplace {base:Nat}{w0:World}{A W:Nat->Prop}{fl:Nat}{ρ:Ren}{H:aD}{w w':World}(S:Sim base w0 A ρ H w)(hbf:base<=fl)(hfr:ρ H.length=none)
 {id o r:Nat} {L:Loc} {B:Blk} {cs:List Value} {es:Nat} {cc cc':Array Value} {e:TypeId} {fz:Nat×Nat} (hA:A id) (hW:W id) (hfl:fl<=id) (hL:ρ id=some L) (hB:blk? H id=some B)
 (hc:w.heap[L.blk]? = some (.cells cc e fz)) (hcc:cc'.size=cc.size) (hr:o+r<=cc.size) (hn:cs.length<=r) (ho:ORel ρ o cs cc'.toList)
 (hw:D4 w w' (w.heap.setIfInBounds L.blk (.cells cc' e fz))) :
 Step base w0 A W fl ρ H w (WH ρ H.length ⟨L.blk,o,r,cs.length,es,false⟩) (H.set id { B with alive:=false }++[⟨cs,es,false,true⟩]) w':=by
 have ext:=JP ⟨L.blk,o,r,cs.length,es,false⟩ hfr
 obtain⟨hB1,hB2⟩:=blk?_some hB
 have hlt:id<H.length:=(List.getElem?_eq_some_iff.1 hB1).1
 have hbl:L.blk<w.heap.size:=(S.dom id L hL).1
 have hsz:w'.heap.size=w.heap.size:=by rw[hw.heap];simp
 have hbase:base<=L.blk:=(S.dom id L hL).2 (by omega)
 have hother:∀ b,b≠L.blk->w'.heap[b]? = w.heap[b]? := fun b hb=>by rw[hw.heap,FP (fun e=>hb e.symm)]
 have hthere:w'.heap[L.blk]? = some (.cells cc' e fz):=by rw[hw.heap,JT hbl]
 have hlen:(H.set id { B with alive:=false }).length=H.length:=by simp
 have hold:∀ i,i<H.length->blk? (H.set id { B with alive:=false }++[⟨cs,es,false,true⟩]) i=if i=id then none else blk? H i:=fun i hi=>by
  rw[blk?_append_left (by omega),blk?_set hlt];simp
 have hnew:blk? (H.set id { B with alive:=false }++[⟨cs,es,false,true⟩]) H.length=some ⟨cs,es,false,true⟩:=by
  simp[blk?]
 have hcase:∀ i C,blk? (H.set id { B with alive:=false }++[⟨cs,es,false,true⟩]) i=some C->(i=H.length/\C=⟨cs,es,false,true⟩)\/(i<H.length/\i≠id/\blk? H i=some C):=by
  intro i C h
  have hl:=blk?_lt (id:=i) (by rw[h];rfl)
  grind
 have hsome:∀ i,(blk? (H.set id { B with alive:=false }++[⟨cs,es,false,true⟩]) i).isSome=true->i=H.length\/(i<H.length/\i≠id/\(blk? H i).isSome=true):=by
  intro i h
  cases hc:blk? (H.set id { B with alive:=false }++[⟨cs,es,false,true⟩]) i with
  | none=>rw[hc]at h;cases h
  | some C =>
    rcases hcase i C hc with⟨h1,_⟩|⟨h1,h2,h3⟩
    ·exact .inl h1
    ·exact .inr ⟨h1,h2,by rw[h3];rfl⟩
 refine⟨⟨by have:=S.base_le;omega,fun b h => ?_,fun i K h => ?_,fun i K h0 h => ?_,fun i K C h hC => ?_,fun i K C a h hC => ?_,fun i i' K K' a a' h h' hl hl' b1 b2 he => ?_⟩,ext,fun i K h h' => ?_,fun b h hb => ?_,by omega,⟨hw.os,hw.tape,hw.output⟩,by simp,fun i h hk => ?_,fun i h hl => ?_⟩
 ·rw[hother b (by omega)];exact S.old b h
 ·by_cases hi:i=H.length
  ·subst hi;rw[bC]at h;cases h;exact⟨by show L.blk<_;omega,fun _=>hbase⟩
  ·rw[dF _ _ hi]at h;rw[hsz];exact S.dom i K h
 ·rw[dF _ _ (by omega)]at h;exact S.apart i K h0 h
 ·by_cases hi:i=H.length
  ·subst hi;rw[bC]at h;cases h
   rw[o5 (by omega)]at hC
   simp at hC;subst hC
   exact⟨rfl,rfl,rfl,hn,fun h=>by cases h⟩
  ·rw[dF _ _ hi]at h
   have hli:i<H.length:=by
    have:=(List.getElem?_eq_some_iff.1 hC).1
    simp at this;omega
   rw[dL (by omega)]at hC
   by_cases he:i=id
   ·subst he
    rw[gQ hlt]at hC
    cases hC
    exact S.stat i K B h hB1
   ·rw[dK (fun e=>he e.symm)]at hC
    exact S.stat i K C h hC
 ·rcases hcase i C hC with⟨h1,h2⟩|⟨h1,h2,h3⟩
  ·subst h1;subst h2
   rw[bC]at h;cases h
   obtain⟨c2,e2,f2,g1,g2,g3,g4⟩:=S.cont id L B hA hL hB
   rw[hc]at g1;cases g1
   refine⟨cc',e,fz,hthere,by simp;omega,fun _=>by rw[hcc];exact g3 (by omega),fun k v hk hh => ?_⟩
   obtain⟨v',p,q⟩:=ho.2 k v hk hh
   exact⟨v',by simpa using p,q.mono ext⟩
  ·rw[dF _ _ (by omega)]at h
   have a':A i:=a.resolve_right (by omega)
   obtain⟨c2,e2,f2,g1,g2,g3,g4⟩:=S.cont i K C a' h h3
   refine⟨c2,e2,f2,?_,g2,g3,fun k v hk hh => ?_⟩
   ·rw[hother _ ?_];exact g1
    intro heq
    by_cases hbi:base<=i
    ·exact h2 (S.inj i id K L a' hA h hL (by rw[h3];rfl) (by rw[hB];rfl) hbi (by omega) heq)
    ·exact absurd heq (S.apart i K (by omega) h L.blk hbase)
   ·obtain⟨v',p,q⟩:=g4 k v hk hh
    exact⟨v',p,q.mono ext⟩
 ·rcases hsome i hl with h1|⟨h1,h2,h3⟩
  ·rcases hsome i' hl' with g1|⟨g1,g2,g3⟩
   ·omega
   ·subst h1
    rw[bC]at h;cases h
    rw[dF _ _ (by omega)]at h'
    exact absurd (S.inj id i' L K' hA (a'.resolve_right (by omega)) hL h' (by rw[hB];rfl) g3 (by omega) b2 he) (fun e=>g2 e.symm)
  ·rcases hsome i' hl' with g1|⟨g1,g2,g3⟩
   ·subst g1
    rw[bC]at h';cases h'
    rw[dF _ _ (by omega)]at h
    exact absurd (S.inj i id K L (a.resolve_right (by omega)) hA h hL h3 (by rw[hB];rfl) b1 (by omega) he) h2
   ·rw[dF _ _ (by omega)]at h h'
    exact S.inj i i' K K' (a.resolve_right (by omega)) (a'.resolve_right (by omega)) h h' h3 g3 b1 b2 he
 ·by_cases hi:i=H.length
  ·subst hi;rw[bC]at h';cases h'
   refine⟨aF _,by simp,.inr ⟨id,L,hfl,hA,hW,hL,rfl,by rw[hB];rfl,?_⟩⟩
   rw[hold id hlt,aA rfl]
  ·rw[dF _ _ hi]at h';rw[h]at h';cases h'
 ·exact hother b (fun e=>hb id L hfl hW hA hL (by rw[hB];rfl) e.symm)
 ·rw[dL (by omega),dK]
  intro he;subst he
  rcases hk with hk|hk
  ·omega
  ·exact hk hW
 ·rcases hsome i hl with h1|⟨_,_,h3⟩
  ·omega
  ·exact h3
theorem LD {fz:Nat×Nat}{n:Nat}(h:fz.1=fz.2\/n<=fz.1):∀ i,i<n -> ¬ (fz.1<=i/\i<fz.2):=fun i hi h'=>by omega
theorem Step.mark {base:Nat}{w0:World}{A W:Nat->Prop}{fl:Nat}{ρ:Ren}{H:aD}{w w':World}(S:Sim base w0 A ρ H w)(hbf:base<=fl)
 {id:Nat} {L:Loc} {B:Blk} {cc:Array Value} {e:TypeId} {fz fz':Nat×Nat} (hA:A id) (hW:W id) (hfl:fl<=id) (hL:ρ id=some L) (hB:blk? H id=some B)
 (hc:w.heap[L.blk]? = some (.cells cc e fz)) (hfz:fz'.1=fz'.2\/cc.size<=fz'.1) (hw:D4 w w' (w.heap.setIfInBounds L.blk (.cells cc e fz'))) :
 Step base w0 A W fl ρ H w ρ H w':=by
 have hbl:L.blk<w.heap.size:=(S.dom id L hL).1
 have hge:base<=L.blk:=(S.dom id L hL).2 (by omega)
 have hsz:w'.heap.size=w.heap.size:=by rw[hw.heap];simp
 have hat:w'.heap[L.blk]? = some (.cells cc e fz'):=by rw[hw.heap];simp[hbl]
 have hoth:∀ b,b≠L.blk->w'.heap[b]? = w.heap[b]? := fun b hb=>by
  rw[hw.heap,FP (Ne.symm hb)]
 refine⟨⟨by rw[hsz];exact S.base_le,fun b h => ?_,fun i K h => ?_,S.apart,S.stat,fun i K C a h hC => ?_,fun i i' K K' a a' h h' hl hl' b1 b2 he => ?_⟩,
  fun _ _ h=>h,fun i K h h' => ?_,fun b h hn => ?_,by omega,⟨hw.os,hw.tape,hw.output⟩,aF _,fun _ _ _=>rfl,fun _ _ h=>h⟩
 ·rw[hoth b (by omega)];exact S.old b h
 ·rw[hsz];exact S.dom i K h
 ·have hlt:=blk?_lt (H:=H) (id:=i) (by rw[hC];rfl)
  obtain⟨c2,e2,f2,h1,h2,h3,h4⟩:=S.cont i K C (a.resolve_right (by omega)) h hC
  by_cases hk:K.blk=L.blk
  ·rw[hk,hc]at h1
   cases h1
   exact⟨cc,e,fz',by rw[hk];exact hat,h2,fun _=>hfz,h4⟩
  ·exact⟨c2,e2,f2,by rw[hoth _ hk];exact h1,h2,h3,h4⟩
 ·have k1:=blk?_lt hl
  have k2:=blk?_lt hl'
  exact S.inj i i' K K' (a.resolve_right (by omega)) (a'.resolve_right (by omega)) h h' hl hl' b1 b2 he
 ·rw[h]at h';cases h'
 ·exact hoth b fun e=>hn id L hfl hW hA hL (by rw[hB];rfl) e.symm
theorem Step.kill {base:Nat}{w0:World}{A W:Nat->Prop}{fl:Nat}{ρ:Ren}{H:aD}{w:World}(S:Sim base w0 A ρ H w)
 {id:Nat} {B:Blk} (hW:W id) (hfl:fl<=id) (hB:blk? H id=some B) :
 Step base w0 A W fl ρ H w ρ (H.set id { B with alive:=false }) w:=by
 obtain⟨hB1,hB2⟩:=blk?_some hB
 have hlt:id<H.length:=(List.getElem?_eq_some_iff.1 hB1).1
 have hb? : ∀ i,blk? (H.set id { B with alive:=false }) i=if i=id then none else blk? H i:=fun i=>by
  rw[blk?_set hlt];simp
 have hsome:∀ i C,blk? (H.set id { B with alive:=false }) i=some C->i<H.length/\blk? H i=some C:=fun i C h=>by
  rw[hb?]at h
  by_cases he:i=id
  ·simp[he]at h
  ·rw[aC he]at h;exact⟨blk?_lt (by rw[h];rfl),h⟩
 have hsome':∀ i,(blk? (H.set id { B with alive:=false }) i).isSome=true->i<H.length/\(blk? H i).isSome=true:=fun i h=>by
  rw[hb?]at h
  by_cases he:i=id
  ·simp[he]at h
  ·rw[aC he]at h;exact⟨blk?_lt h,h⟩
 refine⟨⟨S.base_le,S.old,S.dom,S.apart,fun i K C h hC => ?_,fun i K C a h hC => ?_,fun i i' K K' a a' h h' hl hl' b1 b2 he => ?_⟩,Ext.refl ρ,fun i K h h' => ?_,fun b h hb=>rfl,aF _,⟨rfl,rfl,rfl⟩,by simp,fun i h hk => ?_,fun i h hl=>(hsome' i hl).2⟩
 ·by_cases he:i=id
  ·subst he
   rw[gQ hlt]at hC
   cases hC
   exact S.stat i K B h hB1
  ·rw[dK (fun e=>he e.symm)]at hC
   exact S.stat i K C h hC
 ·obtain⟨h1,h2⟩:=hsome i C hC
  exact S.cont i K C (a.resolve_right (by omega)) h h2
 ·obtain⟨h1,h2⟩:=hsome' i hl
  obtain⟨g1,g2⟩:=hsome' i' hl'
  exact S.inj i i' K K' (a.resolve_right (by omega)) (a'.resolve_right (by omega)) h h' h2 g2 b1 b2 he
 ·rw[h]at h';cases h'
 ·grind
theorem Step.trans {base:Nat}{w0:World}{A W W1:Nat->Prop}{fl:Nat}{ρ ρ1 ρ2:Ren}{H H1 H2:aD}{w w1 w2:World}
 (s:Step base w0 A W fl ρ H w ρ1 H1 w1) (s':Step base w0 (fun id=>A id\/H.length<=id) W1 fl ρ1 H1 w1 ρ2 H2 w2) (hW:∀ id,W1 id->W id\/H.length<=id)
 (hfr:∀ id,H.length<=id->id<H2.length->ρ id=none):Step base w0 A W fl ρ H w ρ2 H2 w2 where
 sim:=s'.sim.weaken fun id h => .inl h
 ext:=s.ext.trans s'.ext
 new:=fun id L h h2=>by
  cases h1:ρ1 id with
  | some L1 =>
    have:=s'.ext id L1 h1
    rw[h2]at this;cases this
    obtain⟨p,q,r⟩:=s.new id L h h1
    refine⟨p,dC q s'.len,?_⟩
    rcases r with r|⟨id0,L0,f,a,wr,e,eb,al,de⟩
    ·exact .inl r
    ·refine .inr ⟨id0,L0,f,a,wr,e,eb,al,?_⟩
     cases hd:blk? H2 id0 with
     | none=>rfl
     | some C =>
       have:=s'.dead id0 (dC (blk?_lt al) s.len) (by rw[hd];rfl)
       rw[de]at this;cases this
  | none =>
    obtain⟨p,q,r⟩:=s'.new id L h1 h2
    refine⟨bY s.len p,q,?_⟩
    rcases r with r|⟨id0,L0,f,a,wr,e,eb,al,de⟩
    ·exact .inl (bY s.grow r)
    ·have al1:=blk?_lt al
     cases h0:ρ id0 with
     | some K =>
       have:=s.ext id0 K h0
       rw[e]at this;cases this
       have hlt:id0<H.length:=by
        grind
       exact .inr ⟨id0,L0,f,a.resolve_right (by omega),(hW id0 wr).resolve_right (by omega),h0,eb,s.dead id0 hlt al,de⟩
     | none =>
       obtain⟨_,_,r⟩:=s.new id0 L0 h0 e
       rcases r with r|⟨i1,L1,f1,a1,w1',e1,eb1,al1',de1⟩
       ·exact .inl (by omega)
       ·refine .inr ⟨i1,L1,f1,a1,w1',e1,by omega,al1',?_⟩
        cases hd:blk? H2 i1 with
        | none=>rfl
        | some C =>
          have:=s'.dead i1 (dC (blk?_lt al1') s.len) (by rw[hd];rfl)
          rw[de1]at this;cases this
 frame:=fun b hb hno=>by
  rw[s'.frame b (dC hb s.grow) ?_,s.frame b hb hno]
  intro id L f wr a e al
  have al1:=blk?_lt al
  cases h0:ρ id with
  | some K =>
    have:=s.ext id K h0
    rw[e]at this;cases this
    have hlt:id<H.length:=by
     rcases lM id H.length with h|h
     ·exact h
     ·rw[hfr id h (dC al1 s'.len)]at h0;cases h0
    exact hno id L f ((hW id wr).resolve_right (by omega)) (a.resolve_right (by omega)) h0 (s.dead id hlt al)
  | none =>
    obtain⟨_,_,r⟩:=s.new id L h0 e
    grind
 grow:=bY s.grow s'.grow
 side:=⟨s'.side.1.trans s.side.1,s'.side.2.1.trans s.side.2.1,s'.side.2.2.trans s.side.2.2⟩
 len:=bY s.len s'.len
 keep:=fun id h hk=>by
  rw[s'.keep id (dC h s.len) ?_,s.keep id h hk]
  grind
 dead:=fun id h hl=>s.dead id h (s'.dead id (dC h s.len) hl)
end Go.Mach
