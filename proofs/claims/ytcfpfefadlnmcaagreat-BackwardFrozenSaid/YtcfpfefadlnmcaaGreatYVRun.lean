/- Part of the proof. No condition. -/
import Derived.Test.YtcfpfefadlnmcaaGreatYVDef
namespace Go.Mach
def EU:List VV->List VO->List VV×List VO
 | [],h=>([],h)
 | v::r,h=>match v with
   | .nw t l=>let p:=EU r (h++[.lst true t l false]);(.own h.length::p.1,p.2)
   | v=>let p:=EU r h;(v::p.1,p.2)
def wU:List (Bool×List VV)->List VO->List VV×List VO
 | [],h=>([],h)
 | (g,cs)::r,h =>
   let p:=EU cs h
   let q:=wU r p.2
   ((if g then .agg p.1 else p.1.headD .undef)::q.1,q.2)
def QH:List VV->VV
 | [v]=>v
 | vs => .tup vs
def C9 (h:List VO):VV->List Nat
 | .agg l=>l.flatMap n6
 | .ptr i _=>i::(match bO h i with
   | .box cs _=>cs.flatMap n6
   | _=>[])
 | .bx l _=>l.flatMap n6
 | v=>n6 v
def FT (h:List VO):VV->List Nat
 | .fn _ l=>l.flatMap (C9 h)
 | v=>C9 h v
def aHi:VV->Bool
 | .fz _ _ _=>true
 | .fn _ _=>true
 | _=>false
def GH (sl:List (Bool×List VV)):Bool:=sl.any fun p=>p.2.any aHi
def ET:List (Bool×List VV)->(List (Bool×List VV)->Prop)->Prop
 | [],k=>k []
 | p::r,k=>match p with
   | (false,[.nw T l,.undef])=>nz l (ET r fun r'=>k ((false,[.pl (.slice none 0 0)])::r')) (ET r fun r'=>k ((false,[.nw T l])::r'))
   | p=>ET r fun r'=>k (p::r')
def aDv (G:Cfg)(f:VV)(args:List VV)(h:List VO)(K:VV->List VO->Prop):Prop :=
 match f with
 | .fn g caps=>if GR G.P g then
  G.O g (args.map (XX h)++caps.map (XX h)) (fun r=>ET r fun r=>let p:=wU r (match GH r with
    | true=>cY h ((args++caps).flatMap (FT h))
    | false=>h);K (QH p.1) p.2)else False
 | _=>False
def FM (G:Cfg)(o:Oper)(s:VS)(k:VS->Prop):Prop :=
 match o.op with
 | .call c=>match c.callee with
   | .value f=>aDv G (evV s.t f) (c.args.toList.map (evV s.t)) s.h fun v h=>k (VS.set ⟨s.t,h⟩ o.dst v)
   | _=>cE G o.op s.t s.h fun v h=>k (VS.set ⟨s.t,h⟩ o.dst v)
 | _=>cE G o.op s.t s.h fun v h=>k (VS.set ⟨s.t,h⟩ o.dst v)
def HM:Option (Nat×Bool)->Option (Nat×Bool)->Bool
 | none,none=>true
 | some (i,a),some (j,b)=>i==j&&a==b
 | _,_=>false
def FK (g:Option (Nat×Bool)):List Oper->List Oper×List Oper
 | []=>([],[])
 | o::l=>if HM o.guard g then([],o::l)else let r:=FK g l;(o::r.1,r.2)
def sR:Op->Bool
 | .move _ | .assign _ | .load .. | .binOp .. | .unOp .. | .fieldAddr .. | .field .. | .indexAddr .. | .index .. | .extract .. | .convert .. | .pick .. => true
 | .alloc _ | .box .. | .build .. | .buildSlice .. | .makeSlice .. | .slice .. | .sliceToArrayPointer .. | .nilCheck .. => true
 | .call c=>match c.callee with
   | .builtin .len | .builtin .min | .builtin .max | .builtin .complex | .builtin .real | .builtin .imag=>true
   | .value _=>true
   | _=>false
 | _=>false
def xD:Op->Bool
 | .move _ | .assign _ | .load .. | .unOp .. | .fieldAddr .. | .field .. | .extract .. | .convert .. | .pick .. => true
 | .binOp b _ _ _ _=>match b with
   | .shl | .shr | .quo | .rem=>false
   | _=>true
 | .call c=>match c.callee with
   | .builtin .len | .builtin .min | .builtin .max | .builtin .complex | .builtin .real | .builtin .imag=>true
   | _=>false
 | _=>false
def aAv (ops:Array Oper)(j:Nat)(w:Bool):List Nat->List Oper->Bool
 | _,[]=>true
 | known,o::l=>(match o.guard with
   | none=>false
   | some (j',w')=>(j'==j&&w'==w)||(match (ops[j']?).bind (·.dst)with
     | some x=>known.contains x
     | none=>false))&&aAv ops j w (match o.dst with
       | some x=>x::known
       | none=>known) l
def rT:List Oper->List (Nat×VV)->List (Nat×VV)
 | [],t=>t
 | o::l,t=>match o.dst with
   | some d=>(d,.undef)::rT l t
   | none=>rT l t
def LI (h:Nat):VV->VV
 | .ptr i off=>if i<h then .mptr i off else .undef
 | _ => .undef
def qU (h:Nat):List Oper->List (Nat×VV)->List (Nat×VV)->List (Nat×VV)
 | [],_,t=>t
 | o::l,t2,t=>match o.dst with
   | some d=>(d,LI h (cO t2 d))::qU h l t2 t
   | none=>qU h l t2 t
def F6 (v:VV)(K:Bool->Prop):Prop :=
 match v with
 | .pl (.bool b)=>K b
 | _=>False
def T6:Operand->Option Bool
 | .const (.bool b)=>some b
 | _=>none
def aD0 (d:Nat)(b:Oper):Bool :=
 match b.dst with
 | some x=>x != d
 | none=>true
def vX (G:Cfg)(ops:Array Oper):Nat->Option (Nat×Bool)->List Oper->VS->(VS->Prop)->Prop
 | 0,_,_,_,_=>False
 | _+1,_,[],s,k=>k s
 | n+1,g,o::rest,s,k =>
   match HM o.guard g with
   | true=>FM G o s fun s'=>vX G ops n g rest s' k
   | false=>match FK g (o::rest),o.guard with
     | (body,res::rest'),some (j,w) =>
       match (ops[j]?).bind (·.dst),res.op,res.dst with
       | some d,.pick (.tmp c) x y,some r =>
         match c==d&&r != d&&body.all (fun b=>aD0 d b&&sR b.op)&&aAv ops j w [] body&&T6 (if w then y else x)==some (!w),cO s.t d with
         | true,.pl (.bool b) =>
           match body.all (fun b=>xD b.op)with
           | true=>vX G ops n (some (j,w)) body s fun s2=>F6 (evV s2.t (if w then x else y)) fun v =>
            vX G ops n g rest' ⟨(r,.pl (.bool (if w then b&&v else b||v)))::qU s.h.length body s2.t s.t,s.h⟩ k
           | false=>jn (fun v=>vX G ops n g rest' ⟨(r,.pl (.bool v))::rT body s.t,s.h⟩ k) fun J =>
            if b=true then(if w=true then vX G ops n (some (j,w)) body s fun s2=>F6 (evV s2.t x) J else J true)
            else(if w=true then J false else vX G ops n (some (j,w)) body s fun s2=>F6 (evV s2.t y) J)
         | _,_=>False
       | _,_,_=>False
     | _,_=>False
def IV:VV->Option (List (Option Nat))
 | .own i | .ptr i _ | .eptr i _ _ | .mptr i _=>some [some i]
 | .fptr _ _ _ _ _ | .bx _ _=>some [none]
 | .pl _ | .agg _ | .tup _ | .fn _ _=>some []
 | _=>none
def NQ:List VV->Option (List (Option Nat))
 | []=>some []
 | v::l=>match IV v,NQ l with
   | some a,some b=>some (a++b)
   | _,_=>none
def aFJ (op:Op)(t:List (Nat×VV)):Option (List (Option Nat)) :=
 match op with
 | .load _ a=>IV (evV t a)
 | .store _ a _=>IV (evV t a)
 | .convert _ _ x=>IV (evV t x)
 | .call c=>match c.callee with
   | .builtin .append | .builtin .copy=>NQ (c.args.toList.map (evV t))
   | _=>some []
 | _=>some []
def wrV (op:Op)(t:List (Nat×VV)):Option (List (Option Nat)) :=
 match op with
 | .store _ a _=>IV (evV t a)
 | .call c=>match c.callee with
   | .builtin .append | .builtin .copy=>match c.args.toList with
     | x::_=>IV (evV t x)
     | []=>some []
   | _=>some []
 | _=>some []
def DC (h:List VO):Option Nat->Option Nat->Bool
 | some i,some j=>i != j&&((boxB (bO h i)||boxB (bO h j))||ownB (bO h i)&&ownB (bO h j))
 | some i,none=>ownB (bO h i)
 | none,some j=>ownB (bO h j)
 | none,none=>false
where
 ownB:VO->Bool
  | .box _ fr => !fr
  | .lst _ _ _ fr => !fr
  | .dead b=>b
 boxB:VO->Bool
  | .box _ _=>true
  | _=>false
def WN (h:List VO):Option (List (Option Nat))->Option (List (Option Nat))->Bool
 | some [],_=>true
 | _,some []=>true
 | some a,some b=>a.all fun x=>b.all fun y=>DC h x y
 | _,_=>false
def PY (ops:Array Oper)(s:VS)(p:Nat×Nat):Bool :=
 match ops[p.1]?,ops[p.2]? with
 | some oi,some oj=>WN s.h (wrV oi.op s.t) (aFJ oj.op s.t)&&WN s.h (aFJ oi.op s.t) (wrV oj.op s.t)
 | _,_=>false
def C6 (G:Cfg)(ops:Array Oper)(draw:Bool)(s:VS)(k:VS->Prop):Prop :=
 match draw with
 | false=>vX G ops (ops.size+1) none ops.toList s k
 | true=>match yE ops (bK ops.toList #[])&&(i9 ops (bK ops.toList #[])).all (fun p=>pM ops p.1&&pM ops p.2)with
   | true=>vX G ops (ops.size+1) none ops.toList s fun s'=>match (i9 ops (bK ops.toList #[])).all (PY ops s')with
     | true=>k s'
     | false=>False
   | false=>False
def N7:List Oper->Option (List Oper×Oper)
 | []=>none
 | o::l=>match l,N7 l with
   | [],_=>some ([],o)
   | _::_,some (p,x)=>some (o::p,x)
   | _::_,none=>none
def aB1 (ops:Array Oper)(draw:Bool):Option (List Oper×Oper×Operand×List Operand) :=
 match N7 ops.toList with
 | some (pre,o)=>match o.guard,o.op with
   | none,.call c=>match c.callee with
     | .value f=>match draw with
       | false=>some (pre,o,f,c.args.toList)
       | true=>match yE ops (bK ops.toList #[])&&(i9 ops (bK ops.toList #[])).isEmpty&&iB ops (bK ops.toList #[]) pre.length with
         | true=>some (pre,o,f,c.args.toList)
         | false=>none
     | _=>none
   | _,_=>none
 | none=>none
def PC (B:FuncId->Bool)(p:List Oper):List Oper->Option (List Oper×Oper×FuncId×List Operand×List Oper)
 | []=>none
 | o::r=>match o.guard,o.op with
   | none,.call c=>match c.callee with
     | .value (.func g)=>match B g with
       | true=>some (p,o,g,c.args.toList,r)
       | false=>PC B (p++[o]) r
     | _=>PC B (p++[o]) r
   | _,_=>PC B (p++[o]) r
def WM (B:FuncId->Bool)(ops:Array Oper)(draw:Bool):Option (List Oper×Oper×FuncId×List Operand×List Oper) :=
 match PC B [] ops.toList with
 | none=>none
 | some (p,o,g,azz,r)=>match draw with
   | false=>some (p,o,g,azz,r)
   | true=>match yE ops (bK ops.toList #[])&&(i9 ops (bK ops.toList #[])).all (fun q=>pM ops q.1&&pM ops q.2)&&iB ops (bK ops.toList #[]) p.length with
     | true=>some (p,o,g,azz,r)
     | false=>none
def NT (G:Cfg)(ops:Array Oper)(draw:Bool)(s:VS)(k:VS->Prop):Prop :=
 match G.I with
 | none=>C6 G ops draw s k
 | some J=>match aB1 ops draw with
   | none=>match WM J.B ops draw with
     | none=>C6 G ops draw s k
     | some (pre,o,g,args,post)=>vX G ops (ops.size+1) none pre s fun s1=>match GR G.P g with
       | true=>J.run g (args.map (evV s1.t)) s1 fun v s2=>vX G ops (ops.size+1) none post (VS.set s2 o.dst v) fun s'=>match !draw||(i9 ops (bK ops.toList #[])).all (PY ops s')with
         | true=>k s'
         | false=>False
       | false=>False
   | some (pre,o,f,args)=>vX G ops (ops.size+1) none pre s fun s1=>match evV s1.t f with
     | .fn g caps=>match J.B g&&GR G.P g with
       | true=>J.run g (args.map (evV s1.t)++caps) s1 fun v s2=>k (VS.set s2 o.dst v)
       | false=>FM G o s1 k
     | _=>FM G o s1 k
def U6 (kd:IntKind):Ty->Bool
 | .int k=>decide (k=kd)
 | .slc t=>U6 kd t
 | .ref t=>U6 kd t
 | .pair a b=>U6 kd a||U6 kd b
 | _=>false
def SE (kd:IntKind)(v:Int):(T:Ty)->T.den->T.den->Prop
 | .int k,x,y=>y=x\/(k=kd/\y=v)
 | .slc t,l,m=>m.length=l.length/\∀ (i:Nat) (x y:t.den),l[i]? = some x->m[i]? = some y->SE kd v t x y
 | .ref t,l,m=>m.length=l.length/\∀ (i:Nat) (x y:t.den),l[i]? = some x->m[i]? = some y->SE kd v t x y
 | .pair a b,x,y=>SE kd v a x.1 y.1/\SE kd v b x.2 y.2
 | .bool,x,y=>y=x
 | .str,x,y=>y=x
 | .unit,_,_=>True
 | .flt,x,y=>y=x
 | .cpx,x,y=>y=x
def hvL (kd:IntKind)(v:Int):VV->(VV->Prop)->Prop
 | .fz o T l,K=>match U6 kd T with
   | true=>∀ m:(Ty.slc T).den,SE kd v (.slc T) l m->K (.fz o T m)
   | false=>K (.fz o T l)
 | .pl x,K=>K (.pl x)
 | .own i,K=>K (.own i)
 | .ptr i o,K=>K (.ptr i o)
 | .hof i,K=>K (.hof i)
 | _,K=>K .undef
def aHA (kd:IntKind)(v:Int):List VV->(List VV->Prop)->Prop
 | [],K=>K []
 | x::r,K=>hvL kd v x fun y=>aHA kd v r fun l=>K (y::l)
def hvT (kd:IntKind)(v:Int)(t:List (Nat×VV)):List Nat->(List (Nat×VV)->Prop)->Prop
 | [],K=>K []
 | d::r,K=>hvL kd v (cO t d) fun y=>hvT kd v t r fun l=>K ((d,y)::l)
def hvO (kd:IntKind)(v:Int):VO->(VO->Prop)->Prop
 | .box cs false,K=>aHA kd v cs fun cs=>K (.box cs false)
 | .lst o T l fr,K=>match U6 kd T with
   | true=>∀ m:(Ty.slc T).den,SE kd v (.slc T) l m->K (.lst o T m fr)
   | false=>K (.lst o T l fr)
 | .dead b,K=>K (.dead b)
 | _,_=>False
def hvH (kd:IntKind)(v:Int):List VO->(List VO->Prop)->Prop
 | [],K=>K []
 | o::r,K=>hvO kd v o fun o=>hvH kd v r fun l=>K (o::l)
def hvS (kd:IntKind)(v:Int)(live:List Nat)(s:VS)(K:VS->Prop):Prop:=hvT kd v s.t live fun t=>hvH kd v s.h fun h=>K ⟨t,h⟩
def YR (ops:Array Oper)(draw:Bool):Option (List Oper×Oper×TypeId×Operand×Operand) :=
 match N7 ops.toList with
 | some (pre,o)=>match o.guard,o.dst,o.op with
   | none,none,.store ty a x=>match draw with
     | false=>some (pre,o,ty,a,x)
     | true=>match yE ops (bK ops.toList #[])&&(i9 ops (bK ops.toList #[])).isEmpty with
       | true=>some (pre,o,ty,a,x)
       | false=>none
   | _,_,_=>none
 | none=>none
def P0 (G:Cfg)(ops:Array Oper)(draw:Bool)(live:List Nat)(s:VS)(k:VS->Prop):Prop :=
 match G.hv with
 | false=>NT G ops draw s k
 | true=>match YR ops draw with
   | none=>NT G ops draw s k
   | some (pre,o,ty,a,x)=>vX G ops (ops.size+1) none pre s fun s1=>match evV s1.t a,evV s1.t x with
     | .fptr true (.int kd) _ _ 0,.pl (.int kd' v)=>if kd=kd'/\MO G.P ty=some 1 then hvS kd v live s1 k else False
     | _,_=>FM G o s1 k
def KC:Nat->List VO->List Nat->List Nat->List Nat
 | 0,_,_,acc=>acc
 | _+1,_,[],acc=>acc
 | n+1,h,i::todo,acc =>
   match acc.contains i with
   | true=>KC n h todo acc
   | false=>KC n h (todo++(match bO h i with
    | .box cs _=>cs.flatMap aFM
    | _=>[])) (acc++[i])
def vC (i:Nat):List Nat->Nat->Option Nat
 | [],_=>none
 | j::l,n=>if i=j then some n else vC i l (n+1)
def V7 (ids:List Nat):VV->VV
 | .own i=>match vC i ids 0 with
   | some j => .own j
   | none => .undef
 | .ptr i off=>match vC i ids 0 with
   | some j => .ptr j off
   | none => .undef
 | .eptr i ix off=>match vC i ids 0 with
   | some j => .eptr j ix off
   | none => .undef
 | .pl v => .pl v
 | .er b => .er b
 | .fz o t l => .fz o t l
 | .fptr o t l ix off => .fptr o t l ix off
 | .hof i => .hof i
 | _ => .undef
def aEb (ids:List Nat):VV->VV
 | .agg l => .agg (l.map (V7 ids))
 | .bx l off => .bx (l.map (V7 ids)) off
 | .bs l => .bs (l.map (V7 ids))
 | v=>V7 ids v
def aIA (ids:List Nat):VV->VV
 | .tup l => .tup (l.map (aEb ids))
 | .fn f l => .fn f (l.map (aEb ids))
 | v=>aEb ids v
def VM (ids:List Nat):VO->VO
 | .box cs fr => .box (cs.map (V7 ids)) fr
 | o=>o
def P5 (live:List Nat)(s:VS):List VV×List VO :=
 let vs:=live.map (cO s.t)
 let ids:=KC (2*s.h.length+40) s.h (vs.flatMap aGw) []
 (vs.map (aIA ids),ids.map fun i=>VM ids (bO s.h i))
inductive Lf
 | int (k:IntKind)
 | bool
 | str
 | flt
 | cpx
 | fz (o:Bool) (t:Ty)
 | cst (v:VV)
 | fp (o:Bool) (t:Ty)
@[reducible] def Lf.den:Lf->Type
  | .int _=>Int
  | .bool=>Bool
  | .str=>ByteArray
  | .flt=>Nat
  | .cpx=>Nat×Nat
  | .fz _ t=>List t.den
  | .cst _=>Unit
  | .fp _ t=>t.den
inductive Cp
 | lf (x:Lf)
 | agg (l:List Lf)
 | bx (l:List Lf)
inductive Sh
 | lf (x:Lf)
 | agg (l:List Lf)
 | bx (l:List Lf)
 | fn (g:FuncId) (l:List Cp)
abbrev lI:Lf := .int .i64
abbrev lB:Lf := .bool
abbrev lZ (t:Ty):Lf := .fz false t
abbrev sI:Sh := .lf (.int .i64)
abbrev sB:Sh := .lf .bool
abbrev sZ (t:Ty):Sh := .lf (.fz false t)
abbrev sC (v:VV):Sh := .lf (.cst v)
@[reducible] def vI (n:Int):VV := .pl (.int .i64 n)
@[reducible] def vB (b:Bool):VV := .pl (.bool b)
@[reducible] def vK (k:IntKind) (n:Int):VV := .pl (.int k n)
@[reducible] def vZ (t:Ty) (l:List t.den):VV := .fz false t l
abbrev QT:=List (Bool×List VV)->Prop
inductive OSh
 | box (l:List Lf) (fr:Bool)
 | lst (o:Bool) (t:Ty) (fr:Bool)
 | dead
@[reducible] def O3:List Lf->Type
  | []=>Unit
  | x::l=>x.den×O3 l
@[reducible] def Cp.den:Cp->Type
  | .lf x=>x.den
  | .agg l=>O3 l
  | .bx l=>O3 l
@[reducible] def aAr:List Cp->Type
  | []=>Unit
  | x::l=>x.den×aAr l
@[reducible] def Sh.den:Sh->Type
  | .lf x=>x.den
  | .agg l=>O3 l
  | .bx l=>O3 l
  | .fn _ l=>aAr l
@[reducible] def uJ:List Sh->Type
  | []=>Unit
  | x::l=>x.den×uJ l
@[reducible] def OSh.den:OSh->Type
  | .box l _=>O3 l
  | .lst _ t _=>List t.den
  | .dead=>Unit
@[reducible] def RR:List OSh->Type
  | []=>Unit
  | x::l=>x.den×RR l
def MG:(x:Lf)->x.den->VV
 | .int k,n => .pl (.int k n)
 | .bool,b => .pl (.bool b)
 | .str,s => .pl (.string s)
 | .flt,x => .pl (.float .f64 x)
 | .cpx,x => .pl (.complex .f64 x.1 x.2)
 | .fz o t,l => .fz o t l
 | .cst v,_=>v
 | .fp o t,x => .fptr o t [x] 0 0
def LM:(l:List Lf)->O3 l->List VV
 | [],_=>[]
 | x::l,d=>MG x d.1::LM l d.2
def aAD:(x:Cp)->x.den->VV
 | .lf x,d=>MG x d
 | .agg l,d => .agg (LM l d)
 | .bx l,d => .bx (LM l d) 0
def aBY:(l:List Cp)->aAr l->List VV
 | [],_=>[]
 | x::l,d=>aAD x d.1::aBY l d.2
def ZO:(x:Sh)->x.den->VV
 | .lf x,d=>MG x d
 | .agg l,d => .agg (LM l d)
 | .bx l,d => .bx (LM l d) 0
 | .fn g l,d => .fn g (aBY l d)
def vG:(l:List Sh)->uJ l->List VV
 | [],_=>[]
 | x::l,d=>ZO x d.1::vG l d.2
def aCq:(x:OSh)->x.den->VO
 | .box l fr,d => .box (LM l d) fr
 | .lst o t fr,d => .lst o t d fr
 | .dead,_ => .dead false
def aEJ:(l:List OSh)->RR l->List VO
 | [],_=>[]
 | x::l,d=>aCq x d.1::aEJ l d.2
def PL:VV->VV->Bool
 | .own i,.own j=>i==j
 | .ptr i o,.ptr j o'=>i==j&&o==o'
 | .undef,.undef=>true
 | .hof i,.hof j=>i==j
 | .pl (.int k a),.pl (.int k' b)=>decide (k=k')&&a==b
 | .pl (.bool a),.pl (.bool b)=>a==b
 | .pl (.slice none a b),.pl (.slice none c d)=>a==c&&b==d
 | .pl .nilFunc,.pl .nilFunc=>true
 | .pl (.pointer none),.pl (.pointer none)=>true
 | _,_=>false
def UP:List VV->List VV->Bool
 | [],[]=>true
 | a::l,b::r=>PL a b&&UP l r
 | _,_=>false
def TR:VV->VV->Bool
 | .fn f l,.fn g r=>f==g&&UP l r
 | a,b=>PL a b
def unF (x:Lf)(v:VV)(K:x.den->Prop):Prop :=
 match x with
 | .int k=>match v with
   | .pl (.int k' n)=>if k=k' then K n else False
   | _=>False
 | .bool=>match v with
   | .pl (.bool b)=>K b
   | _=>False
 | .str=>match v with
   | .pl (.string s)=>K s
   | _=>False
 | .flt=>match v with
   | .pl (.float .f64 x)=>K x
   | _=>False
 | .cpx=>match v with
   | .pl (.complex .f64 a b)=>K (a,b)
   | _=>False
 | .fz o t=>match v with
   | .fz o' t' l=>if o=o' then Ty.at t' t l K else False
   | _=>False
 | .cst c=>if TR c v=true then K ()else False
 | .fp o t=>match v with
   | .fptr o' t' l 0 0=>if o=o' then Ty.at t' t l fun l=>(match l with
     | [x]=>K x
     | _=>False)else False
   | _=>False
def unL:(l:List Lf)->List VV->(O3 l->Prop)->Prop
 | [],vs,K=>match vs with
   | []=>K ()
   | _=>False
 | x::l,vs,K=>match vs with
   | v::r=>unF x v fun a=>unL l r fun b=>K (a,b)
   | []=>False
def aG9 (x:Cp)(v:VV)(K:x.den->Prop):Prop :=
 match x with
 | .lf x=>unF x v K
 | .agg l=>match v with
   | .agg cs=>unL l cs K
   | _=>False
 | .bx l=>match v with
   | .bx cs 0=>unL l cs K
   | _=>False
def unC:(l:List Cp)->List VV->(aAr l->Prop)->Prop
 | [],vs,K=>match vs with
   | []=>K ()
   | _=>False
 | x::l,vs,K=>match vs with
   | v::r=>aG9 x v fun a=>unC l r fun b=>K (a,b)
   | []=>False
def aGD (x:Sh)(v:VV)(K:x.den->Prop):Prop :=
 match x with
 | .lf x=>unF x v K
 | .agg l=>match v with
   | .agg cs=>unL l cs K
   | _=>False
 | .bx l=>match v with
   | .bx cs 0=>unL l cs K
   | _=>False
 | .fn g l=>match v with
   | .fn g' cs=>if g=g' then unC l cs K else False
   | _=>False
def unS:(l:List Sh)->List VV->(uJ l->Prop)->Prop
 | [],vs,K=>match vs with
   | []=>K ()
   | _=>False
 | x::l,vs,K=>match vs with
   | v::r=>aGD x v fun a=>unS l r fun b=>K (a,b)
   | []=>False
def aGL (x:OSh)(v:VO)(K:x.den->Prop):Prop :=
 match x with
 | .box l fr=>match v with
   | .box cs fr'=>if fr=fr' then unL l cs K else False
   | _=>False
 | .lst o t fr=>match v with
   | .lst o' t' l fr'=>if o=o'/\fr=fr' then Ty.at t' t l K else False
   | _=>False
 | .dead=>match v with
   | .dead false=>K ()
   | _=>False
def unO:(l:List OSh)->List VO->(RR l->Prop)->Prop
 | [],vs,K=>match vs with
   | []=>K ()
   | _=>False
 | x::l,vs,K=>match vs with
   | v::r=>aGL x v fun a=>unO l r fun b=>K (a,b)
   | []=>False
def NM:List Nat->List VV->List (Nat×VV)
 | d::ds,v::vs=>(d,v)::NM ds vs
 | _,_=>[]
structure Ent where
 live:List Nat
 sh:List Sh
 ob:List OSh
 P:uJ sh×RR ob->(dU->VS->Prop)->Prop
def V5 (live:List Nat)(sh:List Sh)(ob:List OSh)(x:uJ sh×RR ob):VS:=⟨NM live (vG sh x.1),aEJ ob x.2⟩
def aGk (live:List Nat)(sh:List Sh)(ob:List OSh)(s:VS)(K:uJ sh×RR ob->Prop):Prop :=
 let c:=P5 live s
 unS sh c.1 fun a=>unO ob c.2 fun b=>K (a,b)
def Ent.run (E:Ent)(s:VS)(k:dU->VS->Prop):Prop:=aGk E.live E.sh E.ob s fun x=>E.P x k
def Loop {S:Type}(B:S->(S->Prop)->Prop)(s:S):Prop:=∀ X:S->Prop,(∀ s,B s X->X s)->X s
abbrev Tab:=Nat->Option Ent
structure Co where
 d:Nat
 cell:Option Nat
 fz:Bool
 T:Ty
abbrev tS:=Nat->Option (List Co×List Nat)
def conv (fz:Bool)(T:Ty)(h:List VO)(v:VV):Option (VV×List VO) :=
 match fz,v with
 | false,.pl (.slice none 0 0)=>some (.own h.length,h++[.lst true T [] false])
 | true,.pl (.slice none 0 _)=>some (.fz false T [],h)
 | true,.own i=>match bO h i with
   | .lst _ t l _=>some (.fz false t l,cY h [i])
   | _=>none
 | true,.fz _ t l=>some (.fz false t l,h)
 | _,_=>none
def co1 (s:VS)(c:Co):VS :=
 match c.cell with
 | none=>match conv c.fz c.T s.h (cO s.t c.d)with
   | some (v,h)=>⟨(c.d,v)::s.t,h⟩
   | none=>s
 | some q=>match cO s.t c.d with
   | .ptr i _=>match bO s.h i with
     | .box cs fr=>match cs[q]? with
       | some u=>match conv c.fz c.T s.h u with
         | some (v,h)=>⟨s.t,h.set i (.box (cs.set q v) fr)⟩
         | none=>s
       | none=>s
     | _=>s
   | _=>s
def aEF:List Co->VS->VS
 | [],s=>s
 | c::cs,s=>aEF cs (co1 s c)
def xW (ct:Tab)(n:Nat)(f:VS->(dU->VS->Prop)->Prop)(s:VS)(k:dU->VS->Prop):Prop :=
 match ct n with
 | some E=>E.run s k
 | none=>f s k
def aHg (live:List Nat)(s:VS):VS:=⟨NM live (P5 live s).1,(P5 live s).2⟩
def xF (en:tS)(n:Nat)(s:VS):VS :=
 match en n with
 | some (cs,l)=>aHg l (aEF cs s)
 | none=>s
def aE7 (x:Nat):List Nat->List Nat
 | []=>[x]
 | y::l=>if x<y then x::y::l else if x=y then y::l else y::aE7 x l
def aH4 (a b:List Nat):List Nat:=a.foldr aE7 b
def aIN (x:Nat)(l:List Nat):List Nat:=l.filter fun y => !(Nat.beq y x)
def aHj (o:Operand)(l:List Nat):List Nat :=
 match o with
 | .tmp i=>aE7 i l
 | _=>l
def WL (ops:Array Oper):List Oper->List Nat->List Nat
 | [],out=>out
 | o::l,out=>(match o.guard with
   | some (j,_)=>(match (ops[j]?).bind (·.dst)with
     | some d=>aE7 d
     | none=>id)
   | none=>id) (o.op.operands.toList.foldr aHj (match o.dst with
     | some d=>aIN d (WL ops l out)
     | none=>WL ops l out))
def aDO (n:Nat):List (Nat×List Nat)->List Nat
 | []=>[]
 | (i,l)::r=>if i=n then l else aDO n r
def aI4 (a b:List Nat):Bool:=a.all fun x=>b.any fun y=>Nat.beq y x
def aHt (f:List Nat->List Nat):Nat->List Nat->List Nat
 | 0,L=>L
 | k+1,L=>(fun N=>match aI4 N L with
   | true=>L
   | false=>aHt f k (aH4 N L)) (f L)
def lvC (res:List Nat):Code->Nat->List Nat->List (Nat×List Nat)->List Nat×List (Nat×List Nat)
 | .region _ ops _,n,out,_=>(WL ops ops.toList out,[(n,out)])
 | .seq a b,n,out,ex=>match lvC res b (2*n+1) out ex with
   | (lb,tb)=>match lvC res a (2*n) lb ex with
     | (la,ta)=>(la,ta++tb)
 | .cond c a b,n,out,ex=>match lvC res a (2*n) out ex,lvC res b (2*n+1) out ex with
   | (la,ta),(lb,tb)=>(aHj c (aH4 la lb),ta++tb)
 | .block id b,n,out,ex=>lvC res b (2*n) out ((id,out)::ex)
 | .loop b,n,_,ex=>(fun L=>(L,(n,L)::(lvC res b (2*n) L ex).2)) (aHt (fun L=>(lvC res b (2*n) L ex).1) 20 [])
 | .exit id,n,_,ex=>(aDO id ex,[(n,aDO id ex)])
 | .ret,n,_,_=>(res,[(n,res)])
 | _,n,out,_=>(out,[(n,out)])
def aFg (n:Nat):List (Nat×List Nat)->Option (List Nat)
 | []=>none
 | (i,l)::r=>if i=n then some l else aFg n r
def coS (n:Nat):List (Nat×List Co)->List Co
 | []=>[]
 | (i,l)::r=>if i=n then l else coS n r
def XU (b:Code)(res:List Nat)(cos:List (Nat×List Co)):tS:=fun n=>match aFg n (lvC res b 1 res []).2 with
 | some l=>some (coS n cos,l)
 | none=>none
def unr {S:Type}(B:S->(S->Prop)->Prop):Nat->S->Prop
 | 0,_=>False
 | n+1,s=>B s (unr B n)
def LB (k:dU->VS->Prop)(en:tS)(n:Nat)(b:VS->(dU->VS->Prop)->Prop)(s:VS)(nx:VS->Prop):Prop :=
 b s fun e s'=>match e with
   | .normal=>nx (xF en n s')
   | e=>k e s'
def aGR (en:tS)(n:Nat):List Nat :=
 match en n with
 | some (_,l)=>l
 | none=>[]
def vwp (G:Cfg)(ct:Tab)(en:tS):Code->Nat->VS->(dU->VS->Prop)->Prop
 | .skip,n,s,k=>k .normal (xF en n s)
 | .label _,n,s,k=>k .normal (xF en n s)
 | .region _ ops draw,n,s,k=>P0 G ops draw (aGR en n) s fun s'=>k .normal (xF en n s')
 | .seq a b,n,s,k=>xW ct (2*n) (vwp G ct en a (2*n)) s fun e s'=>match e with
   | .normal=>xW ct (2*n+1) (vwp G ct en b (2*n+1)) s' k
   | e=>k e s'
 | .cond c x y,n,s,k=>match evV s.t c with
   | .pl (.bool b)=>if b=true then xW ct (2*n) (vwp G ct en x (2*n)) s k else xW ct (2*n+1) (vwp G ct en y (2*n+1)) s k
   | _=>False
 | .block id b,n,s,k=>xW ct (2*n) (vwp G ct en b (2*n)) s fun e s'=>match e with
   | .exit id'=>k (if id'=id then .normal else .exit id') s'
   | e=>k e s'
 | .loop b,n,s,k=>match G.un with
   | 0=>Loop (LB k en n (xW ct (2*n) (vwp G ct en b (2*n)))) (xF en n s)
   | u+1=>unr (LB k en n (xW ct (2*n) (vwp G ct en b (2*n)))) (u+1) (xF en n s)
 | .exit id,n,s,k=>k (.exit id) (xF en n s)
 | .ret,n,s,k=>k .ret (xF en n s)
 | _,_,_,_=>False
def HN (x:Lf)(v:VV)(K:x.den->Prop):Prop :=
 match x with
 | .fz false t=>match v with
   | .fz false t' l=>Ty.at t' t l K
   | .pl (.slice none 0 _)=>K []
   | _=>False
 | x=>unF x v K
def W6:(l:List Lf)->List VV->(O3 l->Prop)->Prop
 | [],vs,K=>match vs with
   | []=>K ()
   | _=>False
 | x::l,vs,K=>match vs with
   | v::r=>HN x v fun a=>W6 l r fun b=>K (a,b)
   | []=>False
def aDw (x:Cp)(v:VV)(K:x.den->Prop):Prop :=
 match x with
 | .lf x=>HN x v K
 | .agg l=>match v with
   | .agg cs=>W6 l cs K
   | _=>False
 | .bx l=>match v with
   | .bx cs 0=>W6 l cs K
   | _=>False
def aDJ:(l:List Cp)->List VV->(aAr l->Prop)->Prop
 | [],vs,K=>match vs with
   | []=>K ()
   | _=>False
 | x::l,vs,K=>match vs with
   | v::r=>aDw x v fun a=>aDJ l r fun b=>K (a,b)
   | []=>False
def aDH (x:Sh)(v:VV)(K:x.den->Prop):Prop :=
 match x with
 | .lf x=>HN x v K
 | .agg l=>match v with
   | .agg cs=>W6 l cs K
   | _=>False
 | .bx l=>match v with
   | .bx cs 0=>W6 l cs K
   | _=>False
 | .fn g l=>match v with
   | .fn g' cs=>if g=g' then aDJ l cs K else False
   | _=>False
def YU:List VV->List Nat
 | []=>[]
 | .fn g _::l=>g::YU l
 | _::l=>YU l
def aFc:List Nat->List Nat->Bool
 | [],[]=>true
 | a::l,b::r=>a==b&&aFc l r
 | _,_=>false
def unA:(l:List Sh)->List VV->(uJ l->Prop)->Prop
 | [],vs,K=>match vs with
   | []=>K ()
   | _=>False
 | x::l,vs,K=>match vs with
   | v::r=>aDH x v fun a=>unA l r fun b=>K (a,b)
   | []=>False
def QC (G:Cfg)(s:VS):List ResultVar->(List VV->Prop)->Prop
 | [],K=>K []
 | .tmp d::r,K=>QC G s r fun l=>K (cO s.t d::l)
 | .cell d ty::r,K=>match cO s.t d with
   | .ptr i off=>match bO s.h i with
     | .box cs _=>zJ (aTy G.P ty) cs off fun v=>QC G s r fun l=>K (v::l)
     | _=>False
   | _=>False
def xp:(t:Ty)->List VV->List VO->(t.den->List VV->List VO->Prop)->Prop
 | .int k,cs,h,K=>match cs with
   | .pl (.int k' n)::r=>if k=k' then K n r h else False
   | _=>False
 | .bool,cs,h,K=>match cs with
   | .pl (.bool b)::r=>K b r h
   | _=>False
 | .str,cs,h,K=>match cs with
   | .pl (.string s)::r=>K s r h
   | _=>False
 | .flt,cs,h,K=>match cs with
   | .pl (.float .f64 x)::r=>K x r h
   | _=>False
 | .cpx,cs,h,K=>match cs with
   | .pl (.complex .f64 a b)::r=>K (a,b) r h
   | _=>False
 | .ref _,_,_,_=>False
 | .slc t,cs,h,K=>match cs with
   | .own i::r=>match bO h i with
     | .lst true t' l false=>Ty.at t' t l fun l=>K l r (h.set i (.dead false))
     | _=>False
   | .pl (.slice none 0 0)::r=>K [] r h
   | _=>False
 | .unit,cs,h,K=>K () cs h
 | .pair a b,cs,h,K=>xp a cs h fun x r h'=>xp b r h' fun y r' h''=>K (x,y) r' h''
inductive Al
 | n
 | f
 | z
 | p (a b:Al)
def xpA:Al->(t:Ty)->List VV->List VO->(t.den->List VV->List VO->Prop)->Prop
 | .f,.slc t,cs,h,K=>match cs with
   | .fz _ t' l::r=>Ty.at t' t l fun l=>K l r h
   | .own i::r=>match bO h i with
     | .lst _ t' l true=>Ty.at t' t l fun l=>K l r h
     | _=>False
   | .pl (.slice none 0 0)::r=>K [] r h
   | _=>False
 | .z,.slc t,cs,h,K=>match cs with
   | .own i::r=>match bO h i with
     | .lst true t' l false=>Ty.at t' t l fun l=>ck (l≠[]) (K l r (h.set i (.dead false)))
     | _=>False
   | .pl (.slice none 0 0)::r=>K [] r h
   | _=>False
 | .p x y,.pair a b,cs,h,K=>xpA x a cs h fun u r h'=>xpA y b r h' fun v r' h''=>K (u,v) r' h''
 | _,t,cs,h,K=>xp t cs h K
abbrev IL:=List (Bool×Ty)
@[reducible] def aAj:IL->Type
  | []=>Unit
  | (_,t)::l=>t.den×aAj l
def aFA:(t:Ty)->t.den->List VV
 | .int k,n=>[.pl (.int k n)]
 | .bool,b=>[.pl (.bool b)]
 | .str,s=>[.pl (.string s)]
 | .flt,x=>[.pl (.float .f64 x)]
 | .cpx,x=>[.pl (.complex .f64 x.1 x.2)]
 | .slc t,l=>[.nw t l]
 | .ref _,_=>[.undef]
 | .unit,_=>[]
 | .pair a b,x=>aFA a x.1++aFA b x.2
def VD:Al->(t:Ty)->t.den->List VV
 | .f,.slc t,l=>[.fz false t l]
 | .p x y,.pair a b,d=>VD x a d.1++VD y b d.2
 | _,t,d=>aFA t d
def zmk:Bool->Al->Ty->List VV
 | false,.z,.slc _=>[.undef]
 | _,_,_=>[]
def kK:(rt:IL)->List Al->aAj rt->List (Bool×List VV)
 | [],_,_=>[]
 | (g,t)::l,al,d=>(g,VD (al.headD .n) t d.1++zmk g (al.headD .n) t)::kK l al.tail d.2
abbrev aH6 (rt:IL)(d:aAj rt):List (Bool×List VV):=kK rt [] d
def WP:VV->Bool
 | .agg _=>true
 | _=>false
def QX:(rt:IL)->List Al->List VV->List VO->(aAj rt->Prop)->Prop
 | [],_,vs,_,K=>match vs with
   | []=>K ()
   | _=>False
 | (g,t)::l,al,vs,h,K=>match vs with
   | v::r=>if WP v=g/\(g=true\/okL v=true)then xpA (al.headD .n) t (dK v) h fun x left h'=>match left with
      | []=>QX l al.tail r h' fun y=>K (x,y)
      | _=>False
     else False
   | []=>False
def EC (args:List VV):List (Nat×VV):=NM (List.range args.length) args
def GV (n:Nat)(t:List (Nat×VV)):List (Nat×VV):=t.map fun p=>(p.1+n,p.2)
def o5 (n:Nat):List (Nat×VV)->List (Nat×VV)
 | []=>[]
 | (d,v)::l=>if n<=d then(d-n,v)::o5 n l else o5 n l
def r1B:VV->Bool
 | .tup _ | .fn _ _=>false
 | _=>true
def UW (G:Cfg)(ct:Tab)(en:tS)(fn:Func)(c:Code)(args:List VV)(s:VS)(k:VV->VS->Prop):Prop :=
 if args.length<=fn.ntmps then xW ct 1 (vwp G ct en c 1) ⟨EC args++GV fn.ntmps s.t,s.h⟩ fun e s2=>match e with
  | .normal | .ret=>QC G s2 fn.results.toList fun vs=>if vs.all r1B=true then k (QH vs) ⟨o5 fn.ntmps s2.t,s2.h⟩else False
  | _=>False
 else False
def aAc (G:Cfg)(ct:Tab)(en:tS)(fn:Func)(c:Code)(rt:IL)(al:List Al)(args:List VV)(Q:aAj rt->Prop):Prop :=
 xW ct 1 (vwp G ct en c 1) ⟨EC args,[]⟩ fun e s=>match e with
  | .normal | .ret=>QC G s fn.results.toList fun vs=>QX rt al vs s.h Q
  | _=>False
end Go.Mach
