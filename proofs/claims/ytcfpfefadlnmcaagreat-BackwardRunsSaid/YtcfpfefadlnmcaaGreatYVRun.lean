/- Part of the proof. No condition. -/
import Derived.Test.YtcfpfefadlnmcaaGreatYVDef
namespace Go.Mach
def QG:List VV->List VO->List VV×List VO
 | [],h=>([],h)
 | v::r,h=>match v with
   | .nw t l=>let p:=QG r (h++[.lst true t l false]);(.own h.length::p.1,p.2)
   | v=>let p:=QG r h;(v::p.1,p.2)
def GG:List (Bool×List VV)->List VO->List VV×List VO
 | [],h=>([],h)
 | (g,cs)::r,h =>
   let p:=QG cs h
   let q:=GG r p.2
   ((if g then .agg p.1 else p.1.headD .undef)::q.1,q.2)
def aBJ:List VV->VV
 | [v]=>v
 | vs => .tup vs
def PT (h:List VO):VV->List Nat
 | .agg l=>l.flatMap uQ
 | .ptr i _=>i::(match dD h i with
   | .box cs _=>cs.flatMap uQ
   | _=>[])
 | .bx l _=>l.flatMap uQ
 | v=>uQ v
def Q3 (h:List VO):VV->List Nat
 | .fn _ l=>l.flatMap (PT h)
 | v=>PT h v
def aNu:VV->Bool
 | .fz _ _ _=>true
 | .fn _ _=>true
 | _=>false
def SF (sl:List (Bool×List VV)):Bool:=sl.any fun p=>p.2.any aNu
def QL:List (Bool×List VV)->(List (Bool×List VV)->Prop)->Prop
 | [],k=>k []
 | p::r,k=>match p with
   | (false,[.nw T l,.undef])=>nz l (QL r fun r'=>k ((false,[.pl (.slice none 0 0)])::r')) (QL r fun r'=>k ((false,[.nw T l])::r'))
   | p=>QL r fun r'=>k (p::r')
def aJ7 (G:Cfg)(f:VV)(args:List VV)(h:List VO)(K:VV->List VO->Prop):Prop :=
 match f with
 | .fn g caps=>if SO G.P g then
  G.O g (args.map (aFw h)++caps.map (aFw h)) (fun r=>QL r fun r=>let p:=GG r (match SF r with
    | true=>eO h ((args++caps).flatMap (Q3 h))
    | false=>h);K (aBJ p.1) p.2)else False
 | _=>False
def RQ (G:Cfg)(o:Oper)(s:VS)(k:VS->Prop):Prop :=
 match o.op with
 | .call c=>match c.callee with
   | .value f=>aJ7 G (evV s.t f) (c.args.toList.map (evV s.t)) s.h fun v h=>k (VS.set ⟨s.t,h⟩ o.dst v)
   | _=>d6 G o.op s.t s.h fun v h=>k (VS.set ⟨s.t,h⟩ o.dst v)
 | _=>d6 G o.op s.t s.h fun v h=>k (VS.set ⟨s.t,h⟩ o.dst v)
def UY:Option (Nat×Bool)->Option (Nat×Bool)->Bool
 | none,none=>true
 | some (i,a),some (j,b)=>i==j&&a==b
 | _,_=>false
def Q8 (g:Option (Nat×Bool)):List Oper->List Oper×List Oper
 | []=>([],[])
 | o::l=>if UY o.guard g then([],o::l)else let r:=Q8 g l;(o::r.1,r.2)
def AY:Op->Bool
 | .move _ | .assign _ | .load .. | .binOp .. | .unOp .. | .fieldAddr .. | .field .. | .indexAddr .. | .index .. | .extract .. | .convert .. | .pick .. => true
 | .alloc _ | .box .. | .build .. | .buildSlice .. | .makeSlice .. | .slice .. | .sliceToArrayPointer .. | .nilCheck .. => true
 | .call c=>match c.callee with
   | .builtin .len | .builtin .min | .builtin .max | .builtin .complex | .builtin .real | .builtin .imag=>true
   | .value _=>true
   | _=>false
 | _=>false
def F9:Op->Bool
 | .move _ | .assign _ | .load .. | .unOp .. | .fieldAddr .. | .field .. | .extract .. | .convert .. | .pick .. => true
 | .binOp b _ _ _ _=>match b with
   | .shl | .shr | .quo | .rem=>false
   | _=>true
 | .call c=>match c.callee with
   | .builtin .len | .builtin .min | .builtin .max | .builtin .complex | .builtin .real | .builtin .imag=>true
   | _=>false
 | _=>false
def aHa (ops:Array Oper)(j:Nat)(w:Bool):List Nat->List Oper->Bool
 | _,[]=>true
 | known,o::l=>(match o.guard with
   | none=>false
   | some (j',w')=>(j'==j&&w'==w)||(match (ops[j']?).bind (·.dst)with
     | some x=>known.contains x
     | none=>false))&&aHa ops j w (match o.dst with
       | some x=>x::known
       | none=>known) l
def AK:List Oper->List (Nat×VV)->List (Nat×VV)
 | [],t=>t
 | o::l,t=>match o.dst with
   | some d=>(d,.undef)::AK l t
   | none=>AK l t
def VI (h:Nat):VV->VV
 | .ptr i off=>if i<h then .mptr i off else .undef
 | _ => .undef
def zB (h:Nat):List Oper->List (Nat×VV)->List (Nat×VV)->List (Nat×VV)
 | [],_,t=>t
 | o::l,t2,t=>match o.dst with
   | some d=>(d,VI h (eH t2 d))::zB h l t2 t
   | none=>zB h l t2 t
def RU (v:VV)(K:Bool->Prop):Prop :=
 match v with
 | .pl (.bool b)=>K b
 | _=>False
def aCl:Operand->Option Bool
 | .const (.bool b)=>some b
 | _=>none
def aKG (d:Nat)(b:Oper):Bool :=
 match b.dst with
 | some x=>x != d
 | none=>true
def D5 (G:Cfg)(ops:Array Oper):Nat->Option (Nat×Bool)->List Oper->VS->(VS->Prop)->Prop
 | 0,_,_,_,_=>False
 | _+1,_,[],s,k=>k s
 | n+1,g,o::rest,s,k =>
   match UY o.guard g with
   | true=>RQ G o s fun s'=>D5 G ops n g rest s' k
   | false=>match Q8 g (o::rest),o.guard with
     | (body,res::rest'),some (j,w) =>
       match (ops[j]?).bind (·.dst),res.op,res.dst with
       | some d,.pick (.tmp c) x y,some r =>
         match c==d&&r != d&&body.all (fun b=>aKG d b&&AY b.op)&&aHa ops j w [] body&&aCl (if w then y else x)==some (!w),eH s.t d with
         | true,.pl (.bool b) =>
           match body.all (fun b=>F9 b.op)with
           | true=>D5 G ops n (some (j,w)) body s fun s2=>RU (evV s2.t (if w then x else y)) fun v =>
            D5 G ops n g rest' ⟨(r,.pl (.bool (if w then b&&v else b||v)))::zB s.h.length body s2.t s.t,s.h⟩ k
           | false=>jn (fun v=>D5 G ops n g rest' ⟨(r,.pl (.bool v))::AK body s.t,s.h⟩ k) fun J =>
            if b=true then(if w=true then D5 G ops n (some (j,w)) body s fun s2=>RU (evV s2.t x) J else J true)
            else(if w=true then J false else D5 G ops n (some (j,w)) body s fun s2=>RU (evV s2.t y) J)
         | _,_=>False
       | _,_,_=>False
     | _,_=>False
def T0:VV->Option (List (Option Nat))
 | .own i | .ptr i _ | .eptr i _ _ | .mptr i _=>some [some i]
 | .fptr _ _ _ _ _ | .bx _ _=>some [none]
 | .pl _ | .agg _ | .tup _ | .fn _ _=>some []
 | _=>none
def YS:List VV->Option (List (Option Nat))
 | []=>some []
 | v::l=>match T0 v,YS l with
   | some a,some b=>some (a++b)
   | _,_=>none
def aLc (op:Op)(t:List (Nat×VV)):Option (List (Option Nat)) :=
 match op with
 | .load _ a=>T0 (evV t a)
 | .store _ a _=>T0 (evV t a)
 | .convert _ _ x=>T0 (evV t x)
 | .call c=>match c.callee with
   | .builtin .append | .builtin .copy=>YS (c.args.toList.map (evV t))
   | _=>some []
 | _=>some []
def wrV (op:Op)(t:List (Nat×VV)):Option (List (Option Nat)) :=
 match op with
 | .store _ a _=>T0 (evV t a)
 | .call c=>match c.callee with
   | .builtin .append | .builtin .copy=>match c.args.toList with
     | x::_=>T0 (evV t x)
     | []=>some []
   | _=>some []
 | _=>some []
def PR (h:List VO):Option Nat->Option Nat->Bool
 | some i,some j=>i != j&&((boxB (dD h i)||boxB (dD h j))||ownB (dD h i)&&ownB (dD h j))
 | some i,none=>ownB (dD h i)
 | none,some j=>ownB (dD h j)
 | none,none=>false
where
 ownB:VO->Bool
  | .box _ fr => !fr
  | .lst _ _ _ fr => !fr
  | .dead b=>b
 boxB:VO->Bool
  | .box _ _=>true
  | _=>false
def aDj (h:List VO):Option (List (Option Nat))->Option (List (Option Nat))->Bool
 | some [],_=>true
 | _,some []=>true
 | some a,some b=>a.all fun x=>b.all fun y=>PR h x y
 | _,_=>false
def aBU (ops:Array Oper)(s:VS)(p:Nat×Nat):Bool :=
 match ops[p.1]?,ops[p.2]? with
 | some oi,some oj=>aDj s.h (wrV oi.op s.t) (aLc oj.op s.t)&&aDj s.h (aLc oi.op s.t) (wrV oj.op s.t)
 | _,_=>false
def PP (G:Cfg)(ops:Array Oper)(draw:Bool)(s:VS)(k:VS->Prop):Prop :=
 match draw with
 | false=>D5 G ops (ops.size+1) none ops.toList s k
 | true=>match GK ops (cY ops.toList #[])&&(n6 ops (cY ops.toList #[])).all (fun p=>wT ops p.1&&wT ops p.2)with
   | true=>D5 G ops (ops.size+1) none ops.toList s fun s'=>match (n6 ops (cY ops.toList #[])).all (aBU ops s')with
     | true=>k s'
     | false=>False
   | false=>False
def aBG:List Oper->Option (List Oper×Oper)
 | []=>none
 | o::l=>match l,aBG l with
   | [],_=>some ([],o)
   | _::_,some (p,x)=>some (o::p,x)
   | _::_,none=>none
def aIB (ops:Array Oper)(draw:Bool):Option (List Oper×Oper×Operand×List Operand) :=
 match aBG ops.toList with
 | some (pre,o)=>match o.guard,o.op with
   | none,.call c=>match c.callee with
     | .value f=>match draw with
       | false=>some (pre,o,f,c.args.toList)
       | true=>match GK ops (cY ops.toList #[])&&(n6 ops (cY ops.toList #[])).isEmpty&&lQ ops (cY ops.toList #[]) pre.length with
         | true=>some (pre,o,f,c.args.toList)
         | false=>none
     | _=>none
   | _,_=>none
 | none=>none
def aBF (B:FuncId->Bool)(p:List Oper):List Oper->Option (List Oper×Oper×FuncId×List Operand×List Oper)
 | []=>none
 | o::r=>match o.guard,o.op with
   | none,.call c=>match c.callee with
     | .value (.func g)=>match B g with
       | true=>some (p,o,g,c.args.toList,r)
       | false=>aBF B (p++[o]) r
     | _=>aBF B (p++[o]) r
   | _,_=>aBF B (p++[o]) r
def aD9 (B:FuncId->Bool)(ops:Array Oper)(draw:Bool):Option (List Oper×Oper×FuncId×List Operand×List Oper) :=
 match aBF B [] ops.toList with
 | none=>none
 | some (p,o,g,azz,r)=>match draw with
   | false=>some (p,o,g,azz,r)
   | true=>match GK ops (cY ops.toList #[])&&(n6 ops (cY ops.toList #[])).all (fun q=>wT ops q.1&&wT ops q.2)&&lQ ops (cY ops.toList #[]) p.length with
     | true=>some (p,o,g,azz,r)
     | false=>none
def YT (G:Cfg)(ops:Array Oper)(draw:Bool)(s:VS)(k:VS->Prop):Prop :=
 match G.I with
 | none=>PP G ops draw s k
 | some J=>match aIB ops draw with
   | none=>match aD9 J.B ops draw with
     | none=>PP G ops draw s k
     | some (pre,o,g,args,post)=>D5 G ops (ops.size+1) none pre s fun s1=>match SO G.P g with
       | true=>J.run g (args.map (evV s1.t)) s1 fun v s2=>D5 G ops (ops.size+1) none post (VS.set s2 o.dst v) fun s'=>match !draw||(n6 ops (cY ops.toList #[])).all (aBU ops s')with
         | true=>k s'
         | false=>False
       | false=>False
   | some (pre,o,f,args)=>D5 G ops (ops.size+1) none pre s fun s1=>match evV s1.t f with
     | .fn g caps=>match J.B g&&SO G.P g with
       | true=>J.run g (args.map (evV s1.t)++caps) s1 fun v s2=>k (VS.set s2 o.dst v)
       | false=>RQ G o s1 k
     | _=>RQ G o s1 k
def aDr (kd:IntKind):Ty->Bool
 | .int k=>decide (k=kd)
 | .slc t=>aDr kd t
 | .ref t=>aDr kd t
 | .pair a b=>aDr kd a||aDr kd b
 | _=>false
def SE (kd:IntKind)(v:Int):(T:Ty)->T.den->T.den->Prop
 | .int k,x,y=>y=x\/(k=kd/\y=v)
 | .slc t,l,m=>m.length=l.length/\∀ (i:Nat) (x y:t.den),l[i]? = some x->m[i]? = some y->SE kd v t x y
 | .ref t,l,m=>m.length=l.length/\∀ (i:Nat) (x y:t.den),l[i]? = some x->m[i]? = some y->SE kd v t x y
 | .pair a b,x,y=>SE kd v a x.1 y.1/\SE kd v b x.2 y.2
 | .bool,x,y=>y=x
 | .str,x,y=>y=x
 | .unit,_,_=>True
 | .flt,x,y=>y=x
 | .cpx,x,y=>y=x
def hvL (kd:IntKind)(v:Int):VV->(VV->Prop)->Prop
 | .fz o T l,K=>match aDr kd T with
   | true=>∀ m:(Ty.slc T).den,SE kd v (.slc T) l m->K (.fz o T m)
   | false=>K (.fz o T l)
 | .pl x,K=>K (.pl x)
 | .own i,K=>K (.own i)
 | .ptr i o,K=>K (.ptr i o)
 | .hof i,K=>K (.hof i)
 | _,K=>K .undef
def aNU (kd:IntKind)(v:Int):List VV->(List VV->Prop)->Prop
 | [],K=>K []
 | x::r,K=>hvL kd v x fun y=>aNU kd v r fun l=>K (y::l)
def hvT (kd:IntKind)(v:Int)(t:List (Nat×VV)):List Nat->(List (Nat×VV)->Prop)->Prop
 | [],K=>K []
 | d::r,K=>hvL kd v (eH t d) fun y=>hvT kd v t r fun l=>K ((d,y)::l)
def hvO (kd:IntKind)(v:Int):VO->(VO->Prop)->Prop
 | .box cs false,K=>aNU kd v cs fun cs=>K (.box cs false)
 | .lst o T l fr,K=>match aDr kd T with
   | true=>∀ m:(Ty.slc T).den,SE kd v (.slc T) l m->K (.lst o T m fr)
   | false=>K (.lst o T l fr)
 | .dead b,K=>K (.dead b)
 | _,_=>False
def hvH (kd:IntKind)(v:Int):List VO->(List VO->Prop)->Prop
 | [],K=>K []
 | o::r,K=>hvO kd v o fun o=>hvH kd v r fun l=>K (o::l)
def hvS (kd:IntKind)(v:Int)(live:List Nat)(s:VS)(K:VS->Prop):Prop:=hvT kd v s.t live fun t=>hvH kd v s.h fun h=>K ⟨t,h⟩
def aFH (ops:Array Oper)(draw:Bool):Option (List Oper×Oper×TypeId×Operand×Operand) :=
 match aBG ops.toList with
 | some (pre,o)=>match o.guard,o.dst,o.op with
   | none,none,.store ty a x=>match draw with
     | false=>some (pre,o,ty,a,x)
     | true=>match GK ops (cY ops.toList #[])&&(n6 ops (cY ops.toList #[])).isEmpty with
       | true=>some (pre,o,ty,a,x)
       | false=>none
   | _,_,_=>none
 | none=>none
def aAy (G:Cfg)(ops:Array Oper)(draw:Bool)(live:List Nat)(s:VS)(k:VS->Prop):Prop :=
 match G.hv with
 | false=>YT G ops draw s k
 | true=>match aFH ops draw with
   | none=>YT G ops draw s k
   | some (pre,o,ty,a,x)=>D5 G ops (ops.size+1) none pre s fun s1=>match evV s1.t a,evV s1.t x with
     | .fptr true (.int kd) _ _ 0,.pl (.int kd' v)=>if kd=kd'/\XB G.P ty=some 1 then hvS kd v live s1 k else False
     | _,_=>RQ G o s1 k
def V4:Nat->List VO->List Nat->List Nat->List Nat
 | 0,_,_,acc=>acc
 | _+1,_,[],acc=>acc
 | n+1,h,i::todo,acc =>
   match acc.contains i with
   | true=>V4 n h todo acc
   | false=>V4 n h (todo++(match dD h i with
    | .box cs _=>cs.flatMap aL9
    | _=>[])) (acc++[i])
def D4 (i:Nat):List Nat->Nat->Option Nat
 | [],_=>none
 | j::l,n=>if i=j then some n else D4 i l (n+1)
def aEC (ids:List Nat):VV->VV
 | .own i=>match D4 i ids 0 with
   | some j => .own j
   | none => .undef
 | .ptr i off=>match D4 i ids 0 with
   | some j => .ptr j off
   | none => .undef
 | .eptr i ix off=>match D4 i ids 0 with
   | some j => .eptr j ix off
   | none => .undef
 | .pl v => .pl v
 | .er b => .er b
 | .fz o t l => .fz o t l
 | .fptr o t l ix off => .fptr o t l ix off
 | .hof i => .hof i
 | _ => .undef
def aLl (ids:List Nat):VV->VV
 | .agg l => .agg (l.map (aEC ids))
 | .bx l off => .bx (l.map (aEC ids)) off
 | .bs l => .bs (l.map (aEC ids))
 | v=>aEC ids v
def aOD (ids:List Nat):VV->VV
 | .tup l => .tup (l.map (aLl ids))
 | .fn f l => .fn f (l.map (aLl ids))
 | v=>aLl ids v
def aE3 (ids:List Nat):VO->VO
 | .box cs fr => .box (cs.map (aEC ids)) fr
 | o=>o
def Y6 (live:List Nat)(s:VS):List VV×List VO :=
 let vs:=live.map (eH s.t)
 let ids:=V4 (2*s.h.length+40) s.h (vs.flatMap aMN) []
 (vs.map (aOD ids),ids.map fun i=>aE3 ids (dD s.h i))
inductive Lf
 | int (k:IntKind)
 | bool
 | str
 | flt
 | cpx
 | fz (o:Bool) (t:Ty)
 | cst (v:VV)
 | fp (o:Bool) (t:Ty)
@[reducible] def Lf.den:Lf->Type
  | .int _=>Int
  | .bool=>Bool
  | .str=>ByteArray
  | .flt=>Nat
  | .cpx=>Nat×Nat
  | .fz _ t=>List t.den
  | .cst _=>Unit
  | .fp _ t=>t.den
inductive Cp
 | lf (x:Lf)
 | agg (l:List Lf)
 | bx (l:List Lf)
inductive Sh
 | lf (x:Lf)
 | agg (l:List Lf)
 | bx (l:List Lf)
 | fn (g:FuncId) (l:List Cp)
abbrev lI:Lf := .int .i64
abbrev lB:Lf := .bool
abbrev lZ (t:Ty):Lf := .fz false t
abbrev sI:Sh := .lf (.int .i64)
abbrev sB:Sh := .lf .bool
abbrev sZ (t:Ty):Sh := .lf (.fz false t)
abbrev sC (v:VV):Sh := .lf (.cst v)
@[reducible] def vI (n:Int):VV := .pl (.int .i64 n)
@[reducible] def vB (b:Bool):VV := .pl (.bool b)
@[reducible] def vK (k:IntKind) (n:Int):VV := .pl (.int k n)
@[reducible] def vZ (t:Ty) (l:List t.den):VV := .fz false t l
abbrev cR:List Lf:=[lZ (.int .i64),lI,lZ (.int .i8)]
abbrev XX:List Lf:=[lZ (.int .i64),lI,lZ (.int .i32)]
abbrev aO7:List Lf:=[.cst (.pl (.slice none 0 0)),lI,.cst (.pl (.slice none 0 0))]
abbrev aDV:Sh:=sC (.pl (.slice none 0 0))
abbrev eE:Lf := .cst (.pl (.slice none 0 0))
abbrev aK:VV := .pl (.slice none 0 0)
abbrev sPt (n:Nat):Sh:=sC (.ptr n 0)
abbrev aY:Ty := .int .i32
abbrev aL:Ty := .int .i8
abbrev aD:Ty := .int .i64
@[simp] abbrev aF (i:Int) (n:Nat):Prop:=(0:Int)<=i/\i<(n:Int)
abbrev QT:=List (Bool×List VV)->Prop
inductive OSh
 | box (l:List Lf) (fr:Bool)
 | lst (o:Bool) (t:Ty) (fr:Bool)
 | dead
abbrev dG:OSh := .box aO7 false
abbrev bT:OSh := .box cR false
abbrev oQc:OSh := .lst true (.int .i32) false
abbrev oQa:OSh := .lst true (.int .i64) false
@[reducible] def aBY:List Lf->Type
  | []=>Unit
  | x::l=>x.den×aBY l
@[reducible] def Cp.den:Cp->Type
  | .lf x=>x.den
  | .agg l=>aBY l
  | .bx l=>aBY l
@[reducible] def aGY:List Cp->Type
  | []=>Unit
  | x::l=>x.den×aGY l
@[reducible] def Sh.den:Sh->Type
  | .lf x=>x.den
  | .agg l=>aBY l
  | .bx l=>aBY l
  | .fn _ l=>aGY l
@[reducible] def CV:List Sh->Type
  | []=>Unit
  | x::l=>x.den×CV l
@[reducible] def OSh.den:OSh->Type
  | .box l _=>aBY l
  | .lst _ t _=>List t.den
  | .dead=>Unit
@[reducible] def aBc:List OSh->Type
  | []=>Unit
  | x::l=>x.den×aBc l
def XQ:(x:Lf)->x.den->VV
 | .int k,n => .pl (.int k n)
 | .bool,b => .pl (.bool b)
 | .str,s => .pl (.string s)
 | .flt,x => .pl (.float .f64 x)
 | .cpx,x => .pl (.complex .f64 x.1 x.2)
 | .fz o t,l => .fz o t l
 | .cst v,_=>v
 | .fp o t,x => .fptr o t [x] 0 0
def XU:(l:List Lf)->aBY l->List VV
 | [],_=>[]
 | x::l,d=>XQ x d.1::XU l d.2
def aGy:(x:Cp)->x.den->VV
 | .lf x,d=>XQ x d
 | .agg l,d => .agg (XU l d)
 | .bx l,d => .bx (XU l d) 0
def aHj:(l:List Cp)->aGY l->List VV
 | [],_=>[]
 | x::l,d=>aGy x d.1::aHj l d.2
def aHI:(x:Sh)->x.den->VV
 | .lf x,d=>XQ x d
 | .agg l,d => .agg (XU l d)
 | .bx l,d => .bx (XU l d) 0
 | .fn g l,d => .fn g (aHj l d)
def CY:(l:List Sh)->CV l->List VV
 | [],_=>[]
 | x::l,d=>aHI x d.1::CY l d.2
def aK5:(x:OSh)->x.den->VO
 | .box l fr,d => .box (XU l d) fr
 | .lst o t fr,d => .lst o t d fr
 | .dead,_ => .dead false
def aJa:(l:List OSh)->aBc l->List VO
 | [],_=>[]
 | x::l,d=>aK5 x d.1::aJa l d.2
def aAi:VV->VV->Bool
 | .own i,.own j=>i==j
 | .ptr i o,.ptr j o'=>i==j&&o==o'
 | .undef,.undef=>true
 | .hof i,.hof j=>i==j
 | .pl (.int k a),.pl (.int k' b)=>decide (k=k')&&a==b
 | .pl (.bool a),.pl (.bool b)=>a==b
 | .pl (.slice none a b),.pl (.slice none c d)=>a==c&&b==d
 | .pl .nilFunc,.pl .nilFunc=>true
 | .pl (.pointer none),.pl (.pointer none)=>true
 | _,_=>false
def aDp:List VV->List VV->Bool
 | [],[]=>true
 | a::l,b::r=>aAi a b&&aDp l r
 | _,_=>false
def aC0:VV->VV->Bool
 | .fn f l,.fn g r=>f==g&&aDp l r
 | a,b=>aAi a b
def unF (x:Lf)(v:VV)(K:x.den->Prop):Prop :=
 match x with
 | .int k=>match v with
   | .pl (.int k' n)=>if k=k' then K n else False
   | _=>False
 | .bool=>match v with
   | .pl (.bool b)=>K b
   | _=>False
 | .str=>match v with
   | .pl (.string s)=>K s
   | _=>False
 | .flt=>match v with
   | .pl (.float .f64 x)=>K x
   | _=>False
 | .cpx=>match v with
   | .pl (.complex .f64 a b)=>K (a,b)
   | _=>False
 | .fz o t=>match v with
   | .fz o' t' l=>if o=o' then Ty.at t' t l K else False
   | _=>False
 | .cst c=>if aC0 c v=true then K ()else False
 | .fp o t=>match v with
   | .fptr o' t' l 0 0=>if o=o' then Ty.at t' t l fun l=>(match l with
     | [x]=>K x
     | _=>False)else False
   | _=>False
def unL:(l:List Lf)->List VV->(aBY l->Prop)->Prop
 | [],vs,K=>match vs with
   | []=>K ()
   | _=>False
 | x::l,vs,K=>match vs with
   | v::r=>unF x v fun a=>unL l r fun b=>K (a,b)
   | []=>False
def aNG (x:Cp)(v:VV)(K:x.den->Prop):Prop :=
 match x with
 | .lf x=>unF x v K
 | .agg l=>match v with
   | .agg cs=>unL l cs K
   | _=>False
 | .bx l=>match v with
   | .bx cs 0=>unL l cs K
   | _=>False
def unC:(l:List Cp)->List VV->(aGY l->Prop)->Prop
 | [],vs,K=>match vs with
   | []=>K ()
   | _=>False
 | x::l,vs,K=>match vs with
   | v::r=>aNG x v fun a=>unC l r fun b=>K (a,b)
   | []=>False
def aMo (x:Sh)(v:VV)(K:x.den->Prop):Prop :=
 match x with
 | .lf x=>unF x v K
 | .agg l=>match v with
   | .agg cs=>unL l cs K
   | _=>False
 | .bx l=>match v with
   | .bx cs 0=>unL l cs K
   | _=>False
 | .fn g l=>match v with
   | .fn g' cs=>if g=g' then unC l cs K else False
   | _=>False
def unS:(l:List Sh)->List VV->(CV l->Prop)->Prop
 | [],vs,K=>match vs with
   | []=>K ()
   | _=>False
 | x::l,vs,K=>match vs with
   | v::r=>aMo x v fun a=>unS l r fun b=>K (a,b)
   | []=>False
def aNE (x:OSh)(v:VO)(K:x.den->Prop):Prop :=
 match x with
 | .box l fr=>match v with
   | .box cs fr'=>if fr=fr' then unL l cs K else False
   | _=>False
 | .lst o t fr=>match v with
   | .lst o' t' l fr'=>if o=o'/\fr=fr' then Ty.at t' t l K else False
   | _=>False
 | .dead=>match v with
   | .dead false=>K ()
   | _=>False
def unO:(l:List OSh)->List VO->(aBc l->Prop)->Prop
 | [],vs,K=>match vs with
   | []=>K ()
   | _=>False
 | x::l,vs,K=>match vs with
   | v::r=>aNE x v fun a=>unO l r fun b=>K (a,b)
   | []=>False
def X1:List Nat->List VV->List (Nat×VV)
 | d::ds,v::vs=>(d,v)::X1 ds vs
 | _,_=>[]
structure Ent where
 live:List Nat
 sh:List Sh
 ob:List OSh
 P:CV sh×aBc ob->(f9->VS->Prop)->Prop
def aET (live:List Nat)(sh:List Sh)(ob:List OSh)(x:CV sh×aBc ob):VS:=⟨X1 live (CY sh x.1),aJa ob x.2⟩
def aNH (live:List Nat)(sh:List Sh)(ob:List OSh)(s:VS)(K:CV sh×aBc ob->Prop):Prop :=
 let c:=Y6 live s
 unS sh c.1 fun a=>unO ob c.2 fun b=>K (a,b)
def Ent.run (E:Ent)(s:VS)(k:f9->VS->Prop):Prop:=aNH E.live E.sh E.ob s fun x=>E.P x k
def Loop {S:Type}(B:S->(S->Prop)->Prop)(s:S):Prop:=∀ X:S->Prop,(∀ s,B s X->X s)->X s
abbrev Tab:=Nat->Option Ent
structure Co where
 d:Nat
 cell:Option Nat
 fz:Bool
 T:Ty
abbrev Ends:=Nat->Option (List Co×List Nat)
def conv (fz:Bool)(T:Ty)(h:List VO)(v:VV):Option (VV×List VO) :=
 match fz,v with
 | false,.pl (.slice none 0 0)=>some (.own h.length,h++[.lst true T [] false])
 | true,.pl (.slice none 0 _)=>some (.fz false T [],h)
 | true,.own i=>match dD h i with
   | .lst _ t l _=>some (.fz false t l,eO h [i])
   | _=>none
 | true,.fz _ t l=>some (.fz false t l,h)
 | _,_=>none
def co1 (s:VS)(c:Co):VS :=
 match c.cell with
 | none=>match conv c.fz c.T s.h (eH s.t c.d)with
   | some (v,h)=>⟨(c.d,v)::s.t,h⟩
   | none=>s
 | some q=>match eH s.t c.d with
   | .ptr i _=>match dD s.h i with
     | .box cs fr=>match cs[q]? with
       | some u=>match conv c.fz c.T s.h u with
         | some (v,h)=>⟨s.t,h.set i (.box (cs.set q v) fr)⟩
         | none=>s
       | none=>s
     | _=>s
   | _=>s
def aKN:List Co->VS->VS
 | [],s=>s
 | c::cs,s=>aKN cs (co1 s c)
def HE (ct:Tab)(n:Nat)(f:VS->(f9->VS->Prop)->Prop)(s:VS)(k:f9->VS->Prop):Prop :=
 match ct n with
 | some E=>E.run s k
 | none=>f s k
def aNx (live:List Nat)(s:VS):VS:=⟨X1 live (Y6 live s).1,(Y6 live s).2⟩
def GH (en:Ends)(n:Nat)(s:VS):VS :=
 match en n with
 | some (cs,l)=>aNx l (aKN cs s)
 | none=>s
def aLd (x:Nat):List Nat->List Nat
 | []=>[x]
 | y::l=>if x<y then x::y::l else if x=y then y::l else y::aLd x l
def aN3 (a b:List Nat):List Nat:=a.foldr aLd b
def aOw (x:Nat)(l:List Nat):List Nat:=l.filter fun y => !(Nat.beq y x)
def aOM (o:Operand)(l:List Nat):List Nat :=
 match o with
 | .tmp i=>aLd i l
 | _=>l
def aEP (ops:Array Oper):List Oper->List Nat->List Nat
 | [],out=>out
 | o::l,out=>(match o.guard with
   | some (j,_)=>(match (ops[j]?).bind (·.dst)with
     | some d=>aLd d
     | none=>id)
   | none=>id) (o.op.operands.toList.foldr aOM (match o.dst with
     | some d=>aOw d (aEP ops l out)
     | none=>aEP ops l out))
def aKj (n:Nat):List (Nat×List Nat)->List Nat
 | []=>[]
 | (i,l)::r=>if i=n then l else aKj n r
def aO8 (a b:List Nat):Bool:=a.all fun x=>b.any fun y=>Nat.beq y x
def aO3 (f:List Nat->List Nat):Nat->List Nat->List Nat
 | 0,L=>L
 | k+1,L=>(fun N=>match aO8 N L with
   | true=>L
   | false=>aO3 f k (aN3 N L)) (f L)
def lvC (res:List Nat):Code->Nat->List Nat->List (Nat×List Nat)->List Nat×List (Nat×List Nat)
 | .region _ ops _,n,out,_=>(aEP ops ops.toList out,[(n,out)])
 | .seq a b,n,out,ex=>match lvC res b (2*n+1) out ex with
   | (lb,tb)=>match lvC res a (2*n) lb ex with
     | (la,ta)=>(la,ta++tb)
 | .cond c a b,n,out,ex=>match lvC res a (2*n) out ex,lvC res b (2*n+1) out ex with
   | (la,ta),(lb,tb)=>(aOM c (aN3 la lb),ta++tb)
 | .block id b,n,out,ex=>lvC res b (2*n) out ((id,out)::ex)
 | .loop b,n,_,ex=>(fun L=>(L,(n,L)::(lvC res b (2*n) L ex).2)) (aO3 (fun L=>(lvC res b (2*n) L ex).1) 20 [])
 | .exit id,n,_,ex=>(aKj id ex,[(n,aKj id ex)])
 | .ret,n,_,_=>(res,[(n,res)])
 | _,n,out,_=>(out,[(n,out)])
def aLy (n:Nat):List (Nat×List Nat)->Option (List Nat)
 | []=>none
 | (i,l)::r=>if i=n then some l else aLy n r
def coS (n:Nat):List (Nat×List Co)->List Co
 | []=>[]
 | (i,l)::r=>if i=n then l else coS n r
def aD4 (b:Code)(res:List Nat)(cos:List (Nat×List Co)):Ends:=fun n=>match aLy n (lvC res b 1 res []).2 with
 | some l=>some (coS n cos,l)
 | none=>none
def unr {S:Type}(B:S->(S->Prop)->Prop):Nat->S->Prop
 | 0,_=>False
 | n+1,s=>B s (unr B n)
def LB (k:f9->VS->Prop)(en:Ends)(n:Nat)(b:VS->(f9->VS->Prop)->Prop)(s:VS)(nx:VS->Prop):Prop :=
 b s fun e s'=>match e with
   | .normal=>nx (GH en n s')
   | e=>k e s'
def aNF (en:Ends)(n:Nat):List Nat :=
 match en n with
 | some (_,l)=>l
 | none=>[]
def vwp (G:Cfg)(ct:Tab)(en:Ends):Code->Nat->VS->(f9->VS->Prop)->Prop
 | .skip,n,s,k=>k .normal (GH en n s)
 | .label _,n,s,k=>k .normal (GH en n s)
 | .region _ ops draw,n,s,k=>aAy G ops draw (aNF en n) s fun s'=>k .normal (GH en n s')
 | .seq a b,n,s,k=>HE ct (2*n) (vwp G ct en a (2*n)) s fun e s'=>match e with
   | .normal=>HE ct (2*n+1) (vwp G ct en b (2*n+1)) s' k
   | e=>k e s'
 | .cond c x y,n,s,k=>match evV s.t c with
   | .pl (.bool b)=>if b=true then HE ct (2*n) (vwp G ct en x (2*n)) s k else HE ct (2*n+1) (vwp G ct en y (2*n+1)) s k
   | _=>False
 | .block id b,n,s,k=>HE ct (2*n) (vwp G ct en b (2*n)) s fun e s'=>match e with
   | .exit id'=>k (if id'=id then .normal else .exit id') s'
   | e=>k e s'
 | .loop b,n,s,k=>match G.un with
   | 0=>Loop (LB k en n (HE ct (2*n) (vwp G ct en b (2*n)))) (GH en n s)
   | u+1=>unr (LB k en n (HE ct (2*n) (vwp G ct en b (2*n)))) (u+1) (GH en n s)
 | .exit id,n,s,k=>k (.exit id) (GH en n s)
 | .ret,n,s,k=>k .ret (GH en n s)
 | _,_,_,_=>False
def TD (x:Lf)(v:VV)(K:x.den->Prop):Prop :=
 match x with
 | .fz false t=>match v with
   | .fz false t' l=>Ty.at t' t l K
   | .pl (.slice none 0 _)=>K []
   | _=>False
 | x=>unF x v K
def aFS:(l:List Lf)->List VV->(aBY l->Prop)->Prop
 | [],vs,K=>match vs with
   | []=>K ()
   | _=>False
 | x::l,vs,K=>match vs with
   | v::r=>TD x v fun a=>aFS l r fun b=>K (a,b)
   | []=>False
def aK7 (x:Cp)(v:VV)(K:x.den->Prop):Prop :=
 match x with
 | .lf x=>TD x v K
 | .agg l=>match v with
   | .agg cs=>aFS l cs K
   | _=>False
 | .bx l=>match v with
   | .bx cs 0=>aFS l cs K
   | _=>False
def aJh:(l:List Cp)->List VV->(aGY l->Prop)->Prop
 | [],vs,K=>match vs with
   | []=>K ()
   | _=>False
 | x::l,vs,K=>match vs with
   | v::r=>aK7 x v fun a=>aJh l r fun b=>K (a,b)
   | []=>False
def aJ6 (x:Sh)(v:VV)(K:x.den->Prop):Prop :=
 match x with
 | .lf x=>TD x v K
 | .agg l=>match v with
   | .agg cs=>aFS l cs K
   | _=>False
 | .bx l=>match v with
   | .bx cs 0=>aFS l cs K
   | _=>False
 | .fn g l=>match v with
   | .fn g' cs=>if g=g' then aJh l cs K else False
   | _=>False
def aFg:List VV->List Nat
 | []=>[]
 | .fn g _::l=>g::aFg l
 | _::l=>aFg l
def aLr:List Nat->List Nat->Bool
 | [],[]=>true
 | a::l,b::r=>a==b&&aLr l r
 | _,_=>false
def unA:(l:List Sh)->List VV->(CV l->Prop)->Prop
 | [],vs,K=>match vs with
   | []=>K ()
   | _=>False
 | x::l,vs,K=>match vs with
   | v::r=>aJ6 x v fun a=>unA l r fun b=>K (a,b)
   | []=>False
def Z1 (G:Cfg)(s:VS):List ResultVar->(List VV->Prop)->Prop
 | [],K=>K []
 | .tmp d::r,K=>Z1 G s r fun l=>K (eH s.t d::l)
 | .cell d ty::r,K=>match eH s.t d with
   | .ptr i off=>match dD s.h i with
     | .box cs _=>I8 (aTy G.P ty) cs off fun v=>Z1 G s r fun l=>K (v::l)
     | _=>False
   | _=>False
def xp:(t:Ty)->List VV->List VO->(t.den->List VV->List VO->Prop)->Prop
 | .int k,cs,h,K=>match cs with
   | .pl (.int k' n)::r=>if k=k' then K n r h else False
   | _=>False
 | .bool,cs,h,K=>match cs with
   | .pl (.bool b)::r=>K b r h
   | _=>False
 | .str,cs,h,K=>match cs with
   | .pl (.string s)::r=>K s r h
   | _=>False
 | .flt,cs,h,K=>match cs with
   | .pl (.float .f64 x)::r=>K x r h
   | _=>False
 | .cpx,cs,h,K=>match cs with
   | .pl (.complex .f64 a b)::r=>K (a,b) r h
   | _=>False
 | .ref _,_,_,_=>False
 | .slc t,cs,h,K=>match cs with
   | .own i::r=>match dD h i with
     | .lst true t' l false=>Ty.at t' t l fun l=>K l r (h.set i (.dead false))
     | _=>False
   | .pl (.slice none 0 0)::r=>K [] r h
   | _=>False
 | .unit,cs,h,K=>K () cs h
 | .pair a b,cs,h,K=>xp a cs h fun x r h'=>xp b r h' fun y r' h''=>K (x,y) r' h''
inductive Al
 | n
 | f
 | z
 | p (a b:Al)
def xpA:Al->(t:Ty)->List VV->List VO->(t.den->List VV->List VO->Prop)->Prop
 | .f,.slc t,cs,h,K=>match cs with
   | .fz _ t' l::r=>Ty.at t' t l fun l=>K l r h
   | .own i::r=>match dD h i with
     | .lst _ t' l true=>Ty.at t' t l fun l=>K l r h
     | _=>False
   | .pl (.slice none 0 0)::r=>K [] r h
   | _=>False
 | .z,.slc t,cs,h,K=>match cs with
   | .own i::r=>match dD h i with
     | .lst true t' l false=>Ty.at t' t l fun l=>ck (l≠[]) (K l r (h.set i (.dead false)))
     | _=>False
   | .pl (.slice none 0 0)::r=>K [] r h
   | _=>False
 | .p x y,.pair a b,cs,h,K=>xpA x a cs h fun u r h'=>xpA y b r h' fun v r' h''=>K (u,v) r' h''
 | _,t,cs,h,K=>xp t cs h K
abbrev TY:=List (Bool×Ty)
@[reducible] def aHJ:TY->Type
  | []=>Unit
  | (_,t)::l=>t.den×aHJ l
def aKx:(t:Ty)->t.den->List VV
 | .int k,n=>[.pl (.int k n)]
 | .bool,b=>[.pl (.bool b)]
 | .str,s=>[.pl (.string s)]
 | .flt,x=>[.pl (.float .f64 x)]
 | .cpx,x=>[.pl (.complex .f64 x.1 x.2)]
 | .slc t,l=>[.nw t l]
 | .ref _,_=>[.undef]
 | .unit,_=>[]
 | .pair a b,x=>aKx a x.1++aKx b x.2
def aD2:Al->(t:Ty)->t.den->List VV
 | .f,.slc t,l=>[.fz false t l]
 | .p x y,.pair a b,d=>aD2 x a d.1++aD2 y b d.2
 | _,t,d=>aKx t d
def zmk:Bool->Al->Ty->List VV
 | false,.z,.slc _=>[.undef]
 | _,_,_=>[]
def o7:(rt:TY)->List Al->aHJ rt->List (Bool×List VV)
 | [],_,_=>[]
 | (g,t)::l,al,d=>(g,aD2 (al.headD .n) t d.1++zmk g (al.headD .n) t)::o7 l al.tail d.2
abbrev aOX (rt:TY)(d:aHJ rt):List (Bool×List VV):=o7 rt [] d
def aEk:VV->Bool
 | .agg _=>true
 | _=>false
def aAk:(rt:TY)->List Al->List VV->List VO->(aHJ rt->Prop)->Prop
 | [],_,vs,_,K=>match vs with
   | []=>K ()
   | _=>False
 | (g,t)::l,al,vs,h,K=>match vs with
   | v::r=>if aEk v=g/\(g=true\/okL v=true)then xpA (al.headD .n) t (fM v) h fun x left h'=>match left with
      | []=>aAk l al.tail r h' fun y=>K (x,y)
      | _=>False
     else False
   | []=>False
def OV (args:List VV):List (Nat×VV):=X1 (List.range args.length) args
def SR (n:Nat)(t:List (Nat×VV)):List (Nat×VV):=t.map fun p=>(p.1+n,p.2)
def vU (n:Nat):List (Nat×VV)->List (Nat×VV)
 | []=>[]
 | (d,v)::l=>if n<=d then(d-n,v)::vU n l else vU n l
def r1B:VV->Bool
 | .tup _ | .fn _ _=>false
 | _=>true
def aDf (G:Cfg)(ct:Tab)(en:Ends)(fn:Func)(c:Code)(args:List VV)(s:VS)(k:VV->VS->Prop):Prop :=
 if args.length<=fn.ntmps then HE ct 1 (vwp G ct en c 1) ⟨OV args++SR fn.ntmps s.t,s.h⟩ fun e s2=>match e with
  | .normal | .ret=>Z1 G s2 fn.results.toList fun vs=>if vs.all r1B=true then k (aBJ vs) ⟨vU fn.ntmps s2.t,s2.h⟩else False
  | _=>False
 else False
def aGq (G:Cfg)(ct:Tab)(en:Ends)(fn:Func)(c:Code)(rt:TY)(al:List Al)(args:List VV)(Q:aHJ rt->Prop):Prop :=
 HE ct 1 (vwp G ct en c 1) ⟨OV args,[]⟩ fun e s=>match e with
  | .normal | .ret=>Z1 G s fn.results.toList fun vs=>aAk rt al vs s.h Q
  | _=>False
end Go.Mach
