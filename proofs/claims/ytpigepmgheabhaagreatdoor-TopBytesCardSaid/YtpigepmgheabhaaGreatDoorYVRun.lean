/- Part of the proof. No condition. -/
import Derived.Test.YtpigepmgheabhaaGreatDoorYVDef
namespace Go.Mach
def yL:List VV->List VO->List VV×List VO
 | [],h=>([],h)
 | v::r,h=>match v with
   | .nw t l=>let p:=yL r (h++[.lst true t l false]);(.own h.length::p.1,p.2)
   | v=>let p:=yL r h;(v::p.1,p.2)
def rV:List (Bool×List VV)->List VO->List VV×List VO
 | [],h=>([],h)
 | (g,cs)::r,h =>
   let p:=yL cs h
   let q:=rV r p.2
   ((if g then .agg p.1 else p.1.headD .undef)::q.1,q.2)
def JM:List VV->VV
 | [v]=>v
 | vs => .tup vs
def xN (h:List VO):VV->List Nat
 | .agg l=>l.flatMap kH
 | .ptr i _=>i::(match aP h i with
   | .box cs _=>cs.flatMap kH
   | _=>[])
 | .bx l _=>l.flatMap kH
 | v=>kH v
def zG (h:List VO):VV->List Nat
 | .fn _ l=>l.flatMap (xN h)
 | v=>xN h v
def aGa:VV->Bool
 | .fz _ _ _=>true
 | .fn _ _=>true
 | _=>false
def BD (sl:List (Bool×List VV)):Bool:=sl.any fun p=>p.2.any aGa
def yR:List (Bool×List VV)->(List (Bool×List VV)->Prop)->Prop
 | [],k=>k []
 | p::r,k=>match p with
   | (false,[.nw T l,.undef])=>nz l (yR r fun r'=>k ((false,[.pl (.slice none 0 0)])::r')) (yR r fun r'=>k ((false,[.nw T l])::r'))
   | p=>yR r fun r'=>k (p::r')
def aAw (G:Cfg)(f:VV)(args:List VV)(h:List VO)(K:VV->List VO->Prop):Prop :=
 match f with
 | .fn g caps=>if tC G.P g then
  G.O g (args.map (SO h)++caps.map (SO h)) (fun r=>yR r fun r=>let p:=rV r (match BD r with
    | true=>freeze h ((args++caps).flatMap (zG h))
    | false=>h);K (JM p.1) p.2)else False
 | _=>False
def vC (G:Cfg)(o:Oper)(s:VS)(k:VS->Prop):Prop :=
 match o.op with
 | .call c=>match c.callee with
   | .value f=>aAw G (evV s.t f) (c.args.toList.map (evV s.t)) s.h fun v h=>k (VS.set ⟨s.t,h⟩ o.dst v)
   | _=>b9 G o.op s.t s.h fun v h=>k (VS.set ⟨s.t,h⟩ o.dst v)
 | _=>b9 G o.op s.t s.h fun v h=>k (VS.set ⟨s.t,h⟩ o.dst v)
def DJ:Option (Nat×Bool)->Option (Nat×Bool)->Bool
 | none,none=>true
 | some (i,a),some (j,b)=>i==j&&a==b
 | _,_=>false
def zD (g:Option (Nat×Bool)):List Oper->List Oper×List Oper
 | []=>([],[])
 | o::l=>if DJ o.guard g then([],o::l)else let r:=zD g l;(o::r.1,r.2)
def oG:Op->Bool
 | .move _ | .assign _ | .load .. | .binOp .. | .unOp .. | .fieldAddr .. | .field .. | .indexAddr .. | .index .. | .extract .. | .convert .. | .pick .. => true
 | .alloc _ | .box .. | .build .. | .buildSlice .. | .makeSlice .. | .slice .. | .sliceToArrayPointer .. | .nilCheck .. | .makeFunc .. => true
 | .call c=>match c.callee with
   | .builtin .len | .builtin .min | .builtin .max | .builtin .complex | .builtin .real | .builtin .imag=>true
   | .value _=>true
   | _=>false
 | _=>false
def rZ:Op->Bool
 | .move _ | .assign _ | .load .. | .unOp .. | .fieldAddr .. | .field .. | .extract .. | .convert .. | .pick .. => true
 | .binOp b _ _ _ _=>match b with
   | .shl | .shr | .quo | .rem=>false
   | _=>true
 | .call c=>match c.callee with
   | .builtin .len | .builtin .min | .builtin .max | .builtin .complex | .builtin .real | .builtin .imag=>true
   | _=>false
 | _=>false
def X6 (ops:Array Oper)(j:Nat)(w:Bool):List Nat->List Oper->Bool
 | _,[]=>true
 | known,o::l=>(match o.guard with
   | none=>false
   | some (j',w')=>(j'==j&&w'==w)||(match (ops[j']?).bind (·.dst)with
     | some x=>known.contains x
     | none=>false))&&X6 ops j w (match o.dst with
       | some x=>x::known
       | none=>known) l
def nX:List Oper->List (Nat×VV)->List (Nat×VV)
 | [],t=>t
 | o::l,t=>match o.dst with
   | some d=>(d,.undef)::nX l t
   | none=>nX l t
def EZ (h:Nat):VV->VV
 | .ptr i off=>if i<h then .mptr i off else .undef
 | _ => .undef
def m9 (h:Nat):List Oper->List (Nat×VV)->List (Nat×VV)->List (Nat×VV)
 | [],_,t=>t
 | o::l,t2,t=>match o.dst with
   | some d=>(d,EZ h (bQ t2 d))::m9 h l t2 t
   | none=>m9 h l t2 t
def A0 (v:VV)(K:Bool->Prop):Prop :=
 match v with
 | .pl (.bool b)=>K b
 | _=>False
def OG:Operand->Option Bool
 | .const (.bool b)=>some b
 | _=>none
def aAa (d:Nat)(b:Oper):Bool :=
 match b.dst with
 | some x=>x != d
 | none=>true
def qV (G:Cfg)(ops:Array Oper):Nat->Option (Nat×Bool)->List Oper->VS->(VS->Prop)->Prop
 | 0,_,_,_,_=>False
 | _+1,_,[],s,k=>k s
 | n+1,g,o::rest,s,k =>
   match DJ o.guard g with
   | true=>vC G o s fun s'=>qV G ops n g rest s' k
   | false=>match zD g (o::rest),o.guard with
     | (body,res::rest'),some (j,w) =>
       match (ops[j]?).bind (·.dst),res.op,res.dst with
       | some d,.pick (.tmp c) x y,some r =>
         match c==d&&r != d&&body.all (fun b=>aAa d b&&oG b.op)&&X6 ops j w [] body&&OG (if w then y else x)==some (!w),bQ s.t d with
         | true,.pl (.bool b) =>
           match body.all (fun b=>rZ b.op)with
           | true=>qV G ops n (some (j,w)) body s fun s2=>A0 (evV s2.t (if w then x else y)) fun v =>
            qV G ops n g rest' ⟨(r,.pl (.bool (if w then b&&v else b||v)))::m9 s.h.length body s2.t s.t,s.h⟩ k
           | false=>jn (fun v=>qV G ops n g rest' ⟨(r,.pl (.bool v))::nX body s.t,s.h⟩ k) fun J =>
            if b=true then(if w=true then qV G ops n (some (j,w)) body s fun s2=>A0 (evV s2.t x) J else J true)
            else(if w=true then J false else qV G ops n (some (j,w)) body s fun s2=>A0 (evV s2.t y) J)
         | _,_=>False
       | _,_,_=>False
     | _,_=>False
def zR:VV->Option (List (Option Nat))
 | .own i | .ptr i _ | .eptr i _ _ | .mptr i _=>some [some i]
 | .fptr _ _ _ _ _ | .bx _ _=>some [none]
 | .pl _ | .agg _ | .tup _ | .fn _ _=>some []
 | _=>none
def G6:List VV->Option (List (Option Nat))
 | []=>some []
 | v::l=>match zR v,G6 l with
   | some a,some b=>some (a++b)
   | _,_=>none
def aAG (op:Op)(t:List (Nat×VV)):Option (List (Option Nat)) :=
 match op with
 | .load _ a=>zR (evV t a)
 | .store _ a _=>zR (evV t a)
 | .convert _ _ x=>zR (evV t x)
 | .call c=>match c.callee with
   | .builtin .append | .builtin .copy=>G6 (c.args.toList.map (evV t))
   | _=>some []
 | _=>some []
def wrV (op:Op)(t:List (Nat×VV)):Option (List (Option Nat)) :=
 match op with
 | .store _ a _=>zR (evV t a)
 | .convert s d x=>if s=d then zR (evV t x)else some []
 | .call c=>match c.callee with
   | .builtin .append | .builtin .copy=>match c.args.toList with
     | x::_=>zR (evV t x)
     | []=>some []
   | _=>some []
 | _=>some []
def wK (h:List VO):Option Nat->Option Nat->Bool
 | some i,some j=>i != j&&((boxB (aP h i)||boxB (aP h j))||ownB (aP h i)&&ownB (aP h j))
 | some i,none=>ownB (aP h i)
 | none,some j=>ownB (aP h j)
 | none,none=>false
where
 ownB:VO->Bool
  | .box _ fr => !fr
  | .lst _ _ _ fr => !fr
  | .dead b=>b
 boxB:VO->Bool
  | .box _ _=>true
  | _=>false
def PY (h:List VO):Option (List (Option Nat))->Option (List (Option Nat))->Bool
 | some [],_=>true
 | _,some []=>true
 | some a,some b=>a.all fun x=>b.all fun y=>wK h x y
 | _,_=>false
def D6 (ops:Array Oper)(s:VS)(p:Nat×Nat):Bool :=
 match ops[p.1]?,ops[p.2]? with
 | some oi,some oj=>PY s.h (wrV oi.op s.t) (aAG oj.op s.t)&&PY s.h (aAG oi.op s.t) (wrV oj.op s.t)
 | _,_=>false
def wO (G:Cfg)(ops:Array Oper)(draw:Bool)(s:VS)(k:VS->Prop):Prop :=
 match draw with
 | false=>qV G ops (ops.size+1) none ops.toList s k
 | true=>match xH ops (aI ops.toList #[])&&(b7 ops (aI ops.toList #[])).all (fun p=>c7 ops p.1&&c7 ops p.2)with
   | true=>qV G ops (ops.size+1) none ops.toList s fun s'=>match (b7 ops (aI ops.toList #[])).all (D6 ops s')with
     | true=>k s'
     | false=>False
   | false=>False
def IW:List Oper->Option (List Oper×Oper)
 | []=>none
 | o::l=>match l,IW l with
   | [],_=>some ([],o)
   | _::_,some (p,x)=>some (o::p,x)
   | _::_,none=>none
def X4 (ops:Array Oper)(draw:Bool):Option (List Oper×Oper×Operand×List Operand) :=
 match IW ops.toList with
 | some (pre,o)=>match o.guard,o.op with
   | none,.call c=>match c.callee with
     | .value f=>match draw with
       | false=>some (pre,o,f,c.args.toList)
       | true=>match xH ops (aI ops.toList #[])&&(b7 ops (aI ops.toList #[])).isEmpty&&bH ops (aI ops.toList #[]) pre.length with
         | true=>some (pre,o,f,c.args.toList)
         | false=>none
     | _=>none
   | _,_=>none
 | none=>none
def LC (B:FuncId->Bool)(p:List Oper):List Oper->Option (List Oper×Oper×FuncId×List Operand×List Oper)
 | []=>none
 | o::r=>match o.guard,o.op with
   | none,.call c=>match c.callee with
     | .value (.func g)=>match B g with
       | true=>some (p,o,g,c.args.toList,r)
       | false=>LC B (p++[o]) r
     | _=>LC B (p++[o]) r
   | _,_=>LC B (p++[o]) r
def QB (B:FuncId->Bool)(ops:Array Oper)(draw:Bool):Option (List Oper×Oper×FuncId×List Operand×List Oper) :=
 match LC B [] ops.toList with
 | none=>none
 | some (p,o,g,azz,r)=>match draw with
   | false=>some (p,o,g,azz,r)
   | true=>match xH ops (aI ops.toList #[])&&(b7 ops (aI ops.toList #[])).all (fun q=>c7 ops q.1&&c7 ops q.2)&&bH ops (aI ops.toList #[]) p.length with
     | true=>some (p,o,g,azz,r)
     | false=>none
def T3 (B:FuncId->Bool):Op->Option (FuncId×List Operand)
 | .call c=>match c.callee with
   | .value (.func g)=>match B g with
     | true=>some (g,c.args.toList)
     | false=>none
   | _=>none
 | _=>none
def S3 (G:Cfg)(J:Inl):List Oper->VS->(VS->Prop)->Prop
 | [],s,k=>k s
 | o::l,s,k=>match o.guard with
   | some _=>False
   | none=>match T3 J.B o.op with
     | some (g,azz)=>match tC G.P g with
       | true=>J.run g (azz.map (evV s.t)) s fun v s2=>S3 G J l (VS.set s2 o.dst v) k
       | false=>False
     | none=>vC G o s fun s'=>S3 G J l s' k
def aC0 (s:VS):Op->Option (List Nat)
 | .load _ a=>match evV s.t a with
   | .ptr j _=>match aP s.h j with
     | .box _ false=>some [j]
     | _=>none
   | _=>none
 | _=>some []
def aE8 (z:List Nat):Option (List (Option Nat))->Bool
 | some l=>l.all fun x=>match x with
   | some j=>z.any fun i=>Nat.beq i j
   | none=>false
 | none=>false
def OU (b:Array Nat)(i:Nat)(Z:List (Nat×List Nat))(acc:Option (List (Option Nat))):Bool :=
 Z.all fun z=>(b.getD i 0).testBit z.1||aE8 z.2 acc
def N1 (G:Cfg)(J:Inl)(ops:Array Oper)(b:Array Nat):Nat->List Nat->List (Nat×List Nat)->List Oper->VS->(VS->Prop)->Prop
 | _,_,_,[],s,k=>k s
 | i,X,Z,o::l,s,k=>match o.guard with
   | some _=>False
   | none=>match OU b i Z (aAG o.op s.t)with
     | false=>False
     | true=>match T3 J.B o.op with
       | some (g,azz)=>match tC G.P g&&(bH ops b i||qS ops b i o)&&J.lk g (azz.map (evV s.t)) s (cond (eH ops b i o) X [])with
         | true=>J.run g (azz.map (evV s.t)) s fun v s2=>N1 G J ops b (i+1) X (cond (eH ops b i o) ((i,X)::Z) Z) l (VS.set s2 o.dst v) k
         | false=>False
       | none=>match eH ops b i o with
         | true=>False
         | false=>match aC0 s o.op with
           | some Y=>vC G o s fun s'=>N1 G J ops b (i+1) (Y++X) Z l s' k
           | none=>False
def aIF (B:FuncId->Bool)(ops:Array Oper)(draw:Bool):Nat :=
 match ops.toList.all fun o=>o.guard.isNone with
 | false=>0
 | true=>match (ops.toList.filter fun o=>(T3 B o.op).isSome).length with
   | 0=>0
   | m+1=>match draw with
     | false=>match m with
       | 0=>0
       | _+1=>1
     | true=>match sG ops (aI ops.toList #[])with
       | true=>2
       | false=>0
def G0 (G:Cfg)(ops:Array Oper)(draw:Bool)(s:VS)(k:VS->Prop):Prop :=
 match G.I with
 | none=>wO G ops draw s k
 | some J=>match aIF J.B ops draw with
  | 1=>match draw with
   | false=>S3 G J ops.toList s k
   | true=>False
  | 2=>match draw&&gU ops (aI ops.toList #[])&&sG ops (aI ops.toList #[])&&(b7 ops (aI ops.toList #[])).all (fun q=>c7 ops q.1&&c7 ops q.2)with
   | true=>N1 G J ops (aI ops.toList #[]) 0 [] [] ops.toList s fun s'=>match (b7 ops (aI ops.toList #[])).all (D6 ops s')with
     | true=>k s'
     | false=>False
   | false=>False
  | _=>match X4 ops draw with
   | none=>match QB J.B ops draw with
     | none=>wO G ops draw s k
     | some (pre,o,g,args,post)=>qV G ops (ops.size+1) none pre s fun s1=>match tC G.P g with
       | true=>J.run g (args.map (evV s1.t)) s1 fun v s2=>qV G ops (ops.size+1) none post (VS.set s2 o.dst v) fun s'=>match !draw||(b7 ops (aI ops.toList #[])).all (D6 ops s')with
         | true=>k s'
         | false=>False
       | false=>False
   | some (pre,o,f,args)=>qV G ops (ops.size+1) none pre s fun s1=>match evV s1.t f with
     | .fn g caps=>match J.B g&&tC G.P g with
       | true=>J.run g (args.map (evV s1.t)++caps) s1 fun v s2=>k (VS.set s2 o.dst v)
       | false=>vC G o s1 k
     | _=>vC G o s1 k
def P5 (kd:IntKind):Ty->Bool
 | .int k=>decide (k=kd)
 | .slc t=>P5 kd t
 | .ref t=>P5 kd t
 | .pair a b=>P5 kd a||P5 kd b
 | _=>false
def SE (kd:IntKind)(v:Int):(T:Ty)->T.den->T.den->Prop
 | .int k,x,y=>y=x\/(k=kd/\y=v)
 | .slc t,l,m=>m.length=l.length/\∀ (i:Nat) (x y:t.den),l[i]? = some x->m[i]? = some y->SE kd v t x y
 | .ref t,l,m=>m.length=l.length/\∀ (i:Nat) (x y:t.den),l[i]? = some x->m[i]? = some y->SE kd v t x y
 | .pair a b,x,y=>SE kd v a x.1 y.1/\SE kd v b x.2 y.2
 | .bool,x,y=>y=x
 | .str,x,y=>y=x
 | .unit,_,_=>True
 | .flt,x,y=>y=x
 | .cpx,x,y=>y=x
def hvL (kd:IntKind)(v:Int):VV->(VV->Prop)->Prop
 | .fz o T l,K=>match P5 kd T with
   | true=>∀ m:(Ty.slc T).den,SE kd v (.slc T) l m->K (.fz o T m)
   | false=>K (.fz o T l)
 | .pl x,K=>K (.pl x)
 | .own i,K=>K (.own i)
 | .ptr i o,K=>K (.ptr i o)
 | .hof i,K=>K (.hof i)
 | _,K=>K .undef
def aFf (kd:IntKind)(v:Int):List VV->(List VV->Prop)->Prop
 | [],K=>K []
 | x::r,K=>hvL kd v x fun y=>aFf kd v r fun l=>K (y::l)
def hvT (kd:IntKind)(v:Int)(t:List (Nat×VV)):List Nat->(List (Nat×VV)->Prop)->Prop
 | [],K=>K []
 | d::r,K=>hvL kd v (bQ t d) fun y=>hvT kd v t r fun l=>K ((d,y)::l)
def hvO (kd:IntKind)(v:Int):VO->(VO->Prop)->Prop
 | .box cs false,K=>aFf kd v cs fun cs=>K (.box cs false)
 | .lst o T l fr,K=>match P5 kd T with
   | true=>∀ m:(Ty.slc T).den,SE kd v (.slc T) l m->K (.lst o T m fr)
   | false=>K (.lst o T l fr)
 | .dead b,K=>K (.dead b)
 | _,_=>False
def hvH (kd:IntKind)(v:Int):List VO->(List VO->Prop)->Prop
 | [],K=>K []
 | o::r,K=>hvO kd v o fun o=>hvH kd v r fun l=>K (o::l)
def hvS (kd:IntKind)(v:Int)(live:List Nat)(s:VS)(K:VS->Prop):Prop:=hvT kd v s.t live fun t=>hvH kd v s.h fun h=>K ⟨t,h⟩
def TL (ops:Array Oper)(draw:Bool):Option (List Oper×Oper×TypeId×Operand×Operand) :=
 match IW ops.toList with
 | some (pre,o)=>match o.guard,o.dst,o.op with
   | none,none,.store ty a x=>match draw with
     | false=>some (pre,o,ty,a,x)
     | true=>match xH ops (aI ops.toList #[])&&(b7 ops (aI ops.toList #[])).isEmpty with
       | true=>some (pre,o,ty,a,x)
       | false=>none
   | _,_,_=>none
 | none=>none
def KT (G:Cfg)(ops:Array Oper)(draw:Bool)(live:List Nat)(s:VS)(k:VS->Prop):Prop :=
 match G.hv with
 | false=>G0 G ops draw s k
 | true=>match TL ops draw with
   | none=>G0 G ops draw s k
   | some (pre,o,ty,a,x)=>qV G ops (ops.size+1) none pre s fun s1=>match evV s1.t a,evV s1.t x with
     | .fptr true (.int kd) _ _ 0,.pl (.int kd' v)=>if kd=kd'/\zN G.P ty=some 1 then hvS kd v live s1 k else False
     | _,_=>vC G o s1 k
def mP:Nat->List VO->List Nat->List Nat->List Nat
 | 0,_,_,acc=>acc
 | _+1,_,[],acc=>acc
 | n+1,h,i::todo,acc =>
   match acc.contains i with
   | true=>mP n h todo acc
   | false=>mP n h (todo++(match aP h i with
    | .box cs _=>cs.flatMap aDX
    | _=>[])) (acc++[i])
def fY (i:Nat):List Nat->Nat->Option Nat
 | [],_=>none
 | j::l,n=>if i=j then some n else fY i l (n+1)
def L4 (ids:List Nat):VV->VV
 | .own i=>match fY i ids 0 with
   | some j => .own j
   | none => .undef
 | .ptr i off=>match fY i ids 0 with
   | some j => .ptr j off
   | none => .undef
 | .eptr i ix off=>match fY i ids 0 with
   | some j => .eptr j ix off
   | none => .undef
 | .pl v => .pl v
 | .er b => .er b
 | .fz o t l => .fz o t l
 | .fptr o t l ix off => .fptr o t l ix off
 | .hof i => .hof i
 | _ => .undef
def aA8 (ids:List Nat):VV->VV
 | .agg l => .agg (l.map (L4 ids))
 | .bx l off => .bx (l.map (L4 ids)) off
 | .bs l => .bs (l.map (L4 ids))
 | v=>L4 ids v
def D9 (ids:List Nat):VV->VV
 | .tup l => .tup (l.map (aA8 ids))
 | .fn f l => .fn f (l.map (aA8 ids))
 | v=>aA8 ids v
def qP (ids:List Nat):VO->VO
 | .box cs fr => .box (cs.map (L4 ids)) fr
 | o=>o
def HJ (live:List Nat)(s:VS):List VV×List VO :=
 let vs:=live.map (bQ s.t)
 let ids:=mP (2*s.h.length+40) s.h (vs.flatMap GK) []
 (vs.map (D9 ids),ids.map fun i=>qP ids (aP s.h i))
inductive Lf
 | int (k:IntKind)
 | bool
 | str
 | flt
 | cpx
 | fz (o:Bool) (t:Ty)
 | cst (v:VV)
 | fp (o:Bool) (t:Ty)
@[reducible] def Lf.den:Lf->Type
  | .int _=>Int
  | .bool=>Bool
  | .str=>ByteArray
  | .flt=>Nat
  | .cpx=>Nat×Nat
  | .fz _ t=>List t.den
  | .cst _=>Unit
  | .fp _ t=>t.den
inductive Cp
 | lf (x:Lf)
 | agg (l:List Lf)
 | bx (l:List Lf)
inductive Sh
 | lf (x:Lf)
 | agg (l:List Lf)
 | bx (l:List Lf)
 | fn (g:FuncId) (l:List Cp)
abbrev lI:Lf := .int .i64
abbrev lB:Lf := .bool
abbrev lZ (t:Ty):Lf := .fz false t
abbrev sI:Sh := .lf (.int .i64)
abbrev sB:Sh := .lf .bool
abbrev sZ (t:Ty):Sh := .lf (.fz false t)
abbrev sC (v:VV):Sh := .lf (.cst v)
@[reducible] def vI (n:Int):VV := .pl (.int .i64 n)
@[reducible] def vB (b:Bool):VV := .pl (.bool b)
@[reducible] def vK (k:IntKind) (n:Int):VV := .pl (.int k n)
@[reducible] def vZ (t:Ty) (l:List t.den):VV := .fz false t l
@[reducible] def vT (t:Ty) (l:List t.den):VV := .fz true t l
abbrev aCk:List Lf:=[lZ (.int .i64),lI,lZ (.int .i8)]
abbrev lAcc:List Lf:=[lZ (.int .i64),lI,lZ (.int .i32)]
abbrev aI8:List Lf:=[.cst (.pl (.slice none 0 0)),lI,.cst (.pl (.slice none 0 0))]
abbrev aI9:Sh:=sC (.pl (.slice none 0 0))
abbrev i7:Lf := .cst (.pl (.slice none 0 0))
abbrev fF:VV := .pl (.slice none 0 0)
abbrev sPt (n:Nat):Sh:=sC (.ptr n 0)
abbrev kW:Ty := .int .i32
abbrev dJ:Ty := .int .i8
abbrev cE:Ty := .int .i64
@[simp] abbrev iQ (i:Int) (n:Nat):Prop:=(0:Int)<=i/\i<(n:Int)
abbrev QT:=List (Bool×List VV)->Prop
inductive OSh
 | box (l:List Lf) (fr:Bool)
 | lst (o:Bool) (t:Ty) (fr:Bool)
 | dead
abbrev aIg:OSh := .box aI8 false
abbrev bTen:OSh := .box aCk false
abbrev oQc:OSh := .lst true (.int .i32) false
abbrev oQa:OSh := .lst true (.int .i64) false
@[reducible] def KY:List Lf->Type
  | []=>Unit
  | x::l=>x.den×KY l
@[reducible] def Cp.den:Cp->Type
  | .lf x=>x.den
  | .agg l=>KY l
  | .bx l=>KY l
@[reducible] def VU:List Cp->Type
  | []=>Unit
  | x::l=>x.den×VU l
@[reducible] def Sh.den:Sh->Type
  | .lf x=>x.den
  | .agg l=>KY l
  | .bx l=>KY l
  | .fn _ l=>VU l
@[reducible] def jK:List Sh->Type
  | []=>Unit
  | x::l=>x.den×jK l
@[reducible] def OSh.den:OSh->Type
  | .box l _=>KY l
  | .lst _ t _=>List t.den
  | .dead=>Unit
@[reducible] def B4:List OSh->Type
  | []=>Unit
  | x::l=>x.den×B4 l
def E8:(x:Lf)->x.den->VV
 | .int k,n => .pl (.int k n)
 | .bool,b => .pl (.bool b)
 | .str,s => .pl (.string s)
 | .flt,x => .pl (.float .f64 x)
 | .cpx,x => .pl (.complex .f64 x.1 x.2)
 | .fz o t,l => .fz o t l
 | .cst v,_=>v
 | .fp o t,x => .fptr o t [x] 0 0
def F6:(l:List Lf)->KY l->List VV
 | [],_=>[]
 | x::l,d=>E8 x d.1::F6 l d.2
def UE:(x:Cp)->x.den->VV
 | .lf x,d=>E8 x d
 | .agg l,d => .agg (F6 l d)
 | .bx l,d => .bx (F6 l d) 0
def XK:(l:List Cp)->VU l->List VV
 | [],_=>[]
 | x::l,d=>UE x d.1::XK l d.2
def UM:(x:Sh)->x.den->VV
 | .lf x,d=>E8 x d
 | .agg l,d => .agg (F6 l d)
 | .bx l,d => .bx (F6 l d) 0
 | .fn g l,d => .fn g (XK l d)
def jS:(l:List Sh)->jK l->List VV
 | [],_=>[]
 | x::l,d=>UM x d.1::jS l d.2
def aAZ:(x:OSh)->x.den->VO
 | .box l fr,d => .box (F6 l d) fr
 | .lst o t fr,d => .lst o t d fr
 | .dead,_ => .dead false
def IU:(l:List OSh)->B4 l->List VO
 | [],_=>[]
 | x::l,d=>aAZ x d.1::IU l d.2
def JE:VV->VV->Bool
 | .own i,.own j=>i==j
 | .ptr i o,.ptr j o'=>i==j&&o==o'
 | .undef,.undef=>true
 | .hof i,.hof j=>i==j
 | .pl (.int k a),.pl (.int k' b)=>decide (k=k')&&a==b
 | .pl (.bool a),.pl (.bool b)=>a==b
 | .pl (.slice none a b),.pl (.slice none c d)=>a==c&&b==d
 | .pl .nilFunc,.pl .nilFunc=>true
 | .pl (.pointer none),.pl (.pointer none)=>true
 | _,_=>false
def PE:List VV->List VV->Bool
 | [],[]=>true
 | a::l,b::r=>JE a b&&PE l r
 | _,_=>false
def I7:VV->VV->Bool
 | .fn f l,.fn g r=>f==g&&PE l r
 | a,b=>JE a b
def unF (x:Lf)(v:VV)(K:x.den->Prop):Prop :=
 match x with
 | .int k=>match v with
   | .pl (.int k' n)=>if k=k' then K n else False
   | _=>False
 | .bool=>match v with
   | .pl (.bool b)=>K b
   | _=>False
 | .str=>match v with
   | .pl (.string s)=>K s
   | _=>False
 | .flt=>match v with
   | .pl (.float .f64 x)=>K x
   | _=>False
 | .cpx=>match v with
   | .pl (.complex .f64 a b)=>K (a,b)
   | _=>False
 | .fz o t=>match v with
   | .fz o' t' l=>if o=o' then Ty.at t' t l K else False
   | _=>False
 | .cst c=>if I7 c v=true then K ()else False
 | .fp o t=>match v with
   | .fptr o' t' l 0 0=>if o=o' then Ty.at t' t l fun l=>(match l with
     | [x]=>K x
     | _=>False)else False
   | _=>False
def unL:(l:List Lf)->List VV->(KY l->Prop)->Prop
 | [],vs,K=>match vs with
   | []=>K ()
   | _=>False
 | x::l,vs,K=>match vs with
   | v::r=>unF x v fun a=>unL l r fun b=>K (a,b)
   | []=>False
def aFT (x:Cp)(v:VV)(K:x.den->Prop):Prop :=
 match x with
 | .lf x=>unF x v K
 | .agg l=>match v with
   | .agg cs=>unL l cs K
   | _=>False
 | .bx l=>match v with
   | .bx cs 0=>unL l cs K
   | _=>False
def unC:(l:List Cp)->List VV->(VU l->Prop)->Prop
 | [],vs,K=>match vs with
   | []=>K ()
   | _=>False
 | x::l,vs,K=>match vs with
   | v::r=>aFT x v fun a=>unC l r fun b=>K (a,b)
   | []=>False
def aF2 (x:Sh)(v:VV)(K:x.den->Prop):Prop :=
 match x with
 | .lf x=>unF x v K
 | .agg l=>match v with
   | .agg cs=>unL l cs K
   | _=>False
 | .bx l=>match v with
   | .bx cs 0=>unL l cs K
   | _=>False
 | .fn g l=>match v with
   | .fn g' cs=>if g=g' then unC l cs K else False
   | _=>False
def unS:(l:List Sh)->List VV->(jK l->Prop)->Prop
 | [],vs,K=>match vs with
   | []=>K ()
   | _=>False
 | x::l,vs,K=>match vs with
   | v::r=>aF2 x v fun a=>unS l r fun b=>K (a,b)
   | []=>False
def aGT (x:OSh)(v:VO)(K:x.den->Prop):Prop :=
 match x with
 | .box l fr=>match v with
   | .box cs fr'=>if fr=fr' then unL l cs K else False
   | _=>False
 | .lst o t fr=>match v with
   | .lst o' t' l fr'=>if o=o'/\fr=fr' then Ty.at t' t l K else False
   | _=>False
 | .dead=>match v with
   | .dead false=>K ()
   | _=>False
def unO:(l:List OSh)->List VO->(B4 l->Prop)->Prop
 | [],vs,K=>match vs with
   | []=>K ()
   | _=>False
 | x::l,vs,K=>match vs with
   | v::r=>aGT x v fun a=>unO l r fun b=>K (a,b)
   | []=>False
def CX:List Nat->List VV->List (Nat×VV)
 | d::ds,v::vs=>(d,v)::CX ds vs
 | _,_=>[]
structure Ent where
 live:List Nat
 sh:List Sh
 ob:List OSh
 P:jK sh×B4 ob->(bE->VS->Prop)->Prop
def OP (live:List Nat)(sh:List Sh)(ob:List OSh)(x:jK sh×B4 ob):VS:=⟨CX live (jS sh x.1),IU ob x.2⟩
def aFa (live:List Nat)(sh:List Sh)(ob:List OSh)(s:VS)(K:jK sh×B4 ob->Prop):Prop :=
 let c:=HJ live s
 unS sh c.1 fun a=>unO ob c.2 fun b=>K (a,b)
def Ent.run (E:Ent)(s:VS)(k:bE->VS->Prop):Prop:=aFa E.live E.sh E.ob s fun x=>E.P x k
def Loop {S:Type}(B:S->(S->Prop)->Prop)(s:S):Prop:=∀ X:S->Prop,(∀ s,B s X->X s)->X s
abbrev Tab:=Nat->Option Ent
structure Co where
 d:Nat
 cell:Option Nat
 fz:Bool
 T:Ty
abbrev nJ:=Nat->Option (List Co×List Nat)
def conv (fz:Bool)(T:Ty)(h:List VO)(v:VV):Option (VV×List VO) :=
 match fz,v with
 | false,.pl (.slice none 0 0)=>some (.own h.length,h++[.lst true T [] false])
 | true,.pl (.slice none 0 _)=>some (.fz false T [],h)
 | true,.own i=>match aP h i with
   | .lst _ t l _=>some (.fz false t l,freeze h [i])
   | _=>none
 | true,.fz _ t l=>some (.fz false t l,h)
 | _,_=>none
def co1 (s:VS)(c:Co):VS :=
 match c.cell with
 | none=>match conv c.fz c.T s.h (bQ s.t c.d)with
   | some (v,h)=>⟨(c.d,v)::s.t,h⟩
   | none=>s
 | some q=>match bQ s.t c.d with
   | .ptr i _=>match aP s.h i with
     | .box cs fr=>match cs[q]? with
       | some u=>match conv c.fz c.T s.h u with
         | some (v,h)=>⟨s.t,h.set i (.box (cs.set q v) fr)⟩
         | none=>s
       | none=>s
     | _=>s
   | _=>s
def aC4:List Co->VS->VS
 | [],s=>s
 | c::cs,s=>aC4 cs (co1 s c)
def rK (ct:Tab)(n:Nat)(f:VS->(bE->VS->Prop)->Prop)(s:VS)(k:bE->VS->Prop):Prop :=
 match ct n with
 | some E=>E.run s k
 | none=>f s k
def aHi (live:List Nat)(s:VS):VS:=⟨CX live (HJ live s).1,(HJ live s).2⟩
def sA (en:nJ)(n:Nat)(s:VS):VS :=
 match en n with
 | some (cs,l)=>aHi l (aC4 cs s)
 | none=>s
def aDb (x:Nat):List Nat->List Nat
 | []=>[x]
 | y::l=>if x<y then x::y::l else if x=y then y::l else y::aDb x l
def aHE (a b:List Nat):List Nat:=a.foldr aDb b
def aI2 (x:Nat)(l:List Nat):List Nat:=l.filter fun y => !(Nat.beq y x)
def aIE (o:Operand)(l:List Nat):List Nat :=
 match o with
 | .tmp i=>aDb i l
 | _=>l
def PI (ops:Array Oper):List Oper->List Nat->List Nat
 | [],out=>out
 | o::l,out=>(match o.guard with
   | some (j,_)=>(match (ops[j]?).bind (·.dst)with
     | some d=>aDb d
     | none=>id)
   | none=>id) (o.op.operands.toList.foldr aIE (match o.dst with
     | some d=>aI2 d (PI ops l out)
     | none=>PI ops l out))
def aBz (n:Nat):List (Nat×List Nat)->List Nat
 | []=>[]
 | (i,l)::r=>if i=n then l else aBz n r
def aIe (a b:List Nat):Bool:=a.all fun x=>b.any fun y=>Nat.beq y x
def aHP (f:List Nat->List Nat):Nat->List Nat->List Nat
 | 0,L=>L
 | k+1,L=>(fun N=>match aIe N L with
   | true=>L
   | false=>aHP f k (aHE N L)) (f L)
def lvC (res:List Nat):Code->Nat->List Nat->List (Nat×List Nat)->List Nat×List (Nat×List Nat)
 | .region _ ops _,n,out,_=>(PI ops ops.toList out,[(n,out)])
 | .seq a b,n,out,ex=>match lvC res b (2*n+1) out ex with
   | (lb,tb)=>match lvC res a (2*n) lb ex with
     | (la,ta)=>(la,ta++tb)
 | .cond c a b,n,out,ex=>match lvC res a (2*n) out ex,lvC res b (2*n+1) out ex with
   | (la,ta),(lb,tb)=>(aIE c (aHE la lb),ta++tb)
 | .block id b,n,out,ex=>lvC res b (2*n) out ((id,out)::ex)
 | .loop b,n,_,ex=>(fun L=>(L,(n,L)::(lvC res b (2*n) L ex).2)) (aHP (fun L=>(lvC res b (2*n) L ex).1) 20 [])
 | .exit id,n,_,ex=>(aBz id ex,[(n,aBz id ex)])
 | .ret,n,_,_=>(res,[(n,res)])
 | _,n,out,_=>(out,[(n,out)])
def aEZ (n:Nat):List (Nat×List Nat)->Option (List Nat)
 | []=>none
 | (i,l)::r=>if i=n then some l else aEZ n r
def coS (n:Nat):List (Nat×List Co)->List Co
 | []=>[]
 | (i,l)::r=>if i=n then l else coS n r
def L9 (b:Code)(res:List Nat)(cos:List (Nat×List Co)):nJ:=fun n=>match aEZ n (lvC res b 1 res []).2 with
 | some l=>some (coS n cos,l)
 | none=>none
def unr {S:Type}(B:S->(S->Prop)->Prop):Nat->S->Prop
 | 0,_=>False
 | n+1,s=>B s (unr B n)
def LB (k:bE->VS->Prop)(en:nJ)(n:Nat)(b:VS->(bE->VS->Prop)->Prop)(s:VS)(nx:VS->Prop):Prop :=
 b s fun e s'=>match e with
   | .normal=>nx (sA en n s')
   | e=>k e s'
def aF4 (en:nJ)(n:Nat):List Nat :=
 match en n with
 | some (_,l)=>l
 | none=>[]
def vwp (G:Cfg)(ct:Tab)(en:nJ):Code->Nat->VS->(bE->VS->Prop)->Prop
 | .skip,n,s,k=>k .normal (sA en n s)
 | .label _,n,s,k=>k .normal (sA en n s)
 | .region _ ops draw,n,s,k=>KT G ops draw (aF4 en n) s fun s'=>k .normal (sA en n s')
 | .seq a b,n,s,k=>rK ct (2*n) (vwp G ct en a (2*n)) s fun e s'=>match e with
   | .normal=>rK ct (2*n+1) (vwp G ct en b (2*n+1)) s' k
   | e=>k e s'
 | .cond c x y,n,s,k=>match evV s.t c with
   | .pl (.bool b)=>if b=true then rK ct (2*n) (vwp G ct en x (2*n)) s k else rK ct (2*n+1) (vwp G ct en y (2*n+1)) s k
   | _=>False
 | .block id b,n,s,k=>rK ct (2*n) (vwp G ct en b (2*n)) s fun e s'=>match e with
   | .exit id'=>k (if id'=id then .normal else .exit id') s'
   | e=>k e s'
 | .loop b,n,s,k=>match G.un with
   | 0=>Loop (LB k en n (rK ct (2*n) (vwp G ct en b (2*n)))) (sA en n s)
   | u+1=>unr (LB k en n (rK ct (2*n) (vwp G ct en b (2*n)))) (u+1) (sA en n s)
 | .exit id,n,s,k=>k (.exit id) (sA en n s)
 | .ret,n,s,k=>k .ret (sA en n s)
 | _,_,_,_=>False
def B8 (x:Lf)(v:VV)(K:x.den->Prop):Prop :=
 match x with
 | .fz false t=>match v with
   | .fz false t' l=>Ty.at t' t l K
   | .pl (.slice none 0 _)=>K []
   | _=>False
 | x=>unF x v K
def TK:(l:List Lf)->List VV->(KY l->Prop)->Prop
 | [],vs,K=>match vs with
   | []=>K ()
   | _=>False
 | x::l,vs,K=>match vs with
   | v::r=>B8 x v fun a=>TK l r fun b=>K (a,b)
   | []=>False
def aAk (x:Cp)(v:VV)(K:x.den->Prop):Prop :=
 match x with
 | .lf x=>B8 x v K
 | .agg l=>match v with
   | .agg cs=>TK l cs K
   | _=>False
 | .bx l=>match v with
   | .bx cs 0=>TK l cs K
   | _=>False
def aBV:(l:List Cp)->List VV->(VU l->Prop)->Prop
 | [],vs,K=>match vs with
   | []=>K ()
   | _=>False
 | x::l,vs,K=>match vs with
   | v::r=>aAk x v fun a=>aBV l r fun b=>K (a,b)
   | []=>False
def aCX (x:Sh)(v:VV)(K:x.den->Prop):Prop :=
 match x with
 | .lf x=>B8 x v K
 | .agg l=>match v with
   | .agg cs=>TK l cs K
   | _=>False
 | .bx l=>match v with
   | .bx cs 0=>TK l cs K
   | _=>False
 | .fn g l=>match v with
   | .fn g' cs=>if g=g' then aBV l cs K else False
   | _=>False
def SI:List VV->List Nat
 | []=>[]
 | .fn g _::l=>g::SI l
 | _::l=>SI l
def aEH:List Nat->List Nat->Bool
 | [],[]=>true
 | a::l,b::r=>a==b&&aEH l r
 | _,_=>false
def unA:(l:List Sh)->List VV->(jK l->Prop)->Prop
 | [],vs,K=>match vs with
   | []=>K ()
   | _=>False
 | x::l,vs,K=>match vs with
   | v::r=>aCX x v fun a=>unA l r fun b=>K (a,b)
   | []=>False
def GH (G:Cfg)(s:VS):List ResultVar->(List VV->Prop)->Prop
 | [],K=>K []
 | .tmp d::r,K=>GH G s r fun l=>K (bQ s.t d::l)
 | .cell d ty::r,K=>match bQ s.t d with
   | .ptr i off=>match aP s.h i with
     | .box cs _=>tR (aTy G.P ty) cs off fun v=>GH G s r fun l=>K (v::l)
     | _=>False
   | _=>False
def xp:(t:Ty)->List VV->List VO->(t.den->List VV->List VO->Prop)->Prop
 | .int k,cs,h,K=>match cs with
   | .pl (.int k' n)::r=>if k=k' then K n r h else False
   | _=>False
 | .bool,cs,h,K=>match cs with
   | .pl (.bool b)::r=>K b r h
   | _=>False
 | .str,cs,h,K=>match cs with
   | .pl (.string s)::r=>K s r h
   | _=>False
 | .flt,cs,h,K=>match cs with
   | .pl (.float .f64 x)::r=>K x r h
   | _=>False
 | .cpx,cs,h,K=>match cs with
   | .pl (.complex .f64 a b)::r=>K (a,b) r h
   | _=>False
 | .ref _,_,_,_=>False
 | .slc t,cs,h,K=>match cs with
   | .own i::r=>match aP h i with
     | .lst true t' l false=>Ty.at t' t l fun l=>K l r (h.set i (.dead false))
     | _=>False
   | .pl (.slice none 0 0)::r=>K [] r h
   | _=>False
 | .unit,cs,h,K=>K () cs h
 | .pair a b,cs,h,K=>xp a cs h fun x r h'=>xp b r h' fun y r' h''=>K (x,y) r' h''
inductive Al
 | n
 | f
 | z
 | p (a b:Al)
def xpA:Al->(t:Ty)->List VV->List VO->(t.den->List VV->List VO->Prop)->Prop
 | .f,.slc t,cs,h,K=>match cs with
   | .fz _ t' l::r=>Ty.at t' t l fun l=>K l r h
   | .own i::r=>match aP h i with
     | .lst _ t' l true=>Ty.at t' t l fun l=>K l r h
     | _=>False
   | .pl (.slice none 0 0)::r=>K [] r h
   | _=>False
 | .z,.slc t,cs,h,K=>match cs with
   | .own i::r=>match aP h i with
     | .lst true t' l false=>Ty.at t' t l fun l=>ck (l≠[]) (K l r (h.set i (.dead false)))
     | _=>False
   | .pl (.slice none 0 0)::r=>K [] r h
   | _=>False
 | .p x y,.pair a b,cs,h,K=>xpA x a cs h fun u r h'=>xpA y b r h' fun v r' h''=>K (u,v) r' h''
 | _,t,cs,h,K=>xp t cs h K
abbrev CG:=List (Bool×Ty)
@[reducible] def UU:CG->Type
  | []=>Unit
  | (_,t)::l=>t.den×UU l
def aDF:(t:Ty)->t.den->List VV
 | .int k,n=>[.pl (.int k n)]
 | .bool,b=>[.pl (.bool b)]
 | .str,s=>[.pl (.string s)]
 | .flt,x=>[.pl (.float .f64 x)]
 | .cpx,x=>[.pl (.complex .f64 x.1 x.2)]
 | .slc t,l=>[.nw t l]
 | .ref _,_=>[.undef]
 | .unit,_=>[]
 | .pair a b,x=>aDF a x.1++aDF b x.2
def QE:Al->(t:Ty)->t.den->List VV
 | .f,.slc t,l=>[.fz false t l]
 | .p x y,.pair a b,d=>QE x a d.1++QE y b d.2
 | _,t,d=>aDF t d
def zmk:Bool->Al->Ty->List VV
 | false,.z,.slc _=>[.undef]
 | _,_,_=>[]
def f5:(rt:CG)->List Al->UU rt->List (Bool×List VV)
 | [],_,_=>[]
 | (g,t)::l,al,d=>(g,QE (al.headD .n) t d.1++zmk g (al.headD .n) t)::f5 l al.tail d.2
abbrev aHR (rt:CG)(d:UU rt):List (Bool×List VV):=f5 rt [] d
def RQ:VV->Bool
 | .agg _=>true
 | _=>false
def IM:(rt:CG)->List Al->List VV->List VO->(UU rt->Prop)->Prop
 | [],_,vs,_,K=>match vs with
   | []=>K ()
   | _=>False
 | (g,t)::l,al,vs,h,K=>match vs with
   | v::r=>if RQ v=g/\(g=true\/okL v=true)then xpA (al.headD .n) t (c8 v) h fun x left h'=>match left with
      | []=>IM l al.tail r h' fun y=>K (x,y)
      | _=>False
     else False
   | []=>False
def lS (args:List VV):List (Nat×VV):=CX (List.range args.length) args
def wX (n:Nat)(t:List (Nat×VV)):List (Nat×VV):=t.map fun p=>(p.1+n,p.2)
def JB (n:Nat):List (Nat×VV)->List (Nat×VV)
 | []=>[]
 | (d,v)::l=>if n<=d then(d-n,v)::JB n l else JB n l
def r1B:VV->Bool
 | .tup _ | .fn _ _=>false
 | _=>true
def inlRun (G:Cfg)(ct:Tab)(en:nJ)(fn:Func)(c:Code)(args:List VV)(s:VS)(k:VV->VS->Prop):Prop :=
 if args.length<=fn.ntmps then rK ct 1 (vwp G ct en c 1) ⟨lS args++wX fn.ntmps s.t,s.h⟩ fun e s2=>match e with
  | .normal | .ret=>GH G s2 fn.results.toList fun vs=>if vs.all r1B=true then k (JM vs) ⟨JB fn.ntmps s2.t,s2.h⟩else False
  | _=>False
 else False
def U3 (G:Cfg)(ct:Tab)(en:nJ)(fn:Func)(c:Code)(rt:CG)(al:List Al)(args:List VV)(Q:UU rt->Prop):Prop :=
 rK ct 1 (vwp G ct en c 1) ⟨lS args,[]⟩ fun e s=>match e with
  | .normal | .ret=>GH G s fn.results.toList fun vs=>IM rt al vs s.h Q
  | _=>False
end Go.Mach
