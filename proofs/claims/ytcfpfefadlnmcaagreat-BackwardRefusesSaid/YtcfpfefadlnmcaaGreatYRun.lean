/- Part of the proof. No condition. -/
import Derived.Test.YtcfpfefadlnmcaaGreatYExt
namespace Go.Mach
inductive gT
 | normal
 | exit (id:Nat)
 | goto (l:Nat)
 | ret
abbrev nZ:=Nat->FuncId->Array Value->aE->Option (Value×aE)
def g9 (ops:Array Oper)(t:aM)(o:Oper):Bool :=
 match o.guard with
 | none=>true
 | some (j,want)=>match (ops[j]?).bind (·.dst)with
   | some d=>match t d with
     | .bool b=>b==want
     | _=>false
   | none=>false
def pB (P:Program)(call:nZ)(fl flc:Nat)(ops:Array Oper)(o:Oper)(t:aM)(H:aE):Option (aM×aE) :=
 if g9 ops t o then
  match bW P fl o.op (eval t) H with
  | some (.value v,H')=>some (DQ t o.dst v,H')
  | some (.skip,H')=>some (DQ t o.dst undef,H')
  | some (.enter f args,H')=>match call flc f args H' with
    | some (v,H2)=>some (DQ t o.dst v,H2)
    | none=>none
  | none=>none
 else some (DQ t o.dst undef,H)
def yS (P:Program)(call:nZ)(fl:Nat)(ops:Array Oper):List Oper->aM->aE->Option (aM×aE)
 | [],t,H=>some (t,H)
 | o::rest,t,H=>match pB P call fl fl ops o t H with
   | some (t',H')=>yS P call fl ops rest t' H'
   | none=>none
def OW (acc:Array Nat)(o:Oper):Nat :=
 o.after.toList.foldl (fun s e=>if Region.binds .any e then s ||| 2 ^ e.on ||| acc.getD e.on 0 else s) 0
def cV:List Oper->Array Nat->Array Nat
 | [],acc=>acc
 | o::rest,acc=>cV rest (acc.push (OW acc o))
def cI:Op->Nat
 | .alloc _ | .box .. | .buildSlice .. | .makeSlice .. => 1
 | .load .. | .convert .. => 2
 | .store .. => 3
 | .call c=>match c.callee with
   | .builtin .append | .builtin .copy=>3
   | .builtin _=>0
   | _=>4
 | _=>0
def aH0 (o:Op):List Nat:=o.operands.toList.filterMap fun | .tmp d=>some d|_=>none
def UD (ops:Array Oper)(o:Oper):List Nat :=
 aH0 o.op++(match o.guard with
  | some (j,_)=>((ops[j]?).bind (·.dst)).toList
  | none=>[])
def BL (ops:Array Oper)(x y:Oper):Bool :=
 (match x.dst with
  | some d=>(UD ops y).contains d||y.dst==some d
  | none=>false) ||
 (match y.dst with
  | some d=>(UD ops x).contains d
  | none=>false)
def mC (ops:Array Oper)(b:Array Nat)(i:Nat):Bool :=
 (List.range ops.size).all fun j=>j==i||((ops[j]?).map fun o=>cI o.op==0||(cI o.op==1&&decide (i<j))).getD true||(b.getD i 0).testBit j||(b.getD j 0).testBit i
def aDX (ops:Array Oper):Bool :=
 (List.range ops.size).all fun i=>((ops[i]?).map fun o=>o.after.toList.all fun e => !Region.binds .any e||e.on<i).getD true
def HR (ops:Array Oper)(b:Array Nat):Bool :=
 aDX ops&&(List.range ops.size).all fun j=>(List.range j).all fun i =>
  match ops[i]?,ops[j]? with
  | some oi,some oj=>(b.getD j 0).testBit i ||
   (!BL ops oi oj && !(cI oi.op==4&&cI oj.op==3) && !(cI oi.op==3&&cI oj.op==4))
  | _,_=>false
def oK (ops:Array Oper)(b:Array Nat):List (Nat×Nat) :=
 (List.range ops.size).flatMap fun j=>((List.range j).filter fun i =>
  match ops[i]?,ops[j]? with
  | some oi,some oj => !(b.getD j 0).testBit i&&((cI oi.op==3&&(cI oj.op==2||cI oj.op==3))||(cI oj.op==3&&cI oi.op==2))
  | _,_=>false).map fun i=>(i,j)
def xJ (ops:Array Oper)(i:Nat):Bool :=
 match ops[i]? with
 | some o=>(List.range ops.size).all fun k=>k<i||((ops[k]?).map fun p=>match p.dst with
  | some d => !(aH0 o.op).contains d
  | none=>true).getD true
 | none=>false
def SQ (xs ys:List Nat):Bool:=xs.all fun x=>ys.all fun y=>x != y
def oJ (ops:Array Oper)(t:aM)(p:Nat×Nat):Bool :=
 match ops[p.1]?,ops[p.2]? with
 | some oi,some oj=>SQ (yM oi.op (eval t)) (pO oj.op (eval t))&&SQ (pO oi.op (eval t)) (yM oj.op (eval t))
 | _,_=>false
def o6 (P:Program)(call:nZ)(fl:Nat)(ops:Array Oper)(b:Array Nat):Nat->List Oper->aM->aE->Option (aM×aE)
 | _,[],t,H=>some (t,H)
 | i,o::rest,t,H=>match pB P call fl (if cI o.op==4&&mC ops b i then fl else H.length) ops o t H with
   | some (t',H')=>o6 P call fl ops b (i+1) rest t' H'
   | none=>none
def kP (P:Program)(call:nZ)(fl:Nat)(ops:Array Oper)(draw:Bool)(t:aM)(H:aE):Option (aM×aE) :=
 if draw then
  let b:=cV ops.toList #[]
  if HR ops b&&(oK ops b).all (fun p=>xJ ops p.1&&xJ ops p.2)then
   match o6 P call fl ops b 0 ops.toList t H with
   | some (t',H')=>if (oK ops b).all (oJ ops t')then some (t',H')else none
   | none=>none
  else none
 else yS P call fl ops ops.toList t H
def GW (body:aM->aE->Option (gT×aM×aE)):Nat->aM->aE->Option (gT×aM×aE)
 | 0,_,_=>none
 | n+1,t,H=>match body t H with
   | some (.normal,t',H')=>GW body n t' H'
   | r=>r
def lR (P:Program)(call:nZ)(m:Nat)(fl:Nat):Code->aM->aE->Option (gT×aM×aE)
 | .skip,t,H | .label _,t,H=>some (.normal,t,H)
 | .region _ ops draw,t,H=>match kP P call fl ops draw t H with
   | some (t',H')=>some (.normal,t',H')
   | none=>none
 | .seq a b,t,H=>match lR P call m fl a t H with
   | some (.normal,t',H')=>lR P call m fl b t' H'
   | r=>r
 | .cond c x y,t,H=>match eval t c with
   | .bool true=>lR P call m fl x t H
   | .bool false=>lR P call m fl y t H
   | _=>none
 | .block id body,t,H=>match lR P call m fl body t H with
   | some (.exit id',t',H')=>some (if id'=id then .normal else .exit id',t',H')
   | r=>r
 | .loop body,t,H=>GW (lR P call m fl body) m t H
 | .exit id,t,H=>some (.exit id,t,H)
 | .goto l,t,H=>some (.goto l,t,H)
 | .ret,t,H=>some (.ret,t,H)
 | _,_,_=>none
def aLn (c:Code):Code:=c
def bod (fn:Func):Option Code:=fn.body.map aLn
def aS (n:Nat):Operand->Bool
 | .tmp d=>d<n
 | .const v=>nY v
 | .global _=>false
 | .func _=>true
def tU (n:Nat)(ops:Array Oper)(o:Oper):Bool :=
 o.op.operands.toList.all (aS n)&&o.dst.all (· < n)&&(match o.guard with
   | some (j,_)=>((ops[j]?).bind (·.dst)).all (· < n)
   | none=>true)
def jG (n:Nat):Code->Bool
 | .region _ ops _=>ops.toList.all (tU n ops)
 | .seq a b=>jG n a&&jG n b
 | .cond c x y=>aS n c&&jG n x&&jG n y
 | .block _ b | .loop b=>jG n b
 | .skip | .label _ | .exit _ | .goto _ | .ret=>true
 | _=>false
def yF (P:Program)(t:aM)(H:aE):ResultVar->Option Value
 | .tmp d=>some (t d)
 | .cell a ty=>match t a with
   | .pointer (some p)=>RA P ty H p
   | _=>none
def iQ (P:Program)(t:aM)(H:aE):List ResultVar->Option (List Value)
 | []=>some []
 | r::rs=>match yF P t H r,iQ P t H rs with
   | some v,some vs=>some (v::vs)
   | _,_=>none
def GX:List Value->Value
 | [v]=>v
 | vs => .tuple vs.toArray
def S0 (fn:Func)(c:Code):Bool :=
 jG fn.ntmps c&&fn.params.size<=fn.ntmps&&fn.results.toList.all fun | .tmp d=>d<fn.ntmps | .cell d _=>d<fn.ntmps
def okF (f:FuncId)(fn:Func)(c:Code):Bool := !aPN f&&S0 fn c
theorem ZK {f:FuncId}{fn:Func}{c:Code}(h:okF f fn c=true):S0 fn c=true:=by
 simp only[okF,aK]at h
 exact h.2
def start (args:Array Value):aM:=fun i=>args.getD i undef
def yD (P:Program):Nat->nZ
 | 0,_,_,_,_=>none
 | n+1,fl,f,args,H =>
   match P.funcs[f]? with
   | some fn=>match bod fn with
     | some c=>if okF f fn c&&args.size<=fn.ntmps then
      match lR P (yD P n) n fl c (start args) H with
      | some (.normal,t,H')|some (.ret,t,H')=>(iQ P t H' fn.results.toList).map fun vs=>(GX vs,H')
      | _=>none
       else YS P fl f args H
     | none=>none
   | none=>none
end Go.Mach
