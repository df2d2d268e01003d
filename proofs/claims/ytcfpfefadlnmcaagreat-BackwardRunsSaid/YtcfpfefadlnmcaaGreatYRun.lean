/- Part of the proof. No condition. -/
import Derived.Test.YtcfpfefadlnmcaaGreatYExt
namespace Go.Mach
inductive f9
 | normal
 | exit (id:Nat)
 | goto (l:Nat)
 | ret
abbrev nS:=Nat->FuncId->Array Value->aE->Option (Value×aE)
def gN (ops:Array Oper)(t:aJ)(o:Oper):Bool :=
 match o.guard with
 | none=>true
 | some (j,want)=>match (ops[j]?).bind (·.dst)with
   | some d=>match t d with
     | .bool b=>b==want
     | _=>false
   | none=>false
def o8 (P:Program)(call:nS)(fl flc:Nat)(ops:Array Oper)(o:Oper)(t:aJ)(H:aE):Option (aJ×aE) :=
 if gN ops t o then
  match bX P fl o.op (eval t) H with
  | some (.value v,H')=>some (C6 t o.dst v,H')
  | some (.skip,H')=>some (C6 t o.dst undef,H')
  | some (.enter f args,H')=>match call flc f args H' with
    | some (v,H2)=>some (C6 t o.dst v,H2)
    | none=>none
  | none=>none
 else some (C6 t o.dst undef,H)
def yS (P:Program)(call:nS)(fl:Nat)(ops:Array Oper):List Oper->aJ->aE->Option (aJ×aE)
 | [],t,H=>some (t,H)
 | o::rest,t,H=>match o8 P call fl fl ops o t H with
   | some (t',H')=>yS P call fl ops rest t' H'
   | none=>none
def P3 (acc:Array Nat)(o:Oper):Nat :=
 o.after.toList.foldl (fun s e=>if Region.binds .any e then s ||| 2 ^ e.on ||| acc.getD e.on 0 else s) 0
def cY:List Oper->Array Nat->Array Nat
 | [],acc=>acc
 | o::rest,acc=>cY rest (acc.push (P3 acc o))
def cL:Op->Nat
 | .alloc _ | .box .. | .buildSlice .. | .makeSlice .. => 1
 | .load .. | .convert .. => 2
 | .store .. => 3
 | .call c=>match c.callee with
   | .builtin .append | .builtin .copy=>3
   | .builtin _=>0
   | _=>4
 | _=>0
def aGd (o:Op):List Nat:=o.operands.toList.filterMap fun | .tmp d=>some d|_=>none
def UV (ops:Array Oper)(o:Oper):List Nat :=
 aGd o.op++(match o.guard with
  | some (j,_)=>((ops[j]?).bind (·.dst)).toList
  | none=>[])
def BM (ops:Array Oper)(x y:Oper):Bool :=
 (match x.dst with
  | some d=>(UV ops y).contains d||y.dst==some d
  | none=>false) ||
 (match y.dst with
  | some d=>(UV ops x).contains d
  | none=>false)
def lQ (ops:Array Oper)(b:Array Nat)(i:Nat):Bool :=
 (List.range ops.size).all fun j=>j==i||((ops[j]?).map fun o=>cL o.op==0||(cL o.op==1&&decide (i<j))).getD true||(b.getD i 0).testBit j||(b.getD j 0).testBit i
def aE1 (ops:Array Oper):Bool :=
 (List.range ops.size).all fun i=>((ops[i]?).map fun o=>o.after.toList.all fun e => !Region.binds .any e||e.on<i).getD true
def GK (ops:Array Oper)(b:Array Nat):Bool :=
 aE1 ops&&(List.range ops.size).all fun j=>(List.range j).all fun i =>
  match ops[i]?,ops[j]? with
  | some oi,some oj=>(b.getD j 0).testBit i ||
   (!BM ops oi oj && !(cL oi.op==4&&cL oj.op==3) && !(cL oi.op==3&&cL oj.op==4))
  | _,_=>false
def n6 (ops:Array Oper)(b:Array Nat):List (Nat×Nat) :=
 (List.range ops.size).flatMap fun j=>((List.range j).filter fun i =>
  match ops[i]?,ops[j]? with
  | some oi,some oj => !(b.getD j 0).testBit i&&((cL oi.op==3&&(cL oj.op==2||cL oj.op==3))||(cL oj.op==3&&cL oi.op==2))
  | _,_=>false).map fun i=>(i,j)
def wT (ops:Array Oper)(i:Nat):Bool :=
 match ops[i]? with
 | some o=>(List.range ops.size).all fun k=>k<i||((ops[k]?).map fun p=>match p.dst with
  | some d => !(aGd o.op).contains d
  | none=>true).getD true
 | none=>false
def SG (xs ys:List Nat):Bool:=xs.all fun x=>ys.all fun y=>x != y
def nW (ops:Array Oper)(t:aJ)(p:Nat×Nat):Bool :=
 match ops[p.1]?,ops[p.2]? with
 | some oi,some oj=>SG (xY oi.op (eval t)) (pI oj.op (eval t))&&SG (pI oi.op (eval t)) (xY oj.op (eval t))
 | _,_=>false
def oT (P:Program)(call:nS)(fl:Nat)(ops:Array Oper)(b:Array Nat):Nat->List Oper->aJ->aE->Option (aJ×aE)
 | _,[],t,H=>some (t,H)
 | i,o::rest,t,H=>match o8 P call fl (if cL o.op==4&&lQ ops b i then fl else H.length) ops o t H with
   | some (t',H')=>oT P call fl ops b (i+1) rest t' H'
   | none=>none
def j8 (P:Program)(call:nS)(fl:Nat)(ops:Array Oper)(draw:Bool)(t:aJ)(H:aE):Option (aJ×aE) :=
 if draw then
  let b:=cY ops.toList #[]
  if GK ops b&&(n6 ops b).all (fun p=>wT ops p.1&&wT ops p.2)then
   match oT P call fl ops b 0 ops.toList t H with
   | some (t',H')=>if (n6 ops b).all (nW ops t')then some (t',H')else none
   | none=>none
  else none
 else yS P call fl ops ops.toList t H
def GA (body:aJ->aE->Option (f9×aJ×aE)):Nat->aJ->aE->Option (f9×aJ×aE)
 | 0,_,_=>none
 | n+1,t,H=>match body t H with
   | some (.normal,t',H')=>GA body n t' H'
   | r=>r
def lD (P:Program)(call:nS)(m:Nat)(fl:Nat):Code->aJ->aE->Option (f9×aJ×aE)
 | .skip,t,H | .label _,t,H=>some (.normal,t,H)
 | .region _ ops draw,t,H=>match j8 P call fl ops draw t H with
   | some (t',H')=>some (.normal,t',H')
   | none=>none
 | .seq a b,t,H=>match lD P call m fl a t H with
   | some (.normal,t',H')=>lD P call m fl b t' H'
   | r=>r
 | .cond c x y,t,H=>match eval t c with
   | .bool true=>lD P call m fl x t H
   | .bool false=>lD P call m fl y t H
   | _=>none
 | .block id body,t,H=>match lD P call m fl body t H with
   | some (.exit id',t',H')=>some (if id'=id then .normal else .exit id',t',H')
   | r=>r
 | .loop body,t,H=>GA (lD P call m fl body) m t H
 | .exit id,t,H=>some (.exit id,t,H)
 | .goto l,t,H=>some (.goto l,t,H)
 | .ret,t,H=>some (.ret,t,H)
 | _,_,_=>none
def aL1 (c:Code):Code:=c
def bod (fn:Func):Option Code:=fn.body.map aL1
def aS (n:Nat):Operand->Bool
 | .tmp d=>d<n
 | .const v=>nL v
 | .global _=>false
 | .func _=>true
def tH (n:Nat)(ops:Array Oper)(o:Oper):Bool :=
 o.op.operands.toList.all (aS n)&&o.dst.all (· < n)&&(match o.guard with
   | some (j,_)=>((ops[j]?).bind (·.dst)).all (· < n)
   | none=>true)
def jA (n:Nat):Code->Bool
 | .region _ ops _=>ops.toList.all (tH n ops)
 | .seq a b=>jA n a&&jA n b
 | .cond c x y=>aS n c&&jA n x&&jA n y
 | .block _ b | .loop b=>jA n b
 | .skip | .label _ | .exit _ | .goto _ | .ret=>true
 | _=>false
def xH (P:Program)(t:aJ)(H:aE):ResultVar->Option Value
 | .tmp d=>some (t d)
 | .cell a ty=>match t a with
   | .pointer (some p)=>Q5 P ty H p
   | _=>none
def iD (P:Program)(t:aJ)(H:aE):List ResultVar->Option (List Value)
 | []=>some []
 | r::rs=>match xH P t H r,iD P t H rs with
   | some v,some vs=>some (v::vs)
   | _,_=>none
def F1:List Value->Value
 | [v]=>v
 | vs => .tuple vs.toArray
def SN (fn:Func)(c:Code):Bool :=
 jA fn.ntmps c&&fn.params.size<=fn.ntmps&&fn.results.toList.all fun | .tmp d=>d<fn.ntmps | .cell d _=>d<fn.ntmps
def okF (f:FuncId)(fn:Func)(c:Code):Bool := !aOg f&&SN fn c
theorem ZG {f:FuncId}{fn:Func}{c:Code}(h:okF f fn c=true):SN fn c=true:=by
 simp only[okF,aI]at h
 exact h.2
def start (args:Array Value):aJ:=fun i=>args.getD i undef
def xM (P:Program):Nat->nS
 | 0,_,_,_,_=>none
 | n+1,fl,f,args,H =>
   match P.funcs[f]? with
   | some fn=>match bod fn with
     | some c=>if okF f fn c&&args.size<=fn.ntmps then
      match lD P (xM P n) n fl c (start args) H with
      | some (.normal,t,H')|some (.ret,t,H')=>(iD P t H' fn.results.toList).map fun vs=>(F1 vs,H')
      | _=>none
       else YJ P fl f args H
     | none=>none
   | none=>none
end Go.Mach
