/- Part of the proof. No condition. -/
import Derived.Test.YtcfpfefadlnmcaaGreatYExt
namespace Go.Mach
inductive dU
 | normal
 | exit (id:Nat)
 | goto (l:Nat)
 | ret
abbrev iW:=Nat->FuncId->Array Value->aB->Option (Value×aB)
def dZ (ops:Array Oper)(t:aC)(o:Oper):Bool :=
 match o.guard with
 | none=>true
 | some (j,want)=>match (ops[j]?).bind (·.dst)with
   | some d=>match t d with
     | .bool b=>b==want
     | _=>false
   | none=>false
def jZ (P:Program)(call:iW)(fl flc:Nat)(ops:Array Oper)(o:Oper)(t:aC)(H:aB):Option (aC×aB) :=
 if dZ ops t o then
  match aT P fl o.op (eval t) H with
  | some (.value v,H')=>some (uS t o.dst v,H')
  | some (.skip,H')=>some (uS t o.dst undef,H')
  | some (.enter f args,H')=>match call flc f args H' with
    | some (v,H2)=>some (uS t o.dst v,H2)
    | none=>none
  | none=>none
 else some (uS t o.dst undef,H)
def qI (P:Program)(call:iW)(fl:Nat)(ops:Array Oper):List Oper->aC->aB->Option (aC×aB)
 | [],t,H=>some (t,H)
 | o::rest,t,H=>match jZ P call fl fl ops o t H with
   | some (t',H')=>qI P call fl ops rest t' H'
   | none=>none
def EB (acc:Array Nat)(o:Oper):Nat :=
 o.after.toList.foldl (fun s e=>if Region.binds .any e then s ||| 2 ^ e.on ||| acc.getD e.on 0 else s) 0
def bK:List Oper->Array Nat->Array Nat
 | [],acc=>acc
 | o::rest,acc=>bK rest (acc.push (EB acc o))
def bA:Op->Nat
 | .alloc _ | .box .. | .buildSlice .. | .makeSlice .. => 1
 | .load .. | .convert .. => 2
 | .store .. => 3
 | .call c=>match c.callee with
   | .builtin .append | .builtin .copy=>3
   | .builtin _=>0
   | _=>4
 | _=>0
def aAR (o:Op):List Nat:=o.operands.toList.filterMap fun | .tmp d=>some d|_=>none
def HR (ops:Array Oper)(o:Oper):List Nat :=
 aAR o.op++(match o.guard with
  | some (j,_)=>((ops[j]?).bind (·.dst)).toList
  | none=>[])
def tH (ops:Array Oper)(x y:Oper):Bool :=
 (match x.dst with
  | some d=>(HR ops y).contains d||y.dst==some d
  | none=>false) ||
 (match y.dst with
  | some d=>(HR ops x).contains d
  | none=>false)
def iB (ops:Array Oper)(b:Array Nat)(i:Nat):Bool :=
 (List.range ops.size).all fun j=>j==i||((ops[j]?).map fun o=>bA o.op==0||(bA o.op==1&&decide (i<j))).getD true||(b.getD i 0).testBit j||(b.getD j 0).testBit i
def WD (ops:Array Oper):Bool :=
 (List.range ops.size).all fun i=>((ops[i]?).map fun o=>o.after.toList.all fun e => !Region.binds .any e||e.on<i).getD true
def yE (ops:Array Oper)(b:Array Nat):Bool :=
 WD ops&&(List.range ops.size).all fun j=>(List.range j).all fun i =>
  match ops[i]?,ops[j]? with
  | some oi,some oj=>(b.getD j 0).testBit i ||
   (!tH ops oi oj && !(bA oi.op==4&&bA oj.op==3) && !(bA oi.op==3&&bA oj.op==4))
  | _,_=>false
def i9 (ops:Array Oper)(b:Array Nat):List (Nat×Nat) :=
 (List.range ops.size).flatMap fun j=>((List.range j).filter fun i =>
  match ops[i]?,ops[j]? with
  | some oi,some oj => !(b.getD j 0).testBit i&&((bA oi.op==3&&(bA oj.op==2||bA oj.op==3))||(bA oj.op==3&&bA oi.op==2))
  | _,_=>false).map fun i=>(i,j)
def pM (ops:Array Oper)(i:Nat):Bool :=
 match ops[i]? with
 | some o=>(List.range ops.size).all fun k=>k<i||((ops[k]?).map fun p=>match p.dst with
  | some d => !(aAR o.op).contains d
  | none=>true).getD true
 | none=>false
def GY (xs ys:List Nat):Bool:=xs.all fun x=>ys.all fun y=>x != y
def jA (ops:Array Oper)(t:aC)(p:Nat×Nat):Bool :=
 match ops[p.1]?,ops[p.2]? with
 | some oi,some oj=>GY (qG oi.op (eval t)) (j9 oj.op (eval t))&&GY (j9 oi.op (eval t)) (qG oj.op (eval t))
 | _,_=>false
def jW (P:Program)(call:iW)(fl:Nat)(ops:Array Oper)(b:Array Nat):Nat->List Oper->aC->aB->Option (aC×aB)
 | _,[],t,H=>some (t,H)
 | i,o::rest,t,H=>match jZ P call fl (if bA o.op==4&&iB ops b i then fl else H.length) ops o t H with
   | some (t',H')=>jW P call fl ops b (i+1) rest t' H'
   | none=>none
def fZ (P:Program)(call:iW)(fl:Nat)(ops:Array Oper)(draw:Bool)(t:aC)(H:aB):Option (aC×aB) :=
 if draw then
  let b:=bK ops.toList #[]
  if yE ops b&&(i9 ops b).all (fun p=>pM ops p.1&&pM ops p.2)then
   match jW P call fl ops b 0 ops.toList t H with
   | some (t',H')=>if (i9 ops b).all (jA ops t')then some (t',H')else none
   | none=>none
  else none
 else qI P call fl ops ops.toList t H
def w9 (body:aC->aB->Option (dU×aC×aB)):Nat->aC->aB->Option (dU×aC×aB)
 | 0,_,_=>none
 | n+1,t,H=>match body t H with
   | some (.normal,t',H')=>w9 body n t' H'
   | r=>r
def gU (P:Program)(call:iW)(m:Nat)(fl:Nat):Code->aC->aB->Option (dU×aC×aB)
 | .skip,t,H | .label _,t,H=>some (.normal,t,H)
 | .region _ ops draw,t,H=>match fZ P call fl ops draw t H with
   | some (t',H')=>some (.normal,t',H')
   | none=>none
 | .seq a b,t,H=>match gU P call m fl a t H with
   | some (.normal,t',H')=>gU P call m fl b t' H'
   | r=>r
 | .cond c x y,t,H=>match eval t c with
   | .bool true=>gU P call m fl x t H
   | .bool false=>gU P call m fl y t H
   | _=>none
 | .block id body,t,H=>match gU P call m fl body t H with
   | some (.exit id',t',H')=>some (if id'=id then .normal else .exit id',t',H')
   | r=>r
 | .loop body,t,H=>w9 (gU P call m fl body) m t H
 | .exit id,t,H=>some (.exit id,t,H)
 | .goto l,t,H=>some (.goto l,t,H)
 | .ret,t,H=>some (.ret,t,H)
 | _,_,_=>none
def aFD (c:Code):Code:=c
def bod (fn:Func):Option Code:=fn.body.map aFD
def aE (n:Nat):Operand->Bool
 | .tmp d=>d<n
 | .const v=>i6 v
 | .global _=>false
 | .func _=>true
def mX (n:Nat)(ops:Array Oper)(o:Oper):Bool :=
 o.op.operands.toList.all (aE n)&&o.dst.all (· < n)&&(match o.guard with
   | some (j,_)=>((ops[j]?).bind (·.dst)).all (· < n)
   | none=>true)
def fA (n:Nat):Code->Bool
 | .region _ ops _=>ops.toList.all (mX n ops)
 | .seq a b=>fA n a&&fA n b
 | .cond c x y=>aE n c&&fA n x&&fA n y
 | .block _ b | .loop b=>fA n b
 | .skip | .label _ | .exit _ | .goto _ | .ret=>true
 | _=>false
def p7 (P:Program)(t:aC)(H:aB):ResultVar->Option Value
 | .tmp d=>some (t d)
 | .cell a ty=>match t a with
   | .pointer (some p)=>FZ P ty H p
   | _=>none
def eE (P:Program)(t:aC)(H:aB):List ResultVar->Option (List Value)
 | []=>some []
 | r::rs=>match p7 P t H r,eE P t H rs with
   | some v,some vs=>some (v::vs)
   | _,_=>none
def xC:List Value->Value
 | [v]=>v
 | vs => .tuple vs.toArray
def F7 (fn:Func)(c:Code):Bool :=
 fA fn.ntmps c&&fn.params.size<=fn.ntmps&&fn.results.toList.all fun | .tmp d=>d<fn.ntmps | .cell d _=>d<fn.ntmps
def okF (f:FuncId)(fn:Func)(c:Code):Bool := !aIJ f&&F7 fn c
theorem O0 {f:FuncId}{fn:Func}{c:Code}(h:okF f fn c=true):F7 fn c=true:=by
 simp only[okF,Bool.and_eq_true]at h
 exact h.2
def start (args:Array Value):aC:=fun i=>args.getD i undef
def qC (P:Program):Nat->iW
 | 0,_,_,_,_=>none
 | n+1,fl,f,args,H =>
   match P.funcs[f]? with
   | some fn=>match bod fn with
     | some c=>if okF f fn c&&args.size<=fn.ntmps then
      match gU P (qC P n) n fl c (start args) H with
      | some (.normal,t,H')|some (.ret,t,H')=>(eE P t H' fn.results.toList).map fun vs=>(xC vs,H')
      | _=>none
       else NJ P fl f args H
     | none=>none
   | none=>none
end Go.Mach
