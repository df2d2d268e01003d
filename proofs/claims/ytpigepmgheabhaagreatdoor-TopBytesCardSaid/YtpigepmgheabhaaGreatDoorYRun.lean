/- Part of the proof. No condition. -/
import Derived.Test.YtpigepmgheabhaaGreatDoorYExt
namespace Go.Mach
inductive bE
 | normal
 | exit (id:Nat)
 | goto (l:Nat)
 | ret
abbrev aQ:=Nat->FuncId->Array Value->aD->Option (Value×aD)
def bS (ops:Array Oper)(t:aE)(o:Oper):Bool :=
 match o.guard with
 | none=>true
 | some (j,want)=>match (ops[j]?).bind (·.dst)with
   | some d=>match t d with
     | .bool b=>b==want
     | _=>false
   | none=>false
def cF (P:Program)(call:aQ)(fl flc:Nat)(ops:Array Oper)(o:Oper)(t:aE)(H:aD):Option (aE×aD) :=
 if bS ops t o then
  match aJ P fl o.op (eval t) H with
  | some (.value v,H')=>some (lN t o.dst v,H')
  | some (.skip,H')=>some (lN t o.dst undef,H')
  | some (.enter f args,H')=>match call flc f args H' with
    | some (v,H2)=>some (lN t o.dst v,H2)
    | none=>none
  | none=>none
 else some (lN t o.dst undef,H)
def kQ (P:Program)(call:aQ)(fl:Nat)(ops:Array Oper):List Oper->aE->aD->Option (aE×aD)
 | [],t,H=>some (t,H)
 | o::rest,t,H=>match cF P call fl fl ops o t H with
   | some (t',H')=>kQ P call fl ops rest t' H'
   | none=>none
def vV (acc:Array Nat)(o:Oper):Nat :=
 o.after.toList.foldl (fun s e=>if Region.binds .any e then s ||| 2 ^ e.on ||| acc.getD e.on 0 else s) 0
def aI:List Oper->Array Nat->Array Nat
 | [],acc=>acc
 | o::rest,acc=>aI rest (acc.push (vV acc o))
def aK:Op->Nat
 | .alloc _ | .box .. | .buildSlice .. | .makeSlice .. => 1
 | .load .. => 2
 | .convert s d _=>if s=d then 3 else 2
 | .store .. => 3
 | .call c=>match c.callee with
   | .builtin .append | .builtin .copy=>3
   | .builtin _=>0
   | _=>4
 | _=>0
def EX (o:Op):List Nat:=o.operands.toList.filterMap fun | .tmp d=>some d|_=>none
def BM (ops:Array Oper)(o:Oper):List Nat :=
 EX o.op++(match o.guard with
  | some (j,_)=>((ops[j]?).bind (·.dst)).toList
  | none=>[])
def oM (ops:Array Oper)(x y:Oper):Bool :=
 (match x.dst with
  | some d=>(BM ops y).contains d||y.dst==some d
  | none=>false) ||
 (match y.dst with
  | some d=>(BM ops x).contains d
  | none=>false)
def bH (ops:Array Oper)(b:Array Nat)(i:Nat):Bool :=
 (List.range ops.size).all fun j=>j==i||((ops[j]?).map fun o=>aK o.op==0||(aK o.op==1&&decide (i<j))).getD true||(b.getD i 0).testBit j||(b.getD j 0).testBit i
def O3 (ops:Array Oper):Bool :=
 (List.range ops.size).all fun i=>((ops[i]?).map fun o=>o.after.toList.all fun e => !Region.binds .any e||e.on<i).getD true
def gU (ops:Array Oper)(b:Array Nat):Bool :=
 O3 ops&&(List.range ops.size).all fun j=>(List.range j).all fun i =>
  match ops[i]?,ops[j]? with
  | some oi,some oj=>(b.getD j 0).testBit i ||
   (!oM ops oi oj && !(aK oi.op==4&&aK oj.op==3) && !(aK oi.op==3&&aK oj.op==4))
  | _,_=>false
def b7 (ops:Array Oper)(b:Array Nat):List (Nat×Nat) :=
 (List.range ops.size).flatMap fun j=>((List.range j).filter fun i =>
  match ops[i]?,ops[j]? with
  | some oi,some oj => !(b.getD j 0).testBit i&&((aK oi.op==3&&(aK oj.op==2||aK oj.op==3))||(aK oj.op==3&&aK oi.op==2))
  | _,_=>false).map fun i=>(i,j)
def c7 (ops:Array Oper)(i:Nat):Bool :=
 match ops[i]? with
 | some o=>(List.range ops.size).all fun k=>k<i||((ops[k]?).map fun p=>match p.dst with
  | some d => !(EX o.op).contains d
  | none=>true).getD true
 | none=>false
def A4 (xs ys:List Nat):Bool:=xs.all fun x=>ys.all fun y=>x != y
def dE (ops:Array Oper)(t:aE)(p:Nat×Nat):Bool :=
 match ops[p.1]?,ops[p.2]? with
 | some oi,some oj=>A4 (j0 oi.op (eval t)) (cI oj.op (eval t))&&A4 (cI oi.op (eval t)) (j0 oj.op (eval t))
 | _,_=>false
def eB (P:Program)(call:aQ)(fl:Nat)(ops:Array Oper)(b:Array Nat):Nat->List Oper->aE->aD->Option (aE×aD)
 | _,[],t,H=>some (t,H)
 | i,o::rest,t,H=>match cF P call fl (if aK o.op==4&&bH ops b i then fl else H.length) ops o t H with
   | some (t',H')=>eB P call fl ops b (i+1) rest t' H'
   | none=>none
def rQ (H:aD)(x:Nat):aD:=match H[x]? with
 | some B=>H.set x { B with alive:=false }
 | none=>H
def kV (X:List Nat)(H:aD):aD:=X.foldl rQ H
def lF (H K:aD)(x:Nat):aD:=match H[x]? with
 | some B=>K.set x B
 | none=>K
def gG (X:List Nat)(H K:aD):aD:=X.foldl (lF H) K
def cM (call:aQ)(X:List Nat):aQ:=fun fl f args H=>match call fl f args (kV X H)with
 | some (v,K)=>some (v,gG X H K)
 | none=>none
def nL:Op->Bool
 | .load .. => true
 | _=>false
def CD (ops:Array Oper)(b:Array Nat)(i:Nat):Bool :=
 (List.range ops.size).all fun j=>j==i||((ops[j]?).map fun o=>aK o.op==0||(aK o.op==1&&decide (i<j))||nL o.op).getD true||(b.getD i 0).testBit j||(b.getD j 0).testBit i
def aGP:Op->Bool
 | .call c=>match c.callee with
   | .value (.func f)=>aHj f
   | _=>false
 | _=>false
def qS (ops:Array Oper)(b:Array Nat)(i:Nat)(o:Oper):Bool:=CD ops b i&&aGP o.op
def eH (ops:Array Oper)(b:Array Nat)(i:Nat)(o:Oper):Bool:=aK o.op==4 && !bH ops b i&&qS ops b i o
def sG (ops:Array Oper)(b:Array Nat):Bool:=(List.range ops.size).any fun i=>(ops[i]?).any (eH ops b i)
def xH (ops:Array Oper)(b:Array Nat):Bool:=gU ops b && !sG ops b
def CS (b:Array Nat)(i:Nat)(Z:List (Nat×List Nat))(acc:List Nat):Bool:=Z.all fun z=>(b.getD i 0).testBit z.1||acc.all fun x=>z.2.contains x
def fL (P:Program)(call:aQ)(fl:Nat)(ops:Array Oper)(b:Array Nat):Nat->List Nat->List (Nat×List Nat)->List Oper->aE->aD->Option (aE×aD)
 | _,_,_,[],t,H=>some (t,H)
 | i,X,Z,o::rest,t,H =>
   if CS b i Z (cI o.op (eval t))then
    match cF P (if eH ops b i o then cM call X else call) fl (if aK o.op==4&&(bH ops b i||qS ops b i o)then fl else H.length) ops o t H with
    | some (t',H')=>fL P call fl ops b (i+1) (if nL o.op then cI o.op (eval t)++X else X) (if eH ops b i o then(i,X)::Z else Z) rest t' H'
    | none=>none
   else none
def cZ (P:Program)(call:aQ)(fl:Nat)(ops:Array Oper)(draw:Bool)(t:aE)(H:aD):Option (aE×aD) :=
 if draw then
  let b:=aI ops.toList #[]
  if gU ops b&&(b7 ops b).all (fun p=>c7 ops p.1&&c7 ops p.2)then
   match (if sG ops b then fL P call fl ops b 0 [] [] ops.toList t H else eB P call fl ops b 0 ops.toList t H)with
   | some (t',H')=>if (b7 ops b).all (dE ops t')then some (t',H')else none
   | none=>none
  else none
 else kQ P call fl ops ops.toList t H
def fV (body:aE->aD->Option (bE×aE×aD)):Nat->aE->aD->Option (bE×aE×aD)
 | 0,_,_=>none
 | n+1,t,H=>match body t H with
   | some (.normal,t',H')=>fV body n t' H'
   | r=>r
def aU (P:Program)(call:aQ)(m:Nat)(fl:Nat):Code->aE->aD->Option (bE×aE×aD)
 | .skip,t,H | .label _,t,H=>some (.normal,t,H)
 | .region _ ops draw,t,H=>match cZ P call fl ops draw t H with
   | some (t',H')=>some (.normal,t',H')
   | none=>none
 | .seq a b,t,H=>match aU P call m fl a t H with
   | some (.normal,t',H')=>aU P call m fl b t' H'
   | r=>r
 | .cond c x y,t,H=>match eval t c with
   | .bool true=>aU P call m fl x t H
   | .bool false=>aU P call m fl y t H
   | _=>none
 | .block id body,t,H=>match aU P call m fl body t H with
   | some (.exit id',t',H')=>some (if id'=id then .normal else .exit id',t',H')
   | r=>r
 | .loop body,t,H=>fV (aU P call m fl body) m t H
 | .exit id,t,H=>some (.exit id,t,H)
 | .goto l,t,H=>some (.goto l,t,H)
 | .ret,t,H=>some (.ret,t,H)
 | _,_,_=>none
def un:List Code->Code
 | [] => .skip
 | c::r => .seq c (un r)
def gR:Code->List Code
 | .seq a b=>a::gR b
 | c=>[c]
def aAU:List Code->Option (List Code×Nat×List Code)
 | []=>none
 | .label l::r=>some ([],l,r)
 | x::r=>match aAU r with
   | some (p,l,q)=>some (x::p,l,q)
   | none=>none
def xA:Nat:=1000001
def xB:Nat:=1000002
def lR (l1 l2:Nat):Code->Code
 | .goto l=>if l=l1 then .exit xA else if l=l2 then .exit xB else .goto l
 | .seq a b => .seq (lR l1 l2 a) (lR l1 l2 b)
 | .cond c a b => .cond c (lR l1 l2 a) (lR l1 l2 b)
 | .block id b => .block id (lR l1 l2 b)
 | .loop b => .loop (lR l1 l2 b)
 | c=>c
def gL:Code->Bool
 | .exit id => !(Nat.beq id xA) && !(Nat.beq id xB)
 | .seq a b | .cond _ a b=>gL a&&gL b
 | .block id b => !(Nat.beq id xA) && !(Nat.beq id xB)&&gL b
 | .loop b=>gL b
 | _=>true
def CA (l:Nat)(c:Code):Bool:=(findLabel c l).isNone
def trS (b:Code):Option Code :=
 match aAU (gR b)with
 | some (A,l1,r)=>match aAU r with
   | some (B,l2,C) =>
     if !(Nat.beq l1 l2)&&gL (un A)&&gL (un B)&&A.all (CA l1)&&A.all (CA l2)&&B.all (CA l2)then
      some (.seq (.block xB (.seq (lR l1 l2 (un A)) (.loop (.block xA (.seq (lR l1 l2 (un B)) (.exit xB)))))) (un C))
     else none
   | none =>
     if gL (un A)&&gL (un r)&&A.all (CA l1)then
      some (.seq (.block xB (.seq (lR l1 l1 (un A)) (.loop (.block xA (.seq (lR l1 l1 (un r)) (.exit xB)))))) .skip)
     else none
 | none=>none
def RR:Code->Code
 | .seq a b=>match b with
   | .scope b=>match trS b with
     | some b' => .seq a b'
     | none => .seq a (.scope b)
   | b => .seq a b
 | c=>c
def bod (fn:Func):Option Code:=fn.body.map RR
def aG (n:Nat):Operand->Bool
 | .tmp d=>d<n
 | .const v=>fX v
 | .global _=>false
 | .func _=>true
def gO (n:Nat)(ops:Array Oper)(o:Oper):Bool :=
 o.op.operands.toList.all (aG n)&&o.dst.all (· < n)&&(match o.guard with
   | some (j,_)=>((ops[j]?).bind (·.dst)).all (· < n)
   | none=>true)
def bD (n:Nat):Code->Bool
 | .region _ ops _=>ops.toList.all (gO n ops)
 | .seq a b=>bD n a&&bD n b
 | .cond c x y=>aG n c&&bD n x&&bD n y
 | .block _ b | .loop b=>bD n b
 | .skip | .label _ | .exit _ | .goto _ | .ret=>true
 | _=>false
def iU (P:Program)(t:aE)(H:aD):ResultVar->Option Value
 | .tmp d=>some (t d)
 | .cell a ty=>match t a with
   | .pointer (some p)=>lD P ty H p
   | _=>none
def bV (P:Program)(t:aE)(H:aD):List ResultVar->Option (List Value)
 | []=>some []
 | r::rs=>match iU P t H r,bV P t H rs with
   | some v,some vs=>some (v::vs)
   | _,_=>none
def iE:List Value->Value
 | [v]=>v
 | vs => .tuple vs.toArray
def q7 (fn:Func)(c:Code):Bool :=
 bD fn.ntmps c&&fn.params.size<=fn.ntmps&&fn.results.toList.all fun | .tmp d=>d<fn.ntmps | .cell d _=>d<fn.ntmps
def okF (f:FuncId)(fn:Func)(c:Code):Bool := !aIV f&&q7 fn c
theorem HS {f:FuncId}{fn:Func}{c:Code}(h:okF f fn c=true):q7 fn c=true:=by
 simp only[okF,aH]at h
 exact h.2
def start (args:Array Value):aE:=fun i=>args.getD i undef
def f9 (P:Program):Nat->aQ
 | 0,_,_,_,_=>none
 | n+1,fl,f,args,H =>
   match P.funcs[f]? with
   | some fn=>match bod fn with
     | some c=>if okF f fn c&&args.size<=fn.ntmps then
      match aU P (f9 P n) n fl c (start args) H with
      | some (.normal,t,H')|some (.ret,t,H')=>(bV P t H' fn.results.toList).map fun vs=>(iE vs,H')
      | _=>none
       else zA P fl f args H
     | none=>none
   | none=>none
def okG (xb:FuncId->Bool)(f:FuncId)(fn:Func)(c:Code):Bool := !xb f&&q7 fn c
theorem aAX {xb:FuncId->Bool}{f:FuncId}{fn:Func}{c:Code}(h:okG xb f fn c=true):q7 fn c=true:=by
 simp only[okG,aH]at h
 exact h.2
def jI (xb:FuncId->Bool)(xf:aQ)(P:Program):Nat->aQ
 | 0,_,_,_,_=>none
 | n+1,fl,f,args,H =>
   match P.funcs[f]? with
   | some fn=>match bod fn with
     | some c=>if okG xb f fn c&&args.size<=fn.ntmps then
      match aU P (jI xb xf P n) n fl c (start args) H with
      | some (.normal,t,H')|some (.ret,t,H')=>(bV P t H' fn.results.toList).map fun vs=>(iE vs,H')
      | _=>none
       else xf fl f args H
     | none=>none
   | none=>none
end Go.Mach
