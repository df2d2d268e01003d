/- Part of the proof. No condition. -/
import Derived.Test.YtcfpfefadlnmcaaGreatYExt
namespace Go.Mach
inductive dT
 | normal
 | exit (id:Nat)
 | goto (l:Nat)
 | ret
abbrev iX:=Nat->FuncId->Array Value->aB->Option (Value×aB)
def dZ (ops : Array Oper) (t : aC) (o : Oper) : Bool :=
  match o.guard with
  | none => true
  | some (j, want) => match (ops[j]?).bind (·.dst) with
    | some d => match t d with
      | .bool b => b == want
      | _ => false
    | none => false
def jZ (P : Program) (call : iX) (fl flc : Nat) (ops : Array Oper) (o : Oper) (t : aC) (H : aB) : Option (aC × aB) :=
  if dZ ops t o then
    match aT P fl o.op (eval t) H with
    | some (.value v, H') => some (uM t o.dst v, H')
    | some (.skip, H') => some (uM t o.dst undef, H')
    | some (.enter f args, H') => match call flc f args H' with
      | some (v, H2) => some (uM t o.dst v, H2)
      | none => none
    | none => none
  else some (uM t o.dst undef, H)
def qL (P : Program) (call : iX) (fl : Nat) (ops : Array Oper) : List Oper -> aC -> aB -> Option (aC × aB)
  | [], t, H => some (t, H)
  | o :: rest, t, H => match jZ P call fl fl ops o t H with
    | some (t', H') => qL P call fl ops rest t' H'
    | none => none
def DO (acc:Array Nat) (o:Oper):Nat :=
 o.after.toList.foldl (fun s e=>if Region.binds .any e then s ||| 2 ^ e.on ||| acc.getD e.on 0 else s) 0
def bJ:List Oper->Array Nat->Array Nat
 | [],acc=>acc
 | o::rest,acc=>bJ rest (acc.push (DO acc o))
def bA : Op -> Nat
  | .alloc _ | .box .. | .buildSlice .. | .makeSlice .. => 1
  | .load .. | .convert .. => 2
  | .store .. => 3
  | .call c => match c.callee with
    | .builtin .append | .builtin .copy => 3
    | .builtin _ => 0
    | _ => 4
  | _ => 0
def aAr (o:Op):List Nat:=o.operands.toList.filterMap fun | .tmp d=>some d | _=>none
def HI (ops : Array Oper) (o : Oper) : List Nat :=
  aAr o.op ++ (match o.guard with
    | some (j, _) => ((ops[j]?).bind (·.dst)).toList
    | none => [])
def sY (ops : Array Oper) (x y : Oper) : Bool :=
  (match x.dst with
   | some d => (HI ops y).contains d || y.dst == some d
   | none => false) ||
  (match y.dst with
   | some d => (HI ops x).contains d
   | none => false)
def iF (ops:Array Oper) (b:Array Nat) (i:Nat):Bool :=
 (List.range ops.size).all fun j=>j==i||((ops[j]?).map fun o=>bA o.op==0||(bA o.op==1&&decide (i<j))).getD true||(b.getD i 0).testBit j||(b.getD j 0).testBit i
def U4 (ops:Array Oper):Bool :=
 (List.range ops.size).all fun i=>((ops[i]?).map fun o=>o.after.toList.all fun e => !Region.binds .any e||e.on<i).getD true
def xY (ops : Array Oper) (b : Array Nat) : Bool :=
  U4 ops && (List.range ops.size).all fun j => (List.range j).all fun i =>
    match ops[i]?, ops[j]? with
    | some oi, some oj => (b.getD j 0).testBit i ||
        (!sY ops oi oj && !(bA oi.op == 4 && bA oj.op == 3) && !(bA oi.op == 3 && bA oj.op == 4))
    | _, _ => false
def jB (ops : Array Oper) (b : Array Nat) : List (Nat × Nat) :=
  (List.range ops.size).flatMap fun j => ((List.range j).filter fun i =>
    match ops[i]?, ops[j]? with
    | some oi, some oj => !(b.getD j 0).testBit i && ((bA oi.op == 3 && (bA oj.op == 2 || bA oj.op == 3)) || (bA oj.op == 3 && bA oi.op == 2))
    | _, _ => false).map fun i => (i, j)
def pB (ops:Array Oper) (i:Nat):Bool :=
 match ops[i]? with
 | some o=>(List.range ops.size).all fun k=>k<i||((ops[k]?).map fun p=>match p.dst with
   | some d => !(aAr o.op).contains d
   | none=>true).getD true
 | none=>false
def GP (xs ys:List Nat):Bool:=xs.all fun x=>ys.all fun y=>x != y
def jA (ops:Array Oper) (t:aC) (p:Nat×Nat):Bool :=
 match ops[p.1]?,ops[p.2]? with
 | some oi,some oj=>GP (qH oi.op (eval t)) (j9 oj.op (eval t))&&GP (j9 oi.op (eval t)) (qH oj.op (eval t))
 | _,_=>false
def jK (P : Program) (call : iX) (fl : Nat) (ops : Array Oper) (b : Array Nat) : Nat -> List Oper -> aC -> aB -> Option (aC × aB)
  | _, [], t, H => some (t, H)
  | i, o :: rest, t, H => match jZ P call fl (if bA o.op == 4 && iF ops b i then fl else H.length) ops o t H with
    | some (t', H') => jK P call fl ops b (i + 1) rest t' H'
    | none => none
def gD (P : Program) (call : iX) (fl : Nat) (ops : Array Oper) (draw : Bool) (t : aC) (H : aB) : Option (aC × aB) :=
  if draw then
    let b := bJ ops.toList #[]
    if xY ops b && (jB ops b).all (fun p => pB ops p.1 && pB ops p.2) then
      match jK P call fl ops b 0 ops.toList t H with
      | some (t', H') => if (jB ops b).all (jA ops t') then some (t', H') else none
      | none => none
    else none
  else qL P call fl ops ops.toList t H
def wW (body : aC -> aB -> Option (dT × aC × aB)) : Nat -> aC -> aB -> Option (dT × aC × aB)
  | 0, _, _ => none
  | n + 1, t, H => match body t H with
    | some (.normal, t', H') => wW body n t' H'
    | r => r
def gU (P : Program) (call : iX) (m : Nat) (fl : Nat) : Code -> aC -> aB -> Option (dT × aC × aB)
  | .skip, t, H | .label _, t, H => some (.normal, t, H)
  | .region _ ops draw, t, H => match gD P call fl ops draw t H with
    | some (t', H') => some (.normal, t', H')
    | none => none
  | .seq a b, t, H => match gU P call m fl a t H with
    | some (.normal, t', H') => gU P call m fl b t' H'
    | r => r
  | .cond c x y, t, H => match eval t c with
    | .bool true => gU P call m fl x t H
    | .bool false => gU P call m fl y t H
    | _ => none
  | .block id body, t, H => match gU P call m fl body t H with
    | some (.exit id', t', H') => some (if id' = id then .normal else .exit id', t', H')
    | r => r
  | .loop body, t, H => wW (gU P call m fl body) m t H
  | .exit id, t, H => some (.exit id, t, H)
  | .goto l, t, H => some (.goto l, t, H)
  | .ret, t, H => some (.ret, t, H)
  | _, _, _ => none
def aE9 (c:Code):Code:=c
def bod (fn:Func):Option Code:=fn.body.map aE9
def aE (n:Nat):Operand->Bool
 | .tmp d=>d<n
 | .const v=>iW v
 | .global _=>false
 | .func _=>true
def mX (n : Nat) (ops : Array Oper) (o : Oper) : Bool :=
  o.op.operands.toList.all (aE n) && o.dst.all (· < n) && (match o.guard with
    | some (j, _) => ((ops[j]?).bind (·.dst)).all (· < n)
    | none => true)
def fI (n:Nat):Code->Bool
 | .region _ ops _=>ops.toList.all (mX n ops)
 | .seq a b=>fI n a&&fI n b
 | .cond c x y=>aE n c&&fI n x&&fI n y
 | .block _ b | .loop b=>fI n b
 | .skip | .label _ | .exit _ | .goto _ | .ret=>true
 | _=>false
def pY (P : Program) (t : aC) (H : aB) : ResultVar -> Option Value
  | .tmp d => some (t d)
  | .cell a ty => match t a with
    | .pointer (some p) => F3 P ty H p
    | _ => none
def eH (P : Program) (t : aC) (H : aB) : List ResultVar -> Option (List Value)
  | [] => some []
  | r :: rs => match pY P t H r, eH P t H rs with
    | some v, some vs => some (v :: vs)
    | _, _ => none
def wQ:List Value->Value
 | [v]=>v
 | vs => .tuple vs.toArray
def GH (fn:Func) (c:Code):Bool :=
 fI fn.ntmps c&&fn.params.size<=fn.ntmps&&fn.results.toList.all fun | .tmp d=>d<fn.ntmps | .cell d _=>d<fn.ntmps
def okF (f:FuncId) (fn:Func) (c:Code):Bool := !aIZ f&&GH fn c
theorem PI {f:FuncId} {fn:Func} {c:Code} (h:okF f fn c=true):GH fn c=true:=by
 simp only [okF,Bool.and_eq_true] at h
 exact h.2
def start (args:Array Value):aC:=fun i=>args.getD i undef
def qA (P : Program) : Nat -> iX
  | 0, _, _, _, _ => none
  | n + 1, fl, f, args, H =>
    match P.funcs[f]? with
    | some fn => match bod fn with
      | some c => if okF f fn c && args.size <= fn.ntmps then
          match gU P (qA P n) n fl c (start args) H with
          | some (.normal, t, H') | some (.ret, t, H') => (eH P t H' fn.results.toList).map fun vs => (wQ vs, H')
          | _ => none
        else M6 P fl f args H
      | none => none
    | none => none
end Go.Mach
