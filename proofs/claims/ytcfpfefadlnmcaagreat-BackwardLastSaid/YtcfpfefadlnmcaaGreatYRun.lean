/- Part of the proof. No condition. -/
import Derived.Test.YtcfpfefadlnmcaaGreatYExt
namespace Go.Mach
inductive dO
 | normal
 | exit (id:Nat)
 | goto (l:Nat)
 | ret
abbrev iR:=Nat->FuncId->Array Value->aB->Option (Value×aB)
def dX (ops : Array Oper) (t : aC) (o : Oper) : Bool :=
  match o.guard with
  | none => true
  | some (j, want) => match (ops[j]?).bind (·.dst) with
    | some d => match t d with
      | .bool b => b == want
      | _ => false
    | none => false
def jL (P : Program) (call : iR) (fl flc : Nat) (ops : Array Oper) (o : Oper) (t : aC) (H : aB) : Option (aC × aB) :=
  if dX ops t o then
    match aR P fl o.op (eval t) H with
    | some (.value v, H') => some (uC t o.dst v, H')
    | some (.skip, H') => some (uC t o.dst undef, H')
    | some (.enter f args, H') => match call flc f args H' with
      | some (v, H2) => some (uC t o.dst v, H2)
      | none => none
    | none => none
  else some (uC t o.dst undef, H)
def p6 (P : Program) (call : iR) (fl : Nat) (ops : Array Oper) : List Oper -> aC -> aB -> Option (aC × aB)
  | [], t, H => some (t, H)
  | o :: rest, t, H => match jL P call fl fl ops o t H with
    | some (t', H') => p6 P call fl ops rest t' H'
    | none => none
def DI (acc:Array Nat) (o:Oper):Nat :=
 o.after.toList.foldl (fun s e=>if Region.binds .any e then s ||| 2 ^ e.on ||| acc.getD e.on 0 else s) 0
def bJ:List Oper->Array Nat->Array Nat
 | [],acc=>acc
 | o::rest,acc=>bJ rest (acc.push (DI acc o))
def aZ : Op -> Nat
  | .alloc _ | .box .. | .buildSlice .. | .makeSlice .. => 1
  | .load .. | .convert .. => 2
  | .store .. => 3
  | .call c => match c.callee with
    | .builtin .append | .builtin .copy => 3
    | .builtin _ => 0
    | _ => 4
  | _ => 0
def aAF (o:Op):List Nat:=o.operands.toList.filterMap fun | .tmp d=>some d | _=>none
def GM (ops : Array Oper) (o : Oper) : List Nat :=
  aAF o.op ++ (match o.guard with
    | some (j, _) => ((ops[j]?).bind (·.dst)).toList
    | none => [])
def s7 (ops : Array Oper) (x y : Oper) : Bool :=
  (match x.dst with
   | some d => (GM ops y).contains d || y.dst == some d
   | none => false) ||
  (match y.dst with
   | some d => (GM ops x).contains d
   | none => false)
def gY (ops:Array Oper) (b:Array Nat) (i:Nat):Bool :=
 (List.range ops.size).all fun j=>j==i||((ops[j]?).map fun o=>aZ o.op==0||(aZ o.op==1&&decide (i<j))).getD true||(b.getD i 0).testBit j||(b.getD j 0).testBit i
def TM (ops:Array Oper):Bool :=
 (List.range ops.size).all fun i=>((ops[i]?).map fun o=>o.after.toList.all fun e => !Region.binds .any e||e.on<i).getD true
def wX (ops : Array Oper) (b : Array Nat) : Bool :=
  TM ops && (List.range ops.size).all fun j => (List.range j).all fun i =>
    match ops[i]?, ops[j]? with
    | some oi, some oj => (b.getD j 0).testBit i ||
        (!s7 ops oi oj && !(aZ oi.op == 4 && aZ oj.op == 3) && !(aZ oi.op == 3 && aZ oj.op == 4))
    | _, _ => false
def i6 (ops : Array Oper) (b : Array Nat) : List (Nat × Nat) :=
  (List.range ops.size).flatMap fun j => ((List.range j).filter fun i =>
    match ops[i]?, ops[j]? with
    | some oi, some oj => !(b.getD j 0).testBit i && ((aZ oi.op == 3 && (aZ oj.op == 2 || aZ oj.op == 3)) || (aZ oj.op == 3 && aZ oi.op == 2))
    | _, _ => false).map fun i => (i, j)
def oY (ops:Array Oper) (i:Nat):Bool :=
 match ops[i]? with
 | some o=>(List.range ops.size).all fun k=>k<i||((ops[k]?).map fun p=>match p.dst with
   | some d => !(aAF o.op).contains d
   | none=>true).getD true
 | none=>false
def FH (xs ys:List Nat):Bool:=xs.all fun x=>ys.all fun y=>x != y
def iZ (ops:Array Oper) (t:aC) (p:Nat×Nat):Bool :=
 match ops[p.1]?,ops[p.2]? with
 | some oi,some oj=>FH (pT oi.op (eval t)) (jQ oj.op (eval t))&&FH (jQ oi.op (eval t)) (pT oj.op (eval t))
 | _,_=>false
def jJ (P : Program) (call : iR) (fl : Nat) (ops : Array Oper) (b : Array Nat) : Nat -> List Oper -> aC -> aB -> Option (aC × aB)
  | _, [], t, H => some (t, H)
  | i, o :: rest, t, H => match jL P call fl (if aZ o.op == 4 && gY ops b i then fl else H.length) ops o t H with
    | some (t', H') => jJ P call fl ops b (i + 1) rest t' H'
    | none => none
def f5 (P : Program) (call : iR) (fl : Nat) (ops : Array Oper) (draw : Bool) (t : aC) (H : aB) : Option (aC × aB) :=
  if draw then
    let b := bJ ops.toList #[]
    if wX ops b && (i6 ops b).all (fun p => oY ops p.1 && oY ops p.2) then
      match jJ P call fl ops b 0 ops.toList t H with
      | some (t', H') => if (i6 ops b).all (iZ ops t') then some (t', H') else none
      | none => none
    else none
  else p6 P call fl ops ops.toList t H
def wM (body : aC -> aB -> Option (dO × aC × aB)) : Nat -> aC -> aB -> Option (dO × aC × aB)
  | 0, _, _ => none
  | n + 1, t, H => match body t H with
    | some (.normal, t', H') => wM body n t' H'
    | r => r
def gT (P : Program) (call : iR) (m : Nat) (fl : Nat) : Code -> aC -> aB -> Option (dO × aC × aB)
  | .skip, t, H | .label _, t, H => some (.normal, t, H)
  | .region _ ops draw, t, H => match f5 P call fl ops draw t H with
    | some (t', H') => some (.normal, t', H')
    | none => none
  | .seq a b, t, H => match gT P call m fl a t H with
    | some (.normal, t', H') => gT P call m fl b t' H'
    | r => r
  | .cond c x y, t, H => match eval t c with
    | .bool true => gT P call m fl x t H
    | .bool false => gT P call m fl y t H
    | _ => none
  | .block id body, t, H => match gT P call m fl body t H with
    | some (.exit id', t', H') => some (if id' = id then .normal else .exit id', t', H')
    | r => r
  | .loop body, t, H => wM (gT P call m fl body) m t H
  | .exit id, t, H => some (.exit id, t, H)
  | .goto l, t, H => some (.goto l, t, H)
  | .ret, t, H => some (.ret, t, H)
  | _, _, _ => none
def aDc (c:Code):Code:=c
def bod (fn:Func):Option Code:=fn.body.map aDc
def aE (n:Nat):Operand->Bool
 | .tmp d=>d<n
 | .const v=>iS v
 | .global _=>false
 | .func _=>true
def mJ (n : Nat) (ops : Array Oper) (o : Oper) : Bool :=
  o.op.operands.toList.all (aE n) && o.dst.all (· < n) && (match o.guard with
    | some (j, _) => ((ops[j]?).bind (·.dst)).all (· < n)
    | none => true)
def eU (n:Nat):Code->Bool
 | .region _ ops _=>ops.toList.all (mJ n ops)
 | .seq a b=>eU n a&&eU n b
 | .cond c x y=>aE n c&&eU n x&&eU n y
 | .block _ b | .loop b=>eU n b
 | .skip | .label _ | .exit _ | .goto _ | .ret=>true
 | _=>false
def pP (P : Program) (t : aC) (H : aB) : ResultVar -> Option Value
  | .tmp d => some (t d)
  | .cell a ty => match t a with
    | .pointer (some p) => E3 P ty H p
    | _ => none
def d9 (P : Program) (t : aC) (H : aB) : List ResultVar -> Option (List Value)
  | [] => some []
  | r :: rs => match pP P t H r, d9 P t H rs with
    | some v, some vs => some (v :: vs)
    | _, _ => none
def wG:List Value->Value
 | [v]=>v
 | vs => .tuple vs.toArray
def F9 (fn:Func) (c:Code):Bool :=
 eU fn.ntmps c&&fn.params.size<=fn.ntmps&&fn.results.toList.all fun | .tmp d=>d<fn.ntmps | .cell d _=>d<fn.ntmps
def okF (f:FuncId) (fn:Func) (c:Code):Bool := !aH8 f&&F9 fn c
theorem PN {f:FuncId} {fn:Func} {c:Code} (h:okF f fn c=true):F9 fn c=true:=by
 simp only [okF,Bool.and_eq_true] at h
 exact h.2
def start (args:Array Value):aC:=fun i=>args.getD i undef
def pK (P : Program) : Nat -> iR
  | 0, _, _, _, _ => none
  | n + 1, fl, f, args, H =>
    match P.funcs[f]? with
    | some fn => match bod fn with
      | some c => if okF f fn c && args.size <= fn.ntmps then
          match gT P (pK P n) n fl c (start args) H with
          | some (.normal, t, H') | some (.ret, t, H') => (d9 P t H' fn.results.toList).map fun vs => (wG vs, H')
          | _ => none
        else MP P fl f args H
      | none => none
    | none => none
end Go.Mach
