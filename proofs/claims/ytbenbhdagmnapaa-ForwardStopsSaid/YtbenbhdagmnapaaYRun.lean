/- Part of the proof. No condition. -/
import Derived.Test.YtbenbhdagmnapaaYExt
namespace Go.Mach
inductive d7
 | normal
 | exit (id : Nat)
 | goto (l : Nat)
 | ret
abbrev iS := Nat -> FuncId -> Array Value -> aA -> Option (Value × aA)
def eK (ops : Array Oper) (t : aF) (o : Oper) : Bool :=
  match o.guard with
  | none => true
  | some (j, want) => match (ops[j]?).bind (·.dst) with
    | some d => match t d with
      | .bool b => b == want
      | _ => false
    | none => false
def jT (P : Program) (call : iS) (fl flc : Nat) (ops : Array Oper) (o : Oper) (t : aF) (H : aA) : Option (aF × aA) :=
  if eK ops t o then
    match aS P fl o.op (eval t) H with
    | some (.value v, H') => some (BM t o.dst v, H')
    | some (.skip, H') => some (BM t o.dst undef, H')
    | some (.enter f args, H') => match call flc f args H' with
      | some (v, H2) => some (BM t o.dst v, H2)
      | none => none
    | none => none
  else some (BM t o.dst undef, H)
def uT (P : Program) (call : iS) (fl : Nat) (ops : Array Oper) : List Oper -> aF -> aA -> Option (aF × aA)
  | [], t, H => some (t, H)
  | o :: rest, t, H => match jT P call fl fl ops o t H with
    | some (t', H') => uT P call fl ops rest t' H'
    | none => none
def PA (acc : Array Nat) (o : Oper) : Nat :=
 o.after.toList.foldl (fun s e => if Region.binds .any e then s ||| 2 ^ e.on ||| acc.getD e.on 0 else s) 0
def bW : List Oper -> Array Nat -> Array Nat
 | [], acc => acc
 | o :: rest, acc => bW rest (acc.push (PA acc o))
def bC : Op -> Nat
  | .alloc _ | .box .. | .buildSlice .. | .makeSlice .. => 1
  | .load .. | .convert .. => 2
  | .store .. => 3
  | .call c => match c.callee with
    | .builtin .append | .builtin .copy => 3
    | .builtin _ => 0
    | _ => 4
  | _ => 0
def aJK (o : Op) : List Nat := o.operands.toList.filterMap fun | .tmp d => some d | _ => none
def V7 (ops : Array Oper) (o : Oper) : List Nat :=
  aJK o.op ++ (match o.guard with
    | some (j, _) => ((ops[j]?).bind (·.dst)).toList
    | none => [])
def zK (ops : Array Oper) (x y : Oper) : Bool :=
  (match x.dst with
   | some d => (V7 ops y).contains d || y.dst == some d
   | none => false) ||
  (match y.dst with
   | some d => (V7 ops x).contains d
   | none => false)
def iI (ops : Array Oper) (b : Array Nat) (i : Nat) : Bool :=
 (List.range ops.size).all fun j => j == i || ((ops[j]?).map fun o => bC o.op == 0).getD true || (b.getD i 0).testBit j || (b.getD j 0).testBit i
def aGc (ops : Array Oper) : Bool :=
 (List.range ops.size).all fun i => ((ops[i]?).map fun o => o.after.toList.all fun e => !Region.binds .any e || e.on < i).getD true
def IK (ops : Array Oper) (b : Array Nat) : Bool :=
  aGc ops && (List.range ops.size).all fun j => (List.range j).all fun i =>
    match ops[i]?, ops[j]? with
    | some oi, some oj => (b.getD j 0).testBit i ||
        (!zK ops oi oj && !(bC oi.op == 4 && bC oj.op == 3) && !(bC oi.op == 3 && bC oj.op == 4))
    | _, _ => false
def pN (ops : Array Oper) (b : Array Nat) : List (Nat × Nat) :=
  (List.range ops.size).flatMap fun j => ((List.range j).filter fun i =>
    match ops[i]?, ops[j]? with
    | some oi, some oj => !(b.getD j 0).testBit i && ((bC oi.op == 3 && (bC oj.op == 2 || bC oj.op == 3)) || (bC oj.op == 3 && bC oi.op == 2))
    | _, _ => false).map fun i => (i, j)
def yH (ops : Array Oper) (i : Nat) : Bool :=
 match ops[i]? with
 | some o => (List.range ops.size).all fun k => k < i || ((ops[k]?).map fun p => match p.dst with
   | some d => !(aJK o.op).contains d
   | none => true).getD true
 | none => false
def UP (xs ys : List Nat) : Bool := xs.all fun x => ys.all fun y => x != y
def i0 (ops : Array Oper) (t : aF) (p : Nat × Nat) : Bool :=
 match ops[p.1]?, ops[p.2]? with
 | some oi, some oj => UP (tQ oi.op (eval t)) (j6 oj.op (eval t)) && UP (j6 oi.op (eval t)) (tQ oj.op (eval t))
 | _, _ => false
def jN (P : Program) (call : iS) (fl : Nat) (ops : Array Oper) (b : Array Nat) : Nat -> List Oper -> aF -> aA -> Option (aF × aA)
  | _, [], t, H => some (t, H)
  | i, o :: rest, t, H => match jT P call fl (if bC o.op == 4 && iI ops b i then fl else H.length) ops o t H with
    | some (t', H') => jN P call fl ops b (i + 1) rest t' H'
    | none => none
def fQ (P : Program) (call : iS) (fl : Nat) (ops : Array Oper) (draw : Bool) (t : aF) (H : aA) : Option (aF × aA) :=
  if draw then
    let b := bW ops.toList #[]
    if IK ops b && (pN ops b).all (fun p => yH ops p.1 && yH ops p.2) then
      match jN P call fl ops b 0 ops.toList t H with
      | some (t', H') => if (pN ops b).all (i0 ops t') then some (t', H') else none
      | none => none
    else none
  else uT P call fl ops ops.toList t H
def E2 (body : aF -> aA -> Option (d7 × aF × aA)) : Nat -> aF -> aA -> Option (d7 × aF × aA)
  | 0, _, _ => none
  | n + 1, t, H => match body t H with
    | some (.normal, t', H') => E2 body n t' H'
    | r => r
def gW (P : Program) (call : iS) (m : Nat) (fl : Nat) : Code -> aF -> aA -> Option (d7 × aF × aA)
  | .skip, t, H | .label _, t, H => some (.normal, t, H)
  | .region _ ops draw, t, H => match fQ P call fl ops draw t H with
    | some (t', H') => some (.normal, t', H')
    | none => none
  | .seq a b, t, H => match gW P call m fl a t H with
    | some (.normal, t', H') => gW P call m fl b t' H'
    | r => r
  | .cond c x y, t, H => match eval t c with
    | .bool true => gW P call m fl x t H
    | .bool false => gW P call m fl y t H
    | _ => none
  | .block id body, t, H => match gW P call m fl body t H with
    | some (.exit id', t', H') => some (if id' = id then .normal else .exit id', t', H')
    | r => r
  | .loop body, t, H => E2 (gW P call m fl body) m t H
  | .exit id, t, H => some (.exit id, t, H)
  | .ret, t, H => some (.ret, t, H)
  | _, _, _ => none
def aJ (n : Nat) : Operand -> Bool
 | .tmp d => d < n
 | .const v => iQ v
 | .global _ => false
 | .func _ => true
def rR (n : Nat) (ops : Array Oper) (o : Oper) : Bool :=
  o.op.operands.toList.all (aJ n) && o.dst.all (· < n) && (match o.guard with
    | some (j, _) => ((ops[j]?).bind (·.dst)).all (· < n)
    | none => true)
def dZ (n : Nat) : Code -> Bool
 | .region _ ops _ => ops.toList.all (rR n ops)
 | .seq a b => dZ n a && dZ n b
 | .cond c x y => aJ n c && dZ n x && dZ n y
 | .block _ b | .loop b => dZ n b
 | .skip | .label _ | .exit _ | .ret => true
 | _ => false
def B5 (P : Program) (t : aF) (H : aA) : ResultVar -> Option Value
  | .tmp d => some (t d)
  | .cell a ty => match t a with
    | .pointer (some p) => W2 P ty H p
    | _ => none
def gY (P : Program) (t : aF) (H : aA) : List ResultVar -> Option (List Value)
  | [] => some []
  | r :: rs => match B5 P t H r, gY P t H rs with
    | some v, some vs => some (v :: vs)
    | _, _ => none
def HY : List Value -> Value
 | [v] => v
 | vs => .tuple vs.toArray
def YH (fn : Func) (c : Code) : Bool :=
 dZ fn.ntmps c && fn.params.size <= fn.ntmps && fn.results.toList.all fun | .tmp d => d < fn.ntmps | .cell d _ => d < fn.ntmps
def okF (f : FuncId) (fn : Func) (c : Code) : Bool := !aP0 f && YH fn c
theorem aGs {f : FuncId} {fn : Func} {c : Code} (h : okF f fn c = true) : YH fn c = true := by
 simp only [okF, Bool.and_eq_true] at h
 exact h.2
def start (args : Array Value) : aF := fun i => args.getD i undef
def xE (P : Program) : Nat -> iS
  | 0, _, _, _, _ => none
  | n + 1, fl, f, args, H =>
    match P.funcs[f]? with
    | some fn => match fn.body with
      | some c => if okF f fn c && args.size <= fn.ntmps then
          match gW P (xE P n) n fl c (start args) H with
          | some (.normal, t, H') | some (.ret, t, H') => (gY P t H' fn.results.toList).map fun vs => (HY vs, H')
          | _ => none
        else aIw P fl f args H
      | none => none
    | none => none
end Go.Mach
