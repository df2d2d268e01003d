/- Part of the proof. No condition. -/
import Derived.Test.YtbenbhdagmnapaaYExt
namespace Go.Mach
inductive dY
 | normal
 | exit (id : Nat)
 | goto (l : Nat)
 | ret
abbrev iS := Nat -> FuncId -> Array Value -> aA -> Option (Value × aA)
def eG (ops : Array Oper) (t : aF) (o : Oper) : Bool :=
  match o.guard with
  | none => true
  | some (j, want) => match (ops[j]?).bind (·.dst) with
    | some d => match t d with
      | .bool b => b == want
      | _ => false
    | none => false
def jY (P : Program) (call : iS) (fl flc : Nat) (ops : Array Oper) (o : Oper) (t : aF) (H : aA) : Option (aF × aA) :=
  if eG ops t o then
    match aS P fl o.op (eval t) H with
    | some (.value v, H') => some (BF t o.dst v, H')
    | some (.skip, H') => some (BF t o.dst undef, H')
    | some (.enter f args, H') => match call flc f args H' with
      | some (v, H2) => some (BF t o.dst v, H2)
      | none => none
    | none => none
  else some (BF t o.dst undef, H)
def uV (P : Program) (call : iS) (fl : Nat) (ops : Array Oper) : List Oper -> aF -> aA -> Option (aF × aA)
  | [], t, H => some (t, H)
  | o :: rest, t, H => match jY P call fl fl ops o t H with
    | some (t', H') => uV P call fl ops rest t' H'
    | none => none
def O1 (acc : Array Nat) (o : Oper) : Nat :=
 o.after.toList.foldl (fun s e => if Region.binds .any e then s ||| 2 ^ e.on ||| acc.getD e.on 0 else s) 0
def bU : List Oper -> Array Nat -> Array Nat
 | [], acc => acc
 | o :: rest, acc => bU rest (acc.push (O1 acc o))
def bC : Op -> Nat
  | .alloc _ | .box .. | .buildSlice .. | .makeSlice .. => 1
  | .load .. | .convert .. => 2
  | .store .. => 3
  | .call c => match c.callee with
    | .builtin .append | .builtin .copy => 3
    | .builtin _ => 0
    | _ => 4
  | _ => 0
def aIr (o : Op) : List Nat := o.operands.toList.filterMap fun | .tmp d => some d | _ => none
def XG (ops : Array Oper) (o : Oper) : List Nat :=
  aIr o.op ++ (match o.guard with
    | some (j, _) => ((ops[j]?).bind (·.dst)).toList
    | none => [])
def yU (ops : Array Oper) (x y : Oper) : Bool :=
  (match x.dst with
   | some d => (XG ops y).contains d || y.dst == some d
   | none => false) ||
  (match y.dst with
   | some d => (XG ops x).contains d
   | none => false)
def iK (ops : Array Oper) (b : Array Nat) (i : Nat) : Bool :=
 (List.range ops.size).all fun j => j == i || ((ops[j]?).map fun o => bC o.op == 0).getD true || (b.getD i 0).testBit j || (b.getD j 0).testBit i
def aHC (ops : Array Oper) : Bool :=
 (List.range ops.size).all fun i => ((ops[i]?).map fun o => o.after.toList.all fun e => !Region.binds .any e || e.on < i).getD true
def JW (ops : Array Oper) (b : Array Nat) : Bool :=
  aHC ops && (List.range ops.size).all fun j => (List.range j).all fun i =>
    match ops[i]?, ops[j]? with
    | some oi, some oj => (b.getD j 0).testBit i ||
        (!yU ops oi oj && !(bC oi.op == 4 && bC oj.op == 3) && !(bC oi.op == 3 && bC oj.op == 4))
    | _, _ => false
def pG (ops : Array Oper) (b : Array Nat) : List (Nat × Nat) :=
  (List.range ops.size).flatMap fun j => ((List.range j).filter fun i =>
    match ops[i]?, ops[j]? with
    | some oi, some oj => !(b.getD j 0).testBit i && ((bC oi.op == 3 && (bC oj.op == 2 || bC oj.op == 3)) || (bC oj.op == 3 && bC oi.op == 2))
    | _, _ => false).map fun i => (i, j)
def yC (ops : Array Oper) (i : Nat) : Bool :=
 match ops[i]? with
 | some o => (List.range ops.size).all fun k => k < i || ((ops[k]?).map fun p => match p.dst with
   | some d => !(aIr o.op).contains d
   | none => true).getD true
 | none => false
def TQ (xs ys : List Nat) : Bool := xs.all fun x => ys.all fun y => x != y
def i0 (ops : Array Oper) (t : aF) (p : Nat × Nat) : Bool :=
 match ops[p.1]?, ops[p.2]? with
 | some oi, some oj => TQ (tQ oi.op (eval t)) (j7 oj.op (eval t)) && TQ (j7 oi.op (eval t)) (tQ oj.op (eval t))
 | _, _ => false
def jM (P : Program) (call : iS) (fl : Nat) (ops : Array Oper) (b : Array Nat) : Nat -> List Oper -> aF -> aA -> Option (aF × aA)
  | _, [], t, H => some (t, H)
  | i, o :: rest, t, H => match jY P call fl (if bC o.op == 4 && iK ops b i then fl else H.length) ops o t H with
    | some (t', H') => jM P call fl ops b (i + 1) rest t' H'
    | none => none
def fR (P : Program) (call : iS) (fl : Nat) (ops : Array Oper) (draw : Bool) (t : aF) (H : aA) : Option (aF × aA) :=
  if draw then
    let b := bU ops.toList #[]
    if JW ops b && (pG ops b).all (fun p => yC ops p.1 && yC ops p.2) then
      match jM P call fl ops b 0 ops.toList t H with
      | some (t', H') => if (pG ops b).all (i0 ops t') then some (t', H') else none
      | none => none
    else none
  else uV P call fl ops ops.toList t H
def ET (body : aF -> aA -> Option (dY × aF × aA)) : Nat -> aF -> aA -> Option (dY × aF × aA)
  | 0, _, _ => none
  | n + 1, t, H => match body t H with
    | some (.normal, t', H') => ET body n t' H'
    | r => r
def gW (P : Program) (call : iS) (m : Nat) (fl : Nat) : Code -> aF -> aA -> Option (dY × aF × aA)
  | .skip, t, H | .label _, t, H => some (.normal, t, H)
  | .region _ ops draw, t, H => match fR P call fl ops draw t H with
    | some (t', H') => some (.normal, t', H')
    | none => none
  | .seq a b, t, H => match gW P call m fl a t H with
    | some (.normal, t', H') => gW P call m fl b t' H'
    | r => r
  | .cond c x y, t, H => match eval t c with
    | .bool true => gW P call m fl x t H
    | .bool false => gW P call m fl y t H
    | _ => none
  | .block id body, t, H => match gW P call m fl body t H with
    | some (.exit id', t', H') => some (if id' = id then .normal else .exit id', t', H')
    | r => r
  | .loop body, t, H => ET (gW P call m fl body) m t H
  | .exit id, t, H => some (.exit id, t, H)
  | .ret, t, H => some (.ret, t, H)
  | _, _, _ => none
def aJ (n : Nat) : Operand -> Bool
 | .tmp d => d < n
 | .const v => iT v
 | .global _ => false
 | .func _ => true
def q7 (n : Nat) (ops : Array Oper) (o : Oper) : Bool :=
  o.op.operands.toList.all (aJ n) && o.dst.all (· < n) && (match o.guard with
    | some (j, _) => ((ops[j]?).bind (·.dst)).all (· < n)
    | none => true)
def dX (n : Nat) : Code -> Bool
 | .region _ ops _ => ops.toList.all (q7 n ops)
 | .seq a b => dX n a && dX n b
 | .cond c x y => aJ n c && dX n x && dX n y
 | .block _ b | .loop b => dX n b
 | .skip | .label _ | .exit _ | .ret => true
 | _ => false
def BS (P : Program) (t : aF) (H : aA) : ResultVar -> Option Value
  | .tmp d => some (t d)
  | .cell a ty => match t a with
    | .pointer (some p) => XI P ty H p
    | _ => none
def gY (P : Program) (t : aF) (H : aA) : List ResultVar -> Option (List Value)
  | [] => some []
  | r :: rs => match BS P t H r, gY P t H rs with
    | some v, some vs => some (v :: vs)
    | _, _ => none
def HS : List Value -> Value
 | [v] => v
 | vs => .tuple vs.toArray
def YG (fn : Func) (c : Code) : Bool :=
 dX fn.ntmps c && fn.params.size <= fn.ntmps && fn.results.toList.all fun | .tmp d => d < fn.ntmps | .cell d _ => d < fn.ntmps
def okF (f : FuncId) (fn : Func) (c : Code) : Bool := !aPM f && YG fn c
theorem aGl {f : FuncId} {fn : Func} {c : Code} (h : okF f fn c = true) : YG fn c = true := by
 simp only [okF, Bool.and_eq_true] at h
 exact h.2
def start (args : Array Value) : aF := fun i => args.getD i undef
def wC (P : Program) : Nat -> iS
  | 0, _, _, _, _ => none
  | n + 1, fl, f, args, H =>
    match P.funcs[f]? with
    | some fn => match fn.body with
      | some c => if okF f fn c && args.size <= fn.ntmps then
          match gW P (wC P n) n fl c (start args) H with
          | some (.normal, t, H') | some (.ret, t, H') => (gY P t H' fn.results.toList).map fun vs => (HS vs, H')
          | _ => none
        else aJE P fl f args H
      | none => none
    | none => none
end Go.Mach
