/- Part of the proof. No condition. -/
import Derived.Test.YtcfpfefadlnmcaaGreatYExt
namespace Go.Mach
inductive dP
 | normal
 | exit (id : Nat)
 | goto (l : Nat)
 | ret
abbrev iI := Nat -> FuncId -> Array Value -> aB -> Option (Value × aB)
def eU (ops : Array Oper) (t : aE) (o : Oper) : Bool :=
  match o.guard with
  | none => true
  | some (j, want) => match (ops[j]?).bind (·.dst) with
    | some d => match t d with
      | .bool b => b == want
      | _ => false
    | none => false
def jZ (P : Program) (call : iI) (fl flc : Nat) (ops : Array Oper) (o : Oper) (t : aE) (H : aB) : Option (aE × aB) :=
  if eU ops t o then
    match aU P fl o.op (eval t) H with
    | some (.value v, H') => some (BI t o.dst v, H')
    | some (.skip, H') => some (BI t o.dst undef, H')
    | some (.enter f args, H') => match call flc f args H' with
      | some (v, H2) => some (BI t o.dst v, H2)
      | none => none
    | none => none
  else some (BI t o.dst undef, H)
def vC (P : Program) (call : iI) (fl : Nat) (ops : Array Oper) : List Oper -> aE -> aB -> Option (aE × aB)
  | [], t, H => some (t, H)
  | o :: rest, t, H => match jZ P call fl fl ops o t H with
    | some (t', H') => vC P call fl ops rest t' H'
    | none => none
def QL (acc : Array Nat) (o : Oper) : Nat :=
 o.after.toList.foldl (fun s e => if Region.binds .any e then s ||| 2 ^ e.on ||| acc.getD e.on 0 else s) 0
def bP : List Oper -> Array Nat -> Array Nat
 | [], acc => acc
 | o :: rest, acc => bP rest (acc.push (QL acc o))
def bA : Op -> Nat
  | .alloc _ | .box .. | .buildSlice .. | .makeSlice .. => 1
  | .load .. | .convert .. => 2
  | .store .. => 3
  | .call c => match c.callee with
    | .builtin .append | .builtin .copy => 3
    | .builtin _ => 0
    | _ => 4
  | _ => 0
def aJS (o : Op) : List Nat := o.operands.toList.filterMap fun | .tmp d => some d | _ => none
def WL (ops : Array Oper) (o : Oper) : List Nat :=
  aJS o.op ++ (match o.guard with
    | some (j, _) => ((ops[j]?).bind (·.dst)).toList
    | none => [])
def zL (ops : Array Oper) (x y : Oper) : Bool :=
  (match x.dst with
   | some d => (WL ops y).contains d || y.dst == some d
   | none => false) ||
  (match y.dst with
   | some d => (WL ops x).contains d
   | none => false)
def gN (ops : Array Oper) (b : Array Nat) (i : Nat) : Bool :=
 (List.range ops.size).all fun j => j == i || ((ops[j]?).map fun o => bA o.op == 0 || (bA o.op == 1 && decide (i < j))).getD true || (b.getD i 0).testBit j || (b.getD j 0).testBit i
def aFm (ops : Array Oper) : Bool :=
 (List.range ops.size).all fun i => ((ops[i]?).map fun o => o.after.toList.all fun e => !Region.binds .any e || e.on < i).getD true
def KD (ops : Array Oper) (b : Array Nat) : Bool :=
  aFm ops && (List.range ops.size).all fun j => (List.range j).all fun i =>
    match ops[i]?, ops[j]? with
    | some oi, some oj => (b.getD j 0).testBit i ||
        (!zL ops oi oj && !(bA oi.op == 4 && bA oj.op == 3) && !(bA oi.op == 3 && bA oj.op == 4))
    | _, _ => false
def jP (ops : Array Oper) (b : Array Nat) : List (Nat × Nat) :=
  (List.range ops.size).flatMap fun j => ((List.range j).filter fun i =>
    match ops[i]?, ops[j]? with
    | some oi, some oj => !(b.getD j 0).testBit i && ((bA oi.op == 3 && (bA oj.op == 2 || bA oj.op == 3)) || (bA oj.op == 3 && bA oi.op == 2))
    | _, _ => false).map fun i => (i, j)
def sU (ops : Array Oper) (i : Nat) : Bool :=
 match ops[i]? with
 | some o => (List.range ops.size).all fun k => k < i || ((ops[k]?).map fun p => match p.dst with
   | some d => !(aJS o.op).contains d
   | none => true).getD true
 | none => false
def T7 (xs ys : List Nat) : Bool := xs.all fun x => ys.all fun y => x != y
def mI (ops : Array Oper) (t : aE) (p : Nat × Nat) : Bool :=
 match ops[p.1]?, ops[p.2]? with
 | some oi, some oj => T7 (uD oi.op (eval t)) (kI oj.op (eval t)) && T7 (kI oi.op (eval t)) (uD oj.op (eval t))
 | _, _ => false
def jM (P : Program) (call : iI) (fl : Nat) (ops : Array Oper) (b : Array Nat) : Nat -> List Oper -> aE -> aB -> Option (aE × aB)
  | _, [], t, H => some (t, H)
  | i, o :: rest, t, H => match jZ P call fl (if bA o.op == 4 && gN ops b i then fl else H.length) ops o t H with
    | some (t', H') => jM P call fl ops b (i + 1) rest t' H'
    | none => none
def fM (P : Program) (call : iI) (fl : Nat) (ops : Array Oper) (draw : Bool) (t : aE) (H : aB) : Option (aE × aB) :=
  if draw then
    let b := bP ops.toList #[]
    if KD ops b && (jP ops b).all (fun p => sU ops p.1 && sU ops p.2) then
      match jM P call fl ops b 0 ops.toList t H with
      | some (t', H') => if (jP ops b).all (mI ops t') then some (t', H') else none
      | none => none
    else none
  else vC P call fl ops ops.toList t H
def EQ (body : aE -> aB -> Option (dP × aE × aB)) : Nat -> aE -> aB -> Option (dP × aE × aB)
  | 0, _, _ => none
  | n + 1, t, H => match body t H with
    | some (.normal, t', H') => EQ body n t' H'
    | r => r
def gE (P : Program) (call : iI) (m : Nat) (fl : Nat) : Code -> aE -> aB -> Option (dP × aE × aB)
  | .skip, t, H | .label _, t, H => some (.normal, t, H)
  | .region _ ops draw, t, H => match fM P call fl ops draw t H with
    | some (t', H') => some (.normal, t', H')
    | none => none
  | .seq a b, t, H => match gE P call m fl a t H with
    | some (.normal, t', H') => gE P call m fl b t' H'
    | r => r
  | .cond c x y, t, H => match eval t c with
    | .bool true => gE P call m fl x t H
    | .bool false => gE P call m fl y t H
    | _ => none
  | .block id body, t, H => match gE P call m fl body t H with
    | some (.exit id', t', H') => some (if id' = id then .normal else .exit id', t', H')
    | r => r
  | .loop body, t, H => EQ (gE P call m fl body) m t H
  | .exit id, t, H => some (.exit id, t, H)
  | .goto l, t, H => some (.goto l, t, H)
  | .ret, t, H => some (.ret, t, H)
  | _, _, _ => none
def aNe (c : Code) : Code := c
def bod (fn : Func) : Option Code := fn.body.map aNe
def aK (n : Nat) : Operand -> Bool
 | .tmp d => d < n
 | .const v => iR v
 | .global _ => false
 | .func _ => true
def qX (n : Nat) (ops : Array Oper) (o : Oper) : Bool :=
  o.op.operands.toList.all (aK n) && o.dst.all (· < n) && (match o.guard with
    | some (j, _) => ((ops[j]?).bind (·.dst)).all (· < n)
    | none => true)
def eW (n : Nat) : Code -> Bool
 | .region _ ops _ => ops.toList.all (qX n ops)
 | .seq a b => eW n a && eW n b
 | .cond c x y => aK n c && eW n x && eW n y
 | .block _ b | .loop b => eW n b
 | .skip | .label _ | .exit _ | .goto _ | .ret => true
 | _ => false
def tP (P : Program) (t : aE) (H : aB) : ResultVar -> Option Value
  | .tmp d => some (t d)
  | .cell a ty => match t a with
    | .pointer (some p) => ST P ty H p
    | _ => none
def dU (P : Program) (t : aE) (H : aB) : List ResultVar -> Option (List Value)
  | [] => some []
  | r :: rs => match tP P t H r, dU P t H rs with
    | some v, some vs => some (v :: vs)
    | _, _ => none
def IG : List Value -> Value
 | [v] => v
 | vs => .tuple vs.toArray
def TU (fn : Func) (c : Code) : Bool :=
 eW fn.ntmps c && fn.params.size <= fn.ntmps && fn.results.toList.all fun | .tmp d => d < fn.ntmps | .cell d _ => d < fn.ntmps
def okF (f : FuncId) (fn : Func) (c : Code) : Bool := !aPl f && TU fn c
theorem aBh {f : FuncId} {fn : Func} {c : Code} (h : okF f fn c = true) : TU fn c = true := by
 simp only [okF, Bool.and_eq_true] at h
 exact h.2
def start (args : Array Value) : aE := fun i => args.getD i undef
def wM (P : Program) : Nat -> iI
  | 0, _, _, _, _ => none
  | n + 1, fl, f, args, H =>
    match P.funcs[f]? with
    | some fn => match bod fn with
      | some c => if okF f fn c && args.size <= fn.ntmps then
          match gE P (wM P n) n fl c (start args) H with
          | some (.normal, t, H') | some (.ret, t, H') => (dU P t H' fn.results.toList).map fun vs => (IG vs, H')
          | _ => none
        else aI5 P fl f args H
      | none => none
    | none => none
end Go.Mach
