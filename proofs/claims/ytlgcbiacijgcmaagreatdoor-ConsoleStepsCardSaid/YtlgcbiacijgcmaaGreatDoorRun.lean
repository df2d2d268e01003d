/- The machine's way through a function's text: regions, branches, loops, calls. Plain definitions; no condition. -/
import Derived.Test.YtlgcbiacijgcmaaGreatDoorExt
namespace Go.Mach

inductive AExit
  | normal
  | exit (id : Nat)
  | goto (l : Nat)
  | ret

abbrev Caller := Nat → FuncId → Array Value → AHeap → Option (Value × AHeap)

def wantedA (ops : Array Oper) (t : Temps) (o : Oper) : Bool :=
  match o.guard with
  | none => true
  | some (j, want) => match (ops[j]?).bind (·.dst) with
    | some d => match t d with
      | .bool b => b == want
      | _ => false
    | none => false

def stepOp (P : Program) (call : Caller) (fl flc : Nat) (ops : Array Oper) (o : Oper) (t : Temps) (H : AHeap) : Option (Temps × AHeap) :=
  if wantedA ops t o then
    match prim P fl o.op (eval t) H with
    | some (.value v, H') => some (tput t o.dst v, H')
    | some (.skip, H') => some (tput t o.dst undef, H')
    | some (.enter f args, H') => match call flc f args H' with
      | some (v, H2) => some (tput t o.dst v, H2)
      | none => none
    | none => none
  else some (tput t o.dst undef, H)

def runOps (P : Program) (call : Caller) (fl : Nat) (ops : Array Oper) : List Oper → Temps → AHeap → Option (Temps × AHeap)
  | [], t, H => some (t, H)
  | o :: rest, t, H => match stepOp P call fl fl ops o t H with
    | some (t', H') => runOps P call fl ops rest t' H'
    | none => none

/-! ### What must hold of a region that draws its order -/

def edgeMask (acc : Array Nat) (o : Oper) : Nat :=
  o.after.toList.foldl (fun s e => if Region.binds .any e then s ||| 2 ^ e.on ||| acc.getD e.on 0 else s) 0

def befores : List Oper → Array Nat → Array Nat
  | [], acc => acc
  | o :: rest, acc => befores rest (acc.push (edgeMask acc o))

/-- What an operation has to do with memory: 0 nothing, 1 it makes some, 2 it reads, 3 it writes, 4 it calls a Go function. -/
def kindOf : Op → Nat
  | .alloc _ | .box .. | .buildSlice .. | .makeSlice .. => 1
  | .load .. => 2
  | .convert s d _ => if s = d then 3 else 2
  | .store .. => 3
  | .call c => match c.callee with
    | .builtin .append | .builtin .copy => 3
    | .builtin _ => 0
    | _ => 4
  | _ => 0

theorem kind_move (x : Operand) : kindOf (.move x) = 0 := by simp only [kindOf]
def opTmps (o : Op) : List Nat := o.operands.toList.filterMap fun | .tmp d => some d | _ => none

def lookTmps (ops : Array Oper) (o : Oper) : List Nat :=
  opTmps o.op ++ (match o.guard with
    | some (j, _) => ((ops[j]?).bind (·.dst)).toList
    | none => [])

/-- Two operations that touch one slot, one of them writing it. -/
def tmpClash (ops : Array Oper) (x y : Oper) : Bool :=
  (match x.dst with
   | some d => (lookTmps ops y).contains d || y.dst == some d
   | none => false) ||
  (match y.dst with
   | some d => (lookTmps ops x).contains d
   | none => false)

/-- A call that may write: all that have to do with memory stand before it or behind it. -/
def apartCall (ops : Array Oper) (b : Array Nat) (i : Nat) : Bool :=
  (List.range ops.size).all fun j => j == i || ((ops[j]?).map fun o => kindOf o.op == 0 || (kindOf o.op == 1 && decide (i < j))).getD true || (b.getD i 0).testBit j || (b.getD j 0).testBit i

/-- What must come ahead of an operation stands ahead of it in the text. -/
def edgesOk (ops : Array Oper) : Bool :=
  (List.range ops.size).all fun i => ((ops[i]?).map fun o => o.after.toList.all fun e => !Region.binds .any e || e.on < i).getD true

def drawOk0 (ops : Array Oper) (b : Array Nat) : Bool :=
  edgesOk ops && (List.range ops.size).all fun j => (List.range j).all fun i =>
    match ops[i]?, ops[j]? with
    | some oi, some oj => (b.getD j 0).testBit i ||
        (!tmpClash ops oi oj && !(kindOf oi.op == 4 && kindOf oj.op == 3) && !(kindOf oi.op == 3 && kindOf oj.op == 4))
    | _, _ => false

/-- The pairs whose blocks must be found apart. -/
def clashes (ops : Array Oper) (b : Array Nat) : List (Nat × Nat) :=
  (List.range ops.size).flatMap fun j => ((List.range j).filter fun i =>
    match ops[i]?, ops[j]? with
    | some oi, some oj => !(b.getD j 0).testBit i && ((kindOf oi.op == 3 && (kindOf oj.op == 2 || kindOf oj.op == 3)) || (kindOf oj.op == 3 && kindOf oi.op == 2))
    | _, _ => false).map fun i => (i, j)

/-- No operand of the one is written anew behind it. -/
def lasting (ops : Array Oper) (i : Nat) : Bool :=
  match ops[i]? with
  | some o => (List.range ops.size).all fun k => k < i || ((ops[k]?).map fun p => match p.dst with
      | some d => !(opTmps o.op).contains d
      | none => true).getD true
  | none => false

def apartB (xs ys : List Nat) : Bool := xs.all fun x => ys.all fun y => x != y

def clashOk (ops : Array Oper) (t : Temps) (p : Nat × Nat) : Bool :=
  match ops[p.1]?, ops[p.2]? with
  | some oi, some oj => apartB (wrOf oi.op (eval t)) (accOf oj.op (eval t)) && apartB (accOf oi.op (eval t)) (wrOf oj.op (eval t))
  | _, _ => false

def runDrawn (P : Program) (call : Caller) (fl : Nat) (ops : Array Oper) (b : Array Nat) : Nat → List Oper → Temps → AHeap → Option (Temps × AHeap)
  | _, [], t, H => some (t, H)
  | i, o :: rest, t, H => match stepOp P call fl (if kindOf o.op == 4 && apartCall ops b i then fl else H.length) ops o t H with
    | some (t', H') => runDrawn P call fl ops b (i + 1) rest t' H'
    | none => none

/-- Blocks that a call may not touch; and as they were. -/
def lock1 (H : AHeap) (x : Nat) : AHeap := match H[x]? with
  | some B => H.set x { B with alive := false }
  | none => H
def lockH (X : List Nat) (H : AHeap) : AHeap := X.foldl lock1 H
def unlock1 (H K : AHeap) (x : Nat) : AHeap := match H[x]? with
  | some B => K.set x B
  | none => K
def unlockH (X : List Nat) (H K : AHeap) : AHeap := X.foldl (unlock1 H) K
def lockCall (call : Caller) (X : List Nat) : Caller := fun fl f args H => match call fl f args (lockH X H) with
  | some (v, K) => some (v, unlockH X H K)
  | none => none
def isLoad : Op → Bool
  | .load .. => true
  | _ => false
/-- A call that may write: all but reads stand before it or behind it. -/
def semiCall (ops : Array Oper) (b : Array Nat) (i : Nat) : Bool :=
  (List.range ops.size).all fun j => j == i || ((ops[j]?).map fun o => kindOf o.op == 0 || ((kindOf o.op == 1 || kindOf o.op == 2) && decide (i < j)) || isLoad o.op).getD true || (b.getD i 0).testBit j || (b.getD j 0).testBit i
def semiOp : Op → Bool
  | .call c => match c.callee with
    | .value (.func f) => semiF f
    | _ => false
  | _ => false
def semiC (ops : Array Oper) (b : Array Nat) (i : Nat) (o : Oper) : Bool := semiCall ops b i && semiOp o.op
def semiAt (ops : Array Oper) (b : Array Nat) (i : Nat) (o : Oper) : Bool := kindOf o.op == 4 && !apartCall ops b i && semiC ops b i o
def hasSemi (ops : Array Oper) (b : Array Nat) : Bool := (List.range ops.size).any fun i => (ops[i]?).any (semiAt ops b i)
def drawOk (ops : Array Oper) (b : Array Nat) : Bool := drawOk0 ops b && !hasSemi ops b
/-- What is read touches only what such a call, in no order with it, may not touch. -/
def semiChk (b : Array Nat) (i : Nat) (Z : List (Nat × List Nat × Nat)) (acc : List Nat) : Bool := Z.all fun z => (b.getD i 0).testBit z.1 || acc.all fun x => z.2.1.contains x || Nat.ble z.2.2 x
def runSemi (P : Program) (call : Caller) (fl : Nat) (ops : Array Oper) (b : Array Nat) : Nat → List Nat → List (Nat × List Nat × Nat) → List Oper → Temps → AHeap → Option (Temps × AHeap)
  | _, _, _, [], t, H => some (t, H)
  | i, X, Z, o :: rest, t, H =>
    if semiChk b i Z (accOf o.op (eval t)) then
      match stepOp P (if semiAt ops b i o then lockCall call X else call) fl (if kindOf o.op == 4 && (apartCall ops b i || semiC ops b i o) then fl else H.length) ops o t H with
      | some (t', H') => runSemi P call fl ops b (i + 1) (if isLoad o.op then accOf o.op (eval t) ++ X else X) (if semiAt ops b i o then (i, X, H.length) :: Z else Z) rest t' H'
      | none => none
    else none

def runRegion (P : Program) (call : Caller) (fl : Nat) (ops : Array Oper) (draw : Bool) (t : Temps) (H : AHeap) : Option (Temps × AHeap) :=
  if draw then
    let b := befores ops.toList #[]
    if drawOk0 ops b && (clashes ops b).all (fun p => lasting ops p.1 && lasting ops p.2) then
      match (if hasSemi ops b then runSemi P call fl ops b 0 [] [] ops.toList t H else runDrawn P call fl ops b 0 ops.toList t H) with
      | some (t', H') => if (clashes ops b).all (clashOk ops t') then some (t', H') else none
      | none => none
    else none
  else runOps P call fl ops ops.toList t H

def loopN (body : Temps → AHeap → Option (AExit × Temps × AHeap)) : Nat → Temps → AHeap → Option (AExit × Temps × AHeap)
  | 0, _, _ => none
  | n + 1, t, H => match body t H with
    | some (.normal, t', H') => loopN body n t' H'
    | r => r

def exec (P : Program) (call : Caller) (m : Nat) (fl : Nat) : Code → Temps → AHeap → Option (AExit × Temps × AHeap)
  | .skip, t, H | .label _, t, H => some (.normal, t, H)
  | .region _ ops draw, t, H => match runRegion P call fl ops draw t H with
    | some (t', H') => some (.normal, t', H')
    | none => none
  | .seq a b, t, H => match exec P call m fl a t H with
    | some (.normal, t', H') => exec P call m fl b t' H'
    | r => r
  | .cond c x y, t, H => match eval t c with
    | .bool true => exec P call m fl x t H
    | .bool false => exec P call m fl y t H
    | _ => none
  | .block id body, t, H => match exec P call m fl body t H with
    | some (.exit id', t', H') => some (if id' = id then .normal else .exit id', t', H')
    | r => r
  | .loop body, t, H => loopN (exec P call m fl body) m t H
  | .exit id, t, H => some (.exit id, t, H)
  | .goto l, t, H => some (.goto l, t, H)
  | .ret, t, H => some (.ret, t, H)
  | _, _, _ => none

/-! ### A scope with two labels, told by blocks and a loop -/

def un : List Code → Code
  | [] => .skip
  | c :: r => .seq c (un r)
def spine : Code → List Code
  | .seq a b => a :: spine b
  | c => [c]
/-- What stands ahead of the first label, the label, what stands behind it. -/
def cutL : List Code → Option (List Code × Nat × List Code)
  | [] => none
  | .label l :: r => some ([], l, r)
  | x :: r => match cutL r with
    | some (p, l, q) => some (x :: p, l, q)
    | none => none
def xA : Nat := 1000001
def xB : Nat := 1000002
def gsub (l1 l2 : Nat) : Code → Code
  | .goto l => if l = l1 then .exit xA else if l = l2 then .exit xB else .goto l
  | .seq a b => .seq (gsub l1 l2 a) (gsub l1 l2 b)
  | .cond c a b => .cond c (gsub l1 l2 a) (gsub l1 l2 b)
  | .block id b => .block id (gsub l1 l2 b)
  | .loop b => .loop (gsub l1 l2 b)
  | c => c
def freshC : Code → Bool
  | .exit id => !(Nat.beq id xA) && !(Nat.beq id xB)
  | .seq a b | .cond _ a b => freshC a && freshC b
  | .block id b => !(Nat.beq id xA) && !(Nat.beq id xB) && freshC b
  | .loop b => freshC b
  | _ => true
def noLab (l : Nat) (c : Code) : Bool := (findLabel c l).isNone
/-- The scope's text: the first label is jumped back to, the second one forward. -/
def trS (b : Code) : Option Code :=
  match cutL (spine b) with
  | some (A, l1, r) => match cutL r with
    | some (B, l2, C) =>
      if !(Nat.beq l1 l2) && freshC (un A) && freshC (un B) && A.all (noLab l1) && A.all (noLab l2) && B.all (noLab l2) then
        some (.seq (.block xB (.seq (gsub l1 l2 (un A)) (.loop (.block xA (.seq (gsub l1 l2 (un B)) (.exit xB)))))) (un C))
      else none
    | none =>
      if freshC (un A) && freshC (un r) && A.all (noLab l1) then
        some (.seq (.block xB (.seq (gsub l1 l1 (un A)) (.loop (.block xA (.seq (gsub l1 l1 (un r)) (.exit xB)))))) .skip)
      else none
  | none => none
def unsc : Code → Code
  | .seq a b => match b with
    | .scope b => match trS b with
      | some b' => .seq a b'
      | none => .seq a (.scope b)
    | b => .seq a b
  | c => c
/-- A function's text, without scopes. -/
def bod (fn : Func) : Option Code := fn.body.map unsc

/-- The slots and constants of a text: slots below n, constants without an address, no package-level variable. -/
def operandOk (n : Nat) : Operand → Bool
  | .tmp d => d < n
  | .const v => plainB v
  | .global _ => false
  | .func _ => true

def opOk (n : Nat) (ops : Array Oper) (o : Oper) : Bool :=
  o.op.operands.toList.all (operandOk n) && o.dst.all (· < n) && (match o.guard with
    | some (j, _) => ((ops[j]?).bind (·.dst)).all (· < n)
    | none => true)

def codeOk (n : Nat) : Code → Bool
  | .region _ ops _ => ops.toList.all (opOk n ops)
  | .seq a b => codeOk n a && codeOk n b
  | .cond c x y => operandOk n c && codeOk n x && codeOk n y
  | .block _ b | .loop b => codeOk n b
  | .skip | .label _ | .exit _ | .goto _ | .ret => true
  | _ => false

def resultOne (P : Program) (t : Temps) (H : AHeap) : ResultVar → Option Value
  | .tmp d => some (t d)
  | .cell a ty => match t a with
    | .pointer (some p) => loadA P ty H p
    | _ => none

def resultAll (P : Program) (t : Temps) (H : AHeap) : List ResultVar → Option (List Value)
  | [] => some []
  | r :: rs => match resultOne P t H r, resultAll P t H rs with
    | some v, some vs => some (v :: vs)
    | _, _ => none

def wrap1 : List Value → Value
  | [v] => v
  | vs => .tuple vs.toArray

def funcOk (fn : Func) (c : Code) : Bool :=
  codeOk fn.ntmps c && fn.params.size ≤ fn.ntmps && fn.results.toList.all fun | .tmp d => d < fn.ntmps | .cell d _ => d < fn.ntmps

/-- A function whose text is carried out. -/
def okF (f : FuncId) (fn : Func) (c : Code) : Bool := !extB f && funcOk fn c
theorem okF_ok {f : FuncId} {fn : Func} {c : Code} (h : okF f fn c = true) : funcOk fn c = true := by
  simp only [okF, Bool.and_eq_true] at h
  exact h.2

def start (args : Array Value) : Temps := fun i => args.getD i undef

def callN (P : Program) : Nat → Caller
  | 0, _, _, _, _ => none
  | n + 1, fl, f, args, H =>
    match P.funcs[f]? with
    | some fn => match bod fn with
      | some c => if okF f fn c && args.size ≤ fn.ntmps then
          match exec P (callN P n) n fl c (start args) H with
          | some (.normal, t, H') | some (.ret, t, H') => (resultAll P t H' fn.results.toList).map fun vs => (wrap1 vs, H')
          | _ => none
        else extF P fl f args H
      | none => none
    | none => none

/-- A function whose text is carried out: xb tells those that are told otherwise. -/
def okG (xb : FuncId → Bool) (f : FuncId) (fn : Func) (c : Code) : Bool := !xb f && funcOk fn c
theorem okG_ok {xb : FuncId → Bool} {f : FuncId} {fn : Func} {c : Code} (h : okG xb f fn c = true) : funcOk fn c = true := by
  simp only [okG, Bool.and_eq_true] at h
  exact h.2
def callG (xb : FuncId → Bool) (xf : Caller) (P : Program) : Nat → Caller
  | 0, _, _, _, _ => none
  | n + 1, fl, f, args, H =>
    match P.funcs[f]? with
    | some fn => match bod fn with
      | some c => if okG xb f fn c && args.size ≤ fn.ntmps then
          match exec P (callG xb xf P n) n fl c (start args) H with
          | some (.normal, t, H') | some (.ret, t, H') => (resultAll P t H' fn.results.toList).map fun vs => (wrap1 vs, H')
          | _ => none
        else xf fl f args H
      | none => none
    | none => none

end Go.Mach
