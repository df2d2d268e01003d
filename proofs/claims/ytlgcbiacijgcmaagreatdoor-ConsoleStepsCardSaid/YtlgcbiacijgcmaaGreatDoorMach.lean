/- A machine without orders: the Go texts of a program run on a heap of numbered blocks, each statement's operations in the order of the text, as a Lean function. Plain definitions; no condition. -/
import Derived.Control
import Derived.Calls
import Derived.Orders
import Derived.Laws.Sem
import Derived.Laws.ComplexArith
import Derived.Laws.Cover3
namespace Go.Mach

/-- A block of the machine's heap: its cells, how many cells an element has, whether what stands is all that there is room for, whether it still may be used. -/
structure Blk where
  cells : List Value
  es : Nat
  exact : Bool
  alive : Bool

abbrev AHeap := List Blk
abbrev Temps := Nat → Value

def tset (t : Temps) (d : Nat) (v : Value) : Temps := fun i => if i = d then v else t i
theorem tset_same (t : Temps) (d : Nat) (v : Value) : tset t d v d = v := if_pos rfl
theorem tset_ne (t : Temps) (d i : Nat) (v : Value) (h : i ≠ d) : tset t d v i = t i := if_neg h

def tput (t : Temps) : Option Tmp → Value → Temps
  | some d, v => tset t d v
  | none, _ => t

def eval (t : Temps) : Operand → Value
  | .tmp i => t i
  | .const v => v
  | .global g => .pointer (some ⟨g, 0, none⟩)
  | .func f => .func (.func f) #[] #[]

/-- What the machine asks of a type. -/
inductive ATy
  | one
  | str
  | slice (elem : TypeId) (es eb : Nat)
  | array (n : Nat) (elem : TypeId) (es sz : Nat)
  | struct (sz : Nat) (fields : List (Nat × Nat × Option Bool))
  | other

def aggD : TypeDesc → Bool
  | .struct _ | .array _ _ => true
  | _ => false

def isAggB (P : Program) (t : TypeId) : Bool := (P.underlying t).any aggD

def aggK (P : Program) (t : TypeId) : Option Bool := (P.underlying t).map aggD

def aTy (P : Program) (t : TypeId) : ATy :=
  match P.info? t, P.underlying t with
  | some i, some d =>
    match d with
    | .string => .str
    | .slice e => match P.info? e with
      | some j => if j.size = 0 then .other else .slice e j.size j.bytes
      | none => .other
    | .array n e => match P.info? e with
      | some j => if j.size = 0 then .other else .array n e j.size i.size
      | none => .other
    | .struct fs => if fs.toList.all (fun f => (P.info? f.type).isSome) then .struct i.size (fs.toList.map fun f => (f.offset, P.cellsOf f.type, aggK P f.type)) else .other
    | .interface _ => .other
    | .tuple _ => .other
    | .named _ _ => .other
    | _ => .one
  | _, _ => .other

/-- Values that are like themselves wherever the blocks lie: no address is in them. -/
def plainB : Value → Bool
  | .bool _ | .int .. | .float .. | .complex .. | .string _ | .nilFunc | .nilIface => true
  | .pointer none => true
  | .slice none _ _ => true
  | _ => false

def azero (P : Program) (t : TypeId) : Option (List Value) :=
  match (P.info? t).bind (·.zero) with
  | some z => if z.cells.toList.all plainB then some z.cells.toList else none
  | none => none

inductive ANext
  | value (v : Value)
  | skip
  | enter (f : FuncId) (args : Array Value)

def setCells : List Value → Nat → List Value → List Value
  | cs, _, [] => cs
  | cs, i, v :: vs => setCells (cs.set i v) (i + 1) vs

def afill (place : Nat → Option (Nat × Nat)) : List Value → List (Nat × Value) → Option (List Value)
  | cs, [] => some cs
  | cs, (i, v) :: rest =>
    match place i with
    | none => none
    | some (off, size) =>
      if v.cells.size = size ∧ off + size ≤ cs.length then afill place (setCells cs off v.cells.toList) rest else none

def rowOf (z : List Value) (n : Nat) : List Value := (List.range n).map fun i => z[i % z.length]!

def blk? (H : AHeap) (b : Nat) : Option Blk :=
  match H[b]? with
  | some B => if B.alive then some B else none
  | none => none

/-- A cell of which nothing is known: it may not be read. -/
def holeB : Value → Bool
  | .tuple _ => true
  | _ => false
def hole : Value := .tuple #[]

def cellsAt (H : AHeap) (p : Addr) (n : Nat) : Option (List Value) :=
  match blk? H p.block with
  | some B => if p.off + n ≤ B.cells.length ∧ ((B.cells.drop p.off).take n).all (fun v => !holeB v) = true then some ((B.cells.drop p.off).take n) else none
  | none => none

def cellAt (H : AHeap) (p : Addr) : Option Value :=
  match blk? H p.block with
  | some B => match B.cells[p.off]? with
    | some v => if holeB v then none else some v
    | none => none
  | none => none

def loadA (P : Program) (t : TypeId) (H : AHeap) (p : Addr) : Option Value :=
  match aTy P t with
  | .struct sz _ | .array _ _ _ sz => (cellsAt H p sz).map fun cs => .agg cs.toArray
  | .other => none
  | _ => cellAt H p

def storeAt (fl : Nat) (H : AHeap) (p : Addr) (vs : List Value) : Option AHeap :=
  match vs with
  | [] => some H
  | vs =>
    match blk? H p.block with
    | some B =>
      if fl ≤ p.block ∧ p.off + vs.length ≤ B.cells.length ∧ vs.all Value.oneCell' then
        some (H.set p.block { B with cells := setCells B.cells p.off vs })
      else none
    | none => none

def sizeA (P : Program) (t : TypeId) : Option Nat :=
  match aTy P t with
  | .other => none
  | _ => some (P.cellsOf t)

def storeA (P : Program) (fl : Nat) (t : TypeId) (H : AHeap) (p : Addr) (v : Value) : Option AHeap :=
  if sizeA P t = some v.cells.size then storeAt fl H p v.cells.toList else none

def partA (isAgg : Option Bool) (cs : Array Value) (off size : Nat) : Option Value :=
  match isAgg with
  | some true => some (.agg (cs.extract off (off + size)))
  | some false => cs[off]?
  | none => none

def newA (H : AHeap) (cs : List Value) (es : Nat) (exact : Bool) : Nat × AHeap := (H.length, H ++ [⟨cs, es, exact, true⟩])

def aBin (op : BinOp) (x y : Value) : Option Value :=
  match op, x, y with
  | .shl, .int k a, .int _ b => if b < 0 then none else some (.int k (k.wrap (a * 2 ^ (min b.toNat k.bits))))
  | .shr, .int k a, .int _ b => if b < 0 then none else some (.int k (a.fdiv (2 ^ (min b.toNat k.bits))))
  | op, .int k a, .int k' b =>
    if k ≠ k' then none else
    match op with
    | .add => some (.int k (k.wrap (a + b)))
    | .sub => some (.int k (k.wrap (a - b)))
    | .mul => some (.int k (k.wrap (a * b)))
    | .quo => if b = 0 then none else some (.int k (k.wrap (a.tdiv b)))
    | .rem => if b = 0 then none else some (.int k (a.tmod b))
    | .and => some (.int k (k.wrap (BitVec.ofInt k.bits a &&& BitVec.ofInt k.bits b).toNat))
    | .or => some (.int k (k.wrap (BitVec.ofInt k.bits a ||| BitVec.ofInt k.bits b).toNat))
    | .xor => some (.int k (k.wrap (BitVec.ofInt k.bits a ^^^ BitVec.ofInt k.bits b).toNat))
    | .andNot => some (.int k (k.wrap (BitVec.ofInt k.bits a &&& ~~~ BitVec.ofInt k.bits b).toNat))
    | .eql => some (.bool (a == b))
    | .neq => some (.bool (a != b))
    | .lss => some (.bool (decide (a < b)))
    | .leq => some (.bool (decide (a ≤ b)))
    | .gtr => some (.bool (decide (b < a)))
    | .geq => some (.bool (decide (b ≤ a)))
    | _ => none
  | .eql, .bool a, .bool b => some (.bool (a == b))
  | .neq, .bool a, .bool b => some (.bool (a != b))
  | op, .string a, .string b =>
    match op with
    | .add => if a.size + b.size ≤ 2 ^ 60 then some (.string (a ++ b)) else none
    | .eql => some (.bool (a.toList == b.toList))
    | .neq => some (.bool (!(a.toList == b.toList)))
    | .lss => some (.bool (Op.bytesLess a.toList b.toList))
    | .leq => some (.bool (Op.bytesLess a.toList b.toList || a.toList == b.toList))
    | .gtr => some (.bool (!(Op.bytesLess a.toList b.toList || a.toList == b.toList)))
    | .geq => some (.bool (!Op.bytesLess a.toList b.toList))
    | _ => none
  | _, _, _ => none

def aUn (op : UnOp) (x : Value) : Option Value :=
  match op, x with
  | .neg, .int k n => some (.int k (k.wrap (0 - n)))
  | .xor, .int k n => some (.int k (k.wrap (BitVec.ofInt k.bits (if k.signed then -1 else k.max) ^^^ BitVec.ofInt k.bits n).toNat))
  | .not, .bool b => some (.bool (!b))
  | _, _ => none

/-- A bound of a slice expression. -/
def boundA (x : Value) (y : Nat) : Option Nat :=
  match x with
  | .int _ i => if 0 ≤ i ∧ i ≤ y then some i.toNat else none
  | _ => none

def boundsA (len cap : Nat) (low high mx : Option Value) : Option (Nat × Nat × Nat) := do
  let m ← match mx with
    | some v => boundA v cap
    | none => some cap
  let h ← match high, mx with
    | some v, some _ => boundA v m
    | some v, none => boundA v m
    | none, none => some len
    | none, some _ => none
  let l ← match low with
    | some v => boundA v h
    | none => some 0
  some (l, h, m)

def sliceA (P : Program) (t : TypeId) (x : Value) (low high mx : Option Value) (H : AHeap) : Option Value :=
  match aTy P t, x with
  | .str, .string s =>
    if mx.isSome then none else
    match boundsA s.size s.size low high none with
    | some (l, h, _) => some (.string (s.extract l h))
    | none => none
  | .slice _ _ _, .slice none len cap =>
    match boundsA len cap low high mx with
    | some (l, h, m) => some (.slice none (h - l) (m - l))
    | none => none
  | .slice _ es _, .slice (some a) len cap =>
    match boundsA len cap low high mx, H[a.block]? with
    | some (l, h, m), some B =>
      if B.exact then some (.slice (some (if m = l then a else a.add (l * es))) (h - l) (m - l))
      else if B.es = es then some (.slice (some (a.add (l * es))) (h - l) (m - l)) else none
    | _, _ => none
  | .array n _ es _, .pointer (some a) =>
    match boundsA n n low high mx, H[a.block]? with
    | some (l, h, m), some B => if B.exact then some (.slice (some (if m = l then a else a.add (l * es))) (h - l) (m - l)) else none
    | _, _ => none
  | _, _ => none

def indexAddrA (P : Program) (t : TypeId) (x ix : Value) : Option Value :=
  match aTy P t, x, ix with
  | .slice _ es _, .slice (some a) len _, .int _ i => if 0 ≤ i ∧ i < len then some (.pointer (some (a.add (i.toNat * es)))) else none
  | .array n _ es _, .pointer (some a), .int _ i => if 0 ≤ i ∧ i < n then some (.pointer (some (a.add (i.toNat * es)))) else none
  | _, _, _ => none

def indexA (P : Program) (t : TypeId) (x ix : Value) : Option Value :=
  match aTy P t, x, ix with
  | .array n e es _, .agg cs, .int _ i => if 0 ≤ i ∧ i < n then partA (aggK P e) cs (i.toNat * es) es else none
  | .str, .string s, .int _ i => if 0 ≤ i then (s[i.toNat]?).map fun b => .int .u8 b.toNat else none
  | _, _, _ => none

def fieldA (P : Program) (t : TypeId) (x : Value) (f : Nat) : Option Value :=
  match aTy P t, x with
  | .struct _ fs, .agg cs => match fs[f]? with
    | some (off, size, agg) => if size = 0 then none else partA agg cs off size
    | none => none
  | _, _ => none

def fieldAddrA (P : Program) (t : TypeId) (x : Value) (f : Nat) : Option Value :=
  match aTy P t, x with
  | .struct _ fs, .pointer (some a) => match fs[f]? with
    | some (off, size, _) => if size = 0 then none else some (.pointer (some (a.add off)))
    | none => none
  | _, _ => none

/-- A slice as an array in its place. -/
def arrAtA (P : Program) (t : TypeId) (x : Value) : Option Value :=
  match aTy P t, x with
  | .array n _ _ _, .slice (some a) len _ => if 0 < n ∧ n ≤ len then some (.pointer (some a)) else none
  | _, _ => none

/-- The first n elements of what append or copy takes from. -/
def firstA (H : AHeap) (es n : Nat) : Value → Option (List Value)
  | .slice (some a) _ _ => if n * es = 0 then some [] else cellsAt H a (n * es)
  | .slice none _ _ => if n = 0 then some [] else none
  | .string s => if es = 1 then some ((s.extract 0 n).data.toList.map fun b => .int .u8 b.toNat) else none
  | _ => none

def lenA : Value → Option Nat
  | .slice _ n _ => some n
  | .string s => some s.size
  | _ => none

/-- The blocks that a value leads to. -/
def blkOf : Value → List Nat
  | .pointer (some a) => [a.block]
  | .slice (some a) _ _ => [a.block]
  | _ => []

/-- The block is done with, where the new slice may lie in its spare room. -/
def killA (fl : Nat) (H : AHeap) (es : Nat) : Option Addr → Option AHeap
  | none => some H
  | some a =>
    match H[a.block]? with
    | some B =>
      if B.exact then some H
      else if B.es = es ∧ B.alive = true ∧ fl ≤ a.block then some (H.set a.block { B with alive := false }) else none
    | none => none

def appendTo (P : Program) (fl : Nat) (e es eb : Nat) (base : Option Addr) (n c m : Nat) (x : Value) (H : AHeap) : Option (Value × AHeap) :=
  match firstA H es m x with
  | some new =>
    if n + m ≤ c then
      match base with
      | some a => match storeAt fl H (a.add (n * es)) new with
        | some H' => some (.slice (some a) (n + m) c, H')
        | none => none
      | none => some (.slice none (n + m) c, H)
    else if (n + m) * eb ≤ 2 ^ 47 ∧ n + m ≤ 2 ^ 47 ∧ new.all Value.oneCell' = true ∧ (azero P e).map List.length = some es then
      match firstA H es n (.slice base n c), killA fl H es base with
      | some old, some H' => some (.slice (some ⟨H'.length, 0, none⟩) (n + m) (n + m), H' ++ [⟨old ++ new, es, false, true⟩])
      | _, _ => none
    else none
  | none => none

/-- So many zeros behind a slice. -/
def appendNew (P : Program) (fl : Nat) (e es eb : Nat) (base : Option Addr) (n c m : Nat) (new : List Value) (H : AHeap) : Option (Value × AHeap) :=
  if n + m ≤ c then
    match base with
    | some a => match storeAt fl H (a.add (n * es)) new with
      | some H' => some (.slice (some a) (n + m) c, H')
      | none => none
    | none => some (.slice none (n + m) c, H)
  else if (n + m) * eb ≤ 2 ^ 47 ∧ n + m ≤ 2 ^ 47 ∧ new.all Value.oneCell' = true ∧ (azero P e).map List.length = some es then
    match firstA H es n (.slice base n c), killA fl H es base with
    | some old, some H' => some (.slice (some ⟨H'.length, 0, none⟩) (n + m) (n + m), H' ++ [⟨old ++ new, es, false, true⟩])
    | _, _ => none
  else none
def appendM (P : Program) (fl : Nat) (e es eb : Nat) (base : Option Addr) (n c : Nat) (xt : TypeId) (x : Value) (H : AHeap) : Option (Value × AHeap) :=
  match x, P.underlying xt, azero P e with
  | .int .i64 (.ofNat m), some (.int _), some z => if z.length = es ∧ m * eb ≤ 2 ^ 47 ∧ m ≤ 2 ^ 47 then appendNew P fl e es eb base n c m (rowOf z (m * es)) H else none
  | _, _, _ => none

def appendA (P : Program) (fl : Nat) (argTypes : Array TypeId) (args : Array Value) (H : AHeap) : Option (Value × AHeap) :=
  match argTypes[0]?, argTypes[1]?, args[0]?, args[1]? with
  | some st, some xt, some (Value.slice base n c), some x =>
    match aTy P st, aTy P xt, lenA x with
    | .slice e es eb, .slice _ _ _, some m => appendTo P fl e es eb base n c m x H
    | .slice e es eb, .str, some m => appendTo P fl e es eb base n c m x H
    | .slice e es eb, .one, none => appendM P fl e es eb base n c xt x H
    | _, _, _ => none
  | _, _, _, _ => none

def copyA (P : Program) (fl : Nat) (argTypes : Array TypeId) (args : Array Value) (H : AHeap) : Option (Value × AHeap) :=
  match argTypes[0]?, args[0]?, args[1]? with
  | some dt, some (Value.slice base n _), some x =>
    match aTy P dt, lenA x with
    | .slice _ es _, some m =>
      match firstA H es (Nat.min m n) x with
      | some cells =>
        match base with
        | some a => match storeAt fl H a cells with
          | some H' => some (.int .i64 (Nat.min m n), H')
          | none => none
        | none => some (.int .i64 (Nat.min m n), H)
      | none => none
    | _, _ => none
  | _, _, _ => none

def lenOfA (P : Program) (argTypes : Array TypeId) (args : Array Value) : Option Value :=
  match argTypes[0]?, args[0]? with
  | some t, some x =>
    match aTy P t, x with
    | .str, .string s => some (.int .i64 s.size)
    | .array n _ _ _, _ => some (.int .i64 n)
    | .slice _ _ _, .slice _ n _ => some (.int .i64 n)
    | _, _ => none
  | _, _ => none

def max2A : Value → Value → Option Value
  | .int k x, .int _ y => some (.int k (if y > x then y else x))
  | _, _ => none
def min2A : Value → Value → Option Value
  | .int k x, .int _ y => some (.int k (if y < x then y else x))
  | _, _ => none
def foldA (f : Value → Value → Option Value) : Value → List Value → Option Value
  | x, [] => some x
  | x, y :: l => match f x y with
    | some z => foldA f z l
    | none => none

def bytesOfCells : List Value → Option (List UInt8)
  | [] => some []
  | .int .u8 z :: l => (bytesOfCells l).map (UInt8.ofNat z.toNat :: ·)
  | _ :: _ => none

def convA (P : Program) (s d : TypeId) (x : Value) (H : AHeap) : Option (Value × AHeap) :=
  match P.underlying s, P.underlying d, x with
  | some _, some (.int k), .int _ n => some (.int k (k.wrap n), H)
  | some _, some .string, .string b => some (.string b, H)
  | some _, some (.float k), .int _ n => some (.float k (floatOfInt k n), H)
  | some _, some (.int k), .float s b => match floatToIntVal s b k with
    | some n => some (.int k n, H)
    | none => none
  | some .string, some (.slice e), .string b =>
    match P.underlying e with
    | some (.int .u8) =>
      if b.size ≤ 2 ^ 60 then
        some (.slice (some ⟨H.length, 0, none⟩) b.size b.size, H ++ [⟨b.data.toList.map fun c => .int .u8 c.toNat, 1, false, true⟩])
      else none
    | _ => none
  | some (.slice e), some .string, .slice a n _ =>
    match P.underlying e, a with
    | some (.int .u8), none => some (.string .empty, H)
    | some (.int .u8), some a =>
      if n = 0 then some (.string .empty, H) else
      match cellsAt H a n with
      | some cs =>
        match bytesOfCells cs with
        | some l => some (.string ⟨l.toArray⟩, H)
        | none => none
      | none => none
    | _, _ => none
  | _, _, _ => none

/-- A slice of bytes put into its own type: its block gets a mark. -/
def markA (P : Program) (fl : Nat) (s d : TypeId) (x : Value) (H : AHeap) : Option Value :=
  match x with
  | .slice (some a) (n + 1) c =>
    if s = d ∧ fl ≤ a.block ∧ (blk? H a.block).isSome = true then
      match P.underlying s with
      | some (.slice e) => match P.underlying e with
        | some (.int .u8) => some (.slice (some a) (n + 1) c)
        | _ => none
      | _ => none
    else none
  | _ => none

def goodFn (P : Program) (f : FuncId) : Bool :=
  match P.funcs[f]? with
  | some fn => fn.name != "runtime.NumGoroutine" && fn.body.isSome
  | none => false

def callA (P : Program) (fl : Nat) (c : Call) (ev : Operand → Value) (H : AHeap) : Option (ANext × AHeap) :=
  match c.callee with
  | .value f =>
    match ev f with
    | .func (.func g) first captured => if goodFn P g then some (.enter g (first ++ c.args.map ev ++ captured), H) else none
    | _ => none
  | .builtin b =>
    match b with
    | .len => (lenOfA P c.argTypes (c.args.map ev)).map fun v => (.value v, H)
    | .append => (appendA P fl c.argTypes (c.args.map ev) H).map fun r => (.value r.1, r.2)
    | .copy => (copyA P fl c.argTypes (c.args.map ev) H).map fun r => (.value r.1, r.2)
    | .max => match (c.args.map ev).toList with
      | x :: l => (foldA max2A x l).map fun v => (.value v, H)
      | [] => none
    | .min => match (c.args.map ev).toList with
      | x :: l => (foldA min2A x l).map fun v => (.value v, H)
      | [] => none
    | .complex => match (c.args.map ev).toList with
      | [.float k a, .float k' b] => if k = k' then some (.value (.complex k a b), H) else none
      | _ => none
    | .real => match (c.args.map ev).toList with
      | [.complex k a _] => some (.value (.float k a), H)
      | _ => none
    | .imag => match (c.args.map ev).toList with
      | [.complex k _ b] => some (.value (.float k b), H)
      | _ => none
    | _ => none
  | _ => none

/-- Held against nil: equal? -/
def nilEq (P : Program) (t : TypeId) (isConst : Bool) (x y : Value) : Option Bool :=
  match P.underlying t with
  | some (.pointer _) => match x, y with
    | .pointer none, .pointer b => some b.isNone
    | .pointer (some _), .pointer none => some false
    | _, _ => none
  | some (.slice _) => match x, y with
    | .slice none _ _, .slice b _ _ => some b.isNone
    | .slice (some _) _ _, .slice none _ _ => some false
    | _, _ => none
  | some (.func _ _ _) => match x, y with
    | .nilFunc, .nilFunc => some true
    | .nilFunc, .func .. => some false
    | .func .., .nilFunc => some false
    | _, _ => none
  | some (.interface _) => match x, y with
    | .nilIface, .nilIface => if isConst then some true else none
    | .nilIface, .iface .. => some false
    | .iface .., .nilIface => some false
    | _, _ => none
  | _ => none

def isConst : Operand → Bool
  | .const _ => true
  | _ => false

/-- Truths are held against each other at the type bool alone. -/
def boolTy (P : Program) (t : TypeId) (x : Value) : Bool :=
  match x with
  | .bool _ => match P.underlying t with
    | some .bool => true
    | _ => false
  | _ => true

def nilA (P : Program) (op : BinOp) (t : TypeId) (c : Bool) (x y : Value) : Option Value :=
  match op with
  | .eql => (nilEq P t c x y).map .bool
  | .neq => (nilEq P t c x y).map fun b => .bool (!b)
  | _ => none

/-- Floating point: comparisons; complex numbers: sums, differences, products. -/
def aFl (op : BinOp) (x y : Value) : Option Value :=
  match op, x, y with
  | .eql, .float k a, .float k' b => if k = k' then some (.bool (k.format.order a b == some .eq)) else none
  | .leq, .float k a, .float k' b => if k = k' then some (.bool (k.format.order a b == some .lt || k.format.order a b == some .eq)) else none
  | .geq, .float k a, .float k' b => if k = k' then some (.bool (k.format.order a b == some .gt || k.format.order a b == some .eq)) else none
  | .add, .complex k a b, .complex k' c d => if k = k' then (cSumBits .add k a b c d).map fun r => .complex k r.1 r.2 else none
  | .sub, .complex k a b, .complex k' c d => if k = k' then (cSumBits .sub k a b c d).map fun r => .complex k r.1 r.2 else none
  | .mul, .complex .f64 a b, .complex .f64 c d => (cMulBits a b c d).map fun r => .complex .f64 r.1 r.2
  | _, _, _ => none

/-- Two cells of plain data, held against each other. -/
def scalEq (d : Option TypeDesc) (x y : Value) : Option Bool :=
  match d, x, y with
  | some (.int _), .int k a, .int k' b => if k = k' then some (a == b) else none
  | some .bool, .bool a, .bool b => some (a == b)
  | _, _, _ => none

/-- The cells that a comparison looks at. -/
def eqParts (P : Program) (t : TypeId) : Option (List (TypeId × Nat)) :=
  match P.underlying t with
  | some (.struct fs) => if P.stoodInHeld t || fs.toList.any (fun f => f.name == "_") then none else some (fs.toList.map fun f => (f.type, f.offset))
  | some (.array n e) => if P.cellsOf e = 1 then some ((List.range n).map fun i => (e, i)) else none
  | _ => none

def cellsEq (P : Program) : List (TypeId × Nat) → List Value → List Value → Option Bool
  | [], _, _ => some true
  | (t, o) :: r, xs, ys => match xs[o]?, ys[o]? with
    | some x, some y => match scalEq (P.underlying t) x y, cellsEq P r xs ys with
      | some b, some b' => some (b && b')
      | _, _ => none
    | _, _ => none

/-- Two structs or arrays of plain data. -/
def aggEq (P : Program) (t : TypeId) (x y : Value) : Option Bool :=
  match x, y, eqParts P t with
  | .agg xs, .agg ys, some l => if P.eqGuardType P.depth t = true ∨ (P.info? t).isSome = false then none else cellsEq P l xs.toList ys.toList
  | _, _, _ => none

def eqA (P : Program) (op : BinOp) (t : TypeId) (x y : Value) : Option Value :=
  match op with
  | .eql => (aggEq P t x y).map Value.bool
  | .neq => (aggEq P t x y).map fun b => Value.bool (!b)
  | _ => none

def bin2A (P : Program) (op : BinOp) (t : TypeId) (c : Bool) (x y : Value) : Option Value :=
  match aBin op x y with
  | some v => if boolTy P t x then some v else none
  | none => match nilA P op t c x y with
    | some v => some v
    | none => match aFl op x y with
      | some v => some v
      | none => eqA P op t x y

def prim (P : Program) (fl : Nat) (op : Op) (ev : Operand → Value) (H : AHeap) : Option (ANext × AHeap) :=
  match op with
  | .move x | .assign x => some (.value (ev x), H)
  | .pick c a b => match ev c with
    | .bool d => some (.value (if d then ev a else ev b), H)
    | _ => none
  | .alloc t => match azero P t with
    | some cs => some (.value (.pointer (some ⟨H.length, 0, none⟩)), H ++ [⟨cs, 0, true, true⟩])
    | none => none
  | .box _ x => some (.value (.pointer (some ⟨H.length, 0, none⟩)), H ++ [⟨(ev x).cells.toList, 0, true, true⟩])
  | .build t parts => match aTy P t, azero P t with
    | .struct _ fs, some z => match afill (fun i => (fs[i]?).map fun f => (f.1, f.2.1)) z (parts.toList.map fun p => (p.1, ev p.2)) with
      | some cs => some (.value (.agg cs.toArray), H)
      | none => none
    | .array _ _ es _, some z => match afill (fun i => some (i * es, es)) z (parts.toList.map fun p => (p.1, ev p.2)) with
      | some cs => some (.value (.agg cs.toArray), H)
      | none => none
    | _, _ => none
  | .buildSlice t len parts => match aTy P t with
    | .slice e es _ =>
      if len * es ≤ 2 ^ 20 then
        match azero P e with
        | some z => match afill (fun i => some (i * es, es)) (rowOf z (len * es)) (parts.toList.map fun p => (p.1, ev p.2)) with
          | some cs => some (.value (.slice (some ⟨H.length, 0, none⟩) len len), H ++ [⟨cs, es, true, true⟩])
          | none => none
        | none => none
      else none
    | _ => none
  | .load t a => match ev a with
    | .pointer (some p) => (loadA P t H p).map fun v => (.value v, H)
    | _ => none
  | .store t a x => match ev a with
    | .pointer (some p) => (storeA P fl t H p (ev x)).map fun H' => (.skip, H')
    | _ => none
  | .nilCheck x => match ev x with
    | .pointer (some a) => some (.value (.pointer (some a)), H)
    | .func (.func f) a b => some (.value (.func (.func f) a b), H)
    | _ => none
  | .binOp op t x y _ => (bin2A P op t (isConst x || isConst y) (ev x) (ev y)).map fun v => (.value v, H)
  | .unOp op _ x => (aUn op (ev x)).map fun v => (.value v, H)
  | .convert s d x => match markA P fl s d (ev x) H with
    | some v => some (.value v, H)
    | none => (convA P s d (ev x) H).map fun r => (.value r.1, r.2)
  | .makeFunc fn first captured => some (.value (.func fn (first.map ev) (captured.map ev)), H)
  | .makeSlice t l c => match aTy P t, ev l, ev c with
    | .slice e es eb, .int _ l, .int _ c =>
      if 0 ≤ l ∧ l ≤ c ∧ c ≤ 2 ^ 46 ∧ eb * c ≤ 2 ^ 46 then
        match azero P e with
        | some z => some (.value (.slice (some ⟨H.length, 0, none⟩) l.toNat c.toNat), H ++ [⟨rowOf z (c.toNat * es), es, true, true⟩])
        | none => none
      else none
    | _, _, _ => none
  | .slice t x lo hi mx => (sliceA P t (ev x) (lo.map ev) (hi.map ev) (mx.map ev) H).map fun v => (.value v, H)
  | .fieldAddr s x f => (fieldAddrA P s (ev x) f).map fun v => (.value v, H)
  | .field t x f => (fieldA P t (ev x) f).map fun v => (.value v, H)
  | .indexAddr t x ix => (indexAddrA P t (ev x) (ev ix)).map fun v => (.value v, H)
  | .index t x ix => (indexA P t (ev x) (ev ix)).map fun v => (.value v, H)
  | .extract x i => match ev x with
    | .tuple vs => (vs[i]?).map fun v => (.value v, H)
    | _ => none
  | .sliceToArrayPointer t x => (arrAtA P t (ev x)).map fun v => (.value v, H)
  | .makeInterface t x => match P.underlying t with
    | some (.interface _) => none
    | some _ => some (.value (.iface t (ev x)), H)
    | none => none
  | .call c => callA P fl c ev H
  | _ => none

/-- The blocks that an operation reads or writes; those that it writes. -/
def accOf (op : Op) (ev : Operand → Value) : List Nat :=
  match op with
  | .load _ a => blkOf (ev a)
  | .store _ a _ => blkOf (ev a)
  | .convert _ _ x => blkOf (ev x)
  | .call c => match c.callee with
    | .builtin .append | .builtin .copy => (c.args.map ev).toList.flatMap blkOf
    | _ => []
  | _ => []

def wrOf (op : Op) (ev : Operand → Value) : List Nat :=
  match op with
  | .store _ a _ => blkOf (ev a)
  | .convert s d x => if s = d then blkOf (ev x) else []
  | .call c => match c.callee with
    | .builtin .append | .builtin .copy => (c.args.map ev)[0]?.elim [] blkOf
    | _ => []
  | _ => []

theorem wrOf_conv (s d : TypeId) (x : Operand) (ev : Operand → Value) : wrOf (.convert s d x) ev = if s = d then blkOf (ev x) else [] := rfl
theorem wrOf_move (x : Operand) (ev : Operand → Value) : wrOf (.move x) ev = [] := by simp only [wrOf]
theorem wrOf_store (t : TypeId) (a x : Operand) (ev : Operand → Value) : wrOf (.store t a x) ev = blkOf (ev a) := by simp only [wrOf]

end Go.Mach
