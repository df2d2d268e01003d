/- The value machine: slices as lists, a few objects of one's own, calls by a table; what must hold, as a proposition that the kernel can compute. Plain definitions; no condition. -/
import Derived.Test.YtajjfflbcpkokaaGreatOwn
namespace Go.Mach

/-! ### Types of plain data -/

inductive Ty
  | int (k : IntKind)
  | bool
  | str
  | slc (t : Ty)
  | unit
  | pair (a b : Ty)
  | flt
  | cpx
  | ref (t : Ty)

@[reducible] def Ty.den : Ty → Type
  | .int _ => Int
  | .bool => Bool
  | .str => ByteArray
  | .slc t => List t.den
  | .unit => Unit
  | .pair a b => a.den × b.den
  | .flt => Nat
  | .cpx => Nat × Nat
  | .ref t => List t.den

def Ty.w : Ty → Nat
  | .unit => 0
  | .pair a b => a.w + b.w
  | _ => 1

/-- Without addresses. -/
def Ty.flat : Ty → Bool
  | .slc _ => false
  | .ref _ => false
  | .pair a b => a.flat && b.flat
  | _ => true

def Ty.dflt : (t : Ty) → t.den
  | .int _ => (0 : Int)
  | .bool => false
  | .str => ByteArray.empty
  | .slc _ => []
  | .unit => ()
  | .pair a b => (a.dflt, b.dflt)
  | .flt => (0 : Nat)
  | .cpx => ((0 : Nat), (0 : Nat))
  | .ref _ => []

def Ty.dec : (a b : Ty) → Decidable (a = b)
  | .int k, b => match b with
    | .int k' => if h : k = k' then .isTrue (by rw [h]) else .isFalse (fun e => h (by cases e; rfl))
    | .bool => .isFalse (fun e => by cases e)
    | .str => .isFalse (fun e => by cases e)
    | .slc _ => .isFalse (fun e => by cases e)
    | .unit => .isFalse (fun e => by cases e)
    | .pair _ _ => .isFalse (fun e => by cases e)
    | .flt => .isFalse (fun e => by cases e)
    | .cpx => .isFalse (fun e => by cases e)
    | .ref _ => .isFalse (fun e => by cases e)
  | .bool, b => match b with
    | .bool => .isTrue rfl
    | .int _ => .isFalse (fun e => by cases e)
    | .str => .isFalse (fun e => by cases e)
    | .slc _ => .isFalse (fun e => by cases e)
    | .unit => .isFalse (fun e => by cases e)
    | .pair _ _ => .isFalse (fun e => by cases e)
    | .flt => .isFalse (fun e => by cases e)
    | .cpx => .isFalse (fun e => by cases e)
    | .ref _ => .isFalse (fun e => by cases e)
  | .str, b => match b with
    | .str => .isTrue rfl
    | .int _ => .isFalse (fun e => by cases e)
    | .bool => .isFalse (fun e => by cases e)
    | .slc _ => .isFalse (fun e => by cases e)
    | .unit => .isFalse (fun e => by cases e)
    | .pair _ _ => .isFalse (fun e => by cases e)
    | .flt => .isFalse (fun e => by cases e)
    | .cpx => .isFalse (fun e => by cases e)
    | .ref _ => .isFalse (fun e => by cases e)
  | .slc t, b => match b with
    | .slc u => match Ty.dec t u with
      | .isTrue h => .isTrue (by rw [h])
      | .isFalse h => .isFalse (fun e => h (by cases e; rfl))
    | .int _ => .isFalse (fun e => by cases e)
    | .bool => .isFalse (fun e => by cases e)
    | .str => .isFalse (fun e => by cases e)
    | .unit => .isFalse (fun e => by cases e)
    | .pair _ _ => .isFalse (fun e => by cases e)
    | .flt => .isFalse (fun e => by cases e)
    | .cpx => .isFalse (fun e => by cases e)
    | .ref _ => .isFalse (fun e => by cases e)
  | .unit, b => match b with
    | .unit => .isTrue rfl
    | .int _ => .isFalse (fun e => by cases e)
    | .bool => .isFalse (fun e => by cases e)
    | .str => .isFalse (fun e => by cases e)
    | .slc _ => .isFalse (fun e => by cases e)
    | .pair _ _ => .isFalse (fun e => by cases e)
    | .flt => .isFalse (fun e => by cases e)
    | .cpx => .isFalse (fun e => by cases e)
    | .ref _ => .isFalse (fun e => by cases e)
  | .pair t u, b => match b with
    | .pair t' u' => match Ty.dec t t', Ty.dec u u' with
      | .isTrue h, .isTrue h' => .isTrue (by rw [h, h'])
      | .isFalse h, _ => .isFalse (fun e => h (by cases e; rfl))
      | _, .isFalse h => .isFalse (fun e => h (by cases e; rfl))
    | .int _ => .isFalse (fun e => by cases e)
    | .bool => .isFalse (fun e => by cases e)
    | .str => .isFalse (fun e => by cases e)
    | .slc _ => .isFalse (fun e => by cases e)
    | .unit => .isFalse (fun e => by cases e)
    | .flt => .isFalse (fun e => by cases e)
    | .cpx => .isFalse (fun e => by cases e)
    | .ref _ => .isFalse (fun e => by cases e)
  | .flt, b => match b with
    | .flt => .isTrue rfl
    | .int _ => .isFalse (fun e => by cases e)
    | .bool => .isFalse (fun e => by cases e)
    | .str => .isFalse (fun e => by cases e)
    | .slc _ => .isFalse (fun e => by cases e)
    | .unit => .isFalse (fun e => by cases e)
    | .pair _ _ => .isFalse (fun e => by cases e)
    | .cpx => .isFalse (fun e => by cases e)
    | .ref _ => .isFalse (fun e => by cases e)
  | .cpx, b => match b with
    | .cpx => .isTrue rfl
    | .int _ => .isFalse (fun e => by cases e)
    | .bool => .isFalse (fun e => by cases e)
    | .str => .isFalse (fun e => by cases e)
    | .slc _ => .isFalse (fun e => by cases e)
    | .unit => .isFalse (fun e => by cases e)
    | .pair _ _ => .isFalse (fun e => by cases e)
    | .flt => .isFalse (fun e => by cases e)
    | .ref _ => .isFalse (fun e => by cases e)
  | .ref t, b => match b with
    | .ref u => match Ty.dec t u with
      | .isTrue h => .isTrue (by rw [h])
      | .isFalse h => .isFalse (fun e => h (by cases e; rfl))
    | .int _ => .isFalse (fun e => by cases e)
    | .bool => .isFalse (fun e => by cases e)
    | .str => .isFalse (fun e => by cases e)
    | .slc _ => .isFalse (fun e => by cases e)
    | .unit => .isFalse (fun e => by cases e)
    | .pair _ _ => .isFalse (fun e => by cases e)
    | .flt => .isFalse (fun e => by cases e)
    | .cpx => .isFalse (fun e => by cases e)

/-- At the same type. -/
def Ty.at (t t' : Ty) (l : List t.den) (K : List t'.den → Prop) : Prop :=
  match Ty.dec t t' with
  | .isTrue h => K (h ▸ l)
  | .isFalse _ => False

/-! ### Values -/

inductive VV
  | pl (v : Value)
  | agg (l : List VV)
  | tup (l : List VV)
  | fz (o : Bool) (t : Ty) (l : List t.den)
  | own (i : Nat)
  | ptr (i off : Nat)
  | eptr (i ix off : Nat)
  | fptr (o : Bool) (t : Ty) (l : List t.den) (ix off : Nat)
  | bx (l : List VV) (off : Nat)
  | fn (f : FuncId) (caps : List VV)
  | hof (i : Nat)
  | nw (t : Ty) (l : List t.den)
  | mptr (i off : Nat)
  | er (b : Bool)
  | bs (l : List VV)
  | undef

inductive VO
  | box (cells : List VV) (fr : Bool)
  | lst (o : Bool) (t : Ty) (l : List t.den) (fr : Bool)
  | dead (b : Bool)

structure VS where
  t : List (Nat × VV)
  h : List VO

def lookV : List (Nat × VV) → Nat → VV
  | [], _ => .undef
  | (d, v) :: l, i => if d = i then v else lookV l i

def VS.set (s : VS) (d : Option Nat) (v : VV) : VS :=
  match d with
  | some d => ⟨(d, v) :: s.t, s.h⟩
  | none => s

def evV (t : List (Nat × VV)) : Operand → VV
  | .tmp i => lookV t i
  | .const v => .pl v
  | .global _ => .undef
  | .func f => .fn f []

def enc (o : Bool) : (t : Ty) → t.den → List VV
  | .int k, n => [.pl (.int k n)]
  | .bool, b => [.pl (.bool b)]
  | .str, s => [.pl (.string s)]
  | .slc t, l => [.fz o t l]
  | .unit, _ => []
  | .pair a b, x => enc o a x.1 ++ enc o b x.2
  | .flt, x => [.pl (.float .f64 x)]
  | .cpx, x => [.pl (.complex .f64 x.1 x.2)]
  | .ref t, l => match l with
    | [x] => [.fptr o t [x] 0 0]
    | _ => [.pl (.pointer none)]

/-- The plain data that cells stand for; 'o': all of it is new. -/
def dec : (t : Ty) → List VV → (t.den → Bool → List VV → Prop) → Prop
  | .int k, cs, K => match cs with
    | .pl (.int k' n) :: r => if k = k' then K n true r else False
    | _ => False
  | .bool, cs, K => match cs with
    | .pl (.bool b) :: r => K b true r
    | _ => False
  | .str, cs, K => match cs with
    | .pl (.string s) :: r => K s true r
    | _ => False
  | .slc t, cs, K => match cs with
    | .fz o t' l :: r => Ty.at t' t l fun l => K l o r
    | .pl (.slice none 0 _) :: r => K [] true r
    | _ => False
  | .unit, cs, K => K () true cs
  | .pair a b, cs, K => dec a cs fun x o r => dec b r fun y o' r' => K (x, y) (o && o') r'
  | .flt, cs, K => match cs with
    | .pl (.float .f64 x) :: r => K x true r
    | _ => False
  | .cpx, cs, K => match cs with
    | .pl (.complex .f64 a b) :: r => K (a, b) true r
    | _ => False
  | .ref _, cs, K => match cs with
    | .pl (.pointer none) :: r => K [] true r
    | _ => False

/-- So many elements one behind the other. -/
def decN (t : Ty) : Nat → List VV → (List t.den → Bool → Prop) → Prop
  | 0, cs, K => match cs with
    | [] => K [] true
    | _ => False
  | n + 1, cs, K => dec t cs fun x o r => decN t n r fun l o' => K (x :: l) (o && o')

def getO (h : List VO) (i : Nat) : VO := h.getD i (.dead false)
def someOf {α : Type} : List α → Bool
  | [] => false
  | _ :: _ => true

/-- A cell, with what is one's own told as a list. -/
def resolve (h : List VO) : VV → VV
  | .own i => match getO h i with
    | .lst o t l _ => .fz o t l
    | _ => .undef
  | v => v

def frozenO : VO → VO
  | .box cs _ => .box cs true
  | .lst o t l _ => .lst o t l true
  | .dead b => .dead b

def idsL : VV → List Nat
  | .own i | .ptr i _ | .eptr i _ _ => [i]
  | _ => []
def ownsL : VV → List Nat
  | .own i => [i]
  | _ => []
def ids1 : VV → List Nat
  | .agg l => l.flatMap idsL
  | .bs l => l.flatMap idsL
  | v => idsL v
def ids2 : VV → List Nat
  | .tup l => l.flatMap ids1
  | .fn _ l => l.flatMap ids1
  | v => ids1 v

/-- These objects are written no more. -/
def freeze (h : List VO) : List Nat → List VO
  | [] => h
  | i :: is => freeze (h.set i (frozenO (getO h i))) is

/-- Handed to a call: everything of mine may be read. -/
def lendL (h : List VO) (v : VV) : VV :=
  match v with
  | .own i => match getO h i with
    | .lst _ t l _ => .fz false t l
    | _ => .undef
  | .fz _ t l => .fz false t l
  | .pl v => .pl v
  | _ => .undef
def lend1 (h : List VO) (v : VV) : VV :=
  match v with
  | .agg l => .agg (l.map (lendL h))
  | .ptr i off => match getO h i with
    | .box cs _ => .bx (cs.map (lendL h)) off
    | _ => .undef
  | .bx l off => .bx (l.map (lendL h)) off
  | v => lendL h v
def lend (h : List VO) (v : VV) : VV :=
  match v with
  | .fn f l => .fn f (l.map (lend1 h))
  | v => lend1 h v

def vcells : VV → List VV
  | .agg l => l
  | v => [v]

def vset : List VV → Nat → List VV → List VV
  | cs, _, [] => cs
  | cs, i, v :: vs => vset (cs.set i v) (i + 1) vs

/-- A cell that is known. -/
def okL : VV → Bool
  | .pl _ | .fz _ _ _ | .own _ | .ptr _ _ | .eptr _ _ _ | .fptr _ _ _ _ _ => true
  | _ => false

def vfill (place : Nat → Option (Nat × Nat)) : List VV → List (Nat × VV) → (List VV → Prop) → Prop
  | cs, [], K => K cs
  | cs, (i, v) :: rest, K =>
    match place i with
    | none => False
    | some (off, size) => if (vcells v).length = size ∧ off + size ≤ cs.length ∧ (vcells v).all okL = true then vfill place (vset cs off (vcells v)) rest K else False

def okC : VV → Bool
  | .tup _ | .fn _ _ => false
  | _ => true

def vload (at_ : ATy) (cs : List VV) (off : Nat) (K : VV → Prop) : Prop :=
  match at_ with
  | .struct sz _ | .array _ _ _ sz => if off + sz ≤ cs.length ∧ ((cs.drop off).take sz).all okL = true then K (.agg ((cs.drop off).take sz)) else False
  | .other => False
  | _ => match cs[off]? with
    | some v => if okL v = true then K v else False
    | none => False

/-! ### Operations -/

/-- Functions that are carried out on the caller's own memory. -/
structure Inl where
  B : FuncId → Bool
  run : FuncId → List VV → VS → (VV → VS → Prop) → Prop

structure Cfg where
  P : Program
  tt : TypeId → Option Ty
  O : FuncId → List VV → (List (Bool × List VV) → Prop) → Prop
  Γ : Nat → List VV → (List (Bool × List VV) → Prop) → Prop
  I : Option Inl
  hv : Bool
  un : Nat

/-- A bound that must hold. -/
def ck (c : Prop) (k : Prop) : Prop := c ∧ k
/-- A value under a name. -/
def jn {α : Type} (k : α → Prop) (b : (α → Prop) → Prop) : Prop := b k

def vbin (op : BinOp) (x y : Value) (K : Value → Prop) : Prop :=
  match op, x, y with
  | .shl, .int k a, .int _ b => ck (0 ≤ b) (K (.int k (k.wrap (a * 2 ^ (min b.toNat k.bits)))))
  | .shr, .int k a, .int _ b => ck (0 ≤ b) (K (.int k (a.fdiv (2 ^ (min b.toNat k.bits)))))
  | .add, .int k a, .int k' b => if k = k' then K (.int k (k.wrap (a + b))) else False
  | .sub, .int k a, .int k' b => if k = k' then K (.int k (k.wrap (a - b))) else False
  | .mul, .int k a, .int k' b => if k = k' then K (.int k (k.wrap (a * b))) else False
  | .quo, .int k a, .int k' b => if k = k' then ck (b ≠ 0) (K (.int k (k.wrap (a.tdiv b)))) else False
  | .rem, .int k a, .int k' b => if k = k' then ck (b ≠ 0) (K (.int k (a.tmod b))) else False
  | .and, .int k a, .int k' b => if k = k' then K (.int k (k.wrap (BitVec.ofInt k.bits a &&& BitVec.ofInt k.bits b).toNat)) else False
  | .or, .int k a, .int k' b => if k = k' then K (.int k (k.wrap (BitVec.ofInt k.bits a ||| BitVec.ofInt k.bits b).toNat)) else False
  | .xor, .int k a, .int k' b => if k = k' then K (.int k (k.wrap (BitVec.ofInt k.bits a ^^^ BitVec.ofInt k.bits b).toNat)) else False
  | .eql, .int k a, .int k' b => if k = k' then K (.bool (a == b)) else False
  | .neq, .int k a, .int k' b => if k = k' then K (.bool (a != b)) else False
  | .lss, .int k a, .int k' b => if k = k' then K (.bool (decide (a < b))) else False
  | .leq, .int k a, .int k' b => if k = k' then K (.bool (decide (a ≤ b))) else False
  | .gtr, .int k a, .int k' b => if k = k' then K (.bool (decide (b < a))) else False
  | .geq, .int k a, .int k' b => if k = k' then K (.bool (decide (b ≤ a))) else False
  | .eql, .bool a, .bool b => K (.bool (a == b))
  | .neq, .bool a, .bool b => K (.bool (a != b))
  | .add, .string a, .string b => ck (a.size + b.size ≤ 2 ^ 60) (K (.string (a ++ b)))
  | .eql, .string a, .string b => K (.bool (a.toList == b.toList))
  | .neq, .string a, .string b => K (.bool (!(a.toList == b.toList)))
  | _, _, _ => False

/-- What there is. -/
def got {α : Type} (o : Option α) (K : α → Prop) : Prop := ∃ r, o = some r ∧ K r

/-- Floating point and complex numbers. -/
def vfl (op : BinOp) (x y : Value) (K : Value → Prop) : Prop :=
  match op, x, y with
  | .eql, .float k a, .float k' b => if k = k' then K (.bool (k.format.order a b == some .eq)) else False
  | .leq, .float k a, .float k' b => if k = k' then K (.bool (k.format.order a b == some .lt || k.format.order a b == some .eq)) else False
  | .geq, .float k a, .float k' b => if k = k' then K (.bool (k.format.order a b == some .gt || k.format.order a b == some .eq)) else False
  | .add, .complex k a b, .complex k' c d => if k = k' then got (cSumBits .add k a b c d) fun r => K (.complex k r.1 r.2) else False
  | .sub, .complex k a b, .complex k' c d => if k = k' then got (cSumBits .sub k a b c d) fun r => K (.complex k r.1 r.2) else False
  | .mul, .complex .f64 a b, .complex .f64 c d => got (cMulBits a b c d) fun r => K (.complex .f64 r.1 r.2)
  | _, _, _ => False

def isFl : Value → Bool
  | .float _ _ => true
  | .complex _ _ _ => true
  | _ => false

def isBool : Value → Bool
  | .bool _ => true
  | _ => false

/-- Held against nil: a list that has nothing in it may be nil or not. -/
def nq {α : Type} (l : List α) (A B : Prop) : Prop := (l = [] → A) ∧ B
/-- A list that is nil just if there is nothing in it. -/
def nz {α : Type} (l : List α) (A B : Prop) : Prop := (l = [] → A) ∧ (l ≠ [] → B)
/-- Held against nil: what is told of it. -/
def vnil (u : Option TypeDesc) (q : Bool) (h : List VO) (v w : VV) (K : Bool → Prop) : Prop :=
  match u, w, v with
  | some (.slice _), .pl (.slice none _ _), .pl (.slice none _ _) => K true
  | some (.slice _), .pl (.slice none _ _), .fz _ _ l => nq l (K true) (K false)
  | some (.slice _), .pl (.slice none _ _), .own i => match getO h i with
    | .lst _ _ l _ => nq l (K true) (K false)
    | _ => False
  | some (.func _ _ _), .pl .nilFunc, .pl .nilFunc => K true
  | some (.func _ _ _), .pl .nilFunc, .fn _ _ => K false
  | some (.pointer _), .pl (.pointer none), .pl (.pointer none) => K true
  | some (.pointer _), .pl (.pointer none), .ptr _ _ => K false
  | some (.pointer _), .pl (.pointer none), .fptr _ _ _ _ _ => K false
  | some (.interface _), .pl .nilIface, .pl .nilIface => if q = true then K true else False
  | some (.interface _), .pl .nilIface, .er b => if q = true then K b else False
  | _, _, _ => False

def isNil : VV → Bool
  | .pl (.slice none _ _) => true
  | .pl .nilFunc => true
  | .pl .nilIface => true
  | .pl (.pointer none) => true
  | _ => false

def vun (op : UnOp) (x : Value) (K : Value → Prop) : Prop :=
  match op, x with
  | .neg, .int k n => K (.int k (k.wrap (0 - n)))
  | .xor, .int k n => K (.int k (k.wrap (BitVec.ofInt k.bits (if k.signed then -1 else k.max) ^^^ BitVec.ofInt k.bits n).toNat))
  | .not, .bool b => K (.bool (!b))
  | _, _ => False

def vlen (h : List VO) : VV → (Nat → Prop) → Prop
  | .fz _ _ l, K => K l.length
  | .own i, K => match getO h i with
    | .lst _ _ l _ => K l.length
    | _ => False
  | .pl (.slice none n _), K => K n
  | .bs l, K => K l.length
  | _, _ => False

/-- What append takes from. -/
def vfrom (h : List VO) : VV → ((t : Ty) → List t.den → Bool → Prop) → Prop
  | .fz o t l, K => K t l (o || t.flat)
  | .own i, K => match getO h i with
    | .lst o t l _ => K t l (o || t.flat)
    | _ => False
  | _, _ => False

def vfold (f : Int → Int → Int) (k : IntKind) : Int → List VV → (Int → Prop) → Prop
  | x, [], K => K x
  | x, .pl (.int k' y) :: l, K => if k = k' then vfold f k (f x y) l K else False
  | _, _ :: _, _ => False

def smaller (x y : Int) : Int := if y < x then y else x
def greater (x y : Int) : Int := if y > x then y else x

def sameTmp : Operand → Operand → Bool
  | .tmp a, .tmp b => a == b
  | .const (.int _ a), .const (.int _ b) => a == b
  | _, _ => false

/-- A slice of a list: from, to, and its room at most. -/
def vslice {α : Type} (ne : Prop) (l : List α) (lo hi mx : Option VV) (K : List α → Prop) : Prop :=
  let n : Int := l.length
  let go (a b : Int) : Prop := ck (ne ∧ 0 ≤ a ∧ a ≤ b ∧ b ≤ n) (K ((l.take b.toNat).drop a.toNat))
  let top (b : Int) : Prop := match mx with
    | none => True
    | some (.pl (.int _ m)) => b ≤ m ∧ m ≤ n
    | some _ => False
  let hi' (a : Int) : Prop := match hi with
    | none => if mx.isSome then False else go a n
    | some (.pl (.int _ b)) => if mx.isSome then ck (top b) (go a b) else go a b
    | some _ => False
  match lo with
  | none => hi' 0
  | some (.pl (.int _ a)) => hi' a
  | some _ => False

/-- Cells that are numbers of one kind. -/
def intsOf : List VV → Option (IntKind × List Int)
  | [] => none
  | [.pl (.int k x)] => some (k, [x])
  | .pl (.int k x) :: r => match intsOf r with
    | some (k', l) => if k = k' then some (k, x :: l) else none
    | none => none
  | _ => none
theorem intsOf_eq : ∀ {cs : List VV} {k : IntKind} {l : List Int}, intsOf cs = some (k, l) → cs = l.map fun x => .pl (.int k x)
  | [], _, _, h => by cases h
  | [.pl (.int k x)], _, _, h => by
    simp only [intsOf, Option.some.injEq, Prod.mk.injEq] at h
    obtain ⟨rfl, rfl⟩ := h
    rfl
  | .pl (.int k x) :: y :: r, k2, l2, h => by
    simp only [intsOf] at h
    split at h
    · rename_i k' l' e
      split at h
      · rename_i ek
        simp only [Option.some.injEq, Prod.mk.injEq] at h
        obtain ⟨rfl, rfl⟩ := h
        subst ek
        rw [intsOf_eq e]
        rfl
      · cases h
    · cases h

/-- Two cells of plain data, held against each other. -/
def vscal (d : Option TypeDesc) (x y : VV) (K : Bool → Prop) : Prop :=
  match d, x, y with
  | some (.int _), .pl (.int k a), .pl (.int k' b) => if k = k' then K (a == b) else False
  | some .bool, .pl (.bool a), .pl (.bool b) => K (a == b)
  | _, _, _ => False
def vcellsEq (P : Program) : List (TypeId × Nat) → List VV → List VV → (Bool → Prop) → Prop
  | [], _, _, K => K true
  | (t, o) :: r, xs, ys, K => match xs[o]?, ys[o]? with
    | some x, some y => vscal (P.underlying t) x y fun b => vcellsEq P r xs ys fun b' => K (b && b')
    | _, _ => False
/-- Two structs or arrays of plain data. -/
def vaggEq (P : Program) (op : BinOp) (t : TypeId) (xs ys : List VV) (K : VV → Prop) : Prop :=
  match eqParts P t, P.eqGuardType P.depth t, (P.info? t).isSome with
  | some l, false, true => match op with
    | .eql => vcellsEq P l xs ys fun b => K (.pl (.bool b))
    | .neq => vcellsEq P l xs ys fun b => K (.pl (.bool (!b)))
    | _ => False
  | _, _, _ => False

/-- A pointer of one's own. -/
def isPtr : VV → Bool
  | .ptr _ _ => true
  | _ => false
def intsAt (k : IntKind) (l : List Int) : Nat → Nat → List VV
  | _, 0 => []
  | i, n + 1 => .pl (.int k (l.getD i 0)) :: intsAt k l (i + 1) n
/-- A pointer that may be nil, or to what is read alone. -/
def rsp {α : Type} (l : List α) (A : Prop) (B : α → Prop) : Prop := ((∀ x, l ≠ [x]) → A) ∧ ∀ x, l = [x] → B x
/-- An element of a list; or numbers of a list as an array. -/
def velem (a : ATy) (o : Bool) : (T : Ty) → List T.den → Nat → Nat → (VV → Prop) → Prop
  | .int k, l, ix, off, K => match a with
    | .array n e es sz => if es = 1 ∧ sz = n ∧ off = 0 ∧ 0 < n then ck (ix + n ≤ List.length l) (K (.agg (intsAt k l ix n))) else vload (.array n e es sz) [.pl (.int k (l.getD ix (0 : Int)))] off K
    | a => vload a [.pl (.int k (l.getD ix (0 : Int)))] off K
  | .ref T, l, ix, off, K => match a with
    | .one => if off = 0 then rsp (l.getD ix []) (K (.pl (.pointer none))) fun y => K (.fptr o T [y] 0 0) else False
    | _ => False
  | T, l, ix, off, K => vload a (enc o T (l.getD ix T.dflt)) off K

/-- What an operation without a call gives; every bound that must hold stands in it. -/
def vprim (G : Cfg) (op : Op) (t : List (Nat × VV)) (h : List VO) (K : VV → List VO → Prop) : Prop :=
  match op with
  | .move x | .assign x => K (evV t x) h
  | .alloc ty => match azero G.P ty with
    | some cs => K (.ptr h.length 0) (h ++ [.box (cs.map VV.pl) false])
    | none => False
  | .box _ x => if (vcells (evV t x)).all okL = true then K (.ptr h.length 0) (h ++ [.box (vcells (evV t x)) false]) else False
  | .build ty parts => match aTy G.P ty, azero G.P ty with
    | .struct _ fs, some z => vfill (fun i => (fs[i]?).map fun f => (f.1, f.2.1)) (z.map VV.pl) (parts.toList.map fun p => (p.1, evV t p.2)) fun cs => K (.agg cs) h
    | .array _ _ es _, some z => vfill (fun i => some (i * es, es)) (z.map VV.pl) (parts.toList.map fun p => (p.1, evV t p.2)) fun cs => K (.agg cs) h
    | _, _ => False
  | .buildSlice ty len parts => match aTy G.P ty with
    | .slice e es _ => match azero G.P e, G.tt e with
      | some z, some T => if len * es ≤ 2 ^ 20 ∧ es = T.w then
          vfill (fun i => some (i * es, es)) ((rowOf z (len * es)).map VV.pl) (parts.toList.map fun p => (p.1, evV t p.2)) fun cs =>
            decN T len (cs.map (resolve h)) fun l o => K (.own h.length) (freeze h (cs.flatMap ownsL) ++ [.lst o T l false])
          else False
      | some z, none => if len * es ≤ 2 ^ 20 ∧ es = 1 then
          vfill (fun i => some (i * es, es)) ((rowOf z (len * es)).map VV.pl) (parts.toList.map fun p => (p.1, evV t p.2)) fun cs => if cs.length = len ∧ cs.all isPtr = true then K (.bs cs) h else False
          else False
      | _, _ => False
    | _ => False
  | .load ty a => match evV t a with
    | .ptr i off => match getO h i with
      | .box cs _ => vload (aTy G.P ty) cs off fun v => K v h
      | _ => False
    | .eptr i ix off => match getO h i with
      | .lst o T l _ => velem (aTy G.P ty) o T l ix off fun v => K v h
      | _ => False
    | .fptr o T l ix off => vload (aTy G.P ty) (enc o T (l.getD ix T.dflt)) off fun v => K v h
    | .bx cs off => vload (aTy G.P ty) cs off fun v => K v h
    | _ => False
  | .store ty a x => match evV t a with
    | .ptr i off => match getO h i with
      | .box cs false => if sizeA G.P ty = some (vcells (evV t x)).length ∧ off + (vcells (evV t x)).length ≤ cs.length ∧ (vcells (evV t x)).all okL = true ∧ vcells (evV t x) ≠ [] then K .undef (h.set i (.box (vset cs off (vcells (evV t x))) false)) else False
      | _ => False
    | .eptr i ix off => match getO h i with
      | .lst o (.ref T) l false => match evV t x with
        | .ptr j 0 => match getO h j with
          | .box cs _ => if sizeA G.P ty = some 1 ∧ off = 0 then
              (match getO (freeze h (j :: cs.flatMap ownsL)) i with
              | .lst _ _ _ false => dec T (cs.map (resolve h)) fun y _ _ => K .undef ((freeze h (j :: cs.flatMap ownsL)).set i (.lst false (.ref T) (l.set ix [y]) false))
              | _ => False)
            else False
          | _ => False
        | _ => False
      | .lst o T l false => if sizeA G.P ty = some (vcells (evV t x)).length ∧ off + (vcells (evV t x)).length ≤ T.w ∧ (vcells (evV t x)).all okL = true ∧ vcells (evV t x) ≠ [] then
          (match getO (freeze h ((vset (enc o T (l.getD ix T.dflt)) off (vcells (evV t x))).flatMap ownsL)) i with
          | .lst _ _ _ false => dec T ((vset (enc o T (l.getD ix T.dflt)) off (vcells (evV t x))).map (resolve h)) fun y o' _ =>
              K .undef ((freeze h ((vset (enc o T (l.getD ix T.dflt)) off (vcells (evV t x))).flatMap ownsL)).set i (.lst (o && o') T (l.set ix y) false))
          | _ => False)
        else False
      | _ => False
    | _ => False
  | .nilCheck x => match evV t x with
    | .ptr i off => K (.ptr i off) h
    | .eptr i ix off => K (.eptr i ix off) h
    | .fptr o T l ix off => K (.fptr o T l ix off) h
    | .bx l off => K (.bx l off) h
    | _ => False
  | .binOp op ty x y _ => match isNil (evV t y) with
    | true => match op with
      | .eql => vnil (G.P.underlying ty) (isConst x || isConst y) h (evV t x) (evV t y) fun b => K (.pl (.bool b)) h
      | .neq => vnil (G.P.underlying ty) (isConst x || isConst y) h (evV t x) (evV t y) fun b => K (.pl (.bool (!b))) h
      | _ => False
    | false => match evV t x, evV t y with
      | .pl a, .pl b => match isBool a, G.P.underlying ty with
        | true, some .bool => vbin op a b fun v => K (.pl v) h
        | false, _ => match isFl a with
          | true => vfl op a b fun v => K (.pl v) h
          | false => vbin op a b fun v => K (.pl v) h
        | _, _ => False
      | .agg xs, .agg ys => vaggEq G.P op ty xs ys fun v => K v h
      | _, _ => False
  | .unOp op _ x => match evV t x with
    | .pl a => vun op a fun v => K (.pl v) h
    | _ => False
  | .convert s d x => match G.P.underlying s, G.P.underlying d, evV t x with
    | some _, some (.int k), .pl (.int _ n) => K (.pl (.int k (k.wrap n))) h
    | some _, some .string, .pl (.string b) => K (.pl (.string b)) h
    | some _, some (.float k), .pl (.int _ n) => K (.pl (.float k (floatOfInt k n))) h
    | some _, some (.int k), .pl (.float s b) => got (floatToIntVal s b k) fun n => K (.pl (.int k n)) h
    | _, _, _ => False
  | .makeFunc fn first caps => match fn, first.toList with
    | .func f, [] => if (caps.toList.map (evV t)).all okC = true then K (.fn f (caps.toList.map (evV t))) h else False
    | _, _ => False
  | .makeSlice ty l c => match aTy G.P ty, evV t l with
    | .slice e es eb, .pl (.int _ n) => match azero G.P e, G.tt e with
      | some z, some T => if sameTmp l c = true ∧ es = T.w ∧ z.length = es ∧ 0 < eb then ck (0 ≤ n ∧ eb * n ≤ 70368744177664)
          (decN T 1 (z.map VV.pl) fun d o => K (.own h.length) (h ++ [.lst (o && (!G.hv || T.flat)) T (List.replicate n.toNat (d.headD T.dflt)) false]))
          else False
      | _, _ => False
    | _, _ => False
  | .slice ty x lo hi mx => match aTy G.P ty, evV t x with
    | .slice _ es _, .fz o T l => if es = T.w then vslice (l ≠ []) l (lo.map (evV t)) (hi.map (evV t)) (mx.map (evV t)) fun l' => K (.fz o T l') h else False
    | .slice _ es _, .own i => match getO h i with
      | .lst o T l _ => if es = T.w then vslice True l (lo.map (evV t)) (hi.map (evV t)) (mx.map (evV t)) fun l' => K (.fz o T l') (freeze h [i]) else False
      | _ => False
    | .str, .pl (.string s) => vslice True s.data.toList (lo.map (evV t)) (hi.map (evV t)) (mx.map (evV t)) fun l' => if mx.isSome then False else K (.pl (.string ⟨l'.toArray⟩)) h
    | .array n _ es _, .ptr i off => match getO h i, lo, hi, mx with
      | .box cs _, none, none, none => match intsOf ((cs.drop off).take n) with
        | some (k, l) => if es = 1 ∧ l.length = n ∧ 0 < n then K (.fz true (.int k) l) (freeze h [i]) else False
        | none => False
      | _, _, _, _ => False
    | _, _ => False
  | .fieldAddr s x f => match aTy G.P s with
    | .struct _ fs => match fs[f]? with
      | some (off, size, _) => if size = 0 then False else match evV t x with
        | .ptr i o => K (.ptr i (o + off)) h
        | .eptr i ix o => K (.eptr i ix (o + off)) h
        | .fptr b T l ix o => K (.fptr b T l ix (o + off)) h
        | .bx l o => K (.bx l (o + off)) h
        | _ => False
      | none => False
    | _ => False
  | .field s x f => match aTy G.P s, evV t x with
    | .struct _ fs, .agg cs => match fs[f]? with
      | some (off, size, some true) => if size = 0 ∨ ¬ off + size ≤ cs.length then False else K (.agg ((cs.drop off).take size)) h
      | some (off, size, some false) => if size = 0 then False else match cs[off]? with
        | some v => K v h
        | none => False
      | _ => False
    | _, _ => False
  | .indexAddr ty x ix => match aTy G.P ty, evV t x, evV t ix with
    | .slice _ es _, .fz o T l, .pl (.int _ i) => if es = T.w then ck (0 ≤ i ∧ i < l.length) (K (.fptr o T l i.toNat 0) h) else False
    | .slice _ es _, .own j, .pl (.int _ i) => match getO h j with
      | .lst _ T l _ => if es = T.w then ck (0 ≤ i ∧ i < l.length) (K (.eptr j i.toNat 0) h) else False
      | _ => False
    | .slice _ es _, .bs l, .pl (.int _ i) => if es = 1 ∧ 0 ≤ i ∧ i < l.length then K (.bx l i.toNat) h else False
    | .array n _ es _, .ptr j o, .pl (.int _ i) => if 0 ≤ i ∧ i < n then K (.ptr j (o + i.toNat * es)) h else False
    | _, _, _ => False
  | .index ty x ix => match aTy G.P ty, evV t x, evV t ix with
    | .array n e es _, .agg cs, .pl (.int _ i) => match intsOf cs with
      | some (k, l) => if n = l.length ∧ es = 1 ∧ aggK G.P e = some false then ck (0 ≤ i ∧ i < (n : Int)) (K (.pl (.int k (l.getD i.toNat 0))) h) else False
      | none => if 0 ≤ i ∧ i < n then (match aggK G.P e with
        | some true => if i.toNat * es + es ≤ cs.length then K (.agg ((cs.drop (i.toNat * es)).take es)) h else False
        | some false => match cs[i.toNat * es]? with
          | some v => K v h
          | none => False
        | none => False) else False
    | .str, .pl (.string s), .pl (.int _ i) => ck (0 ≤ i ∧ i < s.size) (K (.pl (.int .u8 ((s.data.toList.getD i.toNat 0).toNat : Int))) h)
    | _, _, _ => False
  | .sliceToArrayPointer ty x => match aTy G.P ty, evV t x with
    | .array n _ _ _, .own i => match getO h i with
      | .lst _ (.int _) l _ => if 0 < n then ck (n ≤ List.length l) (K (.eptr i 0 0) h) else False
      | _ => False
    | _, _ => False
  | .extract x i => match evV t x with
    | .tup l => match l[i]? with
      | some v => K v h
      | none => False
    | _ => False
  | .call c => match c.callee with
    | .builtin .len => match c.argTypes[0]?, c.args.toList with
      | some ty, [x] => match aTy G.P ty with
        | .array n _ _ _ => K (.pl (.int .i64 n)) h
        | .str => match evV t x with
          | .pl (.string s) => K (.pl (.int .i64 s.size)) h
          | _ => False
        | .slice _ _ _ => vlen h (evV t x) fun n => K (.pl (.int .i64 n)) h
        | _ => False
      | _, _ => False
    | .builtin .min => match c.args.toList.map (evV t) with
      | .pl (.int k x) :: l => vfold smaller k x l fun n => K (.pl (.int k n)) h
      | _ => False
    | .builtin .max => match c.args.toList.map (evV t) with
      | .pl (.int k x) :: l => vfold greater k x l fun n => K (.pl (.int k n)) h
      | _ => False
    | .builtin .complex => match c.args.toList.map (evV t) with
      | [.pl (.float k a), .pl (.float k' b)] => if k = k' then K (.pl (.complex k a b)) h else False
      | _ => False
    | .builtin .real => match c.args.toList.map (evV t) with
      | [.pl (.complex k a _)] => K (.pl (.float k a)) h
      | _ => False
    | .builtin .imag => match c.args.toList.map (evV t) with
      | [.pl (.complex k _ b)] => K (.pl (.float k b)) h
      | _ => False
    | .builtin .append => match c.argTypes[0]?, c.argTypes[1]?, c.args.toList with
      | some st, some xt, [x, y] => match aTy G.P st, aTy G.P xt with
        | .slice e es eb, .slice _ _ _ => vfrom h (evV t y) fun T l2 o2 => if es = T.w ∧ 0 < eb ∧ (azero G.P e).map List.length = some es then
            (match evV t x with
            | .own i => match getO h i with
              | .lst o T' l false => Ty.at T' T l fun l => ck ((l.length + l2.length) * eb ≤ 140737488355328) (K (.own h.length) (h.set i (.dead (someOf l2)) ++ [.lst (o && o2) T (l ++ l2) false]))
              | _ => False
            | .pl (.slice none 0 0) => ck (l2.length * eb ≤ 140737488355328) (K (.own h.length) (h ++ [.lst o2 T l2 false]))
            | _ => False)
            else False
        | _, _ => False
      | _, _, _ => False
    | _ => False
  | _ => False

end Go.Mach
