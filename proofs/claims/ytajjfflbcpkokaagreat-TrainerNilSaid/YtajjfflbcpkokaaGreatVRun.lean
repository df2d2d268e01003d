/- The value machine's way through a function's text. Plain definitions; no condition. -/
import Derived.Test.YtajjfflbcpkokaaGreatVDef
namespace Go.Mach

/-! ### Calls -/

/-- What a call gave: its new lists become mine. -/
def importL : List VV → List VO → List VV × List VO
  | [], h => ([], h)
  | v :: r, h => match v with
    | .nw t l => let p := importL r (h ++ [.lst true t l false]); (.own h.length :: p.1, p.2)
    | v => let p := importL r h; (v :: p.1, p.2)

def importS : List (Bool × List VV) → List VO → List VV × List VO
  | [], h => ([], h)
  | (g, cs) :: r, h =>
    let p := importL cs h
    let q := importS r p.2
    ((if g then .agg p.1 else p.1.headD .undef) :: q.1, q.2)

def wrapV : List VV → VV
  | [v] => v
  | vs => .tup vs

/-- What of mine is handed to a call. -/
def lend1I (h : List VO) : VV → List Nat
  | .agg l => l.flatMap ownsL
  | .ptr i _ => i :: (match getO h i with
    | .box cs _ => cs.flatMap ownsL
    | _ => [])
  | .bx l _ => l.flatMap ownsL
  | v => ownsL v
def lendI (h : List VO) : VV → List Nat
  | .fn _ l => l.flatMap (lend1I h)
  | v => lend1I h v
def isFz : VV → Bool
  | .fz _ _ _ => true
  | .fn _ _ => true
  | _ => false
/-- Is there among the results a list that may be of the arguments? -/
def slotFz (sl : List (Bool × List VV)) : Bool := sl.any fun p => p.2.any isFz

/-- Results that are nil just if there is nothing in them: told for each way. -/
def splitNz : List (Bool × List VV) → (List (Bool × List VV) → Prop) → Prop
  | [], k => k []
  | p :: r, k => match p with
    | (false, [.nw T l, .undef]) => nz l (splitNz r fun r' => k ((false, [.pl (.slice none 0 0)]) :: r')) (splitNz r fun r' => k ((false, [.nw T l]) :: r'))
    | p => splitNz r fun r' => k (p :: r')

def vcall (G : Cfg) (f : VV) (args : List VV) (h : List VO) (K : VV → List VO → Prop) : Prop :=
  match f with
  | .fn g caps => if goodFn G.P g then
      G.O g (args.map (lend h) ++ caps.map (lend h)) (fun r => splitNz r fun r => let p := importS r (match slotFz r with
        | true => freeze h ((args ++ caps).flatMap (lendI h))
        | false => h); K (wrapV p.1) p.2) else False
  | _ => False

def vstep (G : Cfg) (o : Oper) (s : VS) (k : VS → Prop) : Prop :=
  match o.op with
  | .call c => match c.callee with
    | .value f => vcall G (evV s.t f) (c.args.toList.map (evV s.t)) s.h fun v h => k (VS.set ⟨s.t, h⟩ o.dst v)
    | _ => vprim G o.op s.t s.h fun v h => k (VS.set ⟨s.t, h⟩ o.dst v)
  | _ => vprim G o.op s.t s.h fun v h => k (VS.set ⟨s.t, h⟩ o.dst v)

/-! ### Regions -/

def guardEq : Option (Nat × Bool) → Option (Nat × Bool) → Bool
  | none, none => true
  | some (i, a), some (j, b) => i == j && a == b
  | _, _ => false

def spanG (g : Option (Nat × Bool)) : List Oper → List Oper × List Oper
  | [] => ([], [])
  | o :: l => if guardEq o.guard g then ([], o :: l) else let r := spanG g l; (o :: r.1, r.2)

/-- Operations that leave what is one's own as it is. -/
def quietOp : Op → Bool
  | .move _ | .assign _ | .load .. | .binOp .. | .unOp .. | .fieldAddr .. | .field .. | .indexAddr .. | .index .. | .extract .. | .convert .. | .pick .. => true
  | .alloc _ | .box .. | .build .. | .buildSlice .. | .makeSlice .. | .slice .. | .sliceToArrayPointer .. | .nilCheck .. => true
  | .call c => match c.callee with
    | .builtin .len | .builtin .min | .builtin .max | .builtin .complex | .builtin .real | .builtin .imag => true
    | .value _ => true
    | _ => false
  | _ => false

/-- Operations that ask for nothing. -/
def totalOp : Op → Bool
  | .move _ | .assign _ | .load .. | .unOp .. | .fieldAddr .. | .field .. | .extract .. | .convert .. | .pick .. => true
  | .binOp b _ _ _ _ => match b with
    | .shl | .shr | .quo | .rem => false
    | _ => true
  | .call c => match c.callee with
    | .builtin .len | .builtin .min | .builtin .max | .builtin .complex | .builtin .real | .builtin .imag => true
    | _ => false
  | _ => false

/-- A group of operations that are left out: none of them runs. -/
def offOk (ops : Array Oper) (j : Nat) (w : Bool) : List Nat → List Oper → Bool
  | _, [] => true
  | known, o :: l => (match o.guard with
    | none => false
    | some (j', w') => (j' == j && w' == w) || (match (ops[j']?).bind (·.dst) with
      | some x => known.contains x
      | none => false)) && offOk ops j w (match o.dst with
        | some x => x :: known
        | none => known) l

def undefs : List Oper → List (Nat × VV) → List (Nat × VV)
  | [], t => t
  | o :: l, t => match o.dst with
    | some d => (d, .undef) :: undefs l t
    | none => undefs l t

/-- What may have been set: a place in a box of one's own, or nothing. -/
def maybeV (h : Nat) : VV → VV
  | .ptr i off => if i < h then .mptr i off else .undef
  | _ => .undef
def maybes (h : Nat) : List Oper → List (Nat × VV) → List (Nat × VV) → List (Nat × VV)
  | [], _, t => t
  | o :: l, t2, t => match o.dst with
    | some d => (d, maybeV h (lookV t2 d)) :: maybes h l t2 t
    | none => maybes h l t2 t

def boolOf (v : VV) (K : Bool → Prop) : Prop :=
  match v with
  | .pl (.bool b) => K b
  | _ => False

def constBool : Operand → Option Bool
  | .const (.bool b) => some b
  | _ => none

def apartD (d : Nat) (b : Oper) : Bool :=
  match b.dst with
  | some x => x != d
  | none => true

def vops (G : Cfg) (ops : Array Oper) : Nat → Option (Nat × Bool) → List Oper → VS → (VS → Prop) → Prop
  | 0, _, _, _, _ => False
  | _ + 1, _, [], s, k => k s
  | n + 1, g, o :: rest, s, k =>
    match guardEq o.guard g with
    | true => vstep G o s fun s' => vops G ops n g rest s' k
    | false => match spanG g (o :: rest), o.guard with
      | (body, res :: rest'), some (j, w) =>
        match (ops[j]?).bind (·.dst), res.op, res.dst with
        | some d, .pick (.tmp c) x y, some r =>
          match c == d && r != d && body.all (fun b => apartD d b && quietOp b.op) && offOk ops j w [] body && constBool (if w then y else x) == some (!w), lookV s.t d with
          | true, .pl (.bool b) =>
            match body.all (fun b => totalOp b.op) with
            | true => vops G ops n (some (j, w)) body s fun s2 => boolOf (evV s2.t (if w then x else y)) fun v =>
                vops G ops n g rest' ⟨(r, .pl (.bool (if w then b && v else b || v))) :: maybes s.h.length body s2.t s.t, s.h⟩ k
            | false => jn (fun v => vops G ops n g rest' ⟨(r, .pl (.bool v)) :: undefs body s.t, s.h⟩ k) fun J =>
                if b = true then (if w = true then vops G ops n (some (j, w)) body s fun s2 => boolOf (evV s2.t x) J else J true)
                else (if w = true then J false else vops G ops n (some (j, w)) body s fun s2 => boolOf (evV s2.t y) J)
          | _, _ => False
        | _, _, _ => False
      | _, _ => False

/-- Where a value leads to: one's own (its number), or to what is read alone. -/
def locsV : VV → Option (List (Option Nat))
  | .own i | .ptr i _ | .eptr i _ _ | .mptr i _ => some [some i]
  | .fptr _ _ _ _ _ | .bx _ _ => some [none]
  | .pl _ | .agg _ | .tup _ | .fn _ _ => some []
  | _ => none

def locsAll : List VV → Option (List (Option Nat))
  | [] => some []
  | v :: l => match locsV v, locsAll l with
    | some a, some b => some (a ++ b)
    | _, _ => none

def accV (op : Op) (t : List (Nat × VV)) : Option (List (Option Nat)) :=
  match op with
  | .load _ a => locsV (evV t a)
  | .store _ a _ => locsV (evV t a)
  | .convert _ _ x => locsV (evV t x)
  | .call c => match c.callee with
    | .builtin .append | .builtin .copy => locsAll (c.args.toList.map (evV t))
    | _ => some []
  | _ => some []

def wrV (op : Op) (t : List (Nat × VV)) : Option (List (Option Nat)) :=
  match op with
  | .store _ a _ => locsV (evV t a)
  | .convert s d x => if s = d then locsV (evV t x) else some []
  | .call c => match c.callee with
    | .builtin .append | .builtin .copy => match c.args.toList with
      | x :: _ => locsV (evV t x)
      | [] => some []
    | _ => some []
  | _ => some []

def apartLoc (h : List VO) : Option Nat → Option Nat → Bool
  | some i, some j => i != j && ((boxB (getO h i) || boxB (getO h j)) || ownB (getO h i) && ownB (getO h j))
  | some i, none => ownB (getO h i)
  | none, some j => ownB (getO h j)
  | none, none => false
where
  ownB : VO → Bool
    | .box _ fr => !fr
    | .lst _ _ _ fr => !fr
    | .dead b => b
  boxB : VO → Bool
    | .box _ _ => true
    | _ => false

def apartV (h : List VO) : Option (List (Option Nat)) → Option (List (Option Nat)) → Bool
  | some [], _ => true
  | _, some [] => true
  | some a, some b => a.all fun x => b.all fun y => apartLoc h x y
  | _, _ => false

def clashV (ops : Array Oper) (s : VS) (p : Nat × Nat) : Bool :=
  match ops[p.1]?, ops[p.2]? with
  | some oi, some oj => apartV s.h (wrV oi.op s.t) (accV oj.op s.t) && apartV s.h (accV oi.op s.t) (wrV oj.op s.t)
  | _, _ => false

def vregion0 (G : Cfg) (ops : Array Oper) (draw : Bool) (s : VS) (k : VS → Prop) : Prop :=
  match draw with
  | false => vops G ops (ops.size + 1) none ops.toList s k
  | true => match drawOk ops (befores ops.toList #[]) && (clashes ops (befores ops.toList #[])).all (fun p => lasting ops p.1 && lasting ops p.2) with
    | true => vops G ops (ops.size + 1) none ops.toList s fun s' => match (clashes ops (befores ops.toList #[])).all (clashV ops s') with
      | true => k s'
      | false => False
    | false => False

def lastOp : List Oper → Option (List Oper × Oper)
  | [] => none
  | o :: l => match l, lastOp l with
    | [], _ => some ([], o)
    | _ :: _, some (p, x) => some (o :: p, x)
    | _ :: _, none => none

/-- A call at a region's end, with all else done ahead of it. -/
def endCall (ops : Array Oper) (draw : Bool) : Option (List Oper × Oper × Operand × List Operand) :=
  match lastOp ops.toList with
  | some (pre, o) => match o.guard, o.op with
    | none, .call c => match c.callee with
      | .value f => match draw with
        | false => some (pre, o, f, c.args.toList)
        | true => match drawOk ops (befores ops.toList #[]) && (clashes ops (befores ops.toList #[])).isEmpty && apartCall ops (befores ops.toList #[]) pre.length with
          | true => some (pre, o, f, c.args.toList)
          | false => none
      | _ => none
    | _, _ => none
  | none => none

/-- A call in a region's midst, by its name. -/
def midAt (B : FuncId → Bool) (p : List Oper) : List Oper → Option (List Oper × Oper × FuncId × List Operand × List Oper)
  | [] => none
  | o :: r => match o.guard, o.op with
    | none, .call c => match c.callee with
      | .value (.func g) => match B g with
        | true => some (p, o, g, c.args.toList, r)
        | false => midAt B (p ++ [o]) r
      | _ => midAt B (p ++ [o]) r
    | _, _ => midAt B (p ++ [o]) r
def midCall (B : FuncId → Bool) (ops : Array Oper) (draw : Bool) : Option (List Oper × Oper × FuncId × List Operand × List Oper) :=
  match midAt B [] ops.toList with
  | none => none
  | some (p, o, g, as, r) => match draw with
    | false => some (p, o, g, as, r)
    | true => match drawOk ops (befores ops.toList #[]) && (clashes ops (befores ops.toList #[])).all (fun q => lasting ops q.1 && lasting ops q.2) && apartCall ops (befores ops.toList #[]) p.length with
      | true => some (p, o, g, as, r)
      | false => none

def vregion (G : Cfg) (ops : Array Oper) (draw : Bool) (s : VS) (k : VS → Prop) : Prop :=
  match G.I with
  | none => vregion0 G ops draw s k
  | some J => match endCall ops draw with
    | none => match midCall J.B ops draw with
      | none => vregion0 G ops draw s k
      | some (pre, o, g, args, post) => vops G ops (ops.size + 1) none pre s fun s1 => match goodFn G.P g with
        | true => J.run g (args.map (evV s1.t)) s1 fun v s2 => vops G ops (ops.size + 1) none post (VS.set s2 o.dst v) fun s' => match !draw || (clashes ops (befores ops.toList #[])).all (clashV ops s') with
          | true => k s'
          | false => False
        | false => False
    | some (pre, o, f, args) => vops G ops (ops.size + 1) none pre s fun s1 => match evV s1.t f with
      | .fn g caps => match J.B g && goodFn G.P g with
        | true => J.run g (args.map (evV s1.t) ++ caps) s1 fun v s2 => k (VS.set s2 o.dst v)
        | false => vstep G o s1 k
      | _ => vstep G o s1 k

/-! ### A store into a list that lies within another one: what is of that kind may be otherwise -/

def hasK (kd : IntKind) : Ty → Bool
  | .int k => decide (k = kd)
  | .slc t => hasK kd t
  | .ref t => hasK kd t
  | .pair a b => hasK kd a || hasK kd b
  | _ => false

/-- The same, but that numbers of a kind may have become another one. -/
def SE (kd : IntKind) (v : Int) : (T : Ty) → T.den → T.den → Prop
  | .int k, x, y => y = x ∨ (k = kd ∧ y = v)
  | .slc t, l, m => m.length = l.length ∧ ∀ (i : Nat) (x y : t.den), l[i]? = some x → m[i]? = some y → SE kd v t x y
  | .ref t, l, m => m.length = l.length ∧ ∀ (i : Nat) (x y : t.den), l[i]? = some x → m[i]? = some y → SE kd v t x y
  | .pair a b, x, y => SE kd v a x.1 y.1 ∧ SE kd v b x.2 y.2
  | .bool, x, y => y = x
  | .str, x, y => y = x
  | .unit, _, _ => True
  | .flt, x, y => y = x
  | .cpx, x, y => y = x

def hvL (kd : IntKind) (v : Int) : VV → (VV → Prop) → Prop
  | .fz o T l, K => match hasK kd T with
    | true => ∀ m : (Ty.slc T).den, SE kd v (.slc T) l m → K (.fz o T m)
    | false => K (.fz o T l)
  | .pl x, K => K (.pl x)
  | .own i, K => K (.own i)
  | .ptr i o, K => K (.ptr i o)
  | .hof i, K => K (.hof i)
  | _, K => K .undef
def hvLs (kd : IntKind) (v : Int) : List VV → (List VV → Prop) → Prop
  | [], K => K []
  | x :: r, K => hvL kd v x fun y => hvLs kd v r fun l => K (y :: l)
def hvT (kd : IntKind) (v : Int) (t : List (Nat × VV)) : List Nat → (List (Nat × VV) → Prop) → Prop
  | [], K => K []
  | d :: r, K => hvL kd v (lookV t d) fun y => hvT kd v t r fun l => K ((d, y) :: l)
def hvO (kd : IntKind) (v : Int) : VO → (VO → Prop) → Prop
  | .box cs false, K => hvLs kd v cs fun cs => K (.box cs false)
  | .lst o T l fr, K => match hasK kd T with
    | true => ∀ m : (Ty.slc T).den, SE kd v (.slc T) l m → K (.lst o T m fr)
    | false => K (.lst o T l fr)
  | .dead b, K => K (.dead b)
  | _, _ => False
def hvH (kd : IntKind) (v : Int) : List VO → (List VO → Prop) → Prop
  | [], K => K []
  | o :: r, K => hvO kd v o fun o => hvH kd v r fun l => K (o :: l)
def hvS (kd : IntKind) (v : Int) (live : List Nat) (s : VS) (K : VS → Prop) : Prop := hvT kd v s.t live fun t => hvH kd v s.h fun h => K ⟨t, h⟩

/-- A store at a region's end, with all else done ahead of it. -/
def endStore (ops : Array Oper) (draw : Bool) : Option (List Oper × Oper × TypeId × Operand × Operand) :=
  match lastOp ops.toList with
  | some (pre, o) => match o.guard, o.dst, o.op with
    | none, none, .store ty a x => match draw with
      | false => some (pre, o, ty, a, x)
      | true => match drawOk ops (befores ops.toList #[]) && (clashes ops (befores ops.toList #[])).isEmpty with
        | true => some (pre, o, ty, a, x)
        | false => none
    | _, _, _ => none
  | none => none

def vregionH (G : Cfg) (ops : Array Oper) (draw : Bool) (live : List Nat) (s : VS) (k : VS → Prop) : Prop :=
  match G.hv with
  | false => vregion G ops draw s k
  | true => match endStore ops draw with
    | none => vregion G ops draw s k
    | some (pre, o, ty, a, x) => vops G ops (ops.size + 1) none pre s fun s1 => match evV s1.t a, evV s1.t x with
      | .fptr true (.int kd) _ _ 0, .pl (.int kd' v) => if kd = kd' ∧ sizeA G.P ty = some 1 then hvS kd v live s1 k else False
      | _, _ => vstep G o s1 k

/-! ### A state, cleaned -/

def reachF : Nat → List VO → List Nat → List Nat → List Nat
  | 0, _, _, acc => acc
  | _ + 1, _, [], acc => acc
  | n + 1, h, i :: todo, acc =>
    match acc.contains i with
    | true => reachF n h todo acc
    | false => reachF n h (todo ++ (match getO h i with
        | .box cs _ => cs.flatMap idsL
        | _ => [])) (acc ++ [i])

def indexOf' (i : Nat) : List Nat → Nat → Option Nat
  | [], _ => none
  | j :: l, n => if i = j then some n else indexOf' i l (n + 1)

def renL (ids : List Nat) : VV → VV
  | .own i => match indexOf' i ids 0 with
    | some j => .own j
    | none => .undef
  | .ptr i off => match indexOf' i ids 0 with
    | some j => .ptr j off
    | none => .undef
  | .eptr i ix off => match indexOf' i ids 0 with
    | some j => .eptr j ix off
    | none => .undef
  | .pl v => .pl v
  | .er b => .er b
  | .fz o t l => .fz o t l
  | .fptr o t l ix off => .fptr o t l ix off
  | .hof i => .hof i
  | _ => .undef
def ren1 (ids : List Nat) : VV → VV
  | .agg l => .agg (l.map (renL ids))
  | .bx l off => .bx (l.map (renL ids)) off
  | .bs l => .bs (l.map (renL ids))
  | v => renL ids v
def ren2 (ids : List Nat) : VV → VV
  | .tup l => .tup (l.map (ren1 ids))
  | .fn f l => .fn f (l.map (ren1 ids))
  | v => ren1 ids v
def renO (ids : List Nat) : VO → VO
  | .box cs fr => .box (cs.map (renL ids)) fr
  | o => o

/-- Only the slots that are read later, only the objects that they lead to, numbered anew. -/
def cleanV (live : List Nat) (s : VS) : List VV × List VO :=
  let vs := live.map (lookV s.t)
  let ids := reachF (2 * s.h.length + 40) s.h (vs.flatMap ids2) []
  (vs.map (ren2 ids), ids.map fun i => renO ids (getO s.h i))

/-! ### Shapes of states -/

inductive Lf
  | int (k : IntKind)
  | bool
  | str
  | flt
  | cpx
  | fz (o : Bool) (t : Ty)
  | cst (v : VV)
  | fp (o : Bool) (t : Ty)

@[reducible] def Lf.den : Lf → Type
  | .int _ => Int
  | .bool => Bool
  | .str => ByteArray
  | .flt => Nat
  | .cpx => Nat × Nat
  | .fz _ t => List t.den
  | .cst _ => Unit
  | .fp _ t => t.den

/-- What a function value has with it. -/
inductive Cp
  | lf (x : Lf)
  | agg (l : List Lf)
  | bx (l : List Lf)

inductive Sh
  | lf (x : Lf)
  | agg (l : List Lf)
  | bx (l : List Lf)
  | fn (g : FuncId) (l : List Cp)

/-! Short names -/
abbrev lI : Lf := .int .i64
abbrev lB : Lf := .bool
abbrev lZ (t : Ty) : Lf := .fz false t
abbrev sI : Sh := .lf (.int .i64)
abbrev sB : Sh := .lf .bool
abbrev sZ (t : Ty) : Sh := .lf (.fz false t)
abbrev sC (v : VV) : Sh := .lf (.cst v)
@[reducible] def vI (n : Int) : VV := .pl (.int .i64 n)
@[reducible] def vB (b : Bool) : VV := .pl (.bool b)
@[reducible] def vK (k : IntKind) (n : Int) : VV := .pl (.int k n)
@[reducible] def vZ (t : Ty) (l : List t.den) : VV := .fz false t l
@[reducible] def vT (t : Ty) (l : List t.den) : VV := .fz true t l
abbrev QT := List (Bool × List VV) → Prop

inductive OSh
  | box (l : List Lf) (fr : Bool)
  | lst (o : Bool) (t : Ty) (fr : Bool)
  | dead

@[reducible] def denL : List Lf → Type
  | [] => Unit
  | x :: l => x.den × denL l

@[reducible] def Cp.den : Cp → Type
  | .lf x => x.den
  | .agg l => denL l
  | .bx l => denL l

@[reducible] def denC : List Cp → Type
  | [] => Unit
  | x :: l => x.den × denC l

@[reducible] def Sh.den : Sh → Type
  | .lf x => x.den
  | .agg l => denL l
  | .bx l => denL l
  | .fn _ l => denC l

@[reducible] def denS : List Sh → Type
  | [] => Unit
  | x :: l => x.den × denS l

@[reducible] def OSh.den : OSh → Type
  | .box l _ => denL l
  | .lst _ t _ => List t.den
  | .dead => Unit

@[reducible] def denO : List OSh → Type
  | [] => Unit
  | x :: l => x.den × denO l

def packF : (x : Lf) → x.den → VV
  | .int k, n => .pl (.int k n)
  | .bool, b => .pl (.bool b)
  | .str, s => .pl (.string s)
  | .flt, x => .pl (.float .f64 x)
  | .cpx, x => .pl (.complex .f64 x.1 x.2)
  | .fz o t, l => .fz o t l
  | .cst v, _ => v
  | .fp o t, x => .fptr o t [x] 0 0
def packL : (l : List Lf) → denL l → List VV
  | [], _ => []
  | x :: l, d => packF x d.1 :: packL l d.2
def packCp : (x : Cp) → x.den → VV
  | .lf x, d => packF x d
  | .agg l, d => .agg (packL l d)
  | .bx l, d => .bx (packL l d) 0
def packC : (l : List Cp) → denC l → List VV
  | [], _ => []
  | x :: l, d => packCp x d.1 :: packC l d.2
def packSh : (x : Sh) → x.den → VV
  | .lf x, d => packF x d
  | .agg l, d => .agg (packL l d)
  | .bx l, d => .bx (packL l d) 0
  | .fn g l, d => .fn g (packC l d)
def packS : (l : List Sh) → denS l → List VV
  | [], _ => []
  | x :: l, d => packSh x d.1 :: packS l d.2
def packOb : (x : OSh) → x.den → VO
  | .box l fr, d => .box (packL l d) fr
  | .lst o t fr, d => .lst o t d fr
  | .dead, _ => .dead false
def packO : (l : List OSh) → denO l → List VO
  | [], _ => []
  | x :: l, d => packOb x d.1 :: packO l d.2

/-- Two values without a plain part, the same. -/
def sameL : VV → VV → Bool
  | .own i, .own j => i == j
  | .ptr i o, .ptr j o' => i == j && o == o'
  | .undef, .undef => true
  | .hof i, .hof j => i == j
  | .pl (.int k a), .pl (.int k' b) => decide (k = k') && a == b
  | .pl (.bool a), .pl (.bool b) => a == b
  | .pl (.slice none a b), .pl (.slice none c d) => a == c && b == d
  | .pl .nilFunc, .pl .nilFunc => true
  | .pl (.pointer none), .pl (.pointer none) => true
  | _, _ => false
def sameLs : List VV → List VV → Bool
  | [], [] => true
  | a :: l, b :: r => sameL a b && sameLs l r
  | _, _ => false
def sameV : VV → VV → Bool
  | .fn f l, .fn g r => f == g && sameLs l r
  | a, b => sameL a b

def unF (x : Lf) (v : VV) (K : x.den → Prop) : Prop :=
  match x with
  | .int k => match v with
    | .pl (.int k' n) => if k = k' then K n else False
    | _ => False
  | .bool => match v with
    | .pl (.bool b) => K b
    | _ => False
  | .str => match v with
    | .pl (.string s) => K s
    | _ => False
  | .flt => match v with
    | .pl (.float .f64 x) => K x
    | _ => False
  | .cpx => match v with
    | .pl (.complex .f64 a b) => K (a, b)
    | _ => False
  | .fz o t => match v with
    | .fz o' t' l => if o = o' then Ty.at t' t l K else False
    | _ => False
  | .cst c => if sameV c v = true then K () else False
  | .fp o t => match v with
    | .fptr o' t' l 0 0 => if o = o' then Ty.at t' t l fun l => (match l with
      | [x] => K x
      | _ => False) else False
    | _ => False
def unL : (l : List Lf) → List VV → (denL l → Prop) → Prop
  | [], vs, K => match vs with
    | [] => K ()
    | _ => False
  | x :: l, vs, K => match vs with
    | v :: r => unF x v fun a => unL l r fun b => K (a, b)
    | [] => False
def unCp (x : Cp) (v : VV) (K : x.den → Prop) : Prop :=
  match x with
  | .lf x => unF x v K
  | .agg l => match v with
    | .agg cs => unL l cs K
    | _ => False
  | .bx l => match v with
    | .bx cs 0 => unL l cs K
    | _ => False
def unC : (l : List Cp) → List VV → (denC l → Prop) → Prop
  | [], vs, K => match vs with
    | [] => K ()
    | _ => False
  | x :: l, vs, K => match vs with
    | v :: r => unCp x v fun a => unC l r fun b => K (a, b)
    | [] => False
def unSh (x : Sh) (v : VV) (K : x.den → Prop) : Prop :=
  match x with
  | .lf x => unF x v K
  | .agg l => match v with
    | .agg cs => unL l cs K
    | _ => False
  | .bx l => match v with
    | .bx cs 0 => unL l cs K
    | _ => False
  | .fn g l => match v with
    | .fn g' cs => if g = g' then unC l cs K else False
    | _ => False
def unS : (l : List Sh) → List VV → (denS l → Prop) → Prop
  | [], vs, K => match vs with
    | [] => K ()
    | _ => False
  | x :: l, vs, K => match vs with
    | v :: r => unSh x v fun a => unS l r fun b => K (a, b)
    | [] => False
def unOb (x : OSh) (v : VO) (K : x.den → Prop) : Prop :=
  match x with
  | .box l fr => match v with
    | .box cs fr' => if fr = fr' then unL l cs K else False
    | _ => False
  | .lst o t fr => match v with
    | .lst o' t' l fr' => if o = o' ∧ fr = fr' then Ty.at t' t l K else False
    | _ => False
  | .dead => match v with
    | .dead false => K ()
    | _ => False
def unO : (l : List OSh) → List VO → (denO l → Prop) → Prop
  | [], vs, K => match vs with
    | [] => K ()
    | _ => False
  | x :: l, vs, K => match vs with
    | v :: r => unOb x v fun a => unO l r fun b => K (a, b)
    | [] => False

/-! ### Code -/

def zipT : List Nat → List VV → List (Nat × VV)
  | d :: ds, v :: vs => (d, v) :: zipT ds vs
  | _, _ => []

/-- A node of the text at which the state is told by its shape, and what must hold there. -/
structure Ent where
  live : List Nat
  sh : List Sh
  ob : List OSh
  P : denS sh × denO ob → (AExit → VS → Prop) → Prop

/-- The state of a shape. -/
def stOf (live : List Nat) (sh : List Sh) (ob : List OSh) (x : denS sh × denO ob) : VS := ⟨zipT live (packS sh x.1), packO ob x.2⟩

/-- From this state one of that shape is made. -/
def toSh (live : List Nat) (sh : List Sh) (ob : List OSh) (s : VS) (K : denS sh × denO ob → Prop) : Prop :=
  let c := cleanV live s
  unS sh c.1 fun a => unO ob c.2 fun b => K (a, b)

def Ent.run (E : Ent) (s : VS) (k : AExit → VS → Prop) : Prop := toSh E.live E.sh E.ob s fun x => E.P x k

/-- The least of what each round keeps. -/
def Loop {S : Type} (B : S → (S → Prop) → Prop) (s : S) : Prop := ∀ X : S → Prop, (∀ s, B s X → X s) → X s

abbrev Tab := Nat → Option Ent
/-- At a node's end: a nil slice (of a slot, of a box's cell) told as a list of mine, or a list told as read alone. -/
structure Co where
  d : Nat
  cell : Option Nat
  fz : Bool
  T : Ty

/-- Which slots a node's end keeps. -/
abbrev Ends := Nat → Option (List Co × List Nat)

def conv (fz : Bool) (T : Ty) (h : List VO) (v : VV) : Option (VV × List VO) :=
  match fz, v with
  | false, .pl (.slice none 0 0) => some (.own h.length, h ++ [.lst true T [] false])
  | true, .pl (.slice none 0 _) => some (.fz false T [], h)
  | true, .own i => match getO h i with
    | .lst _ t l _ => some (.fz false t l, freeze h [i])
    | _ => none
  | true, .fz _ t l => some (.fz false t l, h)
  | _, _ => none

def co1 (s : VS) (c : Co) : VS :=
  match c.cell with
  | none => match conv c.fz c.T s.h (lookV s.t c.d) with
    | some (v, h) => ⟨(c.d, v) :: s.t, h⟩
    | none => s
  | some q => match lookV s.t c.d with
    | .ptr i _ => match getO s.h i with
      | .box cs fr => match cs[q]? with
        | some u => match conv c.fz c.T s.h u with
          | some (v, h) => ⟨s.t, h.set i (.box (cs.set q v) fr)⟩
          | none => s
        | none => s
      | _ => s
    | _ => s

def coAll : List Co → VS → VS
  | [], s => s
  | c :: cs, s => coAll cs (co1 s c)


def cutE (ct : Tab) (n : Nat) (f : VS → (AExit → VS → Prop) → Prop) (s : VS) (k : AExit → VS → Prop) : Prop :=
  match ct n with
  | some E => E.run s k
  | none => f s k

def tidy (live : List Nat) (s : VS) : VS := ⟨zipT live (cleanV live s).1, (cleanV live s).2⟩

def tidyE (en : Ends) (n : Nat) (s : VS) : VS :=
  match en n with
  | some (cs, l) => tidy l (coAll cs s)
  | none => s

/-! Which slots are read later: reckoned. -/
def insS (x : Nat) : List Nat → List Nat
  | [] => [x]
  | y :: l => if x < y then x :: y :: l else if x = y then y :: l else y :: insS x l
def uniS (a b : List Nat) : List Nat := a.foldr insS b
def delS (x : Nat) (l : List Nat) : List Nat := l.filter fun y => !(Nat.beq y x)
def tmpS (o : Operand) (l : List Nat) : List Nat :=
  match o with
  | .tmp i => insS i l
  | _ => l
def regLive (ops : Array Oper) : List Oper → List Nat → List Nat
  | [], out => out
  | o :: l, out => (match o.guard with
    | some (j, _) => (match (ops[j]?).bind (·.dst) with
      | some d => insS d
      | none => id)
    | none => id) (o.op.operands.toList.foldr tmpS (match o.dst with
      | some d => delS d (regLive ops l out)
      | none => regLive ops l out))
def lookS (n : Nat) : List (Nat × List Nat) → List Nat
  | [] => []
  | (i, l) :: r => if i = n then l else lookS n r
def subS (a b : List Nat) : Bool := a.all fun x => b.any fun y => Nat.beq y x
def fixS (f : List Nat → List Nat) : Nat → List Nat → List Nat
  | 0, L => L
  | k + 1, L => (fun N => match subS N L with
    | true => L
    | false => fixS f k (uniS N L)) (f L)
def lvC (res : List Nat) : Code → Nat → List Nat → List (Nat × List Nat) → List Nat × List (Nat × List Nat)
  | .region _ ops _, n, out, _ => (regLive ops ops.toList out, [(n, out)])
  | .seq a b, n, out, ex => match lvC res b (2 * n + 1) out ex with
    | (lb, tb) => match lvC res a (2 * n) lb ex with
      | (la, ta) => (la, ta ++ tb)
  | .cond c a b, n, out, ex => match lvC res a (2 * n) out ex, lvC res b (2 * n + 1) out ex with
    | (la, ta), (lb, tb) => (tmpS c (uniS la lb), ta ++ tb)
  | .block id b, n, out, ex => lvC res b (2 * n) out ((id, out) :: ex)
  | .loop b, n, _, ex => (fun L => (L, (n, L) :: (lvC res b (2 * n) L ex).2)) (fixS (fun L => (lvC res b (2 * n) L ex).1) 20 [])
  | .exit id, n, _, ex => (lookS id ex, [(n, lookS id ex)])
  | .ret, n, _, _ => (res, [(n, res)])
  | _, n, out, _ => (out, [(n, out)])
def findS (n : Nat) : List (Nat × List Nat) → Option (List Nat)
  | [] => none
  | (i, l) :: r => if i = n then some l else findS n r
def coS (n : Nat) : List (Nat × List Co) → List Co
  | [] => []
  | (i, l) :: r => if i = n then l else coS n r
/-- Which slots each node's end keeps, of a function's text, its results' slots, and what is told otherwise. -/
def mkEn (b : Code) (res : List Nat) (cos : List (Nat × List Co)) : Ends := fun n => match findS n (lvC res b 1 res []).2 with
  | some l => some (coS n cos, l)
  | none => none

/-- So many rounds at most. -/
def unr {S : Type} (B : S → (S → Prop) → Prop) : Nat → S → Prop
  | 0, _ => False
  | n + 1, s => B s (unr B n)

/-- A loop's round. -/
def LB (k : AExit → VS → Prop) (en : Ends) (n : Nat) (b : VS → (AExit → VS → Prop) → Prop) (s : VS) (nx : VS → Prop) : Prop :=
  b s fun e s' => match e with
    | .normal => nx (tidyE en n s')
    | e => k e s'

def liveOf (en : Ends) (n : Nat) : List Nat :=
  match en n with
  | some (_, l) => l
  | none => []
def vwp (G : Cfg) (ct : Tab) (en : Ends) : Code → Nat → VS → (AExit → VS → Prop) → Prop
  | .skip, n, s, k => k .normal (tidyE en n s)
  | .label _, n, s, k => k .normal (tidyE en n s)
  | .region _ ops draw, n, s, k => vregionH G ops draw (liveOf en n) s fun s' => k .normal (tidyE en n s')
  | .seq a b, n, s, k => cutE ct (2 * n) (vwp G ct en a (2 * n)) s fun e s' => match e with
    | .normal => cutE ct (2 * n + 1) (vwp G ct en b (2 * n + 1)) s' k
    | e => k e s'
  | .cond c x y, n, s, k => match evV s.t c with
    | .pl (.bool b) => if b = true then cutE ct (2 * n) (vwp G ct en x (2 * n)) s k else cutE ct (2 * n + 1) (vwp G ct en y (2 * n + 1)) s k
    | _ => False
  | .block id b, n, s, k => cutE ct (2 * n) (vwp G ct en b (2 * n)) s fun e s' => match e with
    | .exit id' => k (if id' = id then .normal else .exit id') s'
    | e => k e s'
  | .loop b, n, s, k => match G.un with
    | 0 => Loop (LB k en n (cutE ct (2 * n) (vwp G ct en b (2 * n)))) (tidyE en n s)
    | u + 1 => unr (LB k en n (cutE ct (2 * n) (vwp G ct en b (2 * n)))) (u + 1) (tidyE en n s)
  | .exit id, n, s, k => k (.exit id) (tidyE en n s)
  | .ret, n, s, k => k .ret (tidyE en n s)
  | _, _, _, _ => False

/-! ### Arguments -/

def unAF (x : Lf) (v : VV) (K : x.den → Prop) : Prop :=
  match x with
  | .fz false t => match v with
    | .fz false t' l => Ty.at t' t l K
    | .pl (.slice none 0 _) => K []
    | _ => False
  | x => unF x v K
def unAL : (l : List Lf) → List VV → (denL l → Prop) → Prop
  | [], vs, K => match vs with
    | [] => K ()
    | _ => False
  | x :: l, vs, K => match vs with
    | v :: r => unAF x v fun a => unAL l r fun b => K (a, b)
    | [] => False
def unACp (x : Cp) (v : VV) (K : x.den → Prop) : Prop :=
  match x with
  | .lf x => unAF x v K
  | .agg l => match v with
    | .agg cs => unAL l cs K
    | _ => False
  | .bx l => match v with
    | .bx cs 0 => unAL l cs K
    | _ => False
def unAC : (l : List Cp) → List VV → (denC l → Prop) → Prop
  | [], vs, K => match vs with
    | [] => K ()
    | _ => False
  | x :: l, vs, K => match vs with
    | v :: r => unACp x v fun a => unAC l r fun b => K (a, b)
    | [] => False
def unASh (x : Sh) (v : VV) (K : x.den → Prop) : Prop :=
  match x with
  | .lf x => unAF x v K
  | .agg l => match v with
    | .agg cs => unAL l cs K
    | _ => False
  | .bx l => match v with
    | .bx cs 0 => unAL l cs K
    | _ => False
  | .fn g l => match v with
    | .fn g' cs => if g = g' then unAC l cs K else False
    | _ => False
/-- The functions among arguments. -/
def fnsOf : List VV → List Nat
  | [] => []
  | .fn g _ :: l => g :: fnsOf l
  | _ :: l => fnsOf l
def eqNs : List Nat → List Nat → Bool
  | [], [] => true
  | a :: l, b :: r => a == b && eqNs l r
  | _, _ => false
def unA : (l : List Sh) → List VV → (denS l → Prop) → Prop
  | [], vs, K => match vs with
    | [] => K ()
    | _ => False
  | x :: l, vs, K => match vs with
    | v :: r => unASh x v fun a => unA l r fun b => K (a, b)
    | [] => False

/-! ### A function -/

def vres (G : Cfg) (s : VS) : List ResultVar → (List VV → Prop) → Prop
  | [], K => K []
  | .tmp d :: r, K => vres G s r fun l => K (lookV s.t d :: l)
  | .cell d ty :: r, K => match lookV s.t d with
    | .ptr i off => match getO s.h i with
      | .box cs _ => vload (aTy G.P ty) cs off fun v => vres G s r fun l => K (v :: l)
      | _ => False
    | _ => False

/-- The result told as plain data; lists of one's own are handed over, each once. -/
def xp : (t : Ty) → List VV → List VO → (t.den → List VV → List VO → Prop) → Prop
  | .int k, cs, h, K => match cs with
    | .pl (.int k' n) :: r => if k = k' then K n r h else False
    | _ => False
  | .bool, cs, h, K => match cs with
    | .pl (.bool b) :: r => K b r h
    | _ => False
  | .str, cs, h, K => match cs with
    | .pl (.string s) :: r => K s r h
    | _ => False
  | .flt, cs, h, K => match cs with
    | .pl (.float .f64 x) :: r => K x r h
    | _ => False
  | .cpx, cs, h, K => match cs with
    | .pl (.complex .f64 a b) :: r => K (a, b) r h
    | _ => False
  | .ref _, _, _, _ => False
  | .slc t, cs, h, K => match cs with
    | .own i :: r => match getO h i with
      | .lst true t' l false => Ty.at t' t l fun l => K l r (h.set i (.dead false))
      | _ => False
    | .pl (.slice none 0 0) :: r => K [] r h
    | _ => False
  | .unit, cs, h, K => K () cs h
  | .pair a b, cs, h, K => xp a cs h fun x r h' => xp b r h' fun y r' h'' => K (x, y) r' h''

/-- Which of the lists in a result may be of the arguments. -/
inductive Al
  | n
  | f
  | z
  | p (a b : Al)

/-- The result told; lists of the arguments as what is read alone. -/
def xpA : Al → (t : Ty) → List VV → List VO → (t.den → List VV → List VO → Prop) → Prop
  | .f, .slc t, cs, h, K => match cs with
    | .fz _ t' l :: r => Ty.at t' t l fun l => K l r h
    | .own i :: r => match getO h i with
      | .lst _ t' l true => Ty.at t' t l fun l => K l r h
      | _ => False
    | .pl (.slice none 0 0) :: r => K [] r h
    | _ => False
  | .z, .slc t, cs, h, K => match cs with
    | .own i :: r => match getO h i with
      | .lst true t' l false => Ty.at t' t l fun l => ck (l ≠ []) (K l r (h.set i (.dead false)))
      | _ => False
    | .pl (.slice none 0 0) :: r => K [] r h
    | _ => False
  | .p x y, .pair a b, cs, h, K => xpA x a cs h fun u r h' => xpA y b r h' fun v r' h'' => K (u, v) r' h''
  | _, t, cs, h, K => xp t cs h K

/-- Which results are aggregates, and their types. -/
abbrev ResT := List (Bool × Ty)
@[reducible] def denR : ResT → Type
  | [] => Unit
  | (_, t) :: l => t.den × denR l

def encN : (t : Ty) → t.den → List VV
  | .int k, n => [.pl (.int k n)]
  | .bool, b => [.pl (.bool b)]
  | .str, s => [.pl (.string s)]
  | .flt, x => [.pl (.float .f64 x)]
  | .cpx, x => [.pl (.complex .f64 x.1 x.2)]
  | .slc t, l => [.nw t l]
  | .ref _, _ => [.undef]
  | .unit, _ => []
  | .pair a b, x => encN a x.1 ++ encN b x.2

def encA : Al → (t : Ty) → t.den → List VV
  | .f, .slc t, l => [.fz false t l]
  | .p x y, .pair a b, d => encA x a d.1 ++ encA y b d.2
  | _, t, d => encN t d

/-- The mark of a list that is nil just if there is nothing in it. -/
def zmk : Bool → Al → Ty → List VV
  | false, .z, .slc _ => [.undef]
  | _, _, _ => []
def slotsA : (rt : ResT) → List Al → denR rt → List (Bool × List VV)
  | [], _, _ => []
  | (g, t) :: l, al, d => (g, encA (al.headD .n) t d.1 ++ zmk g (al.headD .n) t) :: slotsA l al.tail d.2

abbrev slots (rt : ResT) (d : denR rt) : List (Bool × List VV) := slotsA rt [] d

def isAgg : VV → Bool
  | .agg _ => true
  | _ => false

def xpAll : (rt : ResT) → List Al → List VV → List VO → (denR rt → Prop) → Prop
  | [], _, vs, _, K => match vs with
    | [] => K ()
    | _ => False
  | (g, t) :: l, al, vs, h, K => match vs with
    | v :: r => if isAgg v = g ∧ (g = true ∨ okL v = true) then xpA (al.headD .n) t (vcells v) h fun x left h' => match left with
        | [] => xpAll l al.tail r h' fun y => K (x, y)
        | _ => False
      else False
    | [] => False

def startV (args : List VV) : List (Nat × VV) := zipT (List.range args.length) args

/-- The caller's slots stand behind the callee's. -/
def shiftT (n : Nat) (t : List (Nat × VV)) : List (Nat × VV) := t.map fun p => (p.1 + n, p.2)
def unshiftT (n : Nat) : List (Nat × VV) → List (Nat × VV)
  | [] => []
  | (d, v) :: l => if n ≤ d then (d - n, v) :: unshiftT n l else unshiftT n l

def r1B : VV → Bool
  | .tup _ | .fn _ _ => false
  | _ => true

/-- A function, carried out on the caller's memory. -/
def inlRun (G : Cfg) (ct : Tab) (en : Ends) (fn : Func) (c : Code) (args : List VV) (s : VS) (k : VV → VS → Prop) : Prop :=
  if args.length ≤ fn.ntmps then cutE ct 1 (vwp G ct en c 1) ⟨startV args ++ shiftT fn.ntmps s.t, s.h⟩ fun e s2 => match e with
    | .normal | .ret => vres G s2 fn.results.toList fun vs => if vs.all r1B = true then k (wrapV vs) ⟨unshiftT fn.ntmps s2.t, s2.h⟩ else False
    | _ => False
  else False

def vfun (G : Cfg) (ct : Tab) (en : Ends) (fn : Func) (c : Code) (rt : ResT) (al : List Al) (args : List VV) (Q : denR rt → Prop) : Prop :=
  cutE ct 1 (vwp G ct en c 1) ⟨startV args, []⟩ fun e s => match e with
    | .normal | .ret => vres G s fn.results.toList fun vs => xpAll rt al vs s.h Q
    | _ => False

end Go.Mach
