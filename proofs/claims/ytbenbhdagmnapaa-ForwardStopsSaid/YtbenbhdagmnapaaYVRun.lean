/- Part of the proof. No condition. -/
import Derived.Test.YtbenbhdagmnapaaYVDef
namespace Go.Mach
def QH : List VV -> List VO -> List VV × List VO
  | [], h => ([], h)
  | v :: r, h => match v with
    | .nw t l => let p := QH r (h ++ [.lst true t l false]); (.own h.length :: p.1, p.2)
    | v => let p := QH r h; (v :: p.1, p.2)
def E4 : List (Bool × List VV) -> List VO -> List VV × List VO
  | [], h => ([], h)
  | (g, cs) :: r, h =>
    let p := QH cs h
    let q := E4 r p.2
    ((if g then .agg p.1 else p.1.headD .undef) :: q.1, q.2)
def aNz : List VV -> VV
 | [v] => v
 | vs => .tup vs
def O1 (h : List VO) : VV -> List Nat
  | .agg l => l.flatMap zQ
  | .ptr i _ => i :: (match bJ h i with
    | .box cs _ => cs.flatMap zQ
    | _ => [])
  | .bx l _ => l.flatMap zQ
  | v => zQ v
def RF (h : List VO) : VV -> List Nat
 | .fn _ l => l.flatMap (O1 h)
 | v => O1 h v
def aPK : VV -> Bool
 | .fz _ _ _ => true
 | .fn _ _ => true
 | _ => false
def TO (sl : List (Bool × List VV)) : Bool := sl.any fun p => p.2.any aPK
def QQ : List (Bool × List VV) -> (List (Bool × List VV) -> Prop) -> Prop
  | [], k => k []
  | p :: r, k => match p with
    | (false, [.nw T l, .undef]) => nz l (QQ r fun r' => k ((false, [.pl (.slice none 0 0)]) :: r')) (QQ r fun r' => k ((false, [.nw T l]) :: r'))
    | p => QQ r fun r' => k (p :: r')
def aM1 (G : Cfg) (f : VV) (args : List VV) (h : List VO) (K : VV -> List VO -> Prop) : Prop :=
  match f with
  | .fn g caps => if aCb G.P g then
      G.O g (args.map (aI1 h) ++ caps.map (aI1 h)) (fun r => QQ r fun r => let p := E4 r (match TO r with
        | true => c0 h ((args ++ caps).flatMap (RF h))
        | false => h); K (aNz p.1) p.2) else False
  | _ => False
def RG (G : Cfg) (o : Oper) (s : VS) (k : VS -> Prop) : Prop :=
  match o.op with
  | .call c => match c.callee with
    | .value f => aM1 G (evV s.t f) (c.args.toList.map (evV s.t)) s.h fun v h => k (VS.set ⟨s.t, h⟩ o.dst v)
    | _ => bU G o.op s.t s.h fun v h => k (VS.set ⟨s.t, h⟩ o.dst v)
  | _ => bU G o.op s.t s.h fun v h => k (VS.set ⟨s.t, h⟩ o.dst v)
def VU : Option (Nat × Bool) -> Option (Nat × Bool) -> Bool
 | none, none => true
 | some (i, a), some (j, b) => i == j && a == b
 | _, _ => false
def R3 (g : Option (Nat × Bool)) : List Oper -> List Oper × List Oper
 | [] => ([], [])
 | o :: l => if VU o.guard g then ([], o :: l) else let r := R3 g l; (o :: r.1, r.2)
def yE : Op -> Bool
  | .move _ | .assign _ | .load .. | .binOp .. | .unOp .. | .fieldAddr .. | .field .. | .indexAddr .. | .index .. | .extract .. | .convert .. | .pick .. => true
  | .alloc _ | .box .. | .build .. | .buildSlice .. | .makeSlice .. | .slice .. => true
  | .call c => match c.callee with
    | .builtin .len | .builtin .min | .builtin .max | .builtin .complex | .builtin .real | .builtin .imag => true
    | .value _ => true
    | _ => false
  | _ => false
def ED : Op -> Bool
  | .move _ | .assign _ | .load .. | .unOp .. | .fieldAddr .. | .field .. | .extract .. | .convert .. | .pick .. => true
  | .binOp b _ _ _ _ => match b with
    | .shl | .shr | .quo | .rem => false
    | _ => true
  | .call c => match c.callee with
    | .builtin .len | .builtin .min | .builtin .max | .builtin .complex | .builtin .real | .builtin .imag => true
    | _ => false
  | _ => false
def aKY (ops : Array Oper) (j : Nat) (w : Bool) : List Nat -> List Oper -> Bool
  | _, [] => true
  | known, o :: l => (match o.guard with
    | none => false
    | some (j', w') => (j' == j && w' == w) || (match (ops[j']?).bind (·.dst) with
      | some x => known.contains x
      | none => false)) && aKY ops j w (match o.dst with
        | some x => x :: known
        | none => known) l
def xT : List Oper -> List (Nat × VV) -> List (Nat × VV)
  | [], t => t
  | o :: l, t => match o.dst with
    | some d => (d, .undef) :: xT l t
    | none => xT l t
def YY (h : Nat) : VV -> VV
 | .ptr i off => if i < h then .mptr i off else .undef
 | _ => .undef
def vB (h : Nat) : List Oper -> List (Nat × VV) -> List (Nat × VV) -> List (Nat × VV)
  | [], _, t => t
  | o :: l, t2, t => match o.dst with
    | some d => (d, YY h (bM t2 d)) :: vB h l t2 t
    | none => vB h l t2 t
def TU (v : VV) (K : Bool -> Prop) : Prop :=
 match v with
 | .pl (.bool b) => K b
 | _ => False
def aGL : Operand -> Option Bool
 | .const (.bool b) => some b
 | _ => none
def aLn (d : Nat) (b : Oper) : Bool :=
 match b.dst with
 | some x => x != d
 | none => true
def KZ (G : Cfg) (ops : Array Oper) : Nat -> Option (Nat × Bool) -> List Oper -> VS -> (VS -> Prop) -> Prop
  | 0, _, _, _, _ => False
  | _ + 1, _, [], s, k => k s
  | n + 1, g, o :: rest, s, k =>
    match VU o.guard g with
    | true => RG G o s fun s' => KZ G ops n g rest s' k
    | false => match R3 g (o :: rest), o.guard with
      | (body, res :: rest'), some (j, w) =>
        match (ops[j]?).bind (·.dst), res.op, res.dst with
        | some d, .pick (.tmp c) x y, some r =>
          match c == d && r != d && body.all (fun b => aLn d b && yE b.op) && aKY ops j w [] body && aGL (if w then y else x) == some (!w), bM s.t d with
          | true, .pl (.bool b) =>
            match body.all (fun b => ED b.op) with
            | true => KZ G ops n (some (j, w)) body s fun s2 => TU (evV s2.t (if w then x else y)) fun v =>
                KZ G ops n g rest' ⟨(r, .pl (.bool (if w then b && v else b || v))) :: vB s.h.length body s2.t s.t, s.h⟩ k
            | false => jn (fun v => KZ G ops n g rest' ⟨(r, .pl (.bool v)) :: xT body s.t, s.h⟩ k) fun J =>
                if b = true then (if w = true then KZ G ops n (some (j, w)) body s fun s2 => TU (evV s2.t x) J else J true)
                else (if w = true then J false else KZ G ops n (some (j, w)) body s fun s2 => TU (evV s2.t y) J)
          | _, _ => False
        | _, _, _ => False
      | _, _ => False
def VH : VV -> Option (List (Option Nat))
 | .own i | .ptr i _ | .eptr i _ _ | .mptr i _ => some [some i]
 | .fptr _ _ _ _ _ | .bx _ _ => some [none]
 | .pl _ | .agg _ | .tup _ | .fn _ _ => some []
 | _ => none
def aCI : List VV -> Option (List (Option Nat))
  | [] => some []
  | v :: l => match VH v, aCI l with
    | some a, some b => some (a ++ b)
    | _, _ => none
def aMp (op : Op) (t : List (Nat × VV)) : Option (List (Option Nat)) :=
  match op with
  | .load _ a => VH (evV t a)
  | .store _ a _ => VH (evV t a)
  | .convert _ _ x => VH (evV t x)
  | .call c => match c.callee with
    | .builtin .append | .builtin .copy => aCI (c.args.toList.map (evV t))
    | _ => some []
  | _ => some []
def wrV (op : Op) (t : List (Nat × VV)) : Option (List (Option Nat)) :=
  match op with
  | .store _ a _ => VH (evV t a)
  | .call c => match c.callee with
    | .builtin .append | .builtin .copy => match c.args.toList with
      | x :: _ => VH (evV t x)
      | [] => some []
    | _ => some []
  | _ => some []
def X6 (h : List VO) : Option Nat -> Option Nat -> Bool
 | some i, some j => i != j && ownB (bJ h i) && ownB (bJ h j)
 | some i, none => ownB (bJ h i)
 | none, some j => ownB (bJ h j)
 | none, none => false
where ownB : VO -> Bool
 | .box _ fr => !fr
 | .lst _ _ _ fr => !fr
 | .dead b => b
def aGi (h : List VO) : Option (List (Option Nat)) -> Option (List (Option Nat)) -> Bool
 | some [], _ => true
 | _, some [] => true
 | some a, some b => a.all fun x => b.all fun y => X6 h x y
 | _, _ => false
def aJ6 (ops : Array Oper) (s : VS) (p : Nat × Nat) : Bool :=
 match ops[p.1]?, ops[p.2]? with
 | some oi, some oj => aGi s.h (wrV oi.op s.t) (aMp oj.op s.t) && aGi s.h (aMp oi.op s.t) (wrV oj.op s.t)
 | _, _ => false
def O7 (G : Cfg) (ops : Array Oper) (draw : Bool) (s : VS) (k : VS -> Prop) : Prop :=
  match draw with
  | false => KZ G ops (ops.size + 1) none ops.toList s k
  | true => match IK ops (bW ops.toList #[]) && (pN ops (bW ops.toList #[])).all (fun p => yH ops p.1 && yH ops p.2) with
    | true => KZ G ops (ops.size + 1) none ops.toList s fun s' => match (pN ops (bW ops.toList #[])).all (aJ6 ops s') with
      | true => k s'
      | false => False
    | false => False
def aDM : List Oper -> Option (List Oper × Oper)
  | [] => none
  | o :: l => match l, aDM l with
    | [], _ => some ([], o)
    | _ :: _, some (p, x) => some (o :: p, x)
    | _ :: _, none => none
def aK2 (ops : Array Oper) (draw : Bool) : Option (List Oper × Oper × Operand × List Operand) :=
  match aDM ops.toList with
  | some (pre, o) => match o.guard, o.op with
    | none, .call c => match c.callee with
      | .value f => match draw with
        | false => some (pre, o, f, c.args.toList)
        | true => match IK ops (bW ops.toList #[]) && (pN ops (bW ops.toList #[])).isEmpty && iI ops (bW ops.toList #[]) pre.length with
          | true => some (pre, o, f, c.args.toList)
          | false => none
      | _ => none
    | _, _ => none
  | none => none
def aCG (G : Cfg) (ops : Array Oper) (draw : Bool) (s : VS) (k : VS -> Prop) : Prop :=
  match G.I with
  | none => O7 G ops draw s k
  | some J => match aK2 ops draw with
    | none => O7 G ops draw s k
    | some (pre, o, f, args) => KZ G ops (ops.size + 1) none pre s fun s1 => match evV s1.t f with
      | .fn g caps => match J.B g && aCb G.P g with
        | true => J.run g (args.map (evV s1.t) ++ caps) s1 fun v s2 => k (VS.set s2 o.dst v)
        | false => RG G o s1 k
      | _ => RG G o s1 k
def aII (kd : IntKind) : Ty -> Bool
 | .int k => decide (k = kd)
 | .slc t => aII kd t
 | .pair a b => aII kd a || aII kd b
 | _ => false
def SE (kd : IntKind) (v : Int) : (T : Ty) -> T.den -> T.den -> Prop
 | .int k, x, y => y = x \/ (k = kd /\ y = v)
 | .slc t, l, m => m.length = l.length /\ ∀ (i : Nat) (x y : t.den), l[i]? = some x -> m[i]? = some y -> SE kd v t x y
 | .pair a b, x, y => SE kd v a x.1 y.1 /\ SE kd v b x.2 y.2
 | .bool, x, y => y = x
 | .str, x, y => y = x
 | .unit, _, _ => True
 | .flt, x, y => y = x
 | .cpx, x, y => y = x
def hvL (kd : IntKind) (v : Int) : VV -> (VV -> Prop) -> Prop
  | .fz o T l, K => match aII kd T with
    | true => ∀ m : (Ty.slc T).den, SE kd v (.slc T) l m -> K (.fz o T m)
    | false => K (.fz o T l)
  | .pl x, K => K (.pl x)
  | .own i, K => K (.own i)
  | .ptr i o, K => K (.ptr i o)
  | .hof i, K => K (.hof i)
  | _, K => K .undef
def aO7 (kd : IntKind) (v : Int) : List VV -> (List VV -> Prop) -> Prop
 | [], K => K []
 | x :: r, K => hvL kd v x fun y => aO7 kd v r fun l => K (y :: l)
def hvT (kd : IntKind) (v : Int) (t : List (Nat × VV)) : List Nat -> (List (Nat × VV) -> Prop) -> Prop
 | [], K => K []
 | d :: r, K => hvL kd v (bM t d) fun y => hvT kd v t r fun l => K ((d, y) :: l)
def hvO (kd : IntKind) (v : Int) : VO -> (VO -> Prop) -> Prop
  | .box cs false, K => aO7 kd v cs fun cs => K (.box cs false)
  | .lst o T l fr, K => match aII kd T with
    | true => ∀ m : (Ty.slc T).den, SE kd v (.slc T) l m -> K (.lst o T m fr)
    | false => K (.lst o T l fr)
  | .dead b, K => K (.dead b)
  | _, _ => False
def hvH (kd : IntKind) (v : Int) : List VO -> (List VO -> Prop) -> Prop
 | [], K => K []
 | o :: r, K => hvO kd v o fun o => hvH kd v r fun l => K (o :: l)
def hvS (kd : IntKind) (v : Int) (live : List Nat) (s : VS) (K : VS -> Prop) : Prop := hvT kd v s.t live fun t => hvH kd v s.h fun h => K ⟨t, h⟩
def aIG (ops : Array Oper) (draw : Bool) : Option (List Oper × Oper × TypeId × Operand × Operand) :=
  match aDM ops.toList with
  | some (pre, o) => match o.guard, o.dst, o.op with
    | none, none, .store ty a x => match draw with
      | false => some (pre, o, ty, a, x)
      | true => match IK ops (bW ops.toList #[]) && (pN ops (bW ops.toList #[])).isEmpty with
        | true => some (pre, o, ty, a, x)
        | false => none
    | _, _, _ => none
  | none => none
def aCh (G : Cfg) (ops : Array Oper) (draw : Bool) (live : List Nat) (s : VS) (k : VS -> Prop) : Prop :=
  match G.hv with
  | false => aCG G ops draw s k
  | true => match aIG ops draw with
    | none => aCG G ops draw s k
    | some (pre, o, ty, a, x) => KZ G ops (ops.size + 1) none pre s fun s1 => match evV s1.t a, evV s1.t x with
      | .fptr true (.int kd) _ _ 0, .pl (.int kd' v) => if kd = kd' /\ aDg G.P ty = some 1 then hvS kd v live s1 k else False
      | _, _ => RG G o s1 k
def Z7 : Nat -> List VO -> List Nat -> List Nat -> List Nat
  | 0, _, _, acc => acc
  | _ + 1, _, [], acc => acc
  | n + 1, h, i :: todo, acc =>
    match acc.contains i with
    | true => Z7 n h todo acc
    | false => Z7 n h (todo ++ (match bJ h i with
        | .box cs _ => cs.flatMap aO9
        | _ => [])) (acc ++ [i])
def C9 (i : Nat) : List Nat -> Nat -> Option Nat
 | [], _ => none
 | j :: l, n => if i = j then some n else C9 i l (n + 1)
def aHU (ids : List Nat) : VV -> VV
  | .own i => match C9 i ids 0 with
    | some j => .own j
    | none => .undef
  | .ptr i off => match C9 i ids 0 with
    | some j => .ptr j off
    | none => .undef
  | .eptr i ix off => match C9 i ids 0 with
    | some j => .eptr j ix off
    | none => .undef
  | .pl v => .pl v
  | .fz o t l => .fz o t l
  | .fptr o t l ix off => .fptr o t l ix off
  | .hof i => .hof i
  | _ => .undef
def aN5 (ids : List Nat) : VV -> VV
 | .agg l => .agg (l.map (aHU ids))
 | .bx l off => .bx (l.map (aHU ids)) off
 | v => aHU ids v
def aPO (ids : List Nat) : VV -> VV
 | .tup l => .tup (l.map (aN5 ids))
 | .fn f l => .fn f (l.map (aN5 ids))
 | v => aN5 ids v
def aHg (ids : List Nat) : VO -> VO
 | .box cs fr => .box (cs.map (aHU ids)) fr
 | o => o
def aCK (live : List Nat) (s : VS) : List VV × List VO :=
 let vs := live.map (bM s.t)
 let ids := Z7 (2 * s.h.length + 40) s.h (vs.flatMap aOW) []
 (vs.map (aPO ids), ids.map fun i => aHg ids (bJ s.h i))
inductive Lf
 | int (k : IntKind)
 | bool
 | str
 | flt
 | cpx
 | fz (o : Bool) (t : Ty)
 | cst (v : VV)
@[reducible] def Lf.den : Lf -> Type
  | .int _ => Int
  | .bool => Bool
  | .str => ByteArray
  | .flt => Nat
  | .cpx => Nat × Nat
  | .fz _ t => List t.den
  | .cst _ => Unit
inductive Cp
 | lf (x : Lf)
 | agg (l : List Lf)
 | bx (l : List Lf)
inductive Sh
 | lf (x : Lf)
 | agg (l : List Lf)
 | bx (l : List Lf)
 | fn (g : FuncId) (l : List Cp)
inductive OSh
 | box (l : List Lf) (fr : Bool)
 | lst (o : Bool) (t : Ty) (fr : Bool)
 | dead
@[reducible] def aDv : List Lf -> Type
  | [] => Unit
  | x :: l => x.den × aDv l
@[reducible] def Cp.den : Cp -> Type
  | .lf x => x.den
  | .agg l => aDv l
  | .bx l => aDv l
@[reducible] def aJ1 : List Cp -> Type
  | [] => Unit
  | x :: l => x.den × aJ1 l
@[reducible] def Sh.den : Sh -> Type
  | .lf x => x.den
  | .agg l => aDv l
  | .bx l => aDv l
  | .fn _ l => aJ1 l
@[reducible] def aI : List Sh -> Type
  | [] => Unit
  | x :: l => x.den × aI l
@[reducible] def OSh.den : OSh -> Type
  | .box l _ => aDv l
  | .lst _ t _ => List t.den
  | .dead => Unit
@[reducible] def aIo : List OSh -> Type
  | [] => Unit
  | x :: l => x.den × aIo l
def aA9 : (x : Lf) -> x.den -> VV
 | .int k, n => .pl (.int k n)
 | .bool, b => .pl (.bool b)
 | .str, s => .pl (.string s)
 | .flt, x => .pl (.float .f64 x)
 | .cpx, x => .pl (.complex .f64 x.1 x.2)
 | .fz o t, l => .fz o t l
 | .cst v, _ => v
def aBN : (l : List Lf) -> aDv l -> List VV
 | [], _ => []
 | x :: l, d => aA9 x d.1 :: aBN l d.2
def aIy : (x : Cp) -> x.den -> VV
 | .lf x, d => aA9 x d
 | .agg l, d => .agg (aBN l d)
 | .bx l, d => .bx (aBN l d) 0
def aK4 : (l : List Cp) -> aJ1 l -> List VV
 | [], _ => []
 | x :: l, d => aIy x d.1 :: aK4 l d.2
def aJY : (x : Sh) -> x.den -> VV
 | .lf x, d => aA9 x d
 | .agg l, d => .agg (aBN l d)
 | .bx l, d => .bx (aBN l d) 0
 | .fn g l, d => .fn g (aK4 l d)
def aM : (l : List Sh) -> aI l -> List VV
 | [], _ => []
 | x :: l, d => aJY x d.1 :: aM l d.2
def aLf : (x : OSh) -> x.den -> VO
 | .box l fr, d => .box (aBN l d) fr
 | .lst o t fr, d => .lst o t d fr
 | .dead, _ => .dead false
def aMC : (l : List OSh) -> aIo l -> List VO
 | [], _ => []
 | x :: l, d => aLf x d.1 :: aMC l d.2
def aGB : VV -> VV -> Bool
 | .own i, .own j => i == j
 | .ptr i o, .ptr j o' => i == j && o == o'
 | .undef, .undef => true
 | .hof i, .hof j => i == j
 | .pl (.int k a), .pl (.int k' b) => decide (k = k') && a == b
 | .pl (.bool a), .pl (.bool b) => a == b
 | .pl (.slice none a b), .pl (.slice none c d) => a == c && b == d
 | .pl .nilFunc, .pl .nilFunc => true
 | .pl (.pointer none), .pl (.pointer none) => true
 | _, _ => false
def aGx : List VV -> List VV -> Bool
 | [], [] => true
 | a :: l, b :: r => aGB a b && aGx l r
 | _, _ => false
def aIV : VV -> VV -> Bool
 | .fn f l, .fn g r => f == g && aGx l r
 | a, b => aGB a b
def unF (x : Lf) (v : VV) (K : x.den -> Prop) : Prop :=
  match x with
  | .int k => match v with
    | .pl (.int k' n) => if k = k' then K n else False
    | _ => False
  | .bool => match v with
    | .pl (.bool b) => K b
    | _ => False
  | .str => match v with
    | .pl (.string s) => K s
    | _ => False
  | .flt => match v with
    | .pl (.float .f64 x) => K x
    | _ => False
  | .cpx => match v with
    | .pl (.complex .f64 a b) => K (a, b)
    | _ => False
  | .fz o t => match v with
    | .fz o' t' l => if o = o' then Ty.at t' t l K else False
    | _ => False
  | .cst c => if aIV c v = true then K () else False
def unL : (l : List Lf) -> List VV -> (aDv l -> Prop) -> Prop
  | [], vs, K => match vs with
    | [] => K ()
    | _ => False
  | x :: l, vs, K => match vs with
    | v :: r => unF x v fun a => unL l r fun b => K (a, b)
    | [] => False
def aOb (x : Cp) (v : VV) (K : x.den -> Prop) : Prop :=
  match x with
  | .lf x => unF x v K
  | .agg l => match v with
    | .agg cs => unL l cs K
    | _ => False
  | .bx l => match v with
    | .bx cs 0 => unL l cs K
    | _ => False
def unC : (l : List Cp) -> List VV -> (aJ1 l -> Prop) -> Prop
  | [], vs, K => match vs with
    | [] => K ()
    | _ => False
  | x :: l, vs, K => match vs with
    | v :: r => aOb x v fun a => unC l r fun b => K (a, b)
    | [] => False
def aOa (x : Sh) (v : VV) (K : x.den -> Prop) : Prop :=
  match x with
  | .lf x => unF x v K
  | .agg l => match v with
    | .agg cs => unL l cs K
    | _ => False
  | .bx l => match v with
    | .bx cs 0 => unL l cs K
    | _ => False
  | .fn g l => match v with
    | .fn g' cs => if g = g' then unC l cs K else False
    | _ => False
def unS : (l : List Sh) -> List VV -> (aI l -> Prop) -> Prop
  | [], vs, K => match vs with
    | [] => K ()
    | _ => False
  | x :: l, vs, K => match vs with
    | v :: r => aOa x v fun a => unS l r fun b => K (a, b)
    | [] => False
def aOU (x : OSh) (v : VO) (K : x.den -> Prop) : Prop :=
  match x with
  | .box l fr => match v with
    | .box cs fr' => if fr = fr' then unL l cs K else False
    | _ => False
  | .lst o t fr => match v with
    | .lst o' t' l fr' => if o = o' /\ fr = fr' then Ty.at t' t l K else False
    | _ => False
  | .dead => match v with
    | .dead false => K ()
    | _ => False
def unO : (l : List OSh) -> List VO -> (aIo l -> Prop) -> Prop
  | [], vs, K => match vs with
    | [] => K ()
    | _ => False
  | x :: l, vs, K => match vs with
    | v :: r => aOU x v fun a => unO l r fun b => K (a, b)
    | [] => False
def aBt : List Nat -> List VV -> List (Nat × VV)
 | d :: ds, v :: vs => (d, v) :: aBt ds vs
 | _, _ => []
structure Ent where
 live : List Nat
 sh : List Sh
 ob : List OSh
 P : aI sh × aIo ob -> (d7 -> VS -> Prop) -> Prop
def aPW (live : List Nat) (sh : List Sh) (ob : List OSh) (x : aI sh × aIo ob) : VS := ⟨aBt live (aM sh x.1), aMC ob x.2⟩
def aOh (live : List Nat) (sh : List Sh) (ob : List OSh) (s : VS) (K : aI sh × aIo ob -> Prop) : Prop :=
 let c := aCK live s
 unS sh c.1 fun a => unO ob c.2 fun b => K (a, b)
def Ent.run (E : Ent) (s : VS) (k : d7 -> VS -> Prop) : Prop := aOh E.live E.sh E.ob s fun x => E.P x k
def Loop {S : Type} (B : S -> (S -> Prop) -> Prop) (s : S) : Prop := ∀ X : S -> Prop, (∀ s, B s X -> X s) -> X s
abbrev Tab := Nat -> Option Ent
structure Co where
 d : Nat
 cell : Option Nat
 fz : Bool
 T : Ty
abbrev Ends := Nat -> Option (List Co × List Nat)
def conv (fz : Bool) (T : Ty) (h : List VO) (v : VV) : Option (VV × List VO) :=
  match fz, v with
  | false, .pl (.slice none 0 0) => some (.own h.length, h ++ [.lst true T [] false])
  | true, .pl (.slice none 0 _) => some (.fz true T [], h)
  | true, .own i => match bJ h i with
    | .lst o t l _ => some (.fz o t l, c0 h [i])
    | _ => none
  | _, _ => none
def co1 (s : VS) (c : Co) : VS :=
  match c.cell with
  | none => match conv c.fz c.T s.h (bM s.t c.d) with
    | some (v, h) => ⟨(c.d, v) :: s.t, h⟩
    | none => s
  | some q => match bM s.t c.d with
    | .ptr i _ => match bJ s.h i with
      | .box cs fr => match cs[q]? with
        | some u => match conv c.fz c.T s.h u with
          | some (v, h) => ⟨s.t, h.set i (.box (cs.set q v) fr)⟩
          | none => s
        | none => s
      | _ => s
    | _ => s
def aLT : List Co -> VS -> VS
 | [], s => s
 | c :: cs, s => aLT cs (co1 s c)
def M9 (ct : Tab) (n : Nat) (f : VS -> (d7 -> VS -> Prop) -> Prop) (s : VS) (k : d7 -> VS -> Prop) : Prop :=
 match ct n with
 | some E => E.run s k
 | none => f s k
def aPD (live : List Nat) (s : VS) : VS := ⟨aBt live (aCK live s).1, (aCK live s).2⟩
def HV (en : Ends) (n : Nat) (s : VS) : VS :=
 match en n with
 | some (cs, l) => aPD l (aLT cs s)
 | none => s
def LB (k : d7 -> VS -> Prop) (en : Ends) (n : Nat) (b : VS -> (d7 -> VS -> Prop) -> Prop) (s : VS) (nx : VS -> Prop) : Prop :=
  b s fun e s' => match e with
    | .normal => nx (HV en n s')
    | e => k e s'
def aOF (en : Ends) (n : Nat) : List Nat :=
 match en n with
 | some (_, l) => l
 | none => []
def vwp (G : Cfg) (ct : Tab) (en : Ends) : Code -> Nat -> VS -> (d7 -> VS -> Prop) -> Prop
  | .skip, n, s, k => k .normal (HV en n s)
  | .label _, n, s, k => k .normal (HV en n s)
  | .region _ ops draw, n, s, k => aCh G ops draw (aOF en n) s fun s' => k .normal (HV en n s')
  | .seq a b, n, s, k => M9 ct (2 * n) (vwp G ct en a (2 * n)) s fun e s' => match e with
    | .normal => M9 ct (2 * n + 1) (vwp G ct en b (2 * n + 1)) s' k
    | e => k e s'
  | .cond c x y, n, s, k => match evV s.t c with
    | .pl (.bool b) => if b = true then M9 ct (2 * n) (vwp G ct en x (2 * n)) s k else M9 ct (2 * n + 1) (vwp G ct en y (2 * n + 1)) s k
    | _ => False
  | .block id b, n, s, k => M9 ct (2 * n) (vwp G ct en b (2 * n)) s fun e s' => match e with
    | .exit id' => k (if id' = id then .normal else .exit id') s'
    | e => k e s'
  | .loop b, n, s, k => Loop (LB k en n (M9 ct (2 * n) (vwp G ct en b (2 * n)))) (HV en n s)
  | .exit id, n, s, k => k (.exit id) (HV en n s)
  | .ret, n, s, k => k .ret (HV en n s)
  | _, _, _, _ => False
def aBX (x : Lf) (v : VV) (K : x.den -> Prop) : Prop :=
  match x with
  | .fz false t => match v with
    | .fz false t' l => Ty.at t' t l K
    | .pl (.slice none 0 _) => K []
    | _ => False
  | x => unF x v K
def aHv : (l : List Lf) -> List VV -> (aDv l -> Prop) -> Prop
  | [], vs, K => match vs with
    | [] => K ()
    | _ => False
  | x :: l, vs, K => match vs with
    | v :: r => aBX x v fun a => aHv l r fun b => K (a, b)
    | [] => False
def aLq (x : Cp) (v : VV) (K : x.den -> Prop) : Prop :=
  match x with
  | .lf x => aBX x v K
  | .agg l => match v with
    | .agg cs => aHv l cs K
    | _ => False
  | .bx l => match v with
    | .bx cs 0 => aHv l cs K
    | _ => False
def aMY : (l : List Cp) -> List VV -> (aJ1 l -> Prop) -> Prop
  | [], vs, K => match vs with
    | [] => K ()
    | _ => False
  | x :: l, vs, K => match vs with
    | v :: r => aLq x v fun a => aMY l r fun b => K (a, b)
    | [] => False
def aMP (x : Sh) (v : VV) (K : x.den -> Prop) : Prop :=
  match x with
  | .lf x => aBX x v K
  | .agg l => match v with
    | .agg cs => aHv l cs K
    | _ => False
  | .bx l => match v with
    | .bx cs 0 => aHv l cs K
    | _ => False
  | .fn g l => match v with
    | .fn g' cs => if g = g' then aMY l cs K else False
    | _ => False
def aAO : List VV -> List Nat
 | [] => []
 | .fn g _ :: l => g :: aAO l
 | _ :: l => aAO l
def aJJ : List Nat -> List Nat -> Bool
 | [], [] => true
 | a :: l, b :: r => a == b && aJJ l r
 | _, _ => false
def unA : (l : List Sh) -> List VV -> (aI l -> Prop) -> Prop
  | [], vs, K => match vs with
    | [] => K ()
    | _ => False
  | x :: l, vs, K => match vs with
    | v :: r => aMP x v fun a => unA l r fun b => K (a, b)
    | [] => False
def aJw (G : Cfg) (s : VS) : List ResultVar -> (List VV -> Prop) -> Prop
  | [], K => K []
  | .tmp d :: r, K => aJw G s r fun l => K (bM s.t d :: l)
  | .cell d ty :: r, K => match bM s.t d with
    | .ptr i off => match bJ s.h i with
      | .box cs _ => X3 (aTy G.P ty) cs off fun v => aJw G s r fun l => K (v :: l)
      | _ => False
    | _ => False
def xp : (t : Ty) -> List VV -> List VO -> (t.den -> List VV -> List VO -> Prop) -> Prop
  | .int k, cs, h, K => match cs with
    | .pl (.int k' n) :: r => if k = k' then K n r h else False
    | _ => False
  | .bool, cs, h, K => match cs with
    | .pl (.bool b) :: r => K b r h
    | _ => False
  | .str, cs, h, K => match cs with
    | .pl (.string s) :: r => K s r h
    | _ => False
  | .flt, cs, h, K => match cs with
    | .pl (.float .f64 x) :: r => K x r h
    | _ => False
  | .cpx, cs, h, K => match cs with
    | .pl (.complex .f64 a b) :: r => K (a, b) r h
    | _ => False
  | .slc t, cs, h, K => match cs with
    | .own i :: r => match bJ h i with
      | .lst true t' l false => Ty.at t' t l fun l => K l r (h.set i (.dead false))
      | _ => False
    | .pl (.slice none 0 0) :: r => K [] r h
    | _ => False
  | .unit, cs, h, K => K () cs h
  | .pair a b, cs, h, K => xp a cs h fun x r h' => xp b r h' fun y r' h'' => K (x, y) r' h''
inductive Al
 | n
 | f
 | z
 | p (a b : Al)
def xpA : Al -> (t : Ty) -> List VV -> List VO -> (t.den -> List VV -> List VO -> Prop) -> Prop
  | .f, .slc t, cs, h, K => match cs with
    | .fz _ t' l :: r => Ty.at t' t l fun l => K l r h
    | .own i :: r => match bJ h i with
      | .lst _ t' l true => Ty.at t' t l fun l => K l r h
      | _ => False
    | .pl (.slice none 0 0) :: r => K [] r h
    | _ => False
  | .z, .slc t, cs, h, K => match cs with
    | .own i :: r => match bJ h i with
      | .lst true t' l false => Ty.at t' t l fun l => ck (l ≠ []) (K l r (h.set i (.dead false)))
      | _ => False
    | .pl (.slice none 0 0) :: r => K [] r h
    | _ => False
  | .p x y, .pair a b, cs, h, K => xpA x a cs h fun u r h' => xpA y b r h' fun v r' h'' => K (u, v) r' h''
  | _, t, cs, h, K => xp t cs h K
abbrev aHe := List (Bool × Ty)
@[reducible] def aKm : aHe -> Type
  | [] => Unit
  | (_, t) :: l => t.den × aKm l
def aMr : (t : Ty) -> t.den -> List VV
 | .int k, n => [.pl (.int k n)]
 | .bool, b => [.pl (.bool b)]
 | .str, s => [.pl (.string s)]
 | .flt, x => [.pl (.float .f64 x)]
 | .cpx, x => [.pl (.complex .f64 x.1 x.2)]
 | .slc t, l => [.nw t l]
 | .unit, _ => []
 | .pair a b, x => aMr a x.1 ++ aMr b x.2
def aHI : Al -> (t : Ty) -> t.den -> List VV
 | .f, .slc t, l => [.fz false t l]
 | .p x y, .pair a b, d => aHI x a d.1 ++ aHI y b d.2
 | _, t, d => aMr t d
def zmk : Bool -> Al -> Ty -> List VV
 | false, .z, .slc _ => [.undef]
 | _, _, _ => []
def aH : (rt : aHe) -> List Al -> aKm rt -> List (Bool × List VV)
 | [], _, _ => []
 | (g, t) :: l, al, d => (g, aHI (al.headD .n) t d.1 ++ zmk g (al.headD .n) t) :: aH l al.tail d.2
abbrev aOw (rt : aHe) (d : aKm rt) : List (Bool × List VV) := aH rt [] d
def aIO : VV -> Bool
 | .agg _ => true
 | _ => false
def aES : (rt : aHe) -> List Al -> List VV -> List VO -> (aKm rt -> Prop) -> Prop
  | [], _, vs, _, K => match vs with
    | [] => K ()
    | _ => False
  | (g, t) :: l, al, vs, h, K => match vs with
    | v :: r => if aIO v = g /\ (g = true \/ okL v = true) then xpA (al.headD .n) t (cN v) h fun x left h' => match left with
        | [] => aES l al.tail r h' fun y => K (x, y)
        | _ => False
      else False
    | [] => False
def NW (args : List VV) : List (Nat × VV) := aBt (List.range args.length) args
def TE (n : Nat) (t : List (Nat × VV)) : List (Nat × VV) := t.map fun p => (p.1 + n, p.2)
def rT (n : Nat) : List (Nat × VV) -> List (Nat × VV)
 | [] => []
 | (d, v) :: l => if n <= d then (d - n, v) :: rT n l else rT n l
def TH (G : Cfg) (ct : Tab) (en : Ends) (fn : Func) (c : Code) (args : List VV) (s : VS) (k : VV -> VS -> Prop) : Prop :=
  match fn.results.toList with
  | [] => if args.length <= fn.ntmps then M9 ct 1 (vwp G ct en c 1) ⟨NW args ++ TE fn.ntmps s.t, s.h⟩ fun e s2 => match e with
      | .normal | .ret => k (.tup []) ⟨rT fn.ntmps s2.t, s2.h⟩
      | _ => False
    else False
  | _ => False
def aOI (G : Cfg) (ct : Tab) (en : Ends) (fn : Func) (c : Code) (rt : aHe) (al : List Al) (args : List VV) (Q : aKm rt -> Prop) : Prop :=
  M9 ct 1 (vwp G ct en c 1) ⟨NW args, []⟩ fun e s => match e with
    | .normal | .ret => aJw G s fn.results.toList fun vs => aES rt al vs s.h Q
    | _ => False
end Go.Mach
