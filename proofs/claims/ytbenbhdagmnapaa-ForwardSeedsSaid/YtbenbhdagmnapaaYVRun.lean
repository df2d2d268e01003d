/- Part of the proof. No condition. -/
import Derived.Test.YtbenbhdagmnapaaYVDef
namespace Go.Mach
def P2 : List VV -> List VO -> List VV × List VO
  | [], h => ([], h)
  | v :: r, h => match v with
    | .nw t l => let p := P2 r (h ++ [.lst true t l false]); (.own h.length :: p.1, p.2)
    | v => let p := P2 r h; (v :: p.1, p.2)
def D0 : List (Bool × List VV) -> List VO -> List VV × List VO
  | [], h => ([], h)
  | (g, cs) :: r, h =>
    let p := P2 cs h
    let q := D0 r p.2
    ((if g then .agg p.1 else p.1.headD .undef) :: q.1, q.2)
def aNe : List VV -> VV
 | [v] => v
 | vs => .tup vs
def PF (h : List VO) : VV -> List Nat
  | .agg l => l.flatMap yQ
  | .ptr i _ => i :: (match bI h i with
    | .box cs _ => cs.flatMap yQ
    | _ => [])
  | .bx l _ => l.flatMap yQ
  | v => yQ v
def SR (h : List VO) : VV -> List Nat
 | .fn _ l => l.flatMap (PF h)
 | v => PF h v
def aOs : VV -> Bool
 | .fz _ _ _ => true
 | .fn _ _ => true
 | _ => false
def S7 (sl : List (Bool × List VV)) : Bool := sl.any fun p => p.2.any aOs
def P0 : List (Bool × List VV) -> (List (Bool × List VV) -> Prop) -> Prop
  | [], k => k []
  | p :: r, k => match p with
    | (false, [.nw T l, .undef]) => nz l (P0 r fun r' => k ((false, [.pl (.slice none 0 0)]) :: r')) (P0 r fun r' => k ((false, [.nw T l]) :: r'))
    | p => P0 r fun r' => k (p :: r')
def aL2 (G : Cfg) (f : VV) (args : List VV) (h : List VO) (K : VV -> List VO -> Prop) : Prop :=
  match f with
  | .fn g caps => if aCo G.P g then
      G.O g (args.map (aIa h) ++ caps.map (aIa h)) (fun r => P0 r fun r => let p := D0 r (match S7 r with
        | true => cZ h ((args ++ caps).flatMap (SR h))
        | false => h); K (aNe p.1) p.2) else False
  | _ => False
def RR (G : Cfg) (o : Oper) (s : VS) (k : VS -> Prop) : Prop :=
  match o.op with
  | .call c => match c.callee with
    | .value f => aL2 G (evV s.t f) (c.args.toList.map (evV s.t)) s.h fun v h => k (VS.set ⟨s.t, h⟩ o.dst v)
    | _ => bT G o.op s.t s.h fun v h => k (VS.set ⟨s.t, h⟩ o.dst v)
  | _ => bT G o.op s.t s.h fun v h => k (VS.set ⟨s.t, h⟩ o.dst v)
def WO : Option (Nat × Bool) -> Option (Nat × Bool) -> Bool
 | none, none => true
 | some (i, a), some (j, b) => i == j && a == b
 | _, _ => false
def QW (g : Option (Nat × Bool)) : List Oper -> List Oper × List Oper
 | [] => ([], [])
 | o :: l => if WO o.guard g then ([], o :: l) else let r := QW g l; (o :: r.1, r.2)
def yH : Op -> Bool
  | .move _ | .assign _ | .load .. | .binOp .. | .unOp .. | .fieldAddr .. | .field .. | .indexAddr .. | .index .. | .extract .. | .convert .. | .pick .. => true
  | .alloc _ | .box .. | .build .. | .buildSlice .. | .makeSlice .. | .slice .. => true
  | .call c => match c.callee with
    | .builtin .len | .builtin .min | .builtin .max | .builtin .complex | .builtin .real | .builtin .imag => true
    | .value _ => true
    | _ => false
  | _ => false
def EC : Op -> Bool
  | .move _ | .assign _ | .load .. | .unOp .. | .fieldAddr .. | .field .. | .extract .. | .convert .. | .pick .. => true
  | .binOp b _ _ _ _ => match b with
    | .shl | .shr | .quo | .rem => false
    | _ => true
  | .call c => match c.callee with
    | .builtin .len | .builtin .min | .builtin .max | .builtin .complex | .builtin .real | .builtin .imag => true
    | _ => false
  | _ => false
def aKS (ops : Array Oper) (j : Nat) (w : Bool) : List Nat -> List Oper -> Bool
  | _, [] => true
  | known, o :: l => (match o.guard with
    | none => false
    | some (j', w') => (j' == j && w' == w) || (match (ops[j']?).bind (·.dst) with
      | some x => known.contains x
      | none => false)) && aKS ops j w (match o.dst with
        | some x => x :: known
        | none => known) l
def xH : List Oper -> List (Nat × VV) -> List (Nat × VV)
  | [], t => t
  | o :: l, t => match o.dst with
    | some d => (d, .undef) :: xH l t
    | none => xH l t
def Y5 (h : Nat) : VV -> VV
 | .ptr i off => if i < h then .mptr i off else .undef
 | _ => .undef
def vH (h : Nat) : List Oper -> List (Nat × VV) -> List (Nat × VV) -> List (Nat × VV)
  | [], _, t => t
  | o :: l, t2, t => match o.dst with
    | some d => (d, Y5 h (bL t2 d)) :: vH h l t2 t
    | none => vH h l t2 t
def T7 (v : VV) (K : Bool -> Prop) : Prop :=
 match v with
 | .pl (.bool b) => K b
 | _ => False
def aFa : Operand -> Option Bool
 | .const (.bool b) => some b
 | _ => none
def aM5 (d : Nat) (b : Oper) : Bool :=
 match b.dst with
 | some x => x != d
 | none => true
def I4 (G : Cfg) (ops : Array Oper) : Nat -> Option (Nat × Bool) -> List Oper -> VS -> (VS -> Prop) -> Prop
  | 0, _, _, _, _ => False
  | _ + 1, _, [], s, k => k s
  | n + 1, g, o :: rest, s, k =>
    match WO o.guard g with
    | true => RR G o s fun s' => I4 G ops n g rest s' k
    | false => match QW g (o :: rest), o.guard with
      | (body, res :: rest'), some (j, w) =>
        match (ops[j]?).bind (·.dst), res.op, res.dst with
        | some d, .pick (.tmp c) x y, some r =>
          match c == d && r != d && body.all (fun b => aM5 d b && yH b.op) && aKS ops j w [] body && aFa (if w then y else x) == some (!w), bL s.t d with
          | true, .pl (.bool b) =>
            match body.all (fun b => EC b.op) with
            | true => I4 G ops n (some (j, w)) body s fun s2 => T7 (evV s2.t (if w then x else y)) fun v =>
                I4 G ops n g rest' ⟨(r, .pl (.bool (if w then b && v else b || v))) :: vH s.h.length body s2.t s.t, s.h⟩ k
            | false => jn (fun v => I4 G ops n g rest' ⟨(r, .pl (.bool v)) :: xH body s.t, s.h⟩ k) fun J =>
                if b = true then (if w = true then I4 G ops n (some (j, w)) body s fun s2 => T7 (evV s2.t x) J else J true)
                else (if w = true then J false else I4 G ops n (some (j, w)) body s fun s2 => T7 (evV s2.t y) J)
          | _, _ => False
        | _, _, _ => False
      | _, _ => False
def UU : VV -> Option (List (Option Nat))
 | .own i | .ptr i _ | .eptr i _ _ | .mptr i _ => some [some i]
 | .fptr _ _ _ _ _ | .bx _ _ => some [none]
 | .pl _ | .agg _ | .tup _ | .fn _ _ => some []
 | _ => none
def aBx : List VV -> Option (List (Option Nat))
  | [] => some []
  | v :: l => match UU v, aBx l with
    | some a, some b => some (a ++ b)
    | _, _ => none
def aN3 (op : Op) (t : List (Nat × VV)) : Option (List (Option Nat)) :=
  match op with
  | .load _ a => UU (evV t a)
  | .store _ a _ => UU (evV t a)
  | .convert _ _ x => UU (evV t x)
  | .call c => match c.callee with
    | .builtin .append | .builtin .copy => aBx (c.args.toList.map (evV t))
    | _ => some []
  | _ => some []
def wrV (op : Op) (t : List (Nat × VV)) : Option (List (Option Nat)) :=
  match op with
  | .store _ a _ => UU (evV t a)
  | .call c => match c.callee with
    | .builtin .append | .builtin .copy => match c.args.toList with
      | x :: _ => UU (evV t x)
      | [] => some []
    | _ => some []
  | _ => some []
def U7 (h : List VO) : Option Nat -> Option Nat -> Bool
 | some i, some j => i != j && ownB (bI h i) && ownB (bI h j)
 | some i, none => ownB (bI h i)
 | none, some j => ownB (bI h j)
 | none, none => false
where ownB : VO -> Bool
 | .box _ fr => !fr
 | .lst _ _ _ fr => !fr
 | .dead b => b
def aGq (h : List VO) : Option (List (Option Nat)) -> Option (List (Option Nat)) -> Bool
 | some [], _ => true
 | _, some [] => true
 | some a, some b => a.all fun x => b.all fun y => U7 h x y
 | _, _ => false
def aJh (ops : Array Oper) (s : VS) (p : Nat × Nat) : Bool :=
 match ops[p.1]?, ops[p.2]? with
 | some oi, some oj => aGq s.h (wrV oi.op s.t) (aN3 oj.op s.t) && aGq s.h (aN3 oi.op s.t) (wrV oj.op s.t)
 | _, _ => false
def NV (G : Cfg) (ops : Array Oper) (draw : Bool) (s : VS) (k : VS -> Prop) : Prop :=
  match draw with
  | false => I4 G ops (ops.size + 1) none ops.toList s k
  | true => match JW ops (bU ops.toList #[]) && (pG ops (bU ops.toList #[])).all (fun p => yC ops p.1 && yC ops p.2) with
    | true => I4 G ops (ops.size + 1) none ops.toList s fun s' => match (pG ops (bU ops.toList #[])).all (aJh ops s') with
      | true => k s'
      | false => False
    | false => False
def aEF : List Oper -> Option (List Oper × Oper)
  | [] => none
  | o :: l => match l, aEF l with
    | [], _ => some ([], o)
    | _ :: _, some (p, x) => some (o :: p, x)
    | _ :: _, none => none
def aJw (ops : Array Oper) (draw : Bool) : Option (List Oper × Oper × Operand × List Operand) :=
  match aEF ops.toList with
  | some (pre, o) => match o.guard, o.op with
    | none, .call c => match c.callee with
      | .value f => match draw with
        | false => some (pre, o, f, c.args.toList)
        | true => match JW ops (bU ops.toList #[]) && (pG ops (bU ops.toList #[])).isEmpty && iK ops (bU ops.toList #[]) pre.length with
          | true => some (pre, o, f, c.args.toList)
          | false => none
      | _ => none
    | _, _ => none
  | none => none
def aBu (G : Cfg) (ops : Array Oper) (draw : Bool) (s : VS) (k : VS -> Prop) : Prop :=
  match G.I with
  | none => NV G ops draw s k
  | some J => match aJw ops draw with
    | none => NV G ops draw s k
    | some (pre, o, f, args) => I4 G ops (ops.size + 1) none pre s fun s1 => match evV s1.t f with
      | .fn g caps => match J.B g && aCo G.P g with
        | true => J.run g (args.map (evV s1.t) ++ caps) s1 fun v s2 => k (VS.set s2 o.dst v)
        | false => RR G o s1 k
      | _ => RR G o s1 k
def aHg (kd : IntKind) : Ty -> Bool
 | .int k => decide (k = kd)
 | .slc t => aHg kd t
 | .pair a b => aHg kd a || aHg kd b
 | _ => false
def SE (kd : IntKind) (v : Int) : (T : Ty) -> T.den -> T.den -> Prop
 | .int k, x, y => y = x \/ (k = kd /\ y = v)
 | .slc t, l, m => m.length = l.length /\ ∀ (i : Nat) (x y : t.den), l[i]? = some x -> m[i]? = some y -> SE kd v t x y
 | .pair a b, x, y => SE kd v a x.1 y.1 /\ SE kd v b x.2 y.2
 | .bool, x, y => y = x
 | .str, x, y => y = x
 | .unit, _, _ => True
 | .flt, x, y => y = x
 | .cpx, x, y => y = x
def hvL (kd : IntKind) (v : Int) : VV -> (VV -> Prop) -> Prop
  | .fz o T l, K => match aHg kd T with
    | true => ∀ m : (Ty.slc T).den, SE kd v (.slc T) l m -> K (.fz o T m)
    | false => K (.fz o T l)
  | .pl x, K => K (.pl x)
  | .own i, K => K (.own i)
  | .ptr i o, K => K (.ptr i o)
  | .hof i, K => K (.hof i)
  | _, K => K .undef
def aO6 (kd : IntKind) (v : Int) : List VV -> (List VV -> Prop) -> Prop
 | [], K => K []
 | x :: r, K => hvL kd v x fun y => aO6 kd v r fun l => K (y :: l)
def hvT (kd : IntKind) (v : Int) (t : List (Nat × VV)) : List Nat -> (List (Nat × VV) -> Prop) -> Prop
 | [], K => K []
 | d :: r, K => hvL kd v (bL t d) fun y => hvT kd v t r fun l => K ((d, y) :: l)
def hvO (kd : IntKind) (v : Int) : VO -> (VO -> Prop) -> Prop
  | .box cs false, K => aO6 kd v cs fun cs => K (.box cs false)
  | .lst o T l fr, K => match aHg kd T with
    | true => ∀ m : (Ty.slc T).den, SE kd v (.slc T) l m -> K (.lst o T m fr)
    | false => K (.lst o T l fr)
  | .dead b, K => K (.dead b)
  | _, _ => False
def hvH (kd : IntKind) (v : Int) : List VO -> (List VO -> Prop) -> Prop
 | [], K => K []
 | o :: r, K => hvO kd v o fun o => hvH kd v r fun l => K (o :: l)
def hvS (kd : IntKind) (v : Int) (live : List Nat) (s : VS) (K : VS -> Prop) : Prop := hvT kd v s.t live fun t => hvH kd v s.h fun h => K ⟨t, h⟩
def aIW (ops : Array Oper) (draw : Bool) : Option (List Oper × Oper × TypeId × Operand × Operand) :=
  match aEF ops.toList with
  | some (pre, o) => match o.guard, o.dst, o.op with
    | none, none, .store ty a x => match draw with
      | false => some (pre, o, ty, a, x)
      | true => match JW ops (bU ops.toList #[]) && (pG ops (bU ops.toList #[])).isEmpty with
        | true => some (pre, o, ty, a, x)
        | false => none
    | _, _, _ => none
  | none => none
def aCK (G : Cfg) (ops : Array Oper) (draw : Bool) (live : List Nat) (s : VS) (k : VS -> Prop) : Prop :=
  match G.hv with
  | false => aBu G ops draw s k
  | true => match aIW ops draw with
    | none => aBu G ops draw s k
    | some (pre, o, ty, a, x) => I4 G ops (ops.size + 1) none pre s fun s1 => match evV s1.t a, evV s1.t x with
      | .fptr true (.int kd) _ _ 0, .pl (.int kd' v) => if kd = kd' /\ aEL G.P ty = some 1 then hvS kd v live s1 k else False
      | _, _ => RR G o s1 k
def X1 : Nat -> List VO -> List Nat -> List Nat -> List Nat
  | 0, _, _, acc => acc
  | _ + 1, _, [], acc => acc
  | n + 1, h, i :: todo, acc =>
    match acc.contains i with
    | true => X1 n h todo acc
    | false => X1 n h (todo ++ (match bI h i with
        | .box cs _ => cs.flatMap aOO
        | _ => [])) (acc ++ [i])
def C5 (i : Nat) : List Nat -> Nat -> Option Nat
 | [], _ => none
 | j :: l, n => if i = j then some n else C5 i l (n + 1)
def aIf (ids : List Nat) : VV -> VV
  | .own i => match C5 i ids 0 with
    | some j => .own j
    | none => .undef
  | .ptr i off => match C5 i ids 0 with
    | some j => .ptr j off
    | none => .undef
  | .eptr i ix off => match C5 i ids 0 with
    | some j => .eptr j ix off
    | none => .undef
  | .pl v => .pl v
  | .fz o t l => .fz o t l
  | .fptr o t l ix off => .fptr o t l ix off
  | .hof i => .hof i
  | _ => .undef
def aMm (ids : List Nat) : VV -> VV
 | .agg l => .agg (l.map (aIf ids))
 | .bx l off => .bx (l.map (aIf ids)) off
 | v => aIf ids v
def aPC (ids : List Nat) : VV -> VV
 | .tup l => .tup (l.map (aMm ids))
 | .fn f l => .fn f (l.map (aMm ids))
 | v => aMm ids v
def aHQ (ids : List Nat) : VO -> VO
 | .box cs fr => .box (cs.map (aIf ids)) fr
 | o => o
def aDH (live : List Nat) (s : VS) : List VV × List VO :=
 let vs := live.map (bL s.t)
 let ids := X1 (2 * s.h.length + 40) s.h (vs.flatMap aOY) []
 (vs.map (aPC ids), ids.map fun i => aHQ ids (bI s.h i))
inductive Lf
 | int (k : IntKind)
 | bool
 | str
 | flt
 | cpx
 | fz (o : Bool) (t : Ty)
 | cst (v : VV)
@[reducible] def Lf.den : Lf -> Type
  | .int _ => Int
  | .bool => Bool
  | .str => ByteArray
  | .flt => Nat
  | .cpx => Nat × Nat
  | .fz _ t => List t.den
  | .cst _ => Unit
inductive Cp
 | lf (x : Lf)
 | agg (l : List Lf)
 | bx (l : List Lf)
inductive Sh
 | lf (x : Lf)
 | agg (l : List Lf)
 | bx (l : List Lf)
 | fn (g : FuncId) (l : List Cp)
inductive OSh
 | box (l : List Lf) (fr : Bool)
 | lst (o : Bool) (t : Ty) (fr : Bool)
 | dead
@[reducible] def aDW : List Lf -> Type
  | [] => Unit
  | x :: l => x.den × aDW l
@[reducible] def Cp.den : Cp -> Type
  | .lf x => x.den
  | .agg l => aDW l
  | .bx l => aDW l
@[reducible] def aJ4 : List Cp -> Type
  | [] => Unit
  | x :: l => x.den × aJ4 l
@[reducible] def Sh.den : Sh -> Type
  | .lf x => x.den
  | .agg l => aDW l
  | .bx l => aDW l
  | .fn _ l => aJ4 l
@[reducible] def aI : List Sh -> Type
  | [] => Unit
  | x :: l => x.den × aI l
@[reducible] def OSh.den : OSh -> Type
  | .box l _ => aDW l
  | .lst _ t _ => List t.den
  | .dead => Unit
@[reducible] def aHy : List OSh -> Type
  | [] => Unit
  | x :: l => x.den × aHy l
def aAt : (x : Lf) -> x.den -> VV
 | .int k, n => .pl (.int k n)
 | .bool, b => .pl (.bool b)
 | .str, s => .pl (.string s)
 | .flt, x => .pl (.float .f64 x)
 | .cpx, x => .pl (.complex .f64 x.1 x.2)
 | .fz o t, l => .fz o t l
 | .cst v, _ => v
def aAU : (l : List Lf) -> aDW l -> List VV
 | [], _ => []
 | x :: l, d => aAt x d.1 :: aAU l d.2
def aJ6 : (x : Cp) -> x.den -> VV
 | .lf x, d => aAt x d
 | .agg l, d => .agg (aAU l d)
 | .bx l, d => .bx (aAU l d) 0
def aJs : (l : List Cp) -> aJ4 l -> List VV
 | [], _ => []
 | x :: l, d => aJ6 x d.1 :: aJs l d.2
def aJe : (x : Sh) -> x.den -> VV
 | .lf x, d => aAt x d
 | .agg l, d => .agg (aAU l d)
 | .bx l, d => .bx (aAU l d) 0
 | .fn g l, d => .fn g (aJs l d)
def aM : (l : List Sh) -> aI l -> List VV
 | [], _ => []
 | x :: l, d => aJe x d.1 :: aM l d.2
def aMJ : (x : OSh) -> x.den -> VO
 | .box l fr, d => .box (aAU l d) fr
 | .lst o t fr, d => .lst o t d fr
 | .dead, _ => .dead false
def aLU : (l : List OSh) -> aHy l -> List VO
 | [], _ => []
 | x :: l, d => aMJ x d.1 :: aLU l d.2
def aF7 : VV -> VV -> Bool
 | .own i, .own j => i == j
 | .ptr i o, .ptr j o' => i == j && o == o'
 | .undef, .undef => true
 | .hof i, .hof j => i == j
 | .pl (.int k a), .pl (.int k' b) => decide (k = k') && a == b
 | .pl (.bool a), .pl (.bool b) => a == b
 | .pl (.slice none a b), .pl (.slice none c d) => a == c && b == d
 | .pl .nilFunc, .pl .nilFunc => true
 | .pl (.pointer none), .pl (.pointer none) => true
 | _, _ => false
def aGz : List VV -> List VV -> Bool
 | [], [] => true
 | a :: l, b :: r => aF7 a b && aGz l r
 | _, _ => false
def aI7 : VV -> VV -> Bool
 | .fn f l, .fn g r => f == g && aGz l r
 | a, b => aF7 a b
def unF (x : Lf) (v : VV) (K : x.den -> Prop) : Prop :=
  match x with
  | .int k => match v with
    | .pl (.int k' n) => if k = k' then K n else False
    | _ => False
  | .bool => match v with
    | .pl (.bool b) => K b
    | _ => False
  | .str => match v with
    | .pl (.string s) => K s
    | _ => False
  | .flt => match v with
    | .pl (.float .f64 x) => K x
    | _ => False
  | .cpx => match v with
    | .pl (.complex .f64 a b) => K (a, b)
    | _ => False
  | .fz o t => match v with
    | .fz o' t' l => if o = o' then Ty.at t' t l K else False
    | _ => False
  | .cst c => if aI7 c v = true then K () else False
def unL : (l : List Lf) -> List VV -> (aDW l -> Prop) -> Prop
  | [], vs, K => match vs with
    | [] => K ()
    | _ => False
  | x :: l, vs, K => match vs with
    | v :: r => unF x v fun a => unL l r fun b => K (a, b)
    | [] => False
def aO4 (x : Cp) (v : VV) (K : x.den -> Prop) : Prop :=
  match x with
  | .lf x => unF x v K
  | .agg l => match v with
    | .agg cs => unL l cs K
    | _ => False
  | .bx l => match v with
    | .bx cs 0 => unL l cs K
    | _ => False
def unC : (l : List Cp) -> List VV -> (aJ4 l -> Prop) -> Prop
  | [], vs, K => match vs with
    | [] => K ()
    | _ => False
  | x :: l, vs, K => match vs with
    | v :: r => aO4 x v fun a => unC l r fun b => K (a, b)
    | [] => False
def aOB (x : Sh) (v : VV) (K : x.den -> Prop) : Prop :=
  match x with
  | .lf x => unF x v K
  | .agg l => match v with
    | .agg cs => unL l cs K
    | _ => False
  | .bx l => match v with
    | .bx cs 0 => unL l cs K
    | _ => False
  | .fn g l => match v with
    | .fn g' cs => if g = g' then unC l cs K else False
    | _ => False
def unS : (l : List Sh) -> List VV -> (aI l -> Prop) -> Prop
  | [], vs, K => match vs with
    | [] => K ()
    | _ => False
  | x :: l, vs, K => match vs with
    | v :: r => aOB x v fun a => unS l r fun b => K (a, b)
    | [] => False
def aOX (x : OSh) (v : VO) (K : x.den -> Prop) : Prop :=
  match x with
  | .box l fr => match v with
    | .box cs fr' => if fr = fr' then unL l cs K else False
    | _ => False
  | .lst o t fr => match v with
    | .lst o' t' l fr' => if o = o' /\ fr = fr' then Ty.at t' t l K else False
    | _ => False
  | .dead => match v with
    | .dead false => K ()
    | _ => False
def unO : (l : List OSh) -> List VO -> (aHy l -> Prop) -> Prop
  | [], vs, K => match vs with
    | [] => K ()
    | _ => False
  | x :: l, vs, K => match vs with
    | v :: r => aOX x v fun a => unO l r fun b => K (a, b)
    | [] => False
def aBj : List Nat -> List VV -> List (Nat × VV)
 | d :: ds, v :: vs => (d, v) :: aBj ds vs
 | _, _ => []
structure Ent where
 live : List Nat
 sh : List Sh
 ob : List OSh
 P : aI sh × aHy ob -> (dY -> VS -> Prop) -> Prop
def aPD (live : List Nat) (sh : List Sh) (ob : List OSh) (x : aI sh × aHy ob) : VS := ⟨aBj live (aM sh x.1), aLU ob x.2⟩
def aO7 (live : List Nat) (sh : List Sh) (ob : List OSh) (s : VS) (K : aI sh × aHy ob -> Prop) : Prop :=
 let c := aDH live s
 unS sh c.1 fun a => unO ob c.2 fun b => K (a, b)
def Ent.run (E : Ent) (s : VS) (k : dY -> VS -> Prop) : Prop := aO7 E.live E.sh E.ob s fun x => E.P x k
def Loop {S : Type} (B : S -> (S -> Prop) -> Prop) (s : S) : Prop := ∀ X : S -> Prop, (∀ s, B s X -> X s) -> X s
abbrev Tab := Nat -> Option Ent
structure Co where
 d : Nat
 cell : Option Nat
 fz : Bool
 T : Ty
abbrev Ends := Nat -> Option (List Co × List Nat)
def conv (fz : Bool) (T : Ty) (h : List VO) (v : VV) : Option (VV × List VO) :=
  match fz, v with
  | false, .pl (.slice none 0 0) => some (.own h.length, h ++ [.lst true T [] false])
  | true, .pl (.slice none 0 _) => some (.fz true T [], h)
  | true, .own i => match bI h i with
    | .lst o t l _ => some (.fz o t l, cZ h [i])
    | _ => none
  | _, _ => none
def co1 (s : VS) (c : Co) : VS :=
  match c.cell with
  | none => match conv c.fz c.T s.h (bL s.t c.d) with
    | some (v, h) => ⟨(c.d, v) :: s.t, h⟩
    | none => s
  | some q => match bL s.t c.d with
    | .ptr i _ => match bI s.h i with
      | .box cs fr => match cs[q]? with
        | some u => match conv c.fz c.T s.h u with
          | some (v, h) => ⟨s.t, h.set i (.box (cs.set q v) fr)⟩
          | none => s
        | none => s
      | _ => s
    | _ => s
def aMC : List Co -> VS -> VS
 | [], s => s
 | c :: cs, s => aMC cs (co1 s c)
def MS (ct : Tab) (n : Nat) (f : VS -> (dY -> VS -> Prop) -> Prop) (s : VS) (k : dY -> VS -> Prop) : Prop :=
 match ct n with
 | some E => E.run s k
 | none => f s k
def aOz (live : List Nat) (s : VS) : VS := ⟨aBj live (aDH live s).1, (aDH live s).2⟩
def HY (en : Ends) (n : Nat) (s : VS) : VS :=
 match en n with
 | some (cs, l) => aOz l (aMC cs s)
 | none => s
def LB (k : dY -> VS -> Prop) (en : Ends) (n : Nat) (b : VS -> (dY -> VS -> Prop) -> Prop) (s : VS) (nx : VS -> Prop) : Prop :=
  b s fun e s' => match e with
    | .normal => nx (HY en n s')
    | e => k e s'
def aOG (en : Ends) (n : Nat) : List Nat :=
 match en n with
 | some (_, l) => l
 | none => []
def vwp (G : Cfg) (ct : Tab) (en : Ends) : Code -> Nat -> VS -> (dY -> VS -> Prop) -> Prop
  | .skip, n, s, k => k .normal (HY en n s)
  | .label _, n, s, k => k .normal (HY en n s)
  | .region _ ops draw, n, s, k => aCK G ops draw (aOG en n) s fun s' => k .normal (HY en n s')
  | .seq a b, n, s, k => MS ct (2 * n) (vwp G ct en a (2 * n)) s fun e s' => match e with
    | .normal => MS ct (2 * n + 1) (vwp G ct en b (2 * n + 1)) s' k
    | e => k e s'
  | .cond c x y, n, s, k => match evV s.t c with
    | .pl (.bool b) => if b = true then MS ct (2 * n) (vwp G ct en x (2 * n)) s k else MS ct (2 * n + 1) (vwp G ct en y (2 * n + 1)) s k
    | _ => False
  | .block id b, n, s, k => MS ct (2 * n) (vwp G ct en b (2 * n)) s fun e s' => match e with
    | .exit id' => k (if id' = id then .normal else .exit id') s'
    | e => k e s'
  | .loop b, n, s, k => Loop (LB k en n (MS ct (2 * n) (vwp G ct en b (2 * n)))) (HY en n s)
  | .exit id, n, s, k => k (.exit id) (HY en n s)
  | .ret, n, s, k => k .ret (HY en n s)
  | _, _, _, _ => False
def aBT (x : Lf) (v : VV) (K : x.den -> Prop) : Prop :=
  match x with
  | .fz false t => match v with
    | .fz false t' l => Ty.at t' t l K
    | .pl (.slice none 0 _) => K []
    | _ => False
  | x => unF x v K
def aH0 : (l : List Lf) -> List VV -> (aDW l -> Prop) -> Prop
  | [], vs, K => match vs with
    | [] => K ()
    | _ => False
  | x :: l, vs, K => match vs with
    | v :: r => aBT x v fun a => aH0 l r fun b => K (a, b)
    | [] => False
def aLf (x : Cp) (v : VV) (K : x.den -> Prop) : Prop :=
  match x with
  | .lf x => aBT x v K
  | .agg l => match v with
    | .agg cs => aH0 l cs K
    | _ => False
  | .bx l => match v with
    | .bx cs 0 => aH0 l cs K
    | _ => False
def aLP : (l : List Cp) -> List VV -> (aJ4 l -> Prop) -> Prop
  | [], vs, K => match vs with
    | [] => K ()
    | _ => False
  | x :: l, vs, K => match vs with
    | v :: r => aLf x v fun a => aLP l r fun b => K (a, b)
    | [] => False
def aLK (x : Sh) (v : VV) (K : x.den -> Prop) : Prop :=
  match x with
  | .lf x => aBT x v K
  | .agg l => match v with
    | .agg cs => aH0 l cs K
    | _ => False
  | .bx l => match v with
    | .bx cs 0 => aH0 l cs K
    | _ => False
  | .fn g l => match v with
    | .fn g' cs => if g = g' then aLP l cs K else False
    | _ => False
def aAo : List VV -> List Nat
 | [] => []
 | .fn g _ :: l => g :: aAo l
 | _ :: l => aAo l
def aJf : List Nat -> List Nat -> Bool
 | [], [] => true
 | a :: l, b :: r => a == b && aJf l r
 | _, _ => false
def unA : (l : List Sh) -> List VV -> (aI l -> Prop) -> Prop
  | [], vs, K => match vs with
    | [] => K ()
    | _ => False
  | x :: l, vs, K => match vs with
    | v :: r => aLK x v fun a => unA l r fun b => K (a, b)
    | [] => False
def aIl (G : Cfg) (s : VS) : List ResultVar -> (List VV -> Prop) -> Prop
  | [], K => K []
  | .tmp d :: r, K => aIl G s r fun l => K (bL s.t d :: l)
  | .cell d ty :: r, K => match bL s.t d with
    | .ptr i off => match bI s.h i with
      | .box cs _ => XH (aTy G.P ty) cs off fun v => aIl G s r fun l => K (v :: l)
      | _ => False
    | _ => False
def xp : (t : Ty) -> List VV -> List VO -> (t.den -> List VV -> List VO -> Prop) -> Prop
  | .int k, cs, h, K => match cs with
    | .pl (.int k' n) :: r => if k = k' then K n r h else False
    | _ => False
  | .bool, cs, h, K => match cs with
    | .pl (.bool b) :: r => K b r h
    | _ => False
  | .str, cs, h, K => match cs with
    | .pl (.string s) :: r => K s r h
    | _ => False
  | .flt, cs, h, K => match cs with
    | .pl (.float .f64 x) :: r => K x r h
    | _ => False
  | .cpx, cs, h, K => match cs with
    | .pl (.complex .f64 a b) :: r => K (a, b) r h
    | _ => False
  | .slc t, cs, h, K => match cs with
    | .own i :: r => match bI h i with
      | .lst true t' l false => Ty.at t' t l fun l => K l r (h.set i (.dead false))
      | _ => False
    | .pl (.slice none 0 0) :: r => K [] r h
    | _ => False
  | .unit, cs, h, K => K () cs h
  | .pair a b, cs, h, K => xp a cs h fun x r h' => xp b r h' fun y r' h'' => K (x, y) r' h''
inductive Al
 | n
 | f
 | z
 | p (a b : Al)
def xpA : Al -> (t : Ty) -> List VV -> List VO -> (t.den -> List VV -> List VO -> Prop) -> Prop
  | .f, .slc t, cs, h, K => match cs with
    | .fz _ t' l :: r => Ty.at t' t l fun l => K l r h
    | .own i :: r => match bI h i with
      | .lst _ t' l true => Ty.at t' t l fun l => K l r h
      | _ => False
    | .pl (.slice none 0 0) :: r => K [] r h
    | _ => False
  | .z, .slc t, cs, h, K => match cs with
    | .own i :: r => match bI h i with
      | .lst true t' l false => Ty.at t' t l fun l => ck (l ≠ []) (K l r (h.set i (.dead false)))
      | _ => False
    | .pl (.slice none 0 0) :: r => K [] r h
    | _ => False
  | .p x y, .pair a b, cs, h, K => xpA x a cs h fun u r h' => xpA y b r h' fun v r' h'' => K (u, v) r' h''
  | _, t, cs, h, K => xp t cs h K
abbrev aHu := List (Bool × Ty)
@[reducible] def aKf : aHu -> Type
  | [] => Unit
  | (_, t) :: l => t.den × aKf l
def aMk : (t : Ty) -> t.den -> List VV
 | .int k, n => [.pl (.int k n)]
 | .bool, b => [.pl (.bool b)]
 | .str, s => [.pl (.string s)]
 | .flt, x => [.pl (.float .f64 x)]
 | .cpx, x => [.pl (.complex .f64 x.1 x.2)]
 | .slc t, l => [.nw t l]
 | .unit, _ => []
 | .pair a b, x => aMk a x.1 ++ aMk b x.2
def aGh : Al -> (t : Ty) -> t.den -> List VV
 | .f, .slc t, l => [.fz false t l]
 | .p x y, .pair a b, d => aGh x a d.1 ++ aGh y b d.2
 | _, t, d => aMk t d
def zmk : Bool -> Al -> Ty -> List VV
 | false, .z, .slc _ => [.undef]
 | _, _, _ => []
def aH : (rt : aHu) -> List Al -> aKf rt -> List (Bool × List VV)
 | [], _, _ => []
 | (g, t) :: l, al, d => (g, aGh (al.headD .n) t d.1 ++ zmk g (al.headD .n) t) :: aH l al.tail d.2
abbrev aOq (rt : aHu) (d : aKf rt) : List (Bool × List VV) := aH rt [] d
def aH9 : VV -> Bool
 | .agg _ => true
 | _ => false
def aCt : (rt : aHu) -> List Al -> List VV -> List VO -> (aKf rt -> Prop) -> Prop
  | [], _, vs, _, K => match vs with
    | [] => K ()
    | _ => False
  | (g, t) :: l, al, vs, h, K => match vs with
    | v :: r => if aH9 v = g /\ (g = true \/ okL v = true) then xpA (al.headD .n) t (cL v) h fun x left h' => match left with
        | [] => aCt l al.tail r h' fun y => K (x, y)
        | _ => False
      else False
    | [] => False
def OQ (args : List VV) : List (Nat × VV) := aBj (List.range args.length) args
def UH (n : Nat) (t : List (Nat × VV)) : List (Nat × VV) := t.map fun p => (p.1 + n, p.2)
def qZ (n : Nat) : List (Nat × VV) -> List (Nat × VV)
 | [] => []
 | (d, v) :: l => if n <= d then (d - n, v) :: qZ n l else qZ n l
def TN (G : Cfg) (ct : Tab) (en : Ends) (fn : Func) (c : Code) (args : List VV) (s : VS) (k : VV -> VS -> Prop) : Prop :=
  match fn.results.toList with
  | [] => if args.length <= fn.ntmps then MS ct 1 (vwp G ct en c 1) ⟨OQ args ++ UH fn.ntmps s.t, s.h⟩ fun e s2 => match e with
      | .normal | .ret => k (.tup []) ⟨qZ fn.ntmps s2.t, s2.h⟩
      | _ => False
    else False
  | _ => False
def aOA (G : Cfg) (ct : Tab) (en : Ends) (fn : Func) (c : Code) (rt : aHu) (al : List Al) (args : List VV) (Q : aKf rt -> Prop) : Prop :=
  MS ct 1 (vwp G ct en c 1) ⟨OQ args, []⟩ fun e s => match e with
    | .normal | .ret => aIl G s fn.results.toList fun vs => aCt rt al vs s.h Q
    | _ => False
end Go.Mach
