/- Part of the proof. No condition. -/
import Derived.Test.YtcfpfefadlnmcaaGreatYVDef
namespace Go.Mach
def RG : List VV -> List VO -> List VV × List VO
  | [], h => ([], h)
  | v :: r, h => match v with
    | .nw t l => let p := RG r (h ++ [.lst true t l false]); (.own h.length :: p.1, p.2)
    | v => let p := RG r h; (v :: p.1, p.2)
def EM : List (Bool × List VV) -> List VO -> List VV × List VO
  | [], h => ([], h)
  | (g, cs) :: r, h =>
    let p := RG cs h
    let q := EM r p.2
    ((if g then .agg p.1 else p.1.headD .undef) :: q.1, q.2)
def aDS : List VV -> VV
 | [v] => v
 | vs => .tup vs
def QW (h : List VO) : VV -> List Nat
  | .agg l => l.flatMap yU
  | .ptr i _ => i :: (match bN h i with
    | .box cs _ => cs.flatMap yU
    | _ => [])
  | .bx l _ => l.flatMap yU
  | v => yU v
def S3 (h : List VO) : VV -> List Nat
 | .fn _ l => l.flatMap (QW h)
 | v => QW h v
def aOo : VV -> Bool
 | .fz _ _ _ => true
 | .fn _ _ => true
 | _ => false
def TA (sl : List (Bool × List VV)) : Bool := sl.any fun p => p.2.any aOo
def RU : List (Bool × List VV) -> (List (Bool × List VV) -> Prop) -> Prop
  | [], k => k []
  | p :: r, k => match p with
    | (false, [.nw T l, .undef]) => nz l (RU r fun r' => k ((false, [.pl (.slice none 0 0)]) :: r')) (RU r fun r' => k ((false, [.nw T l]) :: r'))
    | p => RU r fun r' => k (p :: r')
def aLF (G : Cfg) (f : VV) (args : List VV) (h : List VO) (K : VV -> List VO -> Prop) : Prop :=
  match f with
  | .fn g caps => if UQ G.P g then
      G.O g (args.map (aHx h) ++ caps.map (aHx h)) (fun r => RU r fun r => let p := EM r (match TA r with
        | true => dF h ((args ++ caps).flatMap (S3 h))
        | false => h); K (aDS p.1) p.2) else False
  | _ => False
def ZO (G : Cfg) (o : Oper) (s : VS) (k : VS -> Prop) : Prop :=
  match o.op with
  | .call c => match c.callee with
    | .value f => aLF G (evV s.t f) (c.args.toList.map (evV s.t)) s.h fun v h => k (VS.set ⟨s.t, h⟩ o.dst v)
    | _ => cB G o.op s.t s.h fun v h => k (VS.set ⟨s.t, h⟩ o.dst v)
  | _ => cB G o.op s.t s.h fun v h => k (VS.set ⟨s.t, h⟩ o.dst v)
def WK : Option (Nat × Bool) -> Option (Nat × Bool) -> Bool
 | none, none => true
 | some (i, a), some (j, b) => i == j && a == b
 | _, _ => false
def S5 (g : Option (Nat × Bool)) : List Oper -> List Oper × List Oper
 | [] => ([], [])
 | o :: l => if WK o.guard g then ([], o :: l) else let r := S5 g l; (o :: r.1, r.2)
def yK : Op -> Bool
  | .move _ | .assign _ | .load .. | .binOp .. | .unOp .. | .fieldAddr .. | .field .. | .indexAddr .. | .index .. | .extract .. | .convert .. | .pick .. => true
  | .alloc _ | .box .. | .build .. | .buildSlice .. | .makeSlice .. | .slice .. | .sliceToArrayPointer .. => true
  | .call c => match c.callee with
    | .builtin .len | .builtin .min | .builtin .max | .builtin .complex | .builtin .real | .builtin .imag => true
    | .value _ => true
    | _ => false
  | _ => false
def EO : Op -> Bool
  | .move _ | .assign _ | .load .. | .unOp .. | .fieldAddr .. | .field .. | .extract .. | .convert .. | .pick .. => true
  | .binOp b _ _ _ _ => match b with
    | .shl | .shr | .quo | .rem => false
    | _ => true
  | .call c => match c.callee with
    | .builtin .len | .builtin .min | .builtin .max | .builtin .complex | .builtin .real | .builtin .imag => true
    | _ => false
  | _ => false
def aJq (ops : Array Oper) (j : Nat) (w : Bool) : List Nat -> List Oper -> Bool
  | _, [] => true
  | known, o :: l => (match o.guard with
    | none => false
    | some (j', w') => (j' == j && w' == w) || (match (ops[j']?).bind (·.dst) with
      | some x => known.contains x
      | none => false)) && aJq ops j w (match o.dst with
        | some x => x :: known
        | none => known) l
def xT : List Oper -> List (Nat × VV) -> List (Nat × VV)
  | [], t => t
  | o :: l, t => match o.dst with
    | some d => (d, .undef) :: xT l t
    | none => xT l t
def WR (h : Nat) : VV -> VV
 | .ptr i off => if i < h then .mptr i off else .undef
 | _ => .undef
def vS (h : Nat) : List Oper -> List (Nat × VV) -> List (Nat × VV) -> List (Nat × VV)
  | [], _, t => t
  | o :: l, t2, t => match o.dst with
    | some d => (d, WR h (cH t2 d)) :: vS h l t2 t
    | none => vS h l t2 t
def UD (v : VV) (K : Bool -> Prop) : Prop :=
 match v with
 | .pl (.bool b) => K b
 | _ => False
def aFB : Operand -> Option Bool
 | .const (.bool b) => some b
 | _ => none
def aL0 (d : Nat) (b : Oper) : Bool :=
 match b.dst with
 | some x => x != d
 | none => true
def D9 (G : Cfg) (ops : Array Oper) : Nat -> Option (Nat × Bool) -> List Oper -> VS -> (VS -> Prop) -> Prop
  | 0, _, _, _, _ => False
  | _ + 1, _, [], s, k => k s
  | n + 1, g, o :: rest, s, k =>
    match WK o.guard g with
    | true => ZO G o s fun s' => D9 G ops n g rest s' k
    | false => match S5 g (o :: rest), o.guard with
      | (body, res :: rest'), some (j, w) =>
        match (ops[j]?).bind (·.dst), res.op, res.dst with
        | some d, .pick (.tmp c) x y, some r =>
          match c == d && r != d && body.all (fun b => aL0 d b && yK b.op) && aJq ops j w [] body && aFB (if w then y else x) == some (!w), cH s.t d with
          | true, .pl (.bool b) =>
            match body.all (fun b => EO b.op) with
            | true => D9 G ops n (some (j, w)) body s fun s2 => UD (evV s2.t (if w then x else y)) fun v =>
                D9 G ops n g rest' ⟨(r, .pl (.bool (if w then b && v else b || v))) :: vS s.h.length body s2.t s.t, s.h⟩ k
            | false => jn (fun v => D9 G ops n g rest' ⟨(r, .pl (.bool v)) :: xT body s.t, s.h⟩ k) fun J =>
                if b = true then (if w = true then D9 G ops n (some (j, w)) body s fun s2 => UD (evV s2.t x) J else J true)
                else (if w = true then J false else D9 G ops n (some (j, w)) body s fun s2 => UD (evV s2.t y) J)
          | _, _ => False
        | _, _, _ => False
      | _, _ => False
def UY : VV -> Option (List (Option Nat))
 | .own i | .ptr i _ | .eptr i _ _ | .mptr i _ => some [some i]
 | .fptr _ _ _ _ _ | .bx _ _ => some [none]
 | .pl _ | .agg _ | .tup _ | .fn _ _ => some []
 | _ => none
def aAx : List VV -> Option (List (Option Nat))
  | [] => some []
  | v :: l => match UY v, aAx l with
    | some a, some b => some (a ++ b)
    | _, _ => none
def aN1 (op : Op) (t : List (Nat × VV)) : Option (List (Option Nat)) :=
  match op with
  | .load _ a => UY (evV t a)
  | .store _ a _ => UY (evV t a)
  | .convert _ _ x => UY (evV t x)
  | .call c => match c.callee with
    | .builtin .append | .builtin .copy => aAx (c.args.toList.map (evV t))
    | _ => some []
  | _ => some []
def wrV (op : Op) (t : List (Nat × VV)) : Option (List (Option Nat)) :=
  match op with
  | .store _ a _ => UY (evV t a)
  | .call c => match c.callee with
    | .builtin .append | .builtin .copy => match c.args.toList with
      | x :: _ => UY (evV t x)
      | [] => some []
    | _ => some []
  | _ => some []
def PX (h : List VO) : Option Nat -> Option Nat -> Bool
 | some i, some j => i != j && ((boxB (bN h i) || boxB (bN h j)) || ownB (bN h i) && ownB (bN h j))
 | some i, none => ownB (bN h i)
 | none, some j => ownB (bN h j)
 | none, none => false
where
 ownB : VO -> Bool
  | .box _ fr => !fr
  | .lst _ _ _ fr => !fr
  | .dead b => b
 boxB : VO -> Bool
  | .box _ _ => true
  | _ => false
def aF5 (h : List VO) : Option (List (Option Nat)) -> Option (List (Option Nat)) -> Bool
 | some [], _ => true
 | _, some [] => true
 | some a, some b => a.all fun x => b.all fun y => PX h x y
 | _, _ => false
def aDK (ops : Array Oper) (s : VS) (p : Nat × Nat) : Bool :=
 match ops[p.1]?, ops[p.2]? with
 | some oi, some oj => aF5 s.h (wrV oi.op s.t) (aN1 oj.op s.t) && aF5 s.h (aN1 oi.op s.t) (wrV oj.op s.t)
 | _, _ => false
def QY (G : Cfg) (ops : Array Oper) (draw : Bool) (s : VS) (k : VS -> Prop) : Prop :=
  match draw with
  | false => D9 G ops (ops.size + 1) none ops.toList s k
  | true => match KD ops (bP ops.toList #[]) && (jP ops (bP ops.toList #[])).all (fun p => sU ops p.1 && sU ops p.2) with
    | true => D9 G ops (ops.size + 1) none ops.toList s fun s' => match (jP ops (bP ops.toList #[])).all (aDK ops s') with
      | true => k s'
      | false => False
    | false => False
def aGW : List Oper -> Option (List Oper × Oper)
  | [] => none
  | o :: l => match l, aGW l with
    | [], _ => some ([], o)
    | _ :: _, some (p, x) => some (o :: p, x)
    | _ :: _, none => none
def aKH (ops : Array Oper) (draw : Bool) : Option (List Oper × Oper × Operand × List Operand) :=
  match aGW ops.toList with
  | some (pre, o) => match o.guard, o.op with
    | none, .call c => match c.callee with
      | .value f => match draw with
        | false => some (pre, o, f, c.args.toList)
        | true => match KD ops (bP ops.toList #[]) && (jP ops (bP ops.toList #[])).isEmpty && gN ops (bP ops.toList #[]) pre.length with
          | true => some (pre, o, f, c.args.toList)
          | false => none
      | _ => none
    | _, _ => none
  | none => none
def aC4 (B : FuncId -> Bool) (p : List Oper) : List Oper -> Option (List Oper × Oper × FuncId × List Operand × List Oper)
  | [] => none
  | o :: r => match o.guard, o.op with
    | none, .call c => match c.callee with
      | .value (.func g) => match B g with
        | true => some (p, o, g, c.args.toList, r)
        | false => aC4 B (p ++ [o]) r
      | _ => aC4 B (p ++ [o]) r
    | _, _ => aC4 B (p ++ [o]) r
def aGH (B : FuncId -> Bool) (ops : Array Oper) (draw : Bool) : Option (List Oper × Oper × FuncId × List Operand × List Oper) :=
  match aC4 B [] ops.toList with
  | none => none
  | some (p, o, g, azz, r) => match draw with
    | false => some (p, o, g, azz, r)
    | true => match KD ops (bP ops.toList #[]) && (jP ops (bP ops.toList #[])).all (fun q => sU ops q.1 && sU ops q.2) && gN ops (bP ops.toList #[]) p.length with
      | true => some (p, o, g, azz, r)
      | false => none
def aGa (G : Cfg) (ops : Array Oper) (draw : Bool) (s : VS) (k : VS -> Prop) : Prop :=
  match G.I with
  | none => QY G ops draw s k
  | some J => match aKH ops draw with
    | none => match aGH J.B ops draw with
      | none => QY G ops draw s k
      | some (pre, o, g, args, post) => D9 G ops (ops.size + 1) none pre s fun s1 => match UQ G.P g with
        | true => J.run g (args.map (evV s1.t)) s1 fun v s2 => D9 G ops (ops.size + 1) none post (VS.set s2 o.dst v) fun s' => match !draw || (jP ops (bP ops.toList #[])).all (aDK ops s') with
          | true => k s'
          | false => False
        | false => False
    | some (pre, o, f, args) => D9 G ops (ops.size + 1) none pre s fun s1 => match evV s1.t f with
      | .fn g caps => match J.B g && UQ G.P g with
        | true => J.run g (args.map (evV s1.t) ++ caps) s1 fun v s2 => k (VS.set s2 o.dst v)
        | false => ZO G o s1 k
      | _ => ZO G o s1 k
def aCz (G : Cfg) (ops : Array Oper) (draw : Bool) (live : List Nat) (s : VS) (k : VS -> Prop) : Prop := aGa G ops draw s k
def XY : Nat -> List VO -> List Nat -> List Nat -> List Nat
  | 0, _, _, acc => acc
  | _ + 1, _, [], acc => acc
  | n + 1, h, i :: todo, acc =>
    match acc.contains i with
    | true => XY n h todo acc
    | false => XY n h (todo ++ (match bN h i with
        | .box cs _ => cs.flatMap aNK
        | _ => [])) (acc ++ [i])
def BT (i : Nat) : List Nat -> Nat -> Option Nat
 | [], _ => none
 | j :: l, n => if i = j then some n else BT i l (n + 1)
def aFV (ids : List Nat) : VV -> VV
  | .own i => match BT i ids 0 with
    | some j => .own j
    | none => .undef
  | .ptr i off => match BT i ids 0 with
    | some j => .ptr j off
    | none => .undef
  | .eptr i ix off => match BT i ids 0 with
    | some j => .eptr j ix off
    | none => .undef
  | .pl v => .pl v
  | .er b => .er b
  | .fz o t l => .fz o t l
  | .fptr o t l ix off => .fptr o t l ix off
  | .hof i => .hof i
  | _ => .undef
def aNc (ids : List Nat) : VV -> VV
 | .agg l => .agg (l.map (aFV ids))
 | .bx l off => .bx (l.map (aFV ids)) off
 | .bs l => .bs (l.map (aFV ids))
 | v => aFV ids v
def aPY (ids : List Nat) : VV -> VV
 | .tup l => .tup (l.map (aNc ids))
 | .fn f l => .fn f (l.map (aNc ids))
 | v => aNc ids v
def aF2 (ids : List Nat) : VO -> VO
 | .box cs fr => .box (cs.map (aFV ids)) fr
 | o => o
def aDC (live : List Nat) (s : VS) : List VV × List VO :=
 let vs := live.map (cH s.t)
 let ids := XY (2 * s.h.length + 40) s.h (vs.flatMap aNu) []
 (vs.map (aPY ids), ids.map fun i => aF2 ids (bN s.h i))
inductive Lf
 | int (k : IntKind)
 | bool
 | str
 | flt
 | cpx
 | fz (o : Bool) (t : Ty)
 | cst (v : VV)
@[reducible] def Lf.den : Lf -> Type
  | .int _ => Int
  | .bool => Bool
  | .str => ByteArray
  | .flt => Nat
  | .cpx => Nat × Nat
  | .fz _ t => List t.den
  | .cst _ => Unit
inductive Cp
 | lf (x : Lf)
 | agg (l : List Lf)
 | bx (l : List Lf)
inductive Sh
 | lf (x : Lf)
 | agg (l : List Lf)
 | bx (l : List Lf)
 | fn (g : FuncId) (l : List Cp)
abbrev lI : Lf := .int .i64
abbrev lB : Lf := .bool
abbrev lZ (t : Ty) : Lf := .fz false t
abbrev sI : Sh := .lf (.int .i64)
abbrev sB : Sh := .lf .bool
abbrev sZ (t : Ty) : Sh := .lf (.fz false t)
abbrev sC (v : VV) : Sh := .lf (.cst v)
@[reducible] def vI (n : Int) : VV := .pl (.int .i64 n)
@[reducible] def vB (b : Bool) : VV := .pl (.bool b)
@[reducible] def vK (k : IntKind) (n : Int) : VV := .pl (.int k n)
@[reducible] def vZ (t : Ty) (l : List t.den) : VV := .fz false t l
@[reducible] def vT (t : Ty) (l : List t.den) : VV := .fz true t l
abbrev QT := List (Bool × List VV) -> Prop
inductive OSh
 | box (l : List Lf) (fr : Bool)
 | lst (o : Bool) (t : Ty) (fr : Bool)
 | dead
@[reducible] def aBV : List Lf -> Type
  | [] => Unit
  | x :: l => x.den × aBV l
@[reducible] def Cp.den : Cp -> Type
  | .lf x => x.den
  | .agg l => aBV l
  | .bx l => aBV l
@[reducible] def aIZ : List Cp -> Type
  | [] => Unit
  | x :: l => x.den × aIZ l
@[reducible] def Sh.den : Sh -> Type
  | .lf x => x.den
  | .agg l => aBV l
  | .bx l => aBV l
  | .fn _ l => aIZ l
@[reducible] def aM : List Sh -> Type
  | [] => Unit
  | x :: l => x.den × aM l
@[reducible] def OSh.den : OSh -> Type
  | .box l _ => aBV l
  | .lst _ t _ => List t.den
  | .dead => Unit
@[reducible] def aHC : List OSh -> Type
  | [] => Unit
  | x :: l => x.den × aHC l
def ZU : (x : Lf) -> x.den -> VV
 | .int k, n => .pl (.int k n)
 | .bool, b => .pl (.bool b)
 | .str, s => .pl (.string s)
 | .flt, x => .pl (.float .f64 x)
 | .cpx, x => .pl (.complex .f64 x.1 x.2)
 | .fz o t, l => .fz o t l
 | .cst v, _ => v
def Y7 : (l : List Lf) -> aBV l -> List VV
 | [], _ => []
 | x :: l, d => ZU x d.1 :: Y7 l d.2
def aJM : (x : Cp) -> x.den -> VV
 | .lf x, d => ZU x d
 | .agg l, d => .agg (Y7 l d)
 | .bx l, d => .bx (Y7 l d) 0
def aJa : (l : List Cp) -> aIZ l -> List VV
 | [], _ => []
 | x :: l, d => aJM x d.1 :: aJa l d.2
def aJX : (x : Sh) -> x.den -> VV
 | .lf x, d => ZU x d
 | .agg l, d => .agg (Y7 l d)
 | .bx l, d => .bx (Y7 l d) 0
 | .fn g l, d => .fn g (aJa l d)
def aJ : (l : List Sh) -> aM l -> List VV
 | [], _ => []
 | x :: l, d => aJX x d.1 :: aJ l d.2
def aM7 : (x : OSh) -> x.den -> VO
 | .box l fr, d => .box (Y7 l d) fr
 | .lst o t fr, d => .lst o t d fr
 | .dead, _ => .dead false
def aLi : (l : List OSh) -> aHC l -> List VO
 | [], _ => []
 | x :: l, d => aM7 x d.1 :: aLi l d.2
def aCe : VV -> VV -> Bool
 | .own i, .own j => i == j
 | .ptr i o, .ptr j o' => i == j && o == o'
 | .undef, .undef => true
 | .hof i, .hof j => i == j
 | .pl (.int k a), .pl (.int k' b) => decide (k = k') && a == b
 | .pl (.bool a), .pl (.bool b) => a == b
 | .pl (.slice none a b), .pl (.slice none c d) => a == c && b == d
 | .pl .nilFunc, .pl .nilFunc => true
 | .pl (.pointer none), .pl (.pointer none) => true
 | _, _ => false
def aFv : List VV -> List VV -> Bool
 | [], [] => true
 | a :: l, b :: r => aCe a b && aFv l r
 | _, _ => false
def aEj : VV -> VV -> Bool
 | .fn f l, .fn g r => f == g && aFv l r
 | a, b => aCe a b
def unF (x : Lf) (v : VV) (K : x.den -> Prop) : Prop :=
  match x with
  | .int k => match v with
    | .pl (.int k' n) => if k = k' then K n else False
    | _ => False
  | .bool => match v with
    | .pl (.bool b) => K b
    | _ => False
  | .str => match v with
    | .pl (.string s) => K s
    | _ => False
  | .flt => match v with
    | .pl (.float .f64 x) => K x
    | _ => False
  | .cpx => match v with
    | .pl (.complex .f64 a b) => K (a, b)
    | _ => False
  | .fz o t => match v with
    | .fz o' t' l => if o = o' then Ty.at t' t l K else False
    | _ => False
  | .cst c => if aEj c v = true then K () else False
def unL : (l : List Lf) -> List VV -> (aBV l -> Prop) -> Prop
  | [], vs, K => match vs with
    | [] => K ()
    | _ => False
  | x :: l, vs, K => match vs with
    | v :: r => unF x v fun a => unL l r fun b => K (a, b)
    | [] => False
def aNx (x : Cp) (v : VV) (K : x.den -> Prop) : Prop :=
  match x with
  | .lf x => unF x v K
  | .agg l => match v with
    | .agg cs => unL l cs K
    | _ => False
  | .bx l => match v with
    | .bx cs 0 => unL l cs K
    | _ => False
def unC : (l : List Cp) -> List VV -> (aIZ l -> Prop) -> Prop
  | [], vs, K => match vs with
    | [] => K ()
    | _ => False
  | x :: l, vs, K => match vs with
    | v :: r => aNx x v fun a => unC l r fun b => K (a, b)
    | [] => False
def aOH (x : Sh) (v : VV) (K : x.den -> Prop) : Prop :=
  match x with
  | .lf x => unF x v K
  | .agg l => match v with
    | .agg cs => unL l cs K
    | _ => False
  | .bx l => match v with
    | .bx cs 0 => unL l cs K
    | _ => False
  | .fn g l => match v with
    | .fn g' cs => if g = g' then unC l cs K else False
    | _ => False
def unS : (l : List Sh) -> List VV -> (aM l -> Prop) -> Prop
  | [], vs, K => match vs with
    | [] => K ()
    | _ => False
  | x :: l, vs, K => match vs with
    | v :: r => aOH x v fun a => unS l r fun b => K (a, b)
    | [] => False
def aOd (x : OSh) (v : VO) (K : x.den -> Prop) : Prop :=
  match x with
  | .box l fr => match v with
    | .box cs fr' => if fr = fr' then unL l cs K else False
    | _ => False
  | .lst o t fr => match v with
    | .lst o' t' l fr' => if o = o' /\ fr = fr' then Ty.at t' t l K else False
    | _ => False
  | .dead => match v with
    | .dead false => K ()
    | _ => False
def unO : (l : List OSh) -> List VO -> (aHC l -> Prop) -> Prop
  | [], vs, K => match vs with
    | [] => K ()
    | _ => False
  | x :: l, vs, K => match vs with
    | v :: r => aOd x v fun a => unO l r fun b => K (a, b)
    | [] => False
def aAX : List Nat -> List VV -> List (Nat × VV)
 | d :: ds, v :: vs => (d, v) :: aAX ds vs
 | _, _ => []
structure Ent where
 live : List Nat
 sh : List Sh
 ob : List OSh
 P : aM sh × aHC ob -> (dP -> VS -> Prop) -> Prop
def aPT (live : List Nat) (sh : List Sh) (ob : List OSh) (x : aM sh × aHC ob) : VS := ⟨aAX live (aJ sh x.1), aLi ob x.2⟩
def aOW (live : List Nat) (sh : List Sh) (ob : List OSh) (s : VS) (K : aM sh × aHC ob -> Prop) : Prop :=
 let c := aDC live s
 unS sh c.1 fun a => unO ob c.2 fun b => K (a, b)
def Ent.run (E : Ent) (s : VS) (k : dP -> VS -> Prop) : Prop := aOW E.live E.sh E.ob s fun x => E.P x k
def Loop {S : Type} (B : S -> (S -> Prop) -> Prop) (s : S) : Prop := ∀ X : S -> Prop, (∀ s, B s X -> X s) -> X s
abbrev Tab := Nat -> Option Ent
structure Co where
 d : Nat
 cell : Option Nat
 fz : Bool
 T : Ty
abbrev Ends := Nat -> Option (List Co × List Nat)
def conv (fz : Bool) (T : Ty) (h : List VO) (v : VV) : Option (VV × List VO) :=
  match fz, v with
  | false, .pl (.slice none 0 0) => some (.own h.length, h ++ [.lst true T [] false])
  | true, .pl (.slice none 0 _) => some (.fz true T [], h)
  | true, .own i => match bN h i with
    | .lst o t l _ => some (.fz o t l, dF h [i])
    | _ => none
  | _, _ => none
def co1 (s : VS) (c : Co) : VS :=
  match c.cell with
  | none => match conv c.fz c.T s.h (cH s.t c.d) with
    | some (v, h) => ⟨(c.d, v) :: s.t, h⟩
    | none => s
  | some q => match cH s.t c.d with
    | .ptr i _ => match bN s.h i with
      | .box cs fr => match cs[q]? with
        | some u => match conv c.fz c.T s.h u with
          | some (v, h) => ⟨s.t, h.set i (.box (cs.set q v) fr)⟩
          | none => s
        | none => s
      | _ => s
    | _ => s
def aLR : List Co -> VS -> VS
 | [], s => s
 | c :: cs, s => aLR cs (co1 s c)
def KN (ct : Tab) (n : Nat) (f : VS -> (dP -> VS -> Prop) -> Prop) (s : VS) (k : dP -> VS -> Prop) : Prop :=
 match ct n with
 | some E => E.run s k
 | none => f s k
def aOu (live : List Nat) (s : VS) : VS := ⟨aAX live (aDC live s).1, (aDC live s).2⟩
def NW (en : Ends) (n : Nat) (s : VS) : VS :=
 match en n with
 | some (cs, l) => aOu l (aLR cs s)
 | none => s
def aNE (x : Nat) : List Nat -> List Nat
 | [] => [x]
 | y :: l => if x < y then x :: y :: l else if x = y then y :: l else y :: aNE x l
def aPI (a b : List Nat) : List Nat := a.foldr aNE b
def aPc (x : Nat) (l : List Nat) : List Nat := l.filter fun y => !(Nat.beq y x)
def aPW (o : Operand) (l : List Nat) : List Nat :=
 match o with
 | .tmp i => aNE i l
 | _ => l
def aF7 (ops : Array Oper) : List Oper -> List Nat -> List Nat
  | [], out => out
  | o :: l, out => (match o.guard with
    | some (j, _) => (match (ops[j]?).bind (·.dst) with
      | some d => aNE d
      | none => id)
    | none => id) (o.op.operands.toList.foldr aPW (match o.dst with
      | some d => aPc d (aF7 ops l out)
      | none => aF7 ops l out))
def aM1 (n : Nat) : List (Nat × List Nat) -> List Nat
 | [] => []
 | (i, l) :: r => if i = n then l else aM1 n r
def aP9 (a b : List Nat) : Bool := a.all fun x => b.any fun y => Nat.beq y x
def aPK (f : List Nat -> List Nat) : Nat -> List Nat -> List Nat
  | 0, L => L
  | k + 1, L => (fun N => match aP9 N L with
    | true => L
    | false => aPK f k (aPI N L)) (f L)
def lvC (res : List Nat) : Code -> Nat -> List Nat -> List (Nat × List Nat) -> List Nat × List (Nat × List Nat)
  | .region _ ops _, n, out, _ => (aF7 ops ops.toList out, [(n, out)])
  | .seq a b, n, out, ex => match lvC res b (2 * n + 1) out ex with
    | (lb, tb) => match lvC res a (2 * n) lb ex with
      | (la, ta) => (la, ta ++ tb)
  | .cond c a b, n, out, ex => match lvC res a (2 * n) out ex, lvC res b (2 * n + 1) out ex with
    | (la, ta), (lb, tb) => (aPW c (aPI la lb), ta ++ tb)
  | .block id b, n, out, ex => lvC res b (2 * n) out ((id, out) :: ex)
  | .loop b, n, _, ex => (fun L => (L, (n, L) :: (lvC res b (2 * n) L ex).2)) (aPK (fun L => (lvC res b (2 * n) L ex).1) 20 [])
  | .exit id, n, _, ex => (aM1 id ex, [(n, aM1 id ex)])
  | .ret, n, _, _ => (res, [(n, res)])
  | _, n, out, _ => (out, [(n, out)])
def aNp (n : Nat) : List (Nat × List Nat) -> Option (List Nat)
 | [] => none
 | (i, l) :: r => if i = n then some l else aNp n r
def coS (n : Nat) : List (Nat × List Co) -> List Co
 | [] => []
 | (i, l) :: r => if i = n then l else coS n r
def aN (b : Code) (res : List Nat) (cos : List (Nat × List Co)) : Ends := fun n => match aNp n (lvC res b 1 res []).2 with
 | some l => some (coS n cos, l)
 | none => none
def unr {S : Type} (B : S -> (S -> Prop) -> Prop) : Nat -> S -> Prop
 | 0, _ => False
 | n + 1, s => B s (unr B n)
def LB (k : dP -> VS -> Prop) (en : Ends) (n : Nat) (b : VS -> (dP -> VS -> Prop) -> Prop) (s : VS) (nx : VS -> Prop) : Prop :=
  b s fun e s' => match e with
    | .normal => nx (NW en n s')
    | e => k e s'
def aOD (en : Ends) (n : Nat) : List Nat :=
 match en n with
 | some (_, l) => l
 | none => []
def vwp (G : Cfg) (ct : Tab) (en : Ends) : Code -> Nat -> VS -> (dP -> VS -> Prop) -> Prop
  | .skip, n, s, k => k .normal (NW en n s)
  | .label _, n, s, k => k .normal (NW en n s)
  | .region _ ops draw, n, s, k => aCz G ops draw (aOD en n) s fun s' => k .normal (NW en n s')
  | .seq a b, n, s, k => KN ct (2 * n) (vwp G ct en a (2 * n)) s fun e s' => match e with
    | .normal => KN ct (2 * n + 1) (vwp G ct en b (2 * n + 1)) s' k
    | e => k e s'
  | .cond c x y, n, s, k => match evV s.t c with
    | .pl (.bool b) => if b = true then KN ct (2 * n) (vwp G ct en x (2 * n)) s k else KN ct (2 * n + 1) (vwp G ct en y (2 * n + 1)) s k
    | _ => False
  | .block id b, n, s, k => KN ct (2 * n) (vwp G ct en b (2 * n)) s fun e s' => match e with
    | .exit id' => k (if id' = id then .normal else .exit id') s'
    | e => k e s'
  | .loop b, n, s, k => match G.un with
    | 0 => Loop (LB k en n (KN ct (2 * n) (vwp G ct en b (2 * n)))) (NW en n s)
    | u + 1 => unr (LB k en n (KN ct (2 * n) (vwp G ct en b (2 * n)))) (u + 1) (NW en n s)
  | .exit id, n, s, k => k (.exit id) (NW en n s)
  | .ret, n, s, k => k .ret (NW en n s)
  | _, _, _, _ => False
def WP (x : Lf) (v : VV) (K : x.den -> Prop) : Prop :=
  match x with
  | .fz false t => match v with
    | .fz false t' l => Ty.at t' t l K
    | .pl (.slice none 0 _) => K []
    | _ => False
  | x => unF x v K
def aHq : (l : List Lf) -> List VV -> (aBV l -> Prop) -> Prop
  | [], vs, K => match vs with
    | [] => K ()
    | _ => False
  | x :: l, vs, K => match vs with
    | v :: r => WP x v fun a => aHq l r fun b => K (a, b)
    | [] => False
def aLt (x : Cp) (v : VV) (K : x.den -> Prop) : Prop :=
  match x with
  | .lf x => WP x v K
  | .agg l => match v with
    | .agg cs => aHq l cs K
    | _ => False
  | .bx l => match v with
    | .bx cs 0 => aHq l cs K
    | _ => False
def aMH : (l : List Cp) -> List VV -> (aIZ l -> Prop) -> Prop
  | [], vs, K => match vs with
    | [] => K ()
    | _ => False
  | x :: l, vs, K => match vs with
    | v :: r => aLt x v fun a => aMH l r fun b => K (a, b)
    | [] => False
def aLc (x : Sh) (v : VV) (K : x.den -> Prop) : Prop :=
  match x with
  | .lf x => WP x v K
  | .agg l => match v with
    | .agg cs => aHq l cs K
    | _ => False
  | .bx l => match v with
    | .bx cs 0 => aHq l cs K
    | _ => False
  | .fn g l => match v with
    | .fn g' cs => if g = g' then aMH l cs K else False
    | _ => False
def aGw : List VV -> List Nat
 | [] => []
 | .fn g _ :: l => g :: aGw l
 | _ :: l => aGw l
def aMy : List Nat -> List Nat -> Bool
 | [], [] => true
 | a :: l, b :: r => a == b && aMy l r
 | _, _ => false
def unA : (l : List Sh) -> List VV -> (aM l -> Prop) -> Prop
  | [], vs, K => match vs with
    | [] => K ()
    | _ => False
  | x :: l, vs, K => match vs with
    | v :: r => aLc x v fun a => unA l r fun b => K (a, b)
    | [] => False
def aBG (G : Cfg) (s : VS) : List ResultVar -> (List VV -> Prop) -> Prop
  | [], K => K []
  | .tmp d :: r, K => aBG G s r fun l => K (cH s.t d :: l)
  | .cell d ty :: r, K => match cH s.t d with
    | .ptr i off => match bN s.h i with
      | .box cs _ => NN (aTy G.P ty) cs off fun v => aBG G s r fun l => K (v :: l)
      | _ => False
    | _ => False
def xp : (t : Ty) -> List VV -> List VO -> (t.den -> List VV -> List VO -> Prop) -> Prop
  | .int k, cs, h, K => match cs with
    | .pl (.int k' n) :: r => if k = k' then K n r h else False
    | _ => False
  | .bool, cs, h, K => match cs with
    | .pl (.bool b) :: r => K b r h
    | _ => False
  | .str, cs, h, K => match cs with
    | .pl (.string s) :: r => K s r h
    | _ => False
  | .flt, cs, h, K => match cs with
    | .pl (.float .f64 x) :: r => K x r h
    | _ => False
  | .cpx, cs, h, K => match cs with
    | .pl (.complex .f64 a b) :: r => K (a, b) r h
    | _ => False
  | .slc t, cs, h, K => match cs with
    | .own i :: r => match bN h i with
      | .lst true t' l false => Ty.at t' t l fun l => K l r (h.set i (.dead false))
      | _ => False
    | .pl (.slice none 0 0) :: r => K [] r h
    | _ => False
  | .unit, cs, h, K => K () cs h
  | .pair a b, cs, h, K => xp a cs h fun x r h' => xp b r h' fun y r' h'' => K (x, y) r' h''
inductive Al
 | n
 | f
 | z
 | p (a b : Al)
def xpA : Al -> (t : Ty) -> List VV -> List VO -> (t.den -> List VV -> List VO -> Prop) -> Prop
  | .f, .slc t, cs, h, K => match cs with
    | .fz _ t' l :: r => Ty.at t' t l fun l => K l r h
    | .own i :: r => match bN h i with
      | .lst _ t' l true => Ty.at t' t l fun l => K l r h
      | _ => False
    | .pl (.slice none 0 0) :: r => K [] r h
    | _ => False
  | .z, .slc t, cs, h, K => match cs with
    | .own i :: r => match bN h i with
      | .lst true t' l false => Ty.at t' t l fun l => ck (l ≠ []) (K l r (h.set i (.dead false)))
      | _ => False
    | .pl (.slice none 0 0) :: r => K [] r h
    | _ => False
  | .p x y, .pair a b, cs, h, K => xpA x a cs h fun u r h' => xpA y b r h' fun v r' h'' => K (u, v) r' h''
  | _, t, cs, h, K => xp t cs h K
abbrev aG1 := List (Bool × Ty)
@[reducible] def aKs : aG1 -> Type
  | [] => Unit
  | (_, t) :: l => t.den × aKs l
def aMr : (t : Ty) -> t.den -> List VV
 | .int k, n => [.pl (.int k n)]
 | .bool, b => [.pl (.bool b)]
 | .str, s => [.pl (.string s)]
 | .flt, x => [.pl (.float .f64 x)]
 | .cpx, x => [.pl (.complex .f64 x.1 x.2)]
 | .slc t, l => [.nw t l]
 | .unit, _ => []
 | .pair a b, x => aMr a x.1 ++ aMr b x.2
def aFu : Al -> (t : Ty) -> t.den -> List VV
 | .f, .slc t, l => [.fz false t l]
 | .p x y, .pair a b, d => aFu x a d.1 ++ aFu y b d.2
 | _, t, d => aMr t d
def zmk : Bool -> Al -> Ty -> List VV
 | false, .z, .slc _ => [.undef]
 | _, _, _ => []
def aC : (rt : aG1) -> List Al -> aKs rt -> List (Bool × List VV)
 | [], _, _ => []
 | (g, t) :: l, al, d => (g, aFu (al.headD .n) t d.1 ++ zmk g (al.headD .n) t) :: aC l al.tail d.2
abbrev aPD (rt : aG1) (d : aKs rt) : List (Bool × List VV) := aC rt [] d
def aHn : VV -> Bool
 | .agg _ => true
 | _ => false
def aDU : (rt : aG1) -> List Al -> List VV -> List VO -> (aKs rt -> Prop) -> Prop
  | [], _, vs, _, K => match vs with
    | [] => K ()
    | _ => False
  | (g, t) :: l, al, vs, h, K => match vs with
    | v :: r => if aHn v = g /\ (g = true \/ okL v = true) then xpA (al.headD .n) t (cZ v) h fun x left h' => match left with
        | [] => aDU l al.tail r h' fun y => K (x, y)
        | _ => False
      else False
    | [] => False
def PZ (args : List VV) : List (Nat × VV) := aAX (List.range args.length) args
def TD (n : Nat) (t : List (Nat × VV)) : List (Nat × VV) := t.map fun p => (p.1 + n, p.2)
def sG (n : Nat) : List (Nat × VV) -> List (Nat × VV)
 | [] => []
 | (d, v) :: l => if n <= d then (d - n, v) :: sG n l else sG n l
def r1B : VV -> Bool
 | .tup _ | .fn _ _ => false
 | _ => true
def QP (G : Cfg) (ct : Tab) (en : Ends) (fn : Func) (c : Code) (args : List VV) (s : VS) (k : VV -> VS -> Prop) : Prop :=
  if args.length <= fn.ntmps then KN ct 1 (vwp G ct en c 1) ⟨PZ args ++ TD fn.ntmps s.t, s.h⟩ fun e s2 => match e with
    | .normal | .ret => aBG G s2 fn.results.toList fun vs => if vs.all r1B = true then k (aDS vs) ⟨sG fn.ntmps s2.t, s2.h⟩ else False
    | _ => False
  else False
def aMs (G : Cfg) (ct : Tab) (en : Ends) (fn : Func) (c : Code) (rt : aG1) (al : List Al) (args : List VV) (Q : aKs rt -> Prop) : Prop :=
  KN ct 1 (vwp G ct en c 1) ⟨PZ args, []⟩ fun e s => match e with
    | .normal | .ret => aBG G s fn.results.toList fun vs => aDU rt al vs s.h Q
    | _ => False
end Go.Mach
