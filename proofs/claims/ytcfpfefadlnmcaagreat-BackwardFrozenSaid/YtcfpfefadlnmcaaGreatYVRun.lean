/- Part of the proof. No condition. -/
import Derived.Test.YtcfpfefadlnmcaaGreatYVDef
namespace Go.Mach
def E6 : List VV -> List VO -> List VV × List VO
  | [], h => ([], h)
  | v :: r, h => match v with
    | .nw t l => let p := E6 r (h ++ [.lst true t l false]); (.own h.length :: p.1, p.2)
    | v => let p := E6 r h; (v :: p.1, p.2)
def wO : List (Bool × List VV) -> List VO -> List VV × List VO
  | [], h => ([], h)
  | (g, cs) :: r, h =>
    let p := E6 cs h
    let q := wO r p.2
    ((if g then .agg p.1 else p.1.headD .undef) :: q.1, q.2)
def OS:List VV->VV
 | [v]=>v
 | vs => .tup vs
def DT (h : List VO) : VV -> List Nat
  | .agg l => l.flatMap oA
  | .ptr i _ => i :: (match bO h i with
    | .box cs _ => cs.flatMap oA
    | _ => [])
  | .bx l _ => l.flatMap oA
  | v => oA v
def FG (h:List VO):VV->List Nat
 | .fn _ l=>l.flatMap (DT h)
 | v=>DT h v
def aHH:VV->Bool
 | .fz _ _ _=>true
 | .fn _ _=>true
 | _=>false
def GJ (sl:List (Bool×List VV)):Bool:=sl.any fun p=>p.2.any aHH
def ET : List (Bool × List VV) -> (List (Bool × List VV) -> Prop) -> Prop
  | [], k => k []
  | p :: r, k => match p with
    | (false, [.nw T l, .undef]) => nz l (ET r fun r' => k ((false, [.pl (.slice none 0 0)]) :: r')) (ET r fun r' => k ((false, [.nw T l]) :: r'))
    | p => ET r fun r' => k (p :: r')
def aDj (G : Cfg) (f : VV) (args : List VV) (h : List VO) (K : VV -> List VO -> Prop) : Prop :=
  match f with
  | .fn g caps => if F8 G.P g then
      G.O g (args.map (XW h) ++ caps.map (XW h)) (fun r => ET r fun r => let p := wO r (match GJ r with
        | true => cV h ((args ++ caps).flatMap (FG h))
        | false => h); K (OS p.1) p.2) else False
  | _ => False
def FI (G : Cfg) (o : Oper) (s : VS) (k : VS -> Prop) : Prop :=
  match o.op with
  | .call c => match c.callee with
    | .value f => aDj G (evV s.t f) (c.args.toList.map (evV s.t)) s.h fun v h => k (VS.set ⟨s.t, h⟩ o.dst v)
    | _ => cF G o.op s.t s.h fun v h => k (VS.set ⟨s.t, h⟩ o.dst v)
  | _ => cF G o.op s.t s.h fun v h => k (VS.set ⟨s.t, h⟩ o.dst v)
def IA:Option (Nat×Bool)->Option (Nat×Bool)->Bool
 | none,none=>true
 | some (i,a),some (j,b)=>i==j&&a==b
 | _,_=>false
def F1 (g:Option (Nat×Bool)):List Oper->List Oper×List Oper
 | []=>([],[])
 | o::l=>if IA o.guard g then ([],o::l) else let r:=F1 g l; (o::r.1,r.2)
def sT : Op -> Bool
  | .move _ | .assign _ | .load .. | .binOp .. | .unOp .. | .fieldAddr .. | .field .. | .indexAddr .. | .index .. | .extract .. | .convert .. | .pick .. => true
  | .alloc _ | .box .. | .build .. | .buildSlice .. | .makeSlice .. | .slice .. | .sliceToArrayPointer .. | .nilCheck .. => true
  | .call c => match c.callee with
    | .builtin .len | .builtin .min | .builtin .max | .builtin .complex | .builtin .real | .builtin .imag => true
    | .value _ => true
    | _ => false
  | _ => false
def xD : Op -> Bool
  | .move _ | .assign _ | .load .. | .unOp .. | .fieldAddr .. | .field .. | .extract .. | .convert .. | .pick .. => true
  | .binOp b _ _ _ _ => match b with
    | .shl | .shr | .quo | .rem => false
    | _ => true
  | .call c => match c.callee with
    | .builtin .len | .builtin .min | .builtin .max | .builtin .complex | .builtin .real | .builtin .imag => true
    | _ => false
  | _ => false
def aBB (ops : Array Oper) (j : Nat) (w : Bool) : List Nat -> List Oper -> Bool
  | _, [] => true
  | known, o :: l => (match o.guard with
    | none => false
    | some (j', w') => (j' == j && w' == w) || (match (ops[j']?).bind (·.dst) with
      | some x => known.contains x
      | none => false)) && aBB ops j w (match o.dst with
        | some x => x :: known
        | none => known) l
def sL : List Oper -> List (Nat × VV) -> List (Nat × VV)
  | [], t => t
  | o :: l, t => match o.dst with
    | some d => (d, .undef) :: sL l t
    | none => sL l t
def LJ (h:Nat):VV->VV
 | .ptr i off=>if i<h then .mptr i off else .undef
 | _ => .undef
def qX (h : Nat) : List Oper -> List (Nat × VV) -> List (Nat × VV) -> List (Nat × VV)
  | [], _, t => t
  | o :: l, t2, t => match o.dst with
    | some d => (d, LJ h (cN t2 d)) :: qX h l t2 t
    | none => qX h l t2 t
def G0 (v:VV) (K:Bool->Prop):Prop :=
 match v with
 | .pl (.bool b)=>K b
 | _=>False
def SZ:Operand->Option Bool
 | .const (.bool b)=>some b
 | _=>none
def aEZ (d:Nat) (b:Oper):Bool :=
 match b.dst with
 | some x=>x != d
 | none=>true
def wD (G : Cfg) (ops : Array Oper) : Nat -> Option (Nat × Bool) -> List Oper -> VS -> (VS -> Prop) -> Prop
  | 0, _, _, _, _ => False
  | _ + 1, _, [], s, k => k s
  | n + 1, g, o :: rest, s, k =>
    match IA o.guard g with
    | true => FI G o s fun s' => wD G ops n g rest s' k
    | false => match F1 g (o :: rest), o.guard with
      | (body, res :: rest'), some (j, w) =>
        match (ops[j]?).bind (·.dst), res.op, res.dst with
        | some d, .pick (.tmp c) x y, some r =>
          match c == d && r != d && body.all (fun b => aEZ d b && sT b.op) && aBB ops j w [] body && SZ (if w then y else x) == some (!w), cN s.t d with
          | true, .pl (.bool b) =>
            match body.all (fun b => xD b.op) with
            | true => wD G ops n (some (j, w)) body s fun s2 => G0 (evV s2.t (if w then x else y)) fun v =>
                wD G ops n g rest' ⟨(r, .pl (.bool (if w then b && v else b || v))) :: qX s.h.length body s2.t s.t, s.h⟩ k
            | false => jn (fun v => wD G ops n g rest' ⟨(r, .pl (.bool v)) :: sL body s.t, s.h⟩ k) fun J =>
                if b = true then (if w = true then wD G ops n (some (j, w)) body s fun s2 => G0 (evV s2.t x) J else J true)
                else (if w = true then J false else wD G ops n (some (j, w)) body s fun s2 => G0 (evV s2.t y) J)
          | _, _ => False
        | _, _, _ => False
      | _, _ => False
def HF:VV->Option (List (Option Nat))
 | .own i | .ptr i _ | .eptr i _ _ | .mptr i _=>some [some i]
 | .fptr _ _ _ _ _ | .bx _ _=>some [none]
 | .pl _ | .agg _ | .tup _ | .fn _ _=>some []
 | _=>none
def NQ : List VV -> Option (List (Option Nat))
  | [] => some []
  | v :: l => match HF v, NQ l with
    | some a, some b => some (a ++ b)
    | _, _ => none
def aF4 (op : Op) (t : List (Nat × VV)) : Option (List (Option Nat)) :=
  match op with
  | .load _ a => HF (evV t a)
  | .store _ a _ => HF (evV t a)
  | .convert _ _ x => HF (evV t x)
  | .call c => match c.callee with
    | .builtin .append | .builtin .copy => NQ (c.args.toList.map (evV t))
    | _ => some []
  | _ => some []
def wrV (op : Op) (t : List (Nat × VV)) : Option (List (Option Nat)) :=
  match op with
  | .store _ a _ => HF (evV t a)
  | .call c => match c.callee with
    | .builtin .append | .builtin .copy => match c.args.toList with
      | x :: _ => HF (evV t x)
      | [] => some []
    | _ => some []
  | _ => some []
def D0 (h:List VO):Option Nat->Option Nat->Bool
 | some i,some j=>i != j&&((boxB (bO h i)||boxB (bO h j))||ownB (bO h i)&&ownB (bO h j))
 | some i,none=>ownB (bO h i)
 | none,some j=>ownB (bO h j)
 | none,none=>false
where
 ownB:VO->Bool
  | .box _ fr => !fr
  | .lst _ _ _ fr => !fr
  | .dead b=>b
 boxB:VO->Bool
  | .box _ _=>true
  | _=>false
def WM (h:List VO):Option (List (Option Nat))->Option (List (Option Nat))->Bool
 | some [],_=>true
 | _,some []=>true
 | some a,some b=>a.all fun x=>b.all fun y=>D0 h x y
 | _,_=>false
def OT (ops:Array Oper) (s:VS) (p:Nat×Nat):Bool :=
 match ops[p.1]?,ops[p.2]? with
 | some oi,some oj=>WM s.h (wrV oi.op s.t) (aF4 oj.op s.t)&&WM s.h (aF4 oi.op s.t) (wrV oj.op s.t)
 | _,_=>false
def D6 (G : Cfg) (ops : Array Oper) (draw : Bool) (s : VS) (k : VS -> Prop) : Prop :=
  match draw with
  | false => wD G ops (ops.size + 1) none ops.toList s k
  | true => match xY ops (bJ ops.toList #[]) && (jB ops (bJ ops.toList #[])).all (fun p => pB ops p.1 && pB ops p.2) with
    | true => wD G ops (ops.size + 1) none ops.toList s fun s' => match (jB ops (bJ ops.toList #[])).all (OT ops s') with
      | true => k s'
      | false => False
    | false => False
def PT : List Oper -> Option (List Oper × Oper)
  | [] => none
  | o :: l => match l, PT l with
    | [], _ => some ([], o)
    | _ :: _, some (p, x) => some (o :: p, x)
    | _ :: _, none => none
def aBQ (ops : Array Oper) (draw : Bool) : Option (List Oper × Oper × Operand × List Operand) :=
  match PT ops.toList with
  | some (pre, o) => match o.guard, o.op with
    | none, .call c => match c.callee with
      | .value f => match draw with
        | false => some (pre, o, f, c.args.toList)
        | true => match xY ops (bJ ops.toList #[]) && (jB ops (bJ ops.toList #[])).isEmpty && iF ops (bJ ops.toList #[]) pre.length with
          | true => some (pre, o, f, c.args.toList)
          | false => none
      | _ => none
    | _, _ => none
  | none => none
def RB (B : FuncId -> Bool) (p : List Oper) : List Oper -> Option (List Oper × Oper × FuncId × List Operand × List Oper)
  | [] => none
  | o :: r => match o.guard, o.op with
    | none, .call c => match c.callee with
      | .value (.func g) => match B g with
        | true => some (p, o, g, c.args.toList, r)
        | false => RB B (p ++ [o]) r
      | _ => RB B (p ++ [o]) r
    | _, _ => RB B (p ++ [o]) r
def WA (B : FuncId -> Bool) (ops : Array Oper) (draw : Bool) : Option (List Oper × Oper × FuncId × List Operand × List Oper) :=
  match RB B [] ops.toList with
  | none => none
  | some (p, o, g, azz, r) => match draw with
    | false => some (p, o, g, azz, r)
    | true => match xY ops (bJ ops.toList #[]) && (jB ops (bJ ops.toList #[])).all (fun q => pB ops q.1 && pB ops q.2) && iF ops (bJ ops.toList #[]) p.length with
      | true => some (p, o, g, azz, r)
      | false => none
def NP (G : Cfg) (ops : Array Oper) (draw : Bool) (s : VS) (k : VS -> Prop) : Prop :=
  match G.I with
  | none => D6 G ops draw s k
  | some J => match aBQ ops draw with
    | none => match WA J.B ops draw with
      | none => D6 G ops draw s k
      | some (pre, o, g, args, post) => wD G ops (ops.size + 1) none pre s fun s1 => match F8 G.P g with
        | true => J.run g (args.map (evV s1.t)) s1 fun v s2 => wD G ops (ops.size + 1) none post (VS.set s2 o.dst v) fun s' => match !draw || (jB ops (bJ ops.toList #[])).all (OT ops s') with
          | true => k s'
          | false => False
        | false => False
    | some (pre, o, f, args) => wD G ops (ops.size + 1) none pre s fun s1 => match evV s1.t f with
      | .fn g caps => match J.B g && F8 G.P g with
        | true => J.run g (args.map (evV s1.t) ++ caps) s1 fun v s2 => k (VS.set s2 o.dst v)
        | false => FI G o s1 k
      | _ => FI G o s1 k
def VE (kd:IntKind):Ty->Bool
 | .int k=>decide (k=kd)
 | .slc t=>VE kd t
 | .ref t=>VE kd t
 | .pair a b=>VE kd a||VE kd b
 | _=>false
def SE (kd:IntKind) (v:Int):(T:Ty)->T.den->T.den->Prop
 | .int k,x,y=>y=x\/(k=kd/\y=v)
 | .slc t,l,m=>m.length=l.length/\∀ (i:Nat) (x y:t.den),l[i]? = some x->m[i]? = some y->SE kd v t x y
 | .ref t,l,m=>m.length=l.length/\∀ (i:Nat) (x y:t.den),l[i]? = some x->m[i]? = some y->SE kd v t x y
 | .pair a b,x,y=>SE kd v a x.1 y.1/\SE kd v b x.2 y.2
 | .bool,x,y=>y=x
 | .str,x,y=>y=x
 | .unit,_,_=>True
 | .flt,x,y=>y=x
 | .cpx,x,y=>y=x
def hvL (kd : IntKind) (v : Int) : VV -> (VV -> Prop) -> Prop
  | .fz o T l, K => match VE kd T with
    | true => ∀ m : (Ty.slc T).den, SE kd v (.slc T) l m -> K (.fz o T m)
    | false => K (.fz o T l)
  | .pl x, K => K (.pl x)
  | .own i, K => K (.own i)
  | .ptr i o, K => K (.ptr i o)
  | .hof i, K => K (.hof i)
  | _, K => K .undef
def aGG (kd:IntKind) (v:Int):List VV->(List VV->Prop)->Prop
 | [],K=>K []
 | x::r,K=>hvL kd v x fun y=>aGG kd v r fun l=>K (y::l)
def hvT (kd:IntKind) (v:Int) (t:List (Nat×VV)):List Nat->(List (Nat×VV)->Prop)->Prop
 | [],K=>K []
 | d::r,K=>hvL kd v (cN t d) fun y=>hvT kd v t r fun l=>K ((d,y)::l)
def hvO (kd : IntKind) (v : Int) : VO -> (VO -> Prop) -> Prop
  | .box cs false, K => aGG kd v cs fun cs => K (.box cs false)
  | .lst o T l fr, K => match VE kd T with
    | true => ∀ m : (Ty.slc T).den, SE kd v (.slc T) l m -> K (.lst o T m fr)
    | false => K (.lst o T l fr)
  | .dead b, K => K (.dead b)
  | _, _ => False
def hvH (kd:IntKind) (v:Int):List VO->(List VO->Prop)->Prop
 | [],K=>K []
 | o::r,K=>hvO kd v o fun o=>hvH kd v r fun l=>K (o::l)
def hvS (kd:IntKind) (v:Int) (live:List Nat) (s:VS) (K:VS->Prop):Prop:=hvT kd v s.t live fun t=>hvH kd v s.h fun h=>K ⟨t,h⟩
def XO (ops : Array Oper) (draw : Bool) : Option (List Oper × Oper × TypeId × Operand × Operand) :=
  match PT ops.toList with
  | some (pre, o) => match o.guard, o.dst, o.op with
    | none, none, .store ty a x => match draw with
      | false => some (pre, o, ty, a, x)
      | true => match xY ops (bJ ops.toList #[]) && (jB ops (bJ ops.toList #[])).isEmpty with
        | true => some (pre, o, ty, a, x)
        | false => none
    | _, _, _ => none
  | none => none
def PM (G : Cfg) (ops : Array Oper) (draw : Bool) (live : List Nat) (s : VS) (k : VS -> Prop) : Prop :=
  match G.hv with
  | false => NP G ops draw s k
  | true => match XO ops draw with
    | none => NP G ops draw s k
    | some (pre, o, ty, a, x) => wD G ops (ops.size + 1) none pre s fun s1 => match evV s1.t a, evV s1.t x with
      | .fptr true (.int kd) _ _ 0, .pl (.int kd' v) => if kd = kd' /\ L4 G.P ty = some 1 then hvS kd v live s1 k else False
      | _, _ => FI G o s1 k
def KV : Nat -> List VO -> List Nat -> List Nat -> List Nat
  | 0, _, _, acc => acc
  | _ + 1, _, [], acc => acc
  | n + 1, h, i :: todo, acc =>
    match acc.contains i with
    | true => KV n h todo acc
    | false => KV n h (todo ++ (match bO h i with
        | .box cs _ => cs.flatMap aFR
        | _ => [])) (acc ++ [i])
def vW (i:Nat):List Nat->Nat->Option Nat
 | [],_=>none
 | j::l,n=>if i=j then some n else vW i l (n+1)
def WF (ids : List Nat) : VV -> VV
  | .own i => match vW i ids 0 with
    | some j => .own j
    | none => .undef
  | .ptr i off => match vW i ids 0 with
    | some j => .ptr j off
    | none => .undef
  | .eptr i ix off => match vW i ids 0 with
    | some j => .eptr j ix off
    | none => .undef
  | .pl v => .pl v
  | .er b => .er b
  | .fz o t l => .fz o t l
  | .fptr o t l ix off => .fptr o t l ix off
  | .hof i => .hof i
  | _ => .undef
def aEx (ids:List Nat):VV->VV
 | .agg l => .agg (l.map (WF ids))
 | .bx l off => .bx (l.map (WF ids)) off
 | .bs l => .bs (l.map (WF ids))
 | v=>WF ids v
def aHy (ids:List Nat):VV->VV
 | .tup l => .tup (l.map (aEx ids))
 | .fn f l => .fn f (l.map (aEx ids))
 | v=>aEx ids v
def VD (ids:List Nat):VO->VO
 | .box cs fr => .box (cs.map (WF ids)) fr
 | o=>o
def OV (live:List Nat) (s:VS):List VV×List VO :=
 let vs:=live.map (cN s.t)
 let ids:=KV (2*s.h.length+40) s.h (vs.flatMap aG6) []
 (vs.map (aHy ids),ids.map fun i=>VD ids (bO s.h i))
inductive Lf
 | int (k:IntKind)
 | bool
 | str
 | flt
 | cpx
 | fz (o:Bool) (t:Ty)
 | cst (v:VV)
 | fp (o:Bool) (t:Ty)
@[reducible] def Lf.den : Lf -> Type
  | .int _ => Int
  | .bool => Bool
  | .str => ByteArray
  | .flt => Nat
  | .cpx => Nat × Nat
  | .fz _ t => List t.den
  | .cst _ => Unit
  | .fp _ t => t.den
inductive Cp
 | lf (x:Lf)
 | agg (l:List Lf)
 | bx (l:List Lf)
inductive Sh
 | lf (x:Lf)
 | agg (l:List Lf)
 | bx (l:List Lf)
 | fn (g:FuncId) (l:List Cp)
abbrev lI:Lf := .int .i64
abbrev lB:Lf := .bool
abbrev lZ (t:Ty):Lf := .fz false t
abbrev sI:Sh := .lf (.int .i64)
abbrev sB:Sh := .lf .bool
abbrev sZ (t:Ty):Sh := .lf (.fz false t)
abbrev sC (v:VV):Sh := .lf (.cst v)
@[reducible] def vI (n:Int):VV := .pl (.int .i64 n)
@[reducible] def vB (b:Bool):VV := .pl (.bool b)
@[reducible] def vK (k:IntKind) (n:Int):VV := .pl (.int k n)
@[reducible] def vZ (t:Ty) (l:List t.den):VV := .fz false t l
abbrev QT:=List (Bool×List VV)->Prop
inductive OSh
 | box (l:List Lf) (fr:Bool)
 | lst (o:Bool) (t:Ty) (fr:Bool)
 | dead
@[reducible] def PF : List Lf -> Type
  | [] => Unit
  | x :: l => x.den × PF l
@[reducible] def Cp.den : Cp -> Type
  | .lf x => x.den
  | .agg l => PF l
  | .bx l => PF l
@[reducible] def aAV : List Cp -> Type
  | [] => Unit
  | x :: l => x.den × aAV l
@[reducible] def Sh.den : Sh -> Type
  | .lf x => x.den
  | .agg l => PF l
  | .bx l => PF l
  | .fn _ l => aAV l
@[reducible] def uH : List Sh -> Type
  | [] => Unit
  | x :: l => x.den × uH l
@[reducible] def OSh.den : OSh -> Type
  | .box l _ => PF l
  | .lst _ t _ => List t.den
  | .dead => Unit
@[reducible] def RJ : List OSh -> Type
  | [] => Unit
  | x :: l => x.den × RJ l
def L5:(x:Lf)->x.den->VV
 | .int k,n => .pl (.int k n)
 | .bool,b => .pl (.bool b)
 | .str,s => .pl (.string s)
 | .flt,x => .pl (.float .f64 x)
 | .cpx,x => .pl (.complex .f64 x.1 x.2)
 | .fz o t,l => .fz o t l
 | .cst v,_=>v
 | .fp o t,x => .fptr o t [x] 0 0
def LQ:(l:List Lf)->PF l->List VV
 | [],_=>[]
 | x::l,d=>L5 x d.1::LQ l d.2
def aAL:(x:Cp)->x.den->VV
 | .lf x,d=>L5 x d
 | .agg l,d => .agg (LQ l d)
 | .bx l,d => .bx (LQ l d) 0
def aB9:(l:List Cp)->aAV l->List VV
 | [],_=>[]
 | x::l,d=>aAL x d.1::aB9 l d.2
def aA9:(x:Sh)->x.den->VV
 | .lf x,d=>L5 x d
 | .agg l,d => .agg (LQ l d)
 | .bx l,d => .bx (LQ l d) 0
 | .fn g l,d => .fn g (aB9 l d)
def vJ:(l:List Sh)->uH l->List VV
 | [],_=>[]
 | x::l,d=>aA9 x d.1::vJ l d.2
def aCq:(x:OSh)->x.den->VO
 | .box l fr,d => .box (LQ l d) fr
 | .lst o t fr,d => .lst o t d fr
 | .dead,_ => .dead false
def aEW:(l:List OSh)->RJ l->List VO
 | [],_=>[]
 | x::l,d=>aCq x d.1::aEW l d.2
def QJ:VV->VV->Bool
 | .own i,.own j=>i==j
 | .ptr i o,.ptr j o'=>i==j&&o==o'
 | .undef,.undef=>true
 | .hof i,.hof j=>i==j
 | .pl (.int k a),.pl (.int k' b)=>decide (k=k')&&a==b
 | .pl (.bool a),.pl (.bool b)=>a==b
 | .pl (.slice none a b),.pl (.slice none c d)=>a==c&&b==d
 | .pl .nilFunc,.pl .nilFunc=>true
 | .pl (.pointer none),.pl (.pointer none)=>true
 | _,_=>false
def U8:List VV->List VV->Bool
 | [],[]=>true
 | a::l,b::r=>QJ a b&&U8 l r
 | _,_=>false
def TW:VV->VV->Bool
 | .fn f l,.fn g r=>f==g&&U8 l r
 | a,b=>QJ a b
def unF (x : Lf) (v : VV) (K : x.den -> Prop) : Prop :=
  match x with
  | .int k => match v with
    | .pl (.int k' n) => if k = k' then K n else False
    | _ => False
  | .bool => match v with
    | .pl (.bool b) => K b
    | _ => False
  | .str => match v with
    | .pl (.string s) => K s
    | _ => False
  | .flt => match v with
    | .pl (.float .f64 x) => K x
    | _ => False
  | .cpx => match v with
    | .pl (.complex .f64 a b) => K (a, b)
    | _ => False
  | .fz o t => match v with
    | .fz o' t' l => if o = o' then Ty.at t' t l K else False
    | _ => False
  | .cst c => if TW c v = true then K () else False
  | .fp o t => match v with
    | .fptr o' t' l 0 0 => if o = o' then Ty.at t' t l fun l => (match l with
      | [x] => K x
      | _ => False) else False
    | _ => False
def unL : (l : List Lf) -> List VV -> (PF l -> Prop) -> Prop
  | [], vs, K => match vs with
    | [] => K ()
    | _ => False
  | x :: l, vs, K => match vs with
    | v :: r => unF x v fun a => unL l r fun b => K (a, b)
    | [] => False
def aG1 (x : Cp) (v : VV) (K : x.den -> Prop) : Prop :=
  match x with
  | .lf x => unF x v K
  | .agg l => match v with
    | .agg cs => unL l cs K
    | _ => False
  | .bx l => match v with
    | .bx cs 0 => unL l cs K
    | _ => False
def unC : (l : List Cp) -> List VV -> (aAV l -> Prop) -> Prop
  | [], vs, K => match vs with
    | [] => K ()
    | _ => False
  | x :: l, vs, K => match vs with
    | v :: r => aG1 x v fun a => unC l r fun b => K (a, b)
    | [] => False
def aGF (x : Sh) (v : VV) (K : x.den -> Prop) : Prop :=
  match x with
  | .lf x => unF x v K
  | .agg l => match v with
    | .agg cs => unL l cs K
    | _ => False
  | .bx l => match v with
    | .bx cs 0 => unL l cs K
    | _ => False
  | .fn g l => match v with
    | .fn g' cs => if g = g' then unC l cs K else False
    | _ => False
def unS : (l : List Sh) -> List VV -> (uH l -> Prop) -> Prop
  | [], vs, K => match vs with
    | [] => K ()
    | _ => False
  | x :: l, vs, K => match vs with
    | v :: r => aGF x v fun a => unS l r fun b => K (a, b)
    | [] => False
def aGN (x : OSh) (v : VO) (K : x.den -> Prop) : Prop :=
  match x with
  | .box l fr => match v with
    | .box cs fr' => if fr = fr' then unL l cs K else False
    | _ => False
  | .lst o t fr => match v with
    | .lst o' t' l fr' => if o = o' /\ fr = fr' then Ty.at t' t l K else False
    | _ => False
  | .dead => match v with
    | .dead false => K ()
    | _ => False
def unO : (l : List OSh) -> List VO -> (RJ l -> Prop) -> Prop
  | [], vs, K => match vs with
    | [] => K ()
    | _ => False
  | x :: l, vs, K => match vs with
    | v :: r => aGN x v fun a => unO l r fun b => K (a, b)
    | [] => False
def M4:List Nat->List VV->List (Nat×VV)
 | d::ds,v::vs=>(d,v)::M4 ds vs
 | _,_=>[]
structure Ent where
 live:List Nat
 sh:List Sh
 ob:List OSh
 P:uH sh×RJ ob->(dT->VS->Prop)->Prop
def UV (live:List Nat) (sh:List Sh) (ob:List OSh) (x:uH sh×RJ ob):VS:=⟨M4 live (vJ sh x.1),aEW ob x.2⟩
def aGh (live:List Nat) (sh:List Sh) (ob:List OSh) (s:VS) (K:uH sh×RJ ob->Prop):Prop :=
 let c:=OV live s
 unS sh c.1 fun a=>unO ob c.2 fun b=>K (a,b)
def Ent.run (E:Ent) (s:VS) (k:dT->VS->Prop):Prop:=aGh E.live E.sh E.ob s fun x=>E.P x k
def Loop {S:Type} (B:S->(S->Prop)->Prop) (s:S):Prop:=∀ X:S->Prop,(∀ s,B s X->X s)->X s
abbrev Tab:=Nat->Option Ent
structure Co where
 d:Nat
 cell:Option Nat
 fz:Bool
 T:Ty
abbrev tV:=Nat->Option (List Co×List Nat)
def conv (fz : Bool) (T : Ty) (h : List VO) (v : VV) : Option (VV × List VO) :=
  match fz, v with
  | false, .pl (.slice none 0 0) => some (.own h.length, h ++ [.lst true T [] false])
  | true, .pl (.slice none 0 _) => some (.fz false T [], h)
  | true, .own i => match bO h i with
    | .lst _ t l _ => some (.fz false t l, cV h [i])
    | _ => none
  | true, .fz _ t l => some (.fz false t l, h)
  | _, _ => none
def co1 (s : VS) (c : Co) : VS :=
  match c.cell with
  | none => match conv c.fz c.T s.h (cN s.t c.d) with
    | some (v, h) => ⟨(c.d, v) :: s.t, h⟩
    | none => s
  | some q => match cN s.t c.d with
    | .ptr i _ => match bO s.h i with
      | .box cs fr => match cs[q]? with
        | some u => match conv c.fz c.T s.h u with
          | some (v, h) => ⟨s.t, h.set i (.box (cs.set q v) fr)⟩
          | none => s
        | none => s
      | _ => s
    | _ => s
def aEC:List Co->VS->VS
 | [],s=>s
 | c::cs,s=>aEC cs (co1 s c)
def yA (ct:Tab) (n:Nat) (f:VS->(dT->VS->Prop)->Prop) (s:VS) (k:dT->VS->Prop):Prop :=
 match ct n with
 | some E=>E.run s k
 | none=>f s k
def aHR (live:List Nat) (s:VS):VS:=⟨M4 live (OV live s).1,(OV live s).2⟩
def xE (en:tV) (n:Nat) (s:VS):VS :=
 match en n with
 | some (cs,l)=>aHR l (aEC cs s)
 | none=>s
def aFW (x:Nat):List Nat->List Nat
 | []=>[x]
 | y::l=>if x<y then x::y::l else if x=y then y::l else y::aFW x l
def aHi (a b:List Nat):List Nat:=a.foldr aFW b
def aIC (x:Nat) (l:List Nat):List Nat:=l.filter fun y => !(Nat.beq y x)
def aHQ (o:Operand) (l:List Nat):List Nat :=
 match o with
 | .tmp i=>aFW i l
 | _=>l
def VL (ops : Array Oper) : List Oper -> List Nat -> List Nat
  | [], out => out
  | o :: l, out => (match o.guard with
    | some (j, _) => (match (ops[j]?).bind (·.dst) with
      | some d => aFW d
      | none => id)
    | none => id) (o.op.operands.toList.foldr aHQ (match o.dst with
      | some d => aIC d (VL ops l out)
      | none => VL ops l out))
def aD8 (n:Nat):List (Nat×List Nat)->List Nat
 | []=>[]
 | (i,l)::r=>if i=n then l else aD8 n r
def aIY (a b:List Nat):Bool:=a.all fun x=>b.any fun y=>Nat.beq y x
def aHs (f : List Nat -> List Nat) : Nat -> List Nat -> List Nat
  | 0, L => L
  | k + 1, L => (fun N => match aIY N L with
    | true => L
    | false => aHs f k (aHi N L)) (f L)
def lvC (res : List Nat) : Code -> Nat -> List Nat -> List (Nat × List Nat) -> List Nat × List (Nat × List Nat)
  | .region _ ops _, n, out, _ => (VL ops ops.toList out, [(n, out)])
  | .seq a b, n, out, ex => match lvC res b (2 * n + 1) out ex with
    | (lb, tb) => match lvC res a (2 * n) lb ex with
      | (la, ta) => (la, ta ++ tb)
  | .cond c a b, n, out, ex => match lvC res a (2 * n) out ex, lvC res b (2 * n + 1) out ex with
    | (la, ta), (lb, tb) => (aHQ c (aHi la lb), ta ++ tb)
  | .block id b, n, out, ex => lvC res b (2 * n) out ((id, out) :: ex)
  | .loop b, n, _, ex => (fun L => (L, (n, L) :: (lvC res b (2 * n) L ex).2)) (aHs (fun L => (lvC res b (2 * n) L ex).1) 20 [])
  | .exit id, n, _, ex => (aD8 id ex, [(n, aD8 id ex)])
  | .ret, n, _, _ => (res, [(n, res)])
  | _, n, out, _ => (out, [(n, out)])
def aFd (n:Nat):List (Nat×List Nat)->Option (List Nat)
 | []=>none
 | (i,l)::r=>if i=n then some l else aFd n r
def coS (n:Nat):List (Nat×List Co)->List Co
 | []=>[]
 | (i,l)::r=>if i=n then l else coS n r
def X7 (b:Code) (res:List Nat) (cos:List (Nat×List Co)):tV:=fun n=>match aFd n (lvC res b 1 res []).2 with
 | some l=>some (coS n cos,l)
 | none=>none
def unr {S:Type} (B:S->(S->Prop)->Prop):Nat->S->Prop
 | 0,_=>False
 | n+1,s=>B s (unr B n)
def LB (k : dT -> VS -> Prop) (en : tV) (n : Nat) (b : VS -> (dT -> VS -> Prop) -> Prop) (s : VS) (nx : VS -> Prop) : Prop :=
  b s fun e s' => match e with
    | .normal => nx (xE en n s')
    | e => k e s'
def aGI (en:tV) (n:Nat):List Nat :=
 match en n with
 | some (_,l)=>l
 | none=>[]
def vwp (G : Cfg) (ct : Tab) (en : tV) : Code -> Nat -> VS -> (dT -> VS -> Prop) -> Prop
  | .skip, n, s, k => k .normal (xE en n s)
  | .label _, n, s, k => k .normal (xE en n s)
  | .region _ ops draw, n, s, k => PM G ops draw (aGI en n) s fun s' => k .normal (xE en n s')
  | .seq a b, n, s, k => yA ct (2 * n) (vwp G ct en a (2 * n)) s fun e s' => match e with
    | .normal => yA ct (2 * n + 1) (vwp G ct en b (2 * n + 1)) s' k
    | e => k e s'
  | .cond c x y, n, s, k => match evV s.t c with
    | .pl (.bool b) => if b = true then yA ct (2 * n) (vwp G ct en x (2 * n)) s k else yA ct (2 * n + 1) (vwp G ct en y (2 * n + 1)) s k
    | _ => False
  | .block id b, n, s, k => yA ct (2 * n) (vwp G ct en b (2 * n)) s fun e s' => match e with
    | .exit id' => k (if id' = id then .normal else .exit id') s'
    | e => k e s'
  | .loop b, n, s, k => match G.un with
    | 0 => Loop (LB k en n (yA ct (2 * n) (vwp G ct en b (2 * n)))) (xE en n s)
    | u + 1 => unr (LB k en n (yA ct (2 * n) (vwp G ct en b (2 * n)))) (u + 1) (xE en n s)
  | .exit id, n, s, k => k (.exit id) (xE en n s)
  | .ret, n, s, k => k .ret (xE en n s)
  | _, _, _, _ => False
def HS (x : Lf) (v : VV) (K : x.den -> Prop) : Prop :=
  match x with
  | .fz false t => match v with
    | .fz false t' l => Ty.at t' t l K
    | .pl (.slice none 0 _) => K []
    | _ => False
  | x => unF x v K
def X2 : (l : List Lf) -> List VV -> (PF l -> Prop) -> Prop
  | [], vs, K => match vs with
    | [] => K ()
    | _ => False
  | x :: l, vs, K => match vs with
    | v :: r => HS x v fun a => X2 l r fun b => K (a, b)
    | [] => False
def aCr (x : Cp) (v : VV) (K : x.den -> Prop) : Prop :=
  match x with
  | .lf x => HS x v K
  | .agg l => match v with
    | .agg cs => X2 l cs K
    | _ => False
  | .bx l => match v with
    | .bx cs 0 => X2 l cs K
    | _ => False
def aDD : (l : List Cp) -> List VV -> (aAV l -> Prop) -> Prop
  | [], vs, K => match vs with
    | [] => K ()
    | _ => False
  | x :: l, vs, K => match vs with
    | v :: r => aCr x v fun a => aDD l r fun b => K (a, b)
    | [] => False
def aEU (x : Sh) (v : VV) (K : x.den -> Prop) : Prop :=
  match x with
  | .lf x => HS x v K
  | .agg l => match v with
    | .agg cs => X2 l cs K
    | _ => False
  | .bx l => match v with
    | .bx cs 0 => X2 l cs K
    | _ => False
  | .fn g l => match v with
    | .fn g' cs => if g = g' then aDD l cs K else False
    | _ => False
def Y4:List VV->List Nat
 | []=>[]
 | .fn g _::l=>g::Y4 l
 | _::l=>Y4 l
def aFU:List Nat->List Nat->Bool
 | [],[]=>true
 | a::l,b::r=>a==b&&aFU l r
 | _,_=>false
def unA : (l : List Sh) -> List VV -> (uH l -> Prop) -> Prop
  | [], vs, K => match vs with
    | [] => K ()
    | _ => False
  | x :: l, vs, K => match vs with
    | v :: r => aEU x v fun a => unA l r fun b => K (a, b)
    | [] => False
def Q6 (G : Cfg) (s : VS) : List ResultVar -> (List VV -> Prop) -> Prop
  | [], K => K []
  | .tmp d :: r, K => Q6 G s r fun l => K (cN s.t d :: l)
  | .cell d ty :: r, K => match cN s.t d with
    | .ptr i off => match bO s.h i with
      | .box cs _ => zE (aTy G.P ty) cs off fun v => Q6 G s r fun l => K (v :: l)
      | _ => False
    | _ => False
def xp : (t : Ty) -> List VV -> List VO -> (t.den -> List VV -> List VO -> Prop) -> Prop
  | .int k, cs, h, K => match cs with
    | .pl (.int k' n) :: r => if k = k' then K n r h else False
    | _ => False
  | .bool, cs, h, K => match cs with
    | .pl (.bool b) :: r => K b r h
    | _ => False
  | .str, cs, h, K => match cs with
    | .pl (.string s) :: r => K s r h
    | _ => False
  | .flt, cs, h, K => match cs with
    | .pl (.float .f64 x) :: r => K x r h
    | _ => False
  | .cpx, cs, h, K => match cs with
    | .pl (.complex .f64 a b) :: r => K (a, b) r h
    | _ => False
  | .ref _, _, _, _ => False
  | .slc t, cs, h, K => match cs with
    | .own i :: r => match bO h i with
      | .lst true t' l false => Ty.at t' t l fun l => K l r (h.set i (.dead false))
      | _ => False
    | .pl (.slice none 0 0) :: r => K [] r h
    | _ => False
  | .unit, cs, h, K => K () cs h
  | .pair a b, cs, h, K => xp a cs h fun x r h' => xp b r h' fun y r' h'' => K (x, y) r' h''
inductive Al
 | n
 | f
 | z
 | p (a b:Al)
def xpA : Al -> (t : Ty) -> List VV -> List VO -> (t.den -> List VV -> List VO -> Prop) -> Prop
  | .f, .slc t, cs, h, K => match cs with
    | .fz _ t' l :: r => Ty.at t' t l fun l => K l r h
    | .own i :: r => match bO h i with
      | .lst _ t' l true => Ty.at t' t l fun l => K l r h
      | _ => False
    | .pl (.slice none 0 0) :: r => K [] r h
    | _ => False
  | .z, .slc t, cs, h, K => match cs with
    | .own i :: r => match bO h i with
      | .lst true t' l false => Ty.at t' t l fun l => ck (l ≠ []) (K l r (h.set i (.dead false)))
      | _ => False
    | .pl (.slice none 0 0) :: r => K [] r h
    | _ => False
  | .p x y, .pair a b, cs, h, K => xpA x a cs h fun u r h' => xpA y b r h' fun v r' h'' => K (u, v) r' h''
  | _, t, cs, h, K => xp t cs h K
abbrev I7:=List (Bool×Ty)
@[reducible] def Z2 : I7 -> Type
  | [] => Unit
  | (_, t) :: l => t.den × Z2 l
def aFV:(t:Ty)->t.den->List VV
 | .int k,n=>[.pl (.int k n)]
 | .bool,b=>[.pl (.bool b)]
 | .str,s=>[.pl (.string s)]
 | .flt,x=>[.pl (.float .f64 x)]
 | .cpx,x=>[.pl (.complex .f64 x.1 x.2)]
 | .slc t,l=>[.nw t l]
 | .ref _,_=>[.undef]
 | .unit,_=>[]
 | .pair a b,x=>aFV a x.1++aFV b x.2
def UO:Al->(t:Ty)->t.den->List VV
 | .f,.slc t,l=>[.fz false t l]
 | .p x y,.pair a b,d=>UO x a d.1++UO y b d.2
 | _,t,d=>aFV t d
def zmk:Bool->Al->Ty->List VV
 | false,.z,.slc _=>[.undef]
 | _,_,_=>[]
def kE:(rt:I7)->List Al->Z2 rt->List (Bool×List VV)
 | [],_,_=>[]
 | (g,t)::l,al,d=>(g,UO (al.headD .n) t d.1++zmk g (al.headD .n) t)::kE l al.tail d.2
abbrev aHt (rt:I7) (d:Z2 rt):List (Bool×List VV):=kE rt [] d
def Y5:VV->Bool
 | .agg _=>true
 | _=>false
def O0 : (rt : I7) -> List Al -> List VV -> List VO -> (Z2 rt -> Prop) -> Prop
  | [], _, vs, _, K => match vs with
    | [] => K ()
    | _ => False
  | (g, t) :: l, al, vs, h, K => match vs with
    | v :: r => if Y5 v = g /\ (g = true \/ okL v = true) then xpA (al.headD .n) t (dL v) h fun x left h' => match left with
        | [] => O0 l al.tail r h' fun y => K (x, y)
        | _ => False
      else False
    | [] => False
def D1 (args:List VV):List (Nat×VV):=M4 (List.range args.length) args
def GT (n:Nat) (t:List (Nat×VV)):List (Nat×VV):=t.map fun p=>(p.1+n,p.2)
def oT (n:Nat):List (Nat×VV)->List (Nat×VV)
 | []=>[]
 | (d,v)::l=>if n<=d then (d-n,v)::oT n l else oT n l
def r1B:VV->Bool
 | .tup _ | .fn _ _=>false
 | _=>true
def U9 (G : Cfg) (ct : Tab) (en : tV) (fn : Func) (c : Code) (args : List VV) (s : VS) (k : VV -> VS -> Prop) : Prop :=
  if args.length <= fn.ntmps then yA ct 1 (vwp G ct en c 1) ⟨D1 args ++ GT fn.ntmps s.t, s.h⟩ fun e s2 => match e with
    | .normal | .ret => Q6 G s2 fn.results.toList fun vs => if vs.all r1B = true then k (OS vs) ⟨oT fn.ntmps s2.t, s2.h⟩ else False
    | _ => False
  else False
def aAC (G : Cfg) (ct : Tab) (en : tV) (fn : Func) (c : Code) (rt : I7) (al : List Al) (args : List VV) (Q : Z2 rt -> Prop) : Prop :=
  yA ct 1 (vwp G ct en c 1) ⟨D1 args, []⟩ fun e s => match e with
    | .normal | .ret => Q6 G s fn.results.toList fun vs => O0 rt al vs s.h Q
    | _ => False
end Go.Mach
