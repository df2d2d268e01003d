/- Part of the proof. No condition. -/
import Derived.Test.YtcfpfefadlnmcaaGreatYVDef
namespace Go.Mach
def ET : List VV -> List VO -> List VV × List VO
  | [], h => ([], h)
  | v :: r, h => match v with
    | .nw t l => let p := ET r (h ++ [.lst true t l false]); (.own h.length :: p.1, p.2)
    | v => let p := ET r h; (v :: p.1, p.2)
def wN : List (Bool × List VV) -> List VO -> List VV × List VO
  | [], h => ([], h)
  | (g, cs) :: r, h =>
    let p := ET cs h
    let q := wN r p.2
    ((if g then .agg p.1 else p.1.headD .undef) :: q.1, q.2)
def OG:List VV->VV
 | [v]=>v
 | vs => .tup vs
def ED (h : List VO) : VV -> List Nat
  | .agg l => l.flatMap nU
  | .ptr i _ => i :: (match bO h i with
    | .box cs _ => cs.flatMap nU
    | _ => [])
  | .bx l _ => l.flatMap nU
  | v => nU v
def FG (h:List VO):VV->List Nat
 | .fn _ l=>l.flatMap (ED h)
 | v=>ED h v
def aHG:VV->Bool
 | .fz _ _ _=>true
 | .fn _ _=>true
 | _=>false
def GA (sl:List (Bool×List VV)):Bool:=sl.any fun p=>p.2.any aHG
def EV : List (Bool × List VV) -> (List (Bool × List VV) -> Prop) -> Prop
  | [], k => k []
  | p :: r, k => match p with
    | (false, [.nw T l, .undef]) => nz l (EV r fun r' => k ((false, [.pl (.slice none 0 0)]) :: r')) (EV r fun r' => k ((false, [.nw T l]) :: r'))
    | p => EV r fun r' => k (p :: r')
def aCz (G : Cfg) (f : VV) (args : List VV) (h : List VO) (K : VV -> List VO -> Prop) : Prop :=
  match f with
  | .fn g caps => if GT G.P g then
      G.O g (args.map (V9 h) ++ caps.map (V9 h)) (fun r => EV r fun r => let p := wN r (match GA r with
        | true => cW h ((args ++ caps).flatMap (FG h))
        | false => h); K (OG p.1) p.2) else False
  | _ => False
def FO (G : Cfg) (o : Oper) (s : VS) (k : VS -> Prop) : Prop :=
  match o.op with
  | .call c => match c.callee with
    | .value f => aCz G (evV s.t f) (c.args.toList.map (evV s.t)) s.h fun v h => k (VS.set ⟨s.t, h⟩ o.dst v)
    | _ => cE G o.op s.t s.h fun v h => k (VS.set ⟨s.t, h⟩ o.dst v)
  | _ => cE G o.op s.t s.h fun v h => k (VS.set ⟨s.t, h⟩ o.dst v)
def HV:Option (Nat×Bool)->Option (Nat×Bool)->Bool
 | none,none=>true
 | some (i,a),some (j,b)=>i==j&&a==b
 | _,_=>false
def FL (g:Option (Nat×Bool)):List Oper->List Oper×List Oper
 | []=>([],[])
 | o::l=>if HV o.guard g then ([],o::l) else let r:=FL g l; (o::r.1,r.2)
def sO : Op -> Bool
  | .move _ | .assign _ | .load .. | .binOp .. | .unOp .. | .fieldAddr .. | .field .. | .indexAddr .. | .index .. | .extract .. | .convert .. | .pick .. => true
  | .alloc _ | .box .. | .build .. | .buildSlice .. | .makeSlice .. | .slice .. | .sliceToArrayPointer .. | .nilCheck .. => true
  | .call c => match c.callee with
    | .builtin .len | .builtin .min | .builtin .max | .builtin .complex | .builtin .real | .builtin .imag => true
    | .value _ => true
    | _ => false
  | _ => false
def wX : Op -> Bool
  | .move _ | .assign _ | .load .. | .unOp .. | .fieldAddr .. | .field .. | .extract .. | .convert .. | .pick .. => true
  | .binOp b _ _ _ _ => match b with
    | .shl | .shr | .quo | .rem => false
    | _ => true
  | .call c => match c.callee with
    | .builtin .len | .builtin .min | .builtin .max | .builtin .complex | .builtin .real | .builtin .imag => true
    | _ => false
  | _ => false
def aAn (ops : Array Oper) (j : Nat) (w : Bool) : List Nat -> List Oper -> Bool
  | _, [] => true
  | known, o :: l => (match o.guard with
    | none => false
    | some (j', w') => (j' == j && w' == w) || (match (ops[j']?).bind (·.dst) with
      | some x => known.contains x
      | none => false)) && aAn ops j w (match o.dst with
        | some x => x :: known
        | none => known) l
def rL : List Oper -> List (Nat × VV) -> List (Nat × VV)
  | [], t => t
  | o :: l, t => match o.dst with
    | some d => (d, .undef) :: rL l t
    | none => rL l t
def KM (h:Nat):VV->VV
 | .ptr i off=>if i<h then .mptr i off else .undef
 | _ => .undef
def q7 (h : Nat) : List Oper -> List (Nat × VV) -> List (Nat × VV) -> List (Nat × VV)
  | [], _, t => t
  | o :: l, t2, t => match o.dst with
    | some d => (d, KM h (cO t2 d)) :: q7 h l t2 t
    | none => q7 h l t2 t
def F5 (v:VV) (K:Bool->Prop):Prop :=
 match v with
 | .pl (.bool b)=>K b
 | _=>False
def TE:Operand->Option Bool
 | .const (.bool b)=>some b
 | _=>none
def aDW (d:Nat) (b:Oper):Bool :=
 match b.dst with
 | some x=>x != d
 | none=>true
def vS (G : Cfg) (ops : Array Oper) : Nat -> Option (Nat × Bool) -> List Oper -> VS -> (VS -> Prop) -> Prop
  | 0, _, _, _, _ => False
  | _ + 1, _, [], s, k => k s
  | n + 1, g, o :: rest, s, k =>
    match HV o.guard g with
    | true => FO G o s fun s' => vS G ops n g rest s' k
    | false => match FL g (o :: rest), o.guard with
      | (body, res :: rest'), some (j, w) =>
        match (ops[j]?).bind (·.dst), res.op, res.dst with
        | some d, .pick (.tmp c) x y, some r =>
          match c == d && r != d && body.all (fun b => aDW d b && sO b.op) && aAn ops j w [] body && TE (if w then y else x) == some (!w), cO s.t d with
          | true, .pl (.bool b) =>
            match body.all (fun b => wX b.op) with
            | true => vS G ops n (some (j, w)) body s fun s2 => F5 (evV s2.t (if w then x else y)) fun v =>
                vS G ops n g rest' ⟨(r, .pl (.bool (if w then b && v else b || v))) :: q7 s.h.length body s2.t s.t, s.h⟩ k
            | false => jn (fun v => vS G ops n g rest' ⟨(r, .pl (.bool v)) :: rL body s.t, s.h⟩ k) fun J =>
                if b = true then (if w = true then vS G ops n (some (j, w)) body s fun s2 => F5 (evV s2.t x) J else J true)
                else (if w = true then J false else vS G ops n (some (j, w)) body s fun s2 => F5 (evV s2.t y) J)
          | _, _ => False
        | _, _, _ => False
      | _, _ => False
def IM:VV->Option (List (Option Nat))
 | .own i | .ptr i _ | .eptr i _ _ | .mptr i _=>some [some i]
 | .fptr _ _ _ _ _ | .bx _ _=>some [none]
 | .pl _ | .agg _ | .tup _ | .fn _ _=>some []
 | _=>none
def NF : List VV -> Option (List (Option Nat))
  | [] => some []
  | v :: l => match IM v, NF l with
    | some a, some b => some (a ++ b)
    | _, _ => none
def aE3 (op : Op) (t : List (Nat × VV)) : Option (List (Option Nat)) :=
  match op with
  | .load _ a => IM (evV t a)
  | .store _ a _ => IM (evV t a)
  | .convert _ _ x => IM (evV t x)
  | .call c => match c.callee with
    | .builtin .append | .builtin .copy => NF (c.args.toList.map (evV t))
    | _ => some []
  | _ => some []
def wrV (op : Op) (t : List (Nat × VV)) : Option (List (Option Nat)) :=
  match op with
  | .store _ a _ => IM (evV t a)
  | .call c => match c.callee with
    | .builtin .append | .builtin .copy => match c.args.toList with
      | x :: _ => IM (evV t x)
      | [] => some []
    | _ => some []
  | _ => some []
def DE (h:List VO):Option Nat->Option Nat->Bool
 | some i,some j=>i != j&&((boxB (bO h i)||boxB (bO h j))||ownB (bO h i)&&ownB (bO h j))
 | some i,none=>ownB (bO h i)
 | none,some j=>ownB (bO h j)
 | none,none=>false
where
 ownB:VO->Bool
  | .box _ fr => !fr
  | .lst _ _ _ fr => !fr
  | .dead b=>b
 boxB:VO->Bool
  | .box _ _=>true
  | _=>false
def VZ (h:List VO):Option (List (Option Nat))->Option (List (Option Nat))->Bool
 | some [],_=>true
 | _,some []=>true
 | some a,some b=>a.all fun x=>b.all fun y=>DE h x y
 | _,_=>false
def OV (ops:Array Oper) (s:VS) (p:Nat×Nat):Bool :=
 match ops[p.1]?,ops[p.2]? with
 | some oi,some oj=>VZ s.h (wrV oi.op s.t) (aE3 oj.op s.t)&&VZ s.h (aE3 oi.op s.t) (wrV oj.op s.t)
 | _,_=>false
def DV (G : Cfg) (ops : Array Oper) (draw : Bool) (s : VS) (k : VS -> Prop) : Prop :=
  match draw with
  | false => vS G ops (ops.size + 1) none ops.toList s k
  | true => match xU ops (bK ops.toList #[]) && (jA ops (bK ops.toList #[])).all (fun p => pE ops p.1 && pE ops p.2) with
    | true => vS G ops (ops.size + 1) none ops.toList s fun s' => match (jA ops (bK ops.toList #[])).all (OV ops s') with
      | true => k s'
      | false => False
    | false => False
def NS : List Oper -> Option (List Oper × Oper)
  | [] => none
  | o :: l => match l, NS l with
    | [], _ => some ([], o)
    | _ :: _, some (p, x) => some (o :: p, x)
    | _ :: _, none => none
def aAt (ops : Array Oper) (draw : Bool) : Option (List Oper × Oper × Operand × List Operand) :=
  match NS ops.toList with
  | some (pre, o) => match o.guard, o.op with
    | none, .call c => match c.callee with
      | .value f => match draw with
        | false => some (pre, o, f, c.args.toList)
        | true => match xU ops (bK ops.toList #[]) && (jA ops (bK ops.toList #[])).isEmpty && iC ops (bK ops.toList #[]) pre.length with
          | true => some (pre, o, f, c.args.toList)
          | false => none
      | _ => none
    | _, _ => none
  | none => none
def N6 (B : FuncId -> Bool) (p : List Oper) : List Oper -> Option (List Oper × Oper × FuncId × List Operand × List Oper)
  | [] => none
  | o :: r => match o.guard, o.op with
    | none, .call c => match c.callee with
      | .value (.func g) => match B g with
        | true => some (p, o, g, c.args.toList, r)
        | false => N6 B (p ++ [o]) r
      | _ => N6 B (p ++ [o]) r
    | _, _ => N6 B (p ++ [o]) r
def U2 (B : FuncId -> Bool) (ops : Array Oper) (draw : Bool) : Option (List Oper × Oper × FuncId × List Operand × List Oper) :=
  match N6 B [] ops.toList with
  | none => none
  | some (p, o, g, azz, r) => match draw with
    | false => some (p, o, g, azz, r)
    | true => match xU ops (bK ops.toList #[]) && (jA ops (bK ops.toList #[])).all (fun q => pE ops q.1 && pE ops q.2) && iC ops (bK ops.toList #[]) p.length with
      | true => some (p, o, g, azz, r)
      | false => none
def NC (G : Cfg) (ops : Array Oper) (draw : Bool) (s : VS) (k : VS -> Prop) : Prop :=
  match G.I with
  | none => DV G ops draw s k
  | some J => match aAt ops draw with
    | none => match U2 J.B ops draw with
      | none => DV G ops draw s k
      | some (pre, o, g, args, post) => vS G ops (ops.size + 1) none pre s fun s1 => match GT G.P g with
        | true => J.run g (args.map (evV s1.t)) s1 fun v s2 => vS G ops (ops.size + 1) none post (VS.set s2 o.dst v) fun s' => match !draw || (jA ops (bK ops.toList #[])).all (OV ops s') with
          | true => k s'
          | false => False
        | false => False
    | some (pre, o, f, args) => vS G ops (ops.size + 1) none pre s fun s1 => match evV s1.t f with
      | .fn g caps => match J.B g && GT G.P g with
        | true => J.run g (args.map (evV s1.t) ++ caps) s1 fun v s2 => k (VS.set s2 o.dst v)
        | false => FO G o s1 k
      | _ => FO G o s1 k
def UF (kd:IntKind):Ty->Bool
 | .int k=>decide (k=kd)
 | .slc t=>UF kd t
 | .ref t=>UF kd t
 | .pair a b=>UF kd a||UF kd b
 | _=>false
def SE (kd:IntKind) (v:Int):(T:Ty)->T.den->T.den->Prop
 | .int k,x,y=>y=x\/(k=kd/\y=v)
 | .slc t,l,m=>m.length=l.length/\∀ (i:Nat) (x y:t.den),l[i]? = some x->m[i]? = some y->SE kd v t x y
 | .ref t,l,m=>m.length=l.length/\∀ (i:Nat) (x y:t.den),l[i]? = some x->m[i]? = some y->SE kd v t x y
 | .pair a b,x,y=>SE kd v a x.1 y.1/\SE kd v b x.2 y.2
 | .bool,x,y=>y=x
 | .str,x,y=>y=x
 | .unit,_,_=>True
 | .flt,x,y=>y=x
 | .cpx,x,y=>y=x
def hvL (kd : IntKind) (v : Int) : VV -> (VV -> Prop) -> Prop
  | .fz o T l, K => match UF kd T with
    | true => ∀ m : (Ty.slc T).den, SE kd v (.slc T) l m -> K (.fz o T m)
    | false => K (.fz o T l)
  | .pl x, K => K (.pl x)
  | .own i, K => K (.own i)
  | .ptr i o, K => K (.ptr i o)
  | .hof i, K => K (.hof i)
  | _, K => K .undef
def aFo (kd:IntKind) (v:Int):List VV->(List VV->Prop)->Prop
 | [],K=>K []
 | x::r,K=>hvL kd v x fun y=>aFo kd v r fun l=>K (y::l)
def hvT (kd:IntKind) (v:Int) (t:List (Nat×VV)):List Nat->(List (Nat×VV)->Prop)->Prop
 | [],K=>K []
 | d::r,K=>hvL kd v (cO t d) fun y=>hvT kd v t r fun l=>K ((d,y)::l)
def hvO (kd : IntKind) (v : Int) : VO -> (VO -> Prop) -> Prop
  | .box cs false, K => aFo kd v cs fun cs => K (.box cs false)
  | .lst o T l fr, K => match UF kd T with
    | true => ∀ m : (Ty.slc T).den, SE kd v (.slc T) l m -> K (.lst o T m fr)
    | false => K (.lst o T l fr)
  | .dead b, K => K (.dead b)
  | _, _ => False
def hvH (kd:IntKind) (v:Int):List VO->(List VO->Prop)->Prop
 | [],K=>K []
 | o::r,K=>hvO kd v o fun o=>hvH kd v r fun l=>K (o::l)
def hvS (kd:IntKind) (v:Int) (live:List Nat) (s:VS) (K:VS->Prop):Prop:=hvT kd v s.t live fun t=>hvH kd v s.h fun h=>K ⟨t,h⟩
def WB (ops : Array Oper) (draw : Bool) : Option (List Oper × Oper × TypeId × Operand × Operand) :=
  match NS ops.toList with
  | some (pre, o) => match o.guard, o.dst, o.op with
    | none, none, .store ty a x => match draw with
      | false => some (pre, o, ty, a, x)
      | true => match xU ops (bK ops.toList #[]) && (jA ops (bK ops.toList #[])).isEmpty with
        | true => some (pre, o, ty, a, x)
        | false => none
    | _, _, _ => none
  | none => none
def NX (G : Cfg) (ops : Array Oper) (draw : Bool) (live : List Nat) (s : VS) (k : VS -> Prop) : Prop :=
  match G.hv with
  | false => NC G ops draw s k
  | true => match WB ops draw with
    | none => NC G ops draw s k
    | some (pre, o, ty, a, x) => vS G ops (ops.size + 1) none pre s fun s1 => match evV s1.t a, evV s1.t x with
      | .fptr true (.int kd) _ _ 0, .pl (.int kd' v) => if kd = kd' /\ L3 G.P ty = some 1 then hvS kd v live s1 k else False
      | _, _ => FO G o s1 k
def JS : Nat -> List VO -> List Nat -> List Nat -> List Nat
  | 0, _, _, acc => acc
  | _ + 1, _, [], acc => acc
  | n + 1, h, i :: todo, acc =>
    match acc.contains i with
    | true => JS n h todo acc
    | false => JS n h (todo ++ (match bO h i with
        | .box cs _ => cs.flatMap aES
        | _ => [])) (acc ++ [i])
def u7 (i:Nat):List Nat->Nat->Option Nat
 | [],_=>none
 | j::l,n=>if i=j then some n else u7 i l (n+1)
def VI (ids : List Nat) : VV -> VV
  | .own i => match u7 i ids 0 with
    | some j => .own j
    | none => .undef
  | .ptr i off => match u7 i ids 0 with
    | some j => .ptr j off
    | none => .undef
  | .eptr i ix off => match u7 i ids 0 with
    | some j => .eptr j ix off
    | none => .undef
  | .pl v => .pl v
  | .er b => .er b
  | .fz o t l => .fz o t l
  | .fptr o t l ix off => .fptr o t l ix off
  | .hof i => .hof i
  | _ => .undef
def aEY (ids:List Nat):VV->VV
 | .agg l => .agg (l.map (VI ids))
 | .bx l off => .bx (l.map (VI ids)) off
 | .bs l => .bs (l.map (VI ids))
 | v=>VI ids v
def aGy (ids:List Nat):VV->VV
 | .tup l => .tup (l.map (aEY ids))
 | .fn f l => .fn f (l.map (aEY ids))
 | v=>aEY ids v
def UV (ids:List Nat):VO->VO
 | .box cs fr => .box (cs.map (VI ids)) fr
 | o=>o
def QR (live:List Nat) (s:VS):List VV×List VO :=
 let vs:=live.map (cO s.t)
 let ids:=JS (2*s.h.length+40) s.h (vs.flatMap aGV) []
 (vs.map (aGy ids),ids.map fun i=>UV ids (bO s.h i))
inductive Lf
 | int (k:IntKind)
 | bool
 | str
 | flt
 | cpx
 | fz (o:Bool) (t:Ty)
 | cst (v:VV)
 | fp (o:Bool) (t:Ty)
@[reducible] def Lf.den : Lf -> Type
  | .int _ => Int
  | .bool => Bool
  | .str => ByteArray
  | .flt => Nat
  | .cpx => Nat × Nat
  | .fz _ t => List t.den
  | .cst _ => Unit
  | .fp _ t => t.den
inductive Cp
 | lf (x:Lf)
 | agg (l:List Lf)
 | bx (l:List Lf)
inductive Sh
 | lf (x:Lf)
 | agg (l:List Lf)
 | bx (l:List Lf)
 | fn (g:FuncId) (l:List Cp)
abbrev lI:Lf := .int .i64
abbrev lB:Lf := .bool
abbrev lZ (t:Ty):Lf := .fz false t
abbrev sI:Sh := .lf (.int .i64)
abbrev sB:Sh := .lf .bool
abbrev sZ (t:Ty):Sh := .lf (.fz false t)
abbrev sC (v:VV):Sh := .lf (.cst v)
@[reducible] def vI (n:Int):VV := .pl (.int .i64 n)
@[reducible] def vB (b:Bool):VV := .pl (.bool b)
@[reducible] def vK (k:IntKind) (n:Int):VV := .pl (.int k n)
@[reducible] def vZ (t:Ty) (l:List t.den):VV := .fz false t l
abbrev QT:=List (Bool×List VV)->Prop
inductive OSh
 | box (l:List Lf) (fr:Bool)
 | lst (o:Bool) (t:Ty) (fr:Bool)
 | dead
@[reducible] def N7 : List Lf -> Type
  | [] => Unit
  | x :: l => x.den × N7 l
@[reducible] def Cp.den : Cp -> Type
  | .lf x => x.den
  | .agg l => N7 l
  | .bx l => N7 l
@[reducible] def ZZ : List Cp -> Type
  | [] => Unit
  | x :: l => x.den × ZZ l
@[reducible] def Sh.den : Sh -> Type
  | .lf x => x.den
  | .agg l => N7 l
  | .bx l => N7 l
  | .fn _ l => ZZ l
@[reducible] def uF : List Sh -> Type
  | [] => Unit
  | x :: l => x.den × uF l
@[reducible] def OSh.den : OSh -> Type
  | .box l _ => N7 l
  | .lst _ t _ => List t.den
  | .dead => Unit
@[reducible] def Q2 : List OSh -> Type
  | [] => Unit
  | x :: l => x.den × Q2 l
def L5:(x:Lf)->x.den->VV
 | .int k,n => .pl (.int k n)
 | .bool,b => .pl (.bool b)
 | .str,s => .pl (.string s)
 | .flt,x => .pl (.float .f64 x)
 | .cpx,x => .pl (.complex .f64 x.1 x.2)
 | .fz o t,l => .fz o t l
 | .cst v,_=>v
 | .fp o t,x => .fptr o t [x] 0 0
def LJ:(l:List Lf)->N7 l->List VV
 | [],_=>[]
 | x::l,d=>L5 x d.1::LJ l d.2
def aA3:(x:Cp)->x.den->VV
 | .lf x,d=>L5 x d
 | .agg l,d => .agg (LJ l d)
 | .bx l,d => .bx (LJ l d) 0
def aBO:(l:List Cp)->ZZ l->List VV
 | [],_=>[]
 | x::l,d=>aA3 x d.1::aBO l d.2
def aAU:(x:Sh)->x.den->VV
 | .lf x,d=>L5 x d
 | .agg l,d => .agg (LJ l d)
 | .bx l,d => .bx (LJ l d) 0
 | .fn g l,d => .fn g (aBO l d)
def vJ:(l:List Sh)->uF l->List VV
 | [],_=>[]
 | x::l,d=>aAU x d.1::vJ l d.2
def aDV:(x:OSh)->x.den->VO
 | .box l fr,d => .box (LJ l d) fr
 | .lst o t fr,d => .lst o t d fr
 | .dead,_ => .dead false
def aDw:(l:List OSh)->Q2 l->List VO
 | [],_=>[]
 | x::l,d=>aDV x d.1::aDw l d.2
def PO:VV->VV->Bool
 | .own i,.own j=>i==j
 | .ptr i o,.ptr j o'=>i==j&&o==o'
 | .undef,.undef=>true
 | .hof i,.hof j=>i==j
 | .pl (.int k a),.pl (.int k' b)=>decide (k=k')&&a==b
 | .pl (.bool a),.pl (.bool b)=>a==b
 | .pl (.slice none a b),.pl (.slice none c d)=>a==c&&b==d
 | .pl .nilFunc,.pl .nilFunc=>true
 | .pl (.pointer none),.pl (.pointer none)=>true
 | _,_=>false
def TT:List VV->List VV->Bool
 | [],[]=>true
 | a::l,b::r=>PO a b&&TT l r
 | _,_=>false
def S3:VV->VV->Bool
 | .fn f l,.fn g r=>f==g&&TT l r
 | a,b=>PO a b
def unF (x : Lf) (v : VV) (K : x.den -> Prop) : Prop :=
  match x with
  | .int k => match v with
    | .pl (.int k' n) => if k = k' then K n else False
    | _ => False
  | .bool => match v with
    | .pl (.bool b) => K b
    | _ => False
  | .str => match v with
    | .pl (.string s) => K s
    | _ => False
  | .flt => match v with
    | .pl (.float .f64 x) => K x
    | _ => False
  | .cpx => match v with
    | .pl (.complex .f64 a b) => K (a, b)
    | _ => False
  | .fz o t => match v with
    | .fz o' t' l => if o = o' then Ty.at t' t l K else False
    | _ => False
  | .cst c => if S3 c v = true then K () else False
  | .fp o t => match v with
    | .fptr o' t' l 0 0 => if o = o' then Ty.at t' t l fun l => (match l with
      | [x] => K x
      | _ => False) else False
    | _ => False
def unL : (l : List Lf) -> List VV -> (N7 l -> Prop) -> Prop
  | [], vs, K => match vs with
    | [] => K ()
    | _ => False
  | x :: l, vs, K => match vs with
    | v :: r => unF x v fun a => unL l r fun b => K (a, b)
    | [] => False
def aFs (x : Cp) (v : VV) (K : x.den -> Prop) : Prop :=
  match x with
  | .lf x => unF x v K
  | .agg l => match v with
    | .agg cs => unL l cs K
    | _ => False
  | .bx l => match v with
    | .bx cs 0 => unL l cs K
    | _ => False
def unC : (l : List Cp) -> List VV -> (ZZ l -> Prop) -> Prop
  | [], vs, K => match vs with
    | [] => K ()
    | _ => False
  | x :: l, vs, K => match vs with
    | v :: r => aFs x v fun a => unC l r fun b => K (a, b)
    | [] => False
def aGG (x : Sh) (v : VV) (K : x.den -> Prop) : Prop :=
  match x with
  | .lf x => unF x v K
  | .agg l => match v with
    | .agg cs => unL l cs K
    | _ => False
  | .bx l => match v with
    | .bx cs 0 => unL l cs K
    | _ => False
  | .fn g l => match v with
    | .fn g' cs => if g = g' then unC l cs K else False
    | _ => False
def unS : (l : List Sh) -> List VV -> (uF l -> Prop) -> Prop
  | [], vs, K => match vs with
    | [] => K ()
    | _ => False
  | x :: l, vs, K => match vs with
    | v :: r => aGG x v fun a => unS l r fun b => K (a, b)
    | [] => False
def aGm (x : OSh) (v : VO) (K : x.den -> Prop) : Prop :=
  match x with
  | .box l fr => match v with
    | .box cs fr' => if fr = fr' then unL l cs K else False
    | _ => False
  | .lst o t fr => match v with
    | .lst o' t' l fr' => if o = o' /\ fr = fr' then Ty.at t' t l K else False
    | _ => False
  | .dead => match v with
    | .dead false => K ()
    | _ => False
def unO : (l : List OSh) -> List VO -> (Q2 l -> Prop) -> Prop
  | [], vs, K => match vs with
    | [] => K ()
    | _ => False
  | x :: l, vs, K => match vs with
    | v :: r => aGm x v fun a => unO l r fun b => K (a, b)
    | [] => False
def MR:List Nat->List VV->List (Nat×VV)
 | d::ds,v::vs=>(d,v)::MR ds vs
 | _,_=>[]
structure Ent where
 live:List Nat
 sh:List Sh
 ob:List OSh
 P:uF sh×Q2 ob->(dS->VS->Prop)->Prop
def TP (live:List Nat) (sh:List Sh) (ob:List OSh) (x:uF sh×Q2 ob):VS:=⟨MR live (vJ sh x.1),aDw ob x.2⟩
def aGT (live:List Nat) (sh:List Sh) (ob:List OSh) (s:VS) (K:uF sh×Q2 ob->Prop):Prop :=
 let c:=QR live s
 unS sh c.1 fun a=>unO ob c.2 fun b=>K (a,b)
def Ent.run (E:Ent) (s:VS) (k:dS->VS->Prop):Prop:=aGT E.live E.sh E.ob s fun x=>E.P x k
def Loop {S:Type} (B:S->(S->Prop)->Prop) (s:S):Prop:=∀ X:S->Prop,(∀ s,B s X->X s)->X s
abbrev Tab:=Nat->Option Ent
structure Co where
 d:Nat
 cell:Option Nat
 fz:Bool
 T:Ty
abbrev tO:=Nat->Option (List Co×List Nat)
def conv (fz : Bool) (T : Ty) (h : List VO) (v : VV) : Option (VV × List VO) :=
  match fz, v with
  | false, .pl (.slice none 0 0) => some (.own h.length, h ++ [.lst true T [] false])
  | true, .pl (.slice none 0 _) => some (.fz false T [], h)
  | true, .own i => match bO h i with
    | .lst _ t l _ => some (.fz false t l, cW h [i])
    | _ => none
  | true, .fz _ t l => some (.fz false t l, h)
  | _, _ => none
def co1 (s : VS) (c : Co) : VS :=
  match c.cell with
  | none => match conv c.fz c.T s.h (cO s.t c.d) with
    | some (v, h) => ⟨(c.d, v) :: s.t, h⟩
    | none => s
  | some q => match cO s.t c.d with
    | .ptr i _ => match bO s.h i with
      | .box cs fr => match cs[q]? with
        | some u => match conv c.fz c.T s.h u with
          | some (v, h) => ⟨s.t, h.set i (.box (cs.set q v) fr)⟩
          | none => s
        | none => s
      | _ => s
    | _ => s
def aEH:List Co->VS->VS
 | [],s=>s
 | c::cs,s=>aEH cs (co1 s c)
def wY (ct:Tab) (n:Nat) (f:VS->(dS->VS->Prop)->Prop) (s:VS) (k:dS->VS->Prop):Prop :=
 match ct n with
 | some E=>E.run s k
 | none=>f s k
def aHe (live:List Nat) (s:VS):VS:=⟨MR live (QR live s).1,(QR live s).2⟩
def wH (en:tO) (n:Nat) (s:VS):VS :=
 match en n with
 | some (cs,l)=>aHe l (aEH cs s)
 | none=>s
def aEQ (x:Nat):List Nat->List Nat
 | []=>[x]
 | y::l=>if x<y then x::y::l else if x=y then y::l else y::aEQ x l
def aH3 (a b:List Nat):List Nat:=a.foldr aEQ b
def aID (x:Nat) (l:List Nat):List Nat:=l.filter fun y => !(Nat.beq y x)
def aHA (o:Operand) (l:List Nat):List Nat :=
 match o with
 | .tmp i=>aEQ i l
 | _=>l
def U5 (ops : Array Oper) : List Oper -> List Nat -> List Nat
  | [], out => out
  | o :: l, out => (match o.guard with
    | some (j, _) => (match (ops[j]?).bind (·.dst) with
      | some d => aEQ d
      | none => id)
    | none => id) (o.op.operands.toList.foldr aHA (match o.dst with
      | some d => aID d (U5 ops l out)
      | none => U5 ops l out))
def aCp (n:Nat):List (Nat×List Nat)->List Nat
 | []=>[]
 | (i,l)::r=>if i=n then l else aCp n r
def aIA (a b:List Nat):Bool:=a.all fun x=>b.any fun y=>Nat.beq y x
def aHV (f : List Nat -> List Nat) : Nat -> List Nat -> List Nat
  | 0, L => L
  | k + 1, L => (fun N => match aIA N L with
    | true => L
    | false => aHV f k (aH3 N L)) (f L)
def lvC (res : List Nat) : Code -> Nat -> List Nat -> List (Nat × List Nat) -> List Nat × List (Nat × List Nat)
  | .region _ ops _, n, out, _ => (U5 ops ops.toList out, [(n, out)])
  | .seq a b, n, out, ex => match lvC res b (2 * n + 1) out ex with
    | (lb, tb) => match lvC res a (2 * n) lb ex with
      | (la, ta) => (la, ta ++ tb)
  | .cond c a b, n, out, ex => match lvC res a (2 * n) out ex, lvC res b (2 * n + 1) out ex with
    | (la, ta), (lb, tb) => (aHA c (aH3 la lb), ta ++ tb)
  | .block id b, n, out, ex => lvC res b (2 * n) out ((id, out) :: ex)
  | .loop b, n, _, ex => (fun L => (L, (n, L) :: (lvC res b (2 * n) L ex).2)) (aHV (fun L => (lvC res b (2 * n) L ex).1) 20 [])
  | .exit id, n, _, ex => (aCp id ex, [(n, aCp id ex)])
  | .ret, n, _, _ => (res, [(n, res)])
  | _, n, out, _ => (out, [(n, out)])
def aF8 (n:Nat):List (Nat×List Nat)->Option (List Nat)
 | []=>none
 | (i,l)::r=>if i=n then some l else aF8 n r
def coS (n:Nat):List (Nat×List Co)->List Co
 | []=>[]
 | (i,l)::r=>if i=n then l else coS n r
def YK (b:Code) (res:List Nat) (cos:List (Nat×List Co)):tO:=fun n=>match aF8 n (lvC res b 1 res []).2 with
 | some l=>some (coS n cos,l)
 | none=>none
def unr {S:Type} (B:S->(S->Prop)->Prop):Nat->S->Prop
 | 0,_=>False
 | n+1,s=>B s (unr B n)
def LB (k : dS -> VS -> Prop) (en : tO) (n : Nat) (b : VS -> (dS -> VS -> Prop) -> Prop) (s : VS) (nx : VS -> Prop) : Prop :=
  b s fun e s' => match e with
    | .normal => nx (wH en n s')
    | e => k e s'
def aGH (en:tO) (n:Nat):List Nat :=
 match en n with
 | some (_,l)=>l
 | none=>[]
def vwp (G : Cfg) (ct : Tab) (en : tO) : Code -> Nat -> VS -> (dS -> VS -> Prop) -> Prop
  | .skip, n, s, k => k .normal (wH en n s)
  | .label _, n, s, k => k .normal (wH en n s)
  | .region _ ops draw, n, s, k => NX G ops draw (aGH en n) s fun s' => k .normal (wH en n s')
  | .seq a b, n, s, k => wY ct (2 * n) (vwp G ct en a (2 * n)) s fun e s' => match e with
    | .normal => wY ct (2 * n + 1) (vwp G ct en b (2 * n + 1)) s' k
    | e => k e s'
  | .cond c x y, n, s, k => match evV s.t c with
    | .pl (.bool b) => if b = true then wY ct (2 * n) (vwp G ct en x (2 * n)) s k else wY ct (2 * n + 1) (vwp G ct en y (2 * n + 1)) s k
    | _ => False
  | .block id b, n, s, k => wY ct (2 * n) (vwp G ct en b (2 * n)) s fun e s' => match e with
    | .exit id' => k (if id' = id then .normal else .exit id') s'
    | e => k e s'
  | .loop b, n, s, k => match G.un with
    | 0 => Loop (LB k en n (wY ct (2 * n) (vwp G ct en b (2 * n)))) (wH en n s)
    | u + 1 => unr (LB k en n (wY ct (2 * n) (vwp G ct en b (2 * n)))) (u + 1) (wH en n s)
  | .exit id, n, s, k => k (.exit id) (wH en n s)
  | .ret, n, s, k => k .ret (wH en n s)
  | _, _, _, _ => False
def G0 (x : Lf) (v : VV) (K : x.den -> Prop) : Prop :=
  match x with
  | .fz false t => match v with
    | .fz false t' l => Ty.at t' t l K
    | .pl (.slice none 0 _) => K []
    | _ => False
  | x => unF x v K
def WO : (l : List Lf) -> List VV -> (N7 l -> Prop) -> Prop
  | [], vs, K => match vs with
    | [] => K ()
    | _ => False
  | x :: l, vs, K => match vs with
    | v :: r => G0 x v fun a => WO l r fun b => K (a, b)
    | [] => False
def aDA (x : Cp) (v : VV) (K : x.den -> Prop) : Prop :=
  match x with
  | .lf x => G0 x v K
  | .agg l => match v with
    | .agg cs => WO l cs K
    | _ => False
  | .bx l => match v with
    | .bx cs 0 => WO l cs K
    | _ => False
def aDY : (l : List Cp) -> List VV -> (ZZ l -> Prop) -> Prop
  | [], vs, K => match vs with
    | [] => K ()
    | _ => False
  | x :: l, vs, K => match vs with
    | v :: r => aDA x v fun a => aDY l r fun b => K (a, b)
    | [] => False
def aD5 (x : Sh) (v : VV) (K : x.den -> Prop) : Prop :=
  match x with
  | .lf x => G0 x v K
  | .agg l => match v with
    | .agg cs => WO l cs K
    | _ => False
  | .bx l => match v with
    | .bx cs 0 => WO l cs K
    | _ => False
  | .fn g l => match v with
    | .fn g' cs => if g = g' then aDY l cs K else False
    | _ => False
def YQ:List VV->List Nat
 | []=>[]
 | .fn g _::l=>g::YQ l
 | _::l=>YQ l
def aFT:List Nat->List Nat->Bool
 | [],[]=>true
 | a::l,b::r=>a==b&&aFT l r
 | _,_=>false
def unA : (l : List Sh) -> List VV -> (uF l -> Prop) -> Prop
  | [], vs, K => match vs with
    | [] => K ()
    | _ => False
  | x :: l, vs, K => match vs with
    | v :: r => aD5 x v fun a => unA l r fun b => K (a, b)
    | [] => False
def OR (G : Cfg) (s : VS) : List ResultVar -> (List VV -> Prop) -> Prop
  | [], K => K []
  | .tmp d :: r, K => OR G s r fun l => K (cO s.t d :: l)
  | .cell d ty :: r, K => match cO s.t d with
    | .ptr i off => match bO s.h i with
      | .box cs _ => yC (aTy G.P ty) cs off fun v => OR G s r fun l => K (v :: l)
      | _ => False
    | _ => False
def xp : (t : Ty) -> List VV -> List VO -> (t.den -> List VV -> List VO -> Prop) -> Prop
  | .int k, cs, h, K => match cs with
    | .pl (.int k' n) :: r => if k = k' then K n r h else False
    | _ => False
  | .bool, cs, h, K => match cs with
    | .pl (.bool b) :: r => K b r h
    | _ => False
  | .str, cs, h, K => match cs with
    | .pl (.string s) :: r => K s r h
    | _ => False
  | .flt, cs, h, K => match cs with
    | .pl (.float .f64 x) :: r => K x r h
    | _ => False
  | .cpx, cs, h, K => match cs with
    | .pl (.complex .f64 a b) :: r => K (a, b) r h
    | _ => False
  | .ref _, _, _, _ => False
  | .slc t, cs, h, K => match cs with
    | .own i :: r => match bO h i with
      | .lst true t' l false => Ty.at t' t l fun l => K l r (h.set i (.dead false))
      | _ => False
    | .pl (.slice none 0 0) :: r => K [] r h
    | _ => False
  | .unit, cs, h, K => K () cs h
  | .pair a b, cs, h, K => xp a cs h fun x r h' => xp b r h' fun y r' h'' => K (x, y) r' h''
inductive Al
 | n
 | f
 | z
 | p (a b:Al)
def xpA : Al -> (t : Ty) -> List VV -> List VO -> (t.den -> List VV -> List VO -> Prop) -> Prop
  | .f, .slc t, cs, h, K => match cs with
    | .fz _ t' l :: r => Ty.at t' t l fun l => K l r h
    | .own i :: r => match bO h i with
      | .lst _ t' l true => Ty.at t' t l fun l => K l r h
      | _ => False
    | .pl (.slice none 0 0) :: r => K [] r h
    | _ => False
  | .z, .slc t, cs, h, K => match cs with
    | .own i :: r => match bO h i with
      | .lst true t' l false => Ty.at t' t l fun l => ck (l ≠ []) (K l r (h.set i (.dead false)))
      | _ => False
    | .pl (.slice none 0 0) :: r => K [] r h
    | _ => False
  | .p x y, .pair a b, cs, h, K => xpA x a cs h fun u r h' => xpA y b r h' fun v r' h'' => K (u, v) r' h''
  | _, t, cs, h, K => xp t cs h K
abbrev HC:=List (Bool×Ty)
@[reducible] def aA7 : HC -> Type
  | [] => Unit
  | (_, t) :: l => t.den × aA7 l
def aEe:(t:Ty)->t.den->List VV
 | .int k,n=>[.pl (.int k n)]
 | .bool,b=>[.pl (.bool b)]
 | .str,s=>[.pl (.string s)]
 | .flt,x=>[.pl (.float .f64 x)]
 | .cpx,x=>[.pl (.complex .f64 x.1 x.2)]
 | .slc t,l=>[.nw t l]
 | .ref _,_=>[.undef]
 | .unit,_=>[]
 | .pair a b,x=>aEe a x.1++aEe b x.2
def VT:Al->(t:Ty)->t.den->List VV
 | .f,.slc t,l=>[.fz false t l]
 | .p x y,.pair a b,d=>VT x a d.1++VT y b d.2
 | _,t,d=>aEe t d
def zmk:Bool->Al->Ty->List VV
 | false,.z,.slc _=>[.undef]
 | _,_,_=>[]
def j8:(rt:HC)->List Al->aA7 rt->List (Bool×List VV)
 | [],_,_=>[]
 | (g,t)::l,al,d=>(g,VT (al.headD .n) t d.1++zmk g (al.headD .n) t)::j8 l al.tail d.2
abbrev aHP (rt:HC) (d:aA7 rt):List (Bool×List VV):=j8 rt [] d
def X9:VV->Bool
 | .agg _=>true
 | _=>false
def NV : (rt : HC) -> List Al -> List VV -> List VO -> (aA7 rt -> Prop) -> Prop
  | [], _, vs, _, K => match vs with
    | [] => K ()
    | _ => False
  | (g, t) :: l, al, vs, h, K => match vs with
    | v :: r => if X9 v = g /\ (g = true \/ okL v = true) then xpA (al.headD .n) t (dK v) h fun x left h' => match left with
        | [] => NV l al.tail r h' fun y => K (x, y)
        | _ => False
      else False
    | [] => False
def DA (args:List VV):List (Nat×VV):=MR (List.range args.length) args
def GE (n:Nat) (t:List (Nat×VV)):List (Nat×VV):=t.map fun p=>(p.1+n,p.2)
def oU (n:Nat):List (Nat×VV)->List (Nat×VV)
 | []=>[]
 | (d,v)::l=>if n<=d then (d-n,v)::oU n l else oU n l
def r1B:VV->Bool
 | .tup _ | .fn _ _=>false
 | _=>true
def UN (G : Cfg) (ct : Tab) (en : tO) (fn : Func) (c : Code) (args : List VV) (s : VS) (k : VV -> VS -> Prop) : Prop :=
  if args.length <= fn.ntmps then wY ct 1 (vwp G ct en c 1) ⟨DA args ++ GE fn.ntmps s.t, s.h⟩ fun e s2 => match e with
    | .normal | .ret => OR G s2 fn.results.toList fun vs => if vs.all r1B = true then k (OG vs) ⟨oU fn.ntmps s2.t, s2.h⟩ else False
    | _ => False
  else False
def Y6 (G : Cfg) (ct : Tab) (en : tO) (fn : Func) (c : Code) (rt : HC) (al : List Al) (args : List VV) (Q : aA7 rt -> Prop) : Prop :=
  wY ct 1 (vwp G ct en c 1) ⟨DA args, []⟩ fun e s => match e with
    | .normal | .ret => OR G s fn.results.toList fun vs => NV rt al vs s.h Q
    | _ => False
end Go.Mach
