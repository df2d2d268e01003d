/- Part of the proof. No condition. -/
import Derived.Test.YtpigepmgheabhaaGreatDoorYOwn
namespace Go.Mach
inductive Ty
 | int (k:IntKind)
 | bool
 | str
 | slc (t:Ty)
 | unit
 | pair (a b:Ty)
 | flt
 | cpx
 | ref (t:Ty)
@[reducible] def Ty.den:Ty->Type
  | .int _=>Int
  | .bool=>Bool
  | .str=>ByteArray
  | .slc t=>List t.den
  | .unit=>Unit
  | .pair a b=>a.den×b.den
  | .flt=>Nat
  | .cpx=>Nat×Nat
  | .ref t=>List t.den
def Ty.w:Ty->Nat
 | .unit=>0
 | .pair a b=>a.w+b.w
 | _=>1
def Ty.flat:Ty->Bool
 | .slc _=>false
 | .ref _=>false
 | .pair a b=>a.flat&&b.flat
 | _=>true
def Ty.dflt:(t:Ty)->t.den
 | .int _=>(0:Int)
 | .bool=>false
 | .str=>ByteArray.empty
 | .slc _=>[]
 | .unit=>()
 | .pair a b=>(a.dflt,b.dflt)
 | .flt=>(0:Nat)
 | .cpx=>((0:Nat),(0:Nat))
 | .ref _=>[]
def Ty.dec:(a b:Ty)->Decidable (a=b)
 | .int k,b=>match b with
   | .int k'=>if h:k=k' then .isTrue (by rw[h])else .isFalse (fun e=>h (by cases e;rfl))
   | .bool => .isFalse (fun e=>by cases e)
   | .str => .isFalse (fun e=>by cases e)
   | .slc _ => .isFalse (fun e=>by cases e)
   | .unit => .isFalse (fun e=>by cases e)
   | .pair _ _ => .isFalse (fun e=>by cases e)
   | .flt => .isFalse (fun e=>by cases e)
   | .cpx => .isFalse (fun e=>by cases e)
   | .ref _ => .isFalse (fun e=>by cases e)
 | .bool,b=>match b with
   | .bool => .isTrue rfl
   | .int _ => .isFalse (fun e=>by cases e)
   | .str => .isFalse (fun e=>by cases e)
   | .slc _ => .isFalse (fun e=>by cases e)
   | .unit => .isFalse (fun e=>by cases e)
   | .pair _ _ => .isFalse (fun e=>by cases e)
   | .flt => .isFalse (fun e=>by cases e)
   | .cpx => .isFalse (fun e=>by cases e)
   | .ref _ => .isFalse (fun e=>by cases e)
 | .str,b=>match b with
   | .str => .isTrue rfl
   | .int _ => .isFalse (fun e=>by cases e)
   | .bool => .isFalse (fun e=>by cases e)
   | .slc _ => .isFalse (fun e=>by cases e)
   | .unit => .isFalse (fun e=>by cases e)
   | .pair _ _ => .isFalse (fun e=>by cases e)
   | .flt => .isFalse (fun e=>by cases e)
   | .cpx => .isFalse (fun e=>by cases e)
   | .ref _ => .isFalse (fun e=>by cases e)
 | .slc t,b=>match b with
   | .slc u=>match Ty.dec t u with
     | .isTrue h => .isTrue (by rw[h])
     | .isFalse h => .isFalse (fun e=>h (by cases e;rfl))
   | .int _ => .isFalse (fun e=>by cases e)
   | .bool => .isFalse (fun e=>by cases e)
   | .str => .isFalse (fun e=>by cases e)
   | .unit => .isFalse (fun e=>by cases e)
   | .pair _ _ => .isFalse (fun e=>by cases e)
   | .flt => .isFalse (fun e=>by cases e)
   | .cpx => .isFalse (fun e=>by cases e)
   | .ref _ => .isFalse (fun e=>by cases e)
 | .unit,b=>match b with
   | .unit => .isTrue rfl
   | .int _ => .isFalse (fun e=>by cases e)
   | .bool => .isFalse (fun e=>by cases e)
   | .str => .isFalse (fun e=>by cases e)
   | .slc _ => .isFalse (fun e=>by cases e)
   | .pair _ _ => .isFalse (fun e=>by cases e)
   | .flt => .isFalse (fun e=>by cases e)
   | .cpx => .isFalse (fun e=>by cases e)
   | .ref _ => .isFalse (fun e=>by cases e)
 | .pair t u,b=>match b with
   | .pair t' u'=>match Ty.dec t t',Ty.dec u u' with
     | .isTrue h,.isTrue h' => .isTrue (by rw[h,h'])
     | .isFalse h,_ => .isFalse (fun e=>h (by cases e;rfl))
     | _,.isFalse h => .isFalse (fun e=>h (by cases e;rfl))
   | .int _ => .isFalse (fun e=>by cases e)
   | .bool => .isFalse (fun e=>by cases e)
   | .str => .isFalse (fun e=>by cases e)
   | .slc _ => .isFalse (fun e=>by cases e)
   | .unit => .isFalse (fun e=>by cases e)
   | .flt => .isFalse (fun e=>by cases e)
   | .cpx => .isFalse (fun e=>by cases e)
   | .ref _ => .isFalse (fun e=>by cases e)
 | .flt,b=>match b with
   | .flt => .isTrue rfl
   | .int _ => .isFalse (fun e=>by cases e)
   | .bool => .isFalse (fun e=>by cases e)
   | .str => .isFalse (fun e=>by cases e)
   | .slc _ => .isFalse (fun e=>by cases e)
   | .unit => .isFalse (fun e=>by cases e)
   | .pair _ _ => .isFalse (fun e=>by cases e)
   | .cpx => .isFalse (fun e=>by cases e)
   | .ref _ => .isFalse (fun e=>by cases e)
 | .cpx,b=>match b with
   | .cpx => .isTrue rfl
   | .int _ => .isFalse (fun e=>by cases e)
   | .bool => .isFalse (fun e=>by cases e)
   | .str => .isFalse (fun e=>by cases e)
   | .slc _ => .isFalse (fun e=>by cases e)
   | .unit => .isFalse (fun e=>by cases e)
   | .pair _ _ => .isFalse (fun e=>by cases e)
   | .flt => .isFalse (fun e=>by cases e)
   | .ref _ => .isFalse (fun e=>by cases e)
 | .ref t,b=>match b with
   | .ref u=>match Ty.dec t u with
     | .isTrue h => .isTrue (by rw[h])
     | .isFalse h => .isFalse (fun e=>h (by cases e;rfl))
   | .int _ => .isFalse (fun e=>by cases e)
   | .bool => .isFalse (fun e=>by cases e)
   | .str => .isFalse (fun e=>by cases e)
   | .slc _ => .isFalse (fun e=>by cases e)
   | .unit => .isFalse (fun e=>by cases e)
   | .pair _ _ => .isFalse (fun e=>by cases e)
   | .flt => .isFalse (fun e=>by cases e)
   | .cpx => .isFalse (fun e=>by cases e)
def Ty.at (t t':Ty)(l:List t.den)(K:List t'.den->Prop):Prop :=
 match Ty.dec t t' with
 | .isTrue h=>K (h▸l)
 | .isFalse _=>False
inductive VV
 | pl (v:Value)
 | agg (l:List VV)
 | tup (l:List VV)
 | fz (o:Bool) (t:Ty) (l:List t.den)
 | own (i:Nat)
 | ptr (i off:Nat)
 | eptr (i ix off:Nat)
 | fptr (o:Bool) (t:Ty) (l:List t.den) (ix off:Nat)
 | bx (l:List VV) (off:Nat)
 | fn (f:FuncId) (caps:List VV)
 | hof (i:Nat)
 | nw (t:Ty) (l:List t.den)
 | mptr (i off:Nat)
 | er (b:Bool)
 | bs (l:List VV)
 | undef
inductive VO
 | box (cells:List VV) (fr:Bool)
 | lst (o:Bool) (t:Ty) (l:List t.den) (fr:Bool)
 | dead (b:Bool)
structure VS where
 t:List (Nat×VV)
 h:List VO
def bQ:List (Nat×VV)->Nat->VV
 | [],_ => .undef
 | (d,v)::l,i=>if d=i then v else bQ l i
def VS.set (s:VS)(d:Option Nat)(v:VV):VS :=
 match d with
 | some d=>⟨(d,v)::s.t,s.h⟩
 | none=>s
def evV (t:List (Nat×VV)):Operand->VV
 | .tmp i=>bQ t i
 | .const v => .pl v
 | .global _ => .undef
 | .func f => .fn f []
def enc (o:Bool):(t:Ty)->t.den->List VV
 | .int k,n=>[.pl (.int k n)]
 | .bool,b=>[.pl (.bool b)]
 | .str,s=>[.pl (.string s)]
 | .slc t,l=>[.fz o t l]
 | .unit,_=>[]
 | .pair a b,x=>enc o a x.1++enc o b x.2
 | .flt,x=>[.pl (.float .f64 x)]
 | .cpx,x=>[.pl (.complex .f64 x.1 x.2)]
 | .ref t,l=>match l with
   | [x]=>[.fptr o t [x] 0 0]
   | _=>[.pl (.pointer none)]
def dec:(t:Ty)->List VV->(t.den->Bool->List VV->Prop)->Prop
 | .int k,cs,K=>match cs with
   | .pl (.int k' n)::r=>if k=k' then K n true r else False
   | _=>False
 | .bool,cs,K=>match cs with
   | .pl (.bool b)::r=>K b true r
   | _=>False
 | .str,cs,K=>match cs with
   | .pl (.string s)::r=>K s true r
   | _=>False
 | .slc t,cs,K=>match cs with
   | .fz o t' l::r=>Ty.at t' t l fun l=>K l o r
   | .pl (.slice none 0 _)::r=>K [] true r
   | _=>False
 | .unit,cs,K=>K () true cs
 | .pair a b,cs,K=>dec a cs fun x o r=>dec b r fun y o' r'=>K (x,y) (o&&o') r'
 | .flt,cs,K=>match cs with
   | .pl (.float .f64 x)::r=>K x true r
   | _=>False
 | .cpx,cs,K=>match cs with
   | .pl (.complex .f64 a b)::r=>K (a,b) true r
   | _=>False
 | .ref _,cs,K=>match cs with
   | .pl (.pointer none)::r=>K [] true r
   | _=>False
def YT (t:Ty):Nat->List VV->(List t.den->Bool->Prop)->Prop
 | 0,cs,K=>match cs with
   | []=>K [] true
   | _=>False
 | n+1,cs,K=>dec t cs fun x o r=>YT t n r fun l o'=>K (x::l) (o&&o')
def aP (h:List VO)(i:Nat):VO:=h.getD i (.dead false)
def kM {α:Type}:List α->Bool
 | []=>false
 | _::_=>true
def eA (h:List VO):VV->VV
 | .own i=>match aP h i with
   | .lst o t l _ => .fz o t l
   | _ => .undef
 | v=>v
def eU:VO->VO
 | .box cs _ => .box cs true
 | .lst o t l _ => .lst o t l true
 | .dead b => .dead b
def aDX:VV->List Nat
 | .own i | .ptr i _ | .eptr i _ _=>[i]
 | _=>[]
def kH:VV->List Nat
 | .own i=>[i]
 | _=>[]
def aFI:VV->List Nat
 | .agg l=>l.flatMap aDX
 | .bs l=>l.flatMap aDX
 | v=>aDX v
def GK:VV->List Nat
 | .tup l=>l.flatMap aFI
 | .fn _ l=>l.flatMap aFI
 | v=>aFI v
def freeze (h:List VO):List Nat->List VO
 | []=>h
 | i::is=>freeze (h.set i (eU (aP h i))) is
def vJ (h:List VO)(v:VV):VV :=
 match v with
 | .own i=>match aP h i with
   | .lst _ t l _ => .fz false t l
   | _ => .undef
 | .fz _ t l => .fz false t l
 | .pl v => .pl v
 | _ => .undef
def vD (h:List VO)(v:VV):VV :=
 match v with
 | .agg l => .agg (l.map (vJ h))
 | .ptr i off=>match aP h i with
   | .box cs _ => .bx (cs.map (vJ h)) off
   | _ => .undef
 | .bx l off => .bx (l.map (vJ h)) off
 | v=>vJ h v
def SO (h:List VO)(v:VV):VV :=
 match v with
 | .fn f l => .fn f (l.map (vD h))
 | v=>vD h v
def c8:VV->List VV
 | .agg l=>l
 | v=>[v]
def EY:List VV->Nat->List VV->List VV
 | cs,_,[]=>cs
 | cs,i,v::vs=>EY (cs.set i v) (i+1) vs
def okL:VV->Bool
 | .pl _ | .fz _ _ _ | .own _ | .ptr _ _ | .eptr _ _ _ | .fptr _ _ _ _ _=>true
 | _=>false
def JJ (place:Nat->Option (Nat×Nat)):List VV->List (Nat×VV)->(List VV->Prop)->Prop
 | cs,[],K=>K cs
 | cs,(i,v)::rest,K =>
   match place i with
   | none=>False
   | some (off,size)=>if (c8 v).length=size/\off+size<=cs.length/\(c8 v).all okL=true then JJ place (EY cs off (c8 v)) rest K else False
def okC:VV->Bool
 | .tup _ | .fn _ _=>false
 | _=>true
def tR (at_:ATy)(cs:List VV)(off:Nat)(K:VV->Prop):Prop :=
 match at_ with
 | .struct sz _ | .array _ _ _ sz=>if off+sz<=cs.length/\((cs.drop off).take sz).all okL=true then K (.agg ((cs.drop off).take sz))else False
 | .other=>False
 | _=>match cs[off]? with
   | some v=>if okL v=true then K v else False
   | none=>False
structure Inl where
 B:FuncId->Bool
 run:FuncId->List VV->VS->(VV->VS->Prop)->Prop
 lk:FuncId->List VV->VS->List Nat->Bool
structure Cfg where
 P:Program
 tt:TypeId->Option Ty
 O:FuncId->List VV->(List (Bool×List VV)->Prop)->Prop
 Γ:Nat->List VV->(List (Bool×List VV)->Prop)->Prop
 I:Option Inl
 hv:Bool
 un:Nat
def ck (c:Prop)(k:Prop):Prop:=c/\k
def jn {α:Type}(k:α->Prop)(b:(α->Prop)->Prop):Prop:=b k
def aA6 (op:BinOp)(x y:Value)(K:Value->Prop):Prop :=
 match op,x,y with
 | .shl,.int k a,.int _ b=>ck (0<=b) (K (.int k (k.wrap (a*2 ^ (min b.toNat k.bits)))))
 | .shr,.int k a,.int _ b=>ck (0<=b) (K (.int k (a.fdiv (2 ^ (min b.toNat k.bits)))))
 | .add,.int k a,.int k' b=>if k=k' then K (.int k (k.wrap (a+b)))else False
 | .sub,.int k a,.int k' b=>if k=k' then K (.int k (k.wrap (a-b)))else False
 | .mul,.int k a,.int k' b=>if k=k' then K (.int k (k.wrap (a*b)))else False
 | .quo,.int k a,.int k' b=>if k=k' then ck (b≠0) (K (.int k (k.wrap (a.tdiv b))))else False
 | .rem,.int k a,.int k' b=>if k=k' then ck (b≠0) (K (.int k (a.tmod b)))else False
 | .and,.int k a,.int k' b=>if k=k' then K (.int k (k.wrap (BitVec.ofInt k.bits a &&& BitVec.ofInt k.bits b).toNat))else False
 | .or,.int k a,.int k' b=>if k=k' then K (.int k (k.wrap (BitVec.ofInt k.bits a ||| BitVec.ofInt k.bits b).toNat))else False
 | .xor,.int k a,.int k' b=>if k=k' then K (.int k (k.wrap (BitVec.ofInt k.bits a ^^^ BitVec.ofInt k.bits b).toNat))else False
 | .eql,.int k a,.int k' b=>if k=k' then K (.bool (a==b))else False
 | .neq,.int k a,.int k' b=>if k=k' then K (.bool (a != b))else False
 | .lss,.int k a,.int k' b=>if k=k' then K (.bool (decide (a<b)))else False
 | .leq,.int k a,.int k' b=>if k=k' then K (.bool (decide (a<=b)))else False
 | .gtr,.int k a,.int k' b=>if k=k' then K (.bool (decide (b<a)))else False
 | .geq,.int k a,.int k' b=>if k=k' then K (.bool (decide (b<=a)))else False
 | .eql,.bool a,.bool b=>K (.bool (a==b))
 | .neq,.bool a,.bool b=>K (.bool (a != b))
 | .add,.string a,.string b=>ck (a.size+b.size<=2 ^ 60) (K (.string (a++b)))
 | .eql,.string a,.string b=>K (.bool (a.toList==b.toList))
 | .neq,.string a,.string b=>K (.bool (!(a.toList==b.toList)))
 | _,_,_=>False
def got {α:Type}(o:Option α)(K:α->Prop):Prop:=∃ r,o=some r/\K r
def vfl (op:BinOp)(x y:Value)(K:Value->Prop):Prop :=
 match op,x,y with
 | .eql,.float k a,.float k' b=>if k=k' then K (.bool (k.format.order a b==some .eq))else False
 | .leq,.float k a,.float k' b=>if k=k' then K (.bool (k.format.order a b==some .lt||k.format.order a b==some .eq))else False
 | .geq,.float k a,.float k' b=>if k=k' then K (.bool (k.format.order a b==some .gt||k.format.order a b==some .eq))else False
 | .add,.complex k a b,.complex k' c d=>if k=k' then got (cSumBits .add k a b c d) fun r=>K (.complex k r.1 r.2)else False
 | .sub,.complex k a b,.complex k' c d=>if k=k' then got (cSumBits .sub k a b c d) fun r=>K (.complex k r.1 r.2)else False
 | .mul,.complex .f64 a b,.complex .f64 c d=>got (cMulBits a b c d) fun r=>K (.complex .f64 r.1 r.2)
 | _,_,_=>False
def aIC:Value->Bool
 | .float _ _=>true
 | .complex _ _ _=>true
 | _=>false
def PN:Value->Bool
 | .bool _=>true
 | _=>false
def nq {α:Type}(l:List α)(A B:Prop):Prop:=(l=[]->A)/\B
def nz {α:Type}(l:List α)(A B:Prop):Prop:=(l=[]->A)/\(l≠[]->B)
def ZP (u:Option TypeDesc)(q:Bool)(h:List VO)(v w:VV)(K:Bool->Prop):Prop :=
 match u,w,v with
 | some (.slice _),.pl (.slice none _ _),.pl (.slice none _ _)=>K true
 | some (.slice _),.pl (.slice none _ _),.fz _ _ l=>nq l (K true) (K false)
 | some (.slice _),.pl (.slice none _ _),.own i=>match aP h i with
   | .lst _ _ l _=>nq l (K true) (K false)
   | _=>False
 | some (.func _ _ _),.pl .nilFunc,.pl .nilFunc=>K true
 | some (.func _ _ _),.pl .nilFunc,.fn _ _=>K false
 | some (.pointer _),.pl (.pointer none),.pl (.pointer none)=>K true
 | some (.pointer _),.pl (.pointer none),.ptr _ _=>K false
 | some (.pointer _),.pl (.pointer none),.fptr _ _ _ _ _=>K false
 | some (.interface _),.pl .nilIface,.pl .nilIface=>if q=true then K true else False
 | some (.interface _),.pl .nilIface,.er b=>if q=true then K b else False
 | _,_,_=>False
def TD:VV->Bool
 | .pl (.slice none _ _)=>true
 | .pl .nilFunc=>true
 | .pl .nilIface=>true
 | .pl (.pointer none)=>true
 | _=>false
def vun (op:UnOp)(x:Value)(K:Value->Prop):Prop :=
 match op,x with
 | .neg,.int k n=>K (.int k (k.wrap (0-n)))
 | .xor,.int k n=>K (.int k (k.wrap (BitVec.ofInt k.bits (if k.signed then -1 else k.max) ^^^ BitVec.ofInt k.bits n).toNat))
 | .not,.bool b=>K (.bool (!b))
 | _,_=>False
def aAi (h:List VO):VV->(Nat->Prop)->Prop
 | .fz _ _ l,K=>K l.length
 | .own i,K=>match aP h i with
   | .lst _ _ l _=>K l.length
   | _=>False
 | .pl (.slice none n _),K=>K n
 | .bs l,K=>K l.length
 | _,_=>False
def aCA (h:List VO):VV->((t:Ty)->List t.den->Bool->Prop)->Prop
 | .fz o t l,K=>K t l (o||t.flat)
 | .own i,K=>match aP h i with
   | .lst o t l _=>K t l (o||t.flat)
   | _=>False
 | _,_=>False
def LW (f:Int->Int->Int)(k:IntKind):Int->List VV->(Int->Prop)->Prop
 | x,[],K=>K x
 | x,.pl (.int k' y)::l,K=>if k=k' then LW f k (f x y) l K else False
 | _,_::_,_=>False
def W8 (x y:Int):Int:=if y<x then y else x
def YK (x y:Int):Int:=if y>x then y else x
def O5:Operand->Operand->Bool
 | .tmp a,.tmp b=>a==b
 | .const (.int _ a),.const (.int _ b)=>a==b
 | _,_=>false
def JW {α:Type}(ne:Prop)(l:List α)(lo hi mx:Option VV)(K:List α->Prop):Prop :=
 let n:Int:=l.length
 let go (a b:Int):Prop:=ck (ne/\0<=a/\a<=b/\b<=n) (K ((l.take b.toNat).drop a.toNat))
 let top (b:Int):Prop:=match mx with
  | none=>True
  | some (.pl (.int _ m))=>b<=m/\m<=n
  | some _=>False
 let hi' (a:Int):Prop:=match hi with
  | none=>if mx.isSome then False else go a n
  | some (.pl (.int _ b))=>if mx.isSome then ck (top b) (go a b)else go a b
  | some _=>False
 match lo with
 | none=>hi' 0
 | some (.pl (.int _ a))=>hi' a
 | some _=>False
def EI:List VV->Option (IntKind×List Int)
 | []=>none
 | [.pl (.int k x)]=>some (k,[x])
 | .pl (.int k x)::r=>match EI r with
   | some (k',l)=>if k=k' then some (k,x::l)else none
   | none=>none
 | _=>none
theorem DQ:∀ {cs:List VV} {k:IntKind} {l:List Int},EI cs=some (k,l)->cs=l.map fun x => .pl (.int k x)
 | [],_,_,h=>by cases h
 | [.pl (.int k x)],_,_,h=>by
   simp only[EI,aX,Prod.mk.injEq]at h
   obtain⟨rfl,rfl⟩:=h
   rfl
 | .pl (.int k x)::y::r,k2,l2,h=>by
   simp only[EI]at h
   split at h
   ·rename_i k' l' e
    split at h
    ·rename_i ek
     simp only[aX,Prod.mk.injEq]at h
     obtain⟨rfl,rfl⟩:=h
     subst ek
     rw[DQ e]
     rfl
    ·cases h
   ·cases h
def aCa (d:Option TypeDesc)(x y:VV)(K:Bool->Prop):Prop :=
 match d,x,y with
 | some (.int _),.pl (.int k a),.pl (.int k' b)=>if k=k' then K (a==b)else False
 | some .bool,.pl (.bool a),.pl (.bool b)=>K (a==b)
 | _,_,_=>False
def oU (P:Program):List (TypeId×Nat)->List VV->List VV->(Bool->Prop)->Prop
 | [],_,_,K=>K true
 | (t,o)::r,xs,ys,K=>match xs[o]?,ys[o]? with
   | some x,some y=>aCa (P.underlying t) x y fun b=>oU P r xs ys fun b'=>K (b&&b')
   | _,_=>False
def O7 (P:Program)(op:BinOp)(t:TypeId)(xs ys:List VV)(K:VV->Prop):Prop :=
 match PM P t,P.eqGuardType P.depth t,(P.info? t).isSome with
 | some l,false,true=>match op with
   | .eql=>oU P l xs ys fun b=>K (.pl (.bool b))
   | .neq=>oU P l xs ys fun b=>K (.pl (.bool (!b)))
   | _=>False
 | _,_,_=>False
def aHu:VV->Bool
 | .ptr _ _=>true
 | _=>false
def rE (k:IntKind)(l:List Int):Nat->Nat->List VV
 | _,0=>[]
 | i,n+1 => .pl (.int k (l.getD i 0))::rE k l (i+1) n
def rsp {α:Type}(l:List α)(A:Prop)(B:α->Prop):Prop:=((∀ x,l≠[x])->A)/\∀ x,l=[x]->B x
def YR (a:ATy)(o:Bool):(T:Ty)->List T.den->Nat->Nat->(VV->Prop)->Prop
 | .int k,l,ix,off,K=>match a with
   | .array n e es sz=>if es=1/\sz=n/\off=0/\0<n then ck (ix+n<=List.length l) (K (.agg (rE k l ix n)))else tR (.array n e es sz) [.pl (.int k (l.getD ix (0:Int)))] off K
   | a=>tR a [.pl (.int k (l.getD ix (0:Int)))] off K
 | .ref T,l,ix,off,K=>match a with
   | .one=>if off=0 then rsp (l.getD ix []) (K (.pl (.pointer none))) fun y=>K (.fptr o T [y] 0 0)else False
   | _=>False
 | T,l,ix,off,K=>tR a (enc o T (l.getD ix T.dflt)) off K
def qL (b:ByteArray):List Int:=b.data.toList.map fun c=>(c.toNat:Int)
def pD (l:List Int):ByteArray:=⟨(l.map fun z=>UInt8.ofNat z.toNat).toArray⟩
def T9 (o:VO)(K:List Int->Prop):Prop :=
 match o with
 | .lst _ (.int .u8) l _=>K l
 | _=>False
def UQ (h:List VO)(v:VV)(K:List Int->Prop):Prop :=
 match v with
 | .fz _ (.int .u8) l=>K l
 | .own i=>T9 (aP h i) K
 | .pl (.slice none 0 _)=>K []
 | _=>False
def V9 (u:Option TypeDesc)(v:VV)(h:List VO)(K:VV->List VO->Prop):Prop :=
 match u,v with
 | some (.int .u8),.pl (.string b)=>ck (b.size<=1152921504606846976) (K (.own h.length) (h++[.lst true (.int .u8) (qL b) false]))
 | _,_=>False
def VJ (u:Option TypeDesc)(v:VV)(h:List VO)(K:VV->List VO->Prop):Prop :=
 match u with
 | some (.int .u8)=>UQ h v fun l=>K (.pl (.string (pD l))) h
 | _=>False
def HO (P:Program)(s d:Option TypeDesc)(v:VV)(h:List VO)(K:VV->List VO->Prop):Prop :=
 match s,d with
 | some .string,some (.slice e)=>V9 (P.underlying e) v h K
 | some (.slice e),some .string=>VJ (P.underlying e) v h K
 | _,_=>False
def PO (P:Program)(a:Option TypeDesc)(v:VV)(h:List VO)(K:VV->List VO->Prop):Prop :=
 match a with
 | some (.slice e)=>match P.underlying e with
   | some (.int .u8)=>match v with
     | .own i=>match aP h i with
       | .lst _ _ l _=>ck (l≠[]) (K (.own i) h)
       | _=>False
     | _=>False
   | _=>False
 | _=>False
def b9 (G:Cfg)(op:Op)(t:List (Nat×VV))(h:List VO)(K:VV->List VO->Prop):Prop :=
 match op with
 | .move x | .assign x=>K (evV t x) h
 | .alloc ty=>match cS G.P ty with
   | some cs=>K (.ptr h.length 0) (h++[.box (cs.map VV.pl) false])
   | none=>False
 | .box _ x=>if (c8 (evV t x)).all okL=true then K (.ptr h.length 0) (h++[.box (c8 (evV t x)) false])else False
 | .build ty parts=>match aTy G.P ty,cS G.P ty with
   | .struct _ fs,some z=>JJ (fun i=>(fs[i]?).map fun f=>(f.1,f.2.1)) (z.map VV.pl) (parts.toList.map fun p=>(p.1,evV t p.2)) fun cs=>K (.agg cs) h
   | .array _ _ es _,some z=>JJ (fun i=>some (i*es,es)) (z.map VV.pl) (parts.toList.map fun p=>(p.1,evV t p.2)) fun cs=>K (.agg cs) h
   | _,_=>False
 | .buildSlice ty len parts=>match aTy G.P ty with
   | .slice e es _=>match cS G.P e,G.tt e with
     | some z,some T=>if len*es<=2 ^ 20/\es=T.w then
      JJ (fun i=>some (i*es,es)) ((dW z (len*es)).map VV.pl) (parts.toList.map fun p=>(p.1,evV t p.2)) fun cs =>
       YT T len (cs.map (eA h)) fun l o=>K (.own h.length) (freeze h (cs.flatMap kH)++[.lst o T l false])
      else False
     | some z,none=>if len*es<=2 ^ 20/\es=1 then
      JJ (fun i=>some (i*es,es)) ((dW z (len*es)).map VV.pl) (parts.toList.map fun p=>(p.1,evV t p.2)) fun cs=>if cs.length=len/\cs.all aHu=true then K (.bs cs) h else False
      else False
     | _,_=>False
   | _=>False
 | .load ty a=>match evV t a with
   | .ptr i off=>match aP h i with
     | .box cs _=>tR (aTy G.P ty) cs off fun v=>K v h
     | _=>False
   | .eptr i ix off=>match aP h i with
     | .lst o T l _=>YR (aTy G.P ty) o T l ix off fun v=>K v h
     | _=>False
   | .fptr o T l ix off=>tR (aTy G.P ty) (enc o T (l.getD ix T.dflt)) off fun v=>K v h
   | .bx cs off=>tR (aTy G.P ty) cs off fun v=>K v h
   | _=>False
 | .store ty a x=>match evV t a with
   | .ptr i off=>match aP h i with
     | .box cs false=>if zN G.P ty=some (c8 (evV t x)).length/\off+(c8 (evV t x)).length<=cs.length/\(c8 (evV t x)).all okL=true/\c8 (evV t x)≠[]then K .undef (h.set i (.box (EY cs off (c8 (evV t x))) false))else False
     | _=>False
   | .eptr i ix off=>match aP h i with
     | .lst o (.ref T) l false=>match evV t x with
       | .ptr j 0=>match aP h j with
         | .box cs _=>if zN G.P ty=some 1/\off=0 then
          (match aP (freeze h (j::cs.flatMap kH)) i with
          | .lst _ _ _ false=>dec T (cs.map (eA h)) fun y _ _=>K .undef ((freeze h (j::cs.flatMap kH)).set i (.lst false (.ref T) (l.set ix [y]) false))
          | _=>False)
           else False
         | _=>False
       | _=>False
     | .lst o T l false=>if zN G.P ty=some (c8 (evV t x)).length/\off+(c8 (evV t x)).length<=T.w/\(c8 (evV t x)).all okL=true/\c8 (evV t x)≠[]then
      (match aP (freeze h ((EY (enc o T (l.getD ix T.dflt)) off (c8 (evV t x))).flatMap kH)) i with
      | .lst _ _ _ false=>dec T ((EY (enc o T (l.getD ix T.dflt)) off (c8 (evV t x))).map (eA h)) fun y o' _ =>
       K .undef ((freeze h ((EY (enc o T (l.getD ix T.dflt)) off (c8 (evV t x))).flatMap kH)).set i (.lst (o&&o') T (l.set ix y) false))
      | _=>False)
       else False
     | _=>False
   | _=>False
 | .nilCheck x=>match evV t x with
   | .ptr i off=>K (.ptr i off) h
   | .eptr i ix off=>K (.eptr i ix off) h
   | .fptr o T l ix off=>K (.fptr o T l ix off) h
   | .bx l off=>K (.bx l off) h
   | _=>False
 | .binOp op ty x y _=>match TD (evV t y)with
   | true=>match op with
     | .eql=>ZP (G.P.underlying ty) (bR x||bR y) h (evV t x) (evV t y) fun b=>K (.pl (.bool b)) h
     | .neq=>ZP (G.P.underlying ty) (bR x||bR y) h (evV t x) (evV t y) fun b=>K (.pl (.bool (!b))) h
     | _=>False
   | false=>match evV t x,evV t y with
     | .pl a,.pl b=>match PN a,G.P.underlying ty with
       | true,some .bool=>aA6 op a b fun v=>K (.pl v) h
       | false,_=>match aIC a with
         | true=>vfl op a b fun v=>K (.pl v) h
         | false=>aA6 op a b fun v=>K (.pl v) h
       | _,_=>False
     | .agg xs,.agg ys=>O7 G.P op ty xs ys fun v=>K v h
     | _,_=>False
 | .unOp op _ x=>match evV t x with
   | .pl a=>vun op a fun v=>K (.pl v) h
   | _=>False
 | .convert s d x=>match G.P.underlying s,G.P.underlying d,evV t x with
   | some _,some (.int k),.pl (.int _ n)=>K (.pl (.int k (k.wrap n))) h
   | some _,some .string,.pl (.string b)=>K (.pl (.string b)) h
   | some _,some (.float k),.pl (.int _ n)=>K (.pl (.float k (floatOfInt k n))) h
   | some _,some (.int k),.pl (.float s b)=>got (floatToIntVal s b k) fun n=>K (.pl (.int k n)) h
   | a,b,v=>match decide (s=d)with
     | true=>PO G.P a v h K
     | false=>HO G.P a b v h K
 | .makeFunc fn first caps=>match fn,first.toList with
   | .func f,[]=>if (caps.toList.map (evV t)).all okC=true then K (.fn f (caps.toList.map (evV t))) h else False
   | _,_=>False
 | .makeSlice ty l c=>match aTy G.P ty,evV t l with
   | .slice e es eb,.pl (.int _ n)=>match cS G.P e,G.tt e with
     | some z,some T=>if O5 l c=true/\es=T.w/\z.length=es/\0<eb then ck (0<=n/\eb*n<=70368744177664)
      (YT T 1 (z.map VV.pl) fun d o=>K (.own h.length) (h++[.lst (o&&(!G.hv||T.flat)) T (List.replicate n.toNat (d.headD T.dflt)) false]))
      else False
     | _,_=>False
   | _,_=>False
 | .slice ty x lo hi mx=>match aTy G.P ty,evV t x with
   | .slice _ es _,.fz o T l=>if es=T.w then JW (l≠[]) l (lo.map (evV t)) (hi.map (evV t)) (mx.map (evV t)) fun l'=>K (.fz o T l') h else False
   | .slice _ es _,.own i=>match aP h i with
     | .lst o T l _=>if es=T.w then JW True l (lo.map (evV t)) (hi.map (evV t)) (mx.map (evV t)) fun l'=>K (.fz o T l') (freeze h [i])else False
     | _=>False
   | .str,.pl (.string s)=>JW True s.data.toList (lo.map (evV t)) (hi.map (evV t)) (mx.map (evV t)) fun l'=>if mx.isSome then False else K (.pl (.string ⟨l'.toArray⟩)) h
   | .array n _ es _,.ptr i off=>match aP h i,lo,hi,mx with
     | .box cs _,none,none,none=>match EI ((cs.drop off).take n)with
       | some (k,l)=>if es=1/\l.length=n/\0<n then K (.fz true (.int k) l) (freeze h [i])else False
       | none=>False
     | _,_,_,_=>False
   | _,_=>False
 | .fieldAddr s x f=>match aTy G.P s with
   | .struct _ fs=>match fs[f]? with
     | some (off,size,_)=>if size=0 then False else match evV t x with
       | .ptr i o=>K (.ptr i (o+off)) h
       | .eptr i ix o=>K (.eptr i ix (o+off)) h
       | .fptr b T l ix o=>K (.fptr b T l ix (o+off)) h
       | .bx l o=>K (.bx l (o+off)) h
       | _=>False
     | none=>False
   | _=>False
 | .field s x f=>match aTy G.P s,evV t x with
   | .struct _ fs,.agg cs=>match fs[f]? with
     | some (off,size,some true)=>if size=0 \/ ¬ off+size<=cs.length then False else K (.agg ((cs.drop off).take size)) h
     | some (off,size,some false)=>if size=0 then False else match cs[off]? with
       | some v=>K v h
       | none=>False
     | _=>False
   | _,_=>False
 | .indexAddr ty x ix=>match aTy G.P ty,evV t x,evV t ix with
   | .slice _ es _,.fz o T l,.pl (.int _ i)=>if es=T.w then ck (0<=i/\i<l.length) (K (.fptr o T l i.toNat 0) h)else False
   | .slice _ es _,.own j,.pl (.int _ i)=>match aP h j with
     | .lst _ T l _=>if es=T.w then ck (0<=i/\i<l.length) (K (.eptr j i.toNat 0) h)else False
     | _=>False
   | .slice _ es _,.bs l,.pl (.int _ i)=>if es=1/\0<=i/\i<l.length then K (.bx l i.toNat) h else False
   | .array n _ es _,.ptr j o,.pl (.int _ i)=>if 0<=i/\i<n then K (.ptr j (o+i.toNat*es)) h else False
   | _,_,_=>False
 | .index ty x ix=>match aTy G.P ty,evV t x,evV t ix with
   | .array n e es _,.agg cs,.pl (.int _ i)=>match EI cs with
     | some (k,l)=>if n=l.length/\es=1/\T5 G.P e=some false then ck (0<=i/\i<(n:Int)) (K (.pl (.int k (l.getD i.toNat 0))) h)else False
     | none=>if 0<=i/\i<n then(match T5 G.P e with
       | some true=>if i.toNat*es+es<=cs.length then K (.agg ((cs.drop (i.toNat*es)).take es)) h else False
       | some false=>match cs[i.toNat*es]? with
         | some v=>K v h
         | none=>False
       | none=>False)else False
   | .str,.pl (.string s),.pl (.int _ i)=>ck (0<=i/\i<s.size) (K (.pl (.int .u8 ((s.data.toList.getD i.toNat 0).toNat:Int))) h)
   | _,_,_=>False
 | .sliceToArrayPointer ty x=>match aTy G.P ty,evV t x with
   | .array n _ _ _,.own i=>match aP h i with
     | .lst _ (.int _) l _=>if 0<n then ck (n<=List.length l) (K (.eptr i 0 0) h)else False
     | _=>False
   | _,_=>False
 | .extract x i=>match evV t x with
   | .tup l=>match l[i]? with
     | some v=>K v h
     | none=>False
   | _=>False
 | .call c=>match c.callee with
   | .builtin .len=>match c.argTypes[0]?,c.args.toList with
     | some ty,[x]=>match aTy G.P ty with
       | .array n _ _ _=>K (.pl (.int .i64 n)) h
       | .str=>match evV t x with
         | .pl (.string s)=>K (.pl (.int .i64 s.size)) h
         | _=>False
       | .slice _ _ _=>aAi h (evV t x) fun n=>K (.pl (.int .i64 n)) h
       | _=>False
     | _,_=>False
   | .builtin .min=>match c.args.toList.map (evV t)with
     | .pl (.int k x)::l=>LW W8 k x l fun n=>K (.pl (.int k n)) h
     | _=>False
   | .builtin .max=>match c.args.toList.map (evV t)with
     | .pl (.int k x)::l=>LW YK k x l fun n=>K (.pl (.int k n)) h
     | _=>False
   | .builtin .complex=>match c.args.toList.map (evV t)with
     | [.pl (.float k a),.pl (.float k' b)]=>if k=k' then K (.pl (.complex k a b)) h else False
     | _=>False
   | .builtin .real=>match c.args.toList.map (evV t)with
     | [.pl (.complex k a _)]=>K (.pl (.float k a)) h
     | _=>False
   | .builtin .imag=>match c.args.toList.map (evV t)with
     | [.pl (.complex k _ b)]=>K (.pl (.float k b)) h
     | _=>False
   | .builtin .append=>match c.argTypes[0]?,c.argTypes[1]?,c.args.toList with
     | some st,some xt,[x,y]=>match aTy G.P st,aTy G.P xt with
       | .slice e es eb,.slice _ _ _=>aCA h (evV t y) fun T l2 o2=>if es=T.w/\0<eb/\(cS G.P e).map List.length=some es then
        (match evV t x with
        | .own i=>match aP h i with
          | .lst o T' l false=>Ty.at T' T l fun l=>ck ((l.length+l2.length)*eb<=140737488355328) (K (.own h.length) (h.set i (.dead (kM l2))++[.lst (o&&o2) T (l++l2) false]))
          | _=>False
        | .pl (.slice none 0 0)=>ck (l2.length*eb<=140737488355328) (K (.own h.length) (h++[.lst o2 T l2 false]))
        | _=>False)
        else False
       | _,_=>False
     | _,_,_=>False
   | _=>False
 | _=>False
end Go.Mach
