/- Part of the proof. No condition. -/
import Derived.Control
import Derived.Calls
import Derived.Orders
import Derived.Laws.Sem
import Derived.Laws.ComplexArith
import Derived.Laws.Cover3
namespace Go.Mach
structure Blk where
 cells:List Value
 es:Nat
 exact:Bool
 alive:Bool
abbrev aB:=List Blk
abbrev aC:=Nat->Value
def HV (t:aC)(d:Nat)(v:Value):aC:=fun i=>if i=d then v else t i
theorem E8 (t:aC)(d:Nat)(v:Value):HV t d v d=v:=if_pos rfl
theorem AL (t:aC)(d i:Nat)(v:Value)(h:i≠d):HV t d v i=t i:=if_neg h
def uS (t:aC):Option Tmp->Value->aC
 | some d,v=>HV t d v
 | none,_=>t
def eval (t:aC):Operand->Value
 | .tmp i=>t i
 | .const v=>v
 | .global g => .pointer (some ⟨g,0,none⟩)
 | .func f => .func (.func f) #[] #[]
inductive ATy
 | one
 | str
 | slice (elem:TypeId) (es eb:Nat)
 | array (n:Nat) (elem:TypeId) (es sz:Nat)
 | struct (sz:Nat) (fields:List (Nat×Nat×Option Bool))
 | other
def aEY:TypeDesc->Bool
 | .struct _ | .array _ _=>true
 | _=>false
def tU (P:Program)(t:TypeId):Bool:=(P.underlying t).any aEY
def Y8 (P:Program)(t:TypeId):Option Bool:=(P.underlying t).map aEY
def aTy (P:Program)(t:TypeId):ATy :=
 match P.info? t,P.underlying t with
 | some i,some d =>
   match d with
   | .string => .str
   | .slice e=>match P.info? e with
     | some j=>if j.size=0 then .other else .slice e j.size j.bytes
     | none => .other
   | .array n e=>match P.info? e with
     | some j=>if j.size=0 then .other else .array n e j.size i.size
     | none => .other
   | .struct fs=>if fs.toList.all (fun f=>(P.info? f.type).isSome)then .struct i.size (fs.toList.map fun f=>(f.offset,P.cellsOf f.type,Y8 P f.type))else .other
   | .interface _ => .other
   | .tuple _ => .other
   | .named _ _ => .other
   | _ => .one
 | _,_ => .other
def i6:Value->Bool
 | .bool _ | .int .. | .float .. | .complex .. | .string _ | .nilFunc | .nilIface=>true
 | .pointer none=>true
 | .slice none _ _=>true
 | _=>false
def kS (P:Program)(t:TypeId):Option (List Value) :=
 match (P.info? t).bind (·.zero)with
 | some z=>if z.cells.toList.all i6 then some z.cells.toList else none
 | none=>none
inductive yP
 | value (v:Value)
 | skip
 | enter (f:FuncId) (args:Array Value)
def setCells:List Value->Nat->List Value->List Value
 | cs,_,[]=>cs
 | cs,i,v::vs=>setCells (cs.set i v) (i+1) vs
def DN (place:Nat->Option (Nat×Nat)):List Value->List (Nat×Value)->Option (List Value)
 | cs,[]=>some cs
 | cs,(i,v)::rest =>
   match place i with
   | none=>none
   | some (off,size) =>
     if v.cells.size=size/\off+size<=cs.length then DN place (setCells cs off v.cells.toList) rest else none
def oY (z:List Value)(n:Nat):List Value:=(List.range n).map fun i=>z[i%z.length]!
def blk? (H:aB)(b:Nat):Option Blk :=
 match H[b]? with
 | some B=>if B.alive then some B else none
 | none=>none
def wC:Value->Bool
 | .tuple _=>true
 | _=>false
def aGc:Value := .tuple #[]
def mK (H:aB)(p:Addr)(n:Nat):Option (List Value) :=
 match blk? H p.block with
 | some B=>if p.off+n<=B.cells.length/\((B.cells.drop p.off).take n).all (fun v => !wC v)=true then some ((B.cells.drop p.off).take n)else none
 | none=>none
def QQ (H:aB)(p:Addr):Option Value :=
 match blk? H p.block with
 | some B=>match B.cells[p.off]? with
   | some v=>if wC v then none else some v
   | none=>none
 | none=>none
def FZ (P:Program)(t:TypeId)(H:aB)(p:Addr):Option Value :=
 match aTy P t with
 | .struct sz _ | .array _ _ _ sz=>(mK H p sz).map fun cs => .agg cs.toArray
 | .other=>none
 | _=>QQ H p
def storeAt (fl:Nat)(H:aB)(p:Addr)(vs:List Value):Option aB :=
 match vs with
 | []=>some H
 | vs =>
   match blk? H p.block with
   | some B =>
     if fl<=p.block/\p.off+vs.length<=B.cells.length/\vs.all Value.oneCell' then
      some (H.set p.block { B with cells:=setCells B.cells p.off vs })
     else none
   | none=>none
def MO (P:Program)(t:TypeId):Option Nat :=
 match aTy P t with
 | .other=>none
 | _=>some (P.cellsOf t)
def D6 (P:Program)(fl:Nat)(t:TypeId)(H:aB)(p:Addr)(v:Value):Option aB :=
 if MO P t=some v.cells.size then storeAt fl H p v.cells.toList else none
def DX (isAgg:Option Bool)(cs:Array Value)(off size:Nat):Option Value :=
 match isAgg with
 | some true=>some (.agg (cs.extract off (off+size)))
 | some false=>cs[off]?
 | none=>none
def wI (op:BinOp)(x y:Value):Option Value :=
 match op,x,y with
 | .shl,.int k a,.int _ b=>if b<0 then none else some (.int k (k.wrap (a*2 ^ (min b.toNat k.bits))))
 | .shr,.int k a,.int _ b=>if b<0 then none else some (.int k (a.fdiv (2 ^ (min b.toNat k.bits))))
 | op,.int k a,.int k' b =>
   if k≠k' then none else
   match op with
   | .add=>some (.int k (k.wrap (a+b)))
   | .sub=>some (.int k (k.wrap (a-b)))
   | .mul=>some (.int k (k.wrap (a*b)))
   | .quo=>if b=0 then none else some (.int k (k.wrap (a.tdiv b)))
   | .rem=>if b=0 then none else some (.int k (a.tmod b))
   | .and=>some (.int k (k.wrap (BitVec.ofInt k.bits a &&& BitVec.ofInt k.bits b).toNat))
   | .or=>some (.int k (k.wrap (BitVec.ofInt k.bits a ||| BitVec.ofInt k.bits b).toNat))
   | .xor=>some (.int k (k.wrap (BitVec.ofInt k.bits a ^^^ BitVec.ofInt k.bits b).toNat))
   | .andNot=>some (.int k (k.wrap (BitVec.ofInt k.bits a &&& ~~~ BitVec.ofInt k.bits b).toNat))
   | .eql=>some (.bool (a==b))
   | .neq=>some (.bool (a != b))
   | .lss=>some (.bool (decide (a<b)))
   | .leq=>some (.bool (decide (a<=b)))
   | .gtr=>some (.bool (decide (b<a)))
   | .geq=>some (.bool (decide (b<=a)))
   | _=>none
 | .eql,.bool a,.bool b=>some (.bool (a==b))
 | .neq,.bool a,.bool b=>some (.bool (a != b))
 | op,.string a,.string b =>
   match op with
   | .add=>if a.size+b.size<=2 ^ 60 then some (.string (a++b))else none
   | .eql=>some (.bool (a.toList==b.toList))
   | .neq=>some (.bool (!(a.toList==b.toList)))
   | .lss=>some (.bool (Op.bytesLess a.toList b.toList))
   | .leq=>some (.bool (Op.bytesLess a.toList b.toList||a.toList==b.toList))
   | .gtr=>some (.bool (!(Op.bytesLess a.toList b.toList||a.toList==b.toList)))
   | .geq=>some (.bool (!Op.bytesLess a.toList b.toList))
   | _=>none
 | _,_,_=>none
def aUn (op:UnOp)(x:Value):Option Value :=
 match op,x with
 | .neg,.int k n=>some (.int k (k.wrap (0-n)))
 | .xor,.int k n=>some (.int k (k.wrap (BitVec.ofInt k.bits (if k.signed then -1 else k.max) ^^^ BitVec.ofInt k.bits n).toNat))
 | .not,.bool b=>some (.bool (!b))
 | _,_=>none
def mY (x:Value)(y:Nat):Option Nat :=
 match x with
 | .int _ i=>if 0<=i/\i<=y then some i.toNat else none
 | _=>none
def lP (len cap:Nat)(low high mx:Option Value):Option (Nat×Nat×Nat):=do
 let m <- match mx with
  | some v=>mY v cap
  | none=>some cap
 let h <- match high,mx with
  | some v,some _=>mY v m
  | some v,none=>mY v m
  | none,none=>some len
  | none,some _=>none
 let l <- match low with
  | some v=>mY v h
  | none=>some 0
 some (l,h,m)
def DV (P:Program)(t:TypeId)(x:Value)(low high mx:Option Value)(H:aB):Option Value :=
 match aTy P t,x with
 | .str,.string s =>
   if mx.isSome then none else
   match lP s.size s.size low high none with
   | some (l,h,_)=>some (.string (s.extract l h))
   | none=>none
 | .slice _ _ _,.slice none len cap =>
   match lP len cap low high mx with
   | some (l,h,m)=>some (.slice none (h-l) (m-l))
   | none=>none
 | .slice _ es _,.slice (some a) len cap =>
   match lP len cap low high mx,H[a.block]? with
   | some (l,h,m),some B =>
     if B.exact then some (.slice (some (if m=l then a else a.add (l*es))) (h-l) (m-l))
     else if B.es=es then some (.slice (some (a.add (l*es))) (h-l) (m-l))else none
   | _,_=>none
 | .array n _ es _,.pointer (some a) =>
   match lP n n low high mx,H[a.block]? with
   | some (l,h,m),some B=>if B.exact then some (.slice (some (if m=l then a else a.add (l*es))) (h-l) (m-l))else none
   | _,_=>none
 | _,_=>none
def pS (P:Program)(t:TypeId)(x ix:Value):Option Value :=
 match aTy P t,x,ix with
 | .slice _ es _,.slice (some a) len _,.int _ i=>if 0<=i/\i<len then some (.pointer (some (a.add (i.toNat*es))))else none
 | .array n _ es _,.pointer (some a),.int _ i=>if 0<=i/\i<n then some (.pointer (some (a.add (i.toNat*es))))else none
 | _,_,_=>none
def DD (P:Program)(t:TypeId)(x ix:Value):Option Value :=
 match aTy P t,x,ix with
 | .array n e es _,.agg cs,.int _ i=>if 0<=i/\i<n then DX (Y8 P e) cs (i.toNat*es) es else none
 | .str,.string s,.int _ i=>if 0<=i then(s[i.toNat]?).map fun b => .int .u8 b.toNat else none
 | _,_,_=>none
def KS (P:Program)(t:TypeId)(x:Value)(f:Nat):Option Value :=
 match aTy P t,x with
 | .struct _ fs,.agg cs=>match fs[f]? with
   | some (off,size,agg)=>if size=0 then none else DX agg cs off size
   | none=>none
 | _,_=>none
def vH (P:Program)(t:TypeId)(x:Value)(f:Nat):Option Value :=
 match aTy P t,x with
 | .struct _ fs,.pointer (some a)=>match fs[f]? with
   | some (off,size,_)=>if size=0 then none else some (.pointer (some (a.add off)))
   | none=>none
 | _,_=>none
def OY (P:Program)(t:TypeId)(x:Value):Option Value :=
 match aTy P t,x with
 | .array n _ _ _,.slice (some a) len _=>if 0<n/\n<=len then some (.pointer (some a))else none
 | _,_=>none
def lS (H:aB)(es n:Nat):Value->Option (List Value)
 | .slice (some a) _ _=>if n*es=0 then some []else mK H a (n*es)
 | .slice none _ _=>if n=0 then some []else none
 | .string s=>if es=1 then some ((s.extract 0 n).data.toList.map fun b => .int .u8 b.toNat)else none
 | _=>none
def aAU:Value->Option Nat
 | .slice _ n _=>some n
 | .string s=>some s.size
 | _=>none
def cZ:Value->List Nat
 | .pointer (some a)=>[a.block]
 | .slice (some a) _ _=>[a.block]
 | _=>[]
def CC (fl:Nat)(H:aB)(es:Nat):Option Addr->Option aB
 | none=>some H
 | some a =>
   match H[a.block]? with
   | some B =>
     if B.exact then some H
     else if B.es=es/\B.alive=true/\fl<=a.block then some (H.set a.block { B with alive:=false })else none
   | none=>none
def oX (P:Program)(fl:Nat)(e es eb:Nat)(base:Option Addr)(n c m:Nat)(x:Value)(H:aB):Option (Value×aB) :=
 match lS H es m x with
 | some new =>
   if n+m<=c then
    match base with
    | some a=>match storeAt fl H (a.add (n*es)) new with
      | some H'=>some (.slice (some a) (n+m) c,H')
      | none=>none
    | none=>some (.slice none (n+m) c,H)
   else if (n+m)*eb<=2 ^ 47/\n+m<=2 ^ 47/\new.all Value.oneCell'=true/\(kS P e).map List.length=some es then
    match lS H es n (.slice base n c),CC fl H es base with
    | some old,some H'=>some (.slice (some ⟨H'.length,0,none⟩) (n+m) (n+m),H'++[⟨old++new,es,false,true⟩])
    | _,_=>none
   else none
 | none=>none
def uP (P:Program)(fl:Nat)(argTypes:Array TypeId)(args:Array Value)(H:aB):Option (Value×aB) :=
 match argTypes[0]?,argTypes[1]?,args[0]?,args[1]? with
 | some st,some xt,some (Value.slice base n c),some x =>
   match aTy P st,aTy P xt,aAU x with
   | .slice e es eb,.slice _ _ _,some m=>oX P fl e es eb base n c m x H
   | .slice e es eb,.str,some m=>oX P fl e es eb base n c m x H
   | _,_,_=>none
 | _,_,_,_=>none
def QW (P:Program)(fl:Nat)(argTypes:Array TypeId)(args:Array Value)(H:aB):Option (Value×aB) :=
 match argTypes[0]?,args[0]?,args[1]? with
 | some dt,some (Value.slice base n _),some x =>
   match aTy P dt,aAU x with
   | .slice _ es _,some m =>
     match lS H es (Nat.min m n) x with
     | some cells =>
       match base with
       | some a=>match storeAt fl H a cells with
         | some H'=>some (.int .i64 (Nat.min m n),H')
         | none=>none
       | none=>some (.int .i64 (Nat.min m n),H)
     | none=>none
   | _,_=>none
 | _,_,_=>none
def GL (P:Program)(argTypes:Array TypeId)(args:Array Value):Option Value :=
 match argTypes[0]?,args[0]? with
 | some t,some x =>
   match aTy P t,x with
   | .str,.string s=>some (.int .i64 s.size)
   | .array n _ _ _,_=>some (.int .i64 n)
   | .slice _ _ _,.slice _ n _=>some (.int .i64 n)
   | _,_=>none
 | _,_=>none
def X9:Value->Value->Option Value
 | .int k x,.int _ y=>some (.int k (if y>x then y else x))
 | _,_=>none
def YB:Value->Value->Option Value
 | .int k x,.int _ y=>some (.int k (if y<x then y else x))
 | _,_=>none
def JE (f:Value->Value->Option Value):Value->List Value->Option Value
 | x,[]=>some x
 | x,y::l=>match f x y with
   | some z=>JE f z l
   | none=>none
def nZ:List Value->Option (List UInt8)
 | []=>some []
 | .int .u8 z::l=>(nZ l).map (UInt8.ofNat z.toNat :: ·)
 | _::_=>none
def zA (P:Program)(s d:TypeId)(x:Value)(H:aB):Option (Value×aB) :=
 match P.underlying s,P.underlying d,x with
 | some _,some (.int k),.int _ n=>some (.int k (k.wrap n),H)
 | some _,some .string,.string b=>some (.string b,H)
 | some _,some (.float k),.int _ n=>some (.float k (floatOfInt k n),H)
 | some _,some (.int k),.float s b=>match floatToIntVal s b k with
   | some n=>some (.int k n,H)
   | none=>none
 | some .string,some (.slice e),.string b =>
   match P.underlying e with
   | some (.int .u8) =>
     if b.size<=2 ^ 60 then
      some (.slice (some ⟨H.length,0,none⟩) b.size b.size,H++[⟨b.data.toList.map fun c => .int .u8 c.toNat,1,false,true⟩])
     else none
   | _=>none
 | some (.slice e),some .string,.slice a n _ =>
   match P.underlying e,a with
   | some (.int .u8),none=>some (.string .empty,H)
   | some (.int .u8),some a =>
     if n=0 then some (.string .empty,H)else
     match mK H a n with
     | some cs =>
       match nZ cs with
       | some l=>some (.string ⟨l.toArray⟩,H)
       | none=>none
     | none=>none
   | _,_=>none
 | _,_,_=>none
def GR (P:Program)(f:FuncId):Bool :=
 match P.funcs[f]? with
 | some fn=>fn.name != "runtime.NumGoroutine" && fn.body.isSome
 | none=>false
def oV (P:Program)(fl:Nat)(c:Call)(ev:Operand->Value)(H:aB):Option (yP×aB) :=
 match c.callee with
 | .value f =>
   match ev f with
   | .func (.func g) first captured=>if GR P g then some (.enter g (first++c.args.map ev++captured),H)else none
   | _=>none
 | .builtin b =>
   match b with
   | .len=>(GL P c.argTypes (c.args.map ev)).map fun v=>(.value v,H)
   | .append=>(uP P fl c.argTypes (c.args.map ev) H).map fun r=>(.value r.1,r.2)
   | .copy=>(QW P fl c.argTypes (c.args.map ev) H).map fun r=>(.value r.1,r.2)
   | .max=>match (c.args.map ev).toList with
     | x::l=>(JE X9 x l).map fun v=>(.value v,H)
     | []=>none
   | .min=>match (c.args.map ev).toList with
     | x::l=>(JE YB x l).map fun v=>(.value v,H)
     | []=>none
   | .complex=>match (c.args.map ev).toList with
     | [.float k a,.float k' b]=>if k=k' then some (.value (.complex k a b),H)else none
     | _=>none
   | .real=>match (c.args.map ev).toList with
     | [.complex k a _]=>some (.value (.float k a),H)
     | _=>none
   | .imag=>match (c.args.map ev).toList with
     | [.complex k _ b]=>some (.value (.float k b),H)
     | _=>none
   | _=>none
 | _=>none
def CF (P:Program)(t:TypeId)(iP:Bool)(x y:Value):Option Bool :=
 match P.underlying t with
 | some (.pointer _)=>match x,y with
   | .pointer none,.pointer b=>some b.isNone
   | .pointer (some _),.pointer none=>some false
   | _,_=>none
 | some (.slice _)=>match x,y with
   | .slice none _ _,.slice b _ _=>some b.isNone
   | .slice (some _) _ _,.slice none _ _=>some false
   | _,_=>none
 | some (.func _ _ _)=>match x,y with
   | .nilFunc,.nilFunc=>some true
   | .nilFunc,.func .. => some false
   | .func ..,.nilFunc=>some false
   | _,_=>none
 | some (.interface _)=>match x,y with
   | .nilIface,.nilIface=>if iP then some true else none
   | .nilIface,.iface .. => some false
   | .iface ..,.nilIface=>some false
   | _,_=>none
 | _=>none
def iP:Operand->Bool
 | .const _=>true
 | _=>false
def JR (P:Program)(t:TypeId)(x:Value):Bool :=
 match x with
 | .bool _=>match P.underlying t with
   | some .bool=>true
   | _=>false
 | _=>true
def Y2 (P:Program)(op:BinOp)(t:TypeId)(c:Bool)(x y:Value):Option Value :=
 match op with
 | .eql=>(CF P t c x y).map .bool
 | .neq=>(CF P t c x y).map fun b => .bool (!b)
 | _=>none
def aFl (op:BinOp)(x y:Value):Option Value :=
 match op,x,y with
 | .eql,.float k a,.float k' b=>if k=k' then some (.bool (k.format.order a b==some .eq))else none
 | .leq,.float k a,.float k' b=>if k=k' then some (.bool (k.format.order a b==some .lt||k.format.order a b==some .eq))else none
 | .geq,.float k a,.float k' b=>if k=k' then some (.bool (k.format.order a b==some .gt||k.format.order a b==some .eq))else none
 | .add,.complex k a b,.complex k' c d=>if k=k' then(cSumBits .add k a b c d).map fun r => .complex k r.1 r.2 else none
 | .sub,.complex k a b,.complex k' c d=>if k=k' then(cSumBits .sub k a b c d).map fun r => .complex k r.1 r.2 else none
 | .mul,.complex .f64 a b,.complex .f64 c d=>(cMulBits a b c d).map fun r => .complex .f64 r.1 r.2
 | _,_,_=>none
def JP (d:Option TypeDesc)(x y:Value):Option Bool :=
 match d,x,y with
 | some (.int _),.int k a,.int k' b=>if k=k' then some (a==b)else none
 | some .bool,.bool a,.bool b=>some (a==b)
 | _,_,_=>none
def UH (P:Program)(t:TypeId):Option (List (TypeId×Nat)) :=
 match P.underlying t with
 | some (.struct fs)=>if P.stoodInHeld t||fs.toList.any (fun f=>f.name == "_")then none else some (fs.toList.map fun f=>(f.type,f.offset))
 | some (.array n e)=>if P.cellsOf e=1 then some ((List.range n).map fun i=>(e,i))else none
 | _=>none
def sS (P:Program):List (TypeId×Nat)->List Value->List Value->Option Bool
 | [],_,_=>some true
 | (t,o)::r,xs,ys=>match xs[o]?,ys[o]? with
   | some x,some y=>match JP (P.underlying t) x y,sS P r xs ys with
     | some b,some b'=>some (b&&b')
     | _,_=>none
   | _,_=>none
def FG (P:Program)(t:TypeId)(x y:Value):Option Bool :=
 match x,y,UH P t with
 | .agg xs,.agg ys,some l=>if P.eqGuardType P.depth t=true\/(P.info? t).isSome=false then none else sS P l xs.toList ys.toList
 | _,_,_=>none
def eqA (P:Program)(op:BinOp)(t:TypeId)(x y:Value):Option Value :=
 match op with
 | .eql=>(FG P t x y).map Value.bool
 | .neq=>(FG P t x y).map fun b=>Value.bool (!b)
 | _=>none
def D0 (P:Program)(op:BinOp)(t:TypeId)(c:Bool)(x y:Value):Option Value :=
 match wI op x y with
 | some v=>if JR P t x then some v else none
 | none=>match Y2 P op t c x y with
   | some v=>some v
   | none=>match aFl op x y with
     | some v=>some v
     | none=>eqA P op t x y
def aT (P:Program)(fl:Nat)(op:Op)(ev:Operand->Value)(H:aB):Option (yP×aB) :=
 match op with
 | .move x | .assign x=>some (.value (ev x),H)
 | .pick c a b=>match ev c with
   | .bool d=>some (.value (if d then ev a else ev b),H)
   | _=>none
 | .alloc t=>match kS P t with
   | some cs=>some (.value (.pointer (some ⟨H.length,0,none⟩)),H++[⟨cs,0,true,true⟩])
   | none=>none
 | .box _ x=>some (.value (.pointer (some ⟨H.length,0,none⟩)),H++[⟨(ev x).cells.toList,0,true,true⟩])
 | .build t parts=>match aTy P t,kS P t with
   | .struct _ fs,some z=>match DN (fun i=>(fs[i]?).map fun f=>(f.1,f.2.1)) z (parts.toList.map fun p=>(p.1,ev p.2))with
     | some cs=>some (.value (.agg cs.toArray),H)
     | none=>none
   | .array _ _ es _,some z=>match DN (fun i=>some (i*es,es)) z (parts.toList.map fun p=>(p.1,ev p.2))with
     | some cs=>some (.value (.agg cs.toArray),H)
     | none=>none
   | _,_=>none
 | .buildSlice t len parts=>match aTy P t with
   | .slice e es _ =>
     if len*es<=2 ^ 20 then
      match kS P e with
      | some z=>match DN (fun i=>some (i*es,es)) (oY z (len*es)) (parts.toList.map fun p=>(p.1,ev p.2))with
        | some cs=>some (.value (.slice (some ⟨H.length,0,none⟩) len len),H++[⟨cs,es,true,true⟩])
        | none=>none
      | none=>none
     else none
   | _=>none
 | .load t a=>match ev a with
   | .pointer (some p)=>(FZ P t H p).map fun v=>(.value v,H)
   | _=>none
 | .store t a x=>match ev a with
   | .pointer (some p)=>(D6 P fl t H p (ev x)).map fun H'=>(.skip,H')
   | _=>none
 | .nilCheck x=>match ev x with
   | .pointer (some a)=>some (.value (.pointer (some a)),H)
   | .func (.func f) a b=>some (.value (.func (.func f) a b),H)
   | _=>none
 | .binOp op t x y _=>(D0 P op t (iP x||iP y) (ev x) (ev y)).map fun v=>(.value v,H)
 | .unOp op _ x=>(aUn op (ev x)).map fun v=>(.value v,H)
 | .convert s d x=>(zA P s d (ev x) H).map fun r=>(.value r.1,r.2)
 | .makeFunc fn first captured=>some (.value (.func fn (first.map ev) (captured.map ev)),H)
 | .makeSlice t l c=>match aTy P t,ev l,ev c with
   | .slice e es eb,.int _ l,.int _ c =>
     if 0<=l/\l<=c/\c<=2 ^ 46/\eb*c<=2 ^ 46 then
      match kS P e with
      | some z=>some (.value (.slice (some ⟨H.length,0,none⟩) l.toNat c.toNat),H++[⟨oY z (c.toNat*es),es,true,true⟩])
      | none=>none
     else none
   | _,_,_=>none
 | .slice t x lo hi mx=>(DV P t (ev x) (lo.map ev) (hi.map ev) (mx.map ev) H).map fun v=>(.value v,H)
 | .fieldAddr s x f=>(vH P s (ev x) f).map fun v=>(.value v,H)
 | .field t x f=>(KS P t (ev x) f).map fun v=>(.value v,H)
 | .indexAddr t x ix=>(pS P t (ev x) (ev ix)).map fun v=>(.value v,H)
 | .index t x ix=>(DD P t (ev x) (ev ix)).map fun v=>(.value v,H)
 | .extract x i=>match ev x with
   | .tuple vs=>(vs[i]?).map fun v=>(.value v,H)
   | _=>none
 | .sliceToArrayPointer t x=>(OY P t (ev x)).map fun v=>(.value v,H)
 | .makeInterface t x=>match P.underlying t with
   | some (.interface _)=>none
   | some _=>some (.value (.iface t (ev x)),H)
   | none=>none
 | .call c=>oV P fl c ev H
 | _=>none
def j9 (op:Op)(ev:Operand->Value):List Nat :=
 match op with
 | .load _ a=>cZ (ev a)
 | .store _ a _=>cZ (ev a)
 | .convert _ _ x=>cZ (ev x)
 | .call c=>match c.callee with
   | .builtin .append | .builtin .copy=>(c.args.map ev).toList.flatMap cZ
   | _=>[]
 | _=>[]
def qG (op:Op)(ev:Operand->Value):List Nat :=
 match op with
 | .store _ a _=>cZ (ev a)
 | .call c=>match c.callee with
   | .builtin .append | .builtin .copy=>(c.args.map ev)[0]?.elim [] cZ
   | _=>[]
 | _=>[]
end Go.Mach
