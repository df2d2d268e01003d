/- Part of the proof. No condition. -/
import Derived.Control
import Derived.Calls
import Derived.Orders
import Derived.Laws.Sem
import Derived.Laws.ComplexArith
import Derived.Laws.Cover3
namespace Go.Mach
theorem zE:type_of% @Array.ext' := @Array.ext'
theorem nT:type_of% @Array.getD_eq_getD_getElem? := @Array.getD_eq_getD_getElem?
theorem nU:type_of% @Array.getElem?_eq_getElem := @Array.getElem?_eq_getElem
theorem FP:type_of% @Array.getElem?_setIfInBounds_ne := @Array.getElem?_setIfInBounds_ne
theorem JT:type_of% @Array.getElem?_setIfInBounds_self_of_lt := @Array.getElem?_setIfInBounds_self_of_lt
theorem nF:type_of% @Array.getElem?_toList := @Array.getElem?_toList
theorem xE:type_of% @Array.length_toList := @Array.length_toList
theorem TX:type_of% @Array.map_congr_left := @Array.map_congr_left
theorem tT:type_of% @Array.toList_append := @Array.toList_append
theorem aH:type_of% @Bool.and_eq_true := @Bool.and_eq_true
theorem oZ:type_of% @Bool.and_self := @Bool.and_self
theorem eK:type_of% @Bool.false_eq_true := @Bool.false_eq_true
theorem AP:type_of% @Bool.not_eq_true' := @Bool.not_eq_true'
theorem ER:type_of% @Bool.or_eq_false_iff := @Bool.or_eq_false_iff
theorem iX:type_of% @Bool.or_eq_true := @Bool.or_eq_true
theorem AZ:type_of% @Bool.or_true := @Bool.or_true
theorem lP:type_of% @Bool.true_and := @Bool.true_and
theorem ES:type_of% @Int.eq_ofNat_of_zero_le := @Int.eq_ofNat_of_zero_le
theorem gZ:type_of% @Int.toNat_natCast := @Int.toNat_natCast
theorem bW:type_of% @List.all_eq_true := @List.all_eq_true
theorem wN:type_of% @List.any_cons := @List.any_cons
theorem bM:type_of% @List.append_assoc := @List.append_assoc
theorem bJ:type_of% @List.append_nil := @List.append_nil
theorem s7:type_of% @List.drop_drop := @List.drop_drop
theorem wF:type_of% @List.drop_eq_getElem_cons := @List.drop_eq_getElem_cons
theorem EJ:type_of% @List.drop_zero := @List.drop_zero
theorem sY:type_of% @List.eq_nil_of_length_eq_zero := @List.eq_nil_of_length_eq_zero
theorem wQ:type_of% @List.ext_getElem? := @List.ext_getElem?
theorem pG:type_of% @List.flatMap_append := @List.flatMap_append
theorem jA:type_of% @List.flatMap_cons := @List.flatMap_cons
theorem cH:type_of% @List.getD_eq_getElem?_getD := @List.getD_eq_getElem?_getD
theorem dL:type_of% @List.getElem?_append_left := @List.getElem?_append_left
theorem o5:type_of% @List.getElem?_append_right := @List.getElem?_append_right
theorem q8:type_of% @List.getElem?_drop := @List.getElem?_drop
theorem aM:type_of% @List.getElem?_eq_getElem := @List.getElem?_eq_getElem
theorem qX:type_of% @List.getElem?_eq_none := @List.getElem?_eq_none
theorem O2:type_of% @List.getElem?_eq_none_iff := @List.getElem?_eq_none_iff
theorem b8:type_of% @List.getElem?_map := @List.getElem?_map
theorem dK:type_of% @List.getElem?_set_ne := @List.getElem?_set_ne
theorem gQ:type_of% @List.getElem?_set_self := @List.getElem?_set_self
theorem lO:type_of% @List.getElem_mem := @List.getElem_mem
theorem aR:type_of% @List.length_append := @List.length_append
theorem wM:type_of% @List.length_cons := @List.length_cons
theorem oB:type_of% @List.length_drop := @List.length_drop
theorem e8:type_of% @List.length_map := @List.length_map
theorem eI:type_of% @List.length_take := @List.length_take
theorem uZ:type_of% @List.map_append := @List.map_append
theorem AD:type_of% @List.mem_append := @List.mem_append
theorem lU:type_of% @List.mem_append_left := @List.mem_append_left
theorem gA:type_of% @List.mem_append_right := @List.mem_append_right
theorem DY:type_of% @List.mem_cons := @List.mem_cons
theorem dA:type_of% @List.mem_cons_of_mem := @List.mem_cons_of_mem
theorem cN:type_of% @List.mem_cons_self := @List.mem_cons_self
theorem fW:type_of% @List.mem_of_getElem? := @List.mem_of_getElem?
theorem qW:type_of% @List.mem_range := @List.mem_range
theorem nN:type_of% @List.mem_singleton := @List.mem_singleton
theorem LQ:type_of% @List.nodup_append := @List.nodup_append
theorem nV:type_of% @List.take_append_drop := @List.take_append_drop
theorem kK:type_of% @List.take_length := @List.take_length
theorem rJ:type_of% @Nat.add_assoc := @Nat.add_assoc
theorem fA:type_of% @Nat.add_mul := @Nat.add_mul
theorem kP:type_of% @Nat.le_of_lt := @Nat.le_of_lt
theorem aF:type_of% @Nat.le_refl := @Nat.le_refl
theorem bY:type_of% @Nat.le_trans := @Nat.le_trans
theorem dC:type_of% @Nat.lt_of_lt_of_le := @Nat.lt_of_lt_of_le
theorem lM:type_of% @Nat.lt_or_ge := @Nat.lt_or_ge
theorem xG:type_of% @Nat.min_eq_left := @Nat.min_eq_left
theorem uO:type_of% @Nat.mul_le_mul_right := @Nat.mul_le_mul_right
theorem mV:type_of% @Nat.mul_one := @Nat.mul_one
theorem m8:type_of% @Nat.one_mul := @Nat.one_mul
theorem e9:type_of% @Nat.zero_add := @Nat.zero_add
theorem eJ:type_of% @Nat.zero_le := @Nat.zero_le
theorem eR:type_of% @Option.some.inj := @Option.some.inj
theorem aX:type_of% @Option.some.injEq := @Option.some.injEq
theorem e7:type_of% @Prod.mk.inj := @Prod.mk.inj
theorem nD:type_of% @Result.andThen_ok := @Result.andThen_ok
theorem lT:type_of% @Sem.run_bind := @Sem.run_bind
theorem eP:type_of% @beq_iff_eq := @beq_iff_eq
theorem DZ:type_of% @beq_self_eq_true := @beq_self_eq_true
theorem DO:type_of% @decide_eq_false := @decide_eq_false
theorem gB:type_of% @decide_eq_true := @decide_eq_true
theorem cK:type_of% @decide_eq_true_eq := @decide_eq_true_eq
theorem aS:type_of% @if_false := @if_false
theorem aC:type_of% @if_neg := @if_neg
theorem aA:type_of% @if_pos := @if_pos
theorem aO:type_of% @if_true := @if_true
theorem tX:type_of% @of_decide_eq_true := @of_decide_eq_true
theorem aT:type_of% @run_underlying := @run_underlying
structure Blk where
 cells:List Value
 es:Nat
 exact:Bool
 alive:Bool
abbrev aD:=List Blk
abbrev aE:=Nat->Value
def xV (t:aE)(d:Nat)(v:Value):aE:=fun i=>if i=d then v else t i
theorem tO (t:aE)(d:Nat)(v:Value):xV t d v d=v:=aA rfl
theorem sF (t:aE)(d i:Nat)(v:Value)(h:i≠d):xV t d v i=t i:=aC h
def lN (t:aE):Option Tmp->Value->aE
 | some d,v=>xV t d v
 | none,_=>t
def eval (t:aE):Operand->Value
 | .tmp i=>t i
 | .const v=>v
 | .global g => .pointer (some ⟨g,0,none⟩)
 | .func f => .func (.func f) #[] #[]
inductive ATy
 | one
 | str
 | slice (elem:TypeId) (es eb:Nat)
 | array (n:Nat) (elem:TypeId) (es sz:Nat)
 | struct (sz:Nat) (fields:List (Nat×Nat×Option Bool))
 | other
def aB5:TypeDesc->Bool
 | .struct _ | .array _ _=>true
 | _=>false
def pF (P:Program)(t:TypeId):Bool:=(P.underlying t).any aB5
def T5 (P:Program)(t:TypeId):Option Bool:=(P.underlying t).map aB5
def aTy (P:Program)(t:TypeId):ATy :=
 match P.info? t,P.underlying t with
 | some i,some d =>
   match d with
   | .string => .str
   | .slice e=>match P.info? e with
     | some j=>if j.size=0 then .other else .slice e j.size j.bytes
     | none => .other
   | .array n e=>match P.info? e with
     | some j=>if j.size=0 then .other else .array n e j.size i.size
     | none => .other
   | .struct fs=>if fs.toList.all (fun f=>(P.info? f.type).isSome)then .struct i.size (fs.toList.map fun f=>(f.offset,P.cellsOf f.type,T5 P f.type))else .other
   | .interface _ => .other
   | .tuple _ => .other
   | .named _ _ => .other
   | _ => .one
 | _,_ => .other
def fX:Value->Bool
 | .bool _ | .int .. | .float .. | .complex .. | .string _ | .nilFunc | .nilIface=>true
 | .pointer none=>true
 | .slice none _ _=>true
 | _=>false
def cS (P:Program)(t:TypeId):Option (List Value) :=
 match (P.info? t).bind (·.zero)with
 | some z=>if z.cells.toList.all fX then some z.cells.toList else none
 | none=>none
inductive tG
 | value (v:Value)
 | skip
 | enter (f:FuncId) (args:Array Value)
def setCells:List Value->Nat->List Value->List Value
 | cs,_,[]=>cs
 | cs,i,v::vs=>setCells (cs.set i v) (i+1) vs
def rS (place:Nat->Option (Nat×Nat)):List Value->List (Nat×Value)->Option (List Value)
 | cs,[]=>some cs
 | cs,(i,v)::rest =>
   match place i with
   | none=>none
   | some (off,size) =>
     if v.cells.size=size/\off+size<=cs.length then rS place (setCells cs off v.cells.toList) rest else none
def dW (z:List Value)(n:Nat):List Value:=(List.range n).map fun i=>z[i%z.length]!
def blk? (H:aD)(b:Nat):Option Blk :=
 match H[b]? with
 | some B=>if B.alive then some B else none
 | none=>none
def lC:Value->Bool
 | .tuple _=>true
 | _=>false
def aHV:Value := .tuple #[]
def fC (H:aD)(p:Addr)(n:Nat):Option (List Value) :=
 match blk? H p.block with
 | some B=>if p.off+n<=B.cells.length/\((B.cells.drop p.off).take n).all (fun v => !lC v)=true then some ((B.cells.drop p.off).take n)else none
 | none=>none
def qR (H:aD)(p:Addr):Option Value :=
 match blk? H p.block with
 | some B=>match B.cells[p.off]? with
   | some v=>if lC v then none else some v
   | none=>none
 | none=>none
def lD (P:Program)(t:TypeId)(H:aD)(p:Addr):Option Value :=
 match aTy P t with
 | .struct sz _ | .array _ _ _ sz=>(fC H p sz).map fun cs => .agg cs.toArray
 | .other=>none
 | _=>qR H p
def storeAt (fl:Nat)(H:aD)(p:Addr)(vs:List Value):Option aD :=
 match vs with
 | []=>some H
 | vs =>
   match blk? H p.block with
   | some B =>
     if fl<=p.block/\p.off+vs.length<=B.cells.length/\vs.all Value.oneCell' then
      some (H.set p.block { B with cells:=setCells B.cells p.off vs })
     else none
   | none=>none
def zN (P:Program)(t:TypeId):Option Nat :=
 match aTy P t with
 | .other=>none
 | _=>some (P.cellsOf t)
def uY (P:Program)(fl:Nat)(t:TypeId)(H:aD)(p:Addr)(v:Value):Option aD :=
 if zN P t=some v.cells.size then storeAt fl H p v.cells.toList else none
def wR (isAgg:Option Bool)(cs:Array Value)(off size:Nat):Option Value :=
 match isAgg with
 | some true=>some (.agg (cs.extract off (off+size)))
 | some false=>cs[off]?
 | none=>none
def fI (op:BinOp)(x y:Value):Option Value :=
 match op,x,y with
 | .shl,.int k a,.int _ b=>if b<0 then none else some (.int k (k.wrap (a*2 ^ (min b.toNat k.bits))))
 | .shr,.int k a,.int _ b=>if b<0 then none else some (.int k (a.fdiv (2 ^ (min b.toNat k.bits))))
 | op,.int k a,.int k' b =>
   if k≠k' then none else
   match op with
   | .add=>some (.int k (k.wrap (a+b)))
   | .sub=>some (.int k (k.wrap (a-b)))
   | .mul=>some (.int k (k.wrap (a*b)))
   | .quo=>if b=0 then none else some (.int k (k.wrap (a.tdiv b)))
   | .rem=>if b=0 then none else some (.int k (a.tmod b))
   | .and=>some (.int k (k.wrap (BitVec.ofInt k.bits a &&& BitVec.ofInt k.bits b).toNat))
   | .or=>some (.int k (k.wrap (BitVec.ofInt k.bits a ||| BitVec.ofInt k.bits b).toNat))
   | .xor=>some (.int k (k.wrap (BitVec.ofInt k.bits a ^^^ BitVec.ofInt k.bits b).toNat))
   | .andNot=>some (.int k (k.wrap (BitVec.ofInt k.bits a &&& ~~~ BitVec.ofInt k.bits b).toNat))
   | .eql=>some (.bool (a==b))
   | .neq=>some (.bool (a != b))
   | .lss=>some (.bool (decide (a<b)))
   | .leq=>some (.bool (decide (a<=b)))
   | .gtr=>some (.bool (decide (b<a)))
   | .geq=>some (.bool (decide (b<=a)))
   | _=>none
 | .eql,.bool a,.bool b=>some (.bool (a==b))
 | .neq,.bool a,.bool b=>some (.bool (a != b))
 | op,.string a,.string b =>
   match op with
   | .add=>if a.size+b.size<=2 ^ 60 then some (.string (a++b))else none
   | .eql=>some (.bool (a.toList==b.toList))
   | .neq=>some (.bool (!(a.toList==b.toList)))
   | .lss=>some (.bool (Op.bytesLess a.toList b.toList))
   | .leq=>some (.bool (Op.bytesLess a.toList b.toList||a.toList==b.toList))
   | .gtr=>some (.bool (!(Op.bytesLess a.toList b.toList||a.toList==b.toList)))
   | .geq=>some (.bool (!Op.bytesLess a.toList b.toList))
   | _=>none
 | _,_,_=>none
def aUn (op:UnOp)(x:Value):Option Value :=
 match op,x with
 | .neg,.int k n=>some (.int k (k.wrap (0-n)))
 | .xor,.int k n=>some (.int k (k.wrap (BitVec.ofInt k.bits (if k.signed then -1 else k.max) ^^^ BitVec.ofInt k.bits n).toNat))
 | .not,.bool b=>some (.bool (!b))
 | _,_=>none
def jZ (x:Value)(y:Nat):Option Nat :=
 match x with
 | .int _ i=>if 0<=i/\i<=y then some i.toNat else none
 | _=>none
def eW (len cap:Nat)(low high mx:Option Value):Option (Nat×Nat×Nat):=do
 let m <- match mx with
  | some v=>jZ v cap
  | none=>some cap
 let h <- match high,mx with
  | some v,some _=>jZ v m
  | some v,none=>jZ v m
  | none,none=>some len
  | none,some _=>none
 let l <- match low with
  | some v=>jZ v h
  | none=>some 0
 some (l,h,m)
def sX (P:Program)(t:TypeId)(x:Value)(low high mx:Option Value)(H:aD):Option Value :=
 match aTy P t,x with
 | .str,.string s =>
   if mx.isSome then none else
   match eW s.size s.size low high none with
   | some (l,h,_)=>some (.string (s.extract l h))
   | none=>none
 | .slice _ _ _,.slice none len cap =>
   match eW len cap low high mx with
   | some (l,h,m)=>some (.slice none (h-l) (m-l))
   | none=>none
 | .slice _ es _,.slice (some a) len cap =>
   match eW len cap low high mx,H[a.block]? with
   | some (l,h,m),some B =>
     if B.exact then some (.slice (some (if m=l then a else a.add (l*es))) (h-l) (m-l))
     else if B.es=es then some (.slice (some (a.add (l*es))) (h-l) (m-l))else none
   | _,_=>none
 | .array n _ es _,.pointer (some a) =>
   match eW n n low high mx,H[a.block]? with
   | some (l,h,m),some B=>if B.exact then some (.slice (some (if m=l then a else a.add (l*es))) (h-l) (m-l))else none
   | _,_=>none
 | _,_=>none
def iL (P:Program)(t:TypeId)(x ix:Value):Option Value :=
 match aTy P t,x,ix with
 | .slice _ es _,.slice (some a) len _,.int _ i=>if 0<=i/\i<len then some (.pointer (some (a.add (i.toNat*es))))else none
 | .array n _ es _,.pointer (some a),.int _ i=>if 0<=i/\i<n then some (.pointer (some (a.add (i.toNat*es))))else none
 | _,_,_=>none
def uB (P:Program)(t:TypeId)(x ix:Value):Option Value :=
 match aTy P t,x,ix with
 | .array n e es _,.agg cs,.int _ i=>if 0<=i/\i<n then wR (T5 P e) cs (i.toNat*es) es else none
 | .str,.string s,.int _ i=>if 0<=i then(s[i.toNat]?).map fun b => .int .u8 b.toNat else none
 | _,_,_=>none
def AV (P:Program)(t:TypeId)(x:Value)(f:Nat):Option Value :=
 match aTy P t,x with
 | .struct _ fs,.agg cs=>match fs[f]? with
   | some (off,size,agg)=>if size=0 then none else wR agg cs off size
   | none=>none
 | _,_=>none
def n6 (P:Program)(t:TypeId)(x:Value)(f:Nat):Option Value :=
 match aTy P t,x with
 | .struct _ fs,.pointer (some a)=>match fs[f]? with
   | some (off,size,_)=>if size=0 then none else some (.pointer (some (a.add off)))
   | none=>none
 | _,_=>none
def EW (P:Program)(t:TypeId)(x:Value):Option Value :=
 match aTy P t,x with
 | .array n _ _ _,.slice (some a) len _=>if 0<n/\n<=len then some (.pointer (some a))else none
 | _,_=>none
def cU (H:aD)(es n:Nat):Value->Option (List Value)
 | .slice (some a) _ _=>if n*es=0 then some []else fC H a (n*es)
 | .slice none _ _=>if n=0 then some []else none
 | .string s=>if es=1 then some ((s.extract 0 n).data.toList.map fun b => .int .u8 b.toNat)else none
 | _=>none
def EF:Value->Option Nat
 | .slice _ n _=>some n
 | .string s=>some s.size
 | _=>none
def bK:Value->List Nat
 | .pointer (some a)=>[a.block]
 | .slice (some a) _ _=>[a.block]
 | _=>[]
def nO (fl:Nat)(H:aD)(es:Nat):Option Addr->Option aD
 | none=>some H
 | some a =>
   match H[a.block]? with
   | some B =>
     if B.exact then some H
     else if B.es=es/\B.alive=true/\fl<=a.block then some (H.set a.block { B with alive:=false })else none
   | none=>none
def gF (P:Program)(fl:Nat)(e es eb:Nat)(base:Option Addr)(n c m:Nat)(x:Value)(H:aD):Option (Value×aD) :=
 match cU H es m x with
 | some new =>
   if n+m<=c then
    match base with
    | some a=>match storeAt fl H (a.add (n*es)) new with
      | some H'=>some (.slice (some a) (n+m) c,H')
      | none=>none
    | none=>some (.slice none (n+m) c,H)
   else if (n+m)*eb<=2 ^ 47/\n+m<=2 ^ 47/\new.all Value.oneCell'=true/\(cS P e).map List.length=some es then
    match cU H es n (.slice base n c),nO fl H es base with
    | some old,some H'=>some (.slice (some ⟨H'.length,0,none⟩) (n+m) (n+m),H'++[⟨old++new,es,false,true⟩])
    | _,_=>none
   else none
 | none=>none
def mD (P:Program)(fl:Nat)(e es eb:Nat)(base:Option Addr)(n c m:Nat)(new:List Value)(H:aD):Option (Value×aD) :=
 if n+m<=c then
  match base with
  | some a=>match storeAt fl H (a.add (n*es)) new with
    | some H'=>some (.slice (some a) (n+m) c,H')
    | none=>none
  | none=>some (.slice none (n+m) c,H)
 else if (n+m)*eb<=2 ^ 47/\n+m<=2 ^ 47/\new.all Value.oneCell'=true/\(cS P e).map List.length=some es then
  match cU H es n (.slice base n c),nO fl H es base with
  | some old,some H'=>some (.slice (some ⟨H'.length,0,none⟩) (n+m) (n+m),H'++[⟨old++new,es,false,true⟩])
  | _,_=>none
 else none
def rP (P:Program)(fl:Nat)(e es eb:Nat)(base:Option Addr)(n c:Nat)(xt:TypeId)(x:Value)(H:aD):Option (Value×aD) :=
 match x,P.underlying xt,cS P e with
 | .int .i64 (.ofNat m),some (.int _),some z=>if z.length=es/\m*eb<=2 ^ 47/\m<=2 ^ 47 then mD P fl e es eb base n c m (dW z (m*es)) H else none
 | _,_,_=>none
def mN (P:Program)(fl:Nat)(argTypes:Array TypeId)(args:Array Value)(H:aD):Option (Value×aD) :=
 match argTypes[0]?,argTypes[1]?,args[0]?,args[1]? with
 | some st,some xt,some (Value.slice base n c),some x =>
   match aTy P st,aTy P xt,EF x with
   | .slice e es eb,.slice _ _ _,some m=>gF P fl e es eb base n c m x H
   | .slice e es eb,.str,some m=>gF P fl e es eb base n c m x H
   | .slice e es eb,.one,none=>rP P fl e es eb base n c xt x H
   | _,_,_=>none
 | _,_,_,_=>none
def DG (P:Program)(fl:Nat)(argTypes:Array TypeId)(args:Array Value)(H:aD):Option (Value×aD) :=
 match argTypes[0]?,args[0]?,args[1]? with
 | some dt,some (Value.slice base n _),some x =>
   match aTy P dt,EF x with
   | .slice _ es _,some m =>
     match cU H es (Nat.min m n) x with
     | some cells =>
       match base with
       | some a=>match storeAt fl H a cells with
         | some H'=>some (.int .i64 (Nat.min m n),H')
         | none=>none
       | none=>some (.int .i64 (Nat.min m n),H)
     | none=>none
   | _,_=>none
 | _,_,_=>none
def s9 (P:Program)(argTypes:Array TypeId)(args:Array Value):Option Value :=
 match argTypes[0]?,args[0]? with
 | some t,some x =>
   match aTy P t,x with
   | .str,.string s=>some (.int .i64 s.size)
   | .array n _ _ _,_=>some (.int .i64 n)
   | .slice _ _ _,.slice _ n _=>some (.int .i64 n)
   | _,_=>none
 | _,_=>none
def C4:Value->Value->Option Value
 | .int k x,.int _ y=>some (.int k (if y>x then y else x))
 | _,_=>none
def B9:Value->Value->Option Value
 | .int k x,.int _ y=>some (.int k (if y<x then y else x))
 | _,_=>none
def wE (f:Value->Value->Option Value):Value->List Value->Option Value
 | x,[]=>some x
 | x,y::l=>match f x y with
   | some z=>wE f z l
   | none=>none
def eZ:List Value->Option (List UInt8)
 | []=>some []
 | .int .u8 z::l=>(eZ l).map (UInt8.ofNat z.toNat :: ·)
 | _::_=>none
def kF (P:Program)(s d:TypeId)(x:Value)(H:aD):Option (Value×aD) :=
 match P.underlying s,P.underlying d,x with
 | some _,some (.int k),.int _ n=>some (.int k (k.wrap n),H)
 | some _,some .string,.string b=>some (.string b,H)
 | some _,some (.float k),.int _ n=>some (.float k (floatOfInt k n),H)
 | some _,some (.int k),.float s b=>match floatToIntVal s b k with
   | some n=>some (.int k n,H)
   | none=>none
 | some .string,some (.slice e),.string b =>
   match P.underlying e with
   | some (.int .u8) =>
     if b.size<=2 ^ 60 then
      some (.slice (some ⟨H.length,0,none⟩) b.size b.size,H++[⟨b.data.toList.map fun c => .int .u8 c.toNat,1,false,true⟩])
     else none
   | _=>none
 | some (.slice e),some .string,.slice a n _ =>
   match P.underlying e,a with
   | some (.int .u8),none=>some (.string .empty,H)
   | some (.int .u8),some a =>
     if n=0 then some (.string .empty,H)else
     match fC H a n with
     | some cs =>
       match eZ cs with
       | some l=>some (.string ⟨l.toArray⟩,H)
       | none=>none
     | none=>none
   | _,_=>none
 | _,_,_=>none
def kY (P:Program)(fl:Nat)(s d:TypeId)(x:Value)(H:aD):Option Value :=
 match x with
 | .slice (some a) (n+1) c =>
   if s=d/\fl<=a.block/\(blk? H a.block).isSome=true then
    match P.underlying s with
    | some (.slice e)=>match P.underlying e with
      | some (.int .u8)=>some (.slice (some a) (n+1) c)
      | _=>none
    | _=>none
   else none
 | _=>none
def tC (P:Program)(f:FuncId):Bool :=
 match P.funcs[f]? with
 | some fn=>fn.name != "runtime.NumGoroutine" && fn.body.isSome
 | none=>false
def fP (P:Program)(fl:Nat)(c:Call)(ev:Operand->Value)(H:aD):Option (tG×aD) :=
 match c.callee with
 | .value f =>
   match ev f with
   | .func (.func g) first captured=>if tC P g then some (.enter g (first++c.args.map ev++captured),H)else none
   | _=>none
 | .builtin b =>
   match b with
   | .len=>(s9 P c.argTypes (c.args.map ev)).map fun v=>(.value v,H)
   | .append=>(mN P fl c.argTypes (c.args.map ev) H).map fun r=>(.value r.1,r.2)
   | .copy=>(DG P fl c.argTypes (c.args.map ev) H).map fun r=>(.value r.1,r.2)
   | .max=>match (c.args.map ev).toList with
     | x::l=>(wE C4 x l).map fun v=>(.value v,H)
     | []=>none
   | .min=>match (c.args.map ev).toList with
     | x::l=>(wE B9 x l).map fun v=>(.value v,H)
     | []=>none
   | .complex=>match (c.args.map ev).toList with
     | [.float k a,.float k' b]=>if k=k' then some (.value (.complex k a b),H)else none
     | _=>none
   | .real=>match (c.args.map ev).toList with
     | [.complex k a _]=>some (.value (.float k a),H)
     | _=>none
   | .imag=>match (c.args.map ev).toList with
     | [.complex k _ b]=>some (.value (.float k b),H)
     | _=>none
   | _=>none
 | _=>none
def vE (P:Program)(t:TypeId)(bR:Bool)(x y:Value):Option Bool :=
 match P.underlying t with
 | some (.pointer _)=>match x,y with
   | .pointer none,.pointer b=>some b.isNone
   | .pointer (some _),.pointer none=>some false
   | _,_=>none
 | some (.slice _)=>match x,y with
   | .slice none _ _,.slice b _ _=>some b.isNone
   | .slice (some _) _ _,.slice none _ _=>some false
   | _,_=>none
 | some (.func _ _ _)=>match x,y with
   | .nilFunc,.nilFunc=>some true
   | .nilFunc,.func .. => some false
   | .func ..,.nilFunc=>some false
   | _,_=>none
 | some (.interface _)=>match x,y with
   | .nilIface,.nilIface=>if bR then some true else none
   | .nilIface,.iface .. => some false
   | .iface ..,.nilIface=>some false
   | _,_=>none
 | _=>none
def bR:Operand->Bool
 | .const _=>true
 | _=>false
def DX (P:Program)(t:TypeId)(x:Value):Bool :=
 match x with
 | .bool _=>match P.underlying t with
   | some .bool=>true
   | _=>false
 | _=>true
def S4 (P:Program)(op:BinOp)(t:TypeId)(c:Bool)(x y:Value):Option Value :=
 match op with
 | .eql=>(vE P t c x y).map .bool
 | .neq=>(vE P t c x y).map fun b => .bool (!b)
 | _=>none
def aFl (op:BinOp)(x y:Value):Option Value :=
 match op,x,y with
 | .eql,.float k a,.float k' b=>if k=k' then some (.bool (k.format.order a b==some .eq))else none
 | .leq,.float k a,.float k' b=>if k=k' then some (.bool (k.format.order a b==some .lt||k.format.order a b==some .eq))else none
 | .geq,.float k a,.float k' b=>if k=k' then some (.bool (k.format.order a b==some .gt||k.format.order a b==some .eq))else none
 | .add,.complex k a b,.complex k' c d=>if k=k' then(cSumBits .add k a b c d).map fun r => .complex k r.1 r.2 else none
 | .sub,.complex k a b,.complex k' c d=>if k=k' then(cSumBits .sub k a b c d).map fun r => .complex k r.1 r.2 else none
 | .mul,.complex .f64 a b,.complex .f64 c d=>(cMulBits a b c d).map fun r => .complex .f64 r.1 r.2
 | _,_,_=>none
def D7 (d:Option TypeDesc)(x y:Value):Option Bool :=
 match d,x,y with
 | some (.int _),.int k a,.int k' b=>if k=k' then some (a==b)else none
 | some .bool,.bool a,.bool b=>some (a==b)
 | _,_,_=>none
def PM (P:Program)(t:TypeId):Option (List (TypeId×Nat)) :=
 match P.underlying t with
 | some (.struct fs)=>if P.stoodInHeld t||fs.toList.any (fun f=>f.name == "_")then none else some (fs.toList.map fun f=>(f.type,f.offset))
 | some (.array n e)=>if P.cellsOf e=1 then some ((List.range n).map fun i=>(e,i))else none
 | _=>none
def oD (P:Program):List (TypeId×Nat)->List Value->List Value->Option Bool
 | [],_,_=>some true
 | (t,o)::r,xs,ys=>match xs[o]?,ys[o]? with
   | some x,some y=>match D7 (P.underlying t) x y,oD P r xs ys with
     | some b,some b'=>some (b&&b')
     | _,_=>none
   | _,_=>none
def zH (P:Program)(t:TypeId)(x y:Value):Option Bool :=
 match x,y,PM P t with
 | .agg xs,.agg ys,some l=>if P.eqGuardType P.depth t=true\/(P.info? t).isSome=false then none else oD P l xs.toList ys.toList
 | _,_,_=>none
def eqA (P:Program)(op:BinOp)(t:TypeId)(x y:Value):Option Value :=
 match op with
 | .eql=>(zH P t x y).map Value.bool
 | .neq=>(zH P t x y).map fun b=>Value.bool (!b)
 | _=>none
def nM (P:Program)(op:BinOp)(t:TypeId)(c:Bool)(x y:Value):Option Value :=
 match fI op x y with
 | some v=>if DX P t x then some v else none
 | none=>match S4 P op t c x y with
   | some v=>some v
   | none=>match aFl op x y with
     | some v=>some v
     | none=>eqA P op t x y
def aJ (P:Program)(fl:Nat)(op:Op)(ev:Operand->Value)(H:aD):Option (tG×aD) :=
 match op with
 | .move x | .assign x=>some (.value (ev x),H)
 | .pick c a b=>match ev c with
   | .bool d=>some (.value (if d then ev a else ev b),H)
   | _=>none
 | .alloc t=>match cS P t with
   | some cs=>some (.value (.pointer (some ⟨H.length,0,none⟩)),H++[⟨cs,0,true,true⟩])
   | none=>none
 | .box _ x=>some (.value (.pointer (some ⟨H.length,0,none⟩)),H++[⟨(ev x).cells.toList,0,true,true⟩])
 | .build t parts=>match aTy P t,cS P t with
   | .struct _ fs,some z=>match rS (fun i=>(fs[i]?).map fun f=>(f.1,f.2.1)) z (parts.toList.map fun p=>(p.1,ev p.2))with
     | some cs=>some (.value (.agg cs.toArray),H)
     | none=>none
   | .array _ _ es _,some z=>match rS (fun i=>some (i*es,es)) z (parts.toList.map fun p=>(p.1,ev p.2))with
     | some cs=>some (.value (.agg cs.toArray),H)
     | none=>none
   | _,_=>none
 | .buildSlice t len parts=>match aTy P t with
   | .slice e es _ =>
     if len*es<=2 ^ 20 then
      match cS P e with
      | some z=>match rS (fun i=>some (i*es,es)) (dW z (len*es)) (parts.toList.map fun p=>(p.1,ev p.2))with
        | some cs=>some (.value (.slice (some ⟨H.length,0,none⟩) len len),H++[⟨cs,es,true,true⟩])
        | none=>none
      | none=>none
     else none
   | _=>none
 | .load t a=>match ev a with
   | .pointer (some p)=>(lD P t H p).map fun v=>(.value v,H)
   | _=>none
 | .store t a x=>match ev a with
   | .pointer (some p)=>(uY P fl t H p (ev x)).map fun H'=>(.skip,H')
   | _=>none
 | .nilCheck x=>match ev x with
   | .pointer (some a)=>some (.value (.pointer (some a)),H)
   | .func (.func f) a b=>some (.value (.func (.func f) a b),H)
   | _=>none
 | .binOp op t x y _=>(nM P op t (bR x||bR y) (ev x) (ev y)).map fun v=>(.value v,H)
 | .unOp op _ x=>(aUn op (ev x)).map fun v=>(.value v,H)
 | .convert s d x=>match kY P fl s d (ev x) H with
   | some v=>some (.value v,H)
   | none=>(kF P s d (ev x) H).map fun r=>(.value r.1,r.2)
 | .makeFunc fn first captured=>some (.value (.func fn (first.map ev) (captured.map ev)),H)
 | .makeSlice t l c=>match aTy P t,ev l,ev c with
   | .slice e es eb,.int _ l,.int _ c =>
     if 0<=l/\l<=c/\c<=2 ^ 46/\eb*c<=2 ^ 46 then
      match cS P e with
      | some z=>some (.value (.slice (some ⟨H.length,0,none⟩) l.toNat c.toNat),H++[⟨dW z (c.toNat*es),es,true,true⟩])
      | none=>none
     else none
   | _,_,_=>none
 | .slice t x lo hi mx=>(sX P t (ev x) (lo.map ev) (hi.map ev) (mx.map ev) H).map fun v=>(.value v,H)
 | .fieldAddr s x f=>(n6 P s (ev x) f).map fun v=>(.value v,H)
 | .field t x f=>(AV P t (ev x) f).map fun v=>(.value v,H)
 | .indexAddr t x ix=>(iL P t (ev x) (ev ix)).map fun v=>(.value v,H)
 | .index t x ix=>(uB P t (ev x) (ev ix)).map fun v=>(.value v,H)
 | .extract x i=>match ev x with
   | .tuple vs=>(vs[i]?).map fun v=>(.value v,H)
   | _=>none
 | .sliceToArrayPointer t x=>(EW P t (ev x)).map fun v=>(.value v,H)
 | .makeInterface t x=>match P.underlying t with
   | some (.interface _)=>none
   | some _=>some (.value (.iface t (ev x)),H)
   | none=>none
 | .call c=>fP P fl c ev H
 | _=>none
def cI (op:Op)(ev:Operand->Value):List Nat :=
 match op with
 | .load _ a=>bK (ev a)
 | .store _ a _=>bK (ev a)
 | .convert _ _ x=>bK (ev x)
 | .call c=>match c.callee with
   | .builtin .append | .builtin .copy=>(c.args.map ev).toList.flatMap bK
   | _=>[]
 | _=>[]
def j0 (op:Op)(ev:Operand->Value):List Nat :=
 match op with
 | .store _ a _=>bK (ev a)
 | .convert s d x=>if s=d then bK (ev x)else []
 | .call c=>match c.callee with
   | .builtin .append | .builtin .copy=>(c.args.map ev)[0]?.elim [] bK
   | _=>[]
 | _=>[]
theorem NF (s d:TypeId)(x:Operand)(ev:Operand->Value):j0 (.convert s d x) ev=if s=d then bK (ev x)else []:=rfl
end Go.Mach
