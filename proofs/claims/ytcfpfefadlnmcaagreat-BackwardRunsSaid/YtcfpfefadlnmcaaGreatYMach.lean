/- Part of the proof. No condition. -/
import Derived.Control
import Derived.Calls
import Derived.Orders
import Derived.Laws.Sem
import Derived.Laws.ComplexArith
import Derived.Laws.Cover3
namespace Go.Mach
theorem UX:type_of% @Array.ext' := @Array.ext'
theorem C1:type_of% @Array.getD_eq_getD_getElem? := @Array.getD_eq_getD_getElem?
theorem FZ:type_of% @Array.getElem?_eq_getElem := @Array.getElem?_eq_getElem
theorem aAz:type_of% @Array.getElem?_setIfInBounds_ne := @Array.getElem?_setIfInBounds_ne
theorem aAK:type_of% @Array.getElem?_setIfInBounds_self_of_lt := @Array.getElem?_setIfInBounds_self_of_lt
theorem yC:type_of% @Array.getElem?_toList := @Array.getElem?_toList
theorem aCY:type_of% @Array.length_toList := @Array.length_toList
theorem aFe:type_of% @Array.map_congr_left := @Array.map_congr_left
theorem TW:type_of% @Array.toList_append := @Array.toList_append
theorem JH:type_of% @Bool.and_eq_false_iff := @Bool.and_eq_false_iff
theorem aI:type_of% @Bool.and_eq_true := @Bool.and_eq_true
theorem TA:type_of% @Bool.and_true := @Bool.and_true
theorem VF:type_of% @Bool.eq_false_iff := @Bool.eq_false_iff
theorem eW:type_of% @Bool.false_eq_true := @Bool.false_eq_true
theorem PI:type_of% @Bool.false_or := @Bool.false_or
theorem wZ:type_of% @Bool.not_eq_false' := @Bool.not_eq_false'
theorem nJ:type_of% @Bool.not_eq_true' := @Bool.not_eq_true'
theorem S0:type_of% @Bool.not_false := @Bool.not_false
theorem dP:type_of% @Bool.or_eq_false_iff := @Bool.or_eq_false_iff
theorem cG:type_of% @Bool.or_eq_true := @Bool.or_eq_true
theorem SU:type_of% @Bool.or_true := @Bool.or_true
theorem BX:type_of% @Bool.true_and := @Bool.true_and
theorem J1:type_of% @Bool.true_or := @Bool.true_or
theorem yR:type_of% @Int.add_assoc := @Int.add_assoc
theorem WH:type_of% @Int.ediv_le_self := @Int.ediv_le_self
theorem gM:type_of% @Int.eq_ofNat_of_zero_le := @Int.eq_ofNat_of_zero_le
theorem aAR:type_of% @Int.fdiv_eq_ediv_of_nonneg := @Int.fdiv_eq_ediv_of_nonneg
theorem KV:type_of% @Int.mul_assoc := @Int.mul_assoc
theorem zJ:type_of% @Int.mul_le_mul := @Int.mul_le_mul
theorem V6:type_of% @Int.mul_le_mul_of_nonneg_left := @Int.mul_le_mul_of_nonneg_left
theorem OW:type_of% @Int.mul_le_mul_of_nonneg_right := @Int.mul_le_mul_of_nonneg_right
theorem E2:type_of% @Int.mul_nonneg := @Int.mul_nonneg
theorem KK:type_of% @Int.mul_one := @Int.mul_one
theorem aAT:type_of% @Int.natCast_ediv := @Int.natCast_ediv
theorem V3:type_of% @Int.natCast_emod := @Int.natCast_emod
theorem lA:type_of% @Int.natCast_mul := @Int.natCast_mul
theorem PX:type_of% @Int.one_mul := @Int.one_mul
theorem PN:type_of% @Int.tdiv_eq_ediv_of_nonneg := @Int.tdiv_eq_ediv_of_nonneg
theorem VK:type_of% @Int.tmod_eq_emod_of_nonneg := @Int.tmod_eq_emod_of_nonneg
theorem bM:type_of% @Int.toNat_natCast := @Int.toNat_natCast
theorem VY:type_of% @List.all_eq_false := @List.all_eq_false
theorem jG:type_of% @List.all_eq_true := @List.all_eq_true
theorem OM:type_of% @List.any_cons := @List.any_cons
theorem OO:type_of% @List.any_eq_false := @List.any_eq_false
theorem GL:type_of% @List.any_eq_true := @List.any_eq_true
theorem fU:type_of% @List.append_assoc := @List.append_assoc
theorem dU:type_of% @List.append_nil := @List.append_nil
theorem GX:type_of% @List.drop_drop := @List.drop_drop
theorem LX:type_of% @List.drop_eq_getElem_cons := @List.drop_eq_getElem_cons
theorem R7:type_of% @List.drop_length := @List.drop_length
theorem S3:type_of% @List.drop_zero := @List.drop_zero
theorem TB:type_of% @List.eq_nil_of_length_eq_zero := @List.eq_nil_of_length_eq_zero
theorem aEV:type_of% @List.eq_of_mem_replicate := @List.eq_of_mem_replicate
theorem aB4:type_of% @List.ext_getElem := @List.ext_getElem
theorem VH:type_of% @List.ext_getElem? := @List.ext_getElem?
theorem S7:type_of% @List.flatMap_append := @List.flatMap_append
theorem PF:type_of% @List.flatMap_cons := @List.flatMap_cons
theorem VX:type_of% @List.foldl_append := @List.foldl_append
theorem aW:type_of% @List.getD_eq_getElem?_getD := @List.getD_eq_getElem?_getD
theorem gW:type_of% @List.getElem?_append_left := @List.getElem?_append_left
theorem D6:type_of% @List.getElem?_append_right := @List.getElem?_append_right
theorem aBV:type_of% @List.getElem?_drop := @List.getElem?_drop
theorem aP:type_of% @List.getElem?_eq_getElem := @List.getElem?_eq_getElem
theorem mE:type_of% @List.getElem?_map := @List.getElem?_map
theorem gY:type_of% @List.getElem?_set_ne := @List.getElem?_set_ne
theorem rG:type_of% @List.getElem?_set_self := @List.getElem?_set_self
theorem fB:type_of% @List.getElem_mem := @List.getElem_mem
theorem kX:type_of% @List.length_append := @List.length_append
theorem R8:type_of% @List.length_cons := @List.length_cons
theorem B4:type_of% @List.length_drop := @List.length_drop
theorem B8:type_of% @List.length_map := @List.length_map
theorem S4:type_of% @List.length_range := @List.length_range
theorem pY:type_of% @List.length_replicate := @List.length_replicate
theorem zE:type_of% @List.length_set := @List.length_set
theorem AC:type_of% @List.length_take := @List.length_take
theorem yZ:type_of% @List.map_append := @List.map_append
theorem S8:type_of% @List.mem_append := @List.mem_append
theorem CQ:type_of% @List.mem_append_left := @List.mem_append_left
theorem sT:type_of% @List.mem_append_right := @List.mem_append_right
theorem SI:type_of% @List.mem_cons := @List.mem_cons
theorem lY:type_of% @List.mem_cons_of_mem := @List.mem_cons_of_mem
theorem jO:type_of% @List.mem_cons_self := @List.mem_cons_self
theorem sR:type_of% @List.mem_of_getElem? := @List.mem_of_getElem?
theorem KL:type_of% @List.mem_range := @List.mem_range
theorem GJ:type_of% @List.mem_singleton := @List.mem_singleton
theorem qR:type_of% @List.range_succ := @List.range_succ
theorem Z4:type_of% @List.take_add_one := @List.take_add_one
theorem O8:type_of% @List.take_append_drop := @List.take_append_drop
theorem sS:type_of% @List.take_length := @List.take_length
theorem zC:type_of% @Nat.add_assoc := @Nat.add_assoc
theorem SK:type_of% @Nat.add_comm := @Nat.add_comm
theorem fK:type_of% @Nat.add_mul := @Nat.add_mul
theorem E0:type_of% @Nat.add_sub_cancel := @Nat.add_sub_cancel
theorem yX:type_of% @Nat.le_mul_of_pos_left := @Nat.le_mul_of_pos_left
theorem cE:type_of% @Nat.le_mul_of_pos_right := @Nat.le_mul_of_pos_right
theorem tN:type_of% @Nat.le_of_lt := @Nat.le_of_lt
theorem aR:type_of% @Nat.le_refl := @Nat.le_refl
theorem jH:type_of% @Nat.le_trans := @Nat.le_trans
theorem oW:type_of% @Nat.lt_of_lt_of_le := @Nat.lt_of_lt_of_le
theorem AB:type_of% @Nat.lt_or_ge := @Nat.lt_or_ge
theorem DJ:type_of% @Nat.min_eq_left := @Nat.min_eq_left
theorem cS:type_of% @Nat.mul_assoc := @Nat.mul_assoc
theorem fE:type_of% @Nat.mul_le_mul := @Nat.mul_le_mul
theorem fQ:type_of% @Nat.mul_le_mul_right := @Nat.mul_le_mul_right
theorem GB:type_of% @Nat.mul_one := @Nat.mul_one
theorem sY:type_of% @Nat.mul_pos := @Nat.mul_pos
theorem kO:type_of% @Nat.one_mul := @Nat.one_mul
theorem tA:type_of% @Nat.zero_add := @Nat.zero_add
theorem kM:type_of% @Nat.zero_le := @Nat.zero_le
theorem pS:type_of% @Option.some.inj := @Option.some.inj
theorem iJ:type_of% @Option.some.injEq := @Option.some.injEq
theorem kP:type_of% @Prod.mk.inj := @Prod.mk.inj
theorem tB:type_of% @Result.andThen_ok := @Result.andThen_ok
theorem rR:type_of% @Sem.run_bind := @Sem.run_bind
theorem dS:type_of% @beq_iff_eq := @beq_iff_eq
theorem rN:type_of% @bne_eq_false_iff_eq := @bne_eq_false_iff_eq
theorem nZ:type_of% @bne_iff_ne := @bne_iff_ne
theorem DG:type_of% @bne_self_eq_false := @bne_self_eq_false
theorem jR:type_of% @decide_eq_false := @decide_eq_false
theorem eZ:type_of% @decide_eq_false_iff_not := @decide_eq_false_iff_not
theorem aG:type_of% @decide_eq_true := @decide_eq_true
theorem aT:type_of% @decide_eq_true_eq := @decide_eq_true_eq
theorem cN:type_of% @if_false := @if_false
theorem aA:type_of% @if_neg := @if_neg
theorem aB:type_of% @if_pos := @if_pos
theorem bS:type_of% @if_true := @if_true
theorem gI:type_of% @not_or := @not_or
theorem bP:type_of% @run_underlying := @run_underlying
structure Blk where
 cells:List Value
 es:Nat
 exact:Bool
 alive:Bool
abbrev aE:=List Blk
abbrev aJ:=Nat->Value
def UM (t:aJ)(d:Nat)(v:Value):aJ:=fun i=>if i=d then v else t i
theorem QC (t:aJ)(d:Nat)(v:Value):UM t d v d=v:=aB rfl
theorem L4 (t:aJ)(d i:Nat)(v:Value)(h:i≠d):UM t d v i=t i:=aA h
def C6 (t:aJ):Option Tmp->Value->aJ
 | some d,v=>UM t d v
 | none,_=>t
def eval (t:aJ):Operand->Value
 | .tmp i=>t i
 | .const v=>v
 | .global g => .pointer (some ⟨g,0,none⟩)
 | .func f => .func (.func f) #[] #[]
inductive ATy
 | one
 | str
 | slice (elem:TypeId) (es eb:Nat)
 | array (n:Nat) (elem:TypeId) (es sz:Nat)
 | struct (sz:Nat) (fields:List (Nat×Nat×Option Bool))
 | other
def aJi:TypeDesc->Bool
 | .struct _ | .array _ _=>true
 | _=>false
def CN (P:Program)(t:TypeId):Bool:=(P.underlying t).any aJi
def aFd (P:Program)(t:TypeId):Option Bool:=(P.underlying t).map aJi
def aTy (P:Program)(t:TypeId):ATy :=
 match P.info? t,P.underlying t with
 | some i,some d =>
   match d with
   | .string => .str
   | .slice e=>match P.info? e with
     | some j=>if j.size=0 then .other else .slice e j.size j.bytes
     | none => .other
   | .array n e=>match P.info? e with
     | some j=>if j.size=0 then .other else .array n e j.size i.size
     | none => .other
   | .struct fs=>if fs.toList.all (fun f=>(P.info? f.type).isSome)then .struct i.size (fs.toList.map fun f=>(f.offset,P.cellsOf f.type,aFd P f.type))else .other
   | .interface _ => .other
   | .tuple _ => .other
   | .named _ _ => .other
   | _ => .one
 | _,_ => .other
def nL:Value->Bool
 | .bool _ | .int .. | .float .. | .complex .. | .string _ | .nilFunc | .nilIface=>true
 | .pointer none=>true
 | .slice none _ _=>true
 | _=>false
def qM (P:Program)(t:TypeId):Option (List Value) :=
 match (P.info? t).bind (·.zero)with
 | some z=>if z.cells.toList.all nL then some z.cells.toList else none
 | none=>none
inductive JE
 | value (v:Value)
 | skip
 | enter (f:FuncId) (args:Array Value)
def setCells:List Value->Nat->List Value->List Value
 | cs,_,[]=>cs
 | cs,i,v::vs=>setCells (cs.set i v) (i+1) vs
def P2 (place:Nat->Option (Nat×Nat)):List Value->List (Nat×Value)->Option (List Value)
 | cs,[]=>some cs
 | cs,(i,v)::rest =>
   match place i with
   | none=>none
   | some (off,size) =>
     if v.cells.size=size/\off+size<=cs.length then P2 place (setCells cs off v.cells.toList) rest else none
def wF (z:List Value)(n:Nat):List Value:=(List.range n).map fun i=>z[i%z.length]!
def blk? (H:aE)(b:Nat):Option Blk :=
 match H[b]? with
 | some B=>if B.alive then some B else none
 | none=>none
def F5:Value->Bool
 | .tuple _=>true
 | _=>false
def aMM:Value := .tuple #[]
def tF (H:aE)(p:Addr)(n:Nat):Option (List Value) :=
 match blk? H p.block with
 | some B=>if p.off+n<=B.cells.length/\((B.cells.drop p.off).take n).all (fun v => !F5 v)=true then some ((B.cells.drop p.off).take n)else none
 | none=>none
def aA2 (H:aE)(p:Addr):Option Value :=
 match blk? H p.block with
 | some B=>match B.cells[p.off]? with
   | some v=>if F5 v then none else some v
   | none=>none
 | none=>none
def Q5 (P:Program)(t:TypeId)(H:aE)(p:Addr):Option Value :=
 match aTy P t with
 | .struct sz _ | .array _ _ _ sz=>(tF H p sz).map fun cs => .agg cs.toArray
 | .other=>none
 | _=>aA2 H p
def storeAt (fl:Nat)(H:aE)(p:Addr)(vs:List Value):Option aE :=
 match vs with
 | []=>some H
 | vs =>
   match blk? H p.block with
   | some B =>
     if fl<=p.block/\p.off+vs.length<=B.cells.length/\vs.all Value.oneCell' then
      some (H.set p.block { B with cells:=setCells B.cells p.off vs })
     else none
   | none=>none
def XB (P:Program)(t:TypeId):Option Nat :=
 match aTy P t with
 | .other=>none
 | _=>some (P.cellsOf t)
def OB (P:Program)(fl:Nat)(t:TypeId)(H:aE)(p:Addr)(v:Value):Option aE :=
 if XB P t=some v.cells.size then storeAt fl H p v.cells.toList else none
def O3 (isAgg:Option Bool)(cs:Array Value)(off size:Nat):Option Value :=
 match isAgg with
 | some true=>some (.agg (cs.extract off (off+size)))
 | some false=>cs[off]?
 | none=>none
def FQ (op:BinOp)(x y:Value):Option Value :=
 match op,x,y with
 | .shl,.int k a,.int _ b=>if b<0 then none else some (.int k (k.wrap (a*2 ^ (min b.toNat k.bits))))
 | .shr,.int k a,.int _ b=>if b<0 then none else some (.int k (a.fdiv (2 ^ (min b.toNat k.bits))))
 | op,.int k a,.int k' b =>
   if k≠k' then none else
   match op with
   | .add=>some (.int k (k.wrap (a+b)))
   | .sub=>some (.int k (k.wrap (a-b)))
   | .mul=>some (.int k (k.wrap (a*b)))
   | .quo=>if b=0 then none else some (.int k (k.wrap (a.tdiv b)))
   | .rem=>if b=0 then none else some (.int k (a.tmod b))
   | .and=>some (.int k (k.wrap (BitVec.ofInt k.bits a &&& BitVec.ofInt k.bits b).toNat))
   | .or=>some (.int k (k.wrap (BitVec.ofInt k.bits a ||| BitVec.ofInt k.bits b).toNat))
   | .xor=>some (.int k (k.wrap (BitVec.ofInt k.bits a ^^^ BitVec.ofInt k.bits b).toNat))
   | .andNot=>some (.int k (k.wrap (BitVec.ofInt k.bits a &&& ~~~ BitVec.ofInt k.bits b).toNat))
   | .eql=>some (.bool (a==b))
   | .neq=>some (.bool (a != b))
   | .lss=>some (.bool (decide (a<b)))
   | .leq=>some (.bool (decide (a<=b)))
   | .gtr=>some (.bool (decide (b<a)))
   | .geq=>some (.bool (decide (b<=a)))
   | _=>none
 | .eql,.bool a,.bool b=>some (.bool (a==b))
 | .neq,.bool a,.bool b=>some (.bool (a != b))
 | op,.string a,.string b =>
   match op with
   | .add=>if a.size+b.size<=2 ^ 60 then some (.string (a++b))else none
   | .eql=>some (.bool (a.toList==b.toList))
   | .neq=>some (.bool (!(a.toList==b.toList)))
   | .lss=>some (.bool (Op.bytesLess a.toList b.toList))
   | .leq=>some (.bool (Op.bytesLess a.toList b.toList||a.toList==b.toList))
   | .gtr=>some (.bool (!(Op.bytesLess a.toList b.toList||a.toList==b.toList)))
   | .geq=>some (.bool (!Op.bytesLess a.toList b.toList))
   | _=>none
 | _,_,_=>none
def aUn (op:UnOp)(x:Value):Option Value :=
 match op,x with
 | .neg,.int k n=>some (.int k (k.wrap (0-n)))
 | .xor,.int k n=>some (.int k (k.wrap (BitVec.ofInt k.bits (if k.signed then -1 else k.max) ^^^ BitVec.ofInt k.bits n).toNat))
 | .not,.bool b=>some (.bool (!b))
 | _,_=>none
def tS (x:Value)(y:Nat):Option Nat :=
 match x with
 | .int _ i=>if 0<=i/\i<=y then some i.toNat else none
 | _=>none
def q5 (len cap:Nat)(low high mx:Option Value):Option (Nat×Nat×Nat):=do
 let m <- match mx with
  | some v=>tS v cap
  | none=>some cap
 let h <- match high,mx with
  | some v,some _=>tS v m
  | some v,none=>tS v m
  | none,none=>some len
  | none,some _=>none
 let l <- match low with
  | some v=>tS v h
  | none=>some 0
 some (l,h,m)
def ON (P:Program)(t:TypeId)(x:Value)(low high mx:Option Value)(H:aE):Option Value :=
 match aTy P t,x with
 | .str,.string s =>
   if mx.isSome then none else
   match q5 s.size s.size low high none with
   | some (l,h,_)=>some (.string (s.extract l h))
   | none=>none
 | .slice _ _ _,.slice none len cap =>
   match q5 len cap low high mx with
   | some (l,h,m)=>some (.slice none (h-l) (m-l))
   | none=>none
 | .slice _ es _,.slice (some a) len cap =>
   match q5 len cap low high mx,H[a.block]? with
   | some (l,h,m),some B =>
     if B.exact then some (.slice (some (if m=l then a else a.add (l*es))) (h-l) (m-l))
     else if B.es=es then some (.slice (some (a.add (l*es))) (h-l) (m-l))else none
   | _,_=>none
 | .array n _ es _,.pointer (some a) =>
   match q5 n n low high mx,H[a.block]? with
   | some (l,h,m),some B=>if B.exact then some (.slice (some (if m=l then a else a.add (l*es))) (h-l) (m-l))else none
   | _,_=>none
 | _,_=>none
def xC (P:Program)(t:TypeId)(x ix:Value):Option Value :=
 match aTy P t,x,ix with
 | .slice _ es _,.slice (some a) len _,.int _ i=>if 0<=i/\i<len then some (.pointer (some (a.add (i.toNat*es))))else none
 | .array n _ es _,.pointer (some a),.int _ i=>if 0<=i/\i<n then some (.pointer (some (a.add (i.toNat*es))))else none
 | _,_,_=>none
def OH (P:Program)(t:TypeId)(x ix:Value):Option Value :=
 match aTy P t,x,ix with
 | .array n e es _,.agg cs,.int _ i=>if 0<=i/\i<n then O3 (aFd P e) cs (i.toNat*es) es else none
 | .str,.string s,.int _ i=>if 0<=i then(s[i.toNat]?).map fun b => .int .u8 b.toNat else none
 | _,_,_=>none
def WL (P:Program)(t:TypeId)(x:Value)(f:Nat):Option Value :=
 match aTy P t,x with
 | .struct _ fs,.agg cs=>match fs[f]? with
   | some (off,size,agg)=>if size=0 then none else O3 agg cs off size
   | none=>none
 | _,_=>none
def EZ (P:Program)(t:TypeId)(x:Value)(f:Nat):Option Value :=
 match aTy P t,x with
 | .struct _ fs,.pointer (some a)=>match fs[f]? with
   | some (off,size,_)=>if size=0 then none else some (.pointer (some (a.add off)))
   | none=>none
 | _,_=>none
def ZO (P:Program)(t:TypeId)(x:Value):Option Value :=
 match aTy P t,x with
 | .array n _ _ _,.slice (some a) len _=>if 0<n/\n<=len then some (.pointer (some a))else none
 | _,_=>none
def rH (H:aE)(es n:Nat):Value->Option (List Value)
 | .slice (some a) _ _=>if n*es=0 then some []else tF H a (n*es)
 | .slice none _ _=>if n=0 then some []else none
 | .string s=>if es=1 then some ((s.extract 0 n).data.toList.map fun b => .int .u8 b.toNat)else none
 | _=>none
def aHY:Value->Option Nat
 | .slice _ n _=>some n
 | .string s=>some s.size
 | _=>none
def eS:Value->List Nat
 | .pointer (some a)=>[a.block]
 | .slice (some a) _ _=>[a.block]
 | _=>[]
def MQ (fl:Nat)(H:aE)(es:Nat):Option Addr->Option aE
 | none=>some H
 | some a =>
   match H[a.block]? with
   | some B =>
     if B.exact then some H
     else if B.es=es/\B.alive=true/\fl<=a.block then some (H.set a.block { B with alive:=false })else none
   | none=>none
def wJ (P:Program)(fl:Nat)(e es eb:Nat)(base:Option Addr)(n c m:Nat)(x:Value)(H:aE):Option (Value×aE) :=
 match rH H es m x with
 | some new =>
   if n+m<=c then
    match base with
    | some a=>match storeAt fl H (a.add (n*es)) new with
      | some H'=>some (.slice (some a) (n+m) c,H')
      | none=>none
    | none=>some (.slice none (n+m) c,H)
   else if (n+m)*eb<=2 ^ 47/\n+m<=2 ^ 47/\new.all Value.oneCell'=true/\(qM P e).map List.length=some es then
    match rH H es n (.slice base n c),MQ fl H es base with
    | some old,some H'=>some (.slice (some ⟨H'.length,0,none⟩) (n+m) (n+m),H'++[⟨old++new,es,false,true⟩])
    | _,_=>none
   else none
 | none=>none
def DR (P:Program)(fl:Nat)(argTypes:Array TypeId)(args:Array Value)(H:aE):Option (Value×aE) :=
 match argTypes[0]?,argTypes[1]?,args[0]?,args[1]? with
 | some st,some xt,some (Value.slice base n c),some x =>
   match aTy P st,aTy P xt,aHY x with
   | .slice e es eb,.slice _ _ _,some m=>wJ P fl e es eb base n c m x H
   | .slice e es eb,.str,some m=>wJ P fl e es eb base n c m x H
   | _,_,_=>none
 | _,_,_,_=>none
def ZQ (P:Program)(fl:Nat)(argTypes:Array TypeId)(args:Array Value)(H:aE):Option (Value×aE) :=
 match argTypes[0]?,args[0]?,args[1]? with
 | some dt,some (Value.slice base n _),some x =>
   match aTy P dt,aHY x with
   | .slice _ es _,some m =>
     match rH H es (Nat.min m n) x with
     | some cells =>
       match base with
       | some a=>match storeAt fl H a cells with
         | some H'=>some (.int .i64 (Nat.min m n),H')
         | none=>none
       | none=>some (.int .i64 (Nat.min m n),H)
     | none=>none
   | _,_=>none
 | _,_,_=>none
def S5 (P:Program)(argTypes:Array TypeId)(args:Array Value):Option Value :=
 match argTypes[0]?,args[0]? with
 | some t,some x =>
   match aTy P t,x with
   | .str,.string s=>some (.int .i64 s.size)
   | .array n _ _ _,_=>some (.int .i64 n)
   | .slice _ _ _,.slice _ n _=>some (.int .i64 n)
   | _,_=>none
 | _,_=>none
def aE8:Value->Value->Option Value
 | .int k x,.int _ y=>some (.int k (if y>x then y else x))
 | _,_=>none
def aEn:Value->Value->Option Value
 | .int k x,.int _ y=>some (.int k (if y<x then y else x))
 | _,_=>none
def UC (f:Value->Value->Option Value):Value->List Value->Option Value
 | x,[]=>some x
 | x,y::l=>match f x y with
   | some z=>UC f z l
   | none=>none
def uN:List Value->Option (List UInt8)
 | []=>some []
 | .int .u8 z::l=>(uN l).map (UInt8.ofNat z.toNat :: ·)
 | _::_=>none
def JB (P:Program)(s d:TypeId)(x:Value)(H:aE):Option (Value×aE) :=
 match P.underlying s,P.underlying d,x with
 | some _,some (.int k),.int _ n=>some (.int k (k.wrap n),H)
 | some _,some .string,.string b=>some (.string b,H)
 | some _,some (.float k),.int _ n=>some (.float k (floatOfInt k n),H)
 | some _,some (.int k),.float s b=>match floatToIntVal s b k with
   | some n=>some (.int k n,H)
   | none=>none
 | some .string,some (.slice e),.string b =>
   match P.underlying e with
   | some (.int .u8) =>
     if b.size<=2 ^ 60 then
      some (.slice (some ⟨H.length,0,none⟩) b.size b.size,H++[⟨b.data.toList.map fun c => .int .u8 c.toNat,1,false,true⟩])
     else none
   | _=>none
 | some (.slice e),some .string,.slice a n _ =>
   match P.underlying e,a with
   | some (.int .u8),none=>some (.string .empty,H)
   | some (.int .u8),some a =>
     if n=0 then some (.string .empty,H)else
     match tF H a n with
     | some cs =>
       match uN cs with
       | some l=>some (.string ⟨l.toArray⟩,H)
       | none=>none
     | none=>none
   | _,_=>none
 | _,_,_=>none
def SO (P:Program)(f:FuncId):Bool :=
 match P.funcs[f]? with
 | some fn=>fn.name != "runtime.NumGoroutine" && fn.body.isSome
 | none=>false
def vW (P:Program)(fl:Nat)(c:Call)(ev:Operand->Value)(H:aE):Option (JE×aE) :=
 match c.callee with
 | .value f =>
   match ev f with
   | .func (.func g) first captured=>if SO P g then some (.enter g (first++c.args.map ev++captured),H)else none
   | _=>none
 | .builtin b =>
   match b with
   | .len=>(S5 P c.argTypes (c.args.map ev)).map fun v=>(.value v,H)
   | .append=>(DR P fl c.argTypes (c.args.map ev) H).map fun r=>(.value r.1,r.2)
   | .copy=>(ZQ P fl c.argTypes (c.args.map ev) H).map fun r=>(.value r.1,r.2)
   | .max=>match (c.args.map ev).toList with
     | x::l=>(UC aE8 x l).map fun v=>(.value v,H)
     | []=>none
   | .min=>match (c.args.map ev).toList with
     | x::l=>(UC aEn x l).map fun v=>(.value v,H)
     | []=>none
   | .complex=>match (c.args.map ev).toList with
     | [.float k a,.float k' b]=>if k=k' then some (.value (.complex k a b),H)else none
     | _=>none
   | .real=>match (c.args.map ev).toList with
     | [.complex k a _]=>some (.value (.float k a),H)
     | _=>none
   | .imag=>match (c.args.map ev).toList with
     | [.complex k _ b]=>some (.value (.float k b),H)
     | _=>none
   | _=>none
 | _=>none
def MW (P:Program)(t:TypeId)(mZ:Bool)(x y:Value):Option Bool :=
 match P.underlying t with
 | some (.pointer _)=>match x,y with
   | .pointer none,.pointer b=>some b.isNone
   | .pointer (some _),.pointer none=>some false
   | _,_=>none
 | some (.slice _)=>match x,y with
   | .slice none _ _,.slice b _ _=>some b.isNone
   | .slice (some _) _ _,.slice none _ _=>some false
   | _,_=>none
 | some (.func _ _ _)=>match x,y with
   | .nilFunc,.nilFunc=>some true
   | .nilFunc,.func .. => some false
   | .func ..,.nilFunc=>some false
   | _,_=>none
 | some (.interface _)=>match x,y with
   | .nilIface,.nilIface=>if mZ then some true else none
   | .nilIface,.iface .. => some false
   | .iface ..,.nilIface=>some false
   | _,_=>none
 | _=>none
def mZ:Operand->Bool
 | .const _=>true
 | _=>false
def WK (P:Program)(t:TypeId)(x:Value):Bool :=
 match x with
 | .bool _=>match P.underlying t with
   | some .bool=>true
   | _=>false
 | _=>true
def aFT (P:Program)(op:BinOp)(t:TypeId)(c:Bool)(x y:Value):Option Value :=
 match op with
 | .eql=>(MW P t c x y).map .bool
 | .neq=>(MW P t c x y).map fun b => .bool (!b)
 | _=>none
def aFl (op:BinOp)(x y:Value):Option Value :=
 match op,x,y with
 | .eql,.float k a,.float k' b=>if k=k' then some (.bool (k.format.order a b==some .eq))else none
 | .leq,.float k a,.float k' b=>if k=k' then some (.bool (k.format.order a b==some .lt||k.format.order a b==some .eq))else none
 | .geq,.float k a,.float k' b=>if k=k' then some (.bool (k.format.order a b==some .gt||k.format.order a b==some .eq))else none
 | .add,.complex k a b,.complex k' c d=>if k=k' then(cSumBits .add k a b c d).map fun r => .complex k r.1 r.2 else none
 | .sub,.complex k a b,.complex k' c d=>if k=k' then(cSumBits .sub k a b c d).map fun r => .complex k r.1 r.2 else none
 | .mul,.complex .f64 a b,.complex .f64 c d=>(cMulBits a b c d).map fun r => .complex .f64 r.1 r.2
 | _,_,_=>none
def VR (d:Option TypeDesc)(x y:Value):Option Bool :=
 match d,x,y with
 | some (.int _),.int k a,.int k' b=>if k=k' then some (a==b)else none
 | some .bool,.bool a,.bool b=>some (a==b)
 | _,_,_=>none
def aER (P:Program)(t:TypeId):Option (List (TypeId×Nat)) :=
 match P.underlying t with
 | some (.struct fs)=>if P.stoodInHeld t||fs.toList.any (fun f=>f.name == "_")then none else some (fs.toList.map fun f=>(f.type,f.offset))
 | some (.array n e)=>if P.cellsOf e=1 then some ((List.range n).map fun i=>(e,i))else none
 | _=>none
def A1 (P:Program):List (TypeId×Nat)->List Value->List Value->Option Bool
 | [],_,_=>some true
 | (t,o)::r,xs,ys=>match xs[o]?,ys[o]? with
   | some x,some y=>match VR (P.underlying t) x y,A1 P r xs ys with
     | some b,some b'=>some (b&&b')
     | _,_=>none
   | _,_=>none
def Q6 (P:Program)(t:TypeId)(x y:Value):Option Bool :=
 match x,y,aER P t with
 | .agg xs,.agg ys,some l=>if P.eqGuardType P.depth t=true\/(P.info? t).isSome=false then none else A1 P l xs.toList ys.toList
 | _,_,_=>none
def eqA (P:Program)(op:BinOp)(t:TypeId)(x y:Value):Option Value :=
 match op with
 | .eql=>(Q6 P t x y).map Value.bool
 | .neq=>(Q6 P t x y).map fun b=>Value.bool (!b)
 | _=>none
def PC (P:Program)(op:BinOp)(t:TypeId)(c:Bool)(x y:Value):Option Value :=
 match FQ op x y with
 | some v=>if WK P t x then some v else none
 | none=>match aFT P op t c x y with
   | some v=>some v
   | none=>match aFl op x y with
     | some v=>some v
     | none=>eqA P op t x y
def bX (P:Program)(fl:Nat)(op:Op)(ev:Operand->Value)(H:aE):Option (JE×aE) :=
 match op with
 | .move x | .assign x=>some (.value (ev x),H)
 | .pick c a b=>match ev c with
   | .bool d=>some (.value (if d then ev a else ev b),H)
   | _=>none
 | .alloc t=>match qM P t with
   | some cs=>some (.value (.pointer (some ⟨H.length,0,none⟩)),H++[⟨cs,0,true,true⟩])
   | none=>none
 | .box _ x=>some (.value (.pointer (some ⟨H.length,0,none⟩)),H++[⟨(ev x).cells.toList,0,true,true⟩])
 | .build t parts=>match aTy P t,qM P t with
   | .struct _ fs,some z=>match P2 (fun i=>(fs[i]?).map fun f=>(f.1,f.2.1)) z (parts.toList.map fun p=>(p.1,ev p.2))with
     | some cs=>some (.value (.agg cs.toArray),H)
     | none=>none
   | .array _ _ es _,some z=>match P2 (fun i=>some (i*es,es)) z (parts.toList.map fun p=>(p.1,ev p.2))with
     | some cs=>some (.value (.agg cs.toArray),H)
     | none=>none
   | _,_=>none
 | .buildSlice t len parts=>match aTy P t with
   | .slice e es _ =>
     if len*es<=2 ^ 20 then
      match qM P e with
      | some z=>match P2 (fun i=>some (i*es,es)) (wF z (len*es)) (parts.toList.map fun p=>(p.1,ev p.2))with
        | some cs=>some (.value (.slice (some ⟨H.length,0,none⟩) len len),H++[⟨cs,es,true,true⟩])
        | none=>none
      | none=>none
     else none
   | _=>none
 | .load t a=>match ev a with
   | .pointer (some p)=>(Q5 P t H p).map fun v=>(.value v,H)
   | _=>none
 | .store t a x=>match ev a with
   | .pointer (some p)=>(OB P fl t H p (ev x)).map fun H'=>(.skip,H')
   | _=>none
 | .nilCheck x=>match ev x with
   | .pointer (some a)=>some (.value (.pointer (some a)),H)
   | .func (.func f) a b=>some (.value (.func (.func f) a b),H)
   | _=>none
 | .binOp op t x y _=>(PC P op t (mZ x||mZ y) (ev x) (ev y)).map fun v=>(.value v,H)
 | .unOp op _ x=>(aUn op (ev x)).map fun v=>(.value v,H)
 | .convert s d x=>(JB P s d (ev x) H).map fun r=>(.value r.1,r.2)
 | .makeFunc fn first captured=>some (.value (.func fn (first.map ev) (captured.map ev)),H)
 | .makeSlice t l c=>match aTy P t,ev l,ev c with
   | .slice e es eb,.int _ l,.int _ c =>
     if 0<=l/\l<=c/\c<=2 ^ 46/\eb*c<=2 ^ 46 then
      match qM P e with
      | some z=>some (.value (.slice (some ⟨H.length,0,none⟩) l.toNat c.toNat),H++[⟨wF z (c.toNat*es),es,true,true⟩])
      | none=>none
     else none
   | _,_,_=>none
 | .slice t x lo hi mx=>(ON P t (ev x) (lo.map ev) (hi.map ev) (mx.map ev) H).map fun v=>(.value v,H)
 | .fieldAddr s x f=>(EZ P s (ev x) f).map fun v=>(.value v,H)
 | .field t x f=>(WL P t (ev x) f).map fun v=>(.value v,H)
 | .indexAddr t x ix=>(xC P t (ev x) (ev ix)).map fun v=>(.value v,H)
 | .index t x ix=>(OH P t (ev x) (ev ix)).map fun v=>(.value v,H)
 | .extract x i=>match ev x with
   | .tuple vs=>(vs[i]?).map fun v=>(.value v,H)
   | _=>none
 | .sliceToArrayPointer t x=>(ZO P t (ev x)).map fun v=>(.value v,H)
 | .makeInterface t x=>match P.underlying t with
   | some (.interface _)=>none
   | some _=>some (.value (.iface t (ev x)),H)
   | none=>none
 | .call c=>vW P fl c ev H
 | _=>none
def pI (op:Op)(ev:Operand->Value):List Nat :=
 match op with
 | .load _ a=>eS (ev a)
 | .store _ a _=>eS (ev a)
 | .convert _ _ x=>eS (ev x)
 | .call c=>match c.callee with
   | .builtin .append | .builtin .copy=>(c.args.map ev).toList.flatMap eS
   | _=>[]
 | _=>[]
def xY (op:Op)(ev:Operand->Value):List Nat :=
 match op with
 | .store _ a _=>eS (ev a)
 | .call c=>match c.callee with
   | .builtin .append | .builtin .copy=>(c.args.map ev)[0]?.elim [] eS
   | _=>[]
 | _=>[]
end Go.Mach
