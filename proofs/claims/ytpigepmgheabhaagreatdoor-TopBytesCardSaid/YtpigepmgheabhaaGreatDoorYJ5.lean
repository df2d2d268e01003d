/- Part of the proof. No condition. -/
import Derived.Test.YtpigepmgheabhaaGreatDoorYJ4
namespace Go.Mach.J
open Go Go.Mach
abbrev KC:=Nat->FuncId->List Value->HT->(Value->HT->Prop)->Prop
abbrev F:=KC->Nat->Nat->TT->HT->(Value->HT->Prop)->Prop
def jX (p:Addr)(k:Nat->Nat->Prop):Prop:=Addr.rec (motive:=fun _=>Prop) (fun b o _=>k b o) p
def cellsOf (v:Value)(k:List Value->Prop):Prop:=aEi v (fun a=>Array.rec (motive:=fun _=>Prop) k a) (k [v])
def aAJ (l:List Value)(m:List Value)(k:List Value->Prop):Prop :=
 List.rec (motive:=fun _=>(List Value->Prop)->Prop) (fun k=>k m) (fun v _ ih k=>ih fun r=>k (v::r)) l k
def rdL (gs:List KG)(T:TT)(k:List Value->Prop):Prop :=
 List.rec (motive:=fun _=>(List Value->Prop)->Prop) (fun k=>k []) (fun g _ ih k=>rd g T fun v=>ih fun l=>k (v::l)) gs k
def rdO (o:Option KG)(T:TT)(k:Option Value->Prop):Prop:=fN o (k none) fun g=>rd g T fun v=>k (some v)
def Y3 (a:Addr)(n:Nat)(k:Addr->Prop):Prop :=
 Nat.rec (motive:=fun _=>Prop) (k a) (fun m _=>jX a fun b o=>cG (o+Nat.succ m) fun o=>k ⟨b,o,none⟩) n
def pU:F:=fun _ _ _ _ _ _=>False
def aCC (x:KG):F:=fun _ _ _ T H k=>rd x T fun v=>k v H
def aE7 (c a b:KG):F:=fun _ _ _ T H k=>rd c T fun d=>JH d fun d=>ifB d (rd a T fun v=>k v H) (rd b T fun v=>k v H)
def u5 (g:Value->Option Value)(x:KG):F:=fun _ _ _ T H k=>rd x T fun v=>sE (g v) fun v=>k v H
def aBD (g:Value->Value->Option Value)(x y:KG):F:=fun _ _ _ T H k=>rd x T fun v=>rd y T fun w=>sE (g v w) fun v=>k v H
def aFk (P:Program)(op:BinOp)(t:TypeId)(c:Bool)(a b:Value)(k:Value->Prop)(e:Prop):Prop :=
 oS a (fun i m=>oS b (fun j n=>arK op i m j n k e) e) e
def aG6 (P:Program)(op:BinOp)(t:TypeId)(c:Bool)(x y:KG):F :=
 fun _ _ _ T H k=>rd x T fun a=>rd y T fun b=>aFk P op t c a b (fun v=>k v H) (sE (nM P op t c a b) fun v=>k v H)
def aEX (i:IntKind)(x:KG):F:=fun _ _ _ T H k=>rd x T fun v=>oS v (fun _ n=>wL i n fun n=>k (.int i n) H) False
def aFD (n:Int):Nat:=Int.toNat (Int.emod n 18446744073709551616)
def aAb (x:KG):F:=fun _ _ _ T H k=>rd x T fun v=>oS v (fun _ n=>k (.int .u64 (.ofNat (aFD n))) H) False
def aEW (x:KG):F:=fun _ _ _ T H k=>rd x T fun v=>oS v (fun i n=>nS i .u64
 (Int.rec (motive:=fun _=>Prop) (fun _=>k (.int .u64 (.ofNat 0)) H/\k (.int .u64 (.ofNat 1)) H/\k (.int .u64 (.ofNat 2)) H) (fun _=>False) n) False) False
def oK (vs:List Value)(es:Nat)(ex:Bool)(H:HT)(k:Nat->HT->Prop):Prop:=aBa vs es ex fun B=>LL H B k
def aBy (z:Option (List Value)):F:=fun _ _ _ _ H k=>fN z False fun z=>o6 z fun z=>oK z 0 true H fun b H=>k (.pointer (some ⟨b,0,none⟩)) H
def aHe (x:KG):F:=fun _ _ _ T H k=>rd x T fun v=>cellsOf v fun l=>oK l 0 true H fun b H=>k (.pointer (some ⟨b,0,none⟩)) H
def rep (vs:List Value)(l:List Value)(k:List Value->Prop):Prop :=
 List.rec (motive:=fun _=>List Value->(List Value->Prop)->Prop) (fun l k=>k l)
  (fun v _ ih l k=>List.rec (motive:=fun _=>Prop) False (fun _ l _=>ih l fun r=>k (v::r)) l) vs l k
def spl (n:Nat)(vs:List Value)(l:List Value)(k:List Value->Prop):Prop :=
 Nat.rec (motive:=fun _=>List Value->(List Value->Prop)->Prop) (fun l k=>rep vs l k)
  (fun _ ih l k=>List.rec (motive:=fun _=>Prop) False (fun x l _=>ih l fun r=>k (x::r)) l) n l k
inductive KP|nil|cons (off size:Nat)(g:KG)(r:KP)
def u7 (place:Nat->Option (Nat×Nat)):List (Nat×Operand)->Option KP
 | []=>some .nil
 | (i,x)::r=>match place i with
   | some (off,size)=>(u7 place r).map fun r => .cons off size (cg x) r
   | none=>none
def uK (T:TT)(ps:KP)(l:List Value)(k:List Value->Prop):Prop :=
 KP.rec (motive:=fun _=>List Value->Prop) (fun l=>k l)
   (fun off size g _ ih l=>rd g T fun v=>cellsOf v fun vs=>chk (Nat.beq vs.length size) (spl off vs l ih)) ps l
def U7 (z:Option (List Value))(ps:Option KP):F:=fun _ _ _ T H k=>fN z False fun z=>fN ps False fun ps=>o6 z fun z=>uK T ps z fun l=>k (.agg ⟨l⟩) H
def FM (z:Option (List Value))(ps:Option KP)(len es:Nat):F:=fun _ _ _ T H k=>chk (Nat.ble (len*es) 1048576) (fN z False fun z=>fN ps False fun ps =>
 o6 (dW z (len*es)) fun z=>uK T ps z fun l=>oK l es true H fun b H=>k (.slice (some ⟨b,0,none⟩) len len) H)
def aBL (a:KG):F:=fun _ _ _ T H k=>rd a T fun v=>wD v fun p=>jX p fun b o=>vU H b fun B=>RH B o fun v=>k v H
def VB (sz:Nat)(a:KG):F:=fun _ _ _ T H k=>rd a T fun v=>wD v fun p=>jX p fun b o=>vU H b fun B=>wI B o sz fun l=>k (.agg ⟨l⟩) H
def stK (fl:Nat)(H:HT)(p:Addr)(vs:List Value)(k:HT->Prop):Prop :=
 List.rec (motive:=fun _=>Prop) (k H) (fun _ _ _=>jX p fun b o=>chk (Nat.ble fl b) (vU H b fun B=>aBX B o vs fun B=>vF H b (some B) k)) vs
def aB0 (n:Option Nat)(a x:KG):F:=fun _ fl _ T H k=>fN n False fun n=>rd a T fun v=>rd x T fun x=>wD v fun p=>cellsOf x fun vs=>chk (Nat.beq n vs.length) (stK fl H p vs fun H=>k undef H)
def aEc:Value->Option Value
 | .pointer (some a)=>some (.pointer (some a))
 | .func (.func f) a b=>some (.func (.func f) a b)
 | _=>none
def NL (fn:Fn)(first captured:List KG):F:=fun _ _ _ T H k=>rdL first T fun l=>rdL captured T fun m=>k (.func fn ⟨l⟩ ⟨m⟩) H
def O6:Value->Value->Bool
 | .int i (.ofNat 0),.int j (.ofNat 0)=>Nat.beq (kn i) (kn j)
 | _,_=>false
def aBO:List Value->Option Value
 | []=>none
 | v::r=>if r.all (O6 v)then some v else none
def KK (z:Option (List Value))(es eb:Nat)(l c:KG):F:=fun _ _ _ T H k=>fN z False fun z=>rd l T fun l=>rd c T fun c =>
 oS l (fun _ l=>oS c (fun _ c=>QO l c (fun l c=>chk (Nat.ble l c&&Nat.ble c 70368744177664&&Nat.ble (eb*c) 70368744177664)
  (fN (aBO z) (o6 (dW z (c*es)) fun z=>oK z es true H fun b H=>k (.slice (some ⟨b,0,none⟩) l c) H)
   fun v=>chk (Nat.ble (c*es) big) (aA0 v (cG (c*es) fun n=>LL H ⟨.c v,n,es,true⟩ fun b H=>k (.slice (some ⟨b,0,none⟩) l c) H)))) False) False) False
def sliceB (P:Program)(t:TypeId)(x:Value)(low high mx:Option Value)(st:Option (Bool×Nat)):Option Value :=
 match aTy P t,x with
 | .str,.string s =>
   if mx.isSome then none else
   match eW s.size s.size low high none with
   | some (l,h,_)=>some (.string (s.extract l h))
   | none=>none
 | .slice _ _ _,.slice none len cap =>
   match eW len cap low high mx with
   | some (l,h,m)=>some (.slice none (h-l) (m-l))
   | none=>none
 | .slice _ es _,.slice (some a) len cap =>
   match eW len cap low high mx,st with
   | some (l,h,m),some (ex,bs) =>
     if ex then some (.slice (some (if m=l then a else a.add (l*es))) (h-l) (m-l))
     else if bs=es then some (.slice (some (a.add (l*es))) (h-l) (m-l))else none
   | _,_=>none
 | .array n _ es _,.pointer (some a) =>
   match eW n n low high mx,st with
   | some (l,h,m),some (ex,_)=>if ex then some (.slice (some (if m=l then a else a.add (l*es))) (h-l) (m-l))else none
   | _,_=>none
 | _,_=>none
def O0 (v:Value):Option Nat :=
 match v with
 | .pointer (some a)=>some a.block
 | .slice (some a) _ _=>some a.block
 | _=>none
def aB8 (P:Program)(t:TypeId)(x:KG)(lo hi mx:Option KG):F:=fun _ _ _ T H k=>rd x T fun x=>rdO lo T fun lo=>rdO hi T fun hi=>rdO mx T fun mx =>
 fN (O0 x) (sE (sliceB P t x lo hi mx none) fun v=>k v H) fun b=>vU H b fun B=>sE (sliceB P t x lo hi mx (some (B.exact,B.es))) fun v=>k v H
def kFA (off:Nat)(x:KG):F:=fun _ _ _ T H k=>rd x T fun v=>wD v fun a=>Y3 a off fun a=>k (.pointer (some a)) H
def aHm (es:Nat)(x ix:KG):F:=fun _ _ _ T H k=>rd x T fun v=>rd ix T fun i=>iI v (fun a len _=>fN a False fun a=>oS i (fun _ i =>
 Int.rec (motive:=fun _=>Prop) (fun i=>chk (Nat.blt i len) (Y3 a (Nat.mul i es) fun a=>k (.pointer (some a)) H)) (fun _=>False) i) False) False
def aGU (n es:Nat)(x ix:KG):F:=fun _ _ _ T H k=>rd x T fun v=>rd ix T fun i=>wD v fun a=>oS i (fun _ i =>
 Int.rec (motive:=fun _=>Prop) (fun i=>chk (Nat.blt i n) (Y3 a (Nat.mul i es) fun a=>k (.pointer (some a)) H)) (fun _=>False) i) False
def extA (i:Nat):Value->Option Value
 | .tuple vs=>vs[i]?
 | _=>none
def aHc (f:Fn)(k:FuncId->Prop):Prop:=Fn.rec (motive:=fun _=>Prop) k (fun _=>False) (fun _ _=>False) (fun _ _ _ _=>False) (fun _=>False) f
def arr (a:Array Value)(k:List Value->Prop):Prop:=Array.rec (motive:=fun _=>Prop) k a
def aE0 (P:Program)(f:KG)(args:List KG):F:=fun ck _ flc T H k=>rd f T fun v=>aBv v fun fn first cap=>aHc fn fun g=>chk (tC P g)
 (rdL args T fun l=>arr cap fun c=>aAJ l c fun l=>arr first fun f=>aAJ f l fun l=>ck flc g l H k)
def aE3 (x:KG):F:=fun _ _ _ T H k=>rd x T fun v=>iI v (fun _ n _=>k (.int .i64 (.ofNat n)) H) False
def XP (x y:Value)(k:Value->Prop):Prop:=oS x (fun i m=>oS y (fun _ n=>kLt m n (k (.int i n)) (k (.int i m))) False) False
def XF (x y:Value)(k:Value->Prop):Prop:=oS x (fun i m=>oS y (fun _ n=>kLt n m (k (.int i n)) (k (.int i m))) False) False
def aBt (f:Value->Value->(Value->Prop)->Prop)(l:List Value)(x:Value)(k:Value->Prop):Prop :=
 List.rec (motive:=fun _=>Value->Prop) (fun x=>k x) (fun y _ ih x=>f x y ih) l x
def YG (f:Value->Value->(Value->Prop)->Prop)(x:KG)(l:List KG):F:=fun _ _ _ T H k=>rd x T fun x=>rdL l T fun l=>aBt f l x fun v=>k v H
def aG9 (v:Value)(k:Nat->Prop):Prop:=iI v (fun _ n _=>k n) False
def AM (H:HT)(n:Nat)(v:Value)(k:List Value->Prop):Prop :=
 iI v (fun a _ _=>Nat.rec (motive:=fun _=>Prop) (k []) (fun _ _=>fN a False fun a=>jX a fun b o=>vU H b fun B=>wI B o n k) n) False
def aAn (fl:Nat)(H:HT)(es:Nat)(b:Nat)(B:KB)(k:HT->Prop):Prop :=
 ifB B.exact (k H) (chk (Nat.beq B.es es) (chk (Nat.ble fl b) (vF H b none k)))
def aAr (B:KB)(o n:Nat)(new:List Value)(es:Nat)(k:KB->Prop):Prop :=
 Nat.rec (motive:=fun _=>Prop)
  (KB.rec (motive:=fun _=>Prop) (fun t len _ _=>chk (Nat.ble n len&&Nat.blt (n+new.length) big) (R9 new (NK new n t fun t=>cG (n+new.length) fun m=>k ⟨t,m,es,false⟩))) B)
  (fun _ _=>wI B o n fun old=>aAJ old new fun l=>aBa l es false k) o
def BR (fl es eb:Nat)(base:Option Addr)(n c m:Nat)(new:List Value)(H:HT)(k:Value->HT->Prop):Prop :=
 cG (n+m) fun q=>ifB (Nat.ble q c)
  (fN base (k (.slice none q c) H) fun a=>Y3 a (n*es) fun p=>stK fl H p new fun H=>k (.slice (some a) q c) H)
  (chk (Nat.ble (q*eb) 140737488355328&&Nat.ble q 140737488355328) (fN base
   (chk (Nat.beq n 0) (oK new es false H fun b H=>k (.slice (some ⟨b,0,none⟩) q q) H))
   fun a=>jX a fun b o=>vU H b fun B=>cG (n*es) fun ne=>aAr B o ne new es fun B'=>aAn fl H es b B fun H=>LL H B' fun b H=>k (.slice (some ⟨b,0,none⟩) q q) H))
def aDm (fl es eb:Nat)(base:Option Addr)(n c m:Nat)(x:Value)(H:HT)(k:Value->HT->Prop):Prop :=
 AM H (m*es) x fun new=>BR fl es eb base n c m new H k
def YP (es eb:Nat)(ok:Bool)(s x:KG):F:=fun _ fl _ T H k=>chk ok (rd s T fun s=>rd x T fun x=>iI s (fun base n c=>aG9 x fun m=>aDm fl es eb base n c m x H k) False)
def qL (l:List UInt8)(k:List Value->Prop):Prop :=
 List.rec (motive:=fun _=>(List Value->Prop)->Prop) (fun k=>k []) (fun c _ ih k=>cG c.toNat fun n=>ih fun r=>k (.int .u8 (.ofNat n)::r)) l k
def SJ (eb:Nat)(ok:Bool)(s x:KG):F:=fun _ fl _ T H k=>chk ok (rd s T fun s=>rd x T fun x=>iI s (fun base n c=>aCj x (fun y=>cG y.size fun m =>
 qL (y.extract 0 m).data.toList fun new=>BR fl 1 eb base n c m new H k) False) False)
def S1 (es eb:Nat)(z:Option (List Value))(s x:KG):F:=fun _ fl _ T H k=>fN z False fun z=>chk (Nat.beq z.length es) (rd s T fun s=>rd x T fun x=>iI s (fun base n c=>oS x (fun i m=>nS i .i64
 (Int.rec (motive:=fun _=>Prop) (fun m=>chk (Nat.ble (m*eb) 140737488355328&&Nat.ble m 140737488355328) (o6 (dW z (m*es)) fun new=>BR fl es eb base n c m new H k)) (fun _=>False) m) False) False) False)
def aEp (es:Nat)(s x:KG):F:=fun _ fl _ T H k=>rd s T fun s=>rd x T fun x=>iI s (fun base n _=>aG9 x fun m=>cG (Nat.min m n) fun q =>
 fN base (AM H (q*es) x fun _=>k (.int .i64 (.ofNat q)) H) fun a=>jX a fun b o=>iI x (fun xa _ _=>fN xa
  (AM H (q*es) x fun l=>stK fl H a l fun H=>k (.int .i64 (.ofNat q)) H)
  fun xa=>jX xa fun xb xo=>vU H b fun B=>vU H xb fun X =>
   ifB (Nat.beq o 0&&Nat.beq xo 0&&Nat.beq (q*es) B.len&&Nat.ble B.len X.len&&Nat.blt 0 B.len)
    (chk (Nat.ble fl b) (KB.rec (motive:=fun _=>Prop) (fun _ len be ex=>KB.rec (motive:=fun _=>Prop) (fun t _ _ _=>vF H b (some ⟨t,len,be,ex⟩) fun H=>k (.int .i64 (.ofNat q)) H) X) B))
    (AM H (q*es) x fun l=>stK fl H a l fun H=>k (.int .i64 (.ofNat q)) H)) False) False
def aE4 (x:KG):F:=fun _ _ _ T H k=>rd x T fun v=>aCj v (fun s=>chk (Nat.ble s.size 1152921504606846976) (qL s.data.toList fun l=>oK l 1 false H fun b H=>cG s.size fun n=>k (.slice (some ⟨b,0,none⟩) n n) H)) False
def aET (x:KG):F:=fun _ _ _ T H k=>rd x T fun v=>iI v (fun a n _=>fN a (k (.string .empty) H) fun _ =>
 Nat.rec (motive:=fun _=>Prop) (k (.string .empty) H) (fun _ _=>AM H n v fun cs=>fN (eZ cs) False fun l=>k (.string ⟨l.toArray⟩) H) n) False
def aEm (x:KG):F:=fun _ fl _ T H k=>rd x T fun v=>iI v (fun a n _=>fN a False fun a=>jX a fun b _=>Nat.rec (motive:=fun _=>Prop) False (fun _ _=>chk (Nat.ble fl b) (vU H b fun _=>k v H)) n) False
inductive KO|mk (f:F)
def XV (P:Program)(s d:TypeId)(x:KG):KO :=
 match P.underlying s,P.underlying d with
 | some _,some (.int i) => .mk (aEX i x)
 | some .string,some (.slice e)=>match P.underlying e with
   | some (.int .u8) => .mk (aE4 x)
   | _ => .mk pU
 | some (.slice e),some .string=>match P.underlying e with
   | some (.int .u8) => .mk (aET x)
   | _ => .mk pU
 | some (.slice e),some (.slice _)=>match P.underlying e with
   | some (.int .u8)=>if s=d then .mk (aEm x)else .mk pU
   | _ => .mk pU
 | _,_ => .mk pU
def UT (P:Program)(s d:TypeId)(x:KG):KO :=
 match P.underlying s,P.underlying d with
 | some (.int .i64),some (.int .u64) => .mk (aAb x)
 | _,_=>XV P s d x
def aFL:Operand->Bool
 | .tmp 16=>true
 | _=>false
def aFK (op:BinOp)(y:Operand):Bool :=
 match op,y with
 | .rem,.const (.int .u64 (.ofNat 3))=>true
 | _,_=>false
def aBQ (P:Program)(c:Call):KO :=
 match c.callee with
 | .value f => .mk (aE0 P (cg f) (c.args.toList.map cg))
 | .builtin .len=>match c.argTypes[0]?,c.args.toList with
   | some t,[x]=>match aTy P t with
     | .slice _ _ _ => .mk (aE3 (cg x))
     | _ => .mk (u5 (fun v=>s9 P c.argTypes #[v]) (cg x))
   | _,_ => .mk pU
 | .builtin .append=>match c.argTypes[0]?,c.argTypes[1]?,c.args.toList with
   | some s,some x,[a,b]=>match aTy P s,aTy P x with
     | .slice e es eb,.slice _ _ _ => .mk (YP es eb (((cS P e).map List.length).any (Nat.beq es)) (cg a) (cg b))
     | .slice e es eb,.one=>match P.underlying x with
       | some (.int _) => .mk (S1 es eb (cS P e) (cg a) (cg b))
       | _ => .mk pU
     | .slice e es eb,.str => .mk (SJ eb (((cS P e).map List.length).any (Nat.beq es)&&Nat.beq es 1) (cg a) (cg b))
     | _,_ => .mk pU
   | _,_,_ => .mk pU
 | .builtin .copy=>match c.argTypes[0]?,c.args.toList with
   | some d,[a,b]=>match aTy P d with
     | .slice _ es _ => .mk (aEp es (cg a) (cg b))
     | _ => .mk pU
   | _,_ => .mk pU
 | .builtin .max=>match c.args.toList with
   | x::l => .mk (YG XP (cg x) (l.map cg))
   | [] => .mk pU
 | .builtin .min=>match c.args.toList with
   | x::l => .mk (YG XF (cg x) (l.map cg))
   | [] => .mk pU
 | _ => .mk pU
def cop (P:Program)(op:Op):KO :=
 match op with
 | .move x | .assign x => .mk (aCC (cg x))
 | .pick c a b => .mk (aE7 (cg c) (cg a) (cg b))
 | .alloc t => .mk (aBy (cS P t))
 | .box _ x => .mk (aHe (cg x))
 | .build t parts=>match aTy P t with
   | .struct _ fs => .mk (U7 (cS P t) (u7 (fun i=>(fs[i]?).map fun f=>(f.1,f.2.1)) parts.toList))
   | .array _ _ es _ => .mk (U7 (cS P t) (u7 (fun i=>some (i*es,es)) parts.toList))
   | _ => .mk pU
 | .buildSlice t len parts=>match aTy P t with
   | .slice e es _ => .mk (FM (cS P e) (u7 (fun i=>some (i*es,es)) parts.toList) len es)
   | _ => .mk pU
 | .load t a=>match aTy P t with
   | .struct sz _ => .mk (VB sz (cg a))
   | .array _ _ _ sz => .mk (VB sz (cg a))
   | .other => .mk pU
   | _ => .mk (aBL (cg a))
 | .store t a x => .mk (aB0 (zN P t) (cg a) (cg x))
 | .nilCheck x => .mk (u5 aEc (cg x))
 | .binOp op t x y _=>match aFK op y with
   | true => .mk (aEW (cg x))
   | false => .mk (aG6 P op t (bR x||bR y) (cg x) (cg y))
 | .unOp op _ x => .mk (u5 (aUn op) (cg x))
 | .convert s d x=>match aFL x with
   | true=>UT P s d (cg x)
   | false=>XV P s d (cg x)
 | .makeFunc fn first captured => .mk (NL fn (first.toList.map cg) (captured.toList.map cg))
 | .makeSlice t l c=>match aTy P t with
   | .slice e es eb => .mk (KK (cS P e) es eb (cg l) (cg c))
   | _ => .mk pU
 | .slice t x lo hi mx => .mk (aB8 P t (cg x) (lo.map cg) (hi.map cg) (mx.map cg))
 | .fieldAddr s x f=>match aTy P s with
   | .struct _ fs=>match fs[f]? with
     | some (off,size,_)=>match size with
       | 0 => .mk pU
       | _ => .mk (kFA off (cg x))
     | none => .mk pU
   | _ => .mk pU
 | .field t x f => .mk (u5 (fun v=>AV P t v f) (cg x))
 | .indexAddr t x ix=>match aTy P t with
   | .slice _ es _ => .mk (aHm es (cg x) (cg ix))
   | .array n _ es _ => .mk (aGU n es (cg x) (cg ix))
   | _ => .mk pU
 | .index t x ix => .mk (aBD (fun v i=>uB P t v i) (cg x) (cg ix))
 | .extract x i => .mk (u5 (extA i) (cg x))
 | .sliceToArrayPointer t x => .mk (u5 (EW P t) (cg x))
 | .call c=>aBQ P c
 | _ => .mk pU
abbrev WF:=Value->TT->(TT->Prop)->Prop
abbrev RF:=TT->(Value->Prop)->Prop
inductive KR
 | nil
 | bad
 | op (f:F) (w:WF) (r:KR)
 | opn (f:F) (r:KR)
 | gop (g:RF) (b:Bool) (f:F) (w:WF) (r:KR)
 | gopn (g:RF) (b:Bool) (f:F) (r:KR)
def W7 (v:Value)(k:Bool->Prop)(e:Prop):Prop:=Value.rec (motive_1:=fun _=>Prop) (motive_2:=fun _=>Prop) (motive_3:=fun _=>Prop)
 k (fun _ _=>e) (fun _ _=>e) (fun _ _ _=>e) (fun _=>e) (fun _=>e) (fun _ _ _=>e) (fun _=>e) (fun _=>e) (fun _ _ _ _ _=>e) e (fun _ _ _=>e) e (fun _ _=>e) (fun _ _=>e) (fun _ _=>False) False (fun _ _ _ _=>False) v
def aIN (f:F):F:=fun ck fl _ T H k=>HT.rec (motive:=fun _=>Prop) (fun n _=>f ck fl n T H k) H
def loF (lo:Bool)(f:KO):KO:=match lo,f with
 | true,f=>f
 | false,.mk f => .mk (aIN f)
def RG (v:Value)(b:Bool)(p q:Prop):Prop:=W7 v (fun c=>ifB c (ifB b p q) (ifB b q p)) q
def sQ (ck:KC)(fl:Nat)(r:KR):TT->HT->(TT->HT->Prop)->Prop :=
 KR.rec (motive:=fun _=>TT->HT->(TT->HT->Prop)->Prop) (fun T H k=>k T H) (fun _ _ _=>False)
   (fun f w _ ih T H k=>f ck fl fl T H fun v H=>w v T fun T=>ih T H k)
   (fun f _ ih T H k=>f ck fl fl T H fun _ H=>ih T H k)
   (fun g b f w _ ih T H k=>g T fun v=>RG v b (f ck fl fl T H fun v H=>w v T fun T=>ih T H k) (w undef T fun T=>ih T H k))
   (fun g b f _ ih T H k=>g T fun v=>RG v b (f ck fl fl T H fun _ H=>ih T H k) (ih T H k)) r
def OC (P:Program)(ops:Array Oper)(o:Oper)(lo:Bool)(r:KR):KR :=
 match loF lo (cop P o.op),o.guard with
 | .mk f,none=>match o.dst with
   | some d=>if d<256 then(match cw d with | .mk w => .op f w r)else .bad
   | none => .opn f r
 | .mk f,some (j,b)=>match (ops[j]?).bind (·.dst)with
   | some g=>match cg (.tmp g),o.dst with
     | .mk g,some d=>if d<256 then(match cw d with | .mk w => .gop g b f w r)else .bad
     | .mk g,none => .gopn g b f r
   | none => .bad
def cRg (P:Program)(ops:Array Oper):List Oper->KR
 | [] => .nil
 | o::r=>OC P ops o true (cRg P ops r)
def cDr (P:Program)(ops:Array Oper)(b:Array Nat):Nat->List Oper->KR
 | _,[] => .nil
 | i,o::r=>OC P ops o (aK o.op==4&&bH ops b i) (cDr P ops b (i+1) r)
def A3 (ops:Array Oper):Bool:=ops.toList.all fun o=>(EX o.op).all fun d=>Nat.blt d 256
def XH (P:Program)(ops:Array Oper):KR :=
 if xH ops (aI ops.toList #[])&&(b7 ops (aI ops.toList #[])).all (fun p=>c7 ops p.1&&c7 ops p.2)&&A3 ops then cDr P ops (aI ops.toList #[]) 0 ops.toList else .bad
def TT.fn (T:TT):aE:=fun i=>T.get i
def LK (ops:Array Oper)(l:List (Nat×Nat))(T:TT)(p:Prop):Prop :=
 List.rec (motive:=fun _=>Prop) p (fun x _ ih=>chk (dE ops T.fn x) ih) l
def W9 (X:List Nat)(H:HT)(k:HT->Prop):Prop :=
 List.rec (motive:=fun _=>HT->Prop) k (fun x _ ih H=>HT.rec (motive:=fun _=>Prop) (fun n _=>ifB (Nat.blt x n) (vF H x none ih) (ih H)) H) X H
def CL (X:List Nat)(H0 H:HT)(k:HT->Prop):Prop :=
 List.rec (motive:=fun _=>HT->Prop) k (fun x _ ih H=>HT.rec (motive:=fun _=>Prop) (fun n t=>ifB (Nat.blt x n) (aAW (pth x) t fun o=>vF H x o ih) (ih H)) H0) X H
def aEP (X:List Nat)(ck:KC):KC:=fun fl f args H k=>W9 X H fun H1=>ck fl f args H1 fun v H2=>CL X H H2 fun H3=>k v H3
def aEo (P:Program)(ck:KC)(fl:Nat)(ops:Array Oper)(b:Array Nat)(l:List Oper):Nat->List Nat->List (Nat×List Nat)->TT->HT->(TT->HT->Prop)->Prop :=
 List.rec (motive:=fun _=>Nat->List Nat->List (Nat×List Nat)->TT->HT->(TT->HT->Prop)->Prop) (fun _ _ _ T H k=>k T H)
  (fun o _ ih i X Z T H k=>chk (CS b i Z (cI o.op (eval T.fn)))
   (ifB (eH ops b i o)
    (sQ (aEP X ck) fl (OC P ops o (aK o.op==4&&(bH ops b i||qS ops b i o)) .nil) T H fun T' H'=>ih (Nat.succ i) (if nL o.op then cI o.op (eval T.fn)++X else X) ((i,X)::Z) T' H' k)
    (sQ ck fl (OC P ops o (aK o.op==4&&(bH ops b i||qS ops b i o)) .nil) T H fun T' H'=>ih (Nat.succ i) (if nL o.op then cI o.op (eval T.fn)++X else X) Z T' H' k))) l
inductive KQ|plain (r:KR)|drawn (r:KR)|semi|bad
def aFw (P:Program)(ops:Array Oper)(draw:Bool):KQ:=match draw with
 | false => .plain (cRg P ops ops.toList)
 | true=>if sG ops (aI ops.toList #[])then
  if gU ops (aI ops.toList #[])&&(b7 ops (aI ops.toList #[])).all (fun p=>c7 ops p.1&&c7 ops p.2)&&A3 ops then .semi else .bad
   else match b7 ops (aI ops.toList #[])with
    | [] => .plain (XH P ops)
    | _ => .drawn (XH P ops)
def aFz (P:Program)(ck:KC)(fl:Nat)(ops:Array Oper)(draw:Bool)(T:TT)(H:HT)(k:TT->HT->Prop):Prop :=
 KQ.rec (motive:=fun _=>Prop) (fun r=>sQ ck fl r T H k) (fun r=>sQ ck fl r T H fun T H=>LK ops (b7 ops (aI ops.toList #[])) T (k T H))
   (aEo P ck fl ops (aI ops.toList #[]) ops.toList 0 [] [] T H fun T H=>LK ops (b7 ops (aI ops.toList #[])) T (k T H)) False (aFw P ops draw)
abbrev XT:=TT->HT->(TT->HT->Prop)->(bE->TT->HT->Prop)->Prop
def aCs (e:bE)(n:Prop)(x g:Nat->Prop)(r:Prop):Prop:=bE.rec (motive:=fun _=>Prop) n x g r e
def aBZ (a:XT)(m:Nat)(T:TT)(H:HT)(x:bE->TT->HT->Prop):Prop :=
 Nat.rec (motive:=fun _=>TT->HT->Prop) (fun _ _=>False) (fun _ ih T H=>a T H ih x) m T H
def RK (P:Program)(ck:KC)(m fl:Nat)(c:Code):XT :=
 Code.rec (motive:=fun _=>XT)
  (fun T H k _=>k T H)
  (fun _ ops draw T H k _=>aFz P ck fl ops draw T H k)
  (fun _ _ a b T H k x=>a T H (fun T H=>b T H k x) x)
  (fun c _ _ a b T H k x=>rd (cg c) T fun v=>JH v fun d=>ifB d (a T H k x) (b T H k x))
  (fun id _ a T H k x=>a T H k fun e T H=>aCs e False (fun i=>ifB (Nat.beq i id) (k T H) (x (.exit i) T H)) (fun i=>x (.goto i) T H) (x .ret T H))
  (fun _ a T H _ x=>aBZ a m T H x)
  (fun _ _ _ _ _ _ _ _ _ _=>False)
  (fun id T H _ x=>x (.exit id) T H)
  (fun _ _ _ _ _ _=>False)
  (fun _ T H k _=>k T H)
  (fun l T H _ x=>x (.goto l) T H)
  (fun T H _ x=>x .ret T H)
  (fun _ _ _ _ _=>False) c
inductive KF|no|ext|ok (c:Code)(nt:Nat)(rs:List ResultVar)
def aEJ (xb:FuncId->Bool)(P:Program)(f:FuncId):KF :=
 match P.funcs[f]? with
 | some fn=>match bod fn with
   | some c=>if okG xb f fn c then(if fn.ntmps<=256 then .ok c fn.ntmps fn.results.toList else .no)else .ext
   | none => .no
 | none => .no
def T0:TT:=N16.all (N16.all undef)
def aFU (l:List Value)(k:TT->Prop):Prop :=
 List.rec (motive:=fun _=>Nat->TT->Prop) (fun _ T=>k T) (fun v _ ih i T=>wr (cw i) v T fun T=>cG (Nat.succ i) fun i=>ih i T) l 0 T0
def aHS (f:KO):F:=fun ck fl flc T H k=>KO.rec (motive:=fun _=>Prop) (fun f=>f ck fl flc T H k) f
def noK:KC:=fun _ _ _ _ _=>False
def aBn (P:Program)(T:TT)(H:HT)(rs:List ResultVar)(k:List Value->Prop):Prop :=
 List.rec (motive:=fun _=>(List Value->Prop)->Prop) (fun k=>k [])
  (fun r _ ih k=>ResultVar.rec (motive:=fun _=>Prop) (fun d=>rd (cg (.tmp d)) T fun v=>ih fun l=>k (v::l))
   (fun a ty=>aHS (cop P (.load ty (.tmp a))) noK 0 0 T H fun v _=>ih fun l=>k (v::l)) r) rs k
def JM (l:List Value)(k:Value->Prop):Prop :=
 List.rec (motive:=fun _=>Prop) (k (.tuple ⟨[]⟩)) (fun v r _=>List.rec (motive:=fun _=>Prop) (k v) (fun w r _=>k (.tuple ⟨v::w::r⟩)) r) l
def aFS (P:Program)(rs:List ResultVar)(k:Value->HT->Prop)(T:TT)(H:HT):Prop:=aBn P T H rs fun l=>JM l fun v=>k v H
def kfn (xb:FuncId->Bool)(P:Program)(xk ck:KC)(n:Nat):KC:=fun fl f args H k =>
 KF.rec (motive:=fun _=>Prop) False (xk fl f args H k)
   (fun c nt rs=>chk (Nat.ble args.length nt) (aFU args fun T=>RK P ck n fl c T H (aFS P rs k) fun e T H =>
    aCs e False (fun _=>False) (fun _=>False) (aFS P rs k T H))) (aEJ xb P f)
def wH (xb:FuncId->Bool)(P:Program)(xk:KC)(n:Nat):KC:=Nat.rec (motive:=fun _=>KC) (fun _ _ _ _ _=>False) (fun n ih=>kfn xb P xk ih n) n
end Go.Mach.J
