/- The operations of the machine for concrete runs, and its way through a text. Plain definitions; no condition. -/
import Derived.Test.YtlgcbiacijgcmaaGreatDoorJ4
namespace Go.Mach.J
open Go Go.Mach

/-- A call: the floor, the function, its arguments, the heap, what follows. -/
abbrev KC := Nat → FuncId → List Value → HT → (Value → HT → Prop) → Prop
/-- An operation: calls, the floor, the floor that it hands on, slots, heap, what follows. -/
abbrev F := KC → Nat → Nat → TT → HT → (Value → HT → Prop) → Prop

def onAddr (p : Addr) (k : Nat → Nat → Prop) : Prop := Addr.rec (motive := fun _ => Prop) (fun b o _ => k b o) p
def cellsOf (v : Value) (k : List Value → Prop) : Prop := onAgg v (fun a => Array.rec (motive := fun _ => Prop) k a) (k [v])
def appL (l : List Value) (m : List Value) (k : List Value → Prop) : Prop :=
  List.rec (motive := fun _ => (List Value → Prop) → Prop) (fun k => k m) (fun v _ ih k => ih fun r => k (v :: r)) l k
def rdL (gs : List KG) (T : TT) (k : List Value → Prop) : Prop :=
  List.rec (motive := fun _ => (List Value → Prop) → Prop) (fun k => k []) (fun g _ ih k => rd g T fun v => ih fun l => k (v :: l)) gs k
def rdO (o : Option KG) (T : TT) (k : Option Value → Prop) : Prop := onOpt o (k none) fun g => rd g T fun v => k (some v)
/-- An address moved on. -/
def addK (a : Addr) (n : Nat) (k : Addr → Prop) : Prop :=
  Nat.rec (motive := fun _ => Prop) (k a) (fun m _ => onAddr a fun b o => forceN (o + Nat.succ m) fun o => k ⟨b, o, none⟩) n

def kBad : F := fun _ _ _ _ _ _ => False
def kMove (x : KG) : F := fun _ _ _ T H k => rd x T fun v => k v H
def kPick (c a b : KG) : F := fun _ _ _ T H k => rd c T fun d => onBool d fun d => ifB d (rd a T fun v => k v H) (rd b T fun v => k v H)
def kPure1 (g : Value → Option Value) (x : KG) : F := fun _ _ _ T H k => rd x T fun v => pureK (g v) fun v => k v H
def kPure2 (g : Value → Value → Option Value) (x y : KG) : F := fun _ _ _ T H k => rd x T fun v => rd y T fun w => pureK (g v w) fun v => k v H
def binK (P : Program) (op : BinOp) (t : TypeId) (c : Bool) (a b : Value) (k : Value → Prop) (e : Prop) : Prop :=
  onInt a (fun i m => onInt b (fun j n => arK op i m j n k e) e) e
def kBin (P : Program) (op : BinOp) (t : TypeId) (c : Bool) (x y : KG) : F :=
  fun _ _ _ T H k => rd x T fun a => rd y T fun b => binK P op t c a b (fun v => k v H) (pureK (bin2A P op t c a b) fun v => k v H)
def kConv (i : IntKind) (x : KG) : F := fun _ _ _ T H k => rd x T fun v => onInt v (fun _ n => wrapK i n fun n => k (.int i n) H) False
/-- A number of 64 bits, whatever it is, as one without a sign. -/
def u64m (n : Int) : Nat := Int.toNat (Int.emod n 18446744073709551616)
def kConvL (x : KG) : F := fun _ _ _ T H k => rd x T fun v => onInt v (fun _ n => k (.int .u64 (.ofNat (u64m n))) H) False
/-- A remainder by three, in three cases. -/
def kRem3 (x : KG) : F := fun _ _ _ T H k => rd x T fun v => onInt v (fun i n => sameK i .u64
  (Int.rec (motive := fun _ => Prop) (fun _ => k (.int .u64 (.ofNat 0)) H ∧ k (.int .u64 (.ofNat 1)) H ∧ k (.int .u64 (.ofNat 2)) H) (fun _ => False) n) False) False
/-- A new block, and what points to it. -/
def makeK (vs : List Value) (es : Nat) (ex : Bool) (H : HT) (k : Nat → HT → Prop) : Prop := newK vs es ex fun B => pushK H B k
def ptr0 (b : Nat) : Value := .pointer (some ⟨b, 0, none⟩)
def kAlloc (z : Option (List Value)) : F := fun _ _ _ _ H k => onOpt z False fun z => forceL z fun z => makeK z 0 true H fun b H => k (.pointer (some ⟨b, 0, none⟩)) H
def kBox (x : KG) : F := fun _ _ _ T H k => rd x T fun v => cellsOf v fun l => makeK l 0 true H fun b H => k (.pointer (some ⟨b, 0, none⟩)) H
/-- Cells put into a list. -/
def rep (vs : List Value) (l : List Value) (k : List Value → Prop) : Prop :=
  List.rec (motive := fun _ => List Value → (List Value → Prop) → Prop) (fun l k => k l)
    (fun v _ ih l k => List.rec (motive := fun _ => Prop) False (fun _ l _ => ih l fun r => k (v :: r)) l) vs l k
def spl (n : Nat) (vs : List Value) (l : List Value) (k : List Value → Prop) : Prop :=
  Nat.rec (motive := fun _ => List Value → (List Value → Prop) → Prop) (fun l k => rep vs l k)
    (fun _ ih l k => List.rec (motive := fun _ => Prop) False (fun x l _ => ih l fun r => k (x :: r)) l) n l k
/-- Where a part goes, how many cells it has, the part. -/
inductive KP | nil | cons (off size : Nat) (g : KG) (r : KP)
def cparts (place : Nat → Option (Nat × Nat)) : List (Nat × Operand) → Option KP
  | [] => some .nil
  | (i, x) :: r => match place i with
    | some (off, size) => (cparts place r).map fun r => .cons off size (cg x) r
    | none => none
def partsK (T : TT) (ps : KP) (l : List Value) (k : List Value → Prop) : Prop :=
  KP.rec (motive := fun _ => List Value → Prop) (fun l => k l)
    (fun off size g _ ih l => rd g T fun v => cellsOf v fun vs => chk (Nat.beq vs.length size) (spl off vs l ih)) ps l
def kBuild (z : Option (List Value)) (ps : Option KP) : F := fun _ _ _ T H k => onOpt z False fun z => onOpt ps False fun ps => forceL z fun z => partsK T ps z fun l => k (.agg ⟨l⟩) H
def kBuildSlice (z : Option (List Value)) (ps : Option KP) (len es : Nat) : F := fun _ _ _ T H k => chk (Nat.ble (len * es) 1048576) (onOpt z False fun z => onOpt ps False fun ps =>
  forceL (rowOf z (len * es)) fun z => partsK T ps z fun l => makeK l es true H fun b H => k (.slice (some ⟨b, 0, none⟩) len len) H)
def kLoad1 (a : KG) : F := fun _ _ _ T H k => rd a T fun v => onPtr v fun p => onAddr p fun b o => blkK H b fun B => cellK B o fun v => k v H
def kLoadN (sz : Nat) (a : KG) : F := fun _ _ _ T H k => rd a T fun v => onPtr v fun p => onAddr p fun b o => blkK H b fun B => cellsK B o sz fun l => k (.agg ⟨l⟩) H
def stK (fl : Nat) (H : HT) (p : Addr) (vs : List Value) (k : HT → Prop) : Prop :=
  List.rec (motive := fun _ => Prop) (k H) (fun _ _ _ => onAddr p fun b o => chk (Nat.ble fl b) (blkK H b fun B => bputs B o vs fun B => setBK H b (some B) k)) vs
def kStore (n : Option Nat) (a x : KG) : F := fun _ fl _ T H k => onOpt n False fun n => rd a T fun v => rd x T fun x => onPtr v fun p => cellsOf x fun vs => chk (Nat.beq n vs.length) (stK fl H p vs fun H => k undef H)
def nilOk : Value → Option Value
  | .pointer (some a) => some (.pointer (some a))
  | .func (.func f) a b => some (.func (.func f) a b)
  | _ => none
def kMakeFunc (fn : Fn) (first captured : List KG) : F := fun _ _ _ T H k => rdL first T fun l => rdL captured T fun m => k (.func fn ⟨l⟩ ⟨m⟩) H
def sameInt : Value → Value → Bool
  | .int i (.ofNat 0), .int j (.ofNat 0) => Nat.beq (kn i) (kn j)
  | _, _ => false
def zrun : List Value → Option Value
  | [] => none
  | v :: r => if r.all (sameInt v) then some v else none
def kMakeSlice (z : Option (List Value)) (es eb : Nat) (l c : KG) : F := fun _ _ _ T H k => onOpt z False fun z => rd l T fun l => rd c T fun c =>
  onInt l (fun _ l => onInt c (fun _ c => onNN l c (fun l c => chk (Nat.ble l c && Nat.ble c 70368744177664 && Nat.ble (eb * c) 70368744177664)
    (onOpt (zrun z) (forceL (rowOf z (c * es)) fun z => makeK z es true H fun b H => k (.slice (some ⟨b, 0, none⟩) l c) H)
      fun v => chk (Nat.ble (c * es) big) (onOne v (forceN (c * es) fun n => pushK H ⟨.c v, n, es, true⟩ fun b H => k (.slice (some ⟨b, 0, none⟩) l c) H)))) False) False) False

/-- A slice of a slice, where the block's fields are known. -/
def sliceB (P : Program) (t : TypeId) (x : Value) (low high mx : Option Value) (st : Option (Bool × Nat)) : Option Value :=
  match aTy P t, x with
  | .str, .string s =>
    if mx.isSome then none else
    match boundsA s.size s.size low high none with
    | some (l, h, _) => some (.string (s.extract l h))
    | none => none
  | .slice _ _ _, .slice none len cap =>
    match boundsA len cap low high mx with
    | some (l, h, m) => some (.slice none (h - l) (m - l))
    | none => none
  | .slice _ es _, .slice (some a) len cap =>
    match boundsA len cap low high mx, st with
    | some (l, h, m), some (ex, bs) =>
      if ex then some (.slice (some (if m = l then a else a.add (l * es))) (h - l) (m - l))
      else if bs = es then some (.slice (some (a.add (l * es))) (h - l) (m - l)) else none
    | _, _ => none
  | .array n _ es _, .pointer (some a) =>
    match boundsA n n low high mx, st with
    | some (l, h, m), some (ex, _) => if ex then some (.slice (some (if m = l then a else a.add (l * es))) (h - l) (m - l)) else none
    | _, _ => none
  | _, _ => none
def blkOf1 (v : Value) : Option Nat :=
  match v with
  | .pointer (some a) => some a.block
  | .slice (some a) _ _ => some a.block
  | _ => none
def kSlice (P : Program) (t : TypeId) (x : KG) (lo hi mx : Option KG) : F := fun _ _ _ T H k => rd x T fun x => rdO lo T fun lo => rdO hi T fun hi => rdO mx T fun mx =>
  onOpt (blkOf1 x) (pureK (sliceB P t x lo hi mx none) fun v => k v H) fun b => blkK H b fun B => pureK (sliceB P t x lo hi mx (some (B.exact, B.es))) fun v => k v H
def kFA (off : Nat) (x : KG) : F := fun _ _ _ T H k => rd x T fun v => onPtr v fun a => addK a off fun a => k (.pointer (some a)) H
def kIAs (es : Nat) (x ix : KG) : F := fun _ _ _ T H k => rd x T fun v => rd ix T fun i => onSlice v (fun a len _ => onOpt a False fun a => onInt i (fun _ i =>
  Int.rec (motive := fun _ => Prop) (fun i => chk (Nat.blt i len) (addK a (Nat.mul i es) fun a => k (.pointer (some a)) H)) (fun _ => False) i) False) False
def kIAa (n es : Nat) (x ix : KG) : F := fun _ _ _ T H k => rd x T fun v => rd ix T fun i => onPtr v fun a => onInt i (fun _ i =>
  Int.rec (motive := fun _ => Prop) (fun i => chk (Nat.blt i n) (addK a (Nat.mul i es) fun a => k (.pointer (some a)) H)) (fun _ => False) i) False
def extA (i : Nat) : Value → Option Value
  | .tuple vs => vs[i]?
  | _ => none
def onFn (f : Fn) (k : FuncId → Prop) : Prop := Fn.rec (motive := fun _ => Prop) k (fun _ => False) (fun _ _ => False) (fun _ _ _ _ => False) (fun _ => False) f
def arr (a : Array Value) (k : List Value → Prop) : Prop := Array.rec (motive := fun _ => Prop) k a
def kCall (P : Program) (f : KG) (args : List KG) : F := fun ck _ flc T H k => rd f T fun v => onFunc v fun fn first cap => onFn fn fun g => chk (goodFn P g)
  (rdL args T fun l => arr cap fun c => appL l c fun l => arr first fun f => appL f l fun l => ck flc g l H k)
def kLenS (x : KG) : F := fun _ _ _ T H k => rd x T fun v => onSlice v (fun _ n _ => k (.int .i64 (.ofNat n)) H) False
def max2K (x y : Value) (k : Value → Prop) : Prop := onInt x (fun i m => onInt y (fun _ n => kLt m n (k (.int i n)) (k (.int i m))) False) False
def min2K (x y : Value) (k : Value → Prop) : Prop := onInt x (fun i m => onInt y (fun _ n => kLt n m (k (.int i n)) (k (.int i m))) False) False
def foldK (f : Value → Value → (Value → Prop) → Prop) (l : List Value) (x : Value) (k : Value → Prop) : Prop :=
  List.rec (motive := fun _ => Value → Prop) (fun x => k x) (fun y _ ih x => f x y ih) l x
def kFold (f : Value → Value → (Value → Prop) → Prop) (x : KG) (l : List KG) : F := fun _ _ _ T H k => rd x T fun x => rdL l T fun l => foldK f l x fun v => k v H
def lenK (v : Value) (k : Nat → Prop) : Prop := onSlice v (fun _ n _ => k n) False
/-- The first n cells behind a slice's beginning. -/
def firstK (H : HT) (n : Nat) (v : Value) (k : List Value → Prop) : Prop :=
  onSlice v (fun a _ _ => Nat.rec (motive := fun _ => Prop) (k []) (fun _ _ => onOpt a False fun a => onAddr a fun b o => blkK H b fun B => cellsK B o n k) n) False
def killK (fl : Nat) (H : HT) (es : Nat) (b : Nat) (B : KB) (k : HT → Prop) : Prop :=
  ifB B.exact (k H) (chk (Nat.beq B.es es) (chk (Nat.ble fl b) (setBK H b none k)))
/-- What is behind a block's first n cells: new ones. -/
def growK (B : KB) (o n : Nat) (new : List Value) (es : Nat) (k : KB → Prop) : Prop :=
  Nat.rec (motive := fun _ => Prop)
    (KB.rec (motive := fun _ => Prop) (fun t len _ _ => chk (Nat.ble n len && Nat.blt (n + new.length) big) (onesK new (putsK new n t fun t => forceN (n + new.length) fun m => k ⟨t, m, es, false⟩))) B)
    (fun _ _ => cellsK B o n fun old => appL old new fun l => newK l es false k) o
def appendL (fl es eb : Nat) (base : Option Addr) (n c m : Nat) (new : List Value) (H : HT) (k : Value → HT → Prop) : Prop :=
  forceN (n + m) fun q => ifB (Nat.ble q c)
    (onOpt base (k (.slice none q c) H) fun a => addK a (n * es) fun p => stK fl H p new fun H => k (.slice (some a) q c) H)
    (chk (Nat.ble (q * eb) 140737488355328 && Nat.ble q 140737488355328) (onOpt base
      (chk (Nat.beq n 0) (makeK new es false H fun b H => k (.slice (some ⟨b, 0, none⟩) q q) H))
      fun a => onAddr a fun b o => blkK H b fun B => forceN (n * es) fun ne => growK B o ne new es fun B' => killK fl H es b B fun H => pushK H B' fun b H => k (.slice (some ⟨b, 0, none⟩) q q) H))
def appendK (fl es eb : Nat) (base : Option Addr) (n c m : Nat) (x : Value) (H : HT) (k : Value → HT → Prop) : Prop :=
  firstK H (m * es) x fun new => appendL fl es eb base n c m new H k
def kAppend (es eb : Nat) (ok : Bool) (s x : KG) : F := fun _ fl _ T H k => chk ok (rd s T fun s => rd x T fun x => onSlice s (fun base n c => lenK x fun m => appendK fl es eb base n c m x H k) False)
def bytesL (l : List UInt8) (k : List Value → Prop) : Prop :=
  List.rec (motive := fun _ => (List Value → Prop) → Prop) (fun k => k []) (fun c _ ih k => forceN c.toNat fun n => ih fun r => k (.int .u8 (.ofNat n) :: r)) l k
/-- The bytes of a string behind a list. -/
def kAppendB (eb : Nat) (ok : Bool) (s x : KG) : F := fun _ fl _ T H k => chk ok (rd s T fun s => rd x T fun x => onSlice s (fun base n c => onStr x (fun y => forceN y.size fun m =>
  bytesL (y.extract 0 m).data.toList fun new => appendL fl 1 eb base n c m new H k) False) False)
/-- So many zeros behind a list. -/
def kAppendM (es eb : Nat) (z : Option (List Value)) (s x : KG) : F := fun _ fl _ T H k => onOpt z False fun z => chk (Nat.beq z.length es) (rd s T fun s => rd x T fun x => onSlice s (fun base n c => onInt x (fun i m => sameK i .i64
  (Int.rec (motive := fun _ => Prop) (fun m => chk (Nat.ble (m * eb) 140737488355328 && Nat.ble m 140737488355328) (forceL (rowOf z (m * es)) fun new => appendL fl es eb base n c m new H k)) (fun _ => False) m) False) False) False)
/-- A whole block over another one. -/
def kCopy (es : Nat) (s x : KG) : F := fun _ fl _ T H k => rd s T fun s => rd x T fun x => onSlice s (fun base n _ => lenK x fun m => forceN (Nat.min m n) fun q =>
  onOpt base (firstK H (q * es) x fun _ => k (.int .i64 (.ofNat q)) H) fun a => onAddr a fun b o => onSlice x (fun xa _ _ => onOpt xa
      (firstK H (q * es) x fun l => stK fl H a l fun H => k (.int .i64 (.ofNat q)) H)
      fun xa => onAddr xa fun xb xo => blkK H b fun B => blkK H xb fun X =>
        ifB (Nat.beq o 0 && Nat.beq xo 0 && Nat.beq (q * es) B.len && Nat.ble B.len X.len && Nat.blt 0 B.len)
          (chk (Nat.ble fl b) (KB.rec (motive := fun _ => Prop) (fun _ len be ex => KB.rec (motive := fun _ => Prop) (fun t _ _ _ => setBK H b (some ⟨t, len, be, ex⟩) fun H => k (.int .i64 (.ofNat q)) H) X) B))
          (firstK H (q * es) x fun l => stK fl H a l fun H => k (.int .i64 (.ofNat q)) H)) False) False
def kStoB (x : KG) : F := fun _ _ _ T H k => rd x T fun v => onStr v (fun s => chk (Nat.ble s.size 1152921504606846976) (bytesL s.data.toList fun l => makeK l 1 false H fun b H => forceN s.size fun n => k (.slice (some ⟨b, 0, none⟩) n n) H)) False
def kBtoS (x : KG) : F := fun _ _ _ T H k => rd x T fun v => onSlice v (fun a n _ => onOpt a (k (.string .empty) H) fun _ =>
  Nat.rec (motive := fun _ => Prop) (k (.string .empty) H) (fun _ _ => firstK H n v fun cs => onOpt (bytesOfCells cs) False fun l => k (.string ⟨l.toArray⟩) H) n) False

def kMark (x : KG) : F := fun _ fl _ T H k => rd x T fun v => onSlice v (fun a n _ => onOpt a False fun a => onAddr a fun b _ => Nat.rec (motive := fun _ => Prop) False (fun _ _ => chk (Nat.ble fl b) (blkK H b fun _ => k v H)) n) False

/-! ### An operation's text, made ready -/
inductive KO | mk (f : F)
def cconv (P : Program) (s d : TypeId) (x : KG) : KO :=
  match P.underlying s, P.underlying d with
  | some _, some (.int i) => .mk (kConv i x)
  | some .string, some (.slice e) => match P.underlying e with
    | some (.int .u8) => .mk (kStoB x)
    | _ => .mk kBad
  | some (.slice e), some .string => match P.underlying e with
    | some (.int .u8) => .mk (kBtoS x)
    | _ => .mk kBad
  | some (.slice e), some (.slice _) => match P.underlying e with
    | some (.int .u8) => if s = d then .mk (kMark x) else .mk kBad
    | _ => .mk kBad
  | _, _ => .mk kBad
def cconvL (P : Program) (s d : TypeId) (x : KG) : KO :=
  match P.underlying s, P.underlying d with
  | some (.int .i64), some (.int .u64) => .mk (kConvL x)
  | _, _ => cconv P s d x
def oneTmp : Operand → Bool
  | .tmp 16 => true
  | _ => false
def isR3 (op : BinOp) (y : Operand) : Bool :=
  match op, y with
  | .rem, .const (.int .u64 (.ofNat 3)) => true
  | _, _ => false
def ccall (P : Program) (c : Call) : KO :=
  match c.callee with
  | .value f => .mk (kCall P (cg f) (c.args.toList.map cg))
  | .builtin .len => match c.argTypes[0]?, c.args.toList with
    | some t, [x] => match aTy P t with
      | .slice _ _ _ => .mk (kLenS (cg x))
      | _ => .mk (kPure1 (fun v => lenOfA P c.argTypes #[v]) (cg x))
    | _, _ => .mk kBad
  | .builtin .append => match c.argTypes[0]?, c.argTypes[1]?, c.args.toList with
    | some s, some x, [a, b] => match aTy P s, aTy P x with
      | .slice e es eb, .slice _ _ _ => .mk (kAppend es eb (((azero P e).map List.length).any (Nat.beq es)) (cg a) (cg b))
      | .slice e es eb, .one => match P.underlying x with
        | some (.int _) => .mk (kAppendM es eb (azero P e) (cg a) (cg b))
        | _ => .mk kBad
      | .slice e es eb, .str => .mk (kAppendB eb (((azero P e).map List.length).any (Nat.beq es) && Nat.beq es 1) (cg a) (cg b))
      | _, _ => .mk kBad
    | _, _, _ => .mk kBad
  | .builtin .copy => match c.argTypes[0]?, c.args.toList with
    | some d, [a, b] => match aTy P d with
      | .slice _ es _ => .mk (kCopy es (cg a) (cg b))
      | _ => .mk kBad
    | _, _ => .mk kBad
  | .builtin .max => match c.args.toList with
    | x :: l => .mk (kFold max2K (cg x) (l.map cg))
    | [] => .mk kBad
  | .builtin .min => match c.args.toList with
    | x :: l => .mk (kFold min2K (cg x) (l.map cg))
    | [] => .mk kBad
  | _ => .mk kBad
def cop (P : Program) (op : Op) : KO :=
  match op with
  | .move x | .assign x => .mk (kMove (cg x))
  | .pick c a b => .mk (kPick (cg c) (cg a) (cg b))
  | .alloc t => .mk (kAlloc (azero P t))
  | .box _ x => .mk (kBox (cg x))
  | .build t parts => match aTy P t with
    | .struct _ fs => .mk (kBuild (azero P t) (cparts (fun i => (fs[i]?).map fun f => (f.1, f.2.1)) parts.toList))
    | .array _ _ es _ => .mk (kBuild (azero P t) (cparts (fun i => some (i * es, es)) parts.toList))
    | _ => .mk kBad
  | .buildSlice t len parts => match aTy P t with
    | .slice e es _ => .mk (kBuildSlice (azero P e) (cparts (fun i => some (i * es, es)) parts.toList) len es)
    | _ => .mk kBad
  | .load t a => match aTy P t with
    | .struct sz _ => .mk (kLoadN sz (cg a))
    | .array _ _ _ sz => .mk (kLoadN sz (cg a))
    | .other => .mk kBad
    | _ => .mk (kLoad1 (cg a))
  | .store t a x => .mk (kStore (sizeA P t) (cg a) (cg x))
  | .nilCheck x => .mk (kPure1 nilOk (cg x))
  | .binOp op t x y _ => match isR3 op y with
    | true => .mk (kRem3 (cg x))
    | false => .mk (kBin P op t (isConst x || isConst y) (cg x) (cg y))
  | .unOp op _ x => .mk (kPure1 (aUn op) (cg x))
  | .convert s d x => match oneTmp x with
    | true => cconvL P s d (cg x)
    | false => cconv P s d (cg x)
  | .makeFunc fn first captured => .mk (kMakeFunc fn (first.toList.map cg) (captured.toList.map cg))
  | .makeSlice t l c => match aTy P t with
    | .slice e es eb => .mk (kMakeSlice (azero P e) es eb (cg l) (cg c))
    | _ => .mk kBad
  | .slice t x lo hi mx => .mk (kSlice P t (cg x) (lo.map cg) (hi.map cg) (mx.map cg))
  | .fieldAddr s x f => match aTy P s with
    | .struct _ fs => match fs[f]? with
      | some (off, size, _) => match size with
        | 0 => .mk kBad
        | _ => .mk (kFA off (cg x))
      | none => .mk kBad
    | _ => .mk kBad
  | .field t x f => .mk (kPure1 (fun v => fieldA P t v f) (cg x))
  | .indexAddr t x ix => match aTy P t with
    | .slice _ es _ => .mk (kIAs es (cg x) (cg ix))
    | .array n _ es _ => .mk (kIAa n es (cg x) (cg ix))
    | _ => .mk kBad
  | .index t x ix => .mk (kPure2 (fun v i => indexA P t v i) (cg x) (cg ix))
  | .extract x i => .mk (kPure1 (extA i) (cg x))
  | .sliceToArrayPointer t x => .mk (kPure1 (arrAtA P t) (cg x))
  | .call c => ccall P c
  | _ => .mk kBad

/-! ### A region -/
abbrev WF := Value → TT → (TT → Prop) → Prop
abbrev RF := TT → (Value → Prop) → Prop
inductive KR
  | nil
  | bad
  | op (f : F) (w : WF) (r : KR)
  | opn (f : F) (r : KR)
  | gop (g : RF) (b : Bool) (f : F) (w : WF) (r : KR)
  | gopn (g : RF) (b : Bool) (f : F) (r : KR)
def onBoolE (v : Value) (k : Bool → Prop) (e : Prop) : Prop := Value.rec (motive_1 := fun _ => Prop) (motive_2 := fun _ => Prop) (motive_3 := fun _ => Prop)
  k (fun _ _ => e) (fun _ _ => e) (fun _ _ _ => e) (fun _ => e) (fun _ => e) (fun _ _ _ => e) (fun _ => e) (fun _ => e) (fun _ _ _ _ _ => e) e (fun _ _ _ => e) e (fun _ _ => e) (fun _ _ => e) (fun _ _ => False) False (fun _ _ _ _ => False) v
/-- An operation that hands on no floor but the heap's end. -/
def lowF (f : F) : F := fun ck fl _ T H k => HT.rec (motive := fun _ => Prop) (fun n _ => f ck fl n T H k) H
def loF (lo : Bool) (f : KO) : KO := match lo, f with
  | true, f => f
  | false, .mk f => .mk (lowF f)
def wantK (v : Value) (b : Bool) (p q : Prop) : Prop := onBoolE v (fun c => ifB c (ifB b p q) (ifB b q p)) q
def krun (ck : KC) (fl : Nat) (r : KR) : TT → HT → (TT → HT → Prop) → Prop :=
  KR.rec (motive := fun _ => TT → HT → (TT → HT → Prop) → Prop) (fun T H k => k T H) (fun _ _ _ => False)
    (fun f w _ ih T H k => f ck fl fl T H fun v H => w v T fun T => ih T H k)
    (fun f _ ih T H k => f ck fl fl T H fun _ H => ih T H k)
    (fun g b f w _ ih T H k => g T fun v => wantK v b (f ck fl fl T H fun v H => w v T fun T => ih T H k) (w undef T fun T => ih T H k))
    (fun g b f _ ih T H k => g T fun v => wantK v b (f ck fl fl T H fun _ H => ih T H k) (ih T H k)) r
def cOper (P : Program) (ops : Array Oper) (o : Oper) (lo : Bool) (r : KR) : KR :=
  match loF lo (cop P o.op), o.guard with
  | .mk f, none => match o.dst with
    | some d => if d < 256 then (match cw d with | .mk w => .op f w r) else .bad
    | none => .opn f r
  | .mk f, some (j, b) => match (ops[j]?).bind (·.dst) with
    | some g => match cg (.tmp g), o.dst with
      | .mk g, some d => if d < 256 then (match cw d with | .mk w => .gop g b f w r) else .bad
      | .mk g, none => .gopn g b f r
    | none => .bad
def cRg (P : Program) (ops : Array Oper) : List Oper → KR
  | [] => .nil
  | o :: r => cOper P ops o true (cRg P ops r)
def cDr (P : Program) (ops : Array Oper) (b : Array Nat) : Nat → List Oper → KR
  | _, [] => .nil
  | i, o :: r => cOper P ops o (kindOf o.op == 4 && apartCall ops b i) (cDr P ops b (i + 1) r)
/-- The pairs whose blocks must be found apart are clear of slots beyond the node's. -/
def tmpsOk (ops : Array Oper) : Bool := ops.toList.all fun o => (opTmps o.op).all fun d => Nat.blt d 256
def cDraw (P : Program) (ops : Array Oper) : KR :=
  if drawOk ops (befores ops.toList #[]) && (clashes ops (befores ops.toList #[])).all (fun p => lasting ops p.1 && lasting ops p.2) && tmpsOk ops then cDr P ops (befores ops.toList #[]) 0 ops.toList else .bad
def TT.fn (T : TT) : Temps := fun i => T.get i
def clashK (ops : Array Oper) (l : List (Nat × Nat)) (T : TT) (p : Prop) : Prop :=
  List.rec (motive := fun _ => Prop) p (fun x _ ih => chk (clashOk ops T.fn x) ih) l
/-- Blocks that a call may not touch are taken away, and put back. -/
def lockK (X : List Nat) (H : HT) (k : HT → Prop) : Prop :=
  List.rec (motive := fun _ => HT → Prop) k (fun x _ ih H => HT.rec (motive := fun _ => Prop) (fun n _ => ifB (Nat.blt x n) (setBK H x none ih) (ih H)) H) X H
def unlockK (X : List Nat) (H0 H : HT) (k : HT → Prop) : Prop :=
  List.rec (motive := fun _ => HT → Prop) k (fun x _ ih H => HT.rec (motive := fun _ => Prop) (fun n t => ifB (Nat.blt x n) (getB (pth x) t fun o => setBK H x o ih) (ih H)) H0) X H
def lockC (X : List Nat) (ck : KC) : KC := fun fl f args H k => lockK X H fun H1 => ck fl f args H1 fun v H2 => unlockK X H H2 fun H3 => k v H3
def krunS (P : Program) (ck : KC) (fl : Nat) (ops : Array Oper) (b : Array Nat) (l : List Oper) : Nat → List Nat → List (Nat × List Nat × Nat) → TT → HT → (TT → HT → Prop) → Prop :=
  List.rec (motive := fun _ => Nat → List Nat → List (Nat × List Nat × Nat) → TT → HT → (TT → HT → Prop) → Prop) (fun _ _ _ T H k => k T H)
    (fun o _ ih i X Z T H k => chk (semiChk b i Z (accOf o.op (eval T.fn)))
      (ifB (semiAt ops b i o)
        (krun (lockC X ck) fl (cOper P ops o (kindOf o.op == 4 && (apartCall ops b i || semiC ops b i o)) .nil) T H fun T' H' => ih (Nat.succ i) (if isLoad o.op then accOf o.op (eval T.fn) ++ X else X) ((i, X, HT.rec (motive := fun _ => Nat) (fun n _ => n) H) :: Z) T' H' k)
        (krun ck fl (cOper P ops o (kindOf o.op == 4 && (apartCall ops b i || semiC ops b i o)) .nil) T H fun T' H' => ih (Nat.succ i) (if isLoad o.op then accOf o.op (eval T.fn) ++ X else X) Z T' H' k))) l
/-- A region made ready: its operations; the pairs that must be found apart. -/
inductive KQ | plain (r : KR) | drawn (r : KR) | semi | bad
def creg (P : Program) (ops : Array Oper) (draw : Bool) : KQ := match draw with
  | false => .plain (cRg P ops ops.toList)
  | true => if hasSemi ops (befores ops.toList #[]) then
      if drawOk0 ops (befores ops.toList #[]) && (clashes ops (befores ops.toList #[])).all (fun p => lasting ops p.1 && lasting ops p.2) && tmpsOk ops then .semi else .bad
    else match clashes ops (befores ops.toList #[]) with
      | [] => .plain (cDraw P ops)
      | _ => .drawn (cDraw P ops)
def kreg (P : Program) (ck : KC) (fl : Nat) (ops : Array Oper) (draw : Bool) (T : TT) (H : HT) (k : TT → HT → Prop) : Prop :=
  KQ.rec (motive := fun _ => Prop) (fun r => krun ck fl r T H k) (fun r => krun ck fl r T H fun T H => clashK ops (clashes ops (befores ops.toList #[])) T (k T H))
    (krunS P ck fl ops (befores ops.toList #[]) ops.toList 0 [] [] T H fun T H => clashK ops (clashes ops (befores ops.toList #[])) T (k T H)) False (creg P ops draw)

/-! ### A text -/
abbrev XT := TT → HT → (TT → HT → Prop) → (AExit → TT → HT → Prop) → Prop
def onExit (e : AExit) (n : Prop) (x g : Nat → Prop) (r : Prop) : Prop := AExit.rec (motive := fun _ => Prop) n x g r e
def kloop (a : XT) (m : Nat) (T : TT) (H : HT) (x : AExit → TT → HT → Prop) : Prop :=
  Nat.rec (motive := fun _ => TT → HT → Prop) (fun _ _ => False) (fun _ ih T H => a T H ih x) m T H
/-- A text: what follows behind its end, what follows where it is left. -/
def kexec (P : Program) (ck : KC) (m fl : Nat) (c : Code) : XT :=
  Code.rec (motive := fun _ => XT)
    (fun T H k _ => k T H)
    (fun _ ops draw T H k _ => kreg P ck fl ops draw T H k)
    (fun _ _ a b T H k x => a T H (fun T H => b T H k x) x)
    (fun c _ _ a b T H k x => rd (cg c) T fun v => onBool v fun d => ifB d (a T H k x) (b T H k x))
    (fun id _ a T H k x => a T H k fun e T H => onExit e False (fun i => ifB (Nat.beq i id) (k T H) (x (.exit i) T H)) (fun i => x (.goto i) T H) (x .ret T H))
    (fun _ a T H _ x => kloop a m T H x)
    (fun _ _ _ _ _ _ _ _ _ _ => False)
    (fun id T H _ x => x (.exit id) T H)
    (fun _ _ _ _ _ _ => False)
    (fun _ T H k _ => k T H)
    (fun l T H _ x => x (.goto l) T H)
    (fun T H _ x => x .ret T H)
    (fun _ _ _ _ _ => False) c

inductive KF | no | ext | ok (c : Code) (nt : Nat) (rs : List ResultVar)
def cfun (xb : FuncId → Bool) (P : Program) (f : FuncId) : KF :=
  match P.funcs[f]? with
  | some fn => match bod fn with
    | some c => if okG xb f fn c then (if fn.ntmps ≤ 256 then .ok c fn.ntmps fn.results.toList else .no) else .ext
    | none => .no
  | none => .no
def T0 : TT := N16.all (N16.all undef)
def startK (l : List Value) (k : TT → Prop) : Prop :=
  List.rec (motive := fun _ => Nat → TT → Prop) (fun _ T => k T) (fun v _ ih i T => wr (cw i) v T fun T => forceN (Nat.succ i) fun i => ih i T) l 0 T0
def appF (f : KO) : F := fun ck fl flc T H k => KO.rec (motive := fun _ => Prop) (fun f => f ck fl flc T H k) f
def noK : KC := fun _ _ _ _ _ => False
def resK (P : Program) (T : TT) (H : HT) (rs : List ResultVar) (k : List Value → Prop) : Prop :=
  List.rec (motive := fun _ => (List Value → Prop) → Prop) (fun k => k [])
    (fun r _ ih k => ResultVar.rec (motive := fun _ => Prop) (fun d => rd (cg (.tmp d)) T fun v => ih fun l => k (v :: l))
      (fun a ty => appF (cop P (.load ty (.tmp a))) noK 0 0 T H fun v _ => ih fun l => k (v :: l)) r) rs k
def wrapV (l : List Value) (k : Value → Prop) : Prop :=
  List.rec (motive := fun _ => Prop) (k (.tuple ⟨[]⟩)) (fun v r _ => List.rec (motive := fun _ => Prop) (k v) (fun w r _ => k (.tuple ⟨v :: w :: r⟩)) r) l
def retK (P : Program) (rs : List ResultVar) (k : Value → HT → Prop) (T : TT) (H : HT) : Prop := resK P T H rs fun l => wrapV l fun v => k v H
def kfn (xb : FuncId → Bool) (P : Program) (xk ck : KC) (n : Nat) : KC := fun fl f args H k =>
  KF.rec (motive := fun _ => Prop) False (xk fl f args H k)
    (fun c nt rs => chk (Nat.ble args.length nt) (startK args fun T => kexec P ck n fl c T H (retK P rs k) fun e T H =>
      onExit e False (fun _ => False) (fun _ => False) (retK P rs k T H))) (cfun xb P f)
def kcall (xb : FuncId → Bool) (P : Program) (xk : KC) (n : Nat) : KC := Nat.rec (motive := fun _ => KC) (fun _ _ _ _ _ => False) (fun n ih => kfn xb P xk ih n) n
end Go.Mach.J
