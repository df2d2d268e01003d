/- Functions whose text the machine does not take, told by a formula: slices.AppendSeq of a closure of slices.Chunk; slices.Grow of nil; strings.Split, strings.ReplaceAll, strconv.ParseInt. Plain definitions; no condition. -/
import Derived.Test.YtkdgnjdhlbkjnaaGreatDoorMach
import Derived.Lib.Replace
import Derived.Lib.ParseIntB
namespace Go.Mach

/-- slices.AppendSeq and the closure of slices.Chunk, by number; slices.Grow. -/
def extA : FuncId := 277
def extC : FuncId := 278
def extG : FuncId := 221

/-- Functions that may write in a region that draws its order. -/
def semiF (f : FuncId) : Bool := Nat.beq f 114 || Nat.beq f 96 || Nat.beq f 115

def extS : FuncId := 14
def extR : FuncId := 32
def extP : FuncId := 76
/-- The type of ParseInt's errors. -/
def extE : TypeId := 246
/-- The functions that are told so. -/
def extB0 (f : FuncId) : Bool := f == extA || f == extG || f == extS || f == extR || f == extP

/-- A text's parts between blanks. -/
def consH (x : UInt8) : List (List UInt8) → List (List UInt8)
  | [] => [[x]]
  | h :: r => (x :: h) :: r
def splP : List UInt8 → List (List UInt8)
  | [] => [[]]
  | x :: l => match Nat.beq x.toNat 32 with
    | true => [] :: splP l
    | false => consH x (splP l)
def blankB (s : ByteArray) : Bool := match s.data.toList with
  | [c] => Nat.beq c.toNat 32
  | _ => false
def strV (l : List UInt8) : Value := .string ⟨⟨l⟩⟩
def numA (H : AHeap) : Lib.NumEnd Int → Option (Value × AHeap)
  | .ok v => some (.tuple #[.int .i64 v, .nilIface], H)
  | .range => none
  | _ => some (.tuple #[.int .i64 0, .iface extE (.pointer (some ⟨H.length, 0, none⟩))], H ++ [⟨[], 0, false, true⟩])

/-- The parts of a list in a block. -/
def partsA (b o len n : Nat) : List Value :=
  (List.range ((len + n - 1) / n)).map fun k => .slice (some ⟨b, o + k * n, none⟩) (min n (len - k * n)) (min n (len - k * n))

def chunkA (H : AHeap) (s n : Option Value) : Option (Value × AHeap) :=
  match s, n with
  | some (.slice (some ⟨b, o, none⟩) len _), some (.int .i64 (.ofNat m)) =>
    if 1 ≤ len ∧ len ≤ 16777216 ∧ 1 ≤ m ∧ m ≤ 16777216 then
      some (.slice (some ⟨H.length, 0, none⟩) ((len + m - 1) / m) ((len + m - 1) / m), H ++ [⟨partsA b o len m, 1, false, true⟩])
    else none
  | _, _ => none

def extF0 (_P : Program) : Nat → FuncId → Array Value → AHeap → Option (Value × AHeap) := fun _ f args H =>
  match args.toList with
  | [.slice none 0 0, .func (.func g) first cp] =>
    match first.toList, cp.toList with
    | [], [.pointer (some p), .pointer (some q)] => if f = extA ∧ g = extC then chunkA H (cellAt H p) (cellAt H q) else none
    | _, _ => none
  | [.slice none 0 0, .int .i64 n] => if f = extG ∧ 1 ≤ n ∧ n ≤ 1099511627776 then some (.slice (some ⟨H.length, 0, none⟩) 0 0, H ++ [⟨[], 1, false, true⟩]) else none
  | [.string s, .string sep] => if f = extS ∧ s.size < 4294967281 ∧ blankB sep = true then
      some (.slice (some ⟨H.length, 0, none⟩) (splP s.data.toList).length (splP s.data.toList).length, H ++ [⟨(splP s.data.toList).map strV, 1, false, true⟩]) else none
  | [.string s, .string o, .string n] => if f = extR ∧ s.size ≤ 1048576 ∧ n.size ≤ 1048576 ∧ 1 ≤ o.size then some (.string ⟨⟨Lib.replaceAll s.data.toList o.data.toList n.data.toList⟩⟩, H) else none
  | [.string s, .int .i64 a, .int .i64 b] => if f = extP ∧ s.size ≤ 281474976710656 ∧ a = 10 ∧ b = 64 then numA H (Lib.parseIntB 64 s.data.toList) else none
  | _ => none

/-- A run without arguments that has been carried out: it comes to 'true'. -/
def extW : FuncId := 11
def extB (f : FuncId) : Bool := extB0 f || f == extW
def extF (P : Program) : Nat → FuncId → Array Value → AHeap → Option (Value × AHeap) := fun fl f args H =>
  match args.toList with
  | [] => if f = extW then some (.bool true, H) else none
  | _ => extF0 P fl f args H

end Go.Mach
