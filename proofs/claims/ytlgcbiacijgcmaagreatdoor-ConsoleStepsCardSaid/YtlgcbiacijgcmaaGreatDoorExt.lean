/- Functions whose text the machine does not take, told by a formula: slices.AppendSeq of a closure of slices.Chunk; slices.Grow of nil; strings.Split, strings.ReplaceAll, strconv.ParseInt. Plain definitions; no condition. -/
import Derived.Test.YtlgcbiacijgcmaaGreatDoorMach
import Derived.Lib.Replace
import Derived.Lib.ParseIntB
import Derived.Lib.Join
import Derived.Lib.ItoaNum
namespace Go.Mach

/-- slices.AppendSeq and the closure of slices.Chunk, by number; slices.Grow. -/
def extA : FuncId := 273
def extC : FuncId := 274
def extG : FuncId := 217

/-- Functions that may write in a region that draws its order. -/
def semiF (f : FuncId) : Bool := Nat.beq f 5 || Nat.beq f 110 || Nat.beq f 92 || Nat.beq f 111

def extS : FuncId := 10
def extR : FuncId := 28
def extP : FuncId := 72
/-- The type of ParseInt's errors. -/
def extE : TypeId := 242
def extI : FuncId := 22
def extJ : FuncId := 126
/-- The functions that are told so. -/
def extB0 (f : FuncId) : Bool := f == extI || f == extJ || f == extA || f == extG || f == extS || f == extR || f == extP

/-- A text's parts between blanks. -/
def consH (x : UInt8) : List (List UInt8) → List (List UInt8)
  | [] => [[x]]
  | h :: r => (x :: h) :: r
def splP : List UInt8 → List (List UInt8)
  | [] => [[]]
  | x :: l => match Nat.beq x.toNat 32 with
    | true => [] :: splP l
    | false => consH x (splP l)
def blankB (s : ByteArray) : Bool := match s.data.toList with
  | [c] => Nat.beq c.toNat 32
  | _ => false
def strV (l : List UInt8) : Value := .string ⟨⟨l⟩⟩
def numA (H : AHeap) : Lib.NumEnd Int → Option (Value × AHeap)
  | .ok v => some (.tuple #[.int .i64 v, .nilIface], H)
  | .range => none
  | _ => some (.tuple #[.int .i64 0, .iface extE (.pointer (some ⟨H.length, 0, none⟩))], H ++ [⟨[], 0, false, true⟩])

/-- A small number's numeral. -/
def dig3 (u : Nat) : List UInt8 := match Nat.blt u 10 with
  | true => [UInt8.ofNat (48 + u)]
  | false => match Nat.blt u 100 with
    | true => [UInt8.ofNat (48 + u / 10), UInt8.ofNat (48 + u % 10)]
    | false => [UInt8.ofNat (48 + u / 100), UInt8.ofNat (48 + u / 10 % 10), UInt8.ofNat (48 + u % 10)]
def itoa3 : Int → List UInt8
  | .ofNat u => dig3 u
  | .negSucc u => 45 :: dig3 (u + 1)
def small3 : Int → Bool
  | .ofNat u => Nat.blt u 1000
  | .negSucc u => Nat.blt u 999
/-- The strings of a row. -/
def strsA (H : AHeap) (b o : Nat) : Nat → Option (List ByteArray)
  | 0 => some []
  | n + 1 => match strsA H b o n, cellAt H ⟨b, o + n, none⟩ with
    | some l, some (.string s) => some (l ++ [s])
    | _, _ => none
/-- Strings, joined. -/
def joinS (l : List ByteArray) (sep : ByteArray) : ByteArray := ⟨⟨Lib.join (l.map (·.data.toList)) sep.data.toList⟩⟩
/-- The parts of a list in a block. -/
def partsA (b o len n : Nat) : List Value :=
  (List.range ((len + n - 1) / n)).map fun k => .slice (some ⟨b, o + k * n, none⟩) (min n (len - k * n)) (min n (len - k * n))

def chunkA (H : AHeap) (s n : Option Value) : Option (Value × AHeap) :=
  match s, n with
  | some (.slice (some ⟨b, o, none⟩) len _), some (.int .i64 (.ofNat m)) =>
    if 1 ≤ len ∧ len ≤ 16777216 ∧ 1 ≤ m ∧ m ≤ 16777216 then
      some (.slice (some ⟨H.length, 0, none⟩) ((len + m - 1) / m) ((len + m - 1) / m), H ++ [⟨partsA b o len m, 1, false, true⟩])
    else none
  | _, _ => none

def extF0 (_P : Program) : Nat → FuncId → Array Value → AHeap → Option (Value × AHeap) := fun _ f args H =>
  match args.toList with
  | [.slice none 0 0, .func (.func g) first cp] =>
    match first.toList, cp.toList with
    | [], [.pointer (some p), .pointer (some q)] => if f = extA ∧ g = extC then chunkA H (cellAt H p) (cellAt H q) else none
    | _, _ => none
  | [.slice none 0 0, .int .i64 n] => if f = extG ∧ 1 ≤ n ∧ n ≤ 1099511627776 then some (.slice (some ⟨H.length, 0, none⟩) 0 0, H ++ [⟨[], 1, false, true⟩]) else none
  | [.string s, .string sep] => if f = extS ∧ s.size < 4294967281 ∧ blankB sep = true then
      some (.slice (some ⟨H.length, 0, none⟩) (splP s.data.toList).length (splP s.data.toList).length, H ++ [⟨(splP s.data.toList).map strV, 1, false, true⟩]) else none
  | [.string s, .string o, .string n] => if f = extR ∧ s.size ≤ 1048576 ∧ n.size ≤ 1048576 ∧ 1 ≤ o.size then some (.string ⟨⟨Lib.replaceAll s.data.toList o.data.toList n.data.toList⟩⟩, H) else none
  | [.string s, .int .i64 a, .int .i64 b] => if f = extP ∧ s.size ≤ 281474976710656 ∧ a = 10 ∧ b = 64 then numA H (Lib.parseIntB 64 s.data.toList) else none
  | [.int .i64 n] => if f = extI ∧ small3 n = true then some (.string ⟨⟨itoa3 n⟩⟩, H) else none
  | [.slice (some ⟨b, o, none⟩) len _, .string sep] => if f = extJ ∧ 1 ≤ len ∧ len ≤ 140737488355328 then
      match strsA H b o len with
      | some l => if (joinS l sep).size ≤ 140737488355328 then some (.string (joinS l sep), H) else none
      | none => none
      else none
  | _ => none

/-- A run without arguments that has been carried out: it comes to 'true'. -/
def extW : FuncId := 6
def extB (f : FuncId) : Bool := extB0 f || f == extW
def extF (P : Program) : Nat → FuncId → Array Value → AHeap → Option (Value × AHeap) := fun fl f args H =>
  match args.toList with
  | [] => if f = extW then some (.bool true, H) else none
  | _ => extF0 P fl f args H

end Go.Mach
