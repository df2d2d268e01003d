/- Functions whose text the machine does not take, told by a formula: slices.AppendSeq of a closure of slices.Chunk; slices.Grow of nil. Plain definitions; no condition. -/
import Derived.Test.YtajjfflbcpkokaaGreatMach
namespace Go.Mach

/-- slices.AppendSeq and the closure of slices.Chunk, by number; slices.Grow. -/
def extA : FuncId := 200
def extC : FuncId := 201
def extG : FuncId := 122

/-- Functions that may write in a region that draws its order. -/
def semiF (f : FuncId) : Bool := Nat.beq f 42 || Nat.beq f 43 || Nat.beq f 45

/-- The functions that are told so. -/
def extB0 (f : FuncId) : Bool := f == extA || f == extG

/-- The parts of a list in a block. -/
def partsA (b o len n : Nat) : List Value :=
  (List.range ((len + n - 1) / n)).map fun k => .slice (some ⟨b, o + k * n, none⟩) (min n (len - k * n)) (min n (len - k * n))

def chunkA (H : AHeap) (s n : Option Value) : Option (Value × AHeap) :=
  match s, n with
  | some (.slice (some ⟨b, o, none⟩) len _), some (.int .i64 (.ofNat m)) =>
    if 1 ≤ len ∧ len ≤ 16777216 ∧ 1 ≤ m ∧ m ≤ 16777216 then
      some (.slice (some ⟨H.length, 0, none⟩) ((len + m - 1) / m) ((len + m - 1) / m), H ++ [⟨partsA b o len m, 1, false, true⟩])
    else none
  | _, _ => none

def extF0 (_P : Program) : Nat → FuncId → Array Value → AHeap → Option (Value × AHeap) := fun _ f args H =>
  match args.toList with
  | [.slice none 0 0, .func (.func g) first cp] =>
    match first.toList, cp.toList with
    | [], [.pointer (some p), .pointer (some q)] => if f = extA ∧ g = extC then chunkA H (cellAt H p) (cellAt H q) else none
    | _, _ => none
  | [.slice none 0 0, .int .i64 n] => if f = extG ∧ 1 ≤ n ∧ n ≤ 1099511627776 then some (.slice (some ⟨H.length, 0, none⟩) 0 0, H ++ [⟨[], 1, false, true⟩]) else none
  | _ => none

/-- A run without arguments that has been carried out: it comes to 'true'. -/
def extW : FuncId := 9
def extB (f : FuncId) : Bool := extB0 f || f == extW
def extF (P : Program) : Nat → FuncId → Array Value → AHeap → Option (Value × AHeap) := fun fl f args H =>
  match args.toList with
  | [] => if f = extW then some (.bool true, H) else none
  | _ => extF0 P fl f args H

end Go.Mach
