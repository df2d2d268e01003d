/- Functions whose text the machine does not take, told by a formula: slices.AppendSeq of a closure of slices.Chunk. Plain definitions; no condition. -/
import Derived.Test.YtpbegbmmhpencaaMach
namespace Go.Mach

/-- slices.AppendSeq and the closure of slices.Chunk, by number. -/
def extA : FuncId := 36
def extC : FuncId := 37

/-- The parts of a list in a block. -/
def partsA (b o len n : Nat) : List Value :=
  (List.range ((len + n - 1) / n)).map fun k => .slice (some ⟨b, o + k * n, none⟩) (min n (len - k * n)) (min n (len - k * n))

def chunkA (H : AHeap) (s n : Option Value) : Option (Value × AHeap) :=
  match s, n with
  | some (.slice (some ⟨b, o, none⟩) len _), some (.int .i64 (.ofNat m)) =>
    if 1 ≤ len ∧ len ≤ 16777216 ∧ 1 ≤ m ∧ m ≤ 16777216 then
      some (.slice (some ⟨H.length, 0, none⟩) ((len + m - 1) / m) ((len + m - 1) / m), H ++ [⟨partsA b o len m, 1, false, true⟩])
    else none
  | _, _ => none

def extF (P : Program) : Nat → FuncId → Array Value → AHeap → Option (Value × AHeap) := fun _ f args H =>
  match args.toList with
  | [.slice none 0 0, .func (.func g) first cp] =>
    match first.toList, cp.toList with
    | [], [.pointer (some p), .pointer (some q)] => if f = extA ∧ g = extC then chunkA H (cellAt H p) (cellAt H q) else none
    | _, _ => none
  | _ => none

end Go.Mach
