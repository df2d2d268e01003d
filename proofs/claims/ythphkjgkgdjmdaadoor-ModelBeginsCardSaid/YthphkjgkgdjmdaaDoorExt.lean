/- Functions told by a formula, for they are the library's: strconv.Itoa, strconv.Atoi, strings.Cut, strings.Split. Plain definitions; no condition. -/
import Derived.Test.YthphkjgkgdjmdaaDoorMach
import Derived.Lib.ItoaNum
import Derived.Lib.AtoiAll
import Derived.Lib.IndexMore
import Derived.Lib.Split
namespace Go.Mach
open Go

def extI : FuncId := 39
def extZ : FuncId := 42
def extK : FuncId := 17
def extS : FuncId := 41
/-- The type of Atoi's errors. -/
def extE : TypeId := 90

/-- The functions that are told so. -/
def extB (f : FuncId) : Bool := f == extI || f == extZ || f == extK || f == extS

/-- A number's numeral. -/
def itoaS (n : Int) : ByteArray := ⟨(Lib.itoa n).toArray⟩
/-- A string's parts. -/
def splitS (s sep : ByteArray) : List ByteArray := Lib.splitB sep 0 (Lib.countB s sep) s
def cutS (s sep : ByteArray) : ByteArray × ByteArray × Bool := (⟨(Lib.cut s.data.toList sep.data.toList).1.toArray⟩, ⟨(Lib.cut s.data.toList sep.data.toList).2.1.toArray⟩, (Lib.cut s.data.toList sep.data.toList).2.2)
/-- A numeral's number; none: an error. -/
def atoiS (s : ByteArray) : Int × Bool :=
  match Lib.atoiAll s.data.toList with
  | .ok v => (v, true)
  | .range => (Lib.atoiSat s.data.toList, false)
  | _ => (0, false)

def extF (_P : Program) : Nat → FuncId → Array Value → AHeap → Option (Value × AHeap) := fun _ f args H =>
  match args.toList with
  | [.int .i64 n] => if f = extI ∧ -9223372036854775808 ≤ n ∧ n ≤ 9223372036854775807 then some (.string (itoaS n), H) else none
  | [.string s] => if f = extZ ∧ s.size ≤ 281474976710656 then
      match atoiS s with
      | (v, true) => some (.tuple #[.int .i64 v, .nilIface], H)
      | (v, false) => some (.tuple #[.int .i64 v, .iface extE (.pointer (some ⟨H.length, 0, none⟩))], H ++ [⟨[], 0, false, true⟩])
      else none
  | [.string s, .string sep] =>
    if f = extK ∧ s.size < 4294967281 then some (.tuple #[.string (cutS s sep).1, .string (cutS s sep).2.1, .bool (cutS s sep).2.2], H)
    else if f = extS ∧ s.size < 4294967281 ∧ 1 ≤ sep.size then
      some (.slice (some ⟨H.length, 0, none⟩) (splitS s sep).length (splitS s sep).length, H ++ [⟨(splitS s sep).map .string, 1, false, true⟩])
    else none
  | _ => none

end Go.Mach
