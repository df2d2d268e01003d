/- Functions told by a formula, for they are the library's: strconv.Itoa, strings.Join. Plain definitions; no condition. -/
import Derived.Test.YtejbkafligpmbaaDoorMach
import Derived.Lib.Join
import Derived.Lib.ItoaNum
namespace Go.Mach
open Go

/-- strconv.Itoa and strings.Join, by number. -/
def extI : FuncId := 28
def extJ : FuncId := 29

/-- The functions that are told so. -/
def extB (f : FuncId) : Bool := f == extI || f == extJ

/-- The strings of a row. -/
def strsA (H : AHeap) (b o : Nat) : Nat → Option (List ByteArray)
  | 0 => some []
  | n + 1 => match strsA H b o n, cellAt H ⟨b, o + n, none⟩ with
    | some l, some (.string s) => some (l ++ [s])
    | _, _ => none

/-- A number's numeral. -/
def itoaS (n : Int) : ByteArray := ⟨(Lib.itoa n).toArray⟩
/-- Strings, joined. -/
def joinS (l : List ByteArray) (sep : ByteArray) : ByteArray := ⟨(Lib.join (l.map (·.data.toList)) sep.data.toList).toArray⟩

def extF (_P : Program) : Nat → FuncId → Array Value → AHeap → Option (Value × AHeap) := fun _ f args H =>
  match args.toList with
  | [.int .i64 n] => if f = extI ∧ -9223372036854775808 ≤ n ∧ n ≤ 9223372036854775807 then some (.string (itoaS n), H) else none
  | [.slice a len _, .string sep] => if f = extJ then
      match len, a with
      | 0, _ => some (.string ⟨#[]⟩, H)
      | len, some ⟨b, o, none⟩ => match strsA H b o len with
        | some l => if len ≤ 140737488355328 ∧ (joinS l sep).size ≤ 140737488355328 then some (.string (joinS l sep), H) else none
        | none => none
      | _, _ => none
      else none
  | _ => none

end Go.Mach
