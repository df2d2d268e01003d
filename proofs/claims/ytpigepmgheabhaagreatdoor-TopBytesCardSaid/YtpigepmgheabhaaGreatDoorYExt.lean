/- Part of the proof. No condition. -/
import Derived.Test.YtpigepmgheabhaaGreatDoorYMach
import Derived.Lib.Replace
import Derived.Lib.ParseIntB
import Derived.Lib.Join
import Derived.Lib.ItoaNum
import Derived.Lib.AtoiAll
import Derived.Lib.IndexMore
import Derived.Lib.Split
namespace Go.Mach
def extA:FuncId:=284
def extC:FuncId:=285
def extG:FuncId:=228
def aHj (f:FuncId):Bool:=Nat.beq f 12||Nat.beq f 34||Nat.beq f 35||Nat.beq f 36
def extS:FuncId:=45
def extR:FuncId:=81
def extP:FuncId:=117
def aAN:TypeId:=238
def AC:FuncId:=54
def aID:FuncId:=156
def aGp (f:FuncId):Bool:=f==AC||f==aID||f==extA||f==extG||f==extS||f==extR||f==extP
def aE1 (x:UInt8):List (List UInt8)->List (List UInt8)
 | []=>[[x]]
 | h::r=>(x::h)::r
def pP:List UInt8->List (List UInt8)
 | []=>[[]]
 | x::l=>match Nat.beq x.toNat 32 with
   | true=>[]::pP l
   | false=>aE1 x (pP l)
def AB (s:ByteArray):Bool:=match s.data.toList with
 | [c]=>Nat.beq c.toNat 32
 | _=>false
def OW (l:List UInt8):Value := .string ⟨⟨l⟩⟩
def aFX (H:aD):Lib.NumEnd Int->Option (Value×aD)
 | .ok v=>some (.tuple #[.int .i64 v,.nilIface],H)
 | .range=>none
 | _=>some (.tuple #[.int .i64 0,.iface aAN (.pointer (some ⟨H.length,0,none⟩))],H++[⟨[],0,false,true⟩])
def aDn (u:Nat):List UInt8:=match Nat.blt u 10 with
 | true=>[UInt8.ofNat (48+u)]
 | false=>match Nat.blt u 100 with
   | true=>[UInt8.ofNat (48+u / 10),UInt8.ofNat (48+u%10)]
   | false=>[UInt8.ofNat (48+u / 100),UInt8.ofNat (48+u / 10%10),UInt8.ofNat (48+u%10)]
def X1:Int->List UInt8
 | .ofNat u=>aDn u
 | .negSucc u=>45::aDn (u+1)
def BA:Int->Bool
 | .ofNat u=>Nat.blt u 1000
 | .negSucc u=>Nat.blt u 999
def QU (H:aD)(b o:Nat):Nat->Option (List ByteArray)
 | 0=>some []
 | n+1=>match QU H b o n,qR H ⟨b,o+n,none⟩with
   | some l,some (.string s)=>some (l++[s])
   | _,_=>none
def aE9 (l:List ByteArray)(sep:ByteArray):ByteArray:=⟨⟨Lib.join (l.map (·.data.toList)) sep.data.toList⟩⟩
def uM (b o len n:Nat):List Value :=
 (List.range ((len+n-1) / n)).map fun k => .slice (some ⟨b,o+k*n,none⟩) (min n (len-k*n)) (min n (len-k*n))
def QF (H:aD)(s n:Option Value):Option (Value×aD) :=
 match s,n with
 | some (.slice (some ⟨b,o,none⟩) len _),some (.int .i64 (.ofNat m)) =>
   if 1<=len/\len<=16777216/\1<=m/\m<=16777216 then
    some (.slice (some ⟨H.length,0,none⟩) ((len+m-1) / m) ((len+m-1) / m),H++[⟨uM b o len m,1,false,true⟩])
   else none
 | _,_=>none
def lA (_P:Program):Nat->FuncId->Array Value->aD->Option (Value×aD):=fun _ f args H =>
 match args.toList with
 | [.slice none 0 0,.func (.func g) first cp] =>
   match first.toList,cp.toList with
   | [],[.pointer (some p),.pointer (some q)]=>if f=extA/\g=extC then QF H (qR H p) (qR H q)else none
   | _,_=>none
 | [.slice none 0 0,.int .i64 n]=>if f=extG/\1<=n/\n<=1099511627776 then some (.slice (some ⟨H.length,0,none⟩) 0 0,H++[⟨[],1,false,true⟩])else none
 | [.string s,.string sep]=>if f=extS/\s.size<4294967281/\AB sep=true then
     some (.slice (some ⟨H.length,0,none⟩) (pP s.data.toList).length (pP s.data.toList).length,H++[⟨(pP s.data.toList).map OW,1,false,true⟩])else none
 | [.string s,.string o,.string n]=>if f=extR/\s.size<=1048576/\n.size<=1048576/\1<=o.size then some (.string ⟨⟨Lib.replaceAll s.data.toList o.data.toList n.data.toList⟩⟩,H)else none
 | [.string s,.int .i64 a,.int .i64 b]=>if f=extP/\s.size<=281474976710656/\a=10/\b=64 then aFX H (Lib.parseIntB 64 s.data.toList)else none
 | [.int .i64 n]=>if f=AC/\BA n=true then some (.string ⟨⟨X1 n⟩⟩,H)else none
 | [.slice (some ⟨b,o,none⟩) len _,.string sep]=>if f=aID/\1<=len/\len<=140737488355328 then
     match QU H b o len with
     | some l=>if (aE9 l sep).size<=140737488355328 then some (.string (aE9 l sep),H)else none
     | none=>none
     else none
 | _=>none
def VF:FuncId:=90
def GN:FuncId:=13
def itoaS (n:Int):ByteArray:=⟨(Lib.itoa n).toArray⟩
def splitS (s sep:ByteArray):List ByteArray:=Lib.splitB sep 0 (Lib.countB s sep) s
def cutS (s sep:ByteArray):ByteArray×ByteArray×Bool:=(⟨(Lib.cut s.data.toList sep.data.toList).1.toArray⟩,⟨(Lib.cut s.data.toList sep.data.toList).2.1.toArray⟩,(Lib.cut s.data.toList sep.data.toList).2.2)
def atoiS (s:ByteArray):Int×Bool :=
 match Lib.atoiAll s.data.toList with
 | .ok v=>(v,true)
 | .range=>(Lib.atoiSat s.data.toList,false)
 | _=>(0,false)
def TB (_P:Program):Nat->FuncId->Array Value->aD->Option (Value×aD):=fun _ f args H =>
 match args.toList with
 | [.int .i64 n]=>if f=AC /\ -9223372036854775808<=n/\n<=9223372036854775807 then some (.string (itoaS n),H)else none
 | [.string s]=>if f=VF/\s.size<=281474976710656 then
     match atoiS s with
     | (v,true)=>some (.tuple #[.int .i64 v,.nilIface],H)
     | (v,false)=>some (.tuple #[.int .i64 v,.iface aAN (.pointer (some ⟨H.length,0,none⟩))],H++[⟨[],0,false,true⟩])
     else none
 | [.string s,.string sep] =>
   if f=GN/\s.size<4294967281 then some (.tuple #[.string (cutS s sep).1,.string (cutS s sep).2.1,.bool (cutS s sep).2.2],H)
   else if f=extS/\s.size<4294967281/\1<=sep.size then
    some (.slice (some ⟨H.length,0,none⟩) (splitS s sep).length (splitS s sep).length,H++[⟨(splitS s sep).map .string,1,false,true⟩])
   else none
 | _=>none
def aEN:FuncId:=4
def aIV (f:FuncId):Bool:=aGp f||f==VF||f==GN||f==aEN
def IF (P:Program):Nat->FuncId->Array Value->aD->Option (Value×aD):=fun fl f args H =>
 match lA P fl f args H with
 | some r=>some r
 | none=>TB P fl f args H
def zA (P:Program):Nat->FuncId->Array Value->aD->Option (Value×aD):=fun fl f args H =>
 match args.toList with
 | []=>if f=aEN then some (.bool true,H)else none
 | _=>IF P fl f args H
end Go.Mach
