/- Part of the proof. No condition. -/
import Derived.Test.YtcfpfefadlnmcaaGreatYMach
namespace Go.Mach
open Go
def aLB:FuncId:=130
def aOg (f:FuncId):Bool:=f==aLB
def YJ (_P:Program):Nat->FuncId->Array Value->aE->Option (Value×aE):=fun _ f args H =>
 match args.toList with
 | [.slice none 0 0,.int .i64 n]=>if f=aLB/\1<=n/\n<=1099511627776 then some (.slice (some ⟨H.length,0,none⟩) 0 0,H++[⟨[],1,false,true⟩])else none
 | _=>none
end Go.Mach
