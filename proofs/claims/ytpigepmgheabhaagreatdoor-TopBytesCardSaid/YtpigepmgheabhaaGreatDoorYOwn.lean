/- Part of the proof. No condition. -/
import Derived.Test.YtpigepmgheabhaaGreatDoorYMem
namespace Go.Mach
abbrev Obj:=Option Nat×Blk
def sl (a:Option Nat)(n:Nat):Value := .slice (a.map fun b=>⟨b,0,none⟩) n n
def ib (k:IntKind)(l:List Int)(ex:Bool):Blk:=⟨l.map (Value.int k),1,ex,true⟩
section
variable {H0 H H' H2:aD} {L L2:List Obj} {i j b b':Nat} {B B':Blk} {a:Option Nat} {k:IntKind} {l:List Int} {ex:Bool}
end
section
variable {P:Program} {fl:Nat} {t:aE} {H0 H:aD} {L:List Obj} {ops:Array Oper} {g:List Bool} {lo:List Oper} {o:Oper} {K:aE->aD->Prop} {i j b:Nat} {B:Blk} {a:Option Nat} {k:IntKind} {l:List Int} {ex:Bool}
end
end Go.Mach
