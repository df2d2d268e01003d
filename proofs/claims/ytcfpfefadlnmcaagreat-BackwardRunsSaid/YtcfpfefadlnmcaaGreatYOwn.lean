/- Part of the proof. No condition. -/
import Derived.Test.YtcfpfefadlnmcaaGreatYMem
namespace Go.Mach
abbrev Obj:=Option Nat×Blk
def sl (a:Option Nat)(n:Nat):Value := .slice (a.map fun b=>⟨b,0,none⟩) n n
section
variable {H0 H H' H2:aE} {L L2:List Obj} {i j b b':Nat} {B B':Blk} {a:Option Nat} {k:IntKind} {l:List Int} {ex:Bool}
end
section
variable {P:Program} {fl:Nat} {t:aJ} {H0 H:aE} {L:List Obj} {ops:Array Oper} {g:List Bool} {lo:List Oper} {o:Oper} {K:aJ->aE->Prop} {i j b:Nat} {B:Blk} {a:Option Nat} {k:IntKind} {l:List Int} {ex:Bool}
end
end Go.Mach
