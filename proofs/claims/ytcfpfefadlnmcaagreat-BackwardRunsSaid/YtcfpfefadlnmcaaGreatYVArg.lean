/- Part of the proof. No condition. -/
import Derived.Test.YtcfpfefadlnmcaaGreatYVJoin
import Derived.ChangeArms
import Derived.ChangeSlices
import Derived.ChangeShapes
import Derived.WideShapes
namespace Go.Mach
open Go.RowKit Go.ChangeShapes Go.WideShapes
set_option linter.unusedVariables false
set_option linter.unusedSimpArgs false
section
variable {H:Type} {enc:TypeId×Value->H} {P:Program} {w:World} {r:Reach} {base:Nat}
theorem aIL {t e:TypeId}{a:Addr}{len cap:Nat}(ht:P.underlying t=some (.slice e))(h:Cell.okWide P w r base t (.slice (some a) len cap)) :
 a.spot=none/\a.block<w.heap.size:=by
 simp only[Cell.okWide,ht,Cell.ok]at h
 obtain⟨_,_,_,h1,row,cells,h2,_⟩:=h
 refine⟨h1,?_⟩
 unfold World.shape? at h2
 cases hg:w.heap[a.block]? with
 | none=>simp[hg]at h2
 | some o=>exact(Array.getElem?_eq_some_iff.1 hg).1
theorem aJl {t:TypeId}{fs:Array Field}{cs:Array Value}{ts:List TypeId}(ht:P.underlying t=some (.struct fs))(hts:P.cellTypes P.depth t=some ts)(h:Value.okWide P w r base t (.agg cs)){i:Nat}{u:TypeId}{v:Value}
 (hu:ts[i]? = some u) (hv:cs[i]? = some v):Cell.okWide P w r base u v:=by
 simp only[Value.okWide,ht]at h
 obtain⟨cs',e,_,ts',h1,_,h2⟩:=h
 cases e
 rw[hts]at h1
 cases h1
 obtain⟨u',k1,k2⟩:=h2 i v hv
 have:i<ts.length:=(List.getElem?_eq_some_iff.1 hu).1
 rw[Nat.mod_eq_of_lt this,hu]at k1
 cases k1
 exact k2
end
end Go.Mach
