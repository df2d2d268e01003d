/- Part of the proof. No condition. -/
import Derived.Test.YtcfpfefadlnmcaaGreatYVFun3
import Derived.Test.YtcfpfefadlnmcaaGreatYBridge
import Derived.RowKit3
namespace Go.Mach
open Go.RowKit
theorem Y8 {n0:Nat}{F:Fz}:f7 false n0 F=F:=by
 funext b
 unfold f7
 simp
theorem aHB {P:Program}{w:World}{r:Reach}{base:Nat}{t e:TypeId}{a:Addr}{len cap:Nat}(ht:P.underlying t=some (.slice e))(h:Value.okWide P w r base t (.slice (some a) len cap)) :
 a.spot=none/\a.block<w.heap.size:=by
 simp only[Value.okWide,ht,Cell.okWide,Cell.ok]at h
 obtain⟨_,_,_,h1,row,cells,h2,_⟩:=h
 refine⟨h1,?_⟩
 unfold World.shape? at h2
 cases hg:w.heap[a.block]? with
 | none=>simp[hg]at h2
 | some o=>exact(Array.getElem?_eq_some_iff.1 hg).1
theorem law_calls {P:Program}{w:World}(hX:kW w.heap.size w P (YJ P))(hm:P.follows .mixedOrders=true){f:FuncId}{args:List VV}{avs:List Value}
 (h:rX P f args fun sl=>sl=[(false,[.pl (.bool true)])]) (ha:All2 (R2 (aKq (vT w) VN)) args avs) (hv:∀ x∈avs,VRel (BV w) x x) :
 Calls P f avs.toArray w fun e w'=>e = .returned (.bool true)/\Below w.heap.size w w':=by
 obtain⟨N,v,H',h1,sl,rfl,hres⟩:=h (fun b=>blk? (vT w) b) w.heap.size (vT w) avs (fun b B e=>e) (by rw[GU];exact aR _) ha
 rcases hres with⟨c,is,vs,_,hx,_,rfl⟩|⟨f',l,c,e,_⟩
 case inr=>cases e
 have hvs:F1 vs = .bool true:=by
  cases hx with
  | s h t =>
    cases t
    cases h with
    | one h t =>
      cases h with
      | pl h t=>rfl
 rw[hvs]at h1
 exact aEB hX hm (by simpa using hv) h1 rfl
theorem law_true {b:Bool}(h:b=true):aOX [(false,.bool)] (b,())=[(false,[.pl (.bool true)])]:=by subst h;rfl
theorem aM8 {k:IntKind}{n:Int}(h:(Lit.int k n).wf=true):k.min<=n/\n<=k.max:=by
 simpa [Lit.wf] using h
theorem Loop.range {S:Type}{B:S->(S->Prop)->Prop}(n:Nat)(f:Nat->S)(I:Nat->Prop)(h0:I 0)(step:∀ i,i<n->I i->∀ X,(I (i+1)->X (f (i+1)))->B (f i) X)(last:I n->∀ X,B (f n) X):Loop B (f 0):=by
 refine Loop.inv (n:=n) (fun m s=>∃ i,i+m=n/\I i/\s=f i) ⟨0,by omega,h0,rfl⟩ ?_
 rintro m s X ⟨i,hi,hI,rfl⟩ hX
 by_cases h:i<n
 ·exact step i h hI X fun hI'=>hX (m-1) _ (by omega) ⟨i+1,by omega,hI',rfl⟩
 ·have:i=n:=by omega
  subst this
  exact last hI X
end Go.Mach
