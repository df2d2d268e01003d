/- Part of the proof. No condition. -/
import Derived.Test.YtpigepmgheabhaaGreatDoorYVFun3
import Derived.Test.YtpigepmgheabhaaGreatDoorYBridge
import Derived.RowKit3
import Derived.ChangeArms
import Derived.ChangeSlices
import Derived.ChangeShapes
import Derived.WideShapes
import Derived.SizedLaws
import Derived.OpenShut
namespace Go.Mach
open Go.RowKit
theorem WP {n0:Nat->Bool}{F:Fz}:cA false n0 F=F:=by
 funext b
 unfold cA
 simp
theorem U4 {P:Program}{w:World}{r:Reach}{base:Nat}{t e:TypeId}{a:Addr}{len cap:Nat}(ht:P.underlying t=some (.slice e))(h:Value.okWide P w r base t (.slice (some a) len cap)) :
 a.spot=none/\a.block<w.heap.size:=by
 simp only[Value.okWide,ht,Cell.okWide,Cell.ok]at h
 obtain⟨_,_,_,h1,row,cells,h2,_⟩:=h
 refine⟨h1,?_⟩
 unfold World.shape? at h2
 cases hg:w.heap[a.block]? with
 | none=>simp[hg]at h2
 | some o=>exact(Array.getElem?_eq_some_iff.1 hg).1
theorem law_calls {P:Program}{w:World}(hX:CallerSound w.heap.size w P (zA P))(hm:P.follows .mixedOrders=true){f:FuncId}{args:List VV}{avs:List Value}
 (h:fH P f args fun sl=>sl=[(false,[.pl (.bool true)])]) (ha:All2 (R2 (aG1 (mW w) tP)) args avs) (hv:∀ x∈avs,VRel (tK w) x x) :
 Calls P f avs.toArray w fun e w'=>e = .returned (.bool true)/\Below w.heap.size w w':=by
 obtain⟨N,v,H',h1,sl,rfl,hres⟩:=h (fun b=>blk? (mW w) b) w.heap.size (mW w) avs (fun b B e=>e) (by rw[s6];exact aF _) ha
 rcases hres with⟨c,is,vs,_,hx,_,rfl⟩|⟨f',l,c,e,_⟩
 case inr=>cases e
 have hvs:iE vs = .bool true:=by
  cases hx with
  | s h t =>
    cases t
    cases h with
    | one h t =>
      cases h with
      | pl h t=>rfl
 rw[hvs]at h1
 exact PS hX hm (by simpa using hv) h1 rfl
theorem law_true {b:Bool}(h:b=true):aHR [(false,.bool)] (b,())=[(false,[.pl (.bool true)])]:=by subst h;rfl
theorem aGQ {k:IntKind}{n:Int}(h:(Lit.int k n).wf=true):k.min<=n/\n<=k.max:=by
 simpa [Lit.wf] using h
theorem Loop.range {S:Type}{B:S->(S->Prop)->Prop}(n:Nat)(f:Nat->S)(I:Nat->Prop)(h0:I 0)(step:∀ i,i<n->I i->∀ X,(I (i+1)->X (f (i+1)))->B (f i) X)(last:I n->∀ X,B (f n) X):Loop B (f 0):=by
 refine Loop.inv (n:=n) (fun m s=>∃ i,i+m=n/\I i/\s=f i) ⟨0,by omega,h0,rfl⟩ ?_
 rintro m s X ⟨i,hi,hI,rfl⟩ hX
 by_cases h:i<n
 ·exact step i h hI X fun hI'=>hX (m-1) _ (by omega) ⟨i+1,by omega,hI',rfl⟩
 ·have:i=n:=by omega
  subst this
  exact last hI X
end Go.Mach

namespace Go.Mach
open Go.RowKit Go.ChangeShapes Go.WideShapes
set_option linter.unusedVariables false
set_option linter.unusedSimpArgs false
section
variable {H:Type} {enc:TypeId×Value->H} {P:Program} {w:World} {r:Reach} {base:Nat}
end
end Go.Mach

namespace Go.Mach
open Go.RowKit Go.ChangeShapes Go.WideShapes
set_option linter.unusedVariables false
set_option linter.unusedSimpArgs false
section
variable {H:Type} {enc:TypeId×Value->H} {P:Program} {w:World} {r:Reach} {base:Nat}
end
end Go.Mach
namespace Go.Mach
open Go.RowKit Go.ChangeShapes Go.WideShapes
set_option linter.unusedVariables false
set_option linter.unusedSimpArgs false
section
variable {H:Type} {enc:TypeId×Value->H} {P:Program} {w:World} {r:Reach} {base:Nat}
end
end Go.Mach

namespace Go.Mach
open Go.RowKit Go.ChangeShapes Go.WideShapes
set_option linter.unusedVariables false
set_option linter.unusedSimpArgs false
def yK:Ty->Nat
 | .int k=>k.bits / 8
 | .bool=>1
 | .str=>16
 | .flt=>8
 | .cpx=>16
 | .slc _=>24
 | .ref _=>8
 | .unit=>0
 | .pair a b=>yK a+yK b
def U2 (P:Program)(f:TypeId->Ty->Bool):List Field->Nat->Ty->Bool
 | [],_,_=>false
 | [fl],off,T=>decide (fl.offset=off)&&decide (P.cellsOf fl.type=T.w)&&f fl.type T
 | fl::r,off,.pair A B=>decide (fl.offset=off)&&decide (P.cellsOf fl.type=A.w)&&f fl.type A&&U2 P f r (off+A.w) B
 | _,_,_=>false
def KI (P:Program)(f:TypeId->Ty->Bool)(e:TypeId):Nat->Ty->Bool
 | 0,_=>false
 | 1,T=>decide (P.cellsOf e=T.w)&&f e T
 | m+2,.pair A B=>decide (P.cellsOf e=A.w)&&f e A&&KI P f e (m+1) B
 | _,_=>false
def aAF (P:Program):Nat->TypeId->Ty->Bool
 | 0,_,_=>false
 | n+1,t,T=>match P.underlying t with
   | some (.int k)=>(match T with | .int k'=>decide (k'=k)|_=>false)
   | some .bool=>(match T with | .bool=>true|_=>false)
   | some (.slice e)=>(match T with | .slc E=>decide (P.cellsOf e=E.w)&&decide (0<E.w)&&decide (yK E<=P.bytesOf e)&&aAF P n e E|_=>false)
   | some (.struct fs)=>decide (P.cellsOf t=T.w)&&U2 P (aAF P n) fs.toList 0 T
   | some (.array m e)=>decide (P.cellsOf t=T.w)&&KI P (aAF P n) e m T
   | some .string=>(match T with | .str=>true|_=>false)
   | _=>false
def CH:(T:Ty)->T.den->Prop
 | .int k,n=>(Lit.int k n).wf=true
 | .bool,_=>True
 | .str,s=>s.size<=reachBytes
 | .flt,_=>True
 | .cpx,_=>True
 | .slc E,l=>l.length*yK E<=reachBytes/\∀ x∈l,CH E x
 | .ref _,_=>True
 | .unit,_=>True
 | .pair a b,x=>CH a x.1/\CH b x.2
open Classical in
noncomputable def i6 (w:World)(v:Value):Value:=if VRel (tK w) v v then v else if PL v then aBu else aHV
theorem lV {w:World}{v:Value}(h:VRel (tK w) v v):i6 w v=v:=aA h
theorem aAB {w:World}{c:Array Value}{e:TypeId}{fz:Nat×Nat}:(nC w (.cells c e fz)).cells=c.toList.map (i6 w):=rfl
theorem Q9 {w:World}{a:Addr}{v:Value}(h:w.cell? a=some v):a.spot=none/\∃ c e fz,w.heap[a.block]? = some (.cells c e fz)/\c[a.off]? = some v:=by
 unfold World.cell? at h
 split at h
 ·rename_i c e fz hg
  split at h
  ·cases h
  ·rename_i hs
   exact⟨by simpa using hs,c,e,fz,hg,h⟩
 ·cases h
theorem ZO {w:World}{o m:Nat}{c:Array Value}{e:TypeId}{fz:Nat×Nat}{cs:List Value}(hl:cs.length=m)(hm:0<m)(h:∀ j,j<m->c[o+j]? = cs[j]?):InB (nC w (.cells c e fz)).cells o m (cs.map (i6 w)):=by
 rw[aAB]
 have hb:o+m<=c.size:=by
  have:=h (m-1) (by omega)
  rw[aM (by omega)]at this
  have:=(Array.getElem?_eq_some_iff.1 this).1
  omega
 refine⟨by simpa using hb,?_⟩
 apply wQ
 intro j
 rw[List.getElem?_take]
 by_cases hj:j<m
 ·rw[aA hj,q8,b8,b8,nF,h j hj]
 ·rw[aC hj,qX (by simp;omega)]
section
variable {H:Type} {enc:TypeId×Value->H} {P:Program} {w:World} {r:Reach} {base:Nat}
theorem xO {e:TypeId}:∀ {l:List (DataW H)} {d:DataW H},d∈l->∀ n∈d.weights P e,n∈DataW.weightsAll P e l
 | _::l,d,hd,n,hn=>by
   simp only[DataW.weightsAll,AD]
   rcases List.mem_cons.1 hd with rfl|hd
   ·exact .inl hn
   ·exact .inr (xO hd n hn)
noncomputable abbrev FW (w:World):Fz:=fun b=>blk? (mW w) b
theorem W2 {f:TypeId->Ty->Bool}{fuel:Nat}{cs:List Value}
 (IH:∀ (t:TypeId) (T:Ty) (cs:List Value) (x:DataW H×List MemPlace),f t T=true->DataW.trod enc P w 0 (fun _=>true) true fuel t cs=some x->(∀ q∈x.1.weights P t,q<=reachBytes)->∃ y:T.den,RT (FW w) T y (cs.map (i6 w))/\CH T y) :
 ∀ (l:List Field) (off:Nat) (T:Ty),U2 P f l off T=true->cs.length=off+T.w->(∀ fl∈l,∃ x,DataW.trod enc P w 0 (fun _=>true) true fuel fl.type ((cs.drop fl.offset).take (P.cellsOf fl.type))=some x/\∀ q∈x.1.weights P fl.type,q<=reachBytes) ->
   ∃ y:T.den,RT (FW w) T y ((cs.drop off).map (i6 w))/\CH T y
 | [],off,T,h,_,_=>by simp[U2]at h
 | [fl],off,T,h,hl,hx=>by
   simp only[U2,aH,cK]at h
   obtain⟨⟨h1,h2⟩,h3⟩:=h
   obtain⟨x,k1,k2⟩:=hx fl cN
   rw[h1,h2,List.take_of_length_le (by simp;omega)]at k1
   exact IH _ _ _ _ h3 k1 k2
 | fl::g::r,off,T,h,hl,hx=>by
   cases T with
   | pair A B =>
     simp only[U2,aH,cK]at h
     obtain⟨⟨⟨h1,h2⟩,h3⟩,h4⟩:=h
     obtain⟨x,k1,k2⟩:=hx fl cN
     rw[h1,h2]at k1
     obtain⟨ya,a1,a2⟩:=IH _ _ _ _ h3 k1 k2
     have hl':cs.length=off+A.w+B.w:=by rw[hl];show off+(A.w+B.w)=_;omega
     obtain⟨yb,b1,b2⟩:=W2 IH (g::r) (off+A.w) B h4 hl' (fun q hq=>hx q (dA _ hq))
     refine⟨(ya,yb),⟨_,_,?_,a1,b1⟩,a2,b2⟩
     rw[<- uZ,<- s7,nV]
   | _=>simp[U2]at h
theorem TH {f:TypeId->Ty->Bool}{fuel:Nat}{cs:List Value}{e:TypeId}
 (IH:∀ (t:TypeId) (T:Ty) (cs:List Value) (x:DataW H×List MemPlace),f t T=true->DataW.trod enc P w 0 (fun _=>true) true fuel t cs=some x->(∀ q∈x.1.weights P t,q<=reachBytes)->∃ y:T.den,RT (FW w) T y (cs.map (i6 w))/\CH T y) :
 ∀ (m i:Nat) (T:Ty),KI P f e m T=true->cs.length=i*P.cellsOf e+T.w->(∀ j,i<=j->j<i+m->∃ x,DataW.trod enc P w 0 (fun _=>true) true fuel e ((cs.drop (j*P.cellsOf e)).take (P.cellsOf e))=some x/\∀ q∈x.1.weights P e,q<=reachBytes) ->
   ∃ y:T.den,RT (FW w) T y ((cs.drop (i*P.cellsOf e)).map (i6 w))/\CH T y
 | 0,i,T,h,_,_=>by simp[KI]at h
 | 1,i,T,h,hl,hx=>by
   simp only[KI,aH,cK]at h
   obtain⟨h2,h3⟩:=h
   obtain⟨x,k1,k2⟩:=hx i (aF _) (by omega)
   rw[List.take_of_length_le (by simp;omega)]at k1
   exact IH _ _ _ _ h3 k1 k2
 | m+2,i,T,h,hl,hx=>by
   cases T with
   | pair A B =>
     simp only[KI,aH,cK]at h
     obtain⟨⟨h2,h3⟩,h4⟩:=h
     obtain⟨x,k1,k2⟩:=hx i (aF _) (by omega)
     obtain⟨ya,a1,a2⟩:=IH _ _ _ _ h3 k1 k2
     have hl':cs.length=(i+1)*P.cellsOf e+B.w:=by rw[hl,fA,m8,h2];show i*A.w+(A.w+B.w)=_;omega
     obtain⟨yb,b1,b2⟩:=TH IH (m+1) (i+1) B h4 hl' (fun j hj hj2=>hx j (by omega) (by omega))
     refine⟨(ya,yb),⟨_,_,?_,a1,b1⟩,a2,b2⟩
     rw[<- uZ,fA,m8,<- s7,nV]
   | _=>simp[KI]at h
theorem told:∀ (n:Nat) (t:TypeId) (T:Ty) (fuel:Nat) (cs:List Value) (x:DataW H×List MemPlace),aAF P n t T=true->DataW.trod enc P w 0 (fun _=>true) true fuel t cs=some x->(∀ q∈x.1.weights P t,q<=reachBytes)->∃ y:T.den,RT (FW w) T y (cs.map (i6 w))/\CH T y
 | 0,t,T,fuel,cs,x,h,_,_=>by cases h
 | n+1,t,T,fuel,cs,x,h,hx,hs=>by
   unfold aAF at h
   split at h
   ·rename_i k hk
    cases T with
    | int k' =>
      simp only[cK]at h
      subst h
      obtain⟨m,rfl,_,hw⟩:=DataW.trod_int hk hx
      exact⟨m,by show [i6 w _]=_;rw[lV (.int _ _)],hw⟩
    | _=>cases h
   ·rename_i hk
    cases T with
    | bool =>
      obtain⟨b,rfl,_⟩:=DataW.trod_bool hk hx
      exact⟨b,by show [i6 w _]=_;rw[lV (.bool _)],trivial⟩
    | _=>cases h
   ·rename_i e hk
    cases T with
    | slc E =>
      simp only[aH,cK]at h
      obtain⟨⟨⟨hc,hw0⟩,hby⟩,hE⟩:=h
      rcases DataW.trod_slice hk hx with⟨rfl,rfl⟩|⟨a,len,cap,elems,rest,m,_,rfl,rfl,_,hl,hm,hlen,hel,hsp,_⟩
      ·refine⟨[],⟨none,0,?_,aF _,.inl rfl⟩,by simp,fun x hx=>by cases hx⟩
       show [i6 w _]=_
       rw[lV (.nilslice _ _)]
       rfl
      ·obtain⟨hrl,hr⟩:=hsp rfl
       have first:0<cap->a.spot=none/\∃ c e fz,w.heap[a.block]? = some (.cells c e fz):=by
        intro h0
        have key:∃ ds,w.cells? 0 a (P.cellsOf e)=some ds:=by
         by_cases hn0:0<len
         ·have:=hel 0 hn0
          rw[aM (by omega),Option.bind_eq_some_iff]at this
          obtain⟨ds,k,_⟩:=this
          exact⟨ds,by simpa [Addr.add] using k⟩
         ·have hl0:len=0:=by omega
          have:=hr 0 (by omega)
          rw[aM (by omega),Option.bind_eq_some_iff]at this
          obtain⟨ds,k,_⟩:=this
          rw[hl0]at k
          exact⟨ds,by simpa [Addr.add] using k⟩
        obtain⟨ds,k⟩:=key
        obtain⟨_,k1,k2⟩:=World.cells?_some k
        have:=k2 0 (by omega)
        rw[aM (by omega),show a.add 0=a by unfold Addr.add;rw[aA rfl]]at this
        obtain⟨q1,c,e2,fz,q2,_⟩:=Q9 this
        exact⟨q1,c,e2,fz,q2⟩
       have each:∀ i:Fin len,∃ (y:E.den) (ds:List Value),w.cells? 0 (a.add (i.1*E.w)) E.w=some ds/\RT (FW w) E y (ds.map (i6 w))/\CH E y:=by
        intro i
        have:=hel i.1 i.2
        rw[aM (by rw[hlen];exact i.2),Option.bind_eq_some_iff,hc]at this
        obtain⟨ds,k1,k2⟩:=this
        obtain⟨y,y1,y2⟩:=told n e E m ds _ hE k2 (fun q hq=>hs q (by
         simp only[DataW.weights,hk]
         refine dA _ (lU _ (xO ?_ q hq))
         exact List.mem_map_of_mem (lO _)))
        exact⟨y,ds,k1,y1,y2⟩
       obtain⟨f,hf⟩:=Classical.axiomOfChoice each
       have hfl:(List.ofFn f).length=len:=List.length_ofFn
       have hbig:(List.ofFn f).length*yK E<=reachBytes:=by
        rw[hfl]
        have h:=hs ((elems.length+rest.length)*P.bytesOf e) (by
         simp only[DataW.weights,hk,e8];exact cN)
        have h2:len*yK E<=(elems.length+rest.length)*P.bytesOf e:=Nat.mul_le_mul (by omega) hby
        omega
       have hfit:∀ x∈List.ofFn f,CH E x:=by
        intro x hx
        obtain⟨i,rfl⟩:=List.mem_ofFn.1 hx
        obtain⟨_,_,_,h⟩:=hf i
        exact h
       by_cases hcap:0<cap
       ·obtain⟨hsp0,c,e2,fz,hg⟩:=first hcap
        obtain⟨b,o,s⟩:=a
        simp only at hsp0 hg
        subst hsp0
        have hv:VRel (tK w) (.slice (some ⟨b,o,none⟩) len cap) (.slice (some ⟨b,o,none⟩) len cap):=LG (Array.getElem?_eq_some_iff.1 hg).1 hl
        refine⟨List.ofFn f,⟨some ⟨b,o,none⟩,cap,?_,by rw[hfl];exact hl,.inr ⟨b,o,_,rfl,UC hg,.inl rfl,?_⟩⟩,hbig,hfit⟩
        ·show [i6 w _]=_
         rw[lV hv,hfl]
        ·intro i x hi
         rw[List.getElem?_ofFn]at hi
         split at hi
         ·rename_i hil
          cases hi
          obtain⟨ds,k1,k2,_⟩:=hf ⟨i,hil⟩
          obtain⟨_,k3,k4⟩:=World.cells?_some k1
          refine⟨_,ZO k3 hw0 fun j hj => ?_,k2⟩
          have h4:=k4 j hj
          rw[aM (by omega)]at h4⊢
          obtain⟨_,c2,e3,fz2,q1,q2⟩:=Q9 h4
          have eb:(((⟨b,o,none⟩:Addr).add (i*E.w)).add j).block=b:=by rw[block_add,block_add]
          have eo:(((⟨b,o,none⟩:Addr).add (i*E.w)).add j).off=o+i*E.w+j:=by
           unfold Addr.add
           split <;> split <;> simp_all
          rw[eb,hg]at q1
          cases q1
          rw[eo]at q2
          exact q2
         ·cases hi
       ·have hc0:cap=0:=by omega
        have hl0:len=0:=by omega
        have hnil:List.ofFn f=[]:=sY (by omega)
        subst hc0
        rw[hnil]at hbig hfit
        by_cases hv:VRel (tK w) (.slice (some a) len 0) (.slice (some a) len 0)
        ·refine⟨[],⟨some a,0,?_,aF _,.inl rfl⟩,hbig,hfit⟩
         show [i6 w _]=_
         rw[lV hv,hl0]
         rfl
        ·refine⟨[],⟨some ⟨0,0,none⟩,0,?_,aF _,.inl rfl⟩,hbig,hfit⟩
         show [i6 w _]=_
         unfold i6
         rw[aC hv,hl0]
         rfl
    | _=>cases h
   ·rename_i fs hk
    simp only[aH,cK]at h
    obtain⟨hc,hfs⟩:=h
    obtain⟨xs,m,_,ex,hcl,hxl,hxs⟩:=DataW.trod_struct hk hx
    have:=W2 (cs:=cs) (fuel:=m) (fun t T cs x h1 h2 h3=>told n t T m cs x h1 h2 h3) fs.toList 0 T hfs (by omega) (by
     intro fl hfl
     obtain⟨i,hi,e⟩:=List.getElem_of_mem hfl
     have hget:fs[i]? = some fl:=by
      rw[<- nF,aM hi,e]
     have:=hxs i fl hget
     have hlt:i<xs.length:=by rw[hxl];simpa using hi
     rw[aM hlt]at this
     refine⟨_,this,fun q hq=>hs q ?_⟩
     rw[ex]
     simp only[DataW.weights,hk]
     refine DataW.weights_mem_each (j:=i) (t:=fl.type) (d:=xs[i].1) ?_ ?_ q hq
     ·rw[b8,nF,hget];rfl
     ·rw[b8,aM hlt];rfl)
    simpa using this
   ·rename_i m e hk
    simp only[aH,cK]at h
    obtain⟨hc,hfs⟩:=h
    obtain⟨xs,fu,_,ex,hcl,hxl,hxs⟩:=DataW.trod_array hk hx
    have:=TH (cs:=cs) (fuel:=fu) (fun t T cs x h1 h2 h3=>told n t T fu cs x h1 h2 h3) m 0 T hfs (by omega) (by
     intro i _ hi
     have:=hxs i (by omega)
     have hlt:i<xs.length:=by omega
     rw[aM hlt]at this
     refine⟨_,this,fun q hq=>hs q ?_⟩
     rw[ex]
     simp only[DataW.weights,hk]
     exact xO (List.mem_map_of_mem (lO hlt)) q hq)
    simpa using this
   ·rename_i hk
    cases T with
    | str =>
      obtain⟨b,rfl,ex,_⟩:=DataW.trod_string hk hx
      refine⟨b,by show [i6 w _]=_;rw[lV (.string _)],?_⟩
      show b.size<=reachBytes
      have:=hs b.data.toList.length (by rw[ex];simp[DataW.weights])
      simpa using this
    | _=>cases h
   ·cases h
structure Told (w:World)(E:Ty)(l:List E.den)(v:Value):Prop where
 rl:RL (aG1 (mW w) tP) (.fz false E l) v
 rel:VRel (tK w) v v
 fits:CH (.slc E) l
theorem open_told {t e:TypeId}{n:Nat}{E:Ty}{v:Value}{d:DataW H}{ps:List MemPlace}{ts:List TypeId}{ds:List (DataW H)}{j:Nat}(ht:P.underlying t=some (.slice e))(hE:aAF P n t (.slc E)=true)(hok:Value.okWide P w r base t v)(hd:DataW.Trod enc P w 0 (fun _=>true) true t v d ps)
 (hsz:(DataW.weightsEach P ts ds).all (· <= reachBytes)=true) (hj:ts[j]? = some t) (hdj:ds[j]? = some d):∃ l:List E.den,Told w E l v:=by
 obtain⟨a,len,cap,rfl⟩:=okWide_slice ht hok
 obtain⟨fuel,hf⟩:=hd
 have hs:∀ n∈d.weights P t,n<=reachBytes:=fun n hn=>by
  have:=List.all_eq_true.1 hsz _ (DataW.weights_mem_each hj hdj n hn)
  simpa using this
 have hv:VRel (tK w) (.slice a len cap) (.slice a len cap):=by
  rcases DataW.trod_slice ht hf with⟨e1,_⟩|⟨a',len',cap',_,_,_,_,e1,_,_,hl,_⟩
  ·cases e1;exact .nilslice _ _
  ·cases e1
   obtain⟨b,o,s⟩:=a'
   obtain⟨h1,h2⟩:=U4 ht hok
   simp only at h1 h2
   subst h1
   exact LG h2 hl
 obtain⟨y,⟨a2,c2,e2,hr⟩,y2⟩:=told n t (.slc E) fuel _ _ hE hf hs
 refine⟨y,⟨a2,c2,?_,?_⟩,hv,y2⟩
 ·have:[i6 w (.slice a len cap)]=[.slice a2 y.length c2]:=e2
  rw[lV hv]at this
  exact List.head_eq_of_cons_eq this
 ·rw[WP]
  exact hr
end
end Go.Mach
