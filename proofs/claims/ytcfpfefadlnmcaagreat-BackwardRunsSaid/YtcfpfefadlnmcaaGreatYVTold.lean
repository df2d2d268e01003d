/- Part of the proof. No condition. -/
import Derived.Test.YtcfpfefadlnmcaaGreatYVFlat
import Derived.OpenShut
namespace Go.Mach
open Go.RowKit Go.ChangeShapes Go.WideShapes
set_option linter.unusedVariables false
set_option linter.unusedSimpArgs false
def F8:Ty->Nat
 | .int k=>k.bits / 8
 | .bool=>1
 | .str=>16
 | .flt=>8
 | .cpx=>16
 | .slc _=>24
 | .ref _=>8
 | .unit=>0
 | .pair a b=>F8 a+F8 b
def aGv (P:Program)(f:TypeId->Ty->Bool):List Field->Nat->Ty->Bool
 | [],_,_=>false
 | [fl],off,T=>decide (fl.offset=off)&&decide (P.cellsOf fl.type=T.w)&&f fl.type T
 | fl::r,off,.pair A B=>decide (fl.offset=off)&&decide (P.cellsOf fl.type=A.w)&&f fl.type A&&aGv P f r (off+A.w) B
 | _,_,_=>false
def Y9 (P:Program)(f:TypeId->Ty->Bool)(e:TypeId):Nat->Ty->Bool
 | 0,_=>false
 | 1,T=>decide (P.cellsOf e=T.w)&&f e T
 | m+2,.pair A B=>decide (P.cellsOf e=A.w)&&f e A&&Y9 P f e (m+1) B
 | _,_=>false
def aGV (P:Program):Nat->TypeId->Ty->Bool
 | 0,_,_=>false
 | n+1,t,T=>match P.underlying t with
   | some (.int k)=>(match T with | .int k'=>decide (k'=k)|_=>false)
   | some .bool=>(match T with | .bool=>true|_=>false)
   | some (.slice e)=>(match T with | .slc E=>decide (P.cellsOf e=E.w)&&decide (0<E.w)&&decide (F8 E<=P.bytesOf e)&&aGV P n e E|_=>false)
   | some (.struct fs)=>decide (P.cellsOf t=T.w)&&aGv P (aGV P n) fs.toList 0 T
   | some (.array m e)=>decide (P.cellsOf t=T.w)&&Y9 P (aGV P n) e m T
   | some .string=>(match T with | .str=>true|_=>false)
   | _=>false
def TL:(T:Ty)->T.den->Prop
 | .int k,n=>(Lit.int k n).wf=true
 | .bool,_=>True
 | .str,s=>s.size<=reachBytes
 | .flt,_=>True
 | .cpx,_=>True
 | .slc E,l=>l.length*F8 E<=reachBytes/\∀ x∈l,TL E x
 | .ref _,_=>True
 | .unit,_=>True
 | .pair a b,x=>TL a x.1/\TL b x.2
open Classical in
noncomputable def iR (w:World)(v:Value):Value:=if VRel (BV w) v v then v else if aDg v then aGI else aMM
theorem tL {w:World}{v:Value}(h:VRel (BV w) v v):iR w v=v:=aB h
theorem aJB {w:World}{c:Array Value}{e:TypeId}{fz:Nat×Nat}:(yO w (.cells c e fz)).cells=c.toList.map (iR w):=rfl
theorem aFD {w:World}{a:Addr}{v:Value}(h:w.cell? a=some v):a.spot=none/\∃ c e fz,w.heap[a.block]? = some (.cells c e fz)/\c[a.off]? = some v:=by
 unfold World.cell? at h
 split at h
 ·rename_i c e fz hg
  split at h
  ·cases h
  ·rename_i hs
   exact⟨by simpa using hs,c,e,fz,hg,h⟩
 ·cases h
theorem aIZ {w:World}{o m:Nat}{c:Array Value}{e:TypeId}{fz:Nat×Nat}{cs:List Value}(hl:cs.length=m)(hm:0<m)(h:∀ j,j<m->c[o+j]? = cs[j]?):InB (yO w (.cells c e fz)).cells o m (cs.map (iR w)):=by
 rw[aJB]
 have hb:o+m<=c.size:=by
  have:=h (m-1) (by omega)
  rw[aP (by omega)]at this
  have:=(Array.getElem?_eq_some_iff.1 this).1
  omega
 refine⟨by simpa using hb,?_⟩
 apply VH
 intro j
 rw[List.getElem?_take]
 by_cases hj:j<m
 ·rw[aB hj,aBV,mE,mE,yC,h j hj]
 ·rw[aA hj,List.getElem?_eq_none (by simp;omega)]
section
variable {H:Type} {enc:TypeId×Value->H} {P:Program} {w:World} {r:Reach} {base:Nat}
theorem OU {e:TypeId}:∀ {l:List (DataW H)} {d:DataW H},d∈l->∀ n∈d.weights P e,n∈DataW.weightsAll P e l
 | _::l,d,hd,n,hn=>by
   simp only[DataW.weightsAll,S8]
   rcases List.mem_cons.1 hd with rfl|hd
   ·exact .inl hn
   ·exact .inr (OU hd n hn)
noncomputable abbrev FW (w:World):Fz:=fun b=>blk? (vT w) b
theorem aHx {f:TypeId->Ty->Bool}{fuel:Nat}{cs:List Value}
 (IH:∀ (t:TypeId) (T:Ty) (cs:List Value) (x:DataW H×List MemPlace),f t T=true->DataW.trod enc P w 0 (fun _=>true) true fuel t cs=some x->(∀ q∈x.1.weights P t,q<=reachBytes)->∃ y:T.den,RT (FW w) T y (cs.map (iR w))/\TL T y) :
 ∀ (l:List Field) (off:Nat) (T:Ty),aGv P f l off T=true->cs.length=off+T.w->(∀ fl∈l,∃ x,DataW.trod enc P w 0 (fun _=>true) true fuel fl.type ((cs.drop fl.offset).take (P.cellsOf fl.type))=some x/\∀ q∈x.1.weights P fl.type,q<=reachBytes) ->
   ∃ y:T.den,RT (FW w) T y ((cs.drop off).map (iR w))/\TL T y
 | [],off,T,h,_,_=>by simp[aGv]at h
 | [fl],off,T,h,hl,hx=>by
   simp only[aGv,aI,aT]at h
   obtain⟨⟨h1,h2⟩,h3⟩:=h
   obtain⟨x,k1,k2⟩:=hx fl jO
   rw[h1,h2,List.take_of_length_le (by simp;omega)]at k1
   exact IH _ _ _ _ h3 k1 k2
 | fl::g::r,off,T,h,hl,hx=>by
   cases T with
   | pair A B =>
     simp only[aGv,aI,aT]at h
     obtain⟨⟨⟨h1,h2⟩,h3⟩,h4⟩:=h
     obtain⟨x,k1,k2⟩:=hx fl jO
     rw[h1,h2]at k1
     obtain⟨ya,a1,a2⟩:=IH _ _ _ _ h3 k1 k2
     have hl':cs.length=off+A.w+B.w:=by rw[hl];show off+(A.w+B.w)=_;omega
     obtain⟨yb,b1,b2⟩:=aHx IH (g::r) (off+A.w) B h4 hl' (fun q hq=>hx q (lY _ hq))
     refine⟨(ya,yb),⟨_,_,?_,a1,b1⟩,a2,b2⟩
     rw[<- yZ,<- GX,O8]
   | _=>simp[aGv]at h
theorem aEg {f:TypeId->Ty->Bool}{fuel:Nat}{cs:List Value}{e:TypeId}
 (IH:∀ (t:TypeId) (T:Ty) (cs:List Value) (x:DataW H×List MemPlace),f t T=true->DataW.trod enc P w 0 (fun _=>true) true fuel t cs=some x->(∀ q∈x.1.weights P t,q<=reachBytes)->∃ y:T.den,RT (FW w) T y (cs.map (iR w))/\TL T y) :
 ∀ (m i:Nat) (T:Ty),Y9 P f e m T=true->cs.length=i*P.cellsOf e+T.w->(∀ j,i<=j->j<i+m->∃ x,DataW.trod enc P w 0 (fun _=>true) true fuel e ((cs.drop (j*P.cellsOf e)).take (P.cellsOf e))=some x/\∀ q∈x.1.weights P e,q<=reachBytes) ->
   ∃ y:T.den,RT (FW w) T y ((cs.drop (i*P.cellsOf e)).map (iR w))/\TL T y
 | 0,i,T,h,_,_=>by simp[Y9]at h
 | 1,i,T,h,hl,hx=>by
   simp only[Y9,aI,aT]at h
   obtain⟨h2,h3⟩:=h
   obtain⟨x,k1,k2⟩:=hx i (aR _) (by omega)
   rw[List.take_of_length_le (by simp;omega)]at k1
   exact IH _ _ _ _ h3 k1 k2
 | m+2,i,T,h,hl,hx=>by
   cases T with
   | pair A B =>
     simp only[Y9,aI,aT]at h
     obtain⟨⟨h2,h3⟩,h4⟩:=h
     obtain⟨x,k1,k2⟩:=hx i (aR _) (by omega)
     obtain⟨ya,a1,a2⟩:=IH _ _ _ _ h3 k1 k2
     have hl':cs.length=(i+1)*P.cellsOf e+B.w:=by rw[hl,fK,kO,h2];show i*A.w+(A.w+B.w)=_;omega
     obtain⟨yb,b1,b2⟩:=aEg IH (m+1) (i+1) B h4 hl' (fun j hj hj2=>hx j (by omega) (by omega))
     refine⟨(ya,yb),⟨_,_,?_,a1,b1⟩,a2,b2⟩
     rw[<- yZ,fK,kO,<- GX,O8]
   | _=>simp[Y9]at h
theorem told:∀ (n:Nat) (t:TypeId) (T:Ty) (fuel:Nat) (cs:List Value) (x:DataW H×List MemPlace),aGV P n t T=true->DataW.trod enc P w 0 (fun _=>true) true fuel t cs=some x->(∀ q∈x.1.weights P t,q<=reachBytes)->∃ y:T.den,RT (FW w) T y (cs.map (iR w))/\TL T y
 | 0,t,T,fuel,cs,x,h,_,_=>by cases h
 | n+1,t,T,fuel,cs,x,h,hx,hs=>by
   unfold aGV at h
   split at h
   ·rename_i k hk
    cases T with
    | int k' =>
      simp only[aT]at h
      subst h
      obtain⟨m,rfl,_,hw⟩:=DataW.trod_int hk hx
      exact⟨m,by show [iR w _]=_;rw[tL (.int _ _)],hw⟩
    | _=>cases h
   ·rename_i hk
    cases T with
    | bool =>
      obtain⟨b,rfl,_⟩:=DataW.trod_bool hk hx
      exact⟨b,by show [iR w _]=_;rw[tL (.bool _)],trivial⟩
    | _=>cases h
   ·rename_i e hk
    cases T with
    | slc E =>
      simp only[aI,aT]at h
      obtain⟨⟨⟨hc,hw0⟩,hby⟩,hE⟩:=h
      rcases DataW.trod_slice hk hx with⟨rfl,rfl⟩|⟨a,len,cap,elems,rest,m,_,rfl,rfl,_,hl,hm,hlen,hel,hsp,_⟩
      ·refine⟨[],⟨none,0,?_,aR _,.inl rfl⟩,by simp,fun x hx=>by cases hx⟩
       show [iR w _]=_
       rw[tL (.nilslice _ _)]
       rfl
      ·obtain⟨hrl,hr⟩:=hsp rfl
       have first:0<cap->a.spot=none/\∃ c e fz,w.heap[a.block]? = some (.cells c e fz):=by
        intro h0
        have key:∃ ds,w.cells? 0 a (P.cellsOf e)=some ds:=by
         by_cases hn0:0<len
         ·have:=hel 0 hn0
          rw[aP (by omega),Option.bind_eq_some_iff]at this
          obtain⟨ds,k,_⟩:=this
          exact⟨ds,by simpa [Addr.add] using k⟩
         ·have hl0:len=0:=by omega
          have:=hr 0 (by omega)
          rw[aP (by omega),Option.bind_eq_some_iff]at this
          obtain⟨ds,k,_⟩:=this
          rw[hl0]at k
          exact⟨ds,by simpa [Addr.add] using k⟩
        obtain⟨ds,k⟩:=key
        obtain⟨_,k1,k2⟩:=World.cells?_some k
        have:=k2 0 (by omega)
        rw[aP (by omega),show a.add 0=a by unfold Addr.add;rw[aB rfl]]at this
        obtain⟨q1,c,e2,fz,q2,_⟩:=aFD this
        exact⟨q1,c,e2,fz,q2⟩
       have each:∀ i:Fin len,∃ (y:E.den) (ds:List Value),w.cells? 0 (a.add (i.1*E.w)) E.w=some ds/\RT (FW w) E y (ds.map (iR w))/\TL E y:=by
        intro i
        have:=hel i.1 i.2
        rw[aP (by rw[hlen];exact i.2),Option.bind_eq_some_iff,hc]at this
        obtain⟨ds,k1,k2⟩:=this
        obtain⟨y,y1,y2⟩:=told n e E m ds _ hE k2 (fun q hq=>hs q (by
         simp only[DataW.weights,hk]
         refine lY _ (CQ _ (OU ?_ q hq))
         exact List.mem_map_of_mem (fB _)))
        exact⟨y,ds,k1,y1,y2⟩
       obtain⟨f,hf⟩:=Classical.axiomOfChoice each
       have hfl:(List.ofFn f).length=len:=List.length_ofFn
       have hbig:(List.ofFn f).length*F8 E<=reachBytes:=by
        rw[hfl]
        have h:=hs ((elems.length+rest.length)*P.bytesOf e) (by
         simp only[DataW.weights,hk,B8];exact jO)
        have h2:len*F8 E<=(elems.length+rest.length)*P.bytesOf e:=fE (by omega) hby
        omega
       have hfit:∀ x∈List.ofFn f,TL E x:=by
        intro x hx
        obtain⟨i,rfl⟩:=List.mem_ofFn.1 hx
        obtain⟨_,_,_,h⟩:=hf i
        exact h
       by_cases hcap:0<cap
       ·obtain⟨hsp0,c,e2,fz,hg⟩:=first hcap
        obtain⟨b,o,s⟩:=a
        simp only at hsp0 hg
        subst hsp0
        have hv:VRel (BV w) (.slice (some ⟨b,o,none⟩) len cap) (.slice (some ⟨b,o,none⟩) len cap):=SM (Array.getElem?_eq_some_iff.1 hg).1 hl
        refine⟨List.ofFn f,⟨some ⟨b,o,none⟩,cap,?_,by rw[hfl];exact hl,.inr ⟨b,o,_,rfl,aGK hg,.inl rfl,?_⟩⟩,hbig,hfit⟩
        ·show [iR w _]=_
         rw[tL hv,hfl]
        ·intro i x hi
         rw[List.getElem?_ofFn]at hi
         split at hi
         ·rename_i hil
          cases hi
          obtain⟨ds,k1,k2,_⟩:=hf ⟨i,hil⟩
          obtain⟨_,k3,k4⟩:=World.cells?_some k1
          refine⟨_,aIZ k3 hw0 fun j hj => ?_,k2⟩
          have h4:=k4 j hj
          rw[aP (by omega)]at h4⊢
          obtain⟨_,c2,e3,fz2,q1,q2⟩:=aFD h4
          have eb:(((⟨b,o,none⟩:Addr).add (i*E.w)).add j).block=b:=by rw[block_add,block_add]
          have eo:(((⟨b,o,none⟩:Addr).add (i*E.w)).add j).off=o+i*E.w+j:=by
           unfold Addr.add
           split <;> split <;> simp_all
          rw[eb,hg]at q1
          cases q1
          rw[eo]at q2
          exact q2
         ·cases hi
       ·have hc0:cap=0:=by omega
        have hl0:len=0:=by omega
        have hnil:List.ofFn f=[]:=TB (by omega)
        subst hc0
        rw[hnil]at hbig hfit
        by_cases hv:VRel (BV w) (.slice (some a) len 0) (.slice (some a) len 0)
        ·refine⟨[],⟨some a,0,?_,aR _,.inl rfl⟩,hbig,hfit⟩
         show [iR w _]=_
         rw[tL hv,hl0]
         rfl
        ·refine⟨[],⟨some ⟨0,0,none⟩,0,?_,aR _,.inl rfl⟩,hbig,hfit⟩
         show [iR w _]=_
         unfold iR
         rw[aA hv,hl0]
         rfl
    | _=>cases h
   ·rename_i fs hk
    simp only[aI,aT]at h
    obtain⟨hc,hfs⟩:=h
    obtain⟨xs,m,_,ex,hcl,hxl,hxs⟩:=DataW.trod_struct hk hx
    have:=aHx (cs:=cs) (fuel:=m) (fun t T cs x h1 h2 h3=>told n t T m cs x h1 h2 h3) fs.toList 0 T hfs (by omega) (by
     intro fl hfl
     obtain⟨i,hi,e⟩:=List.getElem_of_mem hfl
     have hget:fs[i]? = some fl:=by
      rw[<- yC,aP hi,e]
     have:=hxs i fl hget
     have hlt:i<xs.length:=by rw[hxl];simpa using hi
     rw[aP hlt]at this
     refine⟨_,this,fun q hq=>hs q ?_⟩
     rw[ex]
     simp only[DataW.weights,hk]
     refine DataW.weights_mem_each (j:=i) (t:=fl.type) (d:=xs[i].1) ?_ ?_ q hq
     ·rw[mE,yC,hget];rfl
     ·rw[mE,aP hlt];rfl)
    simpa using this
   ·rename_i m e hk
    simp only[aI,aT]at h
    obtain⟨hc,hfs⟩:=h
    obtain⟨xs,fu,_,ex,hcl,hxl,hxs⟩:=DataW.trod_array hk hx
    have:=aEg (cs:=cs) (fuel:=fu) (fun t T cs x h1 h2 h3=>told n t T fu cs x h1 h2 h3) m 0 T hfs (by omega) (by
     intro i _ hi
     have:=hxs i (by omega)
     have hlt:i<xs.length:=by omega
     rw[aP hlt]at this
     refine⟨_,this,fun q hq=>hs q ?_⟩
     rw[ex]
     simp only[DataW.weights,hk]
     exact OU (List.mem_map_of_mem (fB hlt)) q hq)
    simpa using this
   ·rename_i hk
    cases T with
    | str =>
      obtain⟨b,rfl,ex,_⟩:=DataW.trod_string hk hx
      refine⟨b,by show [iR w _]=_;rw[tL (.string _)],?_⟩
      show b.size<=reachBytes
      have:=hs b.data.toList.length (by rw[ex];simp[DataW.weights])
      simpa using this
    | _=>cases h
   ·cases h
structure Told (w:World)(E:Ty)(l:List E.den)(v:Value):Prop where
 rl:RL (aKq (vT w) VN) (.fz false E l) v
 rel:VRel (BV w) v v
 fits:TL (.slc E) l
theorem open_told {t e:TypeId}{n:Nat}{E:Ty}{v:Value}{d:DataW H}{ps:List MemPlace}{ts:List TypeId}{ds:List (DataW H)}{j:Nat}(ht:P.underlying t=some (.slice e))(hE:aGV P n t (.slc E)=true)(hok:Value.okWide P w r base t v)(hd:DataW.Trod enc P w 0 (fun _=>true) true t v d ps)
 (hsz:(DataW.weightsEach P ts ds).all (· <= reachBytes)=true) (hj:ts[j]? = some t) (hdj:ds[j]? = some d):∃ l:List E.den,Told w E l v:=by
 obtain⟨a,len,cap,rfl⟩:=okWide_slice ht hok
 obtain⟨fuel,hf⟩:=hd
 have hs:∀ n∈d.weights P t,n<=reachBytes:=fun n hn=>by
  have:=List.all_eq_true.1 hsz _ (DataW.weights_mem_each hj hdj n hn)
  simpa using this
 have hv:VRel (BV w) (.slice a len cap) (.slice a len cap):=by
  rcases DataW.trod_slice ht hf with⟨e1,_⟩|⟨a',len',cap',_,_,_,_,e1,_,_,hl,_⟩
  ·cases e1;exact .nilslice _ _
  ·cases e1
   obtain⟨b,o,s⟩:=a'
   obtain⟨h1,h2⟩:=aHB ht hok
   simp only at h1 h2
   subst h1
   exact SM h2 hl
 obtain⟨y,⟨a2,c2,e2,hr⟩,y2⟩:=told n t (.slc E) fuel _ _ hE hf hs
 refine⟨y,⟨a2,c2,?_,?_⟩,hv,y2⟩
 ·have:[iR w (.slice a len cap)]=[.slice a2 y.length c2]:=e2
  rw[tL hv]at this
  exact List.head_eq_of_cons_eq this
 ·rw[Y8]
  exact hr
def yD:Ty->List Bool
 | .slc _=>[true]
 | .unit=>[]
 | .pair a b=>yD a++yD b
 | _=>[false]
theorem IP {v:Value}(h1:iR w v≠aMM)(h2:iR w v≠aGI):VRel (BV w) v v:=by
 unfold iR at h1 h2
 split at h1
 ·assumption
 ·rename_i h
  rw[aA h]at h2
  split at h1
  ·rename_i e;rw[aB e]at h2;exact absurd rfl h2
  ·exact absurd rfl h1
theorem KE {α β:Type}{f:α->β}{l:List α}{b:β}(h:l.map f=[b]):∃ a,l=[a]/\f a=b:=by
 match l,h with
 | [a],h=>exact⟨a,rfl,by simpa using h⟩
 | _::_::_,h=>simp at h
theorem aEY:∀ (T:Ty) (y:T.den) (cs:List Value),RT (FW w) T y (cs.map (iR w))->(∀ (i:Nat) (v:Value),(yD T)[i]? = some true->cs[i]? = some v->(∃ a n c,v = .slice a n c)->VRel (BV w) v v)->(yD T).length=cs.length/\∀ v∈cs,VRel (BV w) v v
 | .int k,n,cs,h,_=>by
   have h:cs.map (iR w)=[.int k n]:=h
   obtain⟨v,rfl,hc⟩:=KE h
   exact⟨rfl,fun x hx=>by rw[List.mem_singleton.1 hx];exact IP (by rw[hc];intro e;cases e) (by rw[hc];intro e;cases e)⟩
 | .bool,n,cs,h,_=>by
   have h:cs.map (iR w)=[.bool n]:=h
   obtain⟨v,rfl,hc⟩:=KE h
   exact⟨rfl,fun x hx=>by rw[List.mem_singleton.1 hx];exact IP (by rw[hc];intro e;cases e) (by rw[hc];intro e;cases e)⟩
 | .str,n,cs,h,_=>by
   have h:cs.map (iR w)=[.string n]:=h
   obtain⟨v,rfl,hc⟩:=KE h
   exact⟨rfl,fun x hx=>by rw[List.mem_singleton.1 hx];exact IP (by rw[hc];intro e;cases e) (by rw[hc];intro e;cases e)⟩
 | .flt,n,cs,h,_=>by
   have h:cs.map (iR w)=[.float .f64 n]:=h
   obtain⟨v,rfl,hc⟩:=KE h
   exact⟨rfl,fun x hx=>by rw[List.mem_singleton.1 hx];exact IP (by rw[hc];intro e;cases e) (by rw[hc];intro e;cases e)⟩
 | .cpx,n,cs,h,_=>by
   have h:cs.map (iR w)=[.complex .f64 n.1 n.2]:=h
   obtain⟨v,rfl,hc⟩:=KE h
   exact⟨rfl,fun x hx=>by rw[List.mem_singleton.1 hx];exact IP (by rw[hc];intro e;cases e) (by rw[hc];intro e;cases e)⟩
 | .ref t,l,cs,⟨p,h,_⟩,_=>by
   obtain⟨v,rfl,hc⟩:=KE h
   exact⟨rfl,fun x hx=>by rw[List.mem_singleton.1 hx];exact IP (by rw[hc];intro e;cases e) (by rw[hc];intro e;cases e)⟩
 | .unit,n,cs,h,_=>by
   have h:cs.map (iR w)=[]:=h
   match cs,h with
   | [],h=>exact⟨rfl,fun x hx=>by cases hx⟩
 | .slc t,l,cs,⟨a,c,h,_⟩,hs=>by
   obtain⟨v,rfl,hc⟩:=KE h
   refine⟨rfl,fun x hx => ?_⟩
   rw[List.mem_singleton.1 hx]
   by_cases hv:VRel (BV w) v v
   ·exact hv
   ·unfold iR at hc
    rw[aA hv]at hc
    split at hc
    ·rename_i e
     obtain⟨a',rfl⟩:=WW e
     exact hs 0 _ rfl rfl ⟨_,_,_,rfl⟩
    ·cases hc
 | .pair a b,y,cs,⟨c1,c2,h,h1,h2⟩,hs=>by
   obtain⟨d1,d2,rfl,e1,e2⟩:=List.map_eq_append_iff.1 h
   subst e1;subst e2
   obtain⟨k1,k2⟩:=aEY a y.1 d1 h1 (fun i v hi hv=>hs i v (by
    show(yD a++yD b)[i]? = _
    rw[gW (List.getElem?_eq_some_iff.1 hi).1];exact hi) (by rw[gW (List.getElem?_eq_some_iff.1 hv).1];exact hv))
   obtain⟨k3,k4⟩:=aEY b y.2 d2 h2 (fun i v hi hv=>hs (d1.length+i) v (by
    show(yD a++yD b)[d1.length+i]? = _
    rw[<- k1,D6 (by omega)];simpa using hi) (by rw[D6 (by omega)];simpa using hv))
   refine⟨by show(yD a++yD b).length=_;simp[k1,k3],fun v hv => ?_⟩
   rcases List.mem_append.1 hv with hv|hv
   ·exact k2 v hv
   ·exact k4 v hv
def aGm (P:Program)(t:TypeId):Bool :=
 match P.underlying t with
 | some (.slice _)=>true
 | _=>false
structure ToldA (w:World)(T:Ty)(y:T.den)(cs:List Value):Prop where
 rl:All2 (RL (aKq (vT w) VN)) (Go.Mach.enc false T y) cs
 rel:VRel (BV w) (.agg cs.toArray) (.agg cs.toArray)
 fits:TL T y
theorem open_any {ts:List TypeId}{ds:List (DataW H)}{j:Nat}{t:TypeId}{fs:Array Field}{n:Nat}{T:Ty}{cts:List TypeId}{v:Value}{d:DataW H}{ps:List MemPlace}(ht:P.underlying t=some (.struct fs))(hT:aGV P n t T=true)
 (hts:P.cellTypes P.depth t=some cts) (hb:cts.map (aGm P)=yD T) (hok:Value.okWide P w r base t v) (hd:DataW.Trod enc P w 0 (fun _=>true) true t v d ps)
 (hsz:(DataW.weightsEach P ts ds).all (· <= reachBytes)=true) (hj:ts[j]? = some t) (hdj:ds[j]? = some d):∃ (y:T.den) (cs:List Value),v = .agg cs.toArray/\ToldA w T y cs:=by
 obtain⟨cs,rfl,hsz'⟩:=okWide_struct ht hok
 obtain⟨fuel,hf⟩:=hd
 have hs:∀ n∈d.weights P t,n<=reachBytes:=fun n hn=>by
  have:=List.all_eq_true.1 hsz _ (DataW.weights_mem_each hj hdj n hn)
  simpa using this
 obtain⟨y,h1,h2⟩:=told n t T fuel cs.toList _ hT hf hs
 have hrel:∀ v∈cs.toList,VRel (BV w) v v:=by
  refine(aEY T y cs.toList h1 ?_).2
  rintro i v hi hv ⟨a,m,c,rfl⟩
  rw[<- hb,mE]at hi
  cases hu:cts[i]? with
  | none=>rw[hu]at hi;cases hi
  | some u =>
    rw[hu]at hi
    have hi:aGm P u=true:=by simpa using hi
    have hv':cs[i]? = some (.slice a m c):=by rw[<- yC];exact hv
    have hcell:=aJl ht hts hok hu hv'
    cases a with
    | none=>exact .nilslice _ _
    | some a =>
      unfold aGm at hi
      split at hi
      ·rename_i e he
       obtain⟨b,o,s⟩:=a
       obtain⟨g1,g2⟩:=aIL he hcell
       simp only at g1 g2
       subst g1
       refine SM g2 ?_
       simp only[Cell.okWide,he,Cell.ok]at hcell
       first|exact hcell.1|omega
      ·cases hi
 refine⟨y,cs.toList,by simp,?_,aJL hrel,h2⟩
 have e:cs.toList.map (iR w)=cs.toList:=by
  conv=>rhs;rw[<- List.map_id cs.toList]
  exact List.map_congr_left fun v hv=>tL (hrel v hv)
 rw[e]at h1
 refine RT.enc (c:=aKq (vT w) VN) (o:=false) T y _ ?_
 rw[Y8]
 exact h1
end
end Go.Mach
