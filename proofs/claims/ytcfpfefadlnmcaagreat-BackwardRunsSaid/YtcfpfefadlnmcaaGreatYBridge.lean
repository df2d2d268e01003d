/- Part of the proof. No condition. -/
import Derived.Test.YtcfpfefadlnmcaaGreatYSound
import Derived.Below
namespace Go.Mach
open Go.RowKit
def BV (w:World):Ren:=fun id =>
 if id<w.heap.size then
  match w.heap[id]? with
  | some (.cells c _ _)=>some ⟨id,0,c.size,c.size,0,true⟩
  | _=>some ⟨id,0,0,0,0,true⟩
 else none
def aDg:Value->Bool
 | .slice (some _) 0 0=>true
 | _=>false
def aGI:Value := .slice (some ⟨0,0,none⟩) 0 0
theorem WW {v:Value}(h:aDg v=true):∃ a,v = .slice (some a) 0 0:=by
 unfold aDg at h
 split at h
 ·exact⟨_,rfl⟩
 ·cases h
open Classical in
noncomputable def yO (w:World):Obj->Blk
 | .cells c _ _=>⟨c.toList.map fun v=>if VRel (BV w) v v then v else if aDg v then aGI else aMM,0,true,true⟩
 | _=>⟨[],0,true,false⟩
noncomputable def vT (w:World):aE:=w.heap.toList.map (yO w)
theorem GU (w:World):(vT w).length=w.heap.size:=by simp[vT]
theorem aD8 {w:World}{id:Nat}{L:Loc}(h:BV w id=some L):id<w.heap.size/\L.blk=id:=by
 unfold BV at h
 split at h
 ·rename_i hl
  refine⟨hl,?_⟩
  split at h <;> cases h <;> rfl
 ·cases h
theorem aGK {w:World}{b:Nat}{c:Array Value}{e:TypeId}{fz:Nat×Nat}(h:w.heap[b]? = some (.cells c e fz)) :
 blk? (vT w) b=some (yO w (.cells c e fz)):=by
 unfold blk? vT
 rw[mE,yC,h]
 simp only[Option.map_some,yO,bS]
theorem aCS {w:World}{b:Nat}(h:b<w.heap.size):∃ L,BV w b=some L/\L.blk=b/\L.off=0:=by
 unfold BV
 rw[aB h]
 split <;> exact⟨_,rfl,rfl,rfl⟩
theorem SM {w:World}{b o n c:Nat}(h:b<w.heap.size)(hn:n<=c):VRel (BV w) (.slice (some ⟨b,o,none⟩) n c) (.slice (some ⟨b,o,none⟩) n c):=by
 obtain⟨L,h1,h2,h3⟩:=aCS h
 have:=VRel.slice (o:=o) (n:=n) (c:=c) (o':=o) (c':=c) h1 ⟨hn,.inl ⟨by omega,rfl⟩⟩
 rwa [h2]at this
theorem aOu (w:World):Sim w.heap.size w All (BV w) (vT w) w where
 base_le:=aR _
 old:=fun _ _=>rfl
 dom:=fun id L h=>by
  obtain⟨h1,h2⟩:=aD8 h
  exact⟨by omega,fun h=>by omega⟩
 apart:=fun id L h0 h b hb=>by
  obtain⟨h1,h2⟩:=aD8 h
  omega
 stat:=fun id L B h hB=>by
  unfold BV at h
  split at h
  ·unfold vT at hB
   rw[mE,yC]at hB
   split at h
   ·rename_i c e fz hg
    cases h
    rw[hg]at hB
    simp only[Option.map_some,iJ]at hB
    subst hB
    simp[yO]
   ·rename_i hne
    cases h
    cases hg:w.heap[id]? with
    | none=>rw[hg]at hB;cases hB
    | some o =>
      rw[hg]at hB
      simp only[Option.map_some,iJ]at hB
      subst hB
      cases o with
      | cells c e fz=>exact absurd hg (hne c e fz)
      | _=>simp[yO]
  ·cases h
 cont:=fun id L B _ h hB=>by
  obtain⟨hB1,hB2⟩:=blk?_inv hB
  unfold vT at hB1
  rw[mE,yC]at hB1
  unfold BV at h
  split at h
  ·split at h
   ·rename_i c e fz hg
    cases h
    rw[hg]at hB1
    simp only[Option.map_some,iJ]at hB1
    subst hB1
    refine⟨c,e,fz,hg,by simp,fun h=>by omega,fun i v hv hh => ?_⟩
    simp only[yO,mE,yC]at hv
    cases hu:c[i]? with
    | none=>simp[hu]at hv
    | some u =>
      simp only[hu,Option.map_some,iJ]at hv
      subst hv
      split at hh
      ·rename_i hr
       rw[aB hr]
       exact⟨u,by simpa using hu,hr⟩
      ·rename_i hr
       split at hh
       ·rename_i he
        rw[aA hr,aB he]
        obtain⟨a,rfl⟩:=WW he
        have h0:0<w.heap.size:=by have:=(Array.getElem?_eq_some_iff.1 hg).1;omega
        obtain⟨L0,k1,_,_⟩:=aCS h0
        exact⟨_,by simpa using hu,.empty a k1⟩
       ·cases hh
   ·rename_i hne
    cases hg:w.heap[id]? with
    | none=>rw[hg]at hB1;cases hB1
    | some o =>
      rw[hg]at hB1
      simp only[Option.map_some,iJ]at hB1
      subst hB1
      cases o with
      | cells c e fz=>exact absurd hg (hne c e fz)
      | _=>simp[yO]at hB2
  ·cases h
 inj:=fun id id' L L' _ _ h h' _ _ b1 _ _=>by
  have:=(aD8 h).1
  omega
theorem aEB {P:Program}{w:World}(hX:kW w.heap.size w P (YJ P))(hm:P.follows .mixedOrders=true){N:Nat}{f:FuncId}{args:Array Value}{v:Value}{H':aE}
 (hargs:∀ x∈args.toList,VRel (BV w) x x) (h:xM P N w.heap.size f args (vT w)=some (v,H')) (hv:nL v=true) :
 Calls P f args w fun e w'=>e = .returned v/\Below w.heap.size w w':=by
 have hl:LRel (BV w) args.toList args.toList:=⟨rfl,fun i a b ha hb=>by
  rw[ha]at hb;cases hb
  exact hargs a (sR ha)⟩
 refine(W7 P hX hm N w.heap.size f args args (BV w) (vT w) H' w v (aOu w) (aR _) (by rw[GU];exact aR _) (fun id h1 _ => ?_) hl h).mono ?_
 ·rw[GU]at h1
  unfold BV
  rw[aA (by omega)]
 ·rintro e w' ⟨v',ρ',rfl,hr,hs⟩
  refine⟨?_,hs.side.1,hs.side.2.1,hs.side.2.2,hs.grow,fun k hk=>hs.sim.old k hk⟩
  cases hr <;> first|rfl|(simp[nL]at hv;done)
end Go.Mach
