/- Part of the proof. No condition. -/
import Derived.Test.YtpigepmgheabhaaGreatDoorYSound
import Derived.Below
namespace Go.Mach
open Go.RowKit
def tK (w:World):Ren:=fun id =>
 if id<w.heap.size then
  match w.heap[id]? with
  | some (.cells c _ _)=>some ⟨id,0,c.size,c.size,0,true⟩
  | _=>some ⟨id,0,0,0,0,true⟩
 else none
def PL:Value->Bool
 | .slice (some _) 0 0=>true
 | _=>false
def aBu:Value := .slice (some ⟨0,0,none⟩) 0 0
theorem S8 {v:Value}(h:PL v=true):∃ a,v = .slice (some a) 0 0:=by
 unfold PL at h
 split at h
 ·exact⟨_,rfl⟩
 ·cases h
open Classical in
noncomputable def nC (w:World):Obj->Blk
 | .cells c _ _=>⟨c.toList.map fun v=>if VRel (tK w) v v then v else if PL v then aBu else aHV,0,true,true⟩
 | _=>⟨[],0,true,false⟩
noncomputable def mW (w:World):aD:=w.heap.toList.map (nC w)
theorem s6 (w:World):(mW w).length=w.heap.size:=by simp[mW]
theorem OR {w:World}{id:Nat}{L:Loc}(h:tK w id=some L):id<w.heap.size/\L.blk=id:=by
 unfold tK at h
 split at h
 ·rename_i hl
  refine⟨hl,?_⟩
  split at h <;> cases h <;> rfl
 ·cases h
theorem UC {w:World}{b:Nat}{c:Array Value}{e:TypeId}{fz:Nat×Nat}(h:w.heap[b]? = some (.cells c e fz)) :
 blk? (mW w) b=some (nC w (.cells c e fz)):=by
 unfold blk? mW
 rw[b8,nF,h]
 simp only[Option.map_some,nC,aO]
theorem NI {w:World}{b:Nat}(h:b<w.heap.size):∃ L,tK w b=some L/\L.blk=b/\L.off=0:=by
 unfold tK
 rw[aA h]
 split <;> exact⟨_,rfl,rfl,rfl⟩
theorem LG {w:World}{b o n c:Nat}(h:b<w.heap.size)(hn:n<=c):VRel (tK w) (.slice (some ⟨b,o,none⟩) n c) (.slice (some ⟨b,o,none⟩) n c):=by
 obtain⟨L,h1,h2,h3⟩:=NI h
 have:=VRel.slice (o:=o) (n:=n) (c:=c) (o':=o) (c':=c) h1 ⟨hn,.inl ⟨by omega,rfl⟩⟩
 rwa [h2]at this
theorem aIY (w:World):Sim w.heap.size w All (tK w) (mW w) w where
 base_le:=aF _
 old:=fun _ _=>rfl
 dom:=fun id L h=>by
  obtain⟨h1,h2⟩:=OR h
  exact⟨by omega,fun h=>by omega⟩
 apart:=fun id L h0 h b hb=>by
  obtain⟨h1,h2⟩:=OR h
  omega
 stat:=fun id L B h hB=>by
  unfold tK at h
  split at h
  ·unfold mW at hB
   rw[b8,nF]at hB
   split at h
   ·rename_i c e fz hg
    cases h
    rw[hg]at hB
    simp only[Option.map_some,aX]at hB
    subst hB
    simp[nC]
   ·rename_i hne
    cases h
    cases hg:w.heap[id]? with
    | none=>rw[hg]at hB;cases hB
    | some o =>
      rw[hg]at hB
      simp only[Option.map_some,aX]at hB
      subst hB
      cases o with
      | cells c e fz=>exact absurd hg (hne c e fz)
      | _=>simp[nC]
  ·cases h
 cont:=fun id L B _ h hB=>by
  obtain⟨hB1,hB2⟩:=blk?_inv hB
  unfold mW at hB1
  rw[b8,nF]at hB1
  unfold tK at h
  split at h
  ·split at h
   ·rename_i c e fz hg
    cases h
    rw[hg]at hB1
    simp only[Option.map_some,aX]at hB1
    subst hB1
    refine⟨c,e,fz,hg,by simp,fun h=>by omega,fun i v hv hh => ?_⟩
    simp only[nC,b8,nF]at hv
    cases hu:c[i]? with
    | none=>simp[hu]at hv
    | some u =>
      simp only[hu,Option.map_some,aX]at hv
      subst hv
      split at hh
      ·rename_i hr
       rw[aA hr]
       exact⟨u,by simpa using hu,hr⟩
      ·rename_i hr
       split at hh
       ·rename_i he
        rw[aC hr,aA he]
        obtain⟨a,rfl⟩:=S8 he
        have h0:0<w.heap.size:=by have:=(Array.getElem?_eq_some_iff.1 hg).1;omega
        obtain⟨L0,k1,_,_⟩:=NI h0
        exact⟨_,by simpa using hu,.empty a k1⟩
       ·cases hh
   ·rename_i hne
    cases hg:w.heap[id]? with
    | none=>rw[hg]at hB1;cases hB1
    | some o =>
      rw[hg]at hB1
      simp only[Option.map_some,aX]at hB1
      subst hB1
      cases o with
      | cells c e fz=>exact absurd hg (hne c e fz)
      | _=>simp[nC]at hB2
  ·cases h
 inj:=fun id id' L L' _ _ h h' _ _ b1 _ _=>by
  have:=(OR h).1
  omega
theorem PS {P:Program}{w:World}(hX:CallerSound w.heap.size w P (zA P))(hm:P.follows .mixedOrders=true){N:Nat}{f:FuncId}{args:Array Value}{v:Value}{H':aD}
 (hargs:∀ x∈args.toList,VRel (tK w) x x) (h:f9 P N w.heap.size f args (mW w)=some (v,H')) (hv:fX v=true) :
 Calls P f args w fun e w'=>e = .returned v/\Below w.heap.size w w':=by
 have hl:LRel (tK w) args.toList args.toList:=⟨rfl,fun i a b ha hb=>by
  rw[ha]at hb;cases hb
  exact hargs a (fW ha)⟩
 refine(FY P hX hm N w.heap.size f args args (tK w) (mW w) H' w v (aIY w) (aF _) (by rw[s6];exact aF _) (fun id h1 _ => ?_) hl h).mono ?_
 ·rw[s6]at h1
  unfold tK
  rw[aC (by omega)]
 ·rintro e w' ⟨v',ρ',rfl,hr,hs⟩
  refine⟨?_,hs.side.1,hs.side.2.1,hs.side.2.2,hs.grow,fun k hk=>hs.sim.old k hk⟩
  cases hr <;> first|rfl|(simp[fX]at hv;done)
end Go.Mach
