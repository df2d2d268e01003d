/- Part of the proof. No condition. -/
import Derived.Test.YtcfpfefadlnmcaaGreatYSound
import Derived.Below
namespace Go.Mach
open Go.RowKit
def tA (w:World):Ren:=fun id =>
 if id<w.heap.size then
  match w.heap[id]? with
  | some (.cells c _ _)=>some ⟨id,0,c.size,c.size,0,true⟩
  | _=>some ⟨id,0,0,0,0,true⟩
 else none
def T8:Value->Bool
 | .slice (some _) 0 0=>true
 | _=>false
def Z2:Value := .slice (some ⟨0,0,none⟩) 0 0
theorem MH {v:Value}(h:T8 v=true):∃ a,v = .slice (some a) 0 0:=by
 unfold T8 at h
 split at h
 ·exact⟨_,rfl⟩
 ·cases h
open Classical in
noncomputable def qJ (w:World):Obj->Blk
 | .cells c _ _=>⟨c.toList.map fun v=>if VRel (tA w) v v then v else if T8 v then Z2 else aGc,0,true,true⟩
 | _=>⟨[],0,true,false⟩
noncomputable def oG (w:World):aB:=w.heap.toList.map (qJ w)
theorem yG (w:World):(oG w).length=w.heap.size:=by simp[oG]
theorem V0 {w:World}{id:Nat}{L:Loc}(h:tA w id=some L):id<w.heap.size/\L.blk=id:=by
 unfold tA at h
 split at h
 ·rename_i hl
  refine⟨hl,?_⟩
  split at h <;> cases h <;> rfl
 ·cases h
theorem aAg {w:World}{b:Nat}{c:Array Value}{e:TypeId}{fz:Nat×Nat}(h:w.heap[b]? = some (.cells c e fz)) :
 blk? (oG w) b=some (qJ w (.cells c e fz)):=by
 unfold blk? oG
 rw[List.getElem?_map,Array.getElem?_toList,h]
 simp only[Option.map_some,qJ,if_true]
theorem S4 {w:World}{b:Nat}(h:b<w.heap.size):∃ L,tA w b=some L/\L.blk=b/\L.off=0:=by
 unfold tA
 rw[if_pos h]
 split <;> exact⟨_,rfl,rfl,rfl⟩
theorem GO {w:World}{b o n c:Nat}(h:b<w.heap.size)(hn:n<=c):VRel (tA w) (.slice (some ⟨b,o,none⟩) n c) (.slice (some ⟨b,o,none⟩) n c):=by
 obtain⟨L,h1,h2,h3⟩:=S4 h
 have:=VRel.slice (o:=o) (n:=n) (c:=c) (o':=o) (c':=c) h1 ⟨hn,.inl ⟨by omega,rfl⟩⟩
 rwa [h2]at this
theorem aI2 (w:World):Sim w.heap.size w All (tA w) (oG w) w where
 base_le:=Nat.le_refl _
 old:=fun _ _=>rfl
 dom:=fun id L h=>by
  obtain⟨h1,h2⟩:=V0 h
  exact⟨by omega,fun h=>by omega⟩
 apart:=fun id L h0 h b hb=>by
  obtain⟨h1,h2⟩:=V0 h
  omega
 stat:=fun id L B h hB=>by
  unfold tA at h
  split at h
  ·unfold oG at hB
   rw[List.getElem?_map,Array.getElem?_toList]at hB
   split at h
   ·rename_i c e fz hg
    cases h
    rw[hg]at hB
    simp only[Option.map_some,Option.some.injEq]at hB
    subst hB
    simp[qJ]
   ·rename_i hne
    cases h
    cases hg:w.heap[id]? with
    | none=>rw[hg]at hB;cases hB
    | some o =>
      rw[hg]at hB
      simp only[Option.map_some,Option.some.injEq]at hB
      subst hB
      cases o with
      | cells c e fz=>exact absurd hg (hne c e fz)
      | _=>simp[qJ]
  ·cases h
 cont:=fun id L B _ h hB=>by
  obtain⟨hB1,hB2⟩:=blk?_inv hB
  unfold oG at hB1
  rw[List.getElem?_map,Array.getElem?_toList]at hB1
  unfold tA at h
  split at h
  ·split at h
   ·rename_i c e fz hg
    cases h
    rw[hg]at hB1
    simp only[Option.map_some,Option.some.injEq]at hB1
    subst hB1
    refine⟨c,e,fz,hg,by simp,fun h=>by omega,fun i v hv hh => ?_⟩
    simp only[qJ,List.getElem?_map,Array.getElem?_toList]at hv
    cases hu:c[i]? with
    | none=>simp[hu]at hv
    | some u =>
      simp only[hu,Option.map_some,Option.some.injEq]at hv
      subst hv
      split at hh
      ·rename_i hr
       rw[if_pos hr]
       exact⟨u,by simpa using hu,hr⟩
      ·rename_i hr
       split at hh
       ·rename_i he
        rw[if_neg hr,if_pos he]
        obtain⟨a,rfl⟩:=MH he
        have h0:0<w.heap.size:=by have:=(Array.getElem?_eq_some_iff.1 hg).1;omega
        obtain⟨L0,k1,_,_⟩:=S4 h0
        exact⟨_,by simpa using hu,.empty a k1⟩
       ·cases hh
   ·rename_i hne
    cases hg:w.heap[id]? with
    | none=>rw[hg]at hB1;cases hB1
    | some o =>
      rw[hg]at hB1
      simp only[Option.map_some,Option.some.injEq]at hB1
      subst hB1
      cases o with
      | cells c e fz=>exact absurd hg (hne c e fz)
      | _=>simp[qJ]at hB2
  ·cases h
 inj:=fun id id' L L' _ _ h h' _ _ b1 _ _=>by
  have:=(V0 h).1
  omega
theorem UV {P:Program}{w:World}(hX:gW w.heap.size w P (NJ P))(hm:P.follows .mixedOrders=true){N:Nat}{f:FuncId}{args:Array Value}{v:Value}{H':aB}
 (hargs:∀ x∈args.toList,VRel (tA w) x x) (h:qC P N w.heap.size f args (oG w)=some (v,H')) (hv:i6 v=true) :
 Calls P f args w fun e w'=>e = .returned v/\Below w.heap.size w w':=by
 have hl:LRel (tA w) args.toList args.toList:=⟨rfl,fun i a b ha hb=>by
  rw[ha]at hb;cases hb
  exact hargs a (List.mem_of_getElem? ha)⟩
 refine(MN P hX hm N w.heap.size f args args (tA w) (oG w) H' w v (aI2 w) (Nat.le_refl _) (by rw[yG];exact Nat.le_refl _) (fun id h1 _ => ?_) hl h).mono ?_
 ·rw[yG]at h1
  unfold tA
  rw[if_neg (by omega)]
 ·rintro e w' ⟨v',ρ',rfl,hr,hs⟩
  refine⟨?_,hs.side.1,hs.side.2.1,hs.side.2.2,hs.grow,fun k hk=>hs.sim.old k hk⟩
  cases hr <;> first|rfl|(simp[i6]at hv;done)
end Go.Mach
