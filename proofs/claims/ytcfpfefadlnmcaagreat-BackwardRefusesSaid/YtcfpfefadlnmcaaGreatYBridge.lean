/- Part of the proof. No condition. -/
import Derived.Test.YtcfpfefadlnmcaaGreatYSound
import Derived.Below
namespace Go.Mach
open Go.RowKit
def B7 (w:World):Ren:=fun id =>
 if id<w.heap.size then
  match w.heap[id]? with
  | some (.cells c _ _)=>some ⟨id,0,c.size,c.size,0,true⟩
  | _=>some ⟨id,0,0,0,0,true⟩
 else none
def aDS:Value->Bool
 | .slice (some _) 0 0=>true
 | _=>false
def aHU:Value := .slice (some ⟨0,0,none⟩) 0 0
theorem W7 {v:Value}(h:aDS v=true):∃ a,v = .slice (some a) 0 0:=by
 unfold aDS at h
 split at h
 ·exact⟨_,rfl⟩
 ·cases h
open Classical in
noncomputable def zA (w:World):Obj->Blk
 | .cells c _ _=>⟨c.toList.map fun v=>if VRel (B7 w) v v then v else if aDS v then aHU else aN6,0,true,true⟩
 | _=>⟨[],0,true,false⟩
noncomputable def wE (w:World):aE:=w.heap.toList.map (zA w)
theorem HG (w:World):(wE w).length=w.heap.size:=by simp[wE]
theorem aEX {w:World}{id:Nat}{L:Loc}(h:B7 w id=some L):id<w.heap.size/\L.blk=id:=by
 unfold B7 at h
 split at h
 ·rename_i hl
  refine⟨hl,?_⟩
  split at h <;> cases h <;> rfl
 ·cases h
theorem aHI {w:World}{b:Nat}{c:Array Value}{e:TypeId}{fz:Nat×Nat}(h:w.heap[b]? = some (.cells c e fz)) :
 blk? (wE w) b=some (zA w (.cells c e fz)):=by
 unfold blk? wE
 rw[mO,zJ,h]
 simp only[Option.map_some,zA,bO]
theorem aC0 {w:World}{b:Nat}(h:b<w.heap.size):∃ L,B7 w b=some L/\L.blk=b/\L.off=0:=by
 unfold B7
 rw[aB h]
 split <;> exact⟨_,rfl,rfl,rfl⟩
theorem SD {w:World}{b o n c:Nat}(h:b<w.heap.size)(hn:n<=c):VRel (B7 w) (.slice (some ⟨b,o,none⟩) n c) (.slice (some ⟨b,o,none⟩) n c):=by
 obtain⟨L,h1,h2,h3⟩:=aC0 h
 have:=VRel.slice (o:=o) (n:=n) (c:=c) (o':=o) (c':=c) h1 ⟨hn,.inl ⟨by omega,rfl⟩⟩
 rwa [h2]at this
theorem aP5 (w:World):Sim w.heap.size w All (B7 w) (wE w) w where
 base_le:=aJ _
 old:=fun _ _=>rfl
 dom:=fun id L h=>by
  obtain⟨h1,h2⟩:=aEX h
  exact⟨by omega,fun h=>by omega⟩
 apart:=fun id L h0 h b hb=>by
  obtain⟨h1,h2⟩:=aEX h
  omega
 stat:=fun id L B h hB=>by
  unfold B7 at h
  split at h
  ·unfold wE at hB
   rw[mO,zJ]at hB
   split at h
   ·rename_i c e fz hg
    cases h
    rw[hg]at hB
    simp only[Option.map_some,iU]at hB
    subst hB
    simp[zA]
   ·rename_i hne
    cases h
    cases hg:w.heap[id]? with
    | none=>rw[hg]at hB;cases hB
    | some o =>
      rw[hg]at hB
      simp only[Option.map_some,iU]at hB
      subst hB
      cases o with
      | cells c e fz=>exact absurd hg (hne c e fz)
      | _=>simp[zA]
  ·cases h
 cont:=fun id L B _ h hB=>by
  obtain⟨hB1,hB2⟩:=blk?_inv hB
  unfold wE at hB1
  rw[mO,zJ]at hB1
  unfold B7 at h
  split at h
  ·split at h
   ·rename_i c e fz hg
    cases h
    rw[hg]at hB1
    simp only[Option.map_some,iU]at hB1
    subst hB1
    refine⟨c,e,fz,hg,by simp,fun h=>by omega,fun i v hv hh => ?_⟩
    simp only[zA,mO,zJ]at hv
    cases hu:c[i]? with
    | none=>simp[hu]at hv
    | some u =>
      simp only[hu,Option.map_some,iU]at hv
      subst hv
      split at hh
      ·rename_i hr
       rw[aB hr]
       exact⟨u,by simpa using hu,hr⟩
      ·rename_i hr
       split at hh
       ·rename_i he
        rw[aA hr,aB he]
        obtain⟨a,rfl⟩:=W7 he
        have h0:0<w.heap.size:=by have:=(Array.getElem?_eq_some_iff.1 hg).1;omega
        obtain⟨L0,k1,_,_⟩:=aC0 h0
        exact⟨_,by simpa using hu,.empty a k1⟩
       ·cases hh
   ·rename_i hne
    cases hg:w.heap[id]? with
    | none=>rw[hg]at hB1;cases hB1
    | some o =>
      rw[hg]at hB1
      simp only[Option.map_some,iU]at hB1
      subst hB1
      cases o with
      | cells c e fz=>exact absurd hg (hne c e fz)
      | _=>simp[zA]at hB2
  ·cases h
 inj:=fun id id' L L' _ _ h h' _ _ b1 _ _=>by
  have:=(aEX h).1
  omega
theorem aDa {P:Program}{w:World}(hX:lP w.heap.size w P (YS P))(hm:P.follows .mixedOrders=true){N:Nat}{f:FuncId}{args:Array Value}{v:Value}{H':aE}
 (hargs:∀ x∈args.toList,VRel (B7 w) x x) (h:yD P N w.heap.size f args (wE w)=some (v,H')) (hv:nY v=true) :
 Calls P f args w fun e w'=>e = .returned v/\Below w.heap.size w w':=by
 have hl:LRel (B7 w) args.toList args.toList:=⟨rfl,fun i a b ha hb=>by
  rw[ha]at hb;cases hb
  exact hargs a (s7 ha)⟩
 refine(WV P hX hm N w.heap.size f args args (B7 w) (wE w) H' w v (aP5 w) (aJ _) (by rw[HG];exact aJ _) (fun id h1 _ => ?_) hl h).mono ?_
 ·rw[HG]at h1
  unfold B7
  rw[aA (by omega)]
 ·rintro e w' ⟨v',ρ',rfl,hr,hs⟩
  refine⟨?_,hs.side.1,hs.side.2.1,hs.side.2.2,hs.grow,fun k hk=>hs.sim.old k hk⟩
  cases hr <;> first|rfl|(simp[nY]at hv;done)
end Go.Mach
