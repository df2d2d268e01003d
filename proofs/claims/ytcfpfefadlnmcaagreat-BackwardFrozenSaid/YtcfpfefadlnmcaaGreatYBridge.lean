/- Part of the proof. No condition. -/
import Derived.Test.YtcfpfefadlnmcaaGreatYSound
import Derived.Below
namespace Go.Mach
open Go.RowKit
def tH (w : World) : Ren := fun id =>
  if id < w.heap.size then
    match w.heap[id]? with
    | some (.cells c _ _) => some ⟨id, 0, c.size, c.size, 0, true⟩
    | _ => some ⟨id, 0, 0, 0, 0, true⟩
  else none
def WE:Value->Bool
 | .slice (some _) 0 0=>true
 | _=>false
def Z4:Value := .slice (some ⟨0,0,none⟩) 0 0
theorem LZ {v:Value} (h:WE v=true):∃ a,v = .slice (some a) 0 0:=by
 unfold WE at h
 split at h
 ·exact ⟨_,rfl⟩
 ·cases h
open Classical in
noncomputable def q6 (w:World):Obj->Blk
 | .cells c _ _=>⟨c.toList.map fun v=>if VRel (tH w) v v then v else if WE v then Z4 else aGS,0,true,true⟩
 | _=>⟨[],0,true,false⟩
noncomputable def oI (w:World):aB:=w.heap.toList.map (q6 w)
theorem yD (w:World):(oI w).length=w.heap.size:=by simp [oI]
theorem WL {w:World} {id:Nat} {L:Loc} (h:tH w id=some L):id<w.heap.size/\L.blk=id:=by
 unfold tH at h
 split at h
 ·rename_i hl
  refine ⟨hl,?_⟩
  split at h <;> cases h <;> rfl
 ·cases h
theorem aAu {w:World} {b:Nat} {c:Array Value} {e:TypeId} {fz:Nat×Nat} (h:w.heap[b]? = some (.cells c e fz)) :
  blk? (oI w) b=some (q6 w (.cells c e fz)):=by
 unfold blk? oI
 rw [List.getElem?_map,Array.getElem?_toList,h]
 simp only [Option.map_some,q6,if_true]
theorem TE {w:World} {b:Nat} (h:b<w.heap.size):∃ L,tH w b=some L/\L.blk=b/\L.off=0:=by
 unfold tH
 rw [if_pos h]
 split <;> exact ⟨_,rfl,rfl,rfl⟩
theorem GW {w:World} {b o n c:Nat} (h:b<w.heap.size) (hn:n<=c):VRel (tH w) (.slice (some ⟨b,o,none⟩) n c) (.slice (some ⟨b,o,none⟩) n c):=by
 obtain ⟨L,h1,h2,h3⟩:=TE h
 have:=VRel.slice (o:=o) (n:=n) (c:=c) (o':=o) (c':=c) h1 ⟨hn,.inl ⟨by omega,rfl⟩⟩
 rwa [h2] at this
theorem aID (w : World) : Sim w.heap.size w All (tH w) (oI w) w where
  base_le := Nat.le_refl _
  old := fun _ _ => rfl
  dom := fun id L h => by
    obtain ⟨h1, h2⟩ := WL h
    exact ⟨by omega, fun h => by omega⟩
  apart := fun id L h0 h b hb => by
    obtain ⟨h1, h2⟩ := WL h
    omega
  stat := fun id L B h hB => by
    unfold tH at h
    split at h
    · unfold oI at hB
      rw [List.getElem?_map, Array.getElem?_toList] at hB
      split at h
      · rename_i c e fz hg
        cases h
        rw [hg] at hB
        simp only [Option.map_some, Option.some.injEq] at hB
        subst hB
        simp [q6]
      · rename_i hne
        cases h
        cases hg : w.heap[id]? with
        | none => rw [hg] at hB; cases hB
        | some o =>
          rw [hg] at hB
          simp only [Option.map_some, Option.some.injEq] at hB
          subst hB
          cases o with
          | cells c e fz => exact absurd hg (hne c e fz)
          | _ => simp [q6]
    · cases h
  cont := fun id L B _ h hB => by
    obtain ⟨hB1, hB2⟩ := blk?_inv hB
    unfold oI at hB1
    rw [List.getElem?_map, Array.getElem?_toList] at hB1
    unfold tH at h
    split at h
    · split at h
      · rename_i c e fz hg
        cases h
        rw [hg] at hB1
        simp only [Option.map_some, Option.some.injEq] at hB1
        subst hB1
        refine ⟨c, e, fz, hg, by simp, fun h => by omega, fun i v hv hh => ?_⟩
        simp only [q6, List.getElem?_map, Array.getElem?_toList] at hv
        cases hu : c[i]? with
        | none => simp [hu] at hv
        | some u =>
          simp only [hu, Option.map_some, Option.some.injEq] at hv
          subst hv
          split at hh
          · rename_i hr
            rw [if_pos hr]
            exact ⟨u, by simpa using hu, hr⟩
          · rename_i hr
            split at hh
            · rename_i he
              rw [if_neg hr, if_pos he]
              obtain ⟨a, rfl⟩ := LZ he
              have h0 : 0 < w.heap.size := by have := (Array.getElem?_eq_some_iff.1 hg).1; omega
              obtain ⟨L0, k1, _, _⟩ := TE h0
              exact ⟨_, by simpa using hu, .empty a k1⟩
            · cases hh
      · rename_i hne
        cases hg : w.heap[id]? with
        | none => rw [hg] at hB1; cases hB1
        | some o =>
          rw [hg] at hB1
          simp only [Option.map_some, Option.some.injEq] at hB1
          subst hB1
          cases o with
          | cells c e fz => exact absurd hg (hne c e fz)
          | _ => simp [q6] at hB2
    · cases h
  inj := fun id id' L L' _ _ h h' _ _ b1 _ _ => by
    have := (WL h).1
    omega
theorem VU {P:Program} {w:World} (hX:gX w.heap.size w P (M6 P)) (hm:P.follows .mixedOrders=true) {N:Nat} {f:FuncId} {args:Array Value} {v:Value} {H':aB}
  (hargs:∀ x∈args.toList,VRel (tH w) x x) (h:qA P N w.heap.size f args (oI w)=some (v,H')) (hv:iW v=true) :
  Calls P f args w fun e w'=>e = .returned v/\Below w.heap.size w w':=by
 have hl:LRel (tH w) args.toList args.toList:=⟨rfl,fun i a b ha hb=>by
  rw [ha] at hb; cases hb
  exact hargs a (List.mem_of_getElem? ha)⟩
 refine (LV P hX hm N w.heap.size f args args (tH w) (oI w) H' w v (aID w) (Nat.le_refl _) (by rw [yD]; exact Nat.le_refl _) (fun id h1 _ => ?_) hl h).mono ?_
 ·rw [yD] at h1
  unfold tH
  rw [if_neg (by omega)]
 ·rintro e w' ⟨v',ρ',rfl,hr,hs⟩
  refine ⟨?_,hs.side.1,hs.side.2.1,hs.side.2.2,hs.grow,fun k hk=>hs.sim.old k hk⟩
  cases hr <;> first | rfl | (simp [iW] at hv; done)
end Go.Mach
