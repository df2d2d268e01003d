/- Part of the proof. No condition. -/
import Derived.Test.YtcfpfefadlnmcaaGreatYSound
import Derived.Below
namespace Go.Mach
open Go.RowKit
def t5 (w : World) : Ren := fun id =>
  if id < w.heap.size then
    match w.heap[id]? with
    | some (.cells c _ _) => some ⟨id, 0, c.size, c.size, 0, true⟩
    | _ => some ⟨id, 0, 0, 0, 0, true⟩
  else none
def VD:Value->Bool
 | .slice (some _) 0 0=>true
 | _=>false
def Z5:Value := .slice (some ⟨0,0,none⟩) 0 0
theorem L4 {v:Value} (h:VD v=true):∃ a,v = .slice (some a) 0 0:=by
 unfold VD at h
 split at h
 ·exact ⟨_,rfl⟩
 ·cases h
open Classical in
noncomputable def qY (w:World):Obj->Blk
 | .cells c _ _=>⟨c.toList.map fun v=>if VRel (t5 w) v v then v else if VD v then Z5 else aG1,0,true,true⟩
 | _=>⟨[],0,true,false⟩
noncomputable def pT (w:World):aB:=w.heap.toList.map (qY w)
theorem xK (w:World):(pT w).length=w.heap.size:=by simp [pT]
theorem UR {w:World} {id:Nat} {L:Loc} (h:t5 w id=some L):id<w.heap.size/\L.blk=id:=by
 unfold t5 at h
 split at h
 ·rename_i hl
  refine ⟨hl,?_⟩
  split at h <;> cases h <;> rfl
 ·cases h
theorem Y8 {w:World} {b:Nat} {c:Array Value} {e:TypeId} {fz:Nat×Nat} (h:w.heap[b]? = some (.cells c e fz)) :
  blk? (pT w) b=some (qY w (.cells c e fz)):=by
 unfold blk? pT
 rw [List.getElem?_map,Array.getElem?_toList,h]
 simp only [Option.map_some,qY,if_true]
theorem SP {w:World} {b:Nat} (h:b<w.heap.size):∃ L,t5 w b=some L/\L.blk=b/\L.off=0:=by
 unfold t5
 rw [if_pos h]
 split <;> exact ⟨_,rfl,rfl,rfl⟩
theorem QM {w:World} {b o n c:Nat} (h:b<w.heap.size) (hn:n<=c):VRel (t5 w) (.slice (some ⟨b,o,none⟩) n c) (.slice (some ⟨b,o,none⟩) n c):=by
 obtain ⟨L,h1,h2,h3⟩:=SP h
 have:=VRel.slice (o:=o) (n:=n) (c:=c) (o':=o) (c':=c) h1 ⟨hn,.inl ⟨by omega,rfl⟩⟩
 rwa [h2] at this
theorem aHp (w : World) : Sim w.heap.size w All (t5 w) (pT w) w where
  base_le := Nat.le_refl _
  old := fun _ _ => rfl
  dom := fun id L h => by
    obtain ⟨h1, h2⟩ := UR h
    exact ⟨by omega, fun h => by omega⟩
  apart := fun id L h0 h b hb => by
    obtain ⟨h1, h2⟩ := UR h
    omega
  stat := fun id L B h hB => by
    unfold t5 at h
    split at h
    · unfold pT at hB
      rw [List.getElem?_map, Array.getElem?_toList] at hB
      split at h
      · rename_i c e fz hg
        cases h
        rw [hg] at hB
        simp only [Option.map_some, Option.some.injEq] at hB
        subst hB
        simp [qY]
      · rename_i hne
        cases h
        cases hg : w.heap[id]? with
        | none => rw [hg] at hB; cases hB
        | some o =>
          rw [hg] at hB
          simp only [Option.map_some, Option.some.injEq] at hB
          subst hB
          cases o with
          | cells c e fz => exact absurd hg (hne c e fz)
          | _ => simp [qY]
    · cases h
  cont := fun id L B _ h hB => by
    obtain ⟨hB1, hB2⟩ := blk?_inv hB
    unfold pT at hB1
    rw [List.getElem?_map, Array.getElem?_toList] at hB1
    unfold t5 at h
    split at h
    · split at h
      · rename_i c e fz hg
        cases h
        rw [hg] at hB1
        simp only [Option.map_some, Option.some.injEq] at hB1
        subst hB1
        refine ⟨c, e, fz, hg, by simp, fun h => by omega, fun i v hv hh => ?_⟩
        simp only [qY, List.getElem?_map, Array.getElem?_toList] at hv
        cases hu : c[i]? with
        | none => simp [hu] at hv
        | some u =>
          simp only [hu, Option.map_some, Option.some.injEq] at hv
          subst hv
          split at hh
          · rename_i hr
            rw [if_pos hr]
            exact ⟨u, by simpa using hu, hr⟩
          · rename_i hr
            split at hh
            · rename_i he
              rw [if_neg hr, if_pos he]
              obtain ⟨a, rfl⟩ := L4 he
              have h0 : 0 < w.heap.size := by have := (Array.getElem?_eq_some_iff.1 hg).1; omega
              obtain ⟨L0, k1, _, _⟩ := SP h0
              exact ⟨_, by simpa using hu, .empty a k1⟩
            · cases hh
      · rename_i hne
        cases hg : w.heap[id]? with
        | none => rw [hg] at hB1; cases hB1
        | some o =>
          rw [hg] at hB1
          simp only [Option.map_some, Option.some.injEq] at hB1
          subst hB1
          cases o with
          | cells c e fz => exact absurd hg (hne c e fz)
          | _ => simp [qY] at hB2
    · cases h
  inj := fun id id' L L' _ _ h h' _ _ b1 _ _ => by
    have := (UR h).1
    omega
theorem U9 {P:Program} {w:World} (hX:gZ w.heap.size w P (MZ P)) (hm:P.follows .mixedOrders=true) {N:Nat} {f:FuncId} {args:Array Value} {v:Value} {H':aB}
  (hargs:∀ x∈args.toList,VRel (t5 w) x x) (h:pX P N w.heap.size f args (pT w)=some (v,H')) (hv:iY v=true) :
  Calls P f args w fun e w'=>e = .returned v/\Below w.heap.size w w':=by
 have hl:LRel (t5 w) args.toList args.toList:=⟨rfl,fun i a b ha hb=>by
  rw [ha] at hb; cases hb
  exact hargs a (List.mem_of_getElem? ha)⟩
 refine (LN P hX hm N w.heap.size f args args (t5 w) (pT w) H' w v (aHp w) (Nat.le_refl _) (by rw [xK]; exact Nat.le_refl _) (fun id h1 _ => ?_) hl h).mono ?_
 ·rw [xK] at h1
  unfold t5
  rw [if_neg (by omega)]
 ·rintro e w' ⟨v',ρ',rfl,hr,hs⟩
  refine ⟨?_,hs.side.1,hs.side.2.1,hs.side.2.2,hs.grow,fun k hk=>hs.sim.old k hk⟩
  cases hr <;> first | rfl | (simp [iY] at hv; done)
end Go.Mach
