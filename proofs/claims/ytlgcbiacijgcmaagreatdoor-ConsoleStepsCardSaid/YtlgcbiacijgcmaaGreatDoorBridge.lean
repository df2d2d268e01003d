/- From a world to the machine's heap: every block of the world is there, to be read. No condition. -/
import Derived.Test.YtlgcbiacijgcmaaGreatDoorSound
import Derived.Below
namespace Go.Mach
open Go.RowKit

/-- The old blocks lie where they lie. -/
def ren0 (w : World) : Ren := fun id =>
  if id < w.heap.size then
    match w.heap[id]? with
    | some (.cells c _ _) => some ⟨id, 0, c.size, c.size, 0, true⟩
    | _ => some ⟨id, 0, 0, 0, 0, true⟩
  else none

/-- A slice without room; and one in the first block, to stand for it. -/
def emptyB : Value → Bool
  | .slice (some _) 0 0 => true
  | _ => false
def empty0 : Value := .slice (some ⟨0, 0, none⟩) 0 0
theorem emptyB_some {v : Value} (h : emptyB v = true) : ∃ a, v = .slice (some a) 0 0 := by
  unfold emptyB at h
  split at h
  · exact ⟨_, rfl⟩
  · cases h
open Classical in
/-- The machine's block of a block of the world; a cell with an address that leads out of the world is a hole. -/
noncomputable def blkOfObj (w : World) : Obj → Blk
  | .cells c _ _ => ⟨c.toList.map fun v => if VRel (ren0 w) v v then v else if emptyB v then empty0 else hole, 0, true, true⟩
  | _ => ⟨[], 0, true, false⟩

noncomputable def heapOf (w : World) : AHeap := w.heap.toList.map (blkOfObj w)

theorem heapOf_length (w : World) : (heapOf w).length = w.heap.size := by simp [heapOf]

theorem ren0_lt {w : World} {id : Nat} {L : Loc} (h : ren0 w id = some L) : id < w.heap.size ∧ L.blk = id := by
  unfold ren0 at h
  split at h
  · rename_i hl
    refine ⟨hl, ?_⟩
    split at h <;> cases h <;> rfl
  · cases h

theorem heapOf_get {w : World} {b : Nat} {c : Array Value} {e : TypeId} {fz : Nat × Nat} (h : w.heap[b]? = some (.cells c e fz)) :
    blk? (heapOf w) b = some (blkOfObj w (.cells c e fz)) := by
  unfold blk? heapOf
  rw [List.getElem?_map, Array.getElem?_toList, h]
  simp only [Option.map_some, blkOfObj, if_true]

/-- What the world tells of a cell the machine reads. -/
theorem heapOf_cell {w : World} {a : Addr} {v : Value} (h : w.cell? a = some v) (hv : VRel (ren0 w) v v) (hh : holeB v = false) : a.spot = none ∧ a.block < w.heap.size ∧ cellAt (heapOf w) a = some v := by
  unfold World.cell? at h
  split at h
  · rename_i c e fz hg
    split at h
    · cases h
    · rename_i hs
      refine ⟨by simpa using hs, (Array.getElem?_eq_some_iff.1 hg).1, ?_⟩
      unfold cellAt
      simp only [heapOf_get hg, blkOfObj, List.getElem?_map, Array.getElem?_toList, h, Option.map_some, if_pos hv, hh]
      rfl
  · cases h

theorem ren0_some {w : World} {b : Nat} (h : b < w.heap.size) : ∃ L, ren0 w b = some L ∧ L.blk = b ∧ L.off = 0 := by
  unfold ren0
  rw [if_pos h]
  split <;> exact ⟨_, rfl, rfl, rfl⟩

theorem vrel_slice {w : World} {b o n c : Nat} (h : b < w.heap.size) (hn : n ≤ c) : VRel (ren0 w) (.slice (some ⟨b, o, none⟩) n c) (.slice (some ⟨b, o, none⟩) n c) := by
  obtain ⟨L, h1, h2, h3⟩ := ren0_some h
  have := VRel.slice (o := o) (n := n) (c := c) (o' := o) (c' := c) h1 ⟨hn, .inl ⟨by omega, rfl⟩⟩
  rwa [h2] at this

theorem sim0 (w : World) : Sim w.heap.size w All (ren0 w) (heapOf w) w where
  base_le := Nat.le_refl _
  old := fun _ _ => rfl
  dom := fun id L h => by
    obtain ⟨h1, h2⟩ := ren0_lt h
    exact ⟨by omega, fun h => by omega⟩
  apart := fun id L h0 h b hb => by
    obtain ⟨h1, h2⟩ := ren0_lt h
    omega
  stat := fun id L B h hB => by
    unfold ren0 at h
    split at h
    · unfold heapOf at hB
      rw [List.getElem?_map, Array.getElem?_toList] at hB
      split at h
      · rename_i c e fz hg
        cases h
        rw [hg] at hB
        simp only [Option.map_some, Option.some.injEq] at hB
        subst hB
        simp [blkOfObj]
      · rename_i hne
        cases h
        cases hg : w.heap[id]? with
        | none => rw [hg] at hB; cases hB
        | some o =>
          rw [hg] at hB
          simp only [Option.map_some, Option.some.injEq] at hB
          subst hB
          cases o with
          | cells c e fz => exact absurd hg (hne c e fz)
          | _ => simp [blkOfObj]
    · cases h
  cont := fun id L B _ h hB => by
    obtain ⟨hB1, hB2⟩ := blk?_inv hB
    unfold heapOf at hB1
    rw [List.getElem?_map, Array.getElem?_toList] at hB1
    unfold ren0 at h
    split at h
    · split at h
      · rename_i c e fz hg
        cases h
        rw [hg] at hB1
        simp only [Option.map_some, Option.some.injEq] at hB1
        subst hB1
        refine ⟨c, e, fz, hg, by simp, fun h => by omega, fun i v hv hh => ?_⟩
        simp only [blkOfObj, List.getElem?_map, Array.getElem?_toList] at hv
        cases hu : c[i]? with
        | none => simp [hu] at hv
        | some u =>
          simp only [hu, Option.map_some, Option.some.injEq] at hv
          subst hv
          split at hh
          · rename_i hr
            rw [if_pos hr]
            exact ⟨u, by simpa using hu, hr⟩
          · rename_i hr
            split at hh
            · rename_i he
              rw [if_neg hr, if_pos he]
              obtain ⟨a, rfl⟩ := emptyB_some he
              have h0 : 0 < w.heap.size := by have := (Array.getElem?_eq_some_iff.1 hg).1; omega
              obtain ⟨L0, k1, _, _⟩ := ren0_some h0
              exact ⟨_, by simpa using hu, .empty a k1⟩
            · cases hh
      · rename_i hne
        cases hg : w.heap[id]? with
        | none => rw [hg] at hB1; cases hB1
        | some o =>
          rw [hg] at hB1
          simp only [Option.map_some, Option.some.injEq] at hB1
          subst hB1
          cases o with
          | cells c e fz => exact absurd hg (hne c e fz)
          | _ => simp [blkOfObj] at hB2
    · cases h
  inj := fun id id' L L' _ _ h h' _ _ b1 _ _ => by
    have := (ren0_lt h).1
    omega

/-- WHAT THE MACHINE ANSWERS, THE MODEL ANSWERS, and nothing that was there has turned. -/
theorem calls_of_run {P : Program} {w : World} (hX : CallerSound w.heap.size w P (extF P)) (hm : P.follows .mixedOrders = true) {N : Nat} {f : FuncId} {args : Array Value} {v : Value} {H' : AHeap}
    (hargs : ∀ x ∈ args.toList, VRel (ren0 w) x x) (h : callN P N w.heap.size f args (heapOf w) = some (v, H')) (hv : plainB v = true) :
    Calls P f args w fun e w' => e = .returned v ∧ Below w.heap.size w w' := by
  have hl : LRel (ren0 w) args.toList args.toList := ⟨rfl, fun i a b ha hb => by
    rw [ha] at hb; cases hb
    exact hargs a (List.mem_of_getElem? ha)⟩
  refine (callN_sound P hX hm N w.heap.size f args args (ren0 w) (heapOf w) H' w v (sim0 w) (Nat.le_refl _) (by rw [heapOf_length]; exact Nat.le_refl _) (fun id h1 _ => ?_) hl h).mono ?_
  · rw [heapOf_length] at h1
    unfold ren0
    rw [if_neg (by omega)]
  · rintro e w' ⟨v', ρ', rfl, hr, hs⟩
    refine ⟨?_, hs.side.1, hs.side.2.1, hs.side.2.2, hs.grow, fun k hk => hs.sim.old k hk⟩
    cases hr <;> first | rfl | (simp [plainB] at hv; done)

end Go.Mach
