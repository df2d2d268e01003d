/- WHAT THE FORMULAS SAY, THE MODEL COMES TO: strconv.Itoa and strings.Join, by the kit's contracts. Condition: the table of powers of ten lies as the library has it. -/
import Derived.Test.YtejbkafligpmbaaDoorLib
import Derived.Sort.Grow
import Derived.Below
import Derived.Test.YtejbkafligpmbaaDoorStep
namespace Go.Mach
open Go.RowKit Go.Shelf Go.Proofs Go.Sort

/-- A world in which new blocks lie behind; what was there has not turned. -/
theorem Step.behind {base : Nat} {w0 : World} {A W : Nat → Prop} {fl : Nat} {ρ : Ren} {H : AHeap} {w w' : World} (S : Sim base w0 A ρ H w) (hw : Below w.heap.size w w') :
    Step base w0 A W fl ρ H w ρ H w' where
  sim := by
    refine ⟨by have := S.base_le; have := hw.size; omega, fun b h => ?_, fun id L h => ?_, S.apart, S.stat, fun id L B a hr hb => ?_, fun id id' L L' a a' hr hr' hb hb' => ?_⟩
    · rw [hw.block b (by have := S.base_le; omega)]; exact S.old b h
    · have := S.dom id L h; have := hw.size; exact ⟨by omega, (S.dom id L h).2⟩
    · have := blk?_lt (H := H) (id := id) (by rw [hb]; rfl)
      rw [hw.block _ (S.dom id L hr).1]
      exact S.cont id L B (a.resolve_right (by omega)) hr hb
    · have := blk?_lt hb; have := blk?_lt hb'
      exact S.inj id id' L L' (a.resolve_right (by omega)) (a'.resolve_right (by omega)) hr hr' hb hb'
  ext := Ext.refl ρ
  new := fun id L h h' => by rw [h] at h'; cases h'
  frame := fun b h _ => hw.block b h
  grow := hw.size
  side := ⟨hw.os, hw.tape, hw.output⟩
  len := Nat.le_refl _
  keep := fun _ _ _ => rfl
  dead := fun _ _ h => h

theorem extF_kept (P : Program) : CallerKept (extF P) := by
  intro fl f args H v H' h
  simp only [extF] at h
  split at h
  · split at h
    · cases h; exact Kept.refl _ _
    · cases h
  · split at h
    · split at h
      · cases h; exact Kept.refl _ _
      · split at h
        · split at h
          · cases h; exact Kept.refl _ _
          · cases h
        · cases h
      · cases h
    · cases h
  · cases h

theorem grow_below (w : World) (k : Nat) (os : Array Obj) : Below w.heap.size w (grow (w.drewN k) os) where
  os := rfl
  tape := rfl
  output := rfl
  size := by simp [grow, World.drewN]
  block := fun i hi => by
    show (w.heap ++ os)[i]? = w.heap[i]?
    rw [Array.getElem?_append_left hi]

/-- The strings of a row of the machine stand in the world. -/
theorem strsA_rel {base : Nat} {w0 : World} {ρ : Ren} {H : AHeap} {w : World} (S : Sim base w0 All ρ H w) {b o : Nat} {L : Loc} (hL : ρ b = some L) :
    ∀ {n : Nat} {l : List ByteArray}, strsA H b o n = some l → l.length = n ∧ ∀ (j : Nat) x, l[j]? = some x → w.cell? ⟨L.blk, L.off + o + j, none⟩ = some (.string x)
  | 0, l, h => by
    simp only [strsA, Option.some.injEq] at h
    subst h
    exact ⟨rfl, fun j x hx => by simp at hx⟩
  | n + 1, l, h => by
    simp only [strsA] at h
    split at h
    · rename_i l1 s h1 h2
      simp only [Option.some.injEq] at h
      subst h
      obtain ⟨e1, e2⟩ := strsA_rel S hL h1
      refine ⟨by simp [e1], fun j x hx => ?_⟩
      rcases Nat.lt_or_ge j l1.length with hj | hj
      · rw [List.getElem?_append_left hj] at hx; exact e2 j x hx
      · rw [List.getElem?_append_right hj] at hx
        have hj2 : j - l1.length = 0 := by
          rcases Nat.eq_zero_or_pos (j - l1.length) with h | h
          · exact h
          · rw [List.getElem?_eq_none (by simp; omega)] at hx; cases hx
        rw [hj2] at hx
        simp only [List.getElem?_cons_zero, Option.some.injEq] at hx
        subst hx
        obtain ⟨s', hs1, hs2⟩ := cell_rel S trivial hL h2
        cases hs2
        have : j = n := by omega
        subst this
        rw [show L.off + o + j = L.off + (o + j) by omega]
        exact hs1
    · cases h

/-- What the formulas say, the model comes to. -/
theorem extF_sound {base : Nat} {w0 : World} (hT : Lib.TabIs Tryd.prog w0 "internal/strconv.uint64pow10" .u64 Lib.pow10Tab) (hb : w0.heap.size ≤ base) : CallerSound base w0 Go.Proofs.Tryd.prog (extF Go.Proofs.Tryd.prog) := by
  intro fl f args cargs ρ H H' w v S hbf hfl hfr hargs h
  simp only [extF] at h
  split at h
  · rename_i n hal
    split at h
    case isFalse => cases h
    rename_i hfg
    obtain ⟨rfl, h0, h1⟩ := hfg
    cases h
    rw [hal] at hargs
    obtain ⟨y, ys, e1, hv1, ht⟩ := hargs.inv
    obtain rfl := ht.inv_nil
    cases hv1
    have hcargs : cargs = #[.int .i64 n] := by cases cargs; simp at e1; rw [e1]
    subst hcargs
    have hTw : Lib.TabIs Tryd.prog w "internal/strconv.uint64pow10" .u64 Lib.pow10Tab := by
      unfold Lib.TabIs World.var? at hT ⊢
      cases hg : Program.globalNamed Tryd.prog "internal/strconv.uint64pow10" with
      | none => rw [hg] at hT; cases hT
      | some g =>
        rw [hg] at hT
        simp only [Option.bind_some] at hT ⊢
        have hlt : g < w0.heap.size := by
          rcases Nat.lt_or_ge g w0.heap.size with h | h
          · exact h
          · rw [Array.getElem?_eq_none h] at hT; cases hT
        rw [S.old g (by omega)]
        exact hT
    refine (Tryd.strconv_Itoa n h0 h1 w hTw).mono ?_
    rintro e w' ⟨rfl, k, os, rfl⟩
    exact ⟨_, _, rfl, .string _, Step.behind S (grow_below w k os)⟩
  · rename_i a len c sep hal
    split at h
    case isFalse => cases h
    rename_i hf
    subst hf
    rw [hal] at hargs
    obtain ⟨y, ys, e1, hv1, ht⟩ := hargs.inv
    obtain ⟨z, zs, rfl, hv2, ht2⟩ := ht.inv
    obtain rfl := ht2.inv_nil
    cases hv2
    have hcargs : cargs = #[y, .string sep] := by cases cargs; simp at e1; rw [e1]
    subst hcargs
    split at h
    · cases h
      have hy : ∃ a' c', y = .slice a' 0 c' := by cases hv1 <;> exact ⟨_, _, rfl⟩
      obtain ⟨a', c', rfl⟩ := hy
      refine (Tryd.strings_Join_none a' c' sep w).mono ?_
      rintro e w' ⟨rfl, rfl⟩
      exact ⟨_, _, rfl, .string _, Step.behind S (Below.refl _ _)⟩
    · rename_i len' b o hne
      split at h
      case h_2 => cases h
      rename_i l hl
      split at h
      case isFalse => cases h
      rename_i hbd
      cases h
      cases hv1
      case empty => exact absurd rfl hne
      rename_i o' c' L hL hfit
      obtain ⟨hlc, hfit⟩ := hfit
      have hlen : 0 < len := Nat.pos_of_ne_zero (fun e => hne e)
      have ho' : o' = L.off + o := by rcases hfit with h | h | h <;> omega
      have hcc : len ≤ c' := by rcases hfit with h | h | h <;> omega
      subst ho'
      obtain ⟨hl1, hl2⟩ := strsA_rel S hL hl
      subst hl1
      refine (Tryd.strings_Join L.blk (L.off + o) c' l sep w hl2 (S.dom _ _ hL).1 hbd.1 hcc (by have := hbd.2; unfold joinS at this; simpa [ByteArray.size] using this)).mono ?_
      rintro e w' ⟨rfl, hbel⟩
      exact ⟨_, _, rfl, .string _, Step.behind S hbel⟩
    · cases h
  · cases h

end Go.Mach
