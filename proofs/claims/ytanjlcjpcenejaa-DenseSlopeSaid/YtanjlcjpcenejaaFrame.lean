/- The frame of a call: which blocks of its own it has made, and that nothing below has turned; what a call leaves that gives sums. -/
import Derived.Test.YtanjlcjpcenejaaWord
namespace Go.Proofs.Ytanjlcjpcenejaa
open Go.RowKit

theorem drewN_alloc (w : World) (k : Nat) (o : Obj) : (w.drewN k).alloc o = (w.alloc o).drewN k := rfl
theorem drewN_setCell (w : World) (k : Nat) (a : Addr) (u : Value) : (w.drewN k).setCell a u = (w.setCell a u).drewN k := rfl

/-- From w to W nothing that was there has turned; the blocks of l are known whole. -/
structure Fr (w W : World) (l : List (Nat × Obj)) : Prop where
  bel : Below w.heap.size w W
  at_ : ∀ g o, (g, o) ∈ l → W.heap[g]? = some o
section
variable {w W W' : World} {l : List (Nat × Obj)}
theorem Fr.nil (w : World) : Fr w w [] := ⟨Below.refl _ _, fun _ _ h => by cases h⟩
theorem Fr.next (h : Fr w W l) (hb : Below W.heap.size W W') : Fr w W' l :=
  ⟨h.bel.trans (hb.mono h.bel.size), fun g o hm => (hb.block g (blk_lt (h.at_ g o hm))).trans (h.at_ g o hm)⟩
theorem Fr.drewN (h : Fr w W l) (n : Nat) : Fr w (W.drewN n) l := ⟨below_drewN h.bel n, h.at_⟩
theorem Fr.drew (h : Fr w W l) : Fr w W.drew l := h.drewN 1
theorem Fr.alloc (h : Fr w W l) (o : Obj) : Fr w (W.alloc o) ((W.heap.size, o) :: l) :=
  ⟨h.bel.alloc h.bel.size o, fun g p hm => by
    rcases List.mem_cons.1 hm with e | e
    · injection e with e1 e2; subst e1; subst e2; exact heap_alloc_new W _
    · exact (Below.heap_alloc W o g (blk_lt (h.at_ g p e))).trans (h.at_ g p e)⟩
theorem Fr.more (h : Fr w W l) {g : Nat} {o : Obj} (hg : W.heap[g]? = some o) : Fr w W ((g, o) :: l) :=
  ⟨h.bel, fun q p hm => by
    rcases List.mem_cons.1 hm with e | e
    · injection e with e1 e2; subst e1; subst e2; exact hg
    · exact h.at_ q p e⟩
theorem Fr.less {l' : List (Nat × Obj)} (h : Fr w W l) (hl : ∀ p, p ∈ l' → p ∈ l) : Fr w W l' := ⟨h.bel, fun g o hm => h.at_ g o (hl _ hm)⟩
theorem Fr.cell (h : Fr w W l) {g : Nat} {cs : Array Value} {t : TypeId} (hm : (g, .cells cs t (0, 0)) ∈ l) (i : Nat) : W.cell? ⟨g, i, none⟩ = cs[i]? := blk_cell (h.at_ g _ hm) i
theorem Fr.frozen (h : Fr w W l) {g : Nat} {cs : Array Value} {t : TypeId} (hm : (g, .cells cs t (0, 0)) ∈ l) (i : Nat) : W.frozen? ⟨g, i, none⟩ = false := blk_frozen (h.at_ g _ hm) i
theorem Fr.two (w : World) (o1 o2 : Obj) : Fr w ((w.alloc o1).alloc o2) [(w.heap.size + 1, o2), (w.heap.size, o1)] := by simpa using ((Fr.nil w).alloc o1).alloc o2
theorem Fr.three (w : World) (o1 o2 o3 : Obj) : Fr w (((w.alloc o1).alloc o2).alloc o3) [(w.heap.size + 1 + 1, o3), (w.heap.size + 1, o2), (w.heap.size, o1)] := by simpa using (((Fr.nil w).alloc o1).alloc o2).alloc o3
theorem Fr.four (w : World) (o1 o2 o3 o4 : Obj) : Fr w ((((w.alloc o1).alloc o2).alloc o3).alloc o4) [(w.heap.size + 1 + 1 + 1, o4), (w.heap.size + 1 + 1, o3), (w.heap.size + 1, o2), (w.heap.size, o1)] := by simpa using ((((Fr.nil w).alloc o1).alloc o2).alloc o3).alloc o4
theorem Fr.join {l' : List (Nat × Obj)} (h : Fr w W l) (k : Fr W W' l') : Fr w W' (l' ++ l) :=
  ⟨h.bel.trans (k.bel.mono h.bel.size), fun g o hm => by
    rcases List.mem_append.1 hm with e | e
    · exact k.at_ g o e
    · exact (h.next k.bel).at_ g o e⟩
theorem Fr.set {g : Nat} {cs : Array Value} {t : TypeId} (h : Fr w W ((g, .cells cs t (0, 0)) :: l)) (hne : ∀ p, p ∈ l → p.1 ≠ g) (hg : w.heap.size ≤ g) (i : Nat) (u : Value) :
    Fr w (W.setCell ⟨g, i, none⟩ u) ((g, .cells (cs.setIfInBounds i u) t (0, 0)) :: l) :=
  ⟨h.bel.setCell (by exact hg) _, fun q o hm => by
    rcases List.mem_cons.1 hm with e | e
    · injection e with e1 e2; subst e1; subst e2; exact blk_set (h.at_ _ _ (List.mem_cons_self ..)) i u
    · rw [Below.heap_setCell _ _ _ _ (by exact hne _ e)]; exact h.at_ _ _ (List.mem_cons_of_mem _ e)⟩
theorem Fr.far (h : Fr w W l) {p : Addr} (hne : ∀ q, q ∈ l → q.1 ≠ p.block) (hp : w.heap.size ≤ p.block) (u : Value) : Fr w (W.setCell p u) l :=
  ⟨h.bel.setCell hp _, fun q o hm => by rw [Below.heap_setCell _ _ _ _ (hne _ hm)]; exact h.at_ _ _ hm⟩
theorem Fr.stored3 {l' : List (Nat × Obj)} (h : Fr w W l) (hl : ∀ p, p ∈ l' → p ∈ l) {q : Nat} (hne : ∀ p, p ∈ l' → p.1 ≠ q) (hq : w.heap.size ≤ q) (x y z : Value) :
    Fr w (((W.setCell ⟨q, 0, none⟩ x).setCell ⟨q, 1, none⟩ y).setCell ⟨q, 2, none⟩ z) l' :=
  (((h.less hl).far (p := ⟨q, 0, none⟩) hne hq x).far (p := ⟨q, 1, none⟩) hne hq y).far (p := ⟨q, 2, none⟩) hne hq z
theorem Fr.alloc2 (h : Fr w W l) (o1 o2 : Obj) : Fr w ((W.alloc o1).alloc o2) ((W.heap.size + 1, o2) :: (W.heap.size, o1) :: l) := by simpa using (h.alloc o1).alloc o2
theorem Fr.alloc3 (h : Fr w W l) (o1 o2 o3 : Obj) : Fr w (((W.alloc o1).alloc o2).alloc o3) ((W.heap.size + 1 + 1, o3) :: (W.heap.size + 1, o2) :: (W.heap.size, o1) :: l) := by simpa using ((h.alloc o1).alloc o2).alloc o3
theorem Fr.lt (h : Fr w W l) {g : Nat} {o : Obj} (hm : (g, o) ∈ l) : g < W.heap.size := blk_lt (h.at_ g o hm)
theorem Fr.size (h : Fr w W l) : w.heap.size ≤ W.heap.size := h.bel.size
end

theorem TVs.pair {W : World} {b : Nat} {v0 v1 : TV} {t0 t1 : Pl.Ten} {t : TypeId}
    (hb : W.heap[b]? = some (.cells #[.slice v0.A v0.n v0.c, .int .i64 v0.e, .slice v0.D v0.m v0.d, .slice v1.A v1.n v1.c, .int .i64 v1.e, .slice v1.D v1.m v1.d] t (0, 0)))
    (h0 : v0.At W W.heap.size t0) (h1 : v1.At W W.heap.size t1) : TVs W W.heap.size b 2 (fun i => if i = 0 then v0 else v1) [t0, t1] := by
  refine ⟨blk_lt hb, rfl, ?_, ?_, ?_, ?_⟩
  · intro i hi
    rw [blk_cell hb]
    match i, hi with
    | 0, _ => rfl
    | 1, _ => rfl
  · intro i hi
    rw [blk_cell hb]
    match i, hi with
    | 0, _ => rfl
    | 1, _ => rfl
  · intro i hi
    rw [blk_cell hb]
    match i, hi with
    | 0, _ => rfl
    | 1, _ => rfl
  · intro i t' ht
    match i, ht with
    | 0, ht => simp at ht; subst ht; exact h0
    | 1, ht => simp at ht; subst ht; exact h1
theorem TVs.one {W : World} {b : Nat} {v0 : TV} {t0 : Pl.Ten} {t : TypeId}
    (hb : W.heap[b]? = some (.cells #[.slice v0.A v0.n v0.c, .int .i64 v0.e, .slice v0.D v0.m v0.d] t (0, 0)))
    (h0 : v0.At W W.heap.size t0) : TVs W W.heap.size b 1 (fun _ => v0) [t0] := by
  refine ⟨blk_lt hb, rfl, ?_, ?_, ?_, ?_⟩
  · intro i hi
    rw [blk_cell hb]
    match i, hi with
    | 0, _ => rfl
  · intro i hi
    rw [blk_cell hb]
    match i, hi with
    | 0, _ => rfl
  · intro i hi
    rw [blk_cell hb]
    match i, hi with
    | 0, _ => rfl
  · intro i t' ht
    match i, ht with
    | 0, ht => simp at ht; subst ht; exact h0

/-- What a call leaves that gives sums, or an error and nothing. -/
def SumsPost (w : World) (err : Int) (s : Pl.Sums) (e : Ending) (w' : World) : Prop :=
  Below w.heap.size w w' ∧
  ((err ≠ 0 ∧ e = .returned (.tuple #[.agg #[.slice none 0 0, .int .i64 0, .slice none 0 0], .int .i64 err])) ∨
   (err = 0 ∧ ∃ (a g c d : Nat), w.heap.size ≤ a ∧ w.heap.size ≤ g ∧ e = .returned (.tuple #[.agg #[.slice (some ⟨a, 0, none⟩) s.dims.length c, .int .i64 s.exp, .slice (some ⟨g, 0, none⟩) s.data.length d], .int .i64 0]) ∧
      SumsAt w' w'.heap.size (some ⟨a, 0, none⟩) s.dims.length (some ⟨g, 0, none⟩) s.data.length s))
theorem SumsPost.err {w W : World} {err k : Int} {s : Pl.Sums} (hb : Below w.heap.size w W) (he : err = k) (hk : k ≠ 0) :
    SumsPost w err s (.returned (.tuple #[.agg #[.slice none 0 0, .int .i64 0, .slice none 0 0], .int .i64 k])) W := ⟨hb, .inl ⟨by rw [he]; exact hk, by rw [he]⟩⟩
theorem Reads.setOther {w : World} {B g n : Nat} {xs : List Value} (h : Reads w B (some ⟨g, 0, none⟩) n xs) {p : Addr} (hne : g ≠ p.block) (u : Value) : Reads (w.setCell p u) B (some ⟨g, 0, none⟩) n xs :=
  ⟨h.1, fun hn => by
    obtain ⟨ad, e, hb, hc⟩ := h.2 hn
    injection e with e
    subst e
    refine ⟨_, rfl, hb, fun j v hv => ?_⟩
    rw [World.cell?_setCell_other _ _ _ _ (fun e => hne (by rw [e, block_of_add]))]
    exact hc j v hv⟩
theorem SumsAt.setOther {w : World} {B a g n m : Nat} {s : Pl.Sums} (h : SumsAt w B (some ⟨a, 0, none⟩) n (some ⟨g, 0, none⟩) m s) {p : Addr} (ha : a ≠ p.block) (hg : g ≠ p.block) (u : Value) :
    SumsAt (w.setCell p u) B (some ⟨a, 0, none⟩) n (some ⟨g, 0, none⟩) m s := ⟨h.dims.setOther ha u, h.data.setOther hg u, h.hn, h.hm⟩
/-- The answer of a callee, stored into a block q of one's own and handed back. -/
theorem SumsPost.stored {w W : World} {err : Int} {s : Pl.Sums} {e : Ending} {w' : World} (h : SumsPost W err s e w') (hb : Below w.heap.size w W) {q : Nat} (hq : w.heap.size ≤ q) (hq' : q < W.heap.size) (x y z : Value) :
    SumsPost w err s e (((w'.setCell ⟨q, 0, none⟩ x).setCell ⟨q, 1, none⟩ y).setCell ⟨q, 2, none⟩ z) := by
  refine ⟨(((hb.trans (h.1.mono hb.size)).setCell (by exact hq) _).setCell (by exact hq) _).setCell (by exact hq) _, ?_⟩
  rcases h.2 with h2 | ⟨h0, a, g, c, d, ha, hg, he, hs⟩
  · exact .inl h2
  · have hz := hb.size
    refine .inr ⟨h0, a, g, c, d, by omega, by omega, he, ?_⟩
    have := ((hs.setOther (p := ⟨q, 0, none⟩) (by simp; omega) (by simp; omega) x).setOther (p := ⟨q, 1, none⟩) (by simp; omega) (by simp; omega) y).setOther (p := ⟨q, 2, none⟩) (by simp; omega) (by simp; omega) z
    simpa [World.setCell] using this

/-- A row that came in, as 'Reads' has it. -/
theorem reads_of_row {k : IntKind} {w : World} {a : Option Addr} {len cap : Nat} {zs : List Int}
    (h : (a = none ∧ len = 0 ∧ cap = 0 ∧ zs = []) ∨
      ∃ x, a = some x ∧ len ≤ cap ∧ cap ≤ maxLen ∧ zs.length = cap ∧ (∀ i, i < zs.length → w.cell? (x.add i) = some (.int k (zs.getD i 0))) ∧ ∀ n ∈ zs, (Lit.int k n).wf = true) :
    Reads w w.heap.size a len ((zs.take len).map (Value.int k)) ∧ len ≤ maxLen ∧ ∀ n ∈ zs.take len, (Lit.int k n).wf = true := by
  rcases h with ⟨rfl, rfl, rfl, rfl⟩ | ⟨x, rfl, hl, hm, hz, hc, hw⟩
  · exact ⟨⟨by simp, fun h => absurd h (by omega)⟩, by decide, by simp⟩
  · refine ⟨⟨by simp; omega, fun h0 => ⟨x, rfl, ?_, fun j u hu => ?_⟩⟩, by omega, fun n hn => hw n (List.mem_of_mem_take hn)⟩
    · have := World.block_lt_of_cell? w _ (hc 0 (by omega))
      rwa [block_of_add] at this
    · rw [List.getElem?_map, List.getElem?_take] at hu
      split at hu
      · rename_i hj
        rw [hc j (by omega), ← hu, List.getElem?_eq_getElem (by omega)]
        simp [List.getElem?_eq_getElem (show j < zs.length by omega)]
      · cases hu

/-- The two blocks of a tensor of one's own. -/
def dimsObj (t : Pl.Ten) : Obj := .cells (t.dims.map (Value.int .i64)).toArray 3
def dataObj (t : Pl.Ten) : Obj := .cells (t.data.map (Value.int .i8)).toArray 37
/-- What a call leaves that gives a tensor of its own. -/
def TenPost (w : World) (t : Pl.Ten) (e : Ending) (w' : World) : Prop :=
  ∃ a g, e = .returned (.agg #[.slice (some ⟨a, 0, none⟩) t.dims.length t.dims.length, .int .i64 t.exp, .slice (some ⟨g, 0, none⟩) t.data.length t.data.length]) ∧
    w.heap.size ≤ a ∧ w.heap.size ≤ g ∧ a ≠ g ∧ Fr w w' [(a, dimsObj t), (g, dataObj t)]
/-- The value of a tensor in the blocks a, g. -/
def ownTV (a g : Nat) (t : Pl.Ten) : TV := ⟨some ⟨a, 0, none⟩, t.dims.length, t.dims.length, t.exp, some ⟨g, 0, none⟩, t.data.length, t.data.length⟩
theorem Fr.ten {w W : World} {l : List (Nat × Obj)} (h : Fr w W l) {a g : Nat} {t : Pl.Ten} (ha : (a, dimsObj t) ∈ l) (hg : (g, dataObj t) ∈ l) (h1 : t.dims.length ≤ 100) (h2 : t.data.length ≤ 100000) : (ownTV a g t).At W W.heap.size t := by
  refine ⟨rfl, ?_, ?_, ?_, ?_⟩
  · have := reads_blk (t.dims.map (Value.int .i64)) (h.at_ _ _ ha) (List.take_of_length_le (Nat.le_refl _))
    rw [List.length_map] at this
    exact this
  · have := reads_blk (t.data.map (Value.int .i8)) (h.at_ _ _ hg) (List.take_of_length_le (Nat.le_refl _))
    rw [List.length_map] at this
    exact this
  · show t.dims.length ≤ maxLen; simp only [maxLen]; omega
  · show t.data.length ≤ maxLen; simp only [maxLen]; omega

end Go.Proofs.Ytanjlcjpcenejaa
