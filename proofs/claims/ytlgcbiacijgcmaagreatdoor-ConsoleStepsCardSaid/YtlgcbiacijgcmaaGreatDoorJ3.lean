/- The heap of the machine for concrete runs, held against the first machine's: blocks read, written, made. No condition. -/
import Derived.Test.YtlgcbiacijgcmaaGreatDoorJ2
import Derived.Test.YtlgcbiacijgcmaaGreatDoorSim
namespace Go.Mach.J
open Go Go.Mach

def big : Nat := 1000000
structure HT where
  size : Nat
  t : Tr (Option KB)

def takeK (t : Tr Value) (n : Nat) : Nat → (List Value → Prop) → Prop :=
  Nat.rec (motive := fun _ => Nat → (List Value → Prop) → Prop) (fun _ k => k [])
    (fun _ ih off k => forceN off fun off => getV (pth off) t fun v => ih (Nat.succ off) fun l => k (v :: l)) n
def putsK (vs : List Value) : Nat → Tr Value → (Tr Value → Prop) → Prop :=
  List.rec (motive := fun _ => Nat → Tr Value → (Tr Value → Prop) → Prop) (fun _ t k => k t)
    (fun v _ ih off t k => forceN off fun off => setV v (pth off) t fun t => ih (Nat.succ off) t k) vs
def onesK (vs : List Value) (p : Prop) : Prop := List.rec (motive := fun _ => Prop) p (fun v _ ih => onOne v ih) vs
def forceL (l : List Value) (k : List Value → Prop) : Prop :=
  List.rec (motive := fun _ => (List Value → Prop) → Prop) (fun k => k []) (fun v _ ih k => forceV v fun v => ih fun l => k (v :: l)) l k

def blkK (H : HT) (b : Nat) (k : KB → Prop) : Prop :=
  HT.rec (motive := fun _ => Prop) (fun n t => chk (Nat.blt b n) (getB (pth b) t fun o => onOpt o False k)) H
def setBK (H : HT) (b : Nat) (B : Option KB) (k : HT → Prop) : Prop :=
  HT.rec (motive := fun _ => Prop) (fun n t => setB B (pth b) t fun t => k ⟨n, t⟩) H
def pushK (H : HT) (B : KB) (k : Nat → HT → Prop) : Prop :=
  HT.rec (motive := fun _ => Prop) (fun n t => chk (Nat.blt n big) (setB (some B) (pth n) t fun t => forceN (Nat.succ n) fun m => k n ⟨m, t⟩)) H
def cellK (B : KB) (off : Nat) (k : Value → Prop) : Prop :=
  KB.rec (motive := fun _ => Prop) (fun t len _ _ => chk (Nat.blt off len) (getV (pth off) t k)) B
def cellsK (B : KB) (off n : Nat) (k : List Value → Prop) : Prop :=
  KB.rec (motive := fun _ => Prop) (fun t len _ _ => chk (Nat.ble (off + n) len) (takeK t n off k)) B
def bputs (B : KB) (off : Nat) (vs : List Value) (k : KB → Prop) : Prop :=
  KB.rec (motive := fun _ => Prop) (fun t len es ex => chk (Nat.ble (off + vs.length) len) (onesK vs (putsK vs off t fun t => k ⟨t, len, es, ex⟩))) B
/-- A new block of these cells. -/
def newK (vs : List Value) (es : Nat) (ex : Bool) (k : KB → Prop) : Prop :=
  chk (Nat.blt vs.length big) (onesK vs (putsK vs 0 (.c undef) fun t => forceN vs.length fun n => k ⟨t, n, es, ex⟩))

def BRel (B : KB) (L : Blk) : Prop :=
  B.es = L.es ∧ B.exact = L.exact ∧ L.alive = true ∧ B.len = L.cells.length ∧ B.len ≤ big ∧
    ∀ i, i < B.len → L.cells[i]? = some (B.t.get (pth i)) ∧ (B.t.get (pth i)).oneCell' = true
def HRel (T : HT) (H : AHeap) : Prop :=
  T.size = H.length ∧ T.size ≤ big ∧ ∀ b B, b < T.size → T.t.get (pth b) = some B → ∃ L, H[b]? = some L ∧ BRel B L

theorem big_pth {i j : Nat} (hi : i < big) (hj : j < big) (h : pth i = pth j) : i = j := by
  unfold big at hi hj
  exact pth_inj (by omega) (by omega) h

def putsT : List Value → Nat → Tr Value → Tr Value
  | [], _, t => t
  | v :: vs, off, t => putsT vs (off + 1) (t.set v (pth off))
theorem puts_iff : ∀ (vs : List Value) (off : Nat) (t : Tr Value) (k : Tr Value → Prop), putsK vs off t k ↔ k (putsT vs off t)
  | [], _, _, _ => Iff.rfl
  | v :: vs, off, t, k => (forceN_iff (k := fun off => setV v (pth off) t fun t => putsK vs (Nat.succ off) t k)).trans ((setV_iff v (pth off) t (fun t => putsK vs (Nat.succ off) t k)).trans (puts_iff vs (off + 1) _ k))
theorem putsT_at : ∀ (vs : List Value) (off : Nat) (t : Tr Value) (i : Nat), off + vs.length ≤ big → i < big →
    some ((putsT vs off t).get (pth i)) = if off ≤ i ∧ i < off + vs.length then vs[i - off]? else some (t.get (pth i))
  | [], off, t, i, _, _ => by
    rw [if_neg (by simp only [List.length_nil]; omega)]
    rfl
  | v :: vs, off, t, i, h, hi => by
    simp only [List.length_cons] at h
    simp only [putsT, List.length_cons]
    rw [putsT_at vs (off + 1) _ i (by omega) hi]
    by_cases h1 : off + 1 ≤ i ∧ i < off + 1 + vs.length
    · rw [if_pos h1, if_pos (by omega), show i - off = (i - (off + 1)) + 1 from by omega, List.getElem?_cons_succ]
    · rw [if_neg h1]
      by_cases h2 : i = off
      · subst h2
        rw [if_pos (by omega), Nat.sub_self, Tr.get_set]
        rfl
      · rw [if_neg (by omega), Tr.get_set_ne]
        exact fun e => h2 (big_pth hi (by omega) e)
theorem take_out : ∀ (n off : Nat) (t : Tr Value) (k : List Value → Prop), takeK t n off k → k ((List.range' off n).map fun i => t.get (pth i))
  | 0, _, _, _, h => h
  | n + 1, off, t, k, h => by
    have h1 := (forceN_iff (k := fun off => getV (pth off) t fun v => takeK t n (Nat.succ off) fun l => k (v :: l))).1 h
    have h2 := (getV_iff (pth off) t (fun v => takeK t n (Nat.succ off) fun l => k (v :: l))).1 h1
    have h3 := take_out n (off + 1) t _ h2
    rw [List.range'_succ, List.map_cons]
    exact h3
theorem ones_out : ∀ {vs : List Value} {p : Prop}, onesK vs p → vs.all Value.oneCell' = true ∧ vs.all (fun v => !holeB v) = true ∧ p
  | [], _, h => ⟨rfl, rfl, h⟩
  | v :: vs, p, h => by
    obtain ⟨h1, h2, h3⟩ := onOne_out (v := v) (p := onesK vs p) h
    obtain ⟨h4, h5, h6⟩ := ones_out h3
    refine ⟨?_, ?_, h6⟩
    · simp only [List.all_cons, h1, h4, Bool.and_self]
    · simp only [List.all_cons, h2, h5, Bool.not_false, Bool.and_self]
theorem forceL_out : ∀ {l : List Value} {k : List Value → Prop}, forceL l k → k l
  | [], _, h => h
  | v :: l, k, h => by
    have h1 := (forceV_iff (v := v) (k := fun v => forceL l fun l => k (v :: l))).1 h
    exact forceL_out (k := fun l => k (v :: l)) h1

theorem one_hole {v : Value} (h : v.oneCell' = true) : holeB v = false := by
  cases v with
  | tuple a => cases h
  | _ => rfl

theorem blk_out {T : HT} {H : AHeap} {b : Nat} {k : KB → Prop} (hH : HRel T H) (h : blkK T b k) : ∃ B L, b < T.size ∧ T.t.get (pth b) = some B ∧ H[b]? = some L ∧ BRel B L ∧ k B := by
  obtain ⟨n, t⟩ := T
  obtain ⟨h1, h2⟩ := chk_iff.1 (show chk (Nat.blt b n) _ from h)
  have h1 : b < n := by simpa [Nat.blt_eq] using h1
  have h3 := (getB_iff (pth b) t (fun o => onOpt o False k)).1 h2
  cases hg : t.get (pth b) with
  | none => rw [hg] at h3; exact h3.elim
  | some B =>
    rw [hg] at h3
    obtain ⟨L, hL, hB⟩ := hH.2.2 b B h1 hg
    exact ⟨B, L, h1, rfl, hL, hB, h3⟩

theorem blk?_of {H : AHeap} {b : Nat} {L : Blk} (h : H[b]? = some L) (ha : L.alive = true) : blk? H b = some L := by
  unfold blk?
  rw [h]
  simp only [ha, if_true]

theorem cell_out {H : AHeap} {a : Addr} {B : KB} {L : Blk} {k : Value → Prop} (hL : H[a.block]? = some L) (hB : BRel B L) (h : cellK B a.off k) : ∃ v, cellAt H a = some v ∧ v.oneCell' = true ∧ k v := by
  obtain ⟨t, len, es, ex⟩ := B
  obtain ⟨h1, h2⟩ := chk_iff.1 (show chk (Nat.blt a.off len) _ from h)
  have h1 : a.off < len := by simpa [Nat.blt_eq] using h1
  have h3 := (getV_iff (pth a.off) t k).1 h2
  obtain ⟨_, _, ha, _, _, hc⟩ := hB
  obtain ⟨hc1, hc2⟩ := hc a.off h1
  refine ⟨_, ?_, hc2, h3⟩
  unfold cellAt
  rw [blk?_of hL ha]
  simp only [hc1, one_hole hc2]
  rfl

theorem cells_of {B : KB} {L : Blk} (hB : BRel B L) (off n : Nat) (h : off + n ≤ B.len) : (L.cells.drop off).take n = (List.range' off n).map (fun i => B.t.get (pth i)) := by
  obtain ⟨_, _, _, hl, _, hc⟩ := hB
  apply List.ext_getElem?
  intro i
  rw [List.getElem?_take, List.getElem?_map]
  by_cases hi : i < n
  · rw [if_pos hi, List.getElem?_drop, (hc (off + i) (by omega)).1, List.getElem?_range' hi]
    simp only [Option.map_some, Nat.one_mul]
  · rw [if_neg hi, List.getElem?_eq_none (by simp only [List.length_range']; omega)]
    rfl

theorem cells_out {H : AHeap} {a : Addr} {n : Nat} {B : KB} {L : Blk} {k : List Value → Prop} (hL : H[a.block]? = some L) (hB : BRel B L) (h : cellsK B a.off n k) :
    ∃ l, cellsAt H a n = some l ∧ l = (L.cells.drop a.off).take n ∧ a.off + n ≤ L.cells.length ∧ l.length = n ∧ l.all Value.oneCell' = true ∧ k l := by
  obtain ⟨t, len, es, ex⟩ := B
  obtain ⟨h1, h2⟩ := chk_iff.1 (show chk (Nat.ble (a.off + n) len) _ from h)
  have h1 : a.off + n ≤ len := by simpa [Nat.ble_eq] using h1
  have h3 := take_out n a.off t k h2
  have h4 := cells_of hB a.off n h1
  have hB' := hB
  obtain ⟨_, _, ha, hl, _, hc⟩ := hB
  have hone : ((L.cells.drop a.off).take n).all Value.oneCell' = true := by
    rw [h4, List.all_eq_true]
    intro v hv
    obtain ⟨i, hi, he⟩ := List.mem_map.1 hv
    rw [List.mem_range'] at hi
    obtain ⟨j, hj, hi⟩ := hi
    have := (hc i (show i < len from by omega)).2
    simp only at he
    rw [← he, this]
  have hall : ((L.cells.drop a.off).take n).all (fun v => !holeB v) = true := by
    rw [List.all_eq_true] at hone ⊢
    intro v hv
    rw [one_hole (hone v hv)]
    rfl
  have hl' : a.off + n ≤ L.cells.length := by
    have : len = L.cells.length := hl
    omega
  refine ⟨(L.cells.drop a.off).take n, ?_, rfl, hl', ?_, hone, ?_⟩
  · unfold cellsAt
    rw [blk?_of hL ha]
    simp only
    rw [if_pos ⟨hl', hall⟩]
  · rw [List.length_take, List.length_drop]; omega
  · rw [h4]; exact h3

/-- Cells written into a block. -/
theorem bputs_out {B : KB} {L : Blk} {off : Nat} {vs : List Value} {k : KB → Prop} (hB : BRel B L) (h : bputs B off vs k) :
    ∃ B', off + vs.length ≤ L.cells.length ∧ vs.all Value.oneCell' = true ∧ BRel B' { L with cells := setCells L.cells off vs } ∧ k B' := by
  obtain ⟨t, len, es, ex⟩ := B
  obtain ⟨h1, h2⟩ := chk_iff.1 (show chk (Nat.ble (off + vs.length) len) _ from h)
  have h1 : off + vs.length ≤ len := by simpa [Nat.ble_eq] using h1
  obtain ⟨h3, h4, h5⟩ := ones_out h2
  have h6 := (puts_iff vs off t _).1 h5
  obtain ⟨e1, e2, ha, hl, hb, hc⟩ := hB
  simp only at e1 e2 ha hl hb hc
  refine ⟨_, by omega, h3, ⟨e1, e2, ha, ?_, hb, ?_⟩, h6⟩
  · simp only [setCells_len]; exact hl
  · intro i hi
    simp only at hi
    have hp := putsT_at vs off t i (by omega) (by omega)
    by_cases h7 : off ≤ i ∧ i < off + vs.length
    · rw [if_pos h7] at hp
      have := setCells_at vs L.cells off (i - off) (by omega) (by omega)
      rw [show off + (i - off) = i from by omega] at this
      simp only
      rw [this, ← hp]
      refine ⟨rfl, ?_⟩
      have hm := List.mem_of_getElem? hp.symm
      exact List.all_eq_true.1 h3 _ hm
    · rw [if_neg h7] at hp
      simp only [Option.some.injEq] at hp
      simp only
      rw [setCells_other vs L.cells off i (by omega), hp]
      exact hc i hi

theorem new_out {vs : List Value} {es : Nat} {ex : Bool} {k : KB → Prop} (h : newK vs es ex k) : ∃ B, BRel B ⟨vs, es, ex, true⟩ ∧ vs.all Value.oneCell' = true ∧ k B := by
  obtain ⟨h1, h2⟩ := chk_iff.1 h
  have h1 : vs.length < big := by simpa [Nat.blt_eq] using h1
  obtain ⟨h3, h4, h5⟩ := ones_out h2
  have h6 := (puts_iff vs 0 (.c undef) _).1 h5
  have h7 := (forceN_iff (n := vs.length) (k := fun n => k ⟨putsT vs 0 (.c undef), n, es, ex⟩)).1 h6
  refine ⟨_, ⟨rfl, rfl, rfl, rfl, Nat.le_of_lt h1, ?_⟩, h3, h7⟩
  intro i hi
  simp only at hi
  have hp := putsT_at vs 0 (.c undef) i (by omega) (by omega)
  rw [if_pos (by omega), Nat.sub_zero] at hp
  refine ⟨hp.symm, ?_⟩
  have hm := List.mem_of_getElem? hp.symm
  exact List.all_eq_true.1 h3 _ hm

theorem upd_out {T : HT} {H : AHeap} {b : Nat} {B : KB} {L : Blk} {k : HT → Prop} (hH : HRel T H) (hb : b < T.size) (hB : BRel B L) (h : setBK T b (some B) k) : ∃ T', HRel T' (H.set b L) ∧ k T' := by
  obtain ⟨n, t⟩ := T
  have h1 := (setB_iff (some B) (pth b) t (fun t => k ⟨n, t⟩)).1 h
  obtain ⟨e1, e2, e3⟩ := hH
  simp only at e1 e2 e3 hb
  refine ⟨_, ⟨?_, e2, ?_⟩, h1⟩
  · simp only [List.length_set]; exact e1
  · intro c C hc hC
    simp only at hc hC
    by_cases h2 : c = b
    · subst h2
      rw [Tr.get_set] at hC
      cases hC
      exact ⟨L, by rw [List.getElem?_set_self (by omega)], hB⟩
    · rw [Tr.get_set_ne] at hC
      · obtain ⟨M, hM, hBM⟩ := e3 c C hc hC
        exact ⟨M, by rw [List.getElem?_set_ne (Ne.symm h2)]; exact hM, hBM⟩
      · exact fun e => h2 (big_pth (by omega) (by omega) e)
theorem drop_out {T : HT} {H : AHeap} {b : Nat} {L : Blk} {k : HT → Prop} (hH : HRel T H) (hb : b < T.size) (h : setBK T b none k) : ∃ T', HRel T' (H.set b L) ∧ k T' := by
  obtain ⟨n, t⟩ := T
  have h1 := (setB_iff none (pth b) t (fun t => k ⟨n, t⟩)).1 h
  obtain ⟨e1, e2, e3⟩ := hH
  simp only at e1 e2 e3 hb
  refine ⟨_, ⟨?_, e2, ?_⟩, h1⟩
  · simp only [List.length_set]; exact e1
  · intro c C hc hC
    simp only at hc hC
    by_cases h2 : c = b
    · subst h2
      rw [Tr.get_set] at hC
      cases hC
    · rw [Tr.get_set_ne] at hC
      · obtain ⟨M, hM, hBM⟩ := e3 c C hc hC
        exact ⟨M, by rw [List.getElem?_set_ne (Ne.symm h2)]; exact hM, hBM⟩
      · exact fun e => h2 (big_pth (by omega) (by omega) e)
theorem push_out {T : HT} {H : AHeap} {B : KB} {L : Blk} {k : Nat → HT → Prop} (hH : HRel T H) (hB : BRel B L) (h : pushK T B k) : ∃ T', HRel T' (H ++ [L]) ∧ k H.length T' := by
  obtain ⟨n, t⟩ := T
  obtain ⟨h0, h1⟩ := chk_iff.1 (show chk (Nat.blt n big) _ from h)
  have h0 : n < big := by simpa [Nat.blt_eq] using h0
  have h2 := (setB_iff (some B) (pth n) t (fun t => forceN (Nat.succ n) fun m => k n ⟨m, t⟩)).1 h1
  have h3 := (forceN_iff (k := fun m => k n ⟨m, t.set (some B) (pth n)⟩)).1 h2
  obtain ⟨e1, e2, e3⟩ := hH
  simp only at e1 e2 e3
  subst e1
  refine ⟨_, ⟨?_, ?_, ?_⟩, h3⟩
  · simp only [List.length_append, List.length_singleton]
  · exact h0
  · intro c C hc hC
    simp only at hc hC
    by_cases h2 : c = H.length
    · subst h2
      rw [Tr.get_set] at hC
      cases hC
      exact ⟨L, by simp, hB⟩
    · rw [Tr.get_set_ne] at hC
      · obtain ⟨M, hM, hBM⟩ := e3 c C (by omega) hC
        exact ⟨M, by rw [List.getElem?_append_left (by omega)]; exact hM, hBM⟩
      · exact fun e => h2 (big_pth (by omega) (by omega) e)
end Go.Mach.J
