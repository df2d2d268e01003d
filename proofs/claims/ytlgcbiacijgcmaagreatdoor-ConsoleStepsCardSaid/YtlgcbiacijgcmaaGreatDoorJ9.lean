/- The machine for concrete runs: the library's functions, and what is let go of between calls. No condition. -/
import Derived.Test.YtlgcbiacijgcmaaGreatDoorJ8
namespace Go.Mach.J
open Go Go.Mach

def chunkQ (H : HT) (b o len m : Nat) (k : Value → HT → Prop) : Prop :=
  forceL (partsA b o len m) fun l => makeK l 1 false H fun b' H => forceN ((len + m - 1) / m) fun c => k (.slice (some ⟨b', 0, none⟩) c c) H
theorem chunkQ_out {K : HT} {H : AHeap} {b o len m : Nat} {k : Value → HT → Prop} (hH : HRel K H) (h : chunkQ K b o len m k) :
    ∃ K', HRel K' (H ++ [⟨partsA b o len m, 1, false, true⟩]) ∧ k (.slice (some ⟨H.length, 0, none⟩) ((len + m - 1) / m) ((len + m - 1) / m)) K' := by
  unfold chunkQ at h
  obtain ⟨K', h12, _, h13⟩ := make_out hH (forceL_out h)
  exact ⟨K', h12, (forceN_iff (n := (len + m - 1) / m)).1 h13⟩
def chunkP (H : HT) (s n : Value) (k : Value → HT → Prop) : Prop :=
  match s, n with
  | .slice (some ⟨b, o, none⟩) len _, .int .i64 (.ofNat m) => chk (Nat.ble 1 len && Nat.ble len 16777216 && Nat.ble 1 m && Nat.ble m 16777216)
      (chunkQ H b o len m k)
  | _, _ => False
/-- A text's parts between blanks. -/
def splJ (l : List UInt8) (k : List (List UInt8) → Prop) : Prop :=
  List.rec (motive := fun _ => (List (List UInt8) → Prop) → Prop) (fun k => k [[]]) (fun x _ ih k => ih fun r => ifB (Nat.beq x.toNat 32) (k ([] :: r)) (List.rec (motive := fun _ => Prop) (k [[x]]) (fun h s _ => k ((x :: h) :: s)) r)) l k
theorem splJ_out : ∀ (l : List UInt8) {k : List (List UInt8) → Prop}, splJ l k → k (splP l)
  | [], _, h => h
  | x :: l, k, h => by
    have h1 := splJ_out l (k := fun r => ifB (Nat.beq x.toNat 32) (k ([] :: r)) (List.rec (motive := fun _ => Prop) (k [[x]]) (fun h s _ => k ((x :: h) :: s)) r)) h
    unfold splP
    rcases ifB_iff.1 h1 with ⟨h2, h3⟩ | ⟨h2, h3⟩
    · rw [h2]; exact h3
    · rw [h2]
      cases hr : splP l with
      | nil => rw [hr] at h3; exact h3
      | cons h r => rw [hr] at h3; exact h3
def splQ (H : HT) (l : List (List UInt8)) (k : Value → HT → Prop) : Prop :=
  forceL (l.map strV) fun vs => makeK vs 1 false H fun b' H => forceN l.length fun c => k (.slice (some ⟨b', 0, none⟩) c c) H
theorem splQ_out {K : HT} {H : AHeap} {l : List (List UInt8)} {k : Value → HT → Prop} (hH : HRel K H) (h : splQ K l k) :
    ∃ K', HRel K' (H ++ [⟨l.map strV, 1, false, true⟩]) ∧ k (.slice (some ⟨H.length, 0, none⟩) l.length l.length) K' := by
  unfold splQ at h
  obtain ⟨K', h12, _, h13⟩ := make_out hH (forceL_out h)
  exact ⟨K', h12, (forceN_iff (n := l.length) (k := fun c => k (.slice (some ⟨H.length, 0, none⟩) c c) K')).1 h13⟩
/-- A text's bytes, one by one. -/
def forceY (l : List UInt8) (k : List UInt8 → Prop) : Prop :=
  List.rec (motive := fun _ => (List UInt8 → Prop) → Prop) (fun k => k []) (fun c _ ih k => forceN c.toNat fun n => ih fun r => k (UInt8.ofNat n :: r)) l k
theorem forceY_out : ∀ (l : List UInt8) {k : List UInt8 → Prop}, forceY l k → k l
  | [], _, h => h
  | c :: l, k, h => by
    have h1 := (forceN_iff (k := fun n => forceY l fun r => k (UInt8.ofNat n :: r))).1 h
    rw [show UInt8.ofNat c.toNat = c from UInt8.ofNat_toNat] at h1
    exact forceY_out l (k := fun r => k (c :: r)) h1
def numK (H : HT) (e : Lib.NumEnd Int) (k : Value → HT → Prop) : Prop :=
  Lib.NumEnd.rec (motive := fun _ => Prop) (fun v => forceI v fun v => k (.tuple ⟨[.int .i64 v, .nilIface]⟩) H) (makeK [] 0 false H fun b H => k (.tuple ⟨[.int .i64 0, .iface extE (.pointer (some ⟨b, 0, none⟩))]⟩) H) False e
theorem numK_out {K : HT} {H : AHeap} {e : Lib.NumEnd Int} {k : Value → HT → Prop} (hH : HRel K H) (h : numK K e k) : ∃ v K' H', numA H e = some (v, H') ∧ HRel K' H' ∧ k v K' := by
  cases e with
  | ok v => exact ⟨_, K, H, rfl, hH, (forceI_iff (n := v) (k := fun v => k (.tuple ⟨[.int .i64 v, .nilIface]⟩) K)).1 h⟩
  | range => exact h.elim
  | _ =>
    obtain ⟨K', h1, _, h2⟩ := make_out (k := fun b H => k (.tuple ⟨[.int .i64 0, .iface extE (.pointer (some ⟨b, 0, none⟩))]⟩) H) hH h
    exact ⟨_, K', _, rfl, h1, h2⟩
/-- The strings of a row. -/
def strsK (B : KB) (o : Nat) (n : Nat) : (List ByteArray → Prop) → Prop :=
  Nat.rec (motive := fun _ => (List ByteArray → Prop) → Prop) (fun k => k []) (fun m ih k => ih fun l => cellK B (o + m) fun v => onStr v (fun s => k (l ++ [s])) False) n
theorem strsK_out {H : AHeap} {b : Nat} {B : KB} {L : Blk} (hL : H[b]? = some L) (hB : BRel B L) (o : Nat) : ∀ (n : Nat) {k : List ByteArray → Prop}, strsK B o n k → ∃ l, strsA H b o n = some l ∧ k l
  | 0, _, h => ⟨[], rfl, h⟩
  | n + 1, k, h => by
    obtain ⟨l, h1, h2⟩ := strsK_out hL hB o n (k := fun l => cellK B (o + n) fun v => onStr v (fun s => k (l ++ [s])) False) h
    obtain ⟨v, h3, _, h4⟩ := cell_out (a := ⟨b, o + n, none⟩) hL hB h2
    rcases onStr_out h4 with ⟨s, rfl, h5⟩ | h5
    · refine ⟨l ++ [s], ?_, h5⟩
      unfold strsA
      rw [h1, h3]
    · exact h5.elim
def xk : KC := fun _ f args H k =>
  match args with
  | [.slice none 0 0, .func (.func g) first cp] => match first.toList, cp.toList with
    | [], [.pointer (some p), .pointer (some q)] => chk (Nat.beq f Go.Mach.extA && Nat.beq g Go.Mach.extC)
        (onAddr p fun b o => blkK H b fun B => cellK B o fun s => onAddr q fun b o => blkK H b fun B => cellK B o fun n => chunkP H s n k)
    | _, _ => False
  | [.slice none 0 0, .int .i64 (.ofNat n)] => chk (Nat.beq f extG && Nat.ble 1 n && Nat.ble n 1099511627776) (makeK [] 1 false H fun b H => k (.slice (some ⟨b, 0, none⟩) 0 0) H)
  | [.string s, .string sep] => chk (Nat.beq f extS && (Nat.blt s.size 4294967281 && blankB sep)) (splJ s.data.toList fun l => splQ H l k)
  | [.string s, .string o, .string n] => chk (Nat.beq f extR && (Nat.ble s.size 1048576 && Nat.ble n.size 1048576 && Nat.ble 1 o.size)) (forceY (Lib.replaceAll s.data.toList o.data.toList n.data.toList) fun l => k (.string ⟨⟨l⟩⟩) H)
  | [.string s, .int .i64 (.ofNat a), .int .i64 (.ofNat b)] => chk (Nat.beq f extP && (Nat.ble s.size 281474976710656 && Nat.beq a 10 && Nat.beq b 64)) (numK H (Lib.parseIntB 64 s.data.toList) k)
  | [.int .i64 n] => chk (Nat.beq f extI && small3 n) (forceY (itoa3 n) fun l => k (.string ⟨⟨l⟩⟩) H)
  | [.slice (some ⟨b, o, none⟩) len _, .string sep] => chk (Nat.beq f extJ && (Nat.ble 1 len && Nat.ble len 140737488355328))
      (blkK H b fun B => strsK B o len fun l => forceY (Lib.join (l.map (·.data.toList)) sep.data.toList) fun y => chk (Nat.ble y.length 140737488355328) (k (.string ⟨⟨y⟩⟩) H))
  | _ => False

theorem xk_ok (P : Program) : CallS (extF0 P) xk := by
  intro fl f args K H k hH h
  unfold xk at h
  split at h
  · rename_i g first cp
    split at h
    · rename_i p q h1 h2
      obtain ⟨h3, h4⟩ := chk_iff.1 h
      simp only [Bool.and_eq_true] at h3
      have e1 := Nat.eq_of_beq_eq_true h3.1
      have e2 := Nat.eq_of_beq_eq_true h3.2
      obtain ⟨B, L, _, _, hL, hB, h5⟩ := blk_out hH (onAddr_iff.1 h4)
      obtain ⟨s, hs, _, h6⟩ := cell_out hL hB h5
      obtain ⟨C, M, _, _, hM, hC, h7⟩ := blk_out hH (onAddr_iff.1 h6)
      obtain ⟨n, hn, _, h8⟩ := cell_out hM hC h7
      unfold chunkP at h8
      split at h8
      · rename_i b o len c m
        obtain ⟨h9, h10⟩ := chk_iff.1 h8
        simp only [Bool.and_eq_true, Nat.ble_eq] at h9
        obtain ⟨K', h12, h14⟩ := chunkQ_out hH h10
        refine ⟨_, K', _, ?_, h12, h14⟩
        simp only [extF0, h1, h2, hs, hn, chunkA]
        rw [if_pos ⟨e1, e2⟩, if_pos ⟨h9.1.1.1, h9.1.1.2, h9.1.2, h9.2⟩]
      · exact h8.elim
    · exact h.elim
  · rename_i n
    obtain ⟨h1, h2⟩ := chk_iff.1 h
    simp only [Bool.and_eq_true, Nat.ble_eq] at h1
    obtain ⟨K', h3, _, h4⟩ := make_out hH h2
    refine ⟨_, K', _, ?_, h3, h4⟩
    simp only [extF0]
    rw [if_pos ⟨Nat.eq_of_beq_eq_true h1.1.1, by rw [show Int.ofNat n = (n : Int) from rfl]; omega, by rw [show Int.ofNat n = (n : Int) from rfl]; omega⟩]
  · rename_i s sep
    obtain ⟨h1, h2⟩ := chk_iff.1 h
    simp only [Bool.and_eq_true, Nat.blt_eq] at h1
    obtain ⟨K', h3, h4⟩ := splQ_out hH (splJ_out _ h2)
    refine ⟨_, K', _, ?_, h3, h4⟩
    simp only [extF0]
    rw [if_pos ⟨Nat.eq_of_beq_eq_true h1.1, h1.2.1, h1.2.2⟩]
  · rename_i s o n
    obtain ⟨h1, h2⟩ := chk_iff.1 h
    simp only [Bool.and_eq_true, Nat.ble_eq] at h1
    refine ⟨_, K, H, ?_, hH, forceY_out _ h2⟩
    simp only [extF0]
    rw [if_pos ⟨Nat.eq_of_beq_eq_true h1.1, h1.2.1.1, h1.2.1.2, h1.2.2⟩]
  · rename_i s a b
    obtain ⟨h1, h2⟩ := chk_iff.1 h
    simp only [Bool.and_eq_true, Nat.ble_eq] at h1
    obtain ⟨v, K', H', h3, h4, h5⟩ := numK_out hH h2
    refine ⟨v, K', H', ?_, h4, h5⟩
    simp only [extF0]
    rw [if_pos ⟨Nat.eq_of_beq_eq_true h1.1, h1.2.1.1, by rw [Nat.eq_of_beq_eq_true h1.2.1.2]; rfl, by rw [Nat.eq_of_beq_eq_true h1.2.2]; rfl⟩]
    exact h3
  · rename_i n
    obtain ⟨h1, h2⟩ := chk_iff.1 h
    simp only [Bool.and_eq_true] at h1
    refine ⟨_, K, H, ?_, hH, forceY_out _ h2⟩
    simp only [extF0]
    rw [if_pos ⟨Nat.eq_of_beq_eq_true h1.1, h1.2⟩]
  · rename_i b o len c sep
    obtain ⟨h1, h2⟩ := chk_iff.1 h
    simp only [Bool.and_eq_true, Nat.ble_eq] at h1
    obtain ⟨B, L, _, _, hL, hB, h3⟩ := blk_out hH h2
    obtain ⟨l, h4, h5⟩ := strsK_out hL hB o len h3
    obtain ⟨h6, h7⟩ := chk_iff.1 (forceY_out _ h5)
    refine ⟨_, K, H, ?_, hH, h7⟩
    have h6 := Nat.le_of_ble_eq_true h6
    simp only [extF0]
    rw [if_pos ⟨Nat.eq_of_beq_eq_true h1.1, h1.2.1, h1.2.2⟩]
    simp only [h4]
    rw [if_pos (show (joinS l sep).size ≤ 140737488355328 from h6)]
    rfl
  · exact h.elim

/-- .. and what has been carried out. -/
def xk2 : KC := fun fl f args H k => match args with
  | [] => chk (Nat.beq f extW) (k (.bool true) H)
  | v :: l => xk fl f (v :: l) H k
theorem xk2_ok (P : Program) : CallS (extF P) xk2 := by
  intro fl f args K H k hH h
  cases args with
  | nil =>
    obtain ⟨h1, h2⟩ := chk_iff.1 (show chk (Nat.beq f extW) (k (.bool true) K) from h)
    refine ⟨_, K, H, ?_, hH, h2⟩
    simp only [extF]
    rw [if_pos (Nat.eq_of_beq_eq_true h1)]
  | cons v l => exact xk_ok P fl f (v :: l) K H k hH h

/-- Only these blocks are kept. -/
def gcT (n : Nat) (t : Tr (Option KB)) (ids : List Nat) (k : Tr (Option KB) → Prop) : Tr (Option KB) → Prop :=
  List.rec (motive := fun _ => Tr (Option KB) → Prop) k (fun x _ ih u => chk (Nat.blt x n) (getB (pth x) t fun o => setB o (pth x) u ih)) ids
def gcK (ids : List Nat) (H : HT) (k : HT → Prop) : Prop := HT.rec (motive := fun _ => Prop) (fun n t => gcT n t ids (fun u => k ⟨n, u⟩) (.c none)) H
theorem gcT_out {n : Nat} {t : Tr (Option KB)} (hn : n ≤ big) {k : Tr (Option KB) → Prop} : ∀ (ids : List Nat) {u : Tr (Option KB)}, (∀ b B, b < n → u.get (pth b) = some B → t.get (pth b) = some B) → gcT n t ids k u →
    ∃ u', (∀ b B, b < n → u'.get (pth b) = some B → t.get (pth b) = some B) ∧ k u'
  | [], u, hu, h => ⟨u, hu, h⟩
  | x :: ids, u, hu, h => by
    obtain ⟨h1, h2⟩ := chk_iff.1 (show chk (Nat.blt x n) (getB (pth x) t fun o => setB o (pth x) u (gcT n t ids k)) from h)
    have h1 : x < n := by simpa [Nat.blt_eq] using h1
    have h3 := (setB_iff _ (pth x) u (gcT n t ids k)).1 ((getB_iff (pth x) t (fun o => setB o (pth x) u (gcT n t ids k))).1 h2)
    refine gcT_out hn ids (fun b B hb hB => ?_) h3
    by_cases hx : b = x
    · subst hx
      rw [Tr.get_set] at hB
      exact hB
    · rw [Tr.get_set_ne] at hB
      · exact hu b B hb hB
      · exact fun e => hx (big_pth (by omega) (by omega) e)
theorem gc_out {ids : List Nat} {K : HT} {H : AHeap} {k : HT → Prop} (hH : HRel K H) (h : gcK ids K k) : ∃ K', HRel K' H ∧ k K' := by
  obtain ⟨n, t⟩ := K
  obtain ⟨e1, e2, e3⟩ := hH
  obtain ⟨u, h1, h2⟩ := gcT_out (t := t) e2 ids (fun b B _ hB => by rw [Tr.get_c] at hB; cases hB) (show gcT n t ids (fun u => k ⟨n, u⟩) (.c none) from h)
  exact ⟨⟨n, u⟩, ⟨e1, e2, fun b B hb hB => e3 b B hb (h1 b B hb hB)⟩, h2⟩

/-- A call, and what is kept of the heap behind it. -/
theorem call_gc {call : Caller} {ck : KC} (hS : CallS call ck) {ids : List Nat} {fl : Nat} {f : FuncId} {args : List Value} {K : HT} {v : Value} {K2 : HT}
    (he : ∀ k : Value → HT → Prop, (ck fl f args K fun v H => gcK ids H fun H => k v H) = k v K2) {H : AHeap} (hH : HRel K H) {k : Value → HT → Prop} (h : k v K2) :
    ∃ v' T' H', call fl f ⟨args⟩ H = some (v', H') ∧ HRel T' H' ∧ k v' T' := by
  obtain ⟨v', T, H', h1, h2, h3⟩ := hS fl f args K H (fun v H => gcK ids H fun H => k v H) hH (by rw [he k]; exact h)
  obtain ⟨T', h4, h5⟩ := gc_out h2 h3
  exact ⟨v', T', H', h1, h4, h5⟩
/-- A call that has been carried out from one heap to another. -/
theorem entry {hi hj : (HT → Prop) → Prop} (hi' : ∃ G, ∀ k, hi k = k G) (hj' : ∃ G, ∀ k, hj k = k G) {call : Caller} {ck : KC} (hS : CallS call ck) {ids : List Nat} {fl0 : Nat} {f0 : FuncId} {a0 : List Value} {v : Value}
    (run : ∀ k : Value → HT → Prop, (hi fun H => ck fl0 f0 a0 H fun v H => gcK ids H fun H => k v H) = hj fun H => k v H)
    {fl : Nat} {f : FuncId} {args : List Value} {K : HT} {H : AHeap} {k : Value → HT → Prop} (hH : HRel K H) (h : hi fun G => (fl = fl0 ∧ f = f0 ∧ args = a0 ∧ K = G) ∧ hj fun G => k v G) :
    ∃ v' T' H', call fl f ⟨args⟩ H = some (v', H') ∧ HRel T' H' ∧ k v' T' := by
  obtain ⟨G, hG⟩ := hi'
  obtain ⟨G', hG'⟩ := hj'
  rw [hG] at h
  obtain ⟨⟨rfl, rfl, rfl, rfl⟩, h2⟩ := h
  rw [hG'] at h2
  refine call_gc (ids := ids) (K2 := G') hS (fun k => ?_) hH h2
  have := run k
  rw [hG, hG'] at this
  exact this
theorem empty_rel : HRel ⟨0, .c none⟩ [] := ⟨rfl, Nat.zero_le _, fun b B hb _ => absurd hb (Nat.not_lt_zero _)⟩

/-- A proposition that is not looked into. -/
structure Hold (p : Prop) : Prop where
  out : p
theorem hold_of {p q : Prop} (e : p = q) (h : q) : Hold p := ⟨e.mpr h⟩
/-- A function without arguments, in an empty heap. -/
theorem fn_run {xb : FuncId → Bool} {P : Program} {xf : Caller} {xk ck : KC} {n : Nat} (hX : CallS xf xk) (hS : CallS (callG xb xf P n) ck) (hk : CallerKept (callG xb xf P n)) {f : FuncId}
    (h : Hold (kfn xb P xk ck n 0 f [] ⟨0, .c none⟩ (fun v _ => v = .bool true))) : ∃ H', callG xb xf P (n + 1) 0 f ⟨[]⟩ [] = some (.bool true, H') := by
  obtain ⟨v, K, H', h1, _, h2⟩ := fn_ok hX hS hk 0 f [] ⟨0, .c none⟩ [] (fun v _ => v = .bool true) empty_rel h.out
  rw [h2] at h1
  exact ⟨H', h1⟩

/-- A call that answers true. -/
theorem call_true {xb : FuncId → Bool} {P : Program} {xf : Caller} {xk : KC} (hX : CallS xf xk) (hk : ∀ N, CallerKept (callG xb xf P N)) {n fl : Nat} {f : FuncId} {args : List Value} {K : HT} {H : AHeap} (hH : HRel K H)
    (h : Hold (kcall xb P xk n fl f args K (fun v _ => v = .bool true))) : ∃ (n : Nat) (H' : AHeap), callG xb xf P n fl f ⟨args⟩ H = some (.bool true, H') := by
  obtain ⟨v, T, H', h1, _, h2⟩ := calls_ok hX hk n fl f args K H (fun v _ => v = .bool true) hH h.out
  rw [h2] at h1
  exact ⟨n, H', h1⟩

/-- .. whatever comes of it. -/
theorem call_gcI {call : Caller} {ck : KC} (hS : CallS call ck) {ids : List Nat} {fl : Nat} {f : FuncId} {args : List Value} {K : HT} {H : AHeap} (hH : HRel K H) {k : Value → HT → Prop}
    (h : ck fl f args K fun v H => gcK ids H fun H => k v H) : ∃ v' T' H', call fl f ⟨args⟩ H = some (v', H') ∧ HRel T' H' ∧ k v' T' := by
  obtain ⟨v', T, H', h1, h2, h3⟩ := hS fl f args K H (fun v H => gcK ids H fun H => k v H) hH h
  obtain ⟨T', h4, h5⟩ := gc_out h2 h3
  exact ⟨v', T', H', h1, h4, h5⟩
theorem entryE {E : Prop → Prop} (hE : ∀ Z : Prop, Z → E Z) {hi hj : (HT → Prop) → Prop} (hi' : ∃ G, ∀ k, hi k = k G) (hj' : ∃ G, ∀ k, hj k = k G) {call : Caller} {ck : KC} (hS : CallS call ck) {ids : List Nat} {fl0 : Nat} {f0 : FuncId} {a0 : List Value} {v : Value}
    (run : ∀ k : Value → HT → Prop, (hi fun H => ck fl0 f0 a0 H fun v H => gcK ids H fun H => k v H) = E (hj fun H => k v H))
    {fl : Nat} {f : FuncId} {args : List Value} {K : HT} {H : AHeap} {k : Value → HT → Prop} (hH : HRel K H) (h : hi fun G => (fl = fl0 ∧ f = f0 ∧ args = a0 ∧ K = G) ∧ hj fun G => k v G) :
    ∃ v' T' H', call fl f ⟨args⟩ H = some (v', H') ∧ HRel T' H' ∧ k v' T' := by
  obtain ⟨G, hG⟩ := hi'
  rw [hG] at h
  obtain ⟨⟨rfl, rfl, rfl, rfl⟩, h2⟩ := h
  have h3 := (run k).mpr (hE _ h2)
  rw [hG] at h3
  exact call_gcI hS hH h3
/-- Calls of these functions are carried out by another machine, so many deep. -/
def inL (l : List Nat) (f : Nat) : Bool := l.any (Nat.beq f)
def kcut (xb : FuncId → Bool) (P : Program) (xk ck0 : KC) (M : Nat) (l : List Nat) (n : Nat) : KC :=
  Nat.rec (motive := fun _ => KC) ck0 (fun j ih fl f args H k => ifB (inL l f) (kfn xb P xk ih (M + j) fl f args H k) (kcall xb P xk (M + j + 1) fl f args H k)) n
theorem kcut_ok {xb : FuncId → Bool} {P : Program} {xf : Caller} {xk ck0 : KC} {M : Nat} {l : List Nat} (hX : CallS xf xk) (hk : ∀ N, CallerKept (callG xb xf P N)) (h0 : CallS (callG xb xf P M) ck0) :
    ∀ n, CallS (callG xb xf P (M + n)) (kcut xb P xk ck0 M l n)
  | 0 => h0
  | n + 1 => fun fl f args K H k hH h => by
    rcases ifB_iff.1 h with ⟨_, h⟩ | ⟨_, h⟩
    · exact fn_ok hX (kcut_ok hX hk h0 n) (hk _) fl f args K H k hH h
    · exact calls_ok hX hk (M + n + 1) fl f args K H k hH h
/-- A function that answers true. -/
theorem fn_true {xb : FuncId → Bool} {P : Program} {xf : Caller} {xk ck : KC} {n : Nat} (hX : CallS xf xk) (hS : CallS (callG xb xf P n) ck) (hk : CallerKept (callG xb xf P n)) {fl : Nat} {f : FuncId} {args : List Value} {K : HT} {H : AHeap} (hH : HRel K H)
    (h : Hold (kfn xb P xk ck n fl f args K (fun v _ => v = .bool true))) : ∃ H', callG xb xf P (n + 1) fl f ⟨args⟩ H = some (.bool true, H') := by
  obtain ⟨v, K', H', h1, _, h2⟩ := fn_ok hX hS hk fl f args K H (fun v _ => v = .bool true) hH h.out
  rw [h2] at h1
  exact ⟨H', h1⟩
/-- Blocks that are not there. -/
def deadH (n : Nat) : AHeap := List.replicate n ⟨[], 0, true, false⟩
theorem deadH_rel {n : Nat} (h : Nat.ble n big = true) : HRel ⟨n, .c none⟩ (deadH n) := ⟨by unfold deadH; rw [List.length_replicate], Nat.le_of_ble_eq_true h, fun b B _ hb => by rw [Tr.get_c] at hb; cases hb⟩

/-! ### Short words for what a heap holds -/
abbrev N {α : Type} := @Tr.n α
abbrev C {α : Type} := @Tr.c α
def u (n : Nat) : Value := .int .u8 (.ofNat n)
def i (n : Nat) : Value := .int .i64 (.ofNat n)
def b (n : Nat) : Value := .int .i8 (.ofNat n)
def d (n : Nat) : Value := .int .i32 (.ofNat n)
def w (n : Nat) : Value := .int .u64 (.ofNat n)
def x (n : Nat) : Value := .int .u32 (.ofNat n)
def i' (n : Nat) : Value := .int .i64 (.negSucc n)
def b' (n : Nat) : Value := .int .i8 (.negSucc n)
def d' (n : Nat) : Value := .int .i32 (.negSucc n)
def y : Value := undef
def q : Value := .pointer none
def z : Value := .slice none 0 0
def t : Value := .bool true
def f : Value := .bool false
def p (b o : Nat) : Value := .pointer (some ⟨b, o, none⟩)
def s (b o l c : Nat) : Value := .slice (some ⟨b, o, none⟩) l c
def B (t : Tr Value) (len es : Nat) (ex : Bool) : Option KB := some ⟨t, len, es, ex⟩
end Go.Mach.J
