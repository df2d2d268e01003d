/- What an operation of the machine for concrete runs comes to, the first machine's comes to. No condition. -/
import Derived.Test.YtlgcbiacijgcmaaGreatDoorJ5
namespace Go.Mach.J
open Go Go.Mach

def CallS (call : Caller) (ck : KC) : Prop := ∀ fl f args T H k, HRel T H → ck fl f args T k → ∃ v T' H', call fl f ⟨args⟩ H = some (v, H') ∧ HRel T' H' ∧ k v T'

def valOp (P : Program) (call : Caller) (fl flc : Nat) (op : Op) (ev : Operand → Value) (H : AHeap) : Option (Value × AHeap) :=
  match prim P fl op ev H with
  | some (.value v, H') => some (v, H')
  | some (.skip, H') => some (undef, H')
  | some (.enter f args, H') => call flc f args H'
  | none => none

def FS (P : Program) (f : F) (op : Op) : Prop := ∀ call ck fl flc T t K H k, CallS call ck → TRel T t → HRel K H → f ck fl flc T K k →
  ∃ v K' H', valOp P call fl flc op (eval t) H = some (v, H') ∧ HRel K' H' ∧ k v K'

section
variable {P : Program}

theorem val_of {call : Caller} {fl flc : Nat} {op : Op} {ev : Operand → Value} {H H' : AHeap} {v : Value} (h : prim P fl op ev H = some (.value v, H')) : valOp P call fl flc op ev H = some (v, H') := by
  unfold valOp
  rw [h]
theorem bad_ok (op : Op) : FS P kBad op := fun _ _ _ _ _ _ _ _ _ _ _ _ h => h.elim

theorem onAddr_iff {p : Addr} {k : Nat → Nat → Prop} : onAddr p k ↔ k p.block p.off := by cases p; exact Iff.rfl
theorem onOpt_out {α : Type} {o : Option α} {k : α → Prop} (h : onOpt o False k) : ∃ a, o = some a ∧ k a := by
  cases o with
  | none => exact h.elim
  | some a => exact ⟨a, rfl, h⟩
theorem cellsOf_out {v : Value} {k : List Value → Prop} (h : cellsOf v k) : k v.cells.toList := by
  rcases onAgg_out h with ⟨a, rfl, h2⟩ | ⟨h1, h2⟩
  · cases a; exact h2
  · rw [h1]; exact h2
theorem appL_out : ∀ (l m : List Value) (k : List Value → Prop), appL l m k → k (l ++ m)
  | [], _, _, h => h
  | v :: l, m, k, h => appL_out l m (fun r => k (v :: r)) h
theorem rdL_out {T : TT} {t : Temps} (hT : TRel T t) : ∀ (l : List Operand) (k : List Value → Prop), rdL (l.map cg) T k → k (l.map (eval t))
  | [], _, h => h
  | x :: l, k, h => rdL_out hT l (fun r => k (eval t x :: r)) (rd_out (k := fun v => rdL (l.map cg) T fun r => k (v :: r)) hT h)
theorem rdO_out {T : TT} {t : Temps} (hT : TRel T t) {o : Option Operand} {k : Option Value → Prop} (h : rdO (o.map cg) T k) : k (o.map (eval t)) := by
  cases o with
  | none => exact h
  | some x => exact rd_out (k := fun v => k (some v)) hT h
theorem addK_out {a : Addr} {n : Nat} {k : Addr → Prop} (h : addK a n k) : k (a.add n) := by
  cases n with
  | zero => exact h
  | succ n =>
    have h1 := (onAddr_iff (k := fun b o => forceN (o + Nat.succ n) fun o => k ⟨b, o, none⟩)).1 h
    exact (forceN_iff (k := fun o => k ⟨a.block, o, none⟩)).1 h1
theorem arr_map (a : Array Operand) (f : Operand → Value) : a.map f = ⟨a.toList.map f⟩ := by
  cases a; simp

theorem move_ok (x : Operand) : FS P (kMove (cg x)) (.move x) := fun _ _ _ _ _ _ K _ k _ hT hH h => ⟨_, _, _, val_of rfl, hH, rd_out (k := fun v => k v K) hT h⟩
theorem assign_ok (x : Operand) : FS P (kMove (cg x)) (.assign x) := fun _ _ _ _ _ _ K _ k _ hT hH h => ⟨_, _, _, val_of rfl, hH, rd_out (k := fun v => k v K) hT h⟩
theorem pick_ok (c a b : Operand) : FS P (kPick (cg c) (cg a) (cg b)) (.pick c a b) := by
  intro call ck fl flc T t K H k _ hT hH h
  have h1 := rd_out (k := fun d => onBool d fun d => ifB d (rd (cg a) T fun v => k v K) (rd (cg b) T fun v => k v K)) hT h
  obtain ⟨d, hd, h2⟩ := onBool_out h1
  refine ⟨_, _, _, val_of (v := if d then eval t a else eval t b) (by simp only [prim, hd]), hH, ?_⟩
  rcases ifB_iff.1 h2 with ⟨rfl, h3⟩ | ⟨rfl, h3⟩
  · exact rd_out (k := fun v => k v K) hT h3
  · exact rd_out (k := fun v => k v K) hT h3
theorem pure1_ok {op : Op} {g : Value → Option Value} {x : Operand} (hop : ∀ fl ev H, prim P fl op ev H = (g (ev x)).map fun v => (.value v, H)) : FS P (kPure1 g (cg x)) op := by
  intro call ck fl flc T t K H k _ hT hH h
  have h1 := rd_out (k := fun v => pureK (g v) fun v => k v K) hT h
  obtain ⟨v, hv, hk⟩ := pureK_out h1
  exact ⟨v, _, _, val_of (by rw [hop, hv]; rfl), hH, hk⟩
theorem pure2_ok {op : Op} {g : Value → Value → Option Value} {x y : Operand} (hop : ∀ fl ev H, prim P fl op ev H = (g (ev x) (ev y)).map fun v => (.value v, H)) : FS P (kPure2 g (cg x) (cg y)) op := by
  intro call ck fl flc T t K H k _ hT hH h
  have h1 := rd_out (k := fun v => rd (cg y) T fun w => pureK (g v w) fun v => k v K) hT h
  have h2 := rd_out (k := fun w => pureK (g (eval t x) w) fun v => k v K) hT h1
  obtain ⟨v, hv, hk⟩ := pureK_out h2
  exact ⟨v, _, _, val_of (by rw [hop, hv]; rfl), hH, hk⟩
theorem bin_ok (op : BinOp) (ty yt : TypeId) (x y : Operand) : FS P (kBin P op ty (isConst x || isConst y) (cg x) (cg y)) (.binOp op ty x y yt) := by
  intro call ck fl flc T t K H k _ hT hH h
  have h1 := rd_out (k := fun a => rd (cg y) T fun b => binK P op ty (isConst x || isConst y) a b (fun v => k v K) (pureK (bin2A P op ty (isConst x || isConst y) a b) fun v => k v K)) hT h
  have h2 := rd_out (k := fun b => binK P op ty (isConst x || isConst y) (eval t x) b (fun v => k v K) (pureK (bin2A P op ty (isConst x || isConst y) (eval t x) b) fun v => k v K)) hT h1
  have fin : ∀ v, bin2A P op ty (isConst x || isConst y) (eval t x) (eval t y) = some v → k v K → ∃ v K' H', valOp P call fl flc (.binOp op ty x y yt) (eval t) H = some (v, H') ∧ HRel K' H' ∧ k v K' :=
    fun v hv hk => ⟨v, _, _, val_of (by simp only [prim, hv]; rfl), hH, hk⟩
  have other : pureK (bin2A P op ty (isConst x || isConst y) (eval t x) (eval t y)) (fun v => k v K) → ∃ v K' H', valOp P call fl flc (.binOp op ty x y yt) (eval t) H = some (v, H') ∧ HRel K' H' ∧ k v K' := fun h => by
    obtain ⟨v, hv, hk⟩ := pureK_out h
    exact fin v hv hk
  rcases onInt_out h2 with ⟨i, m, hx, h3⟩ | h3
  · rcases onInt_out h3 with ⟨j, n, hy, h4⟩ | h4
    · rcases arK_ok op i m j n (fun v => k v K) _ h4 with ⟨v, hv, hk⟩ | h5
      · refine fin v ?_ hk
        rw [hx, hy]
        unfold bin2A
        rw [hv]
        rfl
      · exact other h5
    · exact other h4
  · exact other h3
theorem conv_ok {s d : TypeId} {i : IntKind} {x : Operand} {u : TypeDesc} (hs : P.underlying s = some u) (hd : P.underlying d = some (.int i)) : FS P (kConv i (cg x)) (.convert s d x) := by
  intro call ck fl flc T t K H k _ hT hH h
  have h1 := rd_out (k := fun v => onInt v (fun _ n => wrapK i n fun n => k (.int i n) K) False) hT h
  rcases onInt_out h1 with ⟨j, n, hx, h2⟩ | h2
  · refine ⟨_, _, _, val_of (v := .int i (i.wrap n)) ?_, hH, wrapK_out (k := fun n => k (.int i n) K) h2⟩
    simp only [prim, hx, markA, convA, hs, hd, Option.map_some]
  · exact h2.elim
theorem make_out {K : HT} {H : AHeap} {vs : List Value} {es : Nat} {ex : Bool} {k : Nat → HT → Prop} (hH : HRel K H) (h : makeK vs es ex K k) :
    ∃ K', HRel K' (H ++ [⟨vs, es, ex, true⟩]) ∧ vs.all Value.oneCell' = true ∧ k H.length K' := by
  obtain ⟨B, hB, h1, h2⟩ := new_out (k := fun B => pushK K B k) h
  obtain ⟨K', h3, h4⟩ := push_out hH hB h2
  exact ⟨K', h3, h1, h4⟩
theorem alloc_ok (ty : TypeId) : FS P (kAlloc (azero P ty)) (.alloc ty) := by
  intro call ck fl flc T t K H k _ hT hH h
  obtain ⟨z, hz, h1⟩ := onOpt_out (k := fun z => forceL z fun z => makeK z 0 true K fun b H => k (.pointer (some ⟨b, 0, none⟩)) H) h
  have h2 := forceL_out (k := fun z => makeK z 0 true K fun b H => k (.pointer (some ⟨b, 0, none⟩)) H) h1
  obtain ⟨K', h3, _, h4⟩ := make_out hH h2
  exact ⟨_, _, _, val_of (by simp only [prim, hz]), h3, h4⟩
theorem box_ok (ty : TypeId) (x : Operand) : FS P (kBox (cg x)) (.box ty x) := by
  intro call ck fl flc T t K H k _ hT hH h
  have h1 := rd_out (k := fun v => cellsOf v fun l => makeK l 0 true K fun b H => k (.pointer (some ⟨b, 0, none⟩)) H) hT h
  have h2 := cellsOf_out (k := fun l => makeK l 0 true K fun b H => k (.pointer (some ⟨b, 0, none⟩)) H) h1
  obtain ⟨K', h3, _, h4⟩ := make_out hH h2
  exact ⟨_, _, _, val_of rfl, h3, h4⟩

theorem setCells_succ : ∀ (vs l : List Value) (x : Value) (n : Nat), setCells (x :: l) (n + 1) vs = x :: setCells l n vs
  | [], _, _, _ => rfl
  | v :: vs, l, x, n => by
    rw [setCells, setCells, List.set_cons_succ, setCells_succ vs]
theorem rep_out : ∀ (vs l : List Value) (k : List Value → Prop), rep vs l k → vs.length ≤ l.length ∧ k (setCells l 0 vs)
  | [], _, _, h => ⟨Nat.zero_le _, h⟩
  | _ :: _, [], _, h => h.elim
  | v :: vs, y :: l, k, h => by
    obtain ⟨h1, h2⟩ := rep_out vs l (fun r => k (v :: r)) h
    refine ⟨Nat.succ_le_succ h1, ?_⟩
    rw [setCells, List.set_cons_zero, setCells_succ]
    exact h2
theorem spl_out : ∀ (n : Nat) (vs l : List Value) (k : List Value → Prop), spl n vs l k → n + vs.length ≤ l.length ∧ k (setCells l n vs)
  | 0, vs, l, k, h => by
    obtain ⟨h1, h2⟩ := rep_out vs l k h
    exact ⟨by omega, h2⟩
  | _ + 1, _, [], _, h => h.elim
  | n + 1, vs, x :: l, k, h => by
    obtain ⟨h1, h2⟩ := spl_out n vs l (fun r => k (x :: r)) h
    refine ⟨by simp only [List.length_cons]; omega, ?_⟩
    rw [setCells_succ]
    exact h2
theorem parts_out {T : TT} {t : Temps} (hT : TRel T t) {place : Nat → Option (Nat × Nat)} : ∀ (l : List (Nat × Operand)) (ps : KP) (z : List Value) (k : List Value → Prop), cparts place l = some ps → partsK T ps z k →
    ∃ cs, afill place z (l.map fun p => (p.1, eval t p.2)) = some cs ∧ k cs
  | [], ps, z, k, hc, h => by
    cases hc
    exact ⟨z, rfl, h⟩
  | (i, x) :: r, ps, z, k, hc, h => by
    simp only [cparts] at hc
    split at hc
    · rename_i off size hp
      obtain ⟨ps', hr, rfl⟩ := Option.map_eq_some_iff.1 hc
      have h1 := rd_out (k := fun v => cellsOf v fun vs => chk (Nat.beq vs.length size) (spl off vs z fun l => partsK T ps' l k)) hT h
      have h2 := cellsOf_out (k := fun vs => chk (Nat.beq vs.length size) (spl off vs z fun l => partsK T ps' l k)) h1
      obtain ⟨h3, h4⟩ := chk_iff.1 h2
      have h3 : (eval t x).cells.size = size := by simpa using h3
      obtain ⟨h5, h6⟩ := spl_out _ _ _ _ h4
      obtain ⟨cs, h7, h8⟩ := parts_out hT r ps' _ k hr h6
      refine ⟨cs, ?_, h8⟩
      simp only [List.map_cons, afill, hp]
      rw [if_pos ⟨h3, by simp only [Array.length_toList] at h5; omega⟩]
      exact h7
    · cases hc
theorem build_ok {ty : TypeId} {parts : Array (Nat × Operand)} {place : Nat → Option (Nat × Nat)}
    (hop : ∀ fl ev H z cs, azero P ty = some z → afill place z (parts.toList.map fun p => (p.1, ev p.2)) = some cs → prim P fl (.build ty parts) ev H = some (.value (.agg cs.toArray), H)) :
    FS P (kBuild (azero P ty) (cparts place parts.toList)) (.build ty parts) := by
  intro call ck fl flc T t K H k _ hT hH h
  obtain ⟨z, hz, h1⟩ := onOpt_out (k := fun z => onOpt (cparts place parts.toList) False fun ps => forceL z fun z => partsK T ps z fun l => k (.agg ⟨l⟩) K) h
  obtain ⟨ps, hp, h2⟩ := onOpt_out (k := fun ps => forceL z fun z => partsK T ps z fun l => k (.agg ⟨l⟩) K) h1
  have h3 := forceL_out (k := fun z => partsK T ps z fun l => k (.agg ⟨l⟩) K) h2
  obtain ⟨cs, h4, h5⟩ := parts_out hT _ _ _ _ hp h3
  exact ⟨_, _, _, val_of (hop _ _ _ _ _ hz h4), hH, h5⟩
theorem buildSlice_ok {ty e : TypeId} {len es eb : Nat} {parts : Array (Nat × Operand)} (hty : aTy P ty = .slice e es eb) :
    FS P (kBuildSlice (azero P e) (cparts (fun i => some (i * es, es)) parts.toList) len es) (.buildSlice ty len parts) := by
  intro call ck fl flc T t K H k _ hT hH h
  obtain ⟨h0, h00⟩ := chk_iff.1 h
  have h0 : len * es ≤ 2 ^ 20 := by simpa [Nat.ble_eq] using h0
  obtain ⟨z, hz, h1⟩ := onOpt_out h00
  obtain ⟨ps, hp, h2⟩ := onOpt_out h1
  have h3 := forceL_out (k := fun z => partsK T ps z fun l => makeK l es true K fun b H => k (.slice (some ⟨b, 0, none⟩) len len) H) h2
  obtain ⟨cs, h4, h5⟩ := parts_out hT _ _ _ _ hp h3
  obtain ⟨K', h6, _, h7⟩ := make_out hH h5
  refine ⟨_, _, _, val_of ?_, h6, h7⟩
  simp only [prim, hty]
  rw [if_pos h0]
  simp only [hz, h4]
theorem load1_ok {ty : TypeId} {a : Operand} (hl : ∀ H p, loadA P ty H p = cellAt H p) : FS P (kLoad1 (cg a)) (.load ty a) := by
  intro call ck fl flc T t K H k _ hT hH h
  have h1 := rd_out (k := fun v => onPtr v fun p => onAddr p fun b o => blkK K b fun B => cellK B o fun v => k v K) hT h
  obtain ⟨p, hp, h2⟩ := onPtr_out h1
  obtain ⟨B, L, _, _, hL, hB, h3⟩ := blk_out hH (onAddr_iff.1 h2)
  obtain ⟨v, hv, _, hk⟩ := cell_out hL hB h3
  exact ⟨v, _, _, val_of (by simp only [prim, hp, hl, hv]; rfl), hH, hk⟩
theorem loadN_ok {ty : TypeId} {sz : Nat} {a : Operand} (hl : ∀ H p, loadA P ty H p = (cellsAt H p sz).map fun cs => .agg cs.toArray) : FS P (kLoadN sz (cg a)) (.load ty a) := by
  intro call ck fl flc T t K H k _ hT hH h
  have h1 := rd_out (k := fun v => onPtr v fun p => onAddr p fun b o => blkK K b fun B => cellsK B o sz fun l => k (.agg ⟨l⟩) K) hT h
  obtain ⟨p, hp, h2⟩ := onPtr_out h1
  obtain ⟨B, L, _, _, hL, hB, h3⟩ := blk_out hH (onAddr_iff.1 h2)
  obtain ⟨l, hl1, _, _, _, _, hk⟩ := cells_out hL hB h3
  exact ⟨_, _, _, val_of (by simp only [prim, hp, hl, hl1]; rfl), hH, hk⟩
theorem st_out {fl : Nat} {K : HT} {H : AHeap} {p : Addr} {vs : List Value} {k : HT → Prop} (hH : HRel K H) (h : stK fl K p vs k) : ∃ K' H', storeAt fl H p vs = some H' ∧ HRel K' H' ∧ k K' := by
  cases vs with
  | nil => exact ⟨K, H, rfl, hH, h⟩
  | cons v vs =>
    have h1 := (onAddr_iff (k := fun b o => chk (Nat.ble fl b) (blkK K b fun B => bputs B o (v :: vs) fun B => setBK K b (some B) k))).1 h
    obtain ⟨h2, h3⟩ := chk_iff.1 h1
    have h2 : fl ≤ p.block := by simpa [Nat.ble_eq] using h2
    obtain ⟨B, L, hb, _, hL, hB, h4⟩ := blk_out hH h3
    obtain ⟨B', h5, h6, h7, h8⟩ := bputs_out hB h4
    obtain ⟨K', h9, h10⟩ := upd_out hH hb h7 h8
    refine ⟨K', _, ?_, h9, h10⟩
    simp only [storeAt, blk?_of hL hB.2.2.1]
    rw [if_pos ⟨h2, h5, h6⟩]
theorem store_ok (ty : TypeId) (a x : Operand) : FS P (kStore (sizeA P ty) (cg a) (cg x)) (.store ty a x) := by
  intro call ck fl flc T t K H k _ hT hH h
  obtain ⟨n, hn, h1⟩ := onOpt_out h
  have h2 := rd_out (k := fun v => rd (cg x) T fun x => onPtr v fun p => cellsOf x fun vs => chk (Nat.beq n vs.length) (stK fl K p vs fun H => k undef H)) hT h1
  have h3 := rd_out (k := fun x => onPtr (eval t a) fun p => cellsOf x fun vs => chk (Nat.beq n vs.length) (stK fl K p vs fun H => k undef H)) hT h2
  obtain ⟨p, hp, h4⟩ := onPtr_out h3
  obtain ⟨h5, h6⟩ := chk_iff.1 (cellsOf_out (k := fun vs => chk (Nat.beq n vs.length) (stK fl K p vs fun H => k undef H)) h4)
  have h5 : n = (eval t x).cells.size := by simpa using h5
  obtain ⟨K', H', h7, h8, h9⟩ := st_out hH h6
  refine ⟨undef, K', H', ?_, h8, h9⟩
  unfold valOp
  simp only [prim, hp, storeA, hn, h5, if_true, h7, Option.map_some]
theorem nilCheck_ok (x : Operand) : FS P (kPure1 nilOk (cg x)) (.nilCheck x) := pure1_ok fun fl ev H => by
  simp only [prim]
  cases ev x with
  | pointer a => cases a <;> rfl
  | func f a b => cases f <;> rfl
  | _ => rfl
theorem makeFunc_ok (fn : Fn) (first captured : Array Operand) : FS P (kMakeFunc fn (first.toList.map cg) (captured.toList.map cg)) (.makeFunc fn first captured) := by
  intro call ck fl flc T t K H k _ hT hH h
  have h1 := rdL_out hT _ _ h
  have h2 := rdL_out hT _ _ h1
  exact ⟨_, _, _, val_of (by simp only [prim, arr_map]), hH, h2⟩
theorem sameInt_eq {v w : Value} (h : sameInt v w = true) : w = v ∧ v.oneCell' = true := by
  unfold sameInt at h
  split at h
  · exact ⟨by rw [kn_inj (Nat.eq_of_beq_eq_true h)], rfl⟩
  · cases h
theorem zrun_eq {z : List Value} {v : Value} (h : zrun z = some v) : z ≠ [] ∧ ∀ w ∈ z, w = v := by
  cases z with
  | nil => cases h
  | cons a r =>
    simp only [zrun] at h
    split at h
    · rename_i hr
      cases h
      refine ⟨List.cons_ne_nil _ _, fun w hw => ?_⟩
      rcases List.mem_cons.1 hw with rfl | hw
      · rfl
      · exact (sameInt_eq (List.all_eq_true.1 hr w hw)).1
    · cases h
theorem rowOf_run {z : List Value} {v : Value} (h : zrun z = some v) (n i : Nat) (hi : i < n) : (rowOf z n)[i]? = some v := by
  obtain ⟨h1, h2⟩ := zrun_eq h
  unfold rowOf
  rw [List.getElem?_map, List.getElem?_range hi, Option.map_some]
  have h3 : i % z.length < z.length := Nat.mod_lt _ (List.length_pos_iff.2 h1)
  rw [getElem!_pos z _ h3, h2 _ (List.getElem_mem h3)]
theorem length_row (z : List Value) (n : Nat) : (rowOf z n).length = n := by simp [rowOf]
theorem makeSlice_ok {ty e : TypeId} {es eb : Nat} {l c : Operand} (hty : aTy P ty = .slice e es eb) : FS P (kMakeSlice (azero P e) es eb (cg l) (cg c)) (.makeSlice ty l c) := by
  intro call ck fl flc T t K H k _ hT hH h
  obtain ⟨z, hz, h1⟩ := onOpt_out h
  have h2 := rd_out hT h1
  have h3 := rd_out hT h2
  rcases onInt_out h3 with ⟨i, m, hm, h4⟩ | h4
  · rcases onInt_out h4 with ⟨j, n, hn, h5⟩ | h5
    · rcases onNN_out h5 with ⟨a, b, rfl, rfl, h6⟩ | h6
      · obtain ⟨h7, h8⟩ := chk_iff.1 h6
        simp only [Bool.and_eq_true, Nat.ble_eq] at h7
        have hp : ∀ cs, rowOf z (b * es) = cs → prim P fl (.makeSlice ty l c) (eval t) H = some (.value (.slice (some ⟨H.length, 0, none⟩) a b), H ++ [⟨cs, es, true, true⟩]) := by
          intro cs hcs
          simp only [prim, hty, hm, hn]
          rw [if_pos (by
            have e1 : (Int.ofNat a) = (a : Int) := rfl
            have e2 : (Int.ofNat b) = (b : Int) := rfl
            rw [e1, e2]
            refine ⟨by omega, by omega, by omega, ?_⟩
            have : ((eb * b : Nat) : Int) ≤ 70368744177664 := by omega
            rw [Int.natCast_mul] at this
            exact this)]
          simp only [hz, ← hcs]
          rfl
        cases hr : zrun z with
        | none =>
          rw [hr] at h8
          have h9 := forceL_out (k := fun z => makeK z es true K fun b' H => k (.slice (some ⟨b', 0, none⟩) a b) H) h8
          obtain ⟨K', h10, _, h11⟩ := make_out hH h9
          exact ⟨_, _, _, val_of (hp _ rfl), h10, h11⟩
        | some v =>
          rw [hr] at h8
          obtain ⟨h9, h10⟩ := chk_iff.1 (show chk (Nat.ble (b * es) big) _ from h8)
          have h9 : b * es ≤ big := by simpa [Nat.ble_eq] using h9
          obtain ⟨hv1, _, h11⟩ := onOne_out h10
          have h12 := (forceN_iff (k := fun n => pushK K ⟨.c v, n, es, true⟩ fun b' H => k (.slice (some ⟨b', 0, none⟩) a b) H)).1 h11
          have hB : BRel ⟨.c v, b * es, es, true⟩ ⟨rowOf z (b * es), es, true, true⟩ := by
            refine ⟨rfl, rfl, rfl, (length_row _ _).symm, h9, fun i hi => ?_⟩
            simp only [Tr.get_c]
            exact ⟨rowOf_run hr _ _ hi, hv1⟩
          obtain ⟨K', h13, h14⟩ := push_out hH hB h12
          exact ⟨_, _, _, val_of (hp _ rfl), h13, h14⟩
      · exact h6.elim
    · exact h5.elim
  · exact h4.elim
end
end Go.Mach.J
