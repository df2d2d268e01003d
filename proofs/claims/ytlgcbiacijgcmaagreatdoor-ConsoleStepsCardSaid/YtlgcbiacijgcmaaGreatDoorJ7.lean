/- What an operation of the machine for concrete runs comes to, the first machine's comes to: slices, addresses, calls, appends, copies; all of them together. No condition. -/
import Derived.Test.YtlgcbiacijgcmaaGreatDoorJ6
import Derived.Test.YtlgcbiacijgcmaaGreatDoorPrimAll
namespace Go.Mach.J
open Go Go.Mach

section
variable {P : Program}

theorem sliceA_eq {ty : TypeId} {x : Value} {lo hi mx : Option Value} {H : AHeap} {st : Option (Bool × Nat)}
    (h : ∀ b, blkOf1 x = some b → ∃ L, H[b]? = some L ∧ st = some (L.exact, L.es)) : sliceA P ty x lo hi mx H = sliceB P ty x lo hi mx st := by
  unfold sliceA sliceB
  cases aTy P ty with
  | one => cases x <;> rfl
  | str => cases x <;> rfl
  | struct sz fs => cases x <;> rfl
  | other => cases x <;> rfl
  | slice e es eb =>
    cases x with
    | slice a len cap => cases a with
      | none => rfl
      | some a =>
        obtain ⟨L, h1, h2⟩ := h a.block rfl
        simp only [h1, h2]
        cases boundsA len cap lo hi mx <;> rfl
    | _ => rfl
  | array n e es sz =>
    cases x with
    | pointer a => cases a with
      | none => rfl
      | some a =>
        obtain ⟨L, h1, h2⟩ := h a.block rfl
        simp only [h1, h2]
        cases boundsA n n lo hi mx <;> rfl
    | _ => rfl
theorem slice_ok (ty : TypeId) (x : Operand) (lo hi mx : Option Operand) : FS P (kSlice P ty (cg x) (lo.map cg) (hi.map cg) (mx.map cg)) (.slice ty x lo hi mx) := by
  intro call ck fl flc T t K H k _ hT hH h
  have h1 := rd_out hT h
  have h2 := rdO_out hT h1
  have h3 := rdO_out hT h2
  have h4 := rdO_out hT h3
  have fin : ∀ st, (∀ b, blkOf1 (eval t x) = some b → ∃ L, H[b]? = some L ∧ st = some (L.exact, L.es)) → pureK (sliceB P ty (eval t x) (lo.map (eval t)) (hi.map (eval t)) (mx.map (eval t)) st) (fun v => k v K) →
      ∃ v K' H', valOp P call fl flc (.slice ty x lo hi mx) (eval t) H = some (v, H') ∧ HRel K' H' ∧ k v K' := by
    intro st hst hk
    obtain ⟨v, hv, hk⟩ := pureK_out hk
    exact ⟨v, _, _, val_of (by simp only [prim]; rw [sliceA_eq hst, hv]; rfl), hH, hk⟩
  cases hb : blkOf1 (eval t x) with
  | none =>
    rw [hb] at h4
    exact fin none (fun b h => by rw [hb] at h; cases h) h4
  | some b =>
    rw [hb] at h4
    obtain ⟨B, L, _, _, hL, hB, h5⟩ := blk_out hH (k := fun B => pureK (sliceB P ty (eval t x) (lo.map (eval t)) (hi.map (eval t)) (mx.map (eval t)) (some (B.exact, B.es))) fun v => k v K) h4
    exact fin _ (fun b' h => by rw [hb] at h; cases h; exact ⟨L, hL, by rw [hB.1, hB.2.1]⟩) h5

theorem fa_ok {s : TypeId} {x : Operand} {f off size sz : Nat} {ag : Option Bool} {fs : List (Nat × Nat × Option Bool)} (hty : aTy P s = .struct sz fs) (hf : fs[f]? = some (off, size, ag)) (hs : size ≠ 0) :
    FS P (kFA off (cg x)) (.fieldAddr s x f) := by
  intro call ck fl flc T t K H k _ hT hH h
  have h1 := rd_out (k := fun v => onPtr v fun a => addK a off fun a => k (.pointer (some a)) K) hT h
  obtain ⟨a, ha, h2⟩ := onPtr_out h1
  have h3 := addK_out (k := fun a => k (.pointer (some a)) K) h2
  exact ⟨_, _, _, val_of (by simp only [prim, fieldAddrA, hty, ha, hf, hs, if_false, Option.map_some]), hH, h3⟩
theorem ias_ok {s e : TypeId} {x ix : Operand} {es eb : Nat} (hty : aTy P s = .slice e es eb) : FS P (kIAs es (cg x) (cg ix)) (.indexAddr s x ix) := by
  intro call ck fl flc T t K H k _ hT hH h
  have h1 := rd_out hT h
  have h2 := rd_out hT h1
  rcases onSlice_out h2 with ⟨a, len, c, hx, h3⟩ | h3
  · obtain ⟨a, rfl, h4⟩ := onOpt_out h3
    rcases onInt_out h4 with ⟨i, n, hi, h5⟩ | h5
    · cases n with
      | ofNat n =>
        obtain ⟨h6, h7⟩ := chk_iff.1 (show chk (Nat.blt n len) _ from h5)
        have h6 : n < len := by simpa [Nat.blt_eq] using h6
        have h8 := addK_out (k := fun a => k (.pointer (some a)) K) h7
        refine ⟨_, _, _, val_of ?_, hH, h8⟩
        simp only [prim, indexAddrA, hty, hx, hi]
        rw [if_pos (by rw [show Int.ofNat n = (n : Int) from rfl]; omega)]
        rfl
      | negSucc n => exact h5.elim
    · exact h5.elim
  · exact h3.elim
theorem iaa_ok {s e : TypeId} {x ix : Operand} {n es sz : Nat} (hty : aTy P s = .array n e es sz) : FS P (kIAa n es (cg x) (cg ix)) (.indexAddr s x ix) := by
  intro call ck fl flc T t K H k _ hT hH h
  have h1 := rd_out hT h
  have h2 := rd_out hT h1
  obtain ⟨a, hx, h3⟩ := onPtr_out h2
  rcases onInt_out h3 with ⟨i, m, hi, h5⟩ | h5
  · cases m with
    | ofNat m =>
      obtain ⟨h6, h7⟩ := chk_iff.1 (show chk (Nat.blt m n) _ from h5)
      have h6 : m < n := by simpa [Nat.blt_eq] using h6
      have h8 := addK_out (k := fun a => k (.pointer (some a)) K) h7
      refine ⟨_, _, _, val_of ?_, hH, h8⟩
      simp only [prim, indexAddrA, hty, hx, hi]
      rw [if_pos (by rw [show Int.ofNat m = (m : Int) from rfl]; omega)]
      rfl
    | negSucc m => exact h5.elim
  · exact h5.elim

theorem onFn_out {f : Fn} {k : FuncId → Prop} (h : onFn f k) : ∃ g, f = .func g ∧ k g := by
  cases f with
  | func g => exact ⟨g, rfl, h⟩
  | _ => exact h.elim
theorem call_ok {c : Call} {f : Operand} (hc : c.callee = .value f) : FS P (kCall P (cg f) (c.args.toList.map cg)) (.call c) := by
  intro call ck fl flc T t K H k hS hT hH h
  have h1 := rd_out hT h
  obtain ⟨fn, first, cap, hf, h2⟩ := onFunc_out h1
  obtain ⟨g, rfl, h3⟩ := onFn_out h2
  obtain ⟨h4, h5⟩ := chk_iff.1 h3
  have h6 := rdL_out hT _ _ h5
  obtain ⟨first⟩ := first
  obtain ⟨cap⟩ := cap
  have h7 := appL_out _ cap (fun l => arr ⟨first⟩ fun f => appL f l fun l => ck flc g l K k) h6
  have h8 := appL_out first _ (fun l => ck flc g l K k) h7
  obtain ⟨v, K', H', h9, h10, h11⟩ := hS _ _ _ _ _ _ hH h8
  refine ⟨v, K', H', ?_, h10, h11⟩
  have he : (⟨first⟩ ++ c.args.map (eval t) ++ ⟨cap⟩ : Array Value) = ⟨first ++ (c.args.toList.map (eval t) ++ cap)⟩ := by
    rw [arr_map, ← List.append_assoc]
    apply Array.ext'
    simp only [Array.toList_append]
  simp only [valOp, prim, callA, hc, hf, h4, if_true, he]
  exact h9
theorem len_ok {c : Call} {x : Operand} {ty e : TypeId} {es eb : Nat} (hc : c.callee = .builtin .len) (ht : c.argTypes[0]? = some ty) (ha : c.args.toList = [x]) (hty : aTy P ty = .slice e es eb) : FS P (kLenS (cg x)) (.call c) := by
  intro call ck fl flc T t K H k _ hT hH h
  have h1 := rd_out hT h
  rcases onSlice_out h1 with ⟨a, n, cap, hx, h2⟩ | h2
  · refine ⟨_, _, _, val_of ?_, hH, h2⟩
    simp only [prim, callA, hc, lenOfA, ht, arr_map, ha, List.map_cons, List.map_nil, hx]
    simp only [show (#[Value.slice a n cap] : Array Value)[0]? = some (.slice a n cap) from rfl, hty, Option.map_some]
    rfl
  · exact h2.elim
theorem len1_ok {c : Call} {x : Operand} (hc : c.callee = .builtin .len) (ha : c.args.toList = [x]) : FS P (kPure1 (fun v => lenOfA P c.argTypes #[v]) (cg x)) (.call c) := pure1_ok fun fl ev H => by
  simp only [prim, callA, hc, arr_map, ha, List.map_cons, List.map_nil]
theorem max2_out {x y : Value} {k : Value → Prop} (h : max2K x y k) : ∃ z, max2A x y = some z ∧ k z := by
  rcases onInt_out h with ⟨i, m, rfl, h1⟩ | h1
  · rcases onInt_out h1 with ⟨j, n, rfl, h2⟩ | h2
    · rcases kLt_out h2 with ⟨h3, h4⟩ | ⟨h3, h4⟩
      · exact ⟨_, by simp only [max2A]; rw [if_pos h3], h4⟩
      · exact ⟨_, by simp only [max2A]; rw [if_neg (Int.not_lt.2 h3)], h4⟩
    · exact h2.elim
  · exact h1.elim
theorem min2_out {x y : Value} {k : Value → Prop} (h : min2K x y k) : ∃ z, min2A x y = some z ∧ k z := by
  rcases onInt_out h with ⟨i, m, rfl, h1⟩ | h1
  · rcases onInt_out h1 with ⟨j, n, rfl, h2⟩ | h2
    · rcases kLt_out h2 with ⟨h3, h4⟩ | ⟨h3, h4⟩
      · exact ⟨_, by simp only [min2A]; rw [if_pos h3], h4⟩
      · exact ⟨_, by simp only [min2A]; rw [if_neg (Int.not_lt.2 h3)], h4⟩
    · exact h2.elim
  · exact h1.elim
theorem fold_out {f : Value → Value → (Value → Prop) → Prop} {g : Value → Value → Option Value} (hfg : ∀ x y k, f x y k → ∃ z, g x y = some z ∧ k z) : ∀ (l : List Value) (x : Value) (k : Value → Prop), foldK f l x k → ∃ z, foldA g x l = some z ∧ k z
  | [], x, k, h => ⟨x, rfl, h⟩
  | y :: l, x, k, h => by
    obtain ⟨z, h1, h2⟩ := hfg x y (fun z => foldK f l z k) h
    obtain ⟨w, h3, h4⟩ := fold_out hfg l z k h2
    exact ⟨w, by simp only [foldA, h1, h3], h4⟩
theorem max_ok {c : Call} {x : Operand} {l : List Operand} (hc : c.callee = .builtin .max) (ha : c.args.toList = x :: l) : FS P (kFold max2K (cg x) (l.map cg)) (.call c) := by
  intro call ck fl flc T t K H k _ hT hH h
  have h1 := rd_out hT h
  have h2 := rdL_out hT _ _ h1
  obtain ⟨z, h3, h4⟩ := fold_out (f := max2K) (g := max2A) (fun x y k h => max2_out h) _ _ (fun v => k v K) h2
  exact ⟨z, _, _, val_of (by simp only [prim, callA, hc, arr_map, ha, List.map_cons, h3, Option.map_some]), hH, h4⟩
theorem min_ok {c : Call} {x : Operand} {l : List Operand} (hc : c.callee = .builtin .min) (ha : c.args.toList = x :: l) : FS P (kFold min2K (cg x) (l.map cg)) (.call c) := by
  intro call ck fl flc T t K H k _ hT hH h
  have h1 := rd_out hT h
  have h2 := rdL_out hT _ _ h1
  obtain ⟨z, h3, h4⟩ := fold_out (f := min2K) (g := min2A) (fun x y k h => min2_out h) _ _ (fun v => k v K) h2
  exact ⟨z, _, _, val_of (by simp only [prim, callA, hc, arr_map, ha, List.map_cons, h3, Option.map_some]), hH, h4⟩

/-! ### append and copy -/
theorem first_out {K : HT} {H : AHeap} {es m : Nat} {x : Value} {k : List Value → Prop} (hH : HRel K H) (h : firstK K (m * es) x k) (hl : ∀ a l c, x = .slice a l c → es ≠ 0 ∨ m = 0 ∨ a.isSome = true) :
    ∃ l, firstA H es m x = some l ∧ l.length = m * es ∧ k l := by
  rcases onSlice_out h with ⟨a, n, c, rfl, h1⟩ | h1
  · cases hm : m * es with
    | zero =>
      rw [hm] at h1
      refine ⟨[], ?_, rfl, h1⟩
      cases a with
      | none =>
        have : m = 0 := by
          rcases hl _ _ _ rfl with h2 | h2 | h2
          · rcases Nat.mul_eq_zero.1 hm with h3 | h3
            · exact h3
            · exact absurd h3 h2
          · exact h2
          · cases h2
        simp only [firstA, this, if_true]
      | some a => simp only [firstA, hm, if_true]
    | succ q =>
      rw [hm] at h1
      obtain ⟨a, rfl, h2⟩ := onOpt_out (k := fun a => onAddr a fun b o => blkK K b fun B => cellsK B o (q + 1) k) h1
      obtain ⟨B, L, _, _, hL, hB, h3⟩ := blk_out hH (onAddr_iff.1 h2)
      obtain ⟨l, h4, _, _, h5, _, h6⟩ := cells_out hL hB h3
      refine ⟨l, ?_, h5, h6⟩
      simp only [firstA, hm, Nat.add_eq_zero_iff, Nat.one_ne_zero, and_false, if_false, h4]
  · exact h1.elim

theorem grow_out {B : KB} {L : Blk} {H : AHeap} {a : Addr} {n : Nat} {new : List Value} {es : Nat} {k : KB → Prop} (hL : H[a.block]? = some L) (hB : BRel B L) (h : growK B a.off n new es k) :
    ∃ B' old, old = (L.cells.drop a.off).take n ∧ a.off + n ≤ L.cells.length ∧ old.all (fun v => !holeB v) = true ∧ new.all Value.oneCell' = true ∧ BRel B' ⟨old ++ new, es, false, true⟩ ∧ k B' := by
  cases ho : a.off with
  | zero =>
    rw [ho] at h
    obtain ⟨t, len, bs, ex⟩ := B
    obtain ⟨h1, h2⟩ := chk_iff.1 (show chk (Nat.ble n len && Nat.blt (n + new.length) big) _ from h)
    simp only [Bool.and_eq_true, Nat.ble_eq, Nat.blt_eq] at h1
    obtain ⟨h3, h4, h5⟩ := ones_out h2
    have h6 := (puts_iff new n t _).1 h5
    have h7 := (forceN_iff (k := fun m => k ⟨putsT new n t, m, es, false⟩)).1 h6
    have hcs := cells_of hB 0 n (by simp only; omega)
    have hB' := hB
    obtain ⟨_, _, _, hl, _, hc⟩ := hB
    simp only at hl hc
    have hone : ((L.cells.drop 0).take n).all (fun v => !holeB v) = true := by
      rw [hcs, List.all_eq_true]
      intro v hv
      obtain ⟨i, hi, he⟩ := List.mem_map.1 hv
      rw [List.mem_range'] at hi
      obtain ⟨j, hj, hi⟩ := hi
      simp only at he
      rw [← he, one_hole (hc i (by omega)).2]
      rfl
    refine ⟨_, _, rfl, by omega, hone, h3, ?_, h7⟩
    have hlen : ((L.cells.drop 0).take n).length = n := by rw [List.length_take, List.length_drop]; omega
    refine ⟨rfl, rfl, rfl, ?_, ?_, ?_⟩
    · simp only [List.length_append, hlen]
    · simp only; omega
    · intro i hi
      simp only at hi
      have hp := putsT_at new n t i (by omega) (by omega)
      simp only
      by_cases h8 : i < n
      · rw [if_neg (by omega)] at hp
        simp only [Option.some.injEq] at hp
        rw [List.getElem?_append_left (by omega), List.getElem?_take, if_pos h8, List.getElem?_drop, Nat.zero_add, hp]
        exact hc i (by omega)
      · rw [if_pos (by omega)] at hp
        rw [List.getElem?_append_right (by omega), hlen, ← hp]
        refine ⟨rfl, ?_⟩
        exact List.all_eq_true.1 h3 _ (List.mem_of_getElem? hp.symm)
  | succ o =>
    rw [ho] at h
    have h1 : cellsK B a.off n fun old => appL old new fun l => newK l es false k := by rw [ho]; exact h
    obtain ⟨l, _, h2, h3, _, h5, h6⟩ := cells_out hL hB h1
    have h7 := appL_out l new (fun l => newK l es false k) h6
    obtain ⟨B', h8, h9, h10⟩ := new_out h7
    rw [← ho]
    refine ⟨B', l, h2, h3, ?_, ?_, h8, h10⟩
    · rw [List.all_eq_true] at h5 ⊢
      intro v hv
      rw [one_hole (h5 v hv)]
      rfl
    · rw [List.all_append, Bool.and_eq_true] at h9
      exact h9.2
theorem kill_out {fl : Nat} {K : HT} {H : AHeap} {es : Nat} {a : Addr} {B : KB} {L : Blk} {k : HT → Prop} (hH : HRel K H) (hb : a.block < K.size) (hL : H[a.block]? = some L) (hB : BRel B L) (h : killK fl K es a.block B k) :
    ∃ K' H', killA fl H es (some a) = some H' ∧ H'.length = H.length ∧ HRel K' H' ∧ k K' := by
  rcases ifB_iff.1 h with ⟨h1, h2⟩ | ⟨h1, h2⟩
  · refine ⟨K, H, ?_, rfl, hH, h2⟩
    simp only [killA, hL]
    rw [hB.2.1] at h1
    rw [if_pos h1]
  · obtain ⟨h3, h4⟩ := chk_iff.1 h2
    obtain ⟨h5, h6⟩ := chk_iff.1 h4
    have h3 : L.es = es := by rw [← hB.1]; exact Nat.eq_of_beq_eq_true h3
    have h5 : fl ≤ a.block := by simpa [Nat.ble_eq] using h5
    obtain ⟨K', h7, h8⟩ := drop_out (L := { L with alive := false }) hH hb h6
    refine ⟨K', _, ?_, by simp, h7, h8⟩
    simp only [killA, hL]
    rw [hB.2.1] at h1
    rw [if_neg (by rw [h1]; exact Bool.false_ne_true), if_pos ⟨h3, hB.2.2.1, h5⟩]

theorem appendTo_eq {fl e es eb : Nat} {base : Option Addr} {n c m : Nat} {x : Value} {new : List Value} {H : AHeap} (hn : firstA H es m x = some new) : appendTo P fl e es eb base n c m x H = appendNew P fl e es eb base n c m new H := by
  simp only [appendTo, hn, appendNew]
theorem append_out {fl e es eb : Nat} {base : Option Addr} {n c m : Nat} {new : List Value} {K : HT} {H : AHeap} {k : Value → HT → Prop} (hH : HRel K H) (hz : (azero P e).map List.length = some es)
    (h : appendL fl es eb base n c m new K k) : ∃ v K' H', appendNew P fl e es eb base n c m new H = some (v, H') ∧ HRel K' H' ∧ k v K' := by
  have h1 := (forceN_iff (n := n + m)).1 h
  simp only [appendNew]
  rcases ifB_iff.1 h1 with ⟨h2, h3⟩ | ⟨h2, h3⟩
  · have h2 : n + m ≤ c := by simpa [Nat.ble_eq] using h2
    simp only [h2, if_true]
    cases base with
    | none => exact ⟨_, _, _, rfl, hH, h3⟩
    | some a =>
      have h4 := addK_out (k := fun p => stK fl K p new fun H => k (.slice (some a) (n + m) c) H) h3
      obtain ⟨K', H', h5, h6, h7⟩ := st_out hH h4
      exact ⟨_, K', H', by simp only [h5], h6, h7⟩
  · have h2 : ¬ n + m ≤ c := by simpa [← Bool.not_eq_true, Nat.ble_eq] using h2
    obtain ⟨h4, h5⟩ := chk_iff.1 h3
    simp only [Bool.and_eq_true, Nat.ble_eq] at h4
    simp only [h2, if_false]
    cases base with
    | none =>
      obtain ⟨h6, h7⟩ := chk_iff.1 (show chk (Nat.beq n 0) _ from h5)
      have h6 : n = 0 := Nat.eq_of_beq_eq_true h6
      subst h6
      obtain ⟨K', h8, h9, h10⟩ := make_out hH h7
      rw [if_pos ⟨by omega, by omega, h9, hz⟩]
      refine ⟨_, K', _, ?_, h8, h10⟩
      simp only [firstA, killA, if_true, List.nil_append]
    | some a =>
      obtain ⟨B, L, hb, _, hL, hB, h6⟩ := blk_out hH (onAddr_iff.1 (show onAddr a (fun b o => blkK K b fun B => forceN (n * es) fun ne => growK B o ne new es fun B' => killK fl K es b B fun H => pushK H B' fun b H => k (.slice (some ⟨b, 0, none⟩) (n + m) (n + m)) H) from h5))
      have h7 := (forceN_iff (n := n * es)).1 h6
      obtain ⟨B', old, h8, h9, h10, h11, h12, h13⟩ := grow_out hL hB h7
      obtain ⟨K1, H1, h14, h15, h16, h17⟩ := kill_out hH hb hL hB h13
      obtain ⟨K2, h18, h19⟩ := push_out h16 h12 h17
      have hold : firstA H es n (.slice (some a) n c) = some old := by
        simp only [firstA]
        split
        · rename_i h0
          rw [h8, h0, List.take_zero]
        · unfold cellsAt
          rw [blk?_of hL hB.2.2.1]
          simp only
          rw [if_pos ⟨h9, by rw [← h8]; exact h10⟩, h8]
      rw [if_pos ⟨by omega, by omega, h11, hz⟩]
      refine ⟨_, K2, _, ?_, h18, h19⟩
      simp only [hold, h14]
theorem map2 {c : Call} {a b : Operand} (ha : c.args.toList = [a, b]) (ev : Operand → Value) : c.args.map ev = #[ev a, ev b] := by
  rw [arr_map, ha]
  rfl
theorem appendA_two {fl : Nat} {ats : Array TypeId} {st xt : TypeId} {base : Option Addr} {n c : Nat} {x : Value} {H : AHeap} (h0 : ats[0]? = some st) (h1 : ats[1]? = some xt) : appendA P fl ats #[.slice base n c, x] H =
    (match aTy P st, aTy P xt, lenA x with
    | .slice e es eb, .slice _ _ _, some m => appendTo P fl e es eb base n c m x H
    | .slice e es eb, .str, some m => appendTo P fl e es eb base n c m x H
    | .slice e es eb, .one, none => appendM P fl e es eb base n c xt x H
    | _, _, _ => none) := by
  unfold appendA
  rw [h0, h1]
  rfl
theorem append_ok {c : Call} {s x : Operand} {st xt e e' : TypeId} {es eb es' eb' : Nat} (hc : c.callee = .builtin .append) (h0 : c.argTypes[0]? = some st) (h1 : c.argTypes[1]? = some xt) (ha : c.args.toList = [s, x])
    (hs : aTy P st = .slice e es eb) (hx : aTy P xt = .slice e' es' eb') (hes : es ≠ 0) : FS P (kAppend es eb (((azero P e).map List.length).any (Nat.beq es)) (cg s) (cg x)) (.call c) := by
  intro call ck fl flc T t K H k _ hT hH h
  obtain ⟨hz, h2⟩ := chk_iff.1 h
  have hz : (azero P e).map List.length = some es := by
    cases hh : (azero P e).map List.length with
    | none => rw [hh] at hz; cases hz
    | some q => rw [hh] at hz; rw [← Nat.eq_of_beq_eq_true hz]
  have h3 := rd_out hT h2
  have h4 := rd_out hT h3
  rcases onSlice_out h4 with ⟨base, n, cp, hsv, h5⟩ | h5
  · rcases onSlice_out (show onSlice (eval t x) _ _ from h5) with ⟨xa, m, xc, hxv, h6⟩ | h6
    · obtain ⟨new, h7, h8, h9⟩ := first_out hH h6 (fun _ _ _ _ => .inl hes)
      obtain ⟨v, K', H', h10, h11, h12⟩ := append_out (base := base) hH hz h9
      refine ⟨v, K', H', val_of ?_, h11, h12⟩
      rw [hxv] at h7
      simp only [prim, callA, hc, map2 ha, hsv, hxv]
      rw [appendA_two h0 h1]
      simp only [hs, hx, lenA, appendTo_eq h7, h10, Option.map_some]
    · exact h6.elim
  · exact h5.elim
theorem bytes_out : ∀ (l : List UInt8) (k : List Value → Prop), bytesL l k → k (l.map fun b => .int .u8 b.toNat)
  | [], _, h => h
  | c :: l, k, h => by
    have h1 := (forceN_iff (k := fun n => bytesL l fun r => k (.int .u8 (.ofNat n) :: r))).1 h
    exact bytes_out l (fun r => k (.int .u8 (.ofNat c.toNat) :: r)) h1
theorem appendB_ok {c : Call} {s x : Operand} {st xt e : TypeId} {es eb : Nat} (hc : c.callee = .builtin .append) (h0 : c.argTypes[0]? = some st) (h1 : c.argTypes[1]? = some xt) (ha : c.args.toList = [s, x])
    (hs : aTy P st = .slice e es eb) (hx : aTy P xt = .str) : FS P (kAppendB eb (((azero P e).map List.length).any (Nat.beq es) && Nat.beq es 1) (cg s) (cg x)) (.call c) := by
  intro call ck fl flc T t K H k _ hT hH h
  obtain ⟨hz, h2⟩ := chk_iff.1 h
  rw [Bool.and_eq_true] at hz
  have he : es = 1 := Nat.eq_of_beq_eq_true hz.2
  subst he
  have hz : (azero P e).map List.length = some 1 := by
    cases hh : (azero P e).map List.length with
    | none => rw [hh] at hz; cases hz.1
    | some q => rw [hh] at hz; rw [← Nat.eq_of_beq_eq_true hz.1]
  have h3 := rd_out hT h2
  have h4 := rd_out hT h3
  rcases onSlice_out h4 with ⟨base, n, cp, hsv, h5⟩ | h5
  · rcases onStr_out h5 with ⟨y, hxv, h6⟩ | h6
    · have h7 := (forceN_iff (n := y.size)).1 h6
      have h8 := bytes_out _ _ h7
      have h9 : firstA H 1 y.size (.string y) = some ((y.extract 0 y.size).data.toList.map fun b => .int .u8 b.toNat) := by simp only [firstA, if_true]
      obtain ⟨v, K', H', h10, h11, h12⟩ := append_out (base := base) hH hz h8
      refine ⟨v, K', H', val_of ?_, h11, h12⟩
      simp only [prim, callA, hc, map2 ha, hsv, hxv]
      rw [appendA_two h0 h1]
      simp only [hs, hx, lenA, appendTo_eq h9, h10, Option.map_some]
    · exact h6.elim
  · exact h5.elim
theorem appendM_ok {c : Call} {s x : Operand} {st xt e : TypeId} {es eb : Nat} {i : IntKind} (hc : c.callee = .builtin .append) (h0 : c.argTypes[0]? = some st) (h1 : c.argTypes[1]? = some xt) (ha : c.args.toList = [s, x])
    (hs : aTy P st = .slice e es eb) (hx : aTy P xt = .one) (hu : P.underlying xt = some (.int i)) : FS P (kAppendM es eb (azero P e) (cg s) (cg x)) (.call c) := by
  intro call ck fl flc T t K H k _ hT hH h
  obtain ⟨z, hzz, h2⟩ := onOpt_out h
  obtain ⟨hzl, h2⟩ := chk_iff.1 h2
  have hzl : z.length = es := Nat.eq_of_beq_eq_true hzl
  have hz : (azero P e).map List.length = some es := by rw [hzz, ← hzl]; rfl
  have h3 := rd_out hT h2
  have h4 := rd_out hT h3
  rcases onSlice_out h4 with ⟨base, n, cp, hsv, h5⟩ | h5
  · rcases onInt_out h5 with ⟨j, m, hxv, h6⟩ | h6
    · rcases sameK_out h6 with ⟨rfl, h7⟩ | h7
      · cases m with
        | ofNat m =>
          obtain ⟨h8, h9⟩ := chk_iff.1 (show chk (Nat.ble (m * eb) 140737488355328 && Nat.ble m 140737488355328) _ from h7)
          simp only [Bool.and_eq_true, Nat.ble_eq] at h8
          have h10 := forceL_out (k := fun new => appendL fl es eb base n cp m new K k) h9
          obtain ⟨v, K', H', h11, h12, h13⟩ := append_out (base := base) hH hz h10
          refine ⟨v, K', H', val_of ?_, h12, h13⟩
          simp only [prim, callA, hc, map2 ha, hsv, hxv]
          rw [appendA_two h0 h1]
          simp only [hs, hx, lenA, appendM, hu, hzz]
          rw [if_pos ⟨hzl, by omega, by omega⟩, h11]
          rfl
        | negSucc m => exact h7.elim
      · exact h7.elim
    · exact h6.elim
  · exact h5.elim

theorem setCells_all {cs vs : List Value} (h : vs.length = cs.length) : setCells cs 0 vs = vs := by
  apply List.ext_getElem?
  intro i
  by_cases hi : i < vs.length
  · have := setCells_at vs cs 0 i (by omega) hi
    rw [Nat.zero_add] at this
    exact this
  · rw [List.getElem?_eq_none (by rw [setCells_len]; omega), List.getElem?_eq_none (by omega)]
theorem copyA_two {fl : Nat} {ats : Array TypeId} {dt : TypeId} {base : Option Addr} {n c : Nat} {x : Value} {H : AHeap} (h0 : ats[0]? = some dt) : copyA P fl ats #[.slice base n c, x] H =
    (match aTy P dt, lenA x with
    | .slice _ es _, some m =>
      match firstA H es (Nat.min m n) x with
      | some cells =>
        match base with
        | some a => match storeAt fl H a cells with
          | some H' => some (.int .i64 (Nat.min m n), H')
          | none => none
        | none => some (.int .i64 (Nat.min m n), H)
      | none => none
    | _, _ => none) := by
  unfold copyA
  rw [h0]
  rfl
theorem copy_ok {c : Call} {s x : Operand} {dt e : TypeId} {es eb : Nat} (hc : c.callee = .builtin .copy) (h0 : c.argTypes[0]? = some dt) (ha : c.args.toList = [s, x]) (hs : aTy P dt = .slice e es eb) : FS P (kCopy es (cg s) (cg x)) (.call c) := by
  obtain ⟨_, _, _, _, _, _, _, hes⟩ := aTy_slice hs
  intro call ck fl flc T t K H k _ hT hH h
  have h3 := rd_out hT h
  have h4 := rd_out hT h3
  rcases onSlice_out h4 with ⟨base, n, cp, hsv, h5⟩ | h5
  rotate_left
  · exact h5.elim
  rcases onSlice_out (show onSlice (eval t x) _ _ from h5) with ⟨xa, m, xc, hxv, h6⟩ | h6
  rotate_left
  · exact h6.elim
  have h7 := (forceN_iff (n := Nat.min m n)).1 h6
  generalize hq : Nat.min m n = q at h7
  have fin : ∀ l K' H', firstA H es q (eval t x) = some l → (match base with
      | some a => storeAt fl H a l = some H'
      | none => H' = H) → HRel K' H' → k (.int .i64 (.ofNat q)) K' → ∃ v K' H', valOp P call fl flc (.call c) (eval t) H = some (v, H') ∧ HRel K' H' ∧ k v K' := by
    intro l K' H' e1 e2 e3 e4
    refine ⟨_, K', H', val_of ?_, e3, e4⟩
    simp only [prim, callA, hc, map2 ha, hsv]
    rw [copyA_two h0]
    rw [hxv] at e1 ⊢
    simp only [hs, lenA, hq, e1]
    cases base with
    | none => subst e2; rfl
    | some a => simp only at e2; simp only [e2]; rfl
  cases base with
  | none =>
    obtain ⟨l, e1, _, e2⟩ := first_out (es := es) (m := q) (x := eval t x) (k := fun _ => k (.int .i64 (.ofNat q)) K) hH h7 (fun _ _ _ _ => .inl hes)
    exact fin l K H e1 rfl hH e2
  | some a =>
    have h7' := onOpt_some.1 h7
    have h8 := onAddr_iff.1 h7'
    rcases onSlice_out h8 with ⟨xa', m', xc', hxv', h9⟩ | h9
    rotate_left
    · exact h9.elim
    have slow : firstK K (q * es) (eval t x) (fun l => stK fl K a l fun H => k (.int .i64 (.ofNat q)) H) → ∃ v K' H', valOp P call fl flc (.call c) (eval t) H = some (v, H') ∧ HRel K' H' ∧ k v K' := by
      intro h
      obtain ⟨l, e1, _, e2⟩ := first_out (es := es) (m := q) (x := eval t x) hH h (fun _ _ _ _ => .inl hes)
      obtain ⟨K', H', e3, e4, e5⟩ := st_out hH e2
      exact fin l K' H' e1 e3 e4 e5
    cases xa' with
    | none => exact slow h9
    | some xa' =>
      have h9' := onOpt_some.1 h9
      have h10 := onAddr_iff.1 h9'
      obtain ⟨B, LB, hb, _, hLB, hB, h11⟩ := blk_out hH h10
      obtain ⟨X, LX, _, _, hLX, hX, h12⟩ := blk_out hH h11
      rcases ifB_iff.1 h12 with ⟨h13, h14⟩ | ⟨_, h14⟩
      rotate_left
      · exact slow h14
      simp only [Bool.and_eq_true, Nat.ble_eq, Nat.blt_eq] at h13
      obtain ⟨⟨⟨⟨ho, hxo⟩, hql⟩, hle⟩, hpos⟩ := h13
      have ho := Nat.eq_of_beq_eq_true ho
      have hxo := Nat.eq_of_beq_eq_true hxo
      have hql := Nat.eq_of_beq_eq_true hql
      obtain ⟨hf, h15⟩ := chk_iff.1 h14
      have hf : fl ≤ a.block := by simpa [Nat.ble_eq] using hf
      obtain ⟨bt, blen, bes, bex⟩ := B
      obtain ⟨xt, xlen, xes, xex⟩ := X
      have h16 : setBK K a.block (some ⟨xt, blen, bes, bex⟩) (fun H => k (.int .i64 (.ofNat q)) H) := h15
      obtain ⟨b1, b2, b3, b4, b5, b6⟩ := hB
      obtain ⟨x1, x2, x3, x4, x5, x6⟩ := hX
      simp only at hql hle hpos b1 b2 b4 b5 x4 x6
      have hcs := cells_of (B := ⟨xt, xlen, xes, xex⟩) (L := LX) ⟨x1, x2, x3, x4, x5, x6⟩ 0 (q * es) (by simp only; omega)
      have hall : ((LX.cells.drop 0).take (q * es)).all Value.oneCell' = true := by
        rw [hcs, List.all_eq_true]
        intro v hv
        obtain ⟨i, hi, he⟩ := List.mem_map.1 hv
        rw [List.mem_range'] at hi
        obtain ⟨j, hj, hi⟩ := hi
        simp only at he
        rw [← he]
        exact (x6 i (by omega)).2
      have hhole : ((LX.cells.drop 0).take (q * es)).all (fun v => !holeB v) = true := by
        rw [List.all_eq_true] at hall ⊢
        intro v hv
        rw [one_hole (hall v hv)]
        rfl
      have hlen : ((LX.cells.drop 0).take (q * es)).length = q * es := by rw [List.length_take, List.length_drop]; omega
      obtain ⟨v0, vs0, hv0⟩ : ∃ v vs, (LX.cells.drop 0).take (q * es) = v :: vs := by
        cases hh : (LX.cells.drop 0).take (q * es) with
        | nil => rw [hh] at hlen; simp at hlen; omega
        | cons v vs => exact ⟨v, vs, rfl⟩
      have hBn : BRel ⟨xt, blen, bes, bex⟩ { LB with cells := (LX.cells.drop 0).take (q * es) } := by
        refine ⟨b1, b2, b3, ?_, b5, fun i hi => ?_⟩
        · simp only [hlen]; omega
        · simp only at hi ⊢
          rw [List.getElem?_take, if_pos (by omega), List.getElem?_drop, Nat.zero_add]
          exact x6 i (by omega)
      obtain ⟨K', h17, h18⟩ := upd_out hH hb hBn h16
      refine fin ((LX.cells.drop 0).take (q * es)) K' _ ?_ ?_ h17 h18
      · rw [hxv']
        simp only [firstA]
        rw [if_neg (by omega)]
        unfold cellsAt
        rw [blk?_of hLX x3]
        simp only [hxo]
        rw [if_pos ⟨by omega, hhole⟩]
      · simp only
        rw [hv0]
        simp only [storeAt, blk?_of hLB b3]
        rw [← hv0, if_pos ⟨hf, by omega, hall⟩, ho, setCells_all (by rw [hlen]; omega)]

/-! ### Conversions -/
theorem mark_ok {s : TypeId} {e : TypeId} {x : Operand} (hs : P.underlying s = some (.slice e)) (he : P.underlying e = some (.int .u8)) : FS P (kMark (cg x)) (.convert s s x) := by
  intro call ck fl flc T t K H k _ hT hH h
  have h1 := rd_out hT h
  rcases onSlice_out h1 with ⟨a, n, c, hx, h2⟩ | h2
  · obtain ⟨a, rfl, h3⟩ := onOpt_out h2
    cases n with
    | zero => exact ((onAddr_iff (p := a)).1 h3).elim
    | succ n =>
      obtain ⟨h4, h5⟩ := chk_iff.1 ((onAddr_iff (p := a)).1 h3)
      have h4 : fl ≤ a.block := by simpa [Nat.ble_eq] using h4
      obtain ⟨B, L, _, _, hL, hB, h6⟩ := blk_out hH h5
      refine ⟨_, _, _, val_of (v := eval t x) ?_, hH, h6⟩
      simp only [prim, hx, markA]
      rw [if_pos ⟨trivial, h4, by rw [blk?_of hL hB.2.2.1]; rfl⟩]
      simp only [hs, he]
  · exact h2.elim
theorem sToB_ok {s d e : TypeId} {x : Operand} (hs : P.underlying s = some .string) (hd : P.underlying d = some (.slice e)) (he : P.underlying e = some (.int .u8)) : FS P (kStoB (cg x)) (.convert s d x) := by
  intro call ck fl flc T t K H k _ hT hH h
  have h1 := rd_out hT h
  rcases onStr_out h1 with ⟨y, hx, h2⟩ | h2
  · obtain ⟨h3, h4⟩ := chk_iff.1 h2
    have h3 : y.size ≤ 2 ^ 60 := by simpa [Nat.ble_eq] using h3
    have h5 := bytes_out _ _ h4
    obtain ⟨K', h6, _, h7⟩ := make_out hH h5
    have h8 := (forceN_iff (n := y.size)).1 h7
    refine ⟨_, K', _, val_of ?_, h6, h8⟩
    simp only [prim, hx, markA, convA, hs, hd, he]
    rw [if_pos h3]
    rfl
  · exact h2.elim
theorem bToS_ok {s d e : TypeId} {x : Operand} (hs : P.underlying s = some (.slice e)) (hd : P.underlying d = some .string) (he : P.underlying e = some (.int .u8)) : FS P (kBtoS (cg x)) (.convert s d x) := by
  intro call ck fl flc T t K H k _ hT hH h
  have hne : s ≠ d := fun h => by rw [h, hd] at hs; cases hs
  have h1 := rd_out hT h
  have hmk : ∀ v, markA P fl s d v H = none := fun v => by
    unfold markA
    split
    · rw [if_neg (fun h => hne h.1)]
    · rfl
  rcases onSlice_out h1 with ⟨a, n, c, hx, h2⟩ | h2
  · cases a with
    | none =>
      refine ⟨_, K, _, val_of ?_, hH, h2⟩
      simp only [prim, hmk]
      simp only [hx, convA, hs, hd, he, Option.map_some]
    | some a =>
      cases n with
      | zero =>
        refine ⟨_, K, _, val_of ?_, hH, h2⟩
        simp only [prim, hmk]
        simp only [hx, convA, hs, hd, he, if_true, Option.map_some]
      | succ n =>
        rcases onSlice_out (show onSlice (eval t x) _ _ from h2) with ⟨a', n', c', hx', h3⟩ | h3
        · rw [hx] at hx'
          cases hx'
          obtain ⟨B, L, _, _, hL, hB, h4⟩ := blk_out hH ((onAddr_iff (p := a)).1 (show onAddr a (fun b o => blkK K b fun B => cellsK B o (n + 1) fun cs => onOpt (bytesOfCells cs) False fun l => k (.string ⟨l.toArray⟩) K) from h3))
          obtain ⟨l, h5, _, _, _, _, h6⟩ := cells_out hL hB h4
          obtain ⟨bs, h7, h8⟩ := onOpt_out h6
          refine ⟨_, K, _, val_of ?_, hH, h8⟩
          simp only [prim, hmk]
          simp only [hx, convA, hs, hd, he, Nat.add_eq_zero_iff, Nat.one_ne_zero, and_false, if_false, h5, h7, Option.map_some]
        · exact h3.elim
  · exact h2.elim

/-! ### All of them -/
def KS (P : Program) (o : KO) (op : Op) : Prop := match o with | .mk f => FS P f op
theorem cconv_ok (s d : TypeId) (x : Operand) : KS P (cconv P s d (cg x)) (.convert s d x) := by
  unfold cconv
  split
  · exact conv_ok ‹_› ‹_›
  · split
    · exact sToB_ok ‹_› ‹_› ‹_›
    · exact bad_ok _
  · split
    · exact bToS_ok ‹_› ‹_› ‹_›
    · exact bad_ok _
  · rename_i hs hd
    split
    · rename_i he
      split
      · rename_i hsd
        subst hsd
        exact mark_ok hs he
      · exact bad_ok _
    · exact bad_ok _
  · exact bad_ok _
theorem u64_wrap (n : Int) : IntKind.u64.wrap n = Int.ofNat (u64m n) := by
  have h : (2 : Int) ^ IntKind.u64.bits = 18446744073709551616 := by decide
  have h0 : 0 ≤ n % 18446744073709551616 := Int.emod_nonneg _ (by decide)
  unfold IntKind.wrap
  simp only [h, show IntKind.u64.signed = false from rfl, Bool.false_and, Bool.false_eq_true, if_false]
  show n % 18446744073709551616 = ((Int.toNat (n % 18446744073709551616) : Nat) : Int)
  omega
theorem convL_ok {s d : TypeId} {x : Operand} {u : TypeDesc} (hs : P.underlying s = some u) (hd : P.underlying d = some (.int .u64)) : FS P (kConvL (cg x)) (.convert s d x) := by
  intro call ck fl flc T t K H k _ hT hH h
  have h1 := rd_out (k := fun v => onInt v (fun _ n => k (.int .u64 (.ofNat (u64m n))) K) False) hT h
  rcases onInt_out h1 with ⟨j, n, hx, h2⟩ | h2
  · refine ⟨_, _, _, val_of (v := .int .u64 (IntKind.u64.wrap n)) ?_, hH, ?_⟩
    · simp only [prim, hx, markA, convA, hs, hd, Option.map_some]
    · rw [u64_wrap]; exact h2
  · exact h2.elim
theorem cconvL_ok (s d : TypeId) (x : Operand) : KS P (cconvL P s d (cg x)) (.convert s d x) := by
  unfold cconvL
  split
  · exact convL_ok ‹_› ‹_›
  · exact cconv_ok _ _ _
theorem isR3_ok {op : BinOp} {y : Operand} (h : isR3 op y = true) : op = .rem ∧ y = .const (.int .u64 (.ofNat 3)) := by
  unfold isR3 at h
  split at h
  · exact ⟨rfl, rfl⟩
  · cases h
theorem rem3_ok (ty yt : TypeId) (x : Operand) : FS P (kRem3 (cg x)) (.binOp .rem ty x (.const (.int .u64 (.ofNat 3))) yt) := by
  intro call ck fl flc T t K H k _ hT hH h
  have h1 := rd_out hT h
  rcases onInt_out h1 with ⟨i, n, hx, h2⟩ | h2
  · rcases sameK_out h2 with ⟨rfl, h3⟩ | h3
    · cases n with
      | ofNat a =>
        obtain ⟨k0, k1, k2⟩ := h3
        have fin : k (.int .u64 (.ofNat (a % 3))) K := by
          have : a % 3 = 0 ∨ a % 3 = 1 ∨ a % 3 = 2 := by omega
          rcases this with e | e | e <;> rw [e] <;> assumption
        refine ⟨_, _, _, val_of ?_, hH, fin⟩
        have hv : aBin .rem (.int .u64 (.ofNat a)) (.int .u64 (.ofNat 3)) = some (.int .u64 (.ofNat (a % 3))) := by
          simp only [aBin, ne_eq, not_true_eq_false, if_false]
          rw [if_neg (by intro h; cases h)]
          rfl
        have hb : bin2A P .rem ty (isConst x || isConst (.const (.int .u64 (.ofNat 3)))) (eval t x) (eval t (.const (.int .u64 (.ofNat 3)))) = some (.int .u64 (.ofNat (a % 3))) := by
          rw [hx]
          unfold bin2A
          simp only [eval]
          rw [hv]
          rfl
        simp only [prim, hb]
        rfl
      | negSucc a => exact h3.elim
    · exact h3.elim
  · exact h2.elim
theorem ccall_ok (c : Call) : KS P (ccall P c) (.call c) := by
  unfold ccall
  split
  · exact call_ok ‹_›
  · rename_i hc
    split
    · split
      · exact len_ok hc ‹_› ‹_› ‹_›
      · exact len1_ok hc ‹_›
    · exact bad_ok _
  · rename_i hc
    split
    · split
      · rename_i hs _
        obtain ⟨_, _, _, _, _, _, _, hes⟩ := aTy_slice hs
        exact append_ok hc ‹_› ‹_› ‹_› hs ‹_› hes
      · split
        · exact appendM_ok hc ‹_› ‹_› ‹_› ‹_› ‹_› ‹_›
        · exact bad_ok _
      · exact appendB_ok hc ‹_› ‹_› ‹_› ‹_› ‹_›
      · exact bad_ok _
    · exact bad_ok _
  · rename_i hc
    split
    · split
      · exact copy_ok hc ‹_› ‹_› ‹_›
      · exact bad_ok _
    · exact bad_ok _
  · rename_i hc
    split
    · exact max_ok hc ‹_›
    · exact bad_ok _
  · rename_i hc
    split
    · exact min_ok hc ‹_›
    · exact bad_ok _
  · exact bad_ok _
theorem cop_ok (op : Op) : KS P (cop P op) op := by
  unfold cop
  split
  · exact move_ok _
  · exact assign_ok _
  · exact pick_ok _ _ _
  · exact alloc_ok _
  · exact box_ok _ _
  · split
    · rename_i hty
      exact build_ok fun fl ev H z cs hz h => by simp only [prim, hty, hz, h]
    · rename_i hty
      exact build_ok fun fl ev H z cs hz h => by simp only [prim, hty, hz, h]
    · exact bad_ok _
  · split
    · exact buildSlice_ok ‹_›
    · exact bad_ok _
  · split
    · rename_i hty
      exact loadN_ok fun H p => by simp only [loadA, hty]
    · rename_i hty
      exact loadN_ok fun H p => by simp only [loadA, hty]
    · exact bad_ok _
    · rename_i h1 h2 h3
      refine load1_ok fun H p => ?_
      unfold loadA
      split
      · rename_i hty; exact absurd hty (h1 _ _)
      · rename_i hty; exact absurd hty (h2 _ _ _ _)
      · rename_i hty; exact absurd hty h3
      · rfl
  · exact store_ok _ _ _
  · exact nilCheck_ok _
  · split
    · rename_i h3
      obtain ⟨rfl, rfl⟩ := isR3_ok h3
      exact rem3_ok _ _ _
    · exact bin_ok _ _ _ _ _
  · exact pure1_ok fun fl ev H => rfl
  · split
    · exact cconvL_ok _ _ _
    · exact cconv_ok _ _ _
  · exact makeFunc_ok _ _ _
  · split
    · exact makeSlice_ok ‹_›
    · exact bad_ok _
  · exact slice_ok _ _ _ _ _
  · split
    · split
      · split
        · exact bad_ok _
        · rename_i hs
          exact fa_ok ‹_› ‹_› hs
      · exact bad_ok _
    · exact bad_ok _
  · exact pure1_ok fun fl ev H => rfl
  · split
    · exact ias_ok ‹_›
    · exact iaa_ok ‹_›
    · exact bad_ok _
  · exact pure2_ok fun fl ev H => rfl
  · exact pure1_ok fun fl ev H => by
      simp only [prim]
      cases ev _ <;> rfl
  · exact pure1_ok fun fl ev H => rfl
  · exact ccall_ok _
  · exact bad_ok _
end
end Go.Mach.J
