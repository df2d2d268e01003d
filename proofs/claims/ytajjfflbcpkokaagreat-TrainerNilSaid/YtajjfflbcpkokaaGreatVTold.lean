/- What came in, told avs lists and numbers, however deep. Definitions and laws; no condition. -/
import Derived.Test.YtajjfflbcpkokaaGreatVFlat
import Derived.OpenShut
namespace Go.Mach
open Go.RowKit Go.ChangeShapes Go.WideShapes
set_option linter.unusedVariables false
set_option linter.unusedSimpArgs false

def tyBytes : Ty → Nat
  | .int k => k.bits / 8
  | .bool => 1
  | .str => 16
  | .flt => 8
  | .cpx => 16
  | .slc _ => 24
  | .ref _ => 8
  | .unit => 0
  | .pair a b => tyBytes a + tyBytes b

def fsOk (P : Program) (f : TypeId → Ty → Bool) : List Field → Nat → Ty → Bool
  | [], _, _ => false
  | [fl], off, T => decide (fl.offset = off) && decide (P.cellsOf fl.type = T.w) && f fl.type T
  | fl :: r, off, .pair A B => decide (fl.offset = off) && decide (P.cellsOf fl.type = A.w) && f fl.type A && fsOk P f r (off + A.w) B
  | _, _, _ => false

def arrOk (P : Program) (f : TypeId → Ty → Bool) (e : TypeId) : Nat → Ty → Bool
  | 0, _ => false
  | 1, T => decide (P.cellsOf e = T.w) && f e T
  | m + 2, .pair A B => decide (P.cellsOf e = A.w) && f e A && arrOk P f e (m + 1) B
  | _, _ => false

/-- A type of the program is a type of the machine. -/
def tyOk (P : Program) : Nat → TypeId → Ty → Bool
  | 0, _, _ => false
  | n + 1, t, T => match P.underlying t with
    | some (.int k) => (match T with | .int k' => decide (k' = k) | _ => false)
    | some .bool => (match T with | .bool => true | _ => false)
    | some (.slice e) => (match T with | .slc E => decide (P.cellsOf e = E.w) && decide (0 < E.w) && decide (tyBytes E ≤ P.bytesOf e) && tyOk P n e E | _ => false)
    | some (.struct fs) => decide (P.cellsOf t = T.w) && fsOk P (tyOk P n) fs.toList 0 T
    | some (.array m e) => decide (P.cellsOf t = T.w) && arrOk P (tyOk P n) e m T
    | some .string => (match T with | .str => true | _ => false)
    | _ => false

/-- Numbers within their kind, lists no longer than can be. -/
def Fits : (T : Ty) → T.den → Prop
  | .int k, n => (Lit.int k n).wf = true
  | .bool, _ => True
  | .str, s => s.size ≤ reachBytes
  | .flt, _ => True
  | .cpx, _ => True
  | .slc E, l => l.length * tyBytes E ≤ reachBytes ∧ ∀ x ∈ l, Fits E x
  | .ref _, _ => True
  | .unit, _ => True
  | .pair a b, x => Fits a x.1 ∧ Fits b x.2

open Classical in
noncomputable def canonV (w : World) (v : Value) : Value := if VRel (ren0 w) v v then v else if emptyB v then empty0 else hole

theorem canon_self {w : World} {v : Value} (h : VRel (ren0 w) v v) : canonV w v = v := if_pos h
theorem blk_cells {w : World} {c : Array Value} {e : TypeId} {fz : Nat × Nat} : (blkOfObj w (.cells c e fz)).cells = c.toList.map (canonV w) := rfl

theorem cell_obj {w : World} {a : Addr} {v : Value} (h : w.cell? a = some v) : a.spot = none ∧ ∃ c e fz, w.heap[a.block]? = some (.cells c e fz) ∧ c[a.off]? = some v := by
  unfold World.cell? at h
  split at h
  · rename_i c e fz hg
    split at h
    · cases h
    · rename_i hs
      exact ⟨by simpa using hs, c, e, fz, hg, h⟩
  · cases h

theorem inB_cells {w : World} {o m : Nat} {c : Array Value} {e : TypeId} {fz : Nat × Nat} {cs : List Value} (hl : cs.length = m) (hm : 0 < m) (h : ∀ j, j < m → c[o + j]? = cs[j]?) : InB (blkOfObj w (.cells c e fz)).cells o m (cs.map (canonV w)) := by
  rw [blk_cells]
  have hb : o + m ≤ c.size := by
    have := h (m - 1) (by omega)
    rw [List.getElem?_eq_getElem (by omega)] at this
    have := (Array.getElem?_eq_some_iff.1 this).1
    omega
  refine ⟨by simpa using hb, ?_⟩
  apply List.ext_getElem?
  intro j
  rw [List.getElem?_take]
  by_cases hj : j < m
  · rw [if_pos hj, List.getElem?_drop, List.getElem?_map, List.getElem?_map, Array.getElem?_toList, h j hj]
  · rw [if_neg hj, List.getElem?_eq_none (by simp; omega)]

section
variable {H : Type} {enc : TypeId × Value → H} {P : Program} {w : World} {r : Reach} {base : Nat}

theorem weights_all {e : TypeId} : ∀ {l : List (DataW H)} {d : DataW H}, d ∈ l → ∀ n ∈ d.weights P e, n ∈ DataW.weightsAll P e l
  | _ :: l, d, hd, n, hn => by
    simp only [DataW.weightsAll, List.mem_append]
    rcases List.mem_cons.1 hd with rfl | hd
    · exact .inl hn
    · exact .inr (weights_all hd n hn)

/-- The machine's view of the world's blocks. -/
noncomputable abbrev FW (w : World) : Fz := fun b => blk? (heapOf w) b

theorem told_fs {f : TypeId → Ty → Bool} {fuel : Nat} {cs : List Value}
    (IH : ∀ (t : TypeId) (T : Ty) (cs : List Value) (x : DataW H × List MemPlace), f t T = true → DataW.trod enc P w 0 (fun _ => true) true fuel t cs = some x → (∀ q ∈ x.1.weights P t, q ≤ reachBytes) → ∃ y : T.den, RT (FW w) T y (cs.map (canonV w)) ∧ Fits T y) :
    ∀ (l : List Field) (off : Nat) (T : Ty), fsOk P f l off T = true → cs.length = off + T.w → (∀ fl ∈ l, ∃ x, DataW.trod enc P w 0 (fun _ => true) true fuel fl.type ((cs.drop fl.offset).take (P.cellsOf fl.type)) = some x ∧ ∀ q ∈ x.1.weights P fl.type, q ≤ reachBytes) →
      ∃ y : T.den, RT (FW w) T y ((cs.drop off).map (canonV w)) ∧ Fits T y
  | [], off, T, h, _, _ => by simp [fsOk] at h
  | [fl], off, T, h, hl, hx => by
    simp only [fsOk, Bool.and_eq_true, decide_eq_true_eq] at h
    obtain ⟨⟨h1, h2⟩, h3⟩ := h
    obtain ⟨x, k1, k2⟩ := hx fl List.mem_cons_self
    rw [h1, h2, List.take_of_length_le (by simp; omega)] at k1
    exact IH _ _ _ _ h3 k1 k2
  | fl :: g :: r, off, T, h, hl, hx => by
    cases T with
    | pair A B =>
      simp only [fsOk, Bool.and_eq_true, decide_eq_true_eq] at h
      obtain ⟨⟨⟨h1, h2⟩, h3⟩, h4⟩ := h
      obtain ⟨x, k1, k2⟩ := hx fl List.mem_cons_self
      rw [h1, h2] at k1
      obtain ⟨ya, a1, a2⟩ := IH _ _ _ _ h3 k1 k2
      have hl' : cs.length = off + A.w + B.w := by rw [hl]; show off + (A.w + B.w) = _; omega
      obtain ⟨yb, b1, b2⟩ := told_fs IH (g :: r) (off + A.w) B h4 hl' (fun q hq => hx q (List.mem_cons_of_mem _ hq))
      refine ⟨(ya, yb), ⟨_, _, ?_, a1, b1⟩, a2, b2⟩
      rw [← List.map_append, ← List.drop_drop, List.take_append_drop]
    | _ => simp [fsOk] at h

theorem told_arr {f : TypeId → Ty → Bool} {fuel : Nat} {cs : List Value} {e : TypeId}
    (IH : ∀ (t : TypeId) (T : Ty) (cs : List Value) (x : DataW H × List MemPlace), f t T = true → DataW.trod enc P w 0 (fun _ => true) true fuel t cs = some x → (∀ q ∈ x.1.weights P t, q ≤ reachBytes) → ∃ y : T.den, RT (FW w) T y (cs.map (canonV w)) ∧ Fits T y) :
    ∀ (m i : Nat) (T : Ty), arrOk P f e m T = true → cs.length = i * P.cellsOf e + T.w → (∀ j, i ≤ j → j < i + m → ∃ x, DataW.trod enc P w 0 (fun _ => true) true fuel e ((cs.drop (j * P.cellsOf e)).take (P.cellsOf e)) = some x ∧ ∀ q ∈ x.1.weights P e, q ≤ reachBytes) →
      ∃ y : T.den, RT (FW w) T y ((cs.drop (i * P.cellsOf e)).map (canonV w)) ∧ Fits T y
  | 0, i, T, h, _, _ => by simp [arrOk] at h
  | 1, i, T, h, hl, hx => by
    simp only [arrOk, Bool.and_eq_true, decide_eq_true_eq] at h
    obtain ⟨h2, h3⟩ := h
    obtain ⟨x, k1, k2⟩ := hx i (Nat.le_refl _) (by omega)
    rw [List.take_of_length_le (by simp; omega)] at k1
    exact IH _ _ _ _ h3 k1 k2
  | m + 2, i, T, h, hl, hx => by
    cases T with
    | pair A B =>
      simp only [arrOk, Bool.and_eq_true, decide_eq_true_eq] at h
      obtain ⟨⟨h2, h3⟩, h4⟩ := h
      obtain ⟨x, k1, k2⟩ := hx i (Nat.le_refl _) (by omega)
      obtain ⟨ya, a1, a2⟩ := IH _ _ _ _ h3 k1 k2
      have hl' : cs.length = (i + 1) * P.cellsOf e + B.w := by rw [hl, Nat.add_mul, Nat.one_mul, h2]; show i * A.w + (A.w + B.w) = _; omega
      obtain ⟨yb, b1, b2⟩ := told_arr IH (m + 1) (i + 1) B h4 hl' (fun j hj hj2 => hx j (by omega) (by omega))
      refine ⟨(ya, yb), ⟨_, _, ?_, a1, b1⟩, a2, b2⟩
      rw [← List.map_append, Nat.add_mul, Nat.one_mul, ← List.drop_drop, List.take_append_drop]
    | _ => simp [arrOk] at h

theorem told : ∀ (n : Nat) (t : TypeId) (T : Ty) (fuel : Nat) (cs : List Value) (x : DataW H × List MemPlace), tyOk P n t T = true → DataW.trod enc P w 0 (fun _ => true) true fuel t cs = some x → (∀ q ∈ x.1.weights P t, q ≤ reachBytes) → ∃ y : T.den, RT (FW w) T y (cs.map (canonV w)) ∧ Fits T y
  | 0, t, T, fuel, cs, x, h, _, _ => by cases h
  | n + 1, t, T, fuel, cs, x, h, hx, hs => by
    unfold tyOk at h
    split at h
    · rename_i k hk
      cases T with
      | int k' =>
        simp only [decide_eq_true_eq] at h
        subst h
        obtain ⟨m, rfl, _, hw⟩ := DataW.trod_int hk hx
        exact ⟨m, by show [canonV w _] = _; rw [canon_self (.int _ _)], hw⟩
      | _ => cases h
    · rename_i hk
      cases T with
      | bool =>
        obtain ⟨b, rfl, _⟩ := DataW.trod_bool hk hx
        exact ⟨b, by show [canonV w _] = _; rw [canon_self (.bool _)], trivial⟩
      | _ => cases h
    · rename_i e hk
      cases T with
      | slc E =>
        simp only [Bool.and_eq_true, decide_eq_true_eq] at h
        obtain ⟨⟨⟨hc, hw0⟩, hby⟩, hE⟩ := h
        rcases DataW.trod_slice hk hx with ⟨rfl, rfl⟩ | ⟨a, len, cap, elems, rest, m, _, rfl, rfl, _, hl, hm, hlen, hel, hsp, _⟩
        · refine ⟨[], ⟨none, 0, ?_, Nat.le_refl _, .inl rfl⟩, by simp, fun x hx => by cases hx⟩
          show [canonV w _] = _
          rw [canon_self (.nilslice _ _)]
          rfl
        · obtain ⟨hrl, hr⟩ := hsp rfl
          -- the first cell, where there is one
          have first : 0 < cap → a.spot = none ∧ ∃ c e fz, w.heap[a.block]? = some (.cells c e fz) := by
            intro h0
            have key : ∃ ds, w.cells? 0 a (P.cellsOf e) = some ds := by
              by_cases hn0 : 0 < len
              · have := hel 0 hn0
                rw [List.getElem?_eq_getElem (by omega), Option.bind_eq_some_iff] at this
                obtain ⟨ds, k, _⟩ := this
                exact ⟨ds, by simpa [Addr.add] using k⟩
              · have hl0 : len = 0 := by omega
                have := hr 0 (by omega)
                rw [List.getElem?_eq_getElem (by omega), Option.bind_eq_some_iff] at this
                obtain ⟨ds, k, _⟩ := this
                rw [hl0] at k
                exact ⟨ds, by simpa [Addr.add] using k⟩
            obtain ⟨ds, k⟩ := key
            obtain ⟨_, k1, k2⟩ := World.cells?_some k
            have := k2 0 (by omega)
            rw [List.getElem?_eq_getElem (by omega), show a.add 0 = a by unfold Addr.add; rw [if_pos rfl]] at this
            obtain ⟨q1, c, e2, fz, q2, _⟩ := cell_obj this
            exact ⟨q1, c, e2, fz, q2⟩
          -- the elements
          have each : ∀ i : Fin len, ∃ (y : E.den) (ds : List Value), w.cells? 0 (a.add (i.1 * E.w)) E.w = some ds ∧ RT (FW w) E y (ds.map (canonV w)) ∧ Fits E y := by
            intro i
            have := hel i.1 i.2
            rw [List.getElem?_eq_getElem (by rw [hlen]; exact i.2), Option.bind_eq_some_iff, hc] at this
            obtain ⟨ds, k1, k2⟩ := this
            obtain ⟨y, y1, y2⟩ := told n e E m ds _ hE k2 (fun q hq => hs q (by
              simp only [DataW.weights, hk]
              refine List.mem_cons_of_mem _ (List.mem_append_left _ (weights_all ?_ q hq))
              exact List.mem_map_of_mem (List.getElem_mem _)))
            exact ⟨y, ds, k1, y1, y2⟩
          obtain ⟨f, hf⟩ := Classical.axiomOfChoice each
          have hfl : (List.ofFn f).length = len := List.length_ofFn
          have hbig : (List.ofFn f).length * tyBytes E ≤ reachBytes := by
            rw [hfl]
            have h := hs ((elems.length + rest.length) * P.bytesOf e) (by
              simp only [DataW.weights, hk, List.length_map]; exact List.mem_cons_self)
            have h2 : len * tyBytes E ≤ (elems.length + rest.length) * P.bytesOf e := Nat.mul_le_mul (by omega) hby
            omega
          have hfit : ∀ x ∈ List.ofFn f, Fits E x := by
            intro x hx
            obtain ⟨i, rfl⟩ := List.mem_ofFn.1 hx
            obtain ⟨_, _, _, h⟩ := hf i
            exact h
          by_cases hcap : 0 < cap
          · obtain ⟨hsp0, c, e2, fz, hg⟩ := first hcap
            obtain ⟨b, o, s⟩ := a
            simp only at hsp0 hg
            subst hsp0
            have hv : VRel (ren0 w) (.slice (some ⟨b, o, none⟩) len cap) (.slice (some ⟨b, o, none⟩) len cap) := vrel_slice (Array.getElem?_eq_some_iff.1 hg).1 hl
            refine ⟨List.ofFn f, ⟨some ⟨b, o, none⟩, cap, ?_, by rw [hfl]; exact hl, .inr ⟨b, o, _, rfl, heapOf_get hg, .inl rfl, ?_⟩⟩, hbig, hfit⟩
            · show [canonV w _] = _
              rw [canon_self hv, hfl]
            · intro i x hi
              rw [List.getElem?_ofFn] at hi
              split at hi
              · rename_i hil
                cases hi
                obtain ⟨ds, k1, k2, _⟩ := hf ⟨i, hil⟩
                obtain ⟨_, k3, k4⟩ := World.cells?_some k1
                refine ⟨_, inB_cells k3 hw0 fun j hj => ?_, k2⟩
                have h4 := k4 j hj
                rw [List.getElem?_eq_getElem (by omega)] at h4 ⊢
                obtain ⟨_, c2, e3, fz2, q1, q2⟩ := cell_obj h4
                have eb : (((⟨b, o, none⟩ : Addr).add (i * E.w)).add j).block = b := by rw [block_add, block_add]
                have eo : (((⟨b, o, none⟩ : Addr).add (i * E.w)).add j).off = o + i * E.w + j := by
                  unfold Addr.add
                  split <;> split <;> simp_all
                rw [eb, hg] at q1
                cases q1
                rw [eo] at q2
                exact q2
              · cases hi
          · have hc0 : cap = 0 := by omega
            have hl0 : len = 0 := by omega
            have hnil : List.ofFn f = [] := List.eq_nil_of_length_eq_zero (by omega)
            subst hc0
            rw [hnil] at hbig hfit
            by_cases hv : VRel (ren0 w) (.slice (some a) len 0) (.slice (some a) len 0)
            · refine ⟨[], ⟨some a, 0, ?_, Nat.le_refl _, .inl rfl⟩, hbig, hfit⟩
              show [canonV w _] = _
              rw [canon_self hv, hl0]
              rfl
            · refine ⟨[], ⟨some ⟨0, 0, none⟩, 0, ?_, Nat.le_refl _, .inl rfl⟩, hbig, hfit⟩
              show [canonV w _] = _
              unfold canonV
              rw [if_neg hv, hl0]
              rfl
      | _ => cases h
    · rename_i fs hk
      simp only [Bool.and_eq_true, decide_eq_true_eq] at h
      obtain ⟨hc, hfs⟩ := h
      obtain ⟨xs, m, _, ex, hcl, hxl, hxs⟩ := DataW.trod_struct hk hx
      have := told_fs (cs := cs) (fuel := m) (fun t T cs x h1 h2 h3 => told n t T m cs x h1 h2 h3) fs.toList 0 T hfs (by omega) (by
        intro fl hfl
        obtain ⟨i, hi, e⟩ := List.getElem_of_mem hfl
        have hget : fs[i]? = some fl := by
          rw [← Array.getElem?_toList, List.getElem?_eq_getElem hi, e]
        have := hxs i fl hget
        have hlt : i < xs.length := by rw [hxl]; simpa using hi
        rw [List.getElem?_eq_getElem hlt] at this
        refine ⟨_, this, fun q hq => hs q ?_⟩
        rw [ex]
        simp only [DataW.weights, hk]
        refine DataW.weights_mem_each (j := i) (t := fl.type) (d := xs[i].1) ?_ ?_ q hq
        · rw [List.getElem?_map, Array.getElem?_toList, hget]; rfl
        · rw [List.getElem?_map, List.getElem?_eq_getElem hlt]; rfl)
      simpa using this
    · rename_i m e hk
      simp only [Bool.and_eq_true, decide_eq_true_eq] at h
      obtain ⟨hc, hfs⟩ := h
      obtain ⟨xs, fu, _, ex, hcl, hxl, hxs⟩ := DataW.trod_array hk hx
      have := told_arr (cs := cs) (fuel := fu) (fun t T cs x h1 h2 h3 => told n t T fu cs x h1 h2 h3) m 0 T hfs (by omega) (by
        intro i _ hi
        have := hxs i (by omega)
        have hlt : i < xs.length := by omega
        rw [List.getElem?_eq_getElem hlt] at this
        refine ⟨_, this, fun q hq => hs q ?_⟩
        rw [ex]
        simp only [DataW.weights, hk]
        exact weights_all (List.mem_map_of_mem (List.getElem_mem hlt)) q hq)
      simpa using this
    · rename_i hk
      cases T with
      | str =>
        obtain ⟨b, rfl, ex, _⟩ := DataW.trod_string hk hx
        refine ⟨b, by show [canonV w _] = _; rw [canon_self (.string _)], ?_⟩
        show b.size ≤ reachBytes
        have := hs b.data.toList.length (by rw [ex]; simp [DataW.weights])
        simpa using this
      | _ => cases h
    · cases h

/-- A slice that came in, of whatever. -/
structure Told (w : World) (E : Ty) (l : List E.den) (v : Value) : Prop where
  rl : RL (ctx0 (heapOf w) noHs) (.fz false E l) v
  rel : VRel (ren0 w) v v
  fits : Fits (.slc E) l
theorem open_told {t e : TypeId} {n : Nat} {E : Ty} {v : Value} {d : DataW H} {ps : List MemPlace} {ts : List TypeId} {ds : List (DataW H)} {j : Nat} (ht : P.underlying t = some (.slice e)) (hE : tyOk P n t (.slc E) = true) (hok : Value.okWide P w r base t v) (hd : DataW.Trod enc P w 0 (fun _ => true) true t v d ps)
    (hsz : (DataW.weightsEach P ts ds).all (· ≤ reachBytes) = true) (hj : ts[j]? = some t) (hdj : ds[j]? = some d) : ∃ l : List E.den, Told w E l v := by
  obtain ⟨a, len, cap, rfl⟩ := okWide_slice ht hok
  obtain ⟨fuel, hf⟩ := hd
  have hs : ∀ n ∈ d.weights P t, n ≤ reachBytes := fun n hn => by
    have := List.all_eq_true.1 hsz _ (DataW.weights_mem_each hj hdj n hn)
    simpa using this
  have hv : VRel (ren0 w) (.slice a len cap) (.slice a len cap) := by
    rcases DataW.trod_slice ht hf with ⟨e1, _⟩ | ⟨a', len', cap', _, _, _, _, e1, _, _, hl, _⟩
    · cases e1; exact .nilslice _ _
    · cases e1
      obtain ⟨b, o, s⟩ := a'
      obtain ⟨h1, h2⟩ := slice_home ht hok
      simp only at h1 h2
      subst h1
      exact vrel_slice h2 hl
  obtain ⟨y, ⟨a2, c2, e2, hr⟩, y2⟩ := told n t (.slc E) fuel _ _ hE hf hs
  refine ⟨y, ⟨a2, c2, ?_, ?_⟩, hv, y2⟩
  · have : [canonV w (.slice a len cap)] = [.slice a2 y.length c2] := e2
    rw [canon_self hv] at this
    exact List.head_eq_of_cons_eq this
  · rw [cutF_false]
    exact hr

/-! ### Structs that came in, of whatever -/

def leavesB : Ty → List Bool
  | .slc _ => [true]
  | .unit => []
  | .pair a b => leavesB a ++ leavesB b
  | _ => [false]

theorem canon_ne {v : Value} (h1 : canonV w v ≠ hole) (h2 : canonV w v ≠ empty0) : VRel (ren0 w) v v := by
  unfold canonV at h1 h2
  split at h1
  · assumption
  · rename_i h
    rw [if_neg h] at h2
    split at h1
    · rename_i e; rw [if_pos e] at h2; exact absurd rfl h2
    · exact absurd rfl h1


theorem map_one {α β : Type} {f : α → β} {l : List α} {b : β} (h : l.map f = [b]) : ∃ a, l = [a] ∧ f a = b := by
  match l, h with
  | [a], h => exact ⟨a, rfl, by simpa using h⟩
  | _ :: _ :: _, h => simp at h
theorem any_rel : ∀ (T : Ty) (y : T.den) (cs : List Value), RT (FW w) T y (cs.map (canonV w)) → (∀ (i : Nat) (v : Value), (leavesB T)[i]? = some true → cs[i]? = some v → (∃ a n c, v = .slice a n c) → VRel (ren0 w) v v) → (leavesB T).length = cs.length ∧ ∀ v ∈ cs, VRel (ren0 w) v v
  | .int k, n, cs, h, _ => by
    have h : cs.map (canonV w) = [.int k n] := h
    obtain ⟨v, rfl, hc⟩ := map_one h
    exact ⟨rfl, fun x hx => by rw [List.mem_singleton.1 hx]; exact canon_ne (by rw [hc]; intro e; cases e) (by rw [hc]; intro e; cases e)⟩
  | .bool, n, cs, h, _ => by
    have h : cs.map (canonV w) = [.bool n] := h
    obtain ⟨v, rfl, hc⟩ := map_one h
    exact ⟨rfl, fun x hx => by rw [List.mem_singleton.1 hx]; exact canon_ne (by rw [hc]; intro e; cases e) (by rw [hc]; intro e; cases e)⟩
  | .str, n, cs, h, _ => by
    have h : cs.map (canonV w) = [.string n] := h
    obtain ⟨v, rfl, hc⟩ := map_one h
    exact ⟨rfl, fun x hx => by rw [List.mem_singleton.1 hx]; exact canon_ne (by rw [hc]; intro e; cases e) (by rw [hc]; intro e; cases e)⟩
  | .flt, n, cs, h, _ => by
    have h : cs.map (canonV w) = [.float .f64 n] := h
    obtain ⟨v, rfl, hc⟩ := map_one h
    exact ⟨rfl, fun x hx => by rw [List.mem_singleton.1 hx]; exact canon_ne (by rw [hc]; intro e; cases e) (by rw [hc]; intro e; cases e)⟩
  | .cpx, n, cs, h, _ => by
    have h : cs.map (canonV w) = [.complex .f64 n.1 n.2] := h
    obtain ⟨v, rfl, hc⟩ := map_one h
    exact ⟨rfl, fun x hx => by rw [List.mem_singleton.1 hx]; exact canon_ne (by rw [hc]; intro e; cases e) (by rw [hc]; intro e; cases e)⟩
  | .ref t, l, cs, ⟨p, h, _⟩, _ => by
    obtain ⟨v, rfl, hc⟩ := map_one h
    exact ⟨rfl, fun x hx => by rw [List.mem_singleton.1 hx]; exact canon_ne (by rw [hc]; intro e; cases e) (by rw [hc]; intro e; cases e)⟩
  | .unit, n, cs, h, _ => by
    have h : cs.map (canonV w) = [] := h
    match cs, h with
    | [], h => exact ⟨rfl, fun x hx => by cases hx⟩
  | .slc t, l, cs, ⟨a, c, h, _⟩, hs => by
    obtain ⟨v, rfl, hc⟩ := map_one h
    refine ⟨rfl, fun x hx => ?_⟩
    rw [List.mem_singleton.1 hx]
    by_cases hv : VRel (ren0 w) v v
    · exact hv
    · unfold canonV at hc
      rw [if_neg hv] at hc
      split at hc
      · rename_i e
        obtain ⟨a', rfl⟩ := emptyB_some e
        exact hs 0 _ rfl rfl ⟨_, _, _, rfl⟩
      · cases hc
  | .pair a b, y, cs, ⟨c1, c2, h, h1, h2⟩, hs => by
    obtain ⟨d1, d2, rfl, e1, e2⟩ := List.map_eq_append_iff.1 h
    subst e1; subst e2
    obtain ⟨k1, k2⟩ := any_rel a y.1 d1 h1 (fun i v hi hv => hs i v (by
      show (leavesB a ++ leavesB b)[i]? = _
      rw [List.getElem?_append_left (List.getElem?_eq_some_iff.1 hi).1]; exact hi) (by rw [List.getElem?_append_left (List.getElem?_eq_some_iff.1 hv).1]; exact hv))
    obtain ⟨k3, k4⟩ := any_rel b y.2 d2 h2 (fun i v hi hv => hs (d1.length + i) v (by
      show (leavesB a ++ leavesB b)[d1.length + i]? = _
      rw [← k1, List.getElem?_append_right (by omega)]; simpa using hi) (by rw [List.getElem?_append_right (by omega)]; simpa using hv))
    refine ⟨by show (leavesB a ++ leavesB b).length = _; simp [k1, k3], fun v hv => ?_⟩
    rcases List.mem_append.1 hv with hv | hv
    · exact k2 v hv
    · exact k4 v hv

def isSlcB (P : Program) (t : TypeId) : Bool :=
  match P.underlying t with
  | some (.slice _) => true
  | _ => false

/-- A struct that came in. -/
structure ToldA (w : World) (T : Ty) (y : T.den) (cs : List Value) : Prop where
  rl : All2 (RL (ctx0 (heapOf w) noHs)) (Go.Mach.enc false T y) cs
  rel : VRel (ren0 w) (.agg cs.toArray) (.agg cs.toArray)
  fits : Fits T y

theorem open_any {ts : List TypeId} {ds : List (DataW H)} {j : Nat} {t : TypeId} {fs : Array Field} {n : Nat} {T : Ty} {cts : List TypeId} {v : Value} {d : DataW H} {ps : List MemPlace} (ht : P.underlying t = some (.struct fs)) (hT : tyOk P n t T = true)
    (hts : P.cellTypes P.depth t = some cts) (hb : cts.map (isSlcB P) = leavesB T) (hok : Value.okWide P w r base t v) (hd : DataW.Trod enc P w 0 (fun _ => true) true t v d ps)
    (hsz : (DataW.weightsEach P ts ds).all (· ≤ reachBytes) = true) (hj : ts[j]? = some t) (hdj : ds[j]? = some d) : ∃ (y : T.den) (cs : List Value), v = .agg cs.toArray ∧ ToldA w T y cs := by
  obtain ⟨cs, rfl, hsz'⟩ := okWide_struct ht hok
  obtain ⟨fuel, hf⟩ := hd
  have hs : ∀ n ∈ d.weights P t, n ≤ reachBytes := fun n hn => by
    have := List.all_eq_true.1 hsz _ (DataW.weights_mem_each hj hdj n hn)
    simpa using this
  obtain ⟨y, h1, h2⟩ := told n t T fuel cs.toList _ hT hf hs
  have hrel : ∀ v ∈ cs.toList, VRel (ren0 w) v v := by
    refine (any_rel T y cs.toList h1 ?_).2
    rintro i v hi hv ⟨a, m, c, rfl⟩
    rw [← hb, List.getElem?_map] at hi
    cases hu : cts[i]? with
    | none => rw [hu] at hi; cases hi
    | some u =>
      rw [hu] at hi
      have hi : isSlcB P u = true := by simpa using hi
      have hv' : cs[i]? = some (.slice a m c) := by rw [← Array.getElem?_toList]; exact hv
      have hcell := agg_cell ht hts hok hu hv'
      cases a with
      | none => exact .nilslice _ _
      | some a =>
        unfold isSlcB at hi
        split at hi
        · rename_i e he
          obtain ⟨b, o, s⟩ := a
          obtain ⟨g1, g2⟩ := cell_home he hcell
          simp only at g1 g2
          subst g1
          refine vrel_slice g2 ?_
          simp only [Cell.okWide, he, Cell.ok] at hcell
          first | exact hcell.1 | omega
        · cases hi
  refine ⟨y, cs.toList, by simp, ?_, agg_VRel hrel, h2⟩
  have e : cs.toList.map (canonV w) = cs.toList := by
    conv => rhs; rw [← List.map_id cs.toList]
    exact List.map_congr_left fun v hv => canon_self (hrel v hv)
  rw [e] at h1
  refine RT.enc (c := ctx0 (heapOf w) noHs) (o := false) T y _ ?_
  rw [cutF_false]
  exact h1

end
end Go.Mach
