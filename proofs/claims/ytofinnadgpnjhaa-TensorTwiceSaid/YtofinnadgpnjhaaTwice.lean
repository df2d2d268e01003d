/- The law TensorTwice, plainly. No condition. -/
import Derived.Test.YtofinnadgpnjhaaChance
import Derived.Test.YtofinnadgpnjhaaVArg
namespace Go.Proofs.Ytofinnadgpnjhaa
open Go.Mach Go.RowKit
set_option maxRecDepth 100000
set_option linter.unusedVariables false
set_option linter.unusedSimpArgs false

theorem contains8_v {l : List Int} {v : Int} {Q : Bool → Prop} (hl : l.length ≤ 1000000000000) (h : Q (decide (v ∈ l))) : slices_Contains_int8_int8 l v Q := by
  refine Loop.range (B := slices_Index_int8_int8_n26_B l v (l.length : Int) (fun _ => Q (decide ((0 : Int) ≤ -1))) (fun y => Q (decide (0 ≤ y)))) l.length (fun i => (i : Int)) (fun i => ∀ j, j < i → v ≠ l.getD j 0) (fun j hj => absurd hj (by omega)) ?_ ?_
  · intro i hi hI X hX
    unfold slices_Index_int8_int8_n26_B
    rw [if_pos (by simpa using hi)]
    refine ⟨by omega, ?_⟩
    simp only [Int.toNat_natCast]
    have hget : l.getD i 0 = l[i] := by rw [List.getD_eq_getElem?_getD, List.getElem?_eq_getElem hi]; rfl
    by_cases hv : v = l.getD i 0
    · rw [if_pos (by simpa using hv)]
      have : decide (v ∈ l) = true := by
        simp only [decide_eq_true_eq]
        rw [hv, hget]
        exact List.getElem_mem hi
      rw [this] at h
      rw [decide_eq_true (by omega : (0 : Int) ≤ (i : Int))]
      exact h
    · rw [if_neg (by simpa using hv), wrap_i64 _ (by omega) (by omega)]
      refine hX fun j hj => ?_
      by_cases hji : j = i
      · subst hji; exact hv
      · exact hI j (by omega)
  · intro hI X
    unfold slices_Index_int8_int8_n26_B
    rw [if_neg (by simp)]
    have : decide (v ∈ l) = false := by
      simp only [decide_eq_false_iff_not]
      intro hm
      obtain ⟨j, hj, e⟩ := List.getElem_of_mem hm
      apply hI j hj
      rw [List.getD_eq_getElem?_getD, List.getElem?_eq_getElem hj, ← e]; rfl
    rw [this] at h
    exact h

def mayF (a : List Int × Int × List Int) : Bool := ((decide (0 < szF a.1) && ((a.2.2.length : Int) == szF a.1)) && expF a.2.1 64) && !decide (-128 ∈ a.2.2)
theorem mayT_v {a : List Int × Int × List Int} {Q : Bool → Prop} (h : Q (mayF a)) : tensor_May a Q := by
  refine may_v ?_
  have e3 : ∀ v, (v = true → a.2.2.length ≤ 1000000000000) → (Q (v && !decide (-128 ∈ a.2.2))) → jn (fun (v8 : Bool) => Q v8) (fun J9 => if v = true then slices_Contains_int8_int8 a.2.2 (-128) (fun (r10 : Bool) => J9 (!r10)) else J9 false) := by
    intro v hl hv
    cases v with
    | true => exact contains8_v (Q := fun r => Q (!r)) (hl rfl) hv
    | false => exact hv
  have e2 : ∀ v, (v = true → a.2.2.length ≤ 1000000000000) → (Q ((v && expF a.2.1 64) && !decide (-128 ∈ a.2.2))) → jn (fun (v5 : Bool) => jn (fun (v8 : Bool) => Q v8) (fun J9 => if v5 = true then slices_Contains_int8_int8 a.2.2 (-128) (fun (r10 : Bool) => J9 (!r10)) else J9 false)) (fun J6 => if v = true then tensor_exp a.2.1 64 (fun (r7 : Bool) => J6 r7) else J6 false) := by
    intro v hl hv
    cases v with
    | true => exact e3 _ (fun _ => hl rfl) hv
    | false => exact e3 false (fun e => by cases e) hv
  have hle := szF_le a.1
  unfold mayF at h
  cases hb : decide (0 < szF a.1) with
  | true =>
    rw [hb] at h
    refine size_v (Q := fun r4 => jn (fun (v2 : Bool) => jn (fun (v5 : Bool) => jn (fun (v8 : Bool) => Q v8) (fun J9 => if v5 = true then slices_Contains_int8_int8 a.2.2 (-128) (fun (r10 : Bool) => J9 (!r10)) else J9 false)) (fun J6 => if v2 = true then tensor_exp a.2.1 64 (fun (r7 : Bool) => J6 r7) else J6 false)) (fun J3 => J3 ((a.2.2.length : Int) == r4))) (e2 _ (fun e => ?_) h)
    have : (a.2.2.length : Int) = szF a.1 := by simpa using e
    omega
  | false =>
    rw [hb] at h
    exact e2 false (fun e => by cases e) h

theorem mayF_inv {a : List Int × Int × List Int} (h : mayF a = true) : mayAccF a = true ∧ -64 ≤ a.2.1 ∧ a.2.1 ≤ 64 ∧ -128 ∉ a.2.2 := by
  unfold mayF at h
  simp only [Bool.and_eq_true, decide_eq_true_eq, beq_iff_eq, Bool.not_eq_true', decide_eq_false_iff_not] at h
  obtain ⟨⟨⟨h1, h2⟩, h3⟩, h4⟩ := h
  unfold expF at h3
  rw [wrap_i64 (0 - 64) (by omega) (by omega)] at h3
  simp only [Bool.and_eq_true, decide_eq_true_eq] at h3
  refine ⟨?_, by omega, by omega, h4⟩
  unfold mayAccF expF
  rw [wrap_i64 (0 - 128) (by omega) (by omega)]
  simp only [Bool.and_eq_true, decide_eq_true_eq, beq_iff_eq]
  omega

theorem bits_small : ∀ i : Fin 255, bitF (IntKind.i64.wrap ((i.1 : Int) - 127)) ≤ 7 := by decide +kernel
theorem bits_le7 {x : Int} (h1 : -127 ≤ x) (h2 : x ≤ 127) : bitF (IntKind.i64.wrap x) ≤ 7 := by
  have := bits_small ⟨(x + 127).toNat, by omega⟩
  simp only at this
  rw [show (((x + 127).toNat : Nat) : Int) - 127 = x by omega] at this
  exact this
theorem wideF_le7 {l : List Int} (h : ∀ x ∈ l, -127 ≤ x ∧ x ≤ 127) : wideF l ≤ 7 := by
  have : ∀ (l : List Int) (m : Int), (∀ x ∈ l, -127 ≤ x ∧ x ≤ 127) → m ≤ 7 → l.foldl (fun m x => greater m (bitF (IntKind.i64.wrap x))) m ≤ 7 := by
    intro l
    induction l with
    | nil => exact fun m _ h => h
    | cons x l ih =>
      intro m hx hm
      have hb := bits_le7 (hx x (List.mem_cons_self ..)).1 (hx x (List.mem_cons_self ..)).2
      refine ih _ (fun y hy => hx y (List.mem_cons_of_mem _ hy)) ?_
      show greater m _ ≤ 7
      unfold greater
      split <;> assumption
  exact this l 0 h (by omega)
theorem topF8 : topF 8 = 127 := by decide +kernel
theorem cell_id {l : List Int} {s t : Int} {i : Nat} (h : -127 ≤ l.getD i 0 ∧ l.getD i 0 ≤ 127) : cellF 8 s t 0 l i = l.getD i 0 := by
  unfold cellF
  rw [chF_zero]
  unfold clF
  rw [topF8, wrap_i64 (l.getD i 0) (by omega) (by omega), valF_id (a := l.getD i 0) (by omega) (by omega), valF_id (a := l.getD i 0) (by omega) (by omega), wrap_i64 (0 - 127) (by omega) (by omega)]
  have : greater (0 - 127) (smaller (l.getD i 0) 127) = l.getD i 0 := by
    unfold greater smaller
    split <;> split <;> omega
  rw [this, wrap_i8 _ (by omega) (by omega)]
theorem dataF_id {l : List Int} {s t : Int} (h : ∀ x ∈ l, -127 ≤ x ∧ x ≤ 127) : dataF 8 s t 0 l = l := by
  refine List.ext_getElem dataF_len fun i h1 h2 => ?_
  have e1 := dataF_get (b := 8) (s := s) (t := t) (sh := 0) (l := l) h2
  have e3 : l.getD i 0 = l[i] := by rw [List.getD_eq_getElem?_getD, List.getElem?_eq_getElem h2]; rfl
  rw [cell_id (by rw [e3]; exact h _ (List.getElem_mem h2)), e3, List.getD_eq_getElem?_getD, List.getElem?_eq_getElem h1] at e1
  exact e1

theorem small_id {a : List Int × Int × List Int} {s t : Int} (hm : mayF a = true) (h : ∀ x ∈ a.2.2, -128 ≤ x ∧ x ≤ 127) : smallF a 8 s t = (a, 0) ∧ widthF a ≤ 7 ∧ mayAccF a = true := by
  obtain ⟨m1, m2, m3, m4⟩ := mayF_inv hm
  have h' : ∀ x ∈ a.2.2, -127 ≤ x ∧ x ≤ 127 := fun x hx => by
    have := h x hx
    have : x ≠ -128 := fun e => m4 (e ▸ hx)
    omega
  have hw := wideF_le7 h'
  have hr := wideF_rng a.2.2
  have ew : widthF a = wideF a.2.2 := by unfold widthF; rw [m1]; rfl
  have es : shiftF a 8 = 0 := by
    unfold shiftF
    rw [ew, wrap_i64 (8 - 1) (by omega) (by omega), wrap_i64 _ (by omega) (by omega)]
    unfold greater
    split <;> omega
  refine ⟨?_, by rw [ew]; exact hw, m1⟩
  unfold smallF
  rw [m1, es, Int.add_zero, wrap_i64 a.2.1 (by omega) (by omega), dataF_id h']
  have : expF a.2.1 64 = true := by
    unfold expF
    rw [wrap_i64 (0 - 64) (by omega) (by omega)]
    simp only [Bool.and_eq_true, decide_eq_true_eq]
    omega
  rw [this]
  rfl

theorem take_snoc {l : List Int} {i : Nat} (h : i < l.length) : l.take i ++ [l.getD i 0] = l.take (i + 1) := by
  rw [List.take_add_one, List.getD_eq_getElem?_getD, List.getElem?_eq_getElem h]
  rfl

theorem twice_law {a : List Int × Int × List Int} {s t : Int} {Q : Bool → Prop} (h8 : ∀ x ∈ a.2.2, -128 ≤ x ∧ x ≤ 127) (hQ : Q true) : pedagoguelaw8_TensorTwice a s t Q := by
  unfold pedagoguelaw8_TensorTwice
  refine mayT_v ?_
  show (if ((!(mayF a)) || (decide (600 < (a.2.2.length : Int)))) = true then _ else _)
  by_cases e : ((!(mayF a)) || (decide (600 < (a.2.2.length : Int)))) = true
  · rw [if_pos e]; exact awake_v hQ
  · rw [if_neg e]
    simp only [Bool.or_eq_true, Bool.not_eq_true', decide_eq_true_eq, not_or, Bool.not_eq_false] at e
    obtain ⟨hm, hl⟩ := e
    obtain ⟨k1, k2, k3⟩ := @small_id a s t hm h8
    obtain ⟨_, _, _, kl, _⟩ := mayAccF_len k3
    refine Loop.range (f := fun i => ((i : Int), a.2.2.take i)) a.2.2.length (fun _ => True) trivial ?_ ?_
    · intro i hi _ X hX
      unfold pedagoguelaw8_TensorTwice_n122_B
      rw [if_pos (by simpa using hi)]
      have hb := h8 (a.2.2.getD i 0) (by rw [List.getD_eq_getElem?_getD, List.getElem?_eq_getElem hi]; exact List.getElem_mem hi)
      refine ⟨by simp only []; omega, ?_, ?_⟩
      · simp only [List.length_take, List.length_singleton]
        omega
      · simp only [Int.toNat_natCast]
        rw [wrap_i64 ((i : Int) + 1) (by omega) (by omega), wrap_i32 _ (by omega) (by omega), take_snoc hi]
        exact hX trivial
    · intro _ X
      unfold pedagoguelaw8_TensorTwice_n122_B
      rw [if_neg (by simp)]
      simp only [List.take_length]
      refine small_v (a := a) ?_
      rw [k1]
      refine same_v (a := a) (b := a) (by omega) (by omega) ?_
      rw [decide_eq_true rfl]
      refine width_v (a := a) ?_
      rw [decide_eq_true k2]
      refine mayAcc_v (a := a) ?_
      rw [k3]
      exact awake_v hQ

theorem i8_rng {n : Int} (h : (Lit.int .i8 n).wf = true) : -128 ≤ n ∧ n ≤ 127 := by
  have := wf_rng h
  simpa [IntKind.min, IntKind.max, IntKind.bits, IntKind.signed] using this

theorem twice_walk {a0 a2 : Option Addr} {l0 c0 l2 c2 : Nat} {z0 z2 : List Int} {n s t : Int} {w : World} (t0 : RowH .i64 w a0 l0 c0 z0) (t2 : RowH .i8 w a2 l2 c2 z2) :
    Calls Try.prog 6 #[.agg #[.slice a0 l0 c0, .int .i64 n, .slice a2 l2 c2], .int .u64 s, .int .u64 t] w fun e w' => e = .returned (.bool true) ∧ Below w.heap.size w w' :=
  law_calls (azz := [.agg #[.slice a0 l0 c0, .int .i64 n, .slice a2 l2 c2], .int .u64 s, .int .u64 t]) (by kernel_rfl)
    (pedagoguelaw8_TensorTwice_snd ((z0.take l0, n, z2.take l2, ()), s, t, ()) _ (twice_law (fun x hx => i8_rng ((row_RSl t2).2.2.2.1 x hx)) (law_true rfl)))
    (.cons (ten_R2 t0 t2) (.cons int_R2 (.cons int_R2 .nil)))
    (by
      intro x hx
      simp only [List.mem_cons, List.not_mem_nil, or_false] at hx
      rcases hx with rfl | rfl | rfl
      · exact ten_VRel t0 t2
      all_goals exact .int _ _)

end Go.Proofs.Ytofinnadgpnjhaa
