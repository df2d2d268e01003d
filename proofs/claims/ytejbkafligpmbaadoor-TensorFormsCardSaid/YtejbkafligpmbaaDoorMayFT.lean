/- May a tensor be: plain values. Laws; no condition. -/
import Derived.Test.YtejbkafligpmbaaDoorVArg
import Derived.Test.YtejbkafligpmbaaDoorC1T
namespace Go.Proofs.YtejbkafligpmbaaDoor
open Go.Mach Go.RowKit
set_option maxRecDepth 100000
set_option linter.unusedVariables false
set_option linter.unusedSimpArgs false

theorem contains8_v {l : List Int} {v : Int} {Q : Bool → Prop} (hl : l.length ≤ 1000000000000) (h : Q (decide (v ∈ l))) : slices_Contains_int8_int8 l v Q := by
  refine Loop.range (B := slices_Index_int8_int8_n0_B l v (l.length : Int) (fun _ => Q (decide ((0 : Int) ≤ -1))) (fun y => Q (decide (0 ≤ y)))) l.length (fun i => (i : Int)) (fun i => ∀ j, j < i → v ≠ l.getD j 0) (fun j hj => absurd hj (by omega)) ?_ ?_
  · intro i hi hI X hX
    unfold slices_Index_int8_int8_n0_B
    rw [if_pos (by simpa using hi)]
    refine ⟨by omega, ?_⟩
    simp only [Int.toNat_natCast]
    have hget : l.getD i 0 = l[i] := by rw [List.getD_eq_getElem?_getD, List.getElem?_eq_getElem hi]; rfl
    by_cases hv : v = l.getD i 0
    · rw [if_pos (by simpa using hv)]
      have : decide (v ∈ l) = true := by
        simp only [decide_eq_true_eq]
        rw [hv, hget]
        exact List.getElem_mem hi
      rw [this] at h
      rw [decide_eq_true (by omega : (0 : Int) ≤ (i : Int))]
      exact h
    · rw [if_neg (by simpa using hv), wrap_i64 _ (by omega) (by omega)]
      refine hX fun j hj => ?_
      by_cases hji : j = i
      · subst hji; exact hv
      · exact hI j (by omega)
  · intro hI X
    unfold slices_Index_int8_int8_n0_B
    rw [if_neg (by simp)]
    have : decide (v ∈ l) = false := by
      simp only [decide_eq_false_iff_not]
      intro hm
      obtain ⟨j, hj, e⟩ := List.getElem_of_mem hm
      apply hI j hj
      rw [List.getD_eq_getElem?_getD, List.getElem?_eq_getElem hj, ← e]; rfl
    rw [this] at h
    exact h

def mayF (a : List Int × Int × List Int) : Bool := ((decide (0 < szF a.1) && ((a.2.2.length : Int) == szF a.1)) && expF a.2.1 64) && !decide (-128 ∈ a.2.2)
theorem mayT_v {a : List Int × Int × List Int} {Q : Bool → Prop} (h : Q (mayF a)) : tensor_May a Q := by
  refine may_v ?_
  have e3 : ∀ v, (v = true → a.2.2.length ≤ 1000000000000) → (Q (v && !decide (-128 ∈ a.2.2))) → jn (fun (v8 : Bool) => Q v8) (fun J9 => if v = true then slices_Contains_int8_int8 a.2.2 (-128) (fun (r10 : Bool) => J9 (!r10)) else J9 false) := by
    intro v hl hv
    cases v with
    | true => exact contains8_v (Q := fun r => Q (!r)) (hl rfl) hv
    | false => exact hv
  have e2 : ∀ v, (v = true → a.2.2.length ≤ 1000000000000) → (Q ((v && expF a.2.1 64) && !decide (-128 ∈ a.2.2))) → jn (fun (v5 : Bool) => jn (fun (v8 : Bool) => Q v8) (fun J9 => if v5 = true then slices_Contains_int8_int8 a.2.2 (-128) (fun (r10 : Bool) => J9 (!r10)) else J9 false)) (fun J6 => if v = true then tensor_exp a.2.1 64 (fun (r7 : Bool) => J6 r7) else J6 false) := by
    intro v hl hv
    cases v with
    | true => exact e3 _ (fun _ => hl rfl) hv
    | false => exact e3 false (fun e => by cases e) hv
  have hle := szF_le a.1
  unfold mayF at h
  cases hb : decide (0 < szF a.1) with
  | true =>
    rw [hb] at h
    refine size_v (Q := fun r4 => jn (fun (v2 : Bool) => jn (fun (v5 : Bool) => jn (fun (v8 : Bool) => Q v8) (fun J9 => if v5 = true then slices_Contains_int8_int8 a.2.2 (-128) (fun (r10 : Bool) => J9 (!r10)) else J9 false)) (fun J6 => if v2 = true then tensor_exp a.2.1 64 (fun (r7 : Bool) => J6 r7) else J6 false)) (fun J3 => J3 ((a.2.2.length : Int) == r4))) (e2 _ (fun e => ?_) h)
    have : (a.2.2.length : Int) = szF a.1 := by simpa using e
    omega
  | false =>
    rw [hb] at h
    exact e2 false (fun e => by cases e) h

theorem mayF_inv {a : List Int × Int × List Int} (h : mayF a = true) : mayAccF a = true ∧ -64 ≤ a.2.1 ∧ a.2.1 ≤ 64 ∧ -128 ∉ a.2.2 := by
  unfold mayF at h
  simp only [Bool.and_eq_true, decide_eq_true_eq, beq_iff_eq, Bool.not_eq_true', decide_eq_false_iff_not] at h
  obtain ⟨⟨⟨h1, h2⟩, h3⟩, h4⟩ := h
  unfold expF at h3
  rw [wrap_i64 (0 - 64) (by omega) (by omega)] at h3
  simp only [Bool.and_eq_true, decide_eq_true_eq] at h3
  refine ⟨?_, by omega, by omega, h4⟩
  unfold mayAccF expF
  rw [wrap_i64 (0 - 128) (by omega) (by omega)]
  simp only [Bool.and_eq_true, decide_eq_true_eq, beq_iff_eq]
  omega


end Go.Proofs.YtejbkafligpmbaaDoor

