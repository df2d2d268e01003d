/- The law TensorSmall, plainly, and its run. No condition. -/
import Derived.Test.YtofinnadgpnjhaaSmall2
namespace Go.Proofs.Ytofinnadgpnjhaa
open Go.Mach Go.RowKit
set_option maxRecDepth 100000
set_option linter.unusedVariables false
set_option linter.unusedSimpArgs false

theorem greater_abs {x P : Int} (h1 : -P < x) (h2 : x < P) : greater x (0 - x) < P := by
  unfold greater; split <;> omega

theorem i32_rng {n : Int} (h : (Lit.int .i32 n).wf = true) : -2147483648 ≤ n ∧ n ≤ 2147483647 := by
  have := wf_rng h
  simpa [IntKind.min, IntKind.max, IntKind.bits, IntKind.signed] using this

theorem bits_B (b : Int) : ∃ B : Nat, B < 7 ∧ IntKind.i64.wrap (2 + (IntKind.i64.wrap ((IntKind.u64.wrap b).tmod 7))) = (B : Int) + 2 := by
  have h0 : 0 ≤ IntKind.u64.wrap b := by
    simp only [IntKind.wrap, IntKind.bits, IntKind.signed]
    simp
    omega
  rw [Int.tmod_eq_emod_of_nonneg h0]
  have m1 := Int.emod_nonneg (IntKind.u64.wrap b) (show (7 : Int) ≠ 0 by omega)
  have m2 := Int.emod_lt_of_pos (IntKind.u64.wrap b) (show (0 : Int) < 7 by omega)
  rw [wrap_i64 (_ % 7) (by omega) (by omega), wrap_i64 _ (by omega) (by omega)]
  exact ⟨((IntKind.u64.wrap b) % 7).toNat, by omega, by omega⟩

theorem small_law {a : List Int × Int × List Int} {b s t : Int} {Q : Bool → Prop} (h32 : ∀ x ∈ a.2.2, -2147483648 ≤ x ∧ x ≤ 2147483647) (hQ : Q true) : pedagoguelaw8_TensorSmall a b s t Q := by
  unfold pedagoguelaw8_TensorSmall
  refine ⟨by decide, ?_⟩
  show (if (!(decide ((a.2.2.length : Int) ≤ 600))) = true then _ else _)
  split
  · exact awake_v hQ
  · obtain ⟨B, hB, eB⟩ := bits_B b
    rw [eB]
    refine small_v (a := a) ?_
    cases hm : mayAccF a with
    | false =>
      have e : smallF a ((B : Int) + 2) s t = (([], 0, []), 1) := by unfold smallF; rw [hm]; rfl
      rw [e]
      refine mayAcc_v (a := a) ?_
      rw [hm]
      exact awake_v hQ
    | true =>
      have c1 : ((!(mayAccF a) || (decide ((B : Int) + 2 < 2))) || (decide (8 < (B : Int) + 2))) = false := by
        rw [hm]
        simp only [Bool.not_true, Bool.false_or, Bool.or_eq_false_iff, decide_eq_false_iff_not]
        omega
      cases hx : expF (IntKind.i64.wrap (a.2.1 + shiftF a ((B : Int) + 2))) 64 with
      | false =>
        have e : smallF a ((B : Int) + 2) s t = (([], 0, []), 3) := by unfold smallF; rw [c1, hx]; rfl
        rw [e]
        refine mayAcc_v (a := a) ?_
        rw [hm]
        exact awake_v hQ
      | true =>
        obtain ⟨w, w1, w2, w3⟩ := wideF_k h32
        have ew : widthF a = w := by unfold widthF; rw [hm, if_pos rfl]; exact w1
        obtain ⟨d, hd, es, hwd⟩ : ∃ d : Nat, d ≤ 31 ∧ shiftF a ((B : Int) + 2) = d ∧ w ≤ d + (B + 1) := by
          unfold shiftF
          rw [ew, wrap_i64 ((B : Int) + 2 - 1) (by omega) (by omega), wrap_i64 _ (by omega) (by omega)]
          refine ⟨w - (B + 1), by omega, ?_, by omega⟩
          unfold greater; split <;> omega
        have e : smallF a ((B : Int) + 2) s t = ((a.1, IntKind.i64.wrap (a.2.1 + d), dataF ((B : Int) + 2) s t d a.2.2), 0) := by
          unfold smallF; rw [c1, hx, es]; rfl
        rw [e]
        obtain ⟨k1, k2, _, _, klen⟩ := mayAccF_len hm
        have ha : -128 ≤ a.2.1 ∧ a.2.1 ≤ 128 := by
          have hm' := hm
          unfold mayAccF expF at hm'
          rw [wrap_i64 (0 - 128) (by omega) (by omega)] at hm'
          simp only [Bool.and_eq_true, decide_eq_true_eq, beq_iff_eq] at hm'
          omega
        rw [es, wrap_i64 (a.2.1 + d) (by omega) (by omega)] at hx
        rw [wrap_i64 (a.2.1 + d) (by omega) (by omega)]
        have cell : ∀ i, i < a.2.2.length → ∃ v, (dataF ((B : Int) + 2) s t d a.2.2).getD i 0 = v ∧ -(2 ^ (B + 1) - 1) ≤ v ∧ v ≤ 2 ^ (B + 1) - 1 ∧ -2 ^ d < v * 2 ^ d - a.2.2.getD i 0 ∧ v * 2 ^ d - a.2.2.getD i 0 < 2 ^ d := by
          intro i hi
          have hmem : a.2.2.getD i 0 ∈ a.2.2 := by rw [List.getD_eq_getElem?_getD, List.getElem?_eq_getElem hi]; exact List.getElem_mem hi
          have hp := pow_mono hwd
          rw [Int.pow_add] at hp
          have h3 := w3 _ hmem
          obtain ⟨v, v1, v2⟩ := @cell_k a.2.2 s t i d B hd hB (h32 _ hmem) (by omega) (by omega)
          exact ⟨v, by rw [dataF_get hi]; exact v1, v2⟩
        have lenD : (dataF ((B : Int) + 2) s t d a.2.2).length = a.2.2.length := dataF_len
        generalize dataF ((B : Int) + 2) s t d a.2.2 = D at cell lenD
        obtain ⟨_, t2, t3, t4⟩ := topF_k ⟨B, hB⟩
        simp only at t2 t3 t4
        obtain ⟨p0, p00, p1, p2⟩ := pow_k ⟨d, by omega⟩
        simp only at p0 p00 p1 p2
        have no128 : -128 ∉ D := by
          intro hmem
          obtain ⟨i, hi, e⟩ := List.getElem_of_mem hmem
          obtain ⟨v, v1, v2, _⟩ := cell i (by omega)
          rw [List.getD_eq_getElem?_getD, List.getElem?_eq_getElem hi, e] at v1
          simp only [Option.getD_some] at v1
          omega
        have hMay : mayF (a.1, a.2.1 + d, D) = true := by
          unfold mayF
          simp only [lenD, hx, Bool.and_true, Bool.and_eq_true, decide_eq_true_eq, beq_iff_eq, Bool.not_eq_true', decide_eq_false_iff_not]
          exact ⟨⟨k1, k2⟩, no128⟩
        refine mayT_v (a := (a.1, a.2.1 + d, D)) ?_
        rw [hMay]
        show jn _ _
        unfold jn
        have ed : IntKind.i64.wrap (a.2.1 + (d : Int) - a.2.1) = d := by rw [wrap_i64 _ (by omega) (by omega)]; omega
        simp only [ed]
        rw [if_neg (by simp only [Bool.not_true, Bool.false_or, Bool.or_eq_true, decide_eq_true_eq]; omega)]
        refine width_v (a := a) ?_
        have es' : greater 0 (IntKind.i64.wrap (widthF a - IntKind.i64.wrap ((B : Int) + 2 - 1))) = d := es
        rw [es', lenD, if_neg (by simp)]
        refine ⟨by rw [wrap_i64 _ (by omega) (by omega), wrap_u64 _ (by omega) (by omega)]; omega, ?_⟩
        rw [t4]
        refine Loop.range (f := fun i => (i : Int)) a.2.2.length (fun _ => True) trivial ?_ ?_
        · intro i hi _ X hX
          have ud : IntKind.u64.wrap (d : Int) = d := wrap_u64 _ (by omega) (by omega)
          obtain ⟨v, v1, v2, v3, v4, v5⟩ := cell i hi
          have hx32 := h32 (a.2.2.getD i 0) (by rw [List.getD_eq_getElem?_getD, List.getElem?_eq_getElem hi]; exact List.getElem_mem hi)
          unfold pedagoguelaw8_TensorSmall_n4090_B
          rw [if_pos (by simpa using hi)]
          refine ⟨by omega, by omega, by omega, ?_⟩
          have hn : ((i : Int)).toNat = i := Int.toNat_natCast i
          rw [← hn] at v1 v4 v5 hx32
          generalize D.getD ((i : Int)).toNat 0 = v' at v1 ⊢
          subst v1
          generalize a.2.2.getD ((i : Int)).toNat 0 = x at v4 v5 hx32 ⊢
          generalize hG : (2 : Int) ^ (B + 1) = G at *
          rw [p0, p00]
          generalize hP : (2 : Int) ^ d = P at *
          have hvP : v' * P < 4611686018427387904 ∧ -4611686018427387904 < v' * P := by omega
          rw [wrap_i64 v' (by omega) (by omega), wrap_i64 x (by omega) (by omega), wrap_i64 (0 - (G - 1)) (by omega) (by omega), wrap_i64 (v' * P) (by omega) (by omega), wrap_i64 (v' * P - x) (by omega) (by omega), wrap_i64 (0 - (v' * P - x)) (by omega) (by omega)]
          rw [if_neg (by simp only [Bool.or_eq_true, decide_eq_true_eq]; omega)]
          refine ⟨by omega, ?_⟩
          unfold jn
          dsimp only
          have hg := greater_abs v4 v5
          rw [if_neg (by simp only [decide_eq_true_eq]; omega)]
          rw [if_neg]
          · rw [wrap_i64 ((i : Int) + 1) (by omega) (by omega)]
            exact hX trivial
          · simp only [Bool.false_or, Bool.and_eq_true, beq_iff_eq, bne_iff_ne, ne_eq, not_and, Decidable.not_not]
            intro hd0
            have : d = 0 := by omega
            subst this
            simp only [Int.pow_zero] at hP
            omega
        · intro _ X
          unfold pedagoguelaw8_TensorSmall_n4090_B
          rw [if_neg (by simp)]
          exact awake_v hQ

theorem small_walk {a0 a2 : Option Addr} {l0 c0 l2 c2 : Nat} {z0 z2 : List Int} {n b s t : Int} {w : World} (t0 : RowH .i64 w a0 l0 c0 z0) (t2 : RowH .i32 w a2 l2 c2 z2) :
    Calls Try.prog 3 #[.agg #[.slice a0 l0 c0, .int .i64 n, .slice a2 l2 c2], .int .i64 b, .int .u64 s, .int .u64 t] w fun e w' => e = .returned (.bool true) ∧ Below w.heap.size w w' :=
  law_calls (azz := [.agg #[.slice a0 l0 c0, .int .i64 n, .slice a2 l2 c2], .int .i64 b, .int .u64 s, .int .u64 t]) (by kernel_rfl)
    (pedagoguelaw8_TensorSmall_snd ((z0.take l0, n, z2.take l2, ()), b, s, t, ()) _ (small_law (fun x hx => i32_rng ((row_RSl t2).2.2.2.1 x hx)) (law_true rfl)))
    (.cons (ten_R2 t0 t2) (.cons int_R2 (.cons int_R2 (.cons int_R2 .nil))))
    (by
      intro x hx
      simp only [List.mem_cons, List.not_mem_nil, or_false] at hx
      rcases hx with rfl | rfl | rfl | rfl
      · exact ten_VRel t0 t2
      all_goals exact .int _ _)

end Go.Proofs.Ytofinnadgpnjhaa
