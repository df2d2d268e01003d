/- The law TensorZero, plainly. No condition. -/
import Derived.Test.YtlbapaelkdpjcaaMayF
namespace Go.Proofs.Ytlbapaelkdpjcaa
open Go.Mach Go.RowKit
set_option maxRecDepth 100000
set_option linter.unusedVariables false
set_option linter.unusedSimpArgs false

theorem rep_get (N i : Nat) : (List.replicate N (0 : Int)).getD i 0 = 0 := by
  rw [List.getD_eq_getElem?_getD, List.getElem?_replicate]
  split <;> rfl
theorem bits0 : bitF (IntKind.i64.wrap 0) = 0 := by decide +kernel
theorem wideF_zero (N : Nat) : wideF (List.replicate N 0) = 0 := by
  unfold wideF
  induction N with
  | zero => rfl
  | succ N ih => rw [List.replicate_succ, List.foldl_cons, bits0]; exact ih
theorem clF_zero : ∀ i : Fin 7, clF 0 ((i.1 : Int) + 2) = 0 := by decide +kernel
theorem val0 : valF 0 = 0 := by decide +kernel
theorem dataF_zero {b s t : Int} (hb : 2 ≤ b ∧ b ≤ 8) (N : Nat) : dataF b s t 0 (List.replicate N 0) = List.replicate N 0 := by
  unfold dataF
  refine List.ext_getElem (by simp) fun i h1 h2 => ?_
  simp only [List.getElem_map, List.getElem_range, List.getElem_replicate]
  unfold cellF
  rw [rep_get, chF_zero]
  have e0 : IntKind.i64.wrap 0 = 0 := by decide
  have := clF_zero ⟨(b - 2).toNat, by omega⟩
  simp only at this
  rw [show (((b - 2).toNat : Nat) : Int) + 2 = b by omega] at this
  rw [e0, val0, this]
  decide
theorem small_zero {d : List Int} {e b s t : Int} {N : Nat} (hm : mayF (d, e, List.replicate N 0) = true) (hb : 2 ≤ b ∧ b ≤ 8) :
    smallF (d, e, List.replicate N 0) b s t = ((d, e, List.replicate N 0), 0) ∧ widthF (d, e, List.replicate N 0) = 0 := by
  obtain ⟨m1, m2, m3, _⟩ := mayF_inv hm
  have hw : widthF (d, e, List.replicate N 0) = 0 := by
    unfold widthF
    rw [if_pos m1]
    exact wideF_zero N
  have hs : shiftF (d, e, List.replicate N 0) b = 0 := by
    unfold shiftF
    rw [hw, wrap_i64 (b - 1) (by omega) (by omega), wrap_i64 (0 - (b - 1)) (by omega) (by omega)]
    unfold greater
    rw [if_neg (by omega)]
  refine ⟨?_, hw⟩
  simp only at m2 m3
  unfold smallF
  rw [hs]
  have he : IntKind.i64.wrap (e + 0) = e := by rw [Int.add_zero, wrap_i64 _ (by omega) (by omega)]
  have hx : expF e 64 = true := by
    unfold expF
    rw [wrap_i64 (0 - 64) (by omega) (by omega)]
    simp only [Bool.and_eq_true, decide_eq_true_eq]
    omega
  show (if ((!(mayAccF (d, e, List.replicate N 0)) || (decide (b < 2))) || (decide (8 < b))) = true then _ else if (!(expF (IntKind.i64.wrap (e + 0)) 64)) = true then _ else ((d, IntKind.i64.wrap (e + 0), dataF b s t 0 (List.replicate N 0)), 0)) = _
  rw [he, if_neg (by rw [m1]; simp; omega), if_neg (by rw [hx]; simp), dataF_zero hb]
theorem zero_law {d : List Int} {e a : Int} {Q : Bool → Prop} (hd : d.length ≤ 17592186044416) (h : Q true) : pedagoguelaw8_TensorZero d e a Q := by
  unfold pedagoguelaw8_TensorZero tensor_Zero
  refine clone_v hd (size_v ?_)
  have := szF_le d
  by_cases hneg : szF d < 0
  · exfalso
    have : 0 ≤ szF d := by
      unfold szF
      split
      · omega
      · have key : ∀ (l : List Int) (acc : Int), 1 ≤ acc → acc ≤ 8192 → 0 ≤ szGo acc l := by
          intro l
          induction l with
          | nil => intro acc h1 _; show 0 ≤ acc; omega
          | cons d r ih =>
            intro acc h1 h2
            unfold szGo
            split
            · omega
            · rename_i hc
              simp only [Bool.or_eq_true, decide_eq_true_eq, not_or] at hc
              have e1 : acc * 1 ≤ acc * d := Int.mul_le_mul_of_nonneg_left (by omega) (by omega)
              have e2 : acc * d ≤ acc * 4096 := Int.mul_le_mul_of_nonneg_left (by omega) (by omega)
              have e3 : IntKind.i64.wrap (acc * d) = acc * d := wrap_i64 _ (by omega) (by omega)
              rw [e3] at hc ⊢
              exact ih _ (by omega) (by omega)
        exact key d 1 (by omega) (by omega)
    omega
  · refine ⟨⟨by omega, by omega⟩, mayT_v ?_⟩
    cases hm : mayF (d, e, List.replicate (szF d).toNat 0) with
    | false =>
      rw [if_pos (by rfl)]
      exact awake_v h
    | true =>
      rw [if_neg (by simp)]
      dsimp only
      rw [if_neg (by simp)]
      obtain ⟨m1, m2, m3, _⟩ := mayF_inv hm
      obtain ⟨_, _, _, l4, l5⟩ := mayAccF_len m1
      simp only at l4 l5
      have h0 : 0 ≤ IntKind.u64.wrap a := by
        simp only [IntKind.wrap, IntKind.bits, IntKind.signed]
        simp
        omega
      have h3 : (IntKind.u64.wrap a).tmod 7 = IntKind.u64.wrap a % 7 := Int.tmod_eq_emod_of_nonneg h0
      have h4 := Int.emod_nonneg (IntKind.u64.wrap a) (show (7 : Int) ≠ 0 by omega)
      have h5 := Int.emod_lt_of_pos (IntKind.u64.wrap a) (show (0 : Int) < 7 by omega)
      rw [h3]
      generalize IntKind.u64.wrap a % 7 = u at *
      rw [wrap_i64 u (by omega) (by omega), wrap_i64 (2 + u) (by omega) (by omega)]
      simp only [List.length_replicate, Int.toNat_natCast] at l5 ⊢
      obtain ⟨k1, k2⟩ := small_zero (s := 5) (t := 6) hm (b := 2 + u) (by omega)
      refine ⟨by omega, ⟨by omega, by omega⟩, small_v ?_⟩
      rw [k1]
      refine mayT_v ?_
      rw [hm]
      unfold jn
      dsimp only
      rw [if_pos rfl]
      refine width_v ?_
      rw [k2]
      rw [if_pos (by rfl)]
      refine same_v (by show d.length ≤ _; omega) (by show (List.replicate _ _).length ≤ _; simp; omega) ?_
      rw [decide_eq_true rfl]
      exact awake_v h
theorem zero_walk {a0 : Option Addr} {l0 c0 : Nat} {z0 : List Int} {e b : Int} {w : World} (hl : l0 ≤ 17592186044416) (t0 : RowH .i64 w a0 l0 c0 z0) :
    Calls Try.prog 4 #[.slice a0 l0 c0, .int .i64 e, .int .i64 b] w fun e w' => e = .returned (.bool true) ∧ Below w.heap.size w w' :=
  law_calls (azz := [.slice a0 l0 c0, .int .i64 e, .int .i64 b]) (by kernel_rfl)
    (pedagoguelaw8_TensorZero_snd (z0.take l0, e, b, ()) _ (zero_law (by rw [(row_RSl t0).2.1]; exact hl) (law_true rfl)))
    (.cons (row_R2 t0) (.cons int_R2 (.cons int_R2 .nil)))
    (by
      intro x hx
      simp only [List.mem_cons, List.not_mem_nil, or_false] at hx
      rcases hx with rfl | rfl | rfl
      · exact (row_RSl t0).2.2.1
      all_goals exact .int _ _)

end Go.Proofs.Ytlbapaelkdpjcaa
