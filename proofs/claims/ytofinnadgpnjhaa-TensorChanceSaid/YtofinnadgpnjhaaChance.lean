/- The law TensorChance, plainly, and its run. No condition. -/
import Derived.Test.YtofinnadgpnjhaaC1
namespace Go.Proofs.Ytofinnadgpnjhaa
open Go.Mach Go.RowKit
set_option maxRecDepth 100000
set_option linter.unusedVariables false
set_option linter.unusedSimpArgs false

def sh8 (l : List Int) : Int := greater 0 (IntKind.i64.wrap (wideF l - (IntKind.i64.wrap (8 - 1))))
theorem sz_one {n : Int} (h1 : 1 ≤ n) (h2 : n ≤ 4096) : szF [n] = n := by
  have e1 : IntKind.i64.wrap (1 * n) = n := by rw [Int.one_mul, wrap_i64 _ (by omega) (by omega)]
  unfold szF szGo szGo
  rw [e1, if_neg (by simp), if_neg]
  simp only [Bool.or_eq_true, decide_eq_true_eq, not_or]
  omega
theorem mayAcc_one {l : List Int} (h1 : 1 ≤ l.length) (h2 : l.length ≤ 4096) : mayAccF ([(l.length : Int)], 0, l) = true := by
  have e : szF [(l.length : Int)] = l.length := sz_one (by omega) (by omega)
  have e2 : expF 0 128 = true := by decide +kernel
  unfold mayAccF
  simp only [e, e2, Bool.and_true, Bool.and_eq_true, decide_eq_true_eq, beq_self_eq_true, and_true]
  omega
theorem sh8_rng (l : List Int) : 0 ≤ sh8 l ∧ sh8 l ≤ 57 := by
  have h := wideF_rng l
  unfold sh8
  rw [wrap_i64 (8 - 1) (by omega) (by omega), wrap_i64 _ (by omega) (by omega)]
  unfold greater
  split <;> omega
theorem small_one {l : List Int} {s t : Int} (h1 : 1 ≤ l.length) (h2 : l.length ≤ 4096) : smallF ([(l.length : Int)], 0, l) 8 s t = (([(l.length : Int)], IntKind.i64.wrap (0 + sh8 l), dataF 8 s t (sh8 l) l), 0) := by
  have e := mayAcc_one h1 h2
  have e1 : shiftF ([(l.length : Int)], 0, l) 8 = sh8 l := by
    unfold shiftF widthF
    rw [e]; rfl
  have h := sh8_rng l
  have e2 : expF (IntKind.i64.wrap (0 + sh8 l)) 64 = true := by
    unfold expF
    rw [wrap_i64 _ (by omega) (by omega), wrap_i64 _ (by omega) (by omega)]
    simp only [Bool.and_eq_true, decide_eq_true_eq]
    omega
  unfold smallF
  rw [e, e1]
  show (if (!(expF (IntKind.i64.wrap (0 + sh8 l)) 64)) = true then _ else _) = _
  rw [e2]
  rfl
theorem dataF_len {b s t sh : Int} {l : List Int} : (dataF b s t sh l).length = l.length := by simp [dataF]
theorem dataF_get {b s t sh : Int} {l : List Int} {j : Nat} (h : j < l.length) : (dataF b s t sh l).getD j 0 = cellF b s t sh l j := by
  unfold dataF
  rw [List.getD_eq_getElem?_getD, List.getElem?_map, List.getElem?_range h]
  rfl

theorem chance_law {l : List Int} {i x s t : Int} {Q : Bool → Prop} (hi : (Lit.int .i64 i).wf = true) (hQ : Q true) : pedagoguelaw8_TensorChance l i x s t Q := by
  unfold pedagoguelaw8_TensorChance
  by_cases e : ((decide ((l.length : Int) < 2)) || (decide (300 < (l.length : Int)))) = true
  · rw [if_pos e]; exact awake_v hQ
  · rw [if_neg e]
    simp only [Bool.or_eq_true, decide_eq_true_eq, not_or] at e
    have hu : IntKind.u64.wrap (l.length : Int) = l.length := wrap_u64 _ (by omega) (by omega)
    have hk : 0 ≤ (IntKind.i64.wrap ((IntKind.u64.wrap i).tmod (IntKind.u64.wrap (l.length : Int)))) ∧ (IntKind.i64.wrap ((IntKind.u64.wrap i).tmod (IntKind.u64.wrap (l.length : Int)))) < (l.length : Int) := by
      have h0 : 0 ≤ IntKind.u64.wrap i := by
        simp only [IntKind.wrap, IntKind.bits, IntKind.signed]
        simp
        omega
      rw [hu, Int.tmod_eq_emod_of_nonneg h0]
      have m1 := Int.emod_nonneg (IntKind.u64.wrap i) (show (l.length : Int) ≠ 0 by omega)
      have m2 := Int.emod_lt_of_pos (IntKind.u64.wrap i) (show 0 < (l.length : Int) by omega)
      rw [wrap_i64 _ (by omega) (by omega)]
      exact ⟨m1, m2⟩
    generalize IntKind.i64.wrap ((IntKind.u64.wrap i).tmod (IntKind.u64.wrap (l.length : Int))) = k at hk ⊢
    refine ⟨by simp only [List.length_nil]; omega, by rw [hu]; omega, ⟨hk.1, hk.2⟩, ?_⟩
    rw [List.nil_append]
    have hml : (l.set k.toNat x).length = l.length := by simp
    generalize hm : l.set k.toNat x = m at hml ⊢
    have sl := @small_one l s t (by omega) (by omega)
    have sm := @small_one m s t (by omega) (by omega)
    rw [hml] at sm
    refine small_v (small_v (small_v ?_))
    rw [sl, sm]
    refine same_v (a := ([(l.length : Int)], IntKind.i64.wrap (0 + sh8 l), dataF 8 s t (sh8 l) l)) (b := ([(l.length : Int)], IntKind.i64.wrap (0 + sh8 l), dataF 8 s t (sh8 l) l)) (by simp) (by simp only [dataF_len]; omega) ?_
    rw [decide_eq_true rfl]
    show (if ((false || ((dataF 8 s t (sh8 l) l).length : Int) != (l.length : Int)) || ((dataF 8 s t (sh8 m) m).length : Int) != (l.length : Int)) = true then _ else _)
    rw [dataF_len, dataF_len, hml, if_neg (by simp)]
    refine width_v (width_v ?_)
    have wl : widthF ([(l.length : Int)], 0, l) = wideF l := by
      unfold widthF; rw [mayAcc_one (by omega) (by omega)]; rfl
    have wm : widthF ([(l.length : Int)], 0, m) = wideF m := by
      rw [← hml]
      unfold widthF; rw [mayAcc_one (by omega) (by omega)]; rfl
    rw [wl, wm]
    by_cases hw : wideF l = wideF m
    · rw [if_neg (by simpa using hw)]
      have hs : sh8 l = sh8 m := by unfold sh8; rw [hw]
      refine Loop.range (B := pedagoguelaw8_TensorChance_n32762_B k (l.length : Int) (dataF 8 s t (sh8 l) l) (dataF 8 s t (sh8 m) m) (fun _ => pedagoguelaw8_awake fun r => Q r) fun _ => Q false) l.length (fun j => (j : Int)) (fun _ => True) trivial ?_ ?_
      · intro j hj _ X hX
        unfold pedagoguelaw8_TensorChance_n32762_B
        rw [if_pos (by simpa using hj)]
        have go : X (IntKind.i64.wrap ((j : Int) + 1)) := by
          rw [wrap_i64 _ (by omega) (by omega)]
          exact hX trivial
        show (if ((j : Int) != k) = true then _ else _)
        by_cases hjk : (j : Int) = k
        · rw [if_neg (by simpa using hjk)]
          exact go
        · rw [if_pos (by simpa using hjk)]
          refine ⟨by rw [dataF_len]; omega, by rw [dataF_len]; omega, ?_⟩
          simp only [Int.toNat_natCast]
          have hg : l.getD j 0 = m.getD j 0 := by
            rw [← hm, List.getD_eq_getElem?_getD, List.getD_eq_getElem?_getD, List.getElem?_set_ne (by omega)]
          have : (dataF 8 s t (sh8 l) l).getD j 0 = (dataF 8 s t (sh8 m) m).getD j 0 := by
            rw [dataF_get hj, dataF_get (by omega), ← hs]
            unfold cellF
            rw [hg]
          rw [this]
          show (if (_ != _) = true then _ else _)
          rw [if_neg (by simp)]
          exact go
      · intro _ X
        unfold pedagoguelaw8_TensorChance_n32762_B
        rw [if_neg (by simp)]
        exact awake_v hQ
    · rw [if_pos (by simpa using hw)]
      exact awake_v hQ

theorem chance_walk {a0 : Option Addr} {len0 cap0 : Nat} {z0 : List Int} {a1 a2 a3 a4 : Int} {w : World}
    (w0 : (a0 = none ∧ len0 = 0 ∧ cap0 = 0 ∧ z0 = []) ∨
      ∃ x, a0 = some x ∧ (x.spot = none ∧ x.block < w.heap.size) ∧ len0 ≤ cap0 ∧ cap0 ≤ maxLen ∧ z0.length = cap0 ∧ (∀ i, i < z0.length → w.cell? (x.add i) = some (.int .i32 (z0.getD i 0))) ∧ ∀ n ∈ z0, (Lit.int .i32 n).wf = true)
    (w1 : (Lit.int .i64 a1).wf = true) :
    Calls Try.prog 4 #[.slice a0 len0 cap0, .int .i64 a1, .int .i32 a2, .int .u64 a3, .int .u64 a4] w fun e w' => e = .returned (.bool true) ∧ Below w.heap.size w w' :=
  law_calls (azz := [.slice a0 len0 cap0, .int .i64 a1, .int .i32 a2, .int .u64 a3, .int .u64 a4]) (by kernel_rfl)
    (pedagoguelaw8_TensorChance_snd (z0.take len0, a1, a2, a3, a4, ()) _ (chance_law w1 (law_true rfl)))
    (.cons (row_R2 w0) (.cons int_R2 (.cons int_R2 (.cons int_R2 (.cons int_R2 .nil)))))
    (by
      intro x hx
      simp only [List.mem_cons, List.not_mem_nil, or_false] at hx
      rcases hx with rfl | rfl | rfl | rfl | rfl
      · exact (row_RSl w0).2.2.1
      all_goals exact .int _ _)

end Go.Proofs.Ytofinnadgpnjhaa
