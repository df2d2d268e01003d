/- LossRows. Plain law; no condition. -/
import Derived.Test.YtpbegbmmhpencaaGX
import Derived.Test.YtpbegbmmhpencaaGR
namespace Go.Proofs.Ytpbegbmmhpencaa
open Go.Mach Go.RowKit
set_option maxRecDepth 100000
set_option linter.unusedVariables false
set_option linter.unusedSimpArgs false

theorem OkL.grad {t : T3} {ks : List Int} {n c : Nat} (h : OkL t ks n c) : gradF t ks = ((t.1, (-7, gradData (chunksF t.2.2 c) t.2.1 ks)), 0) := by
  unfold gradF
  rw [h.label, if_neg (by simp)]
theorem gradData_eq {l : List Int} {e : Int} {ks : List Int} {n c : Nat} (hc : 1 ≤ c) (hl : l.length = n * c) : gradData (chunksF l c) e ks = (List.range n).flatMap fun i => gradRow (rowAt l c i) e (ks.getD i 0) := by
  unfold gradData
  rw [chunks_len hc hl]
  rw [List.flatMap_def, List.flatMap_def]
  congr 1
  refine List.map_congr_left fun i hi => ?_
  rw [chunks_get hc hl (List.mem_range.1 hi)]

theorem umod_rng {a : Int} {c : Nat} (hc : 2 ≤ c ∧ c ≤ 10) : 0 ≤ IntKind.i64.wrap ((IntKind.u64.wrap a).tmod (IntKind.u64.wrap (c : Int))) ∧ IntKind.i64.wrap ((IntKind.u64.wrap a).tmod (IntKind.u64.wrap (c : Int))) < (c : Int) := by
  have h1 : IntKind.u64.wrap (c : Int) = (c : Int) := by simp only [IntKind.wrap, IntKind.bits, IntKind.signed]; simp; omega
  have h2 : 0 ≤ IntKind.u64.wrap a := by simp only [IntKind.wrap, IntKind.bits, IntKind.signed]; simp; omega
  rw [h1]
  have h3 := Int.tmod_nonneg (c : Int) h2
  have h4 := Int.tmod_lt_of_pos (IntKind.u64.wrap a) (show (0 : Int) < (c : Int) by omega)
  rw [wrap_i64 _ (by omega) (by omega)]
  exact ⟨h3, h4⟩

/-- No number is the least one. -/
def lift7 (x : Int) : Int := greater x (-127)
theorem lift7_rng {x : Int} (h : -128 ≤ x ∧ x ≤ 127) : -127 ≤ lift7 x ∧ lift7 x ≤ 127 := by unfold lift7; rw [greater_eq]; omega

theorem copy_v {l : List Int} {K : List Int → Prop} (hl : l.length ≤ 1000000) (h : K (l.map lift7)) : pedagoguelaw19_LossRows_n0 (l.length : Int) l K (0, []) := by
  refine ⟨Loop.range (B := pedagoguelaw19_LossRows_n0_B (l.length : Int) l K) (f := fun i : Nat => ((i : Int), (l.take i).map lift7)) l.length (fun _ => True) trivial ?_ ?_⟩
  · intro i hi _ X hX
    unfold pedagoguelaw19_LossRows_n0_B
    dsimp only
    rw [if_pos (by simp; omega), Int.toNat_natCast]
    refine ⟨⟨by omega, by omega⟩, by simp; omega, ?_⟩
    have hX' := hX trivial
    rw [take_snoc hi, List.map_append] at hX'
    rw [wrap_i64 _ (by omega) (by omega)]
    exact hX'
  · intro _ X
    unfold pedagoguelaw19_LossRows_n0_B
    dsimp only
    rw [if_neg (by simp), List.take_length]; exact h

theorem same_v {p q r : List Int} {c : Nat} {K0 K1 : Unit → Prop} (hc : c ≤ 10) (hq : q.length = c) (hr : r.length = c) (hp : p = q ++ r) (h : K0 ()) : pedagoguelaw19_LossRows_n3 (c : Int) (c : Int) p q r K0 K1 0 := by
  have hpl : p.length = c + c := by rw [hp, List.length_append]; omega
  refine ⟨Loop.range (B := pedagoguelaw19_LossRows_n3_B (c : Int) (c : Int) p q r K0 K1) (f := fun i : Nat => (i : Int)) c (fun _ => True) trivial ?_ ?_⟩
  · intro i hi _ X hX
    unfold pedagoguelaw19_LossRows_n3_B
    rw [if_pos (by simp; omega), Int.toNat_natCast, wrap_i64 ((c : Int) + (i : Int)) (by omega) (by omega)]
    refine ⟨⟨by omega, by omega⟩, ⟨by omega, by omega⟩, ?_⟩
    have e1 : p.getD i 0 = q.getD i 0 := by
      rw [hp, List.getD_eq_getElem?_getD, List.getD_eq_getElem?_getD, List.getElem?_append_left (by omega)]
    have e2 : p.getD ((c : Int) + (i : Int)).toNat 0 = r.getD i 0 := by
      rw [show ((c : Int) + (i : Int)).toNat = c + i by omega, hp, List.getD_eq_getElem?_getD, List.getD_eq_getElem?_getD, List.getElem?_append_right (by omega), hq, Nat.add_sub_cancel_left]
    rw [e1, e2]
    simp only [jn, bne_self_eq_false, Bool.false_eq_true, if_false]
    refine ⟨⟨by omega, by omega⟩, ⟨by omega, by omega⟩, ?_⟩
    rw [wrap_i64 _ (by omega) (by omega)]
    exact hX trivial
  · intro _ X
    unfold pedagoguelaw19_LossRows_n3_B
    rw [if_neg (by simp)]; exact h

theorem mk1 {y : List Int} {e k : Int} {c : Nat} (hc : 2 ≤ c ∧ c ≤ 10) (hl : y.length = c) (he : -59 ≤ e ∧ e ≤ 59) (hk : 0 ≤ k ∧ k < (c : Int)) (hy : ∀ x ∈ y, -127 ≤ x ∧ x ≤ 127) : OkL ([1, (c : Int)], (e, y)) [k] 1 c where
  dims := rfl
  n1 := by omega
  c2 := hc
  len := by simp only; omega
  most := by omega
  exp := by simp only; omega
  no := fun h => by have := hy _ h; omega
  kl := rfl
  kr := fun i hi => by rw [show i = 0 by omega]; exact hk
theorem grad1 {y : List Int} {e k : Int} {c : Nat} (hc : 2 ≤ c ∧ c ≤ 10) (hl : y.length = c) (he : -59 ≤ e ∧ e ≤ 59) (hk : 0 ≤ k ∧ k < (c : Int)) (hy : ∀ x ∈ y, -127 ≤ x ∧ x ≤ 127) : gradF ([1, (c : Int)], (e, y)) [k] = (([1, (c : Int)], (-7, gradRow y e k)), 0) := by
  rw [(mk1 hc hl he hk hy).grad, gradData_eq (n := 1) (by omega) (by simp only; omega)]
  have : rowAt y c 0 = y := by unfold rowAt; rw [Nat.zero_mul, Nat.zero_add, List.drop_zero, List.take_of_length_le (by omega)]
  simp [List.range_succ, this]

theorem law_rows {a b : List Int} {e i j : Int} {Q : Bool → Prop} (ha : All8 a) (hb : All8 b) (h : Q true) : pedagoguelaw19_LossRows a b e i j Q := by
  refine ⟨?_⟩
  unfold pedagoguelaw19_LossRows_t
  by_cases hc : (a.length < 2 ∨ 10 < a.length) ∨ a.length ≠ b.length
  · rw [if_pos (by simp only [Bool.or_eq_true, decide_eq_true_eq, bne_iff_ne, ne_eq]; omega)]
    exact awake_v h
  rw [if_neg (by simp only [Bool.or_eq_true, decide_eq_true_eq, bne_iff_ne, ne_eq]; omega)]
  have hlb : b.length = a.length := by omega
  obtain ⟨c, hac⟩ : ∃ c, a.length = c := ⟨_, rfl⟩
  have hcr : 2 ≤ c ∧ c ≤ 10 := by omega
  refine ⟨by omega, by simp; omega, by simp; omega, ?_⟩
  rw [List.nil_append]
  refine copy_v (by simp; omega) ?_
  have hy : ∀ x ∈ (a ++ b).map lift7, -127 ≤ x ∧ x ≤ 127 := by
    intro x hx
    obtain ⟨z, hz, rfl⟩ := List.mem_map.1 hx
    refine lift7_rng ?_
    rcases List.mem_append.1 hz with hz | hz
    · exact ha z hz
    · exact hb z hz
  have hyl : ((a ++ b).map lift7).length = c + c := by simp; omega
  generalize (a ++ b).map lift7 = y at *
  obtain ⟨x, hx⟩ : ∃ x, e.tmod 60 = x := ⟨_, rfl⟩
  have hxr : -59 ≤ x ∧ x ≤ 59 := by
    have h1 := Int.tmod_lt_of_pos e (show (0 : Int) < 60 by omega)
    have h2 := Int.lt_tmod_of_pos e (show (0 : Int) < 60 by omega)
    omega
  rw [hx, hac]
  have hu : IntKind.u64.wrap (c : Int) ≠ 0 := by
    have h1 : IntKind.u64.wrap (c : Int) = (c : Int) := by simp only [IntKind.wrap, IntKind.bits, IntKind.signed]; simp; omega
    rw [h1]; omega
  refine ⟨hu, hu, ?_⟩
  have hi := umod_rng (a := i) hcr
  have hj := umod_rng (a := j) hcr
  generalize IntKind.i64.wrap ((IntKind.u64.wrap i).tmod (IntKind.u64.wrap (c : Int))) = k at *
  generalize IntKind.i64.wrap ((IntKind.u64.wrap j).tmod (IntKind.u64.wrap (c : Int))) = k2 at *
  have ok2 : OkL ([2, (c : Int)], (x, y)) [k, k2] 2 c := {
    dims := rfl
    n1 := by omega
    c2 := hcr
    len := by simp only; omega
    most := by omega
    exp := by simp only; omega
    no := fun h => by have := hy _ h; omega
    kl := rfl
    kr := fun i hi => by
      have : i = 0 ∨ i = 1 := by omega
      rcases this with rfl | rfl <;> simpa }
  have hy8 : All8 y := fun z hz => by have := hy z hz; omega
  have hyt : ∀ z ∈ y.take c, -127 ≤ z ∧ z ≤ 127 := fun z hz => hy z (List.mem_of_mem_take hz)
  have hyd : ∀ z ∈ y.drop c, -127 ≤ z ∧ z ≤ 127 := fun z hz => hy z (List.mem_of_mem_drop hz)
  have htl : (y.take c).length = c := by simp; omega
  have hdl : (y.drop c).length = c := by simp; omega
  have r0 : rowAt y c 0 = y.take c := by unfold rowAt; rw [Nat.zero_mul, Nat.zero_add, List.drop_zero]
  have r1 : rowAt y c 1 = y.drop c := by unfold rowAt; rw [Nat.one_mul, List.take_of_length_le (by omega)]
  have g2 : gradF ([2, (c : Int)], (x, y)) [k, k2] = (([2, (c : Int)], (-7, gradRow (y.take c) x k ++ gradRow (y.drop c) x k2)), 0) := by
    rw [ok2.grad, gradData_eq (n := 2) (by omega) (by simp only; omega)]
    simp [List.range_succ, r0, r1]
  refine grad_v (t := ([2, (c : Int)], (x, y))) hy8 ?_
  rw [g2]
  refine ⟨⟨trivial, by omega, by omega, by omega⟩, ?_⟩
  have e1 : (y.take ((c : Int)).toNat).drop ((0 : Int)).toNat = y.take c := by simp
  rw [e1]
  refine grad_v (t := ([1, (c : Int)], (x, y.take c))) (fun z hz => by have := hyt z hz; omega) ?_
  rw [grad1 hcr htl hxr hi hyt]
  refine ⟨?_⟩
  unfold pedagoguelaw19_LossRows_n1_t
  refine ⟨⟨trivial, by omega, by omega, by omega⟩, ?_⟩
  have e2 : (y.take ((y.length : Int)).toNat).drop ((c : Int)).toNat = y.drop c := by simp
  rw [e2]
  refine grad_v (t := ([1, (c : Int)], (x, y.drop c))) (fun z hz => by have := hyd z hz; omega) ?_
  rw [grad1 hcr hdl hxr hj hyd]
  have l0 := gradRow_len (l := y.take c) (e := x) (k := k) (by omega)
  have l1 := gradRow_len (l := y.drop c) (e := x) (k := k2) (by omega)
  have hw : IntKind.i64.wrap (2 * (c : Int)) = 2 * (c : Int) := wrap_i64 _ (by omega) (by omega)
  rw [if_neg]
  · refine ⟨?_⟩
    unfold pedagoguelaw19_LossRows_n2_t
    exact same_v hcr.2 (l0.trans htl) (l1.trans hdl) rfl (awake_v h)
  · have m0 := l0.trans htl
    have m1 := l1.trans hdl
    simp [hw, m0, m1]
    omega
end Go.Proofs.Ytpbegbmmhpencaa
