/- What chapters 13 and 14 (units, sums of two) come to. Laws; no condition. -/
import Derived.Test.YteencpiamangfaaWS
namespace Go.Proofs.Yteencpiamangfaa
open Go.Mach Go.RowKit
set_option maxRecDepth 100000
set_option linter.unusedVariables false
set_option linter.unusedSimpArgs false

theorem equal64_v {a b : List Int} {Q : Bool → Prop} (hl : a.length ≤ 1000000000000000) (h : Q (decide (a = b))) : slices_Equal_int_int a b Q := by
  refine ⟨?_⟩
  unfold slices_Equal_int_int_t
  by_cases e : a.length = b.length
  · rw [if_neg (by simp [e])]
    refine ⟨?_⟩
    refine Loop.range (B := slices_Equal_int_int_n0_B a b (a.length : Int) (fun _ => Q true) (fun _ => Q false)) a.length (fun i => (i : Int)) (fun i => ∀ j, j < i → a.getD j 0 = b.getD j 0) (fun j hj => absurd hj (by omega)) ?_ ?_
    · intro i hi hI X hX
      unfold slices_Equal_int_int_n0_B
      rw [if_pos (decide_eq_true (show (i : Int) < (a.length : Int) by omega))]
      refine ⟨by omega, by omega, ?_⟩
      simp only [Int.toNat_natCast]
      by_cases hd : a.getD i 0 = b.getD i 0
      · rw [if_neg (by simpa using hd), wrap_i64 _ (by omega) (by omega)]
        refine hX fun j hj => ?_
        by_cases hji : j = i
        · subst hji; exact hd
        · exact hI j (by omega)
      · rw [if_pos (by simpa using hd)]
        have : decide (a = b) = false := by
          simp only [decide_eq_false_iff_not]
          intro hab; exact hd (by rw [hab])
        rw [this] at h; exact h
    · intro hI X
      unfold slices_Equal_int_int_n0_B
      rw [if_neg (by simp)]
      have : decide (a = b) = true := by
        simp only [decide_eq_true_eq]
        refine List.ext_getElem e fun i h1 h2 => ?_
        have := hI i h1
        rw [List.getD_eq_getElem?_getD, List.getD_eq_getElem?_getD, List.getElem?_eq_getElem h1, List.getElem?_eq_getElem h2] at this
        exact this
      rw [this] at h; exact h
  · rw [if_pos (by simp; omega)]
    have : decide (a = b) = false := by
      simp only [decide_eq_false_iff_not]
      intro hab; exact e (by rw [hab])
    rw [this] at h; exact h
theorem same_v {a b : List Int} {Q : Bool → Prop} (hl : a.length ≤ 1000000000000000) (h : Q (decide (a = b))) : shape_Same a b Q := ⟨equal64_v hl h⟩

theorem mayF_lens {a : T3} (h : mayF a = true) : a.1.length ≤ 4 ∧ a.2.2.length ≤ 8192 ∧ 1 ≤ a.1.length ∧ 1 ≤ a.1.getD 0 0 ∧ a.1.getD 0 0 ≤ 4096 := by
  obtain ⟨h1, h2, _⟩ := mayF_iff.1 h
  obtain ⟨h3, h4, _⟩ := szF_inv h1
  have h5 := szF_le a.1
  refine ⟨h3.2, by omega, h3.1, ?_⟩
  match hA : a.1 with
  | [] => rw [hA] at h3; simp at h3
  | x :: l => exact h4 x (by rw [hA]; simp)

/-! ### Flat, Shape, Relu -/
def shapeF (t : T3) (d : List Int) : T3 × Int :=
  if mayF t = true ∧ 0 < szF d then (if szF d = (t.2.2.length : Int) then ((d, t.2.1, t.2.2), 0) else (([], 0, []), 2)) else (([], 0, []), 1)
theorem shape_v {t : T3} {d : List Int} {Q : T3 × Int → Prop} (hd : d.length ≤ 17592186044416) (h : Q (shapeF t d)) : unit_Shape t d Q := by
  refine ⟨mayT_v ?_⟩
  unfold jn
  dsimp only
  unfold shapeF at h
  cases hm : mayF t with
  | false =>
    rw [if_neg (by rw [hm]; simp)] at h
    rw [if_pos (by rfl), if_pos (by rfl)]
    exact h
  | true =>
    rw [if_neg (by simp)]
    refine may_v ?_
    by_cases hs : 0 < szF d
    · rw [if_pos ⟨hm, hs⟩] at h
      rw [decide_eq_true hs, if_neg (by simp)]
      refine size_v ?_
      by_cases he : szF d = (t.2.2.length : Int)
      · rw [if_pos he] at h
        rw [if_neg (by simp [he])]
        refine clone_v hd (clone8_v ?_ h)
        have := (mayF_lens hm).2.1
        omega
      · rw [if_neg he] at h
        rw [if_pos (by simpa using he)]
        exact h
    · rw [if_neg (fun hh => hs hh.2)] at h
      rw [decide_eq_false hs, if_pos (by rfl)]
      exact h
def flatF (t : T3) : T3 × Int := if mayF t = true then shapeF t [t.1.getD 0 0, IntKind.i64.wrap ((szF t.1).tdiv (t.1.getD 0 0))] else (([], 0, []), 1)
theorem flat_v {t : T3} {Q : T3 × Int → Prop} (h : Q (flatF t)) : unit_Flat t Q := by
  refine ⟨mayT_v ?_⟩
  unfold flatF at h
  cases hm : mayF t with
  | false =>
    rw [if_neg (by rw [hm]; simp)] at h
    rw [if_pos (by rfl)]
    exact h
  | true =>
    rw [if_pos hm] at h
    rw [if_neg (by simp)]
    obtain ⟨h1, h2, h3, h4, h5⟩ := mayF_lens hm
    refine ⟨by omega, size_v ⟨by omega, ⟨by omega, shape_v (by simp) ?_⟩⟩⟩
    exact h
def reluF (t : T3) : T3 × Int := if mayF t = true then ((t.1, t.2.1, t.2.2.map (greater 0)), 0) else (([], 0, []), 1)
theorem relu_v {t : T3} {Q : T3 × Int → Prop} (h : Q (reluF t)) : unit_Relu t Q := by
  refine ⟨mayT_v ?_⟩
  unfold reluF at h
  cases hm : mayF t with
  | false =>
    rw [if_neg (by rw [hm]; simp)] at h
    rw [if_pos (by rfl)]
    exact h
  | true =>
    rw [if_pos hm] at h
    rw [if_neg (by simp)]
    obtain ⟨h1, h2, _⟩ := mayF_lens hm
    refine ⟨clone_v (by dsimp only; omega) ⟨?_⟩⟩
    dsimp only
    refine Loop.range (B := unit_like__unit_Relu_1_n0_B t.1 t.2.1 t.2.2 (t.2.2.length : Int) _) t.2.2.length (fun i => ((i : Int), (t.2.2.take i).map (greater 0))) (fun _ => True) trivial ?_ ?_
    · intro i hi _ X hX
      unfold unit_like__unit_Relu_1_n0_B
      dsimp only
      rw [if_pos (decide_eq_true (show (i : Int) < (t.2.2.length : Int) by omega))]
      refine ⟨⟨by omega, ?_⟩⟩
      rw [Int.toNat_natCast]
      refine ⟨by simp; omega, ?_⟩
      rw [wrap_i64 _ (by omega) (by omega)]
      have e : (t.2.2.take i).map (greater 0) ++ [greater 0 (t.2.2.getD i 0)] = (t.2.2.take (i + 1)).map (greater 0) := by
        rw [List.take_add_one, List.getD_eq_getElem?_getD, List.getElem?_eq_getElem hi, List.map_append]
        rfl
      rw [e]
      exact hX trivial
    · intro _ X
      unfold unit_like__unit_Relu_1_n0_B
      dsimp only
      rw [if_neg (by simp), List.take_length]
      exact h

/-! ### Sums of two -/
def addE (a b : T3) : Int := greater (smaller a.2.1 b.2.1) (IntKind.i64.wrap (greater a.2.1 b.2.1 - 12))
def addC (a b : T3) (i : Nat) : Int := IntKind.i32.wrap (IntKind.i64.wrap (alF (IntKind.i64.wrap (a.2.2.getD i 0)) a.2.1 (addE a b) + alF (IntKind.i64.wrap (b.2.2.getD i 0)) b.2.1 (addE a b)))
def addF (a b : T3) : T3 × Int :=
  if mayF a = true ∧ mayF b = true then (if a.1 = b.1 then ((a.1, addE a b, (List.range a.2.2.length).map (addC a b)), 0) else (([], 0, []), 2)) else (([], 0, []), 1)
theorem add_v {a b : T3} {Q : T3 × Int → Prop} (h : Q (addF a b)) : add_Add a b Q := by
  refine ⟨mayT_v ?_⟩
  unfold jn
  dsimp only
  unfold addF at h
  cases hm : mayF a with
  | false =>
    rw [if_neg (by rw [hm]; simp)] at h
    rw [if_pos (by rfl), if_pos (by rfl)]
    exact h
  | true =>
    rw [if_neg (by simp)]
    refine mayT_v ?_
    cases hn : mayF b with
    | false =>
      rw [if_neg (by rw [hn]; simp)] at h
      rw [if_pos (by rfl)]
      exact h
    | true =>
      rw [if_pos ⟨hm, hn⟩] at h
      rw [if_neg (by simp)]
      obtain ⟨h1, h2, _⟩ := mayF_lens hm
      obtain ⟨k1, k2, _⟩ := mayF_lens hn
      refine same_v (by omega) ?_
      by_cases he : a.1 = b.1
      · rw [if_pos he] at h
        rw [decide_eq_true he, if_neg (by simp)]
        have hlen : a.2.2.length = b.2.2.length := by
          have q1 := (mayF_iff.1 hm).2.1
          have q2 := (mayF_iff.1 hn).2.1
          rw [he] at q1
          omega
        refine clone_v (by omega) ⟨?_⟩
        refine Loop.range (B := add_Add_n0_B (a.2.2.length : Int) a.2.1 a.2.2 b.2.1 b.2.2 (addE a b) _) a.2.2.length (fun i => ((i : Int), (List.range i).map (addC a b))) (fun _ => True) trivial ?_ ?_
        · intro i hi _ X hX
          unfold add_Add_n0_B
          dsimp only
          rw [if_pos (decide_eq_true (show (i : Int) < (a.2.2.length : Int) by omega))]
          refine ⟨by omega, ?_⟩
          rw [Int.toNat_natCast]
          refine al_v ⟨by omega, al_v ⟨by simp; omega, ?_⟩⟩
          rw [wrap_i64 ((i : Int) + 1) (by omega) (by omega)]
          have e : (List.range i).map (addC a b) ++ [addC a b i] = (List.range (i + 1)).map (addC a b) := by
            rw [List.range_succ, List.map_append]; rfl
          have := hX trivial
          rw [← e] at this
          exact this
        · intro _ X
          unfold add_Add_n0_B
          dsimp only
          rw [if_neg (by simp)]
          exact h
      · rw [if_neg he] at h
        rw [decide_eq_false he, if_pos (by rfl)]
        exact h

end Go.Proofs.Yteencpiamangfaa
