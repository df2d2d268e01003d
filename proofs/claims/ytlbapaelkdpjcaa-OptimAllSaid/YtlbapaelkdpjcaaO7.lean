/- The law OptimAll, plainly. No condition. -/
import Derived.Test.YtlbapaelkdpjcaaO5
import Derived.Test.YtlbapaelkdpjcaaNA
import Derived.Test.YtlbapaelkdpjcaaVTold
namespace Go.Proofs.Ytlbapaelkdpjcaa
open Go.Mach Go.RowKit
set_option maxRecDepth 100000
set_option linter.unusedVariables false
set_option linter.unusedSimpArgs false

abbrev PD : Prm := (([], (0, [])), ([], ([], (0, []))))
abbrev GD : Grd := (false, (([], (0, [])), ([], (0, []))))
theorem samePL_refl {A : List Prm} {Q : Bool → Prop} (hA : ∀ i, i < A.length → LensB (A.getD i PD)) (hl : A.length ≤ 1000000) (h : Q true) : pedagogueref10_SameParams A A Q := by
  refine ⟨?_⟩
  unfold pedagogueref10_SameParams_t
  rw [if_neg (by simp)]
  refine ⟨?_⟩
  refine Loop.range (B := pedagogueref10_SameParams_n58_B A A (A.length : Int) (fun _ => Q true) (fun _ => Q false)) A.length (fun i => (i : Int)) (fun _ => True) trivial ?_ ?_
  · intro i hi _ X hX
    have hX := hX trivial
    obtain ⟨l1, l2, l3, l4, l5⟩ := hA i hi
    unfold pedagogueref10_SameParams_n58_B
    rw [if_pos (decide_eq_true (show (i : Int) < (A.length : Int) by omega))]
    refine ⟨by omega, by omega, ?_⟩
    simp only [Int.toNat_natCast]
    generalize hx : A.getD i PD = x at l1 l2 l3 l4 l5
    refine sameTB_refl (a := x.1) (by omega) (by omega) ?_
    simp only [jn, Bool.not_true, Bool.false_eq_true, if_false]
    refine ⟨by omega, by omega, ?_⟩
    refine sameTB_refl (a := x.2.2) (by omega) (by omega) ?_
    simp only [Bool.not_true, Bool.false_eq_true, if_false]
    refine ⟨by omega, by omega, ?_⟩
    show (if ((x.2.1.length : Int) != (x.2.1.length : Int)) = true then Q false else _)
    rw [if_neg (by simp)]
    refine ⟨by omega, ⟨?_⟩⟩
    show Go.Mach.Loop (pedagogueref10_SameParams_n29902_B A A (i : Int) (x.2.1.length : Int) _ _) 0
    refine Loop.range (B := pedagogueref10_SameParams_n29902_B A A (i : Int) (x.2.1.length : Int) _ _) x.2.1.length (fun i => (i : Int)) (fun _ => True) trivial ?_ ?_
    · intro j hj _ Y hY
      have hY := hY trivial
      unfold pedagogueref10_SameParams_n29902_B
      rw [if_pos (decide_eq_true (show (j : Int) < (x.2.1.length : Int) by omega))]
      simp only [Int.toNat_natCast]
      rw [hx]
      refine ⟨by omega, by omega, by omega, by omega, ?_⟩
      rw [if_neg (by simp), wrap_i64 ((j : Int) + 1) (by omega) (by omega)]
      exact hY
    · intro _ Y
      unfold pedagogueref10_SameParams_n29902_B
      rw [if_neg (by simp), wrap_i64 ((i : Int) + 1) (by omega) (by omega)]
      exact hX
  · intro _ X
    unfold pedagogueref10_SameParams_n58_B
    rw [if_neg (by simp)]
    exact h

/-! ### One step behind the other -/
noncomputable def allGo (p : List Prm) (g : List Grd) (h : Hyp) (seed step : Int) : Nat → Nat → List Prm → List Prm × Int × Int
  | 0, _, acc => (acc, 0, 0)
  | n + 1, i, acc => if ((stepF (p.getD i PD) (g.getD i GD) h seed step ((i : Int) + 1)).2 != 0) = true then ([], (i : Int) + 1, (stepF (p.getD i PD) (g.getD i GD) h seed step ((i : Int) + 1)).2)
      else allGo p g h seed step n (i + 1) (acc ++ [(stepF (p.getD i PD) (g.getD i GD) h seed step ((i : Int) + 1)).1])
noncomputable def allF (p : List Prm) (g : List Grd) (h : Hyp) (seed step : Int) : List Prm × Int × Int :=
  if ((!mayHF h) || ((p.length : Int) != (g.length : Int))) = true then ([], 0, 1) else allGo p g h seed step p.length 0 []
theorem allGo_lens {p : List Prm} {g : List Grd} {h : Hyp} {seed step : Int} : ∀ (n i : Nat) (acc : List Prm), (∀ j, i ≤ j → j < i + n → LensB (p.getD j PD)) → (∀ x ∈ acc, LensB x) → (∀ x ∈ (allGo p g h seed step n i acc).1, LensB x) ∧ (allGo p g h seed step n i acc).1.length ≤ acc.length + n
  | 0, i, acc, _, ha => ⟨ha, Nat.le_refl _⟩
  | n + 1, i, acc, hp, ha => by
    unfold allGo
    split
    · exact ⟨fun x hx => (List.not_mem_nil hx).elim, Nat.zero_le _⟩
    · have := allGo_lens (p := p) (g := g) (h := h) (seed := seed) (step := step) n (i + 1) (acc ++ [(stepF (p.getD i PD) (g.getD i GD) h seed step ((i : Int) + 1)).1]) (fun j h1 h2 => hp j (by omega) (by omega)) (fun x hx => by
        rcases List.mem_append.1 hx with hx | hx
        · exact ha x hx
        · rw [List.mem_singleton.1 hx]
          exact stepF_lens (hp i (Nat.le_refl _) (by omega)))
      refine ⟨this.1, ?_⟩
      have := this.2
      rw [List.length_append, List.length_singleton] at this
      omega
theorem all_v {p : List Prm} {g : List Grd} {h : Hyp} {seed step : Int} {Q : List Prm × Int × Int → Prop} (hl : p.length ≤ 1000000) (hp : p.length = g.length → ∀ i, i < p.length → LensB (p.getD i PD)) (hq : Q (allF p g h seed step)) : optim_All p g h seed step Q := by
  refine ⟨?_⟩
  unfold optim_All_t
  refine mayH_v (h := h) ?_
  unfold allF at hq
  by_cases hc : ((!mayHF h) || ((p.length : Int) != (g.length : Int))) = true
  · rw [if_pos hc] at hq ⊢; exact hq
  · rw [if_neg hc] at hq ⊢
    have hlen : p.length = g.length := by
      simp only [Bool.or_eq_true, not_or, bne_iff_ne, ne_eq, Decidable.not_not] at hc
      omega
    have hp := hp hlen
    refine ⟨?_⟩
    refine Loop.inv (n := p.length) (fun m s => ∃ (i : Nat) (acc : List Prm), s = ((i : Int), acc) ∧ i + m = p.length ∧ acc.length = i ∧ Q (allGo p g h seed step m i acc)) ⟨0, [], rfl, by omega, rfl, hq⟩ ?_
    rintro m s X ⟨i, acc, rfl, hi, ha, hQ⟩ hX
    unfold optim_All_n122_B
    cases m with
    | zero =>
      have : ¬ ((i : Int) < (p.length : Int)) := by omega
      rw [if_neg (by simpa using this)]
      exact hQ
    | succ m =>
      rw [if_pos (decide_eq_true (show (i : Int) < (p.length : Int) by omega))]
      refine ⟨by omega, by omega, ?_⟩
      simp only [Int.toNat_natCast]
      rw [wrap_i64 ((i : Int) + 1) (by omega) (by omega)]
      obtain ⟨l1, l2, l3, l4, l5⟩ := hp i (by omega)
      refine step_v (p := p.getD i PD) (g := g.getD i GD) (h := h) l1 l2 l3 l4 l5 ?_
      unfold allGo at hQ
      by_cases h2 : ((stepF (p.getD i PD) (g.getD i GD) h seed step ((i : Int) + 1)).2 != 0) = true
      · rw [if_pos h2] at hQ ⊢
        exact hQ
      · rw [if_neg h2] at hQ ⊢
        refine ⟨by simp only [List.length_singleton]; omega, ?_⟩
        exact hX m _ (by omega) ⟨i + 1, _, rfl, by omega, by simp [ha], hQ⟩
theorem allDown_v {p : List Prm} {g : List Grd} {h : Hyp} {seed step : Int} {Q : List Prm × Int × Int → Prop} (hl : p.length ≤ 1000000) (hp : p.length = g.length → ∀ i, i < p.length → LensB (p.getD i PD)) (hq : Q (allF p g h seed step)) : pedagogueref18_AllDown p g h seed step Q := by
  refine ⟨?_⟩
  unfold pedagogueref18_AllDown_t
  refine rmayH_v (h := h) ?_
  unfold allF at hq
  by_cases hc : ((!mayHF h) || ((p.length : Int) != (g.length : Int))) = true
  · rw [if_pos hc] at hq ⊢; exact hq
  · rw [if_neg hc] at hq ⊢
    have hlen : p.length = g.length := by
      simp only [Bool.or_eq_true, not_or, bne_iff_ne, ne_eq, Decidable.not_not] at hc
      omega
    have hp := hp hlen
    refine ⟨?_⟩
    refine Loop.inv (n := p.length) (fun m s => ∃ (i : Nat) (acc : List Prm), s = ((i : Int), acc) ∧ i + m = p.length ∧ acc.length = i ∧ Q (allGo p g h seed step m i acc)) ⟨0, [], rfl, by omega, rfl, hq⟩ ?_
    rintro m s X ⟨i, acc, rfl, hi, ha, hQ⟩ hX
    unfold pedagogueref18_AllDown_n122_B
    cases m with
    | zero =>
      have : ¬ ((i : Int) < (p.length : Int)) := by omega
      rw [if_neg (by simpa using this)]
      exact hQ
    | succ m =>
      rw [if_pos (decide_eq_true (show (i : Int) < (p.length : Int) by omega))]
      refine ⟨by omega, by omega, ?_⟩
      simp only [Int.toNat_natCast]
      rw [wrap_i64 ((i : Int) + 1) (by omega) (by omega)]
      refine rstep_v (p := p.getD i PD) (g := g.getD i GD) (h := h) (hp i (by omega)) ?_
      unfold allGo at hQ
      by_cases h2 : ((stepF (p.getD i PD) (g.getD i GD) h seed step ((i : Int) + 1)).2 != 0) = true
      · rw [if_pos h2] at hQ ⊢
        exact hQ
      · rw [if_neg h2] at hQ ⊢
        refine ⟨by simp only [List.length_singleton]; omega, ?_⟩
        exact hX m _ (by omega) ⟨i + 1, _, rfl, by omega, by simp [ha], hQ⟩

/-! ### The law -/
structure LongP (p : Prm) : Prop where
  wd : p.1.1.length ≤ 17592186044416
  wv : p.1.2.2.length ≤ 140737488355328
  m : p.2.1.length ≤ 140737488355328
  bd : p.2.2.1.length ≤ 17592186044416
  bv : p.2.2.2.2.length ≤ 140737488355328
structure LongG (g : Grd) : Prop where
  wv : g.2.1.2.2.length ≤ 140737488355328
  bv : g.2.2.2.2.length ≤ 140737488355328
abbrev TyT (k : IntKind) : Ty := .pair (.slc (.int .i64)) (.pair (.int .i64) (.slc (.int k)))
abbrev TyP : Ty := .pair (TyT .i8) (.pair (.slc (.int .i32)) (TyT .i8))
abbrev TyG : Ty := .pair .bool (.pair (TyT .i32) (TyT .i32))
theorem by8 : tyBytes (.int .i64) = 8 := by decide
theorem by4 : tyBytes (.int .i32) = 4 := by decide
theorem by1 : tyBytes (.int .i8) = 1 := by decide
theorem longP_of {p : List Prm} (h : Fits (.slc TyP) p) (i : Nat) (hi : i < p.length) : LongP (p.getD i PD) := by
  have hx : p.getD i PD ∈ p := by
    rw [List.getD_eq_getElem?_getD, List.getElem?_eq_getElem hi]
    exact List.getElem_mem hi
  have h : Fits TyP (p.getD i PD) := h.2 _ hx
  generalize p.getD i PD = x at h
  have hr := Go.reachBytes_lt
  obtain ⟨⟨⟨a1, _⟩, _, ⟨a2, _⟩⟩, ⟨a3, _⟩, ⟨a4, _⟩, _, ⟨a5, _⟩⟩ := h
  rw [by8] at a1 a4
  rw [by4] at a3
  rw [by1] at a2 a5
  exact ⟨by omega, by omega, by omega, by omega, by omega⟩
theorem longG_of {g : List Grd} (h : Fits (.slc TyG) g) (i : Nat) (hi : i < g.length) : LongG (g.getD i GD) := by
  have hx : g.getD i GD ∈ g := by
    rw [List.getD_eq_getElem?_getD, List.getElem?_eq_getElem hi]
    exact List.getElem_mem hi
  have h : Fits TyG (g.getD i GD) := h.2 _ hx
  generalize g.getD i GD = x at h
  have hr := Go.reachBytes_lt
  obtain ⟨_, ⟨_, _, ⟨a2, _⟩⟩, _, _, ⟨a5, _⟩⟩ := h
  rw [by4] at a2 a5
  exact ⟨by omega, by omega⟩
theorem light21_v {p : Prm} {g : Grd} {Q : Bool → Prop} (hp : LongP p) (hg : LongG g) (h : Q (decide ((p.1.2.2.length : Int) + (p.2.1.length : Int) + (p.2.2.2.2.length : Int) + (g.2.1.2.2.length : Int) + (g.2.2.2.2.length : Int) ≤ 600))) : pedagoguelaw21_light p g Q := by
  obtain ⟨k1, k2, k3, k4, k5⟩ := hp
  obtain ⟨k6, k7⟩ := hg
  refine ⟨?_⟩
  unfold pedagoguelaw21_light_t
  rw [wrap_i64 ((p.1.2.2.length : Int) + (p.2.1.length : Int)) (by omega) (by omega), wrap_i64 ((p.1.2.2.length : Int) + (p.2.1.length : Int) + (p.2.2.2.2.length : Int)) (by omega) (by omega), wrap_i64 ((p.1.2.2.length : Int) + (p.2.1.length : Int) + (p.2.2.2.2.length : Int) + (g.2.1.2.2.length : Int)) (by omega) (by omega), wrap_i64 ((p.1.2.2.length : Int) + (p.2.1.length : Int) + (p.2.2.2.2.length : Int) + (g.2.1.2.2.length : Int) + (g.2.2.2.2.length : Int)) (by omega) (by omega)]
  exact h
theorem all_law {p : List Prm} {g : List Grd} {h : Hyp} {seed step : Int} {Q : Bool → Prop} (hp : ∀ i, i < p.length → LongP (p.getD i PD)) (hg : ∀ i, i < g.length → LongG (g.getD i GD)) (hq : Q true) : pedagoguelaw21_OptimAll p g h seed step Q := by
  refine ⟨?_⟩
  unfold pedagoguelaw21_OptimAll_t
  by_cases hc : (decide (15 < (p.length : Int)) || decide (15 < (g.length : Int))) = true
  · rw [if_pos hc]; exact awake21_v hq
  · rw [if_neg hc]
    have hlens : p.length ≤ 15 ∧ g.length ≤ 15 := by
      simp only [Bool.or_eq_true, decide_eq_true_eq, not_or] at hc
      omega
    refine ⟨?_⟩
    refine Loop.range (B := pedagoguelaw21_OptimAll_n58_B g p (p.length : Int) _ _) p.length (fun i => (i : Int)) (fun i => ∀ j, j < i → j < g.length → LensB (p.getD j PD)) (fun j hj => absurd hj (by omega)) ?_ ?_
    · intro i hi hI X hX
      unfold pedagoguelaw21_OptimAll_n58_B
      rw [if_pos (decide_eq_true (show (i : Int) < (p.length : Int) by omega))]
      refine ⟨by omega, ?_⟩
      have hpi := hp i hi
      simp only [jn, Int.toNat_natCast]
      by_cases hgi : i < g.length
      · rw [if_pos (decide_eq_true (show (i : Int) < (g.length : Int) by omega))]
        refine ⟨by omega, light21_v (p := p.getD i PD) (g := g.getD i GD) hpi (hg i hgi) ?_⟩
        by_cases hs : (((p.getD i PD).1.2.2.length : Int) + ((p.getD i PD).2.1.length : Int) + ((p.getD i PD).2.2.2.2.length : Int) + ((g.getD i GD).2.1.2.2.length : Int) + ((g.getD i GD).2.2.2.2.length : Int) ≤ 600)
        · rw [decide_eq_true hs]
          rw [if_neg (by rw [Bool.not_true, Bool.false_or, decide_eq_true_eq]; show ¬ (600 < ((p.getD i PD).1.2.2.length : Int)); omega), wrap_i64 ((i : Int) + 1) (by omega) (by omega)]
          refine hX fun j hj hjg => ?_
          by_cases hji : j = i
          · subst hji
            exact ⟨hpi.wd, by omega, by omega, hpi.bd, by omega⟩
          · exact hI j (by omega) hjg
        · rw [decide_eq_false hs, if_pos (by rfl)]
          exact awake21_v hq
      · rw [if_neg (by rw [decide_eq_true_eq]; omega)]
        by_cases hs : 600 < ((p.getD i PD).1.2.2.length : Int)
        · rw [if_pos (by rw [Bool.false_or]; exact decide_eq_true hs)]
          exact awake21_v hq
        · rw [if_neg (by rw [Bool.false_or, decide_eq_true_eq]; exact hs), wrap_i64 ((i : Int) + 1) (by omega) (by omega)]
          exact hX fun j hj hjg => hI j (by omega) hjg
    · intro hI X
      unfold pedagoguelaw21_OptimAll_n58_B
      rw [if_neg (by simp)]
      have hL : p.length = g.length → ∀ i, i < p.length → LensB (p.getD i PD) := fun e i hi => hI i hi (by omega)
      refine all_v (h := h) (by omega) hL (allDown_v (h := h) (by omega) hL ?_)
      have hR : (∀ x ∈ (allF p g h seed step).1, LensB x) ∧ (allF p g h seed step).1.length ≤ 15 := by
        unfold allF
        split
        · exact ⟨fun x hx => (List.not_mem_nil hx).elim, by simp⟩
        · rename_i hc2
          have hlen : p.length = g.length := by
            simp only [Bool.or_eq_true, not_or, bne_iff_ne, ne_eq, Decidable.not_not] at hc2
            omega
          obtain ⟨k1, k2⟩ := allGo_lens (p := p) (g := g) (h := h) (seed := seed) (step := step) p.length 0 [] (fun j _ h2 => hL hlen j (by omega)) (fun x hx => by cases hx)
          refine ⟨k1, ?_⟩
          have : ([] : List Prm).length = 0 := rfl
          omega
      generalize allF p g h seed step = R at hR ⊢
      refine samePL_refl (A := R.1) (fun i hi => ?_) (by omega) ?_
      · refine hR.1 _ ?_
        rw [List.getD_eq_getElem?_getD, List.getElem?_eq_getElem hi]
        exact List.getElem_mem hi
      · have eb : ((true && (R.2.1 == R.2.1)) && (R.2.2 == R.2.2)) = true := by simp
        simp only [jn]
        rw [if_pos eb]
        exact awake21_v hq

end Go.Proofs.Ytlbapaelkdpjcaa
