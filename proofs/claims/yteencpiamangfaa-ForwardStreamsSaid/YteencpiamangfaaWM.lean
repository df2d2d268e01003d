/- What a net's checks come to: may it be, its shapes, the lengths of its weights. Laws; no condition. -/
import Derived.Test.YteencpiamangfaaWU
import Derived.Test.YteencpiamangfaaF4
namespace Go.Proofs.Yteencpiamangfaa
open Go.Mach Go.RowKit
set_option maxRecDepth 100000
set_option linter.unusedVariables false
set_option linter.unusedSimpArgs false

abbrev Lay := Int × Int × Int × Int × Int × Int × Bool
abbrev Mdl := (Int × Int × Int) × List Lay
abbrev Lay0 : Lay := (0, 0, 0, 0, 0, 0, false)

theorem min_v {a lo hi : Int} {Q : Bool → Prop} (h : Q (inP a lo hi)) : model_in a lo hi Q := ⟨h⟩
def entersB (a : Int × Int × Int) : Bool := (inP a.1 1 8 && inP a.2.1 1 16) && inP a.2.2 1 16
theorem enters_v {a : Int × Int × Int} {Q : Bool → Prop} (h : Q (entersB a)) : model_enters a Q := by
  refine ⟨min_v ?_⟩
  unfold jn
  dsimp only
  unfold entersB at h
  cases h1 : inP a.1 1 8 with
  | false => rw [h1] at h; rw [if_neg (by simp), if_neg (by simp)]; exact h
  | true =>
    rw [h1] at h
    rw [if_pos rfl]
    refine min_v ?_
    cases h2 : inP a.2.1 1 16 with
    | false => rw [h2] at h; rw [if_neg (by simp)]; exact h
    | true => rw [h2] at h; rw [if_pos rfl]; exact min_v h
def winB (x : Lay) : Bool := inP x.2.2.1 1 5 && inP x.2.2.2.1 1 4
theorem win_v {x : Lay} {Q : Bool → Prop} (h : Q (winB x)) : model_window x Q := by
  refine ⟨min_v ?_⟩
  unfold jn
  dsimp only
  unfold winB at h
  cases h1 : inP x.2.2.1 1 5 with
  | false => rw [h1] at h; rw [if_neg (by simp)]; exact h
  | true => rw [h1] at h; rw [if_pos rfl]; exact min_v h

/-- May a layer be, behind so many? -/
def mayLF (x : Lay) (n : Int) : Bool :=
  if x.1 = 1 then inP x.2.1 1 4096 && ((x.2.2.1 == 0) && ((x.2.2.2.1 == 0) && ((x.2.2.2.2.1 == 0) && (x.2.2.2.2.2.1 == 0))))
  else if x.1 = 2 then ((inP x.2.1 1 8 && winB x) && inP x.2.2.2.2.1 0 (IntKind.i64.wrap (x.2.2.1 - 1))) && (x.2.2.2.2.2.1 == 0)
  else if x.1 = 3 ∨ x.1 = 4 then winB x && ((x.2.1 == 0) && ((x.2.2.2.2.1 == 0) && ((x.2.2.2.2.2.1 == 0) && (x.2.2.2.2.2.2 == false))))
  else if x.1 = 5 ∨ x.1 = 6 then (x.2.1 == 0) && ((x.2.2.1 == 0) && ((x.2.2.2.1 == 0) && ((x.2.2.2.2.1 == 0) && ((x.2.2.2.2.2.1 == 0) && (x.2.2.2.2.2.2 == false)))))
  else if x.1 = 7 then inP x.2.2.2.2.2.1 0 (IntKind.i64.wrap (n - 1)) && ((x.2.1 == 0) && ((x.2.2.1 == 0) && ((x.2.2.2.1 == 0) && ((x.2.2.2.2.1 == 0) && (x.2.2.2.2.2.2 == false)))))
  else false
theorem n0_v {K : Unit → Prop} (h : K ()) : model_may_n0 K := ⟨h⟩
theorem mayL_v {x : Lay} {n : Int} {Q : Bool → Prop} (h : Q (mayLF x n)) : model_may x n Q := by
  obtain ⟨kd, ou, k, st, pd, fr, fz⟩ := x
  refine ⟨?_⟩
  unfold model_may_t
  dsimp only
  unfold mayLF at h
  dsimp only at h
  by_cases h1 : kd = 1
  · rw [if_pos h1] at h
    rw [if_pos (by simpa using h1)]
    refine min_v (n0_v ?_)
    refine cast (congrArg Q ?_) h
    simp
  rw [if_neg h1] at h
  rw [if_neg (by simpa using h1)]
  by_cases h2 : kd = 2
  · rw [if_pos h2] at h
    rw [if_pos (by simpa using h2)]
    refine min_v ?_
    unfold jn
    dsimp only
    cases e1 : inP ou 1 8 with
    | false =>
      rw [e1] at h
      rw [if_neg (by simp), if_neg (by simp)]
      refine n0_v (cast (congrArg Q ?_) h)
      simp
    | true =>
      rw [e1] at h
      rw [if_pos rfl]
      refine win_v ?_
      cases e2 : winB (kd, ou, k, st, pd, fr, fz) with
      | false =>
        rw [e2] at h
        rw [if_neg (by simp)]
        refine n0_v (cast (congrArg Q ?_) h)
        simp
      | true =>
        rw [e2] at h
        rw [if_pos rfl]
        refine min_v (n0_v (cast (congrArg Q ?_) h))
        simp
  rw [if_neg h2] at h
  rw [if_neg (by simpa using h2)]
  have fin : ∀ {b : Bool} {k' st' fr' : Int}, (b && ((kd == kd) && ((ou == 0) && ((k == k') && ((st == st') && ((pd == 0) && ((fr == fr') && ((fz == false) && (true)))))))))
      = (b && ((ou == 0) && ((k == k') && ((st == st') && ((pd == 0) && ((fr == fr') && (fz == false))))))) := by
    intro b k' st' fr'
    simp
  by_cases h3 : kd = 3
  · rw [if_pos (.inl h3)] at h
    rw [if_pos (by simpa using h3)]
    refine ⟨?_⟩
    unfold model_may_n1_t
    rw [if_pos (by simpa using h3)]
    refine win_v (n0_v (cast (congrArg Q ?_) h))
    rw [fin]
    simp
  rw [if_neg (by simpa using h3)]
  refine ⟨?_⟩
  unfold model_may_n1_t
  by_cases h4 : kd = 4
  · rw [if_pos (.inr h4)] at h
    rw [if_pos (by simpa using h4)]
    refine win_v (n0_v (cast (congrArg Q ?_) h))
    rw [fin]
    simp
  rw [if_neg (by omega)] at h
  rw [if_neg (by simpa using h4)]
  by_cases h5 : kd = 5
  · rw [if_pos (.inl h5)] at h
    rw [if_pos (by simpa using h5)]
    refine ⟨?_⟩
    unfold model_may_n2_t
    rw [if_pos (by simpa using h5)]
    refine n0_v (cast (congrArg Q ?_) h)
    rw [fin]
    simp
  rw [if_neg (by simpa using h5)]
  refine ⟨?_⟩
  unfold model_may_n2_t
  by_cases h6 : kd = 6
  · rw [if_pos (.inr h6)] at h
    rw [if_pos (by simpa using h6)]
    refine n0_v (cast (congrArg Q ?_) h)
    rw [fin]
    simp
  rw [if_neg (by omega)] at h
  rw [if_neg (by simpa using h6)]
  by_cases h7 : kd = 7
  · rw [if_pos h7] at h
    rw [if_pos (by simpa using h7)]
    refine min_v (n0_v (cast (congrArg Q ?_) h))
    rw [fin]
    simp
  · rw [if_neg h7] at h
    rw [if_neg (by simpa using h7)]
    refine n0_v (cast (congrArg Q ?_) h)
    simp

def mayLs (l : List Lay) : Bool := (List.range l.length).all fun i => mayLF (l.getD i Lay0) i
def mayMF (m : Mdl) : Bool := (entersB m.1 && inP (m.2.length : Int) 1 12) && mayLs m.2
theorem mayM_v {m : Mdl} {Q : Bool → Prop} (hl : m.2.length ≤ 1000000000000) (h : Q (mayMF m)) : model_May m Q := by
  refine ⟨enters_v ?_⟩
  unfold jn
  dsimp only
  unfold mayMF at h
  cases h1 : entersB m.1 with
  | false =>
    rw [h1] at h
    rw [if_pos (by rfl), if_pos rfl]
    exact h
  | true =>
    rw [h1] at h
    rw [if_neg (by simp)]
    refine min_v ?_
    cases h2 : inP (m.2.length : Int) 1 12 with
    | false =>
      rw [h2] at h
      rw [if_pos (by rfl)]
      exact h
    | true =>
      rw [h2] at h
      rw [if_neg (by simp)]
      simp only [Bool.true_and] at h
      refine ⟨?_⟩
      refine Loop.range (B := model_May_n0_B m.2 (m.2.length : Int) (fun _ => Q true) (fun _ => Q false)) m.2.length (fun i => (i : Int)) (fun i => ∀ j, j < i → mayLF (m.2.getD j Lay0) j = true) (fun j hj => absurd hj (by omega)) ?_ ?_
      · intro i hi hI X hX
        unfold model_May_n0_B
        rw [if_pos (decide_eq_true (show (i : Int) < (m.2.length : Int) by omega))]
        refine ⟨by omega, mayL_v ?_⟩
        simp only [Int.toNat_natCast]
        show if (!mayLF (m.2.getD i Lay0) i) = true then _ else _
        cases hb : mayLF (m.2.getD i Lay0) i with
        | true =>
          rw [if_neg (by simp), wrap_i64 _ (by omega) (by omega)]
          refine hX fun j hj => ?_
          by_cases hji : j = i
          · subst hji; exact hb
          · exact hI j (by omega)
        | false =>
          rw [if_pos (by rfl)]
          have : mayLs m.2 = false := by
            unfold mayLs
            rw [List.all_eq_false]
            exact ⟨i, List.mem_range.2 hi, by rw [hb]; simp⟩
          rw [this] at h
          exact h
      · intro hI X
        unfold model_May_n0_B
        rw [if_neg (by simp)]
        have : mayLs m.2 = true := by
          unfold mayLs
          rw [List.all_eq_true]
          intro j hj
          exact hI j (List.mem_range.1 hj)
        rw [this] at h
        exact h
theorem mayMF_inv {m : Mdl} (h : mayMF m = true) : ((1 ≤ m.1.1 ∧ m.1.1 ≤ 8) ∧ (1 ≤ m.1.2.1 ∧ m.1.2.1 ≤ 16) ∧ (1 ≤ m.1.2.2 ∧ m.1.2.2 ≤ 16)) ∧ (1 ≤ m.2.length ∧ m.2.length ≤ 12) ∧ ∀ i, i < m.2.length → mayLF (m.2.getD i Lay0) i = true := by
  unfold mayMF entersB inP at h
  simp only [Bool.and_eq_true, decide_eq_true_eq] at h
  refine ⟨⟨h.1.1.1.1, h.1.1.1.2, h.1.1.2⟩, by omega, fun i hi => ?_⟩
  have := h.2
  unfold mayLs at this
  rw [List.all_eq_true] at this
  exact this i (List.mem_range.2 hi)

/-! ### Shapes -/
def prodW (l : List Int) : Int := l.foldl (fun a x => IntKind.i64.wrap (a * x)) 1
theorem product_v {l : List Int} {Q : Int → Prop} (hl : l.length ≤ 1000000000000) (h : Q (prodW l)) : check_product l Q := by
  refine ⟨⟨?_⟩⟩
  refine Loop.range (B := check_product_n0_B l (l.length : Int) _) l.length (fun i => (prodW (l.take i), (i : Int))) (fun _ => True) trivial ?_ ?_
  · intro i hi _ X hX
    unfold check_product_n0_B
    dsimp only
    rw [if_pos (decide_eq_true (show (i : Int) < (l.length : Int) by omega))]
    refine ⟨by omega, ?_⟩
    rw [Int.toNat_natCast, wrap_i64 ((i : Int) + 1) (by omega) (by omega)]
    have e : prodW (l.take (i + 1)) = IntKind.i64.wrap (prodW (l.take i) * l.getD i 0) := by
      unfold prodW
      rw [List.take_add_one, List.foldl_append, List.getD_eq_getElem?_getD, List.getElem?_eq_getElem hi]
      rfl
    rw [← e]
    exact hX trivial
  · intro _ X
    unfold check_product_n0_B
    dsimp only
    rw [if_neg (by simp), List.take_length]
    exact h
def planesF (d : List Int) (c : Int) (x : Lay) : List Int :=
  if d.length = 3 then (if outF (d.getD 1 0) x.2.2.1 x.2.2.2.1 x.2.2.2.2.1 = 0 ∨ outF (d.getD 2 0) x.2.2.1 x.2.2.2.1 x.2.2.2.2.1 = 0 then [] else [c, outF (d.getD 1 0) x.2.2.1 x.2.2.2.1 x.2.2.2.2.1, outF (d.getD 2 0) x.2.2.1 x.2.2.2.1 x.2.2.2.2.1]) else []
theorem planes_v {d : List Int} {c : Int} {x : Lay} {Q : List Int → Prop} (h : Q (planesF d c x)) : check_planes d c x Q := by
  refine ⟨?_⟩
  unfold check_planes_t
  unfold planesF at h
  by_cases h3 : d.length = 3
  · rw [if_pos h3] at h
    rw [if_neg (by simp [h3])]
    refine ⟨by omega, out_v ⟨by omega, out_v ?_⟩⟩
    by_cases hz : outF (d.getD 1 0) x.2.2.1 x.2.2.2.1 x.2.2.2.2.1 = 0 ∨ outF (d.getD 2 0) x.2.2.1 x.2.2.2.1 x.2.2.2.2.1 = 0
    · rw [if_pos hz] at h
      rw [if_pos (by simpa using hz)]
      exact h
    · rw [if_neg hz] at h
      rw [if_neg (by simpa using hz)]
      exact ⟨by simp, h⟩
  · rw [if_neg h3] at h
    rw [if_pos (by simp; omega)]
    exact h
def givesF (x : Lay) (l : List (List Int)) (d : List Int) : List Int :=
  if x.1 = 1 then (if d.length = 1 then [x.2.1] else [])
  else if x.1 = 2 then planesF d x.2.1 x
  else if x.1 = 3 ∨ x.1 = 4 then planesF d (d.getD 0 0) x
  else if x.1 = 5 then d
  else if x.1 = 6 then [prodW d]
  else if x.1 = 7 then (if l.getD x.2.2.2.2.2.1.toNat [] = d then d else [])
  else []
theorem gives_v {x : Lay} {l : List (List Int)} {Q : List Int → Prop} (hl : l ≠ []) (hn : l.length ≤ 1000000) (hd : (l.getD (l.length - 1) []) ≠ []) (hb : ∀ d ∈ l, d.length ≤ 1000000) (hx : x.1 = 7 → 0 ≤ x.2.2.2.2.2.1 ∧ x.2.2.2.2.2.1 < (l.length : Int))
    (h : Q (givesF x l (l.getD (l.length - 1) []))) : check_gives x l Q := by
  have hlen : 1 ≤ l.length := List.length_pos_iff.2 hl
  have hw : IntKind.i64.wrap ((l.length : Int) - 1) = ((l.length - 1 : Nat) : Int) := by rw [wrap_i64 _ (by omega) (by omega)]; omega
  have hdb : (l.getD (l.length - 1) []).length ≤ 1000000 := by
    rw [List.getD_eq_getElem?_getD, List.getElem?_eq_getElem (by omega)]
    exact hb _ (List.getElem_mem _)
  refine ⟨?_⟩
  unfold check_gives_t
  rw [hw]
  simp only [Int.toNat_natCast]
  refine ⟨by omega, ?_⟩
  obtain ⟨d, hde⟩ : ∃ d, l.getD (l.length - 1) [] = d := ⟨_, rfl⟩
  simp only [hde] at h hd hdb ⊢
  have hd0 : 0 < (d.length : Int) := by have := List.length_pos_iff.2 hd; omega
  have pl : ∀ c, Q (planesF d c x) → check_planes d c x (fun r => nz r (Q []) (ck (r ≠ []) (Q r))) := by
    intro c hq
    refine planes_v ⟨fun e => ?_, fun e => ⟨e, hq⟩⟩
    rw [e] at hq; exact hq
  unfold givesF at h
  by_cases h1 : x.1 = 1
  · rw [if_pos h1] at h
    rw [if_pos (by simpa using h1)]
    by_cases h11 : d.length = 1
    · rw [if_pos h11] at h
      rw [if_pos (by simp [h11])]
      exact ⟨by simp, h⟩
    · rw [if_neg h11] at h
      rw [if_neg (by simp; omega)]
      exact h
  rw [if_neg h1] at h
  rw [if_neg (by simpa using h1)]
  by_cases h2 : x.1 = 2
  · rw [if_pos h2] at h
    rw [if_pos (by simpa using h2)]
    exact pl _ h
  rw [if_neg h2] at h
  rw [if_neg (by simpa using h2)]
  by_cases h3 : x.1 = 3
  · rw [if_pos (.inl h3)] at h
    rw [if_pos (by simpa using h3), if_pos (by simpa using h3)]
    exact ⟨by omega, pl _ h⟩
  rw [if_neg (by simpa using h3)]
  by_cases h4 : x.1 = 4
  · rw [if_pos (.inr h4)] at h
    rw [if_pos (by simpa using h4)]
    exact ⟨by omega, pl _ h⟩
  rw [if_neg (by omega)] at h
  rw [if_neg (by simpa using h4)]
  by_cases h5 : x.1 = 5
  · rw [if_pos h5] at h
    rw [if_pos (by simpa using h5)]
    exact clone_v (by omega) ⟨hd, h⟩
  rw [if_neg h5] at h
  rw [if_neg (by simpa using h5)]
  by_cases h6 : x.1 = 6
  · rw [if_pos h6] at h
    rw [if_pos (by simpa using h6)]
    exact product_v (by omega) ⟨by simp, h⟩
  rw [if_neg h6] at h
  rw [if_neg (by simpa using h6)]
  by_cases h7 : x.1 = 7
  · rw [if_pos h7] at h
    rw [if_pos (by simpa using h7)]
    obtain ⟨f1, f2⟩ := hx h7
    refine ⟨⟨f1, f2⟩, equal64_v ?_ ?_⟩
    · rw [List.getD_eq_getElem?_getD, List.getElem?_eq_getElem (by omega)]
      have := hb _ (List.getElem_mem (l := l) (n := x.2.2.2.2.2.1.toNat) (by omega))
      simp only [Option.getD_some]
      omega
    · by_cases he : l.getD x.2.2.2.2.2.1.toNat [] = d
      · rw [if_pos he] at h
        rw [decide_eq_true he, if_pos rfl]
        exact clone_v (by omega) ⟨hd, h⟩
      · rw [if_neg he] at h
        rw [decide_eq_false he, if_neg (by simp)]
        exact h
  · rw [if_neg h7] at h
    rw [if_neg (by simpa using h7)]
    exact h

end Go.Proofs.Yteencpiamangfaa
