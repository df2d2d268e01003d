/- Which nets may be; two nets; bytes. Laws; no condition. -/
import Derived.Test.YthphkjgkgdjmdaaDoorQA
import Derived.Test.YthphkjgkgdjmdaaDoorM2
import Derived.Lib.AtoiTie
namespace Go.Proofs.YthphkjgkgdjmdaaDoor
open Go.Mach Go.RowKit
set_option maxRecDepth 100000
set_option linter.unusedVariables false
set_option linter.unusedSimpArgs false

def inP (a lo hi : Int) : Bool := decide (lo ≤ a) && decide (a ≤ hi)
theorem inP_of {a lo hi : Int} (h1 : lo ≤ a) (h2 : a ≤ hi) : inP a lo hi = true := by
  unfold inP
  rw [decide_eq_true h1, decide_eq_true h2]
  rfl
abbrev Lay := Int × Int × Int × Int × Int × Int × Bool
abbrev Mdl := (Int × Int × Int) × List Lay
abbrev Lay0 : Lay := (0, 0, 0, 0, 0, 0, false)

theorem min_v {a lo hi : Int} {Q : Bool → Prop} (h : Q (inP a lo hi)) : model_in a lo hi Q := ⟨h⟩
def entersB (a : Int × Int × Int) : Bool := (inP a.1 1 8 && inP a.2.1 1 16) && inP a.2.2 1 16
theorem enters_v {a : Int × Int × Int} {Q : Bool → Prop} (h : Q (entersB a)) : model_enters a Q := by
  refine ⟨min_v ?_⟩
  unfold jn
  dsimp only
  unfold entersB at h
  cases h1 : inP a.1 1 8 with
  | false => rw [h1] at h; rw [if_neg (by simp), if_neg (by simp)]; exact h
  | true =>
    rw [h1] at h
    rw [if_pos rfl]
    refine min_v ?_
    cases h2 : inP a.2.1 1 16 with
    | false => rw [h2] at h; rw [if_neg (by simp)]; exact h
    | true => rw [h2] at h; rw [if_pos rfl]; exact min_v h
def winB (x : Lay) : Bool := inP x.2.2.1 1 5 && inP x.2.2.2.1 1 4
theorem win_v {x : Lay} {Q : Bool → Prop} (h : Q (winB x)) : model_window x Q := by
  refine ⟨min_v ?_⟩
  unfold jn
  dsimp only
  unfold winB at h
  cases h1 : inP x.2.2.1 1 5 with
  | false => rw [h1] at h; rw [if_neg (by simp)]; exact h
  | true => rw [h1] at h; rw [if_pos rfl]; exact min_v h

/-- May a layer be, behind so many? -/
def mayLF (x : Lay) (n : Int) : Bool :=
  if x.1 = 1 then inP x.2.1 1 4096 && ((x.2.2.1 == 0) && ((x.2.2.2.1 == 0) && ((x.2.2.2.2.1 == 0) && (x.2.2.2.2.2.1 == 0))))
  else if x.1 = 2 then ((inP x.2.1 1 8 && winB x) && inP x.2.2.2.2.1 0 (IntKind.i64.wrap (x.2.2.1 - 1))) && (x.2.2.2.2.2.1 == 0)
  else if x.1 = 3 ∨ x.1 = 4 then winB x && ((x.2.1 == 0) && ((x.2.2.2.2.1 == 0) && ((x.2.2.2.2.2.1 == 0) && (x.2.2.2.2.2.2 == false))))
  else if x.1 = 5 ∨ x.1 = 6 then (x.2.1 == 0) && ((x.2.2.1 == 0) && ((x.2.2.2.1 == 0) && ((x.2.2.2.2.1 == 0) && ((x.2.2.2.2.2.1 == 0) && (x.2.2.2.2.2.2 == false)))))
  else if x.1 = 7 then inP x.2.2.2.2.2.1 0 (IntKind.i64.wrap (n - 1)) && ((x.2.1 == 0) && ((x.2.2.1 == 0) && ((x.2.2.2.1 == 0) && ((x.2.2.2.2.1 == 0) && (x.2.2.2.2.2.2 == false)))))
  else false
theorem n0_v {K : Unit → Prop} (h : K ()) : model_may_n0 K := ⟨h⟩
theorem mayL_v {x : Lay} {n : Int} {Q : Bool → Prop} (h : Q (mayLF x n)) : model_may x n Q := by
  obtain ⟨kd, ou, k, st, pd, fr, fz⟩ := x
  refine ⟨?_⟩
  dsimp only
  unfold mayLF at h
  dsimp only at h
  by_cases h1 : kd = 1
  · rw [if_pos h1] at h
    rw [if_pos (by simpa using h1)]
    refine min_v (n0_v ?_)
    refine cast (congrArg Q ?_) h
    simp
  rw [if_neg h1] at h
  rw [if_neg (by simpa using h1)]
  by_cases h2 : kd = 2
  · rw [if_pos h2] at h
    rw [if_pos (by simpa using h2)]
    refine min_v ?_
    unfold jn
    dsimp only
    cases e1 : inP ou 1 8 with
    | false =>
      rw [e1] at h
      rw [if_neg (by simp), if_neg (by simp)]
      refine n0_v (cast (congrArg Q ?_) h)
      simp
    | true =>
      rw [e1] at h
      rw [if_pos rfl]
      refine win_v ?_
      cases e2 : winB (kd, ou, k, st, pd, fr, fz) with
      | false =>
        rw [e2] at h
        rw [if_neg (by simp)]
        refine n0_v (cast (congrArg Q ?_) h)
        simp
      | true =>
        rw [e2] at h
        rw [if_pos rfl]
        refine min_v (n0_v (cast (congrArg Q ?_) h))
        simp
  rw [if_neg h2] at h
  rw [if_neg (by simpa using h2)]
  have fin : ∀ {b : Bool} {k' st' fr' : Int}, (b && ((kd == kd) && ((ou == 0) && ((k == k') && ((st == st') && ((pd == 0) && ((fr == fr') && ((fz == false) && (true)))))))))
      = (b && ((ou == 0) && ((k == k') && ((st == st') && ((pd == 0) && ((fr == fr') && (fz == false))))))) := by
    intro b k' st' fr'
    simp
  by_cases h3 : kd = 3
  · rw [if_pos (.inl h3)] at h
    rw [if_pos (by simpa using h3)]
    refine ⟨?_⟩
    rw [if_pos (by simpa using h3)]
    refine win_v (n0_v (cast (congrArg Q ?_) h))
    rw [fin]
    simp
  rw [if_neg (by simpa using h3)]
  refine ⟨?_⟩
  by_cases h4 : kd = 4
  · rw [if_pos (.inr h4)] at h
    rw [if_pos (by simpa using h4)]
    refine win_v (n0_v (cast (congrArg Q ?_) h))
    rw [fin]
    simp
  rw [if_neg (by omega)] at h
  rw [if_neg (by simpa using h4)]
  by_cases h5 : kd = 5
  · rw [if_pos (.inl h5)] at h
    rw [if_pos (by simpa using h5)]
    refine ⟨?_⟩
    rw [if_pos (by simpa using h5)]
    refine n0_v (cast (congrArg Q ?_) h)
    rw [fin]
    simp
  rw [if_neg (by simpa using h5)]
  refine ⟨?_⟩
  by_cases h6 : kd = 6
  · rw [if_pos (.inr h6)] at h
    rw [if_pos (by simpa using h6)]
    refine n0_v (cast (congrArg Q ?_) h)
    rw [fin]
    simp
  rw [if_neg (by omega)] at h
  rw [if_neg (by simpa using h6)]
  by_cases h7 : kd = 7
  · rw [if_pos h7] at h
    rw [if_pos (by simpa using h7)]
    refine min_v (n0_v (cast (congrArg Q ?_) h))
    rw [fin]
    simp
  · rw [if_neg h7] at h
    rw [if_neg (by simpa using h7)]
    refine n0_v (cast (congrArg Q ?_) h)
    simp

def mayLs (l : List Lay) : Bool := (List.range l.length).all fun i => mayLF (l.getD i Lay0) i
def mayMF (m : Mdl) : Bool := (entersB m.1 && inP (m.2.length : Int) 1 12) && mayLs m.2
theorem mayM_v {m : Mdl} {Q : Bool → Prop} (hl : m.2.length ≤ 10000000000000) (h : Q (mayMF m)) : model_May m Q := by
  refine ⟨enters_v ?_⟩
  unfold jn
  dsimp only
  unfold mayMF at h
  cases h1 : entersB m.1 with
  | false =>
    rw [h1] at h
    rw [if_pos (by rfl), if_pos rfl]
    exact h
  | true =>
    rw [h1] at h
    rw [if_neg (by simp)]
    refine min_v ?_
    cases h2 : inP (m.2.length : Int) 1 12 with
    | false =>
      rw [h2] at h
      rw [if_pos (by rfl)]
      exact h
    | true =>
      rw [h2] at h
      rw [if_neg (by simp)]
      simp only [Bool.true_and] at h
      refine ⟨?_⟩
      refine Loop.range (B := model_May_n0_B m.2 (m.2.length : Int) (fun _ => Q true) (fun _ => Q false)) m.2.length (fun i => (i : Int)) (fun i => ∀ j, j < i → mayLF (m.2.getD j Lay0) j = true) (fun j hj => absurd hj (by omega)) ?_ ?_
      · intro i hi hI X hX
        unfold model_May_n0_B
        rw [if_pos (decide_eq_true (show (i : Int) < (m.2.length : Int) by omega))]
        refine ⟨by omega, mayL_v ?_⟩
        simp only [Int.toNat_natCast]
        show if (!mayLF (m.2.getD i Lay0) i) = true then _ else _
        cases hb : mayLF (m.2.getD i Lay0) i with
        | true =>
          rw [if_neg (by simp), wrap_i64 _ (by omega) (by omega)]
          refine hX fun j hj => ?_
          by_cases hji : j = i
          · subst hji; exact hb
          · exact hI j (by omega)
        | false =>
          rw [if_pos (by rfl)]
          have : mayLs m.2 = false := by
            unfold mayLs
            rw [List.all_eq_false]
            exact ⟨i, List.mem_range.2 hi, by rw [hb]; simp⟩
          rw [this] at h
          exact h
      · intro hI X
        unfold model_May_n0_B
        rw [if_neg (by simp)]
        have : mayLs m.2 = true := by
          unfold mayLs
          rw [List.all_eq_true]
          intro j hj
          exact hI j (List.mem_range.1 hj)
        rw [this] at h
        exact h
theorem mayMF_inv {m : Mdl} (h : mayMF m = true) : ((1 ≤ m.1.1 ∧ m.1.1 ≤ 8) ∧ (1 ≤ m.1.2.1 ∧ m.1.2.1 ≤ 16) ∧ (1 ≤ m.1.2.2 ∧ m.1.2.2 ≤ 16)) ∧ (1 ≤ m.2.length ∧ m.2.length ≤ 12) ∧ ∀ i, i < m.2.length → mayLF (m.2.getD i Lay0) i = true := by
  unfold mayMF entersB inP at h
  simp only [Bool.and_eq_true, decide_eq_true_eq] at h
  refine ⟨⟨h.1.1.1.1, h.1.1.1.2, h.1.1.2⟩, by omega, fun i hi => ?_⟩
  have := h.2
  unfold mayLs at this
  rw [List.all_eq_true] at this
  exact this i (List.mem_range.2 hi)


/-! ### Two nets -/
instance layDec3 : DecidableEq (Int × Int × Int × Bool) := inferInstance
instance layDec5 : DecidableEq (Int × Int × Int × Int × Int × Bool) := inferInstance
instance layDec : DecidableEq Lay := inferInstance
instance laysDec : DecidableEq (List Lay) := instDecidableEqList
instance mdlDec : DecidableEq Mdl := inferInstanceAs (DecidableEq ((Int × Int × Int) × List Lay))
theorem layeq (x y : Lay) : ((x.1 == y.1) && ((x.2.1 == y.2.1) && ((x.2.2.1 == y.2.2.1) && ((x.2.2.2.1 == y.2.2.2.1) && ((x.2.2.2.2.1 == y.2.2.2.2.1) && ((x.2.2.2.2.2.1 == y.2.2.2.2.2.1) && ((x.2.2.2.2.2.2 == y.2.2.2.2.2.2) && true))))))) = decide (x = y) := by
  obtain ⟨x1, x2, x3, x4, x5, x6, x7⟩ := x
  obtain ⟨y1, y2, y3, y4, y5, y6, y7⟩ := y
  rw [Bool.eq_iff_iff, decide_eq_true_iff]
  simp [Prod.mk.injEq]
theorem list_ext_getD {α : Type} {d : α} {a b : List α} (hl : a.length = b.length) (h : ∀ i, i < a.length → a.getD i d = b.getD i d) : a = b := by
  apply List.ext_getElem? 
  intro i
  by_cases hi : i < a.length
  · have := h i hi
    simp only [List.getD_eq_getElem?_getD, List.getElem?_eq_getElem hi, List.getElem?_eq_getElem (show i < b.length by omega), Option.getD_some] at this ⊢
    rw [this]
  · rw [List.getElem?_eq_none (by omega), List.getElem?_eq_none (by omega)]
theorem lequal_v {a b : List Lay} {Q : Bool → Prop} (hl : a.length ≤ 10000000000000) (h : Q (decide (a = b))) : slices_Equal_api_Layer_api_Layer a b Q := by
  refine ⟨?_⟩
  by_cases hn : a.length = b.length
  · rw [if_neg (by simp [hn])]
    refine ⟨?_⟩
    refine Loop.range (B := slices_Equal_api_Layer_api_Layer_n0_B a b (a.length : Int) (fun _ => Q true) (fun _ => Q false)) a.length (fun i => (i : Int)) (fun i => ∀ j, j < i → a.getD j Lay0 = b.getD j Lay0) (fun j hj => absurd hj (by omega)) ?_ ?_
    · intro i hi hI X hX
      unfold slices_Equal_api_Layer_api_Layer_n0_B
      rw [if_pos (decide_eq_true (show (i : Int) < (a.length : Int) by omega))]
      refine ⟨by omega, by omega, ?_⟩
      simp only [Int.toNat_natCast]
      rw [show _ = decide (a.getD i Lay0 = b.getD i Lay0) from layeq (a.getD i Lay0) (b.getD i Lay0)]
      by_cases he : a.getD i Lay0 = b.getD i Lay0
      · rw [if_neg (by simp only [decide_eq_true he]; decide), wrap_i64 _ (by omega) (by omega)]
        refine hX fun j hj => ?_
        by_cases hji : j = i
        · subst hji; exact he
        · exact hI j (by omega)
      · rw [if_pos (by simp only [decide_eq_false he]; decide)]
        rw [decide_eq_false (fun e => he (by rw [e]))] at h
        exact h
    · intro hI X
      unfold slices_Equal_api_Layer_api_Layer_n0_B
      rw [if_neg (by simp)]
      rw [decide_eq_true (list_ext_getD (d := Lay0) hn hI)] at h
      exact h
  · rw [if_pos (by simp; omega)]
    rw [decide_eq_false (fun e => hn (by rw [e]))] at h
    exact h
theorem ineq (x y : Int × Int × Int) : ((x.1 == y.1) && ((x.2.1 == y.2.1) && ((x.2.2 == y.2.2) && true))) = decide (x = y) := by
  obtain ⟨x1, x2, x3⟩ := x
  obtain ⟨y1, y2, y3⟩ := y
  rw [Bool.eq_iff_iff, decide_eq_true_iff]
  simp [Prod.mk.injEq]
theorem msame_v {a b : Mdl} {Q : Bool → Prop} (hl : a.2.length ≤ 10000000000000) (h : Q (decide (a = b))) : model_Same a b Q := by
  refine ⟨?_⟩
  unfold jn
  dsimp only
  rw [ineq]
  by_cases hi : a.1 = b.1
  · rw [decide_eq_true hi, if_pos rfl]
    refine lequal_v hl ?_
    have : decide (a.2 = b.2) = decide (a = b) := by
      rw [Bool.eq_iff_iff, decide_eq_true_iff, decide_eq_true_iff]
      exact ⟨fun e => Prod.ext hi e, fun e => by rw [e]⟩
    rw [this]
    exact h
  · rw [decide_eq_false hi, if_neg (by simp)]
    rw [decide_eq_false (fun e => hi (by rw [e]))] at h
    exact h

/-! ### Bytes -/
theorem bytes_loop (s : ByteArray) : ∀ (n i : Nat) (r : List UInt8), s.size - i = n → ByteArray.toList.loop s i r = r.reverse ++ s.data.toList.drop i
  | 0, i, r, h => by
    have e : s.data.toList.length = s.size := by rw [Array.length_toList]; rfl
    rw [ByteArray.toList.loop, if_neg (by omega), List.drop_eq_nil_of_le (by omega), List.append_nil]
  | n + 1, i, r, h => by
    rw [ByteArray.toList.loop, if_pos (by omega), bytes_loop s n (i + 1) _ (by omega)]
    have e : s.data.toList.length = s.size := by rw [Array.length_toList]; rfl
    have hi : i < s.data.toList.length := by omega
    rw [List.drop_eq_getElem_cons hi]
    simp [ByteArray.get!]
    rw [getElem!_pos s.data i (by simpa using hi)]
theorem bytes_toList (s : ByteArray) : s.toList = s.data.toList := by
  unfold ByteArray.toList
  rw [bytes_loop s s.size 0 [] rfl]
  simp
theorem bytes_eq (a b : ByteArray) : (a.toList == b.toList) = decide (a = b) := by
  rw [bytes_toList, bytes_toList, Bool.eq_iff_iff, beq_iff_eq, decide_eq_true_iff]
  constructor
  · intro h
    cases a; cases b
    simp at h ⊢
    exact h
  · intro h; rw [h]

end Go.Proofs.YthphkjgkgdjmdaaDoor
