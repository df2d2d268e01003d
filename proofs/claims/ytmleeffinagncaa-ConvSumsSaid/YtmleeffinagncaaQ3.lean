/- How many windows fit. Laws; no condition. -/
import Derived.Test.YtmleeffinagncaaQ2
namespace Go.Proofs.Ytmleeffinagncaa
open Go.Mach Go.RowKit Go.Fl
set_option maxRecDepth 100000
set_option linter.unusedVariables false
set_option linter.unusedSimpArgs false

theorem or_v {b c : Bool} {Q K : Bool → Prop} {G : (Bool → Prop) → Prop} (hG : ∀ P : Bool → Prop, P c → G P) (hK : ∀ v, v = (b || c) → K v) (hQ : Q = K) : jn (fun v => Q v) (fun J => if b = true then J true else G J) := by
  subst hQ
  cases b with
  | true => exact hK _ rfl
  | false => show (if false = true then Q true else G (fun v => Q v)); rw [if_neg (by simp)]; exact hG _ (hK _ (by simp))
theorem sin_v {a lo hi : Int} {Q : Bool → Prop} (h : Q (inP a lo hi)) : shape_in a lo hi Q := ⟨h⟩
/-- Whether windows do not fit. -/
def badOut (n k s p : Int) : Bool := (((!inP n 1 16 || !inP k 1 5) || !inP s 1 4) || !inP p 0 (k - 1)) || decide (n + 2 * p < k)
def outF (n k s p : Int) : Int := if badOut n k s p = true then 0 else (n + 2 * p - k) / s + 1
theorem out_v {n k s p : Int} {Q : Int → Prop} (h : Q (outF n k s p)) : shape_Out n k s p Q := by
  refine ⟨?_⟩
  unfold shape_Out_t
  refine sin_v ?_
  refine or_v (b := !inP n 1 16) (c := !inP k 1 5) (fun P hp => sin_v hp) (fun v2 e2 => ?_) rfl
  refine or_v (c := !inP s 1 4) (fun P hp => sin_v hp) (fun v5 e5 => ?_) rfl
  refine or_v (c := !inP p 0 (IntKind.i64.wrap (k - 1))) (fun P hp => sin_v hp) (fun v8 e8 => ?_) rfl
  have e8' : v8 = (((!inP n 1 16 || !inP k 1 5) || !inP s 1 4) || !inP p 0 (IntKind.i64.wrap (k - 1))) := by rw [e8, e5, e2]
  by_cases hc : ((!inP n 1 16 || !inP k 1 5) || !inP s 1 4) = true
  · have hv : v8 = true := by rw [e8', hc]; rfl
    have hb : badOut n k s p = true := by unfold badOut; rw [hc]; rfl
    unfold outF at h
    rw [if_pos hb] at h
    rw [hv, if_pos (by rfl)]
    exact h
  · have hc' : ((!inP n 1 16 || !inP k 1 5) || !inP s 1 4) = false := by simpa using hc
    simp only [Bool.or_eq_false_iff, Bool.not_eq_false'] at hc'
    have b1 : 1 ≤ n ∧ n ≤ 16 := by simpa [inP] using hc'.1.1
    have b2 : 1 ≤ k ∧ k ≤ 5 := by simpa [inP] using hc'.1.2
    have b3 : 1 ≤ s ∧ s ≤ 4 := by simpa [inP] using hc'.2
    rw [wrap_i64 (k - 1) (by omega) (by omega)] at e8'
    cases hv : v8 with
    | true =>
      have hb : badOut n k s p = true := by unfold badOut; rw [← e8', hv]; rfl
      unfold outF at h
      rw [if_pos hb] at h
      rw [if_pos (by rfl)]
      exact h
    | false =>
      have hp : inP p 0 (k - 1) = true := by
        rw [hv] at e8'
        have := e8'.symm
        simp only [Bool.or_eq_false_iff, Bool.not_eq_false'] at this
        exact this.2
      have b4 : 0 ≤ p ∧ p ≤ k - 1 := by simpa [inP] using hp
      rw [wrap_i64 (2 * p) (by omega) (by omega), wrap_i64 (n + 2 * p) (by omega) (by omega)]
      have hbe : badOut n k s p = decide (n + 2 * p < k) := by unfold badOut; rw [← e8', hv, Bool.false_or]
      unfold outF at h
      rw [hbe] at h
      rw [Bool.false_or]
      by_cases hl : decide (n + 2 * p < k) = true
      · rw [if_pos hl] at h ⊢; exact h
      · rw [if_neg hl] at h ⊢
        have hl2 : ¬ (n + 2 * p < k) := by simpa using hl
        have d0 : 0 ≤ (n + 2 * p - k) / s := Int.ediv_nonneg (by omega) (by omega)
        have d1 : (n + 2 * p - k) / s ≤ n + 2 * p - k := Int.ediv_le_self _ (by omega)
        refine ⟨by omega, ?_⟩
        rw [wrap_i64 (n + 2 * p - k) (by omega) (by omega), Int.tdiv_eq_ediv_of_nonneg (by omega), wrap_i64 ((n + 2 * p - k) / s) (by omega) (by omega), wrap_i64 _ (by omega) (by omega)]
        exact h

theorem badOut_inv {n k s p : Int} (h : badOut n k s p = false) : (1 ≤ n ∧ n ≤ 16) ∧ (1 ≤ k ∧ k ≤ 5) ∧ (1 ≤ s ∧ s ≤ 4) ∧ (0 ≤ p ∧ p ≤ k - 1) ∧ k ≤ n + 2 * p := by
  unfold badOut at h
  simp only [Bool.or_eq_false_iff, Bool.not_eq_false', decide_eq_false_iff_not] at h
  obtain ⟨⟨⟨⟨h1, h2⟩, h3⟩, h4⟩, h5⟩ := h
  exact ⟨by simpa [inP] using h1, by simpa [inP] using h2, by simpa [inP] using h3, by simpa [inP] using h4, by omega⟩
theorem outF_rng (n k s p : Int) : 0 ≤ outF n k s p ∧ outF n k s p ≤ 25 ∧ (1 ≤ outF n k s p → badOut n k s p = false) := by
  unfold outF
  cases hb : badOut n k s p with
  | true => rw [if_pos rfl]; exact ⟨by omega, by omega, fun h => by omega⟩
  | false =>
    rw [if_neg (by simp)]
    obtain ⟨b1, b2, b3, b4, b5⟩ := badOut_inv hb
    have d0 : 0 ≤ (n + 2 * p - k) / s := Int.ediv_nonneg (by omega) (by omega)
    have d1 : (n + 2 * p - k) / s ≤ n + 2 * p - k := Int.ediv_le_self _ (by omega)
    exact ⟨by omega, by omega, fun _ => rfl⟩
/-- Whether there is no such window. -/
def noWin (rows cols r c k s p : Int) : Bool := ((decide (outF rows k s p < 1) || decide (outF cols k s p < 1)) || !inP r 0 (outF rows k s p - 1)) || !inP c 0 (outF cols k s p - 1)
def windowF (rows cols r c k s p : Int) : List (Int × Int × Int) := if noWin rows cols r c k s p = true then [] else winF rows cols (s * r - p) (s * c - p) k.toNat k.toNat
theorem Window_v {rows cols r c k s p : Int} {Q : List (Int × Int × Int) → Prop} (h : Q (windowF rows cols r c k s p)) : place_Window rows cols r c k s p Q := by
  refine ⟨?_⟩
  unfold place_Window_t
  refine ⟨?_⟩
  unfold place_plane_out_t
  refine out_v (out_v ?_)
  obtain ⟨m1, m2, m3⟩ := outF_rng rows k s p
  obtain ⟨n1, n2, n3⟩ := outF_rng cols k s p
  unfold windowF noWin at h
  dsimp only
  rw [wrap_i64 (outF rows k s p - 1) (by omega) (by omega), wrap_i64 (outF cols k s p - 1) (by omega) (by omega)]
  refine or_v (b := decide (outF rows k s p < 1) || decide (outF cols k s p < 1)) (c := !inP r 0 (outF rows k s p - 1)) (fun P hp => pin_v hp) (fun v2 e2 => ?_) rfl
  refine or_v (c := !inP c 0 (outF cols k s p - 1)) (fun P hp => pin_v hp) (fun v5 e5 => ?_) rfl
  rw [← e2, ← e5] at h
  cases hv : v5 with
  | true => rw [hv, if_pos rfl] at h; rw [if_pos (by rfl)]; exact h
  | false =>
    rw [hv, if_neg (by simp)] at h
    rw [if_neg (by simp)]
    rw [hv, e2] at e5
    have := e5.symm
    simp only [Bool.or_eq_false_iff, Bool.not_eq_false', decide_eq_false_iff_not] at this
    obtain ⟨⟨⟨g1, g2⟩, g3⟩, g4⟩ := this
    obtain ⟨b1, b2, b3, b4, b5⟩ := badOut_inv (m3 (by omega))
    obtain ⟨c1, _⟩ := badOut_inv (n3 (by omega))
    have r1 : 0 ≤ r ∧ r ≤ outF rows k s p - 1 := by simpa [inP] using g3
    have r2 : 0 ≤ c ∧ c ≤ outF cols k s p - 1 := by simpa [inP] using g4
    have hk : ((k.toNat : Nat) : Int) = k := by omega
    have := window_v (rows := rows) (cols := cols) (stride := s) (pad := p) (r := r) (c := c) (k := k.toNat) (Q := fun r8 => Q r8) (by omega) (by omega) (by omega) (by omega) (by omega) (by omega) (by omega) h
    rw [hk] at this
    exact this

end Go.Proofs.Ytmleeffinagncaa
