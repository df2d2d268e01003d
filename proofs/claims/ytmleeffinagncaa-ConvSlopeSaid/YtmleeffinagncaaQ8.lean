/- Arguments by remainder, plain shapes, lists held against each other. Laws; no condition. -/
import Derived.Test.YtmleeffinagncaaQ7
namespace Go.Proofs.Ytmleeffinagncaa
open Go.Mach Go.RowKit
set_option maxRecDepth 100000
set_option linter.unusedVariables false
set_option linter.unusedSimpArgs false

theorem u64_nonneg (a : Int) : 0 ≤ IntKind.u64.wrap a := by
  simp only [IntKind.wrap, IntKind.bits, IntKind.signed]; simp; omega
theorem umod (a m : Int) (h : 0 < m) (hm : m ≤ 1000000) : ∃ n : Nat, IntKind.i64.wrap ((IntKind.u64.wrap a).tmod m) = n ∧ (n : Int) < m := by
  have h0 := u64_nonneg a
  rw [Int.tmod_eq_emod_of_nonneg h0]
  have h1 := Int.emod_nonneg (IntKind.u64.wrap a) (b := m) (by omega)
  have h2 := Int.emod_lt_of_pos (IntKind.u64.wrap a) h
  obtain ⟨n, hn⟩ := Int.eq_ofNat_of_zero_le h1
  exact ⟨n, by rw [wrap_i64 _ (by omega) (by omega), hn], by omega⟩
theorem outF_plain {n k : Nat} (h1 : 1 ≤ n) (h2 : n ≤ 16) (h3 : 1 ≤ k) (h4 : k ≤ 5) (h5 : k ≤ n) : outF n k 1 0 = ((n - k + 1 : Nat) : Int) := by
  unfold outF badOut inP
  rw [if_neg (by simp; omega), Int.ediv_one]
  omega
theorem szF4_one {h : Nat} (h1 : 1 ≤ h) (h2 : h ≤ 16) : szF [1, 1, (h : Int), (h : Int)] = ((h * h : Nat) : Int) := by
  have hh : h * h ≤ 16 * 16 := Nat.mul_le_mul h2 h2
  have := szF4_of (n := 1) (m := 1) (p := h) (q := h) (by omega) (by omega) (by omega) (by omega) (by simp only [Nat.one_mul]; omega)
  simp only [Nat.one_mul] at this
  exact this

theorem cmayF_of {l : List T3} (h : ∀ t ∈ l, mayF t = true ∧ (t.1.length : Int) = 4) : cmayF l = 0 := by
  unfold cmayF
  rw [if_pos (List.all_eq_true.2 fun t ht => (h t ht).1), if_pos (List.all_eq_true.2 fun t ht => by simpa using (h t ht).2)]
/-- What Forward answers, where all goes together. -/
theorem convF_ok {n C H V O K P R : Nat} {x w b : T3} {s p : Int} (mx : mayF x = true) (mw : mayF w = true) (mb : mayF b = true) (ex : x.1 = [(n : Int), C, H, V]) (ew : w.1 = [(O : Int), C, K, K]) (eb : b.1 = [(O : Int)])
    (eP : outF H K s p = P) (eR : outF V K s p = R) (hP : 0 < P) (hR : 0 < R) (hf : C * K * K ≤ 959) (hs : 0 < szF [(n : Int), O, P, R]) :
    convF x w b s p = (([(n : Int), O, P, R], (x.2.1 + w.2.1, lst4 n O P R (fwdCell H V C K s p x.2.2 w.2.2 b.2.2 b.2.1 (x.2.1 + w.2.1)))), 0) := by
  have hc : cmayF [x, w] = 0 := cmayF_of fun t ht => by
    rcases List.mem_cons.1 ht with e | e
    · subst e; exact ⟨mx, by rw [ex]; rfl⟩
    · rcases List.mem_singleton.1 e with rfl
      exact ⟨mw, by rw [ew]; rfl⟩
  have x2 := (mayF_iff.1 mx).2.2.1
  have w2 := (mayF_iff.1 mw).2.2.1
  have hb : convBad x w b s p = false := by
    unfold convBad
    simp only [ex, ew, eb, List.getD_cons_zero, List.getD_cons_succ, eP, eR]
    simp
    omega
  have hE : convE x w b s p = 0 := by
    unfold convE
    rw [mb, hc, hb]
    simp only [Bool.not_true, Bool.false_eq_true, if_false, bne_self_eq_false]
    unfold convDims convN
    simp only [ex, ew, List.getD_cons_zero, List.getD_cons_succ, eP, eR]
    rw [sumsF_of (fitsF_iff.2 ⟨by rw [← Int.natCast_mul, ← Int.natCast_mul]; omega, by rw [← Int.natCast_mul, ← Int.natCast_mul]; omega⟩) (by omega) hs]
  unfold convF
  rw [hE, if_neg (by simp)]
  unfold convDims convData
  simp only [ex, ew, List.getD_cons_zero, List.getD_cons_succ, eP, eR, Int.toNat_natCast]

/-- A loop that holds two lists against each other, place by place. -/
theorem loop_same {B : Int → (Int → Prop) → Prop} (a b : List Int) (hl : a.length = b.length) {K0 K1 : Prop} (step : ∀ i : Nat, i < a.length → ∀ X : Int → Prop, (a.getD i 0 = b.getD i 0 → X ((i + 1 : Nat) : Int)) → (a.getD i 0 ≠ b.getD i 0 → K1) → B (i : Int) X) (last : K0 → ∀ X, B (a.length : Int) X) (h : if a = b then K0 else K1) : Go.Mach.Loop B 0 := by
  refine Loop.range (B := B) (f := fun i : Nat => (i : Int)) a.length (fun i => ∀ j, j < i → a.getD j 0 = b.getD j 0) (fun j hj => absurd hj (by omega)) ?_ ?_
  · intro i hi hI X hX
    refine step i hi X (fun e => hX fun j hj => ?_) (fun e => ?_)
    · by_cases g : j = i
      · subst g; exact e
      · exact hI j (by omega)
    · rw [if_neg (fun g => e (by rw [g]))] at h
      exact h
  · intro hI X
    refine last ?_ X
    rw [if_pos (list_of hl hI)] at h
    exact h
theorem sints_v {a b : List Int} {Q : Bool → Prop} (hl : a.length ≤ 1000000) (h : Q (decide (a = b))) : pedagogueref1_SameInts a b Q := by
  refine ⟨?_⟩
  unfold pedagogueref1_SameInts_t
  by_cases e : a.length = b.length
  · rw [if_neg (by simp [e])]
    refine ⟨?_⟩
    refine loop_same (B := pedagogueref1_SameInts_n0_B a b (a.length : Int) _ _) a b e (K0 := Q true) (K1 := Q false) ?_ ?_ ?_
    · intro i hi X hX hK
      unfold pedagogueref1_SameInts_n0_B
      rw [if_pos (by simpa using hi)]
      refine ⟨by omega, by omega, ?_⟩
      simp only [Int.toNat_natCast]
      by_cases g : a.getD i 0 = b.getD i 0
      · rw [if_neg (by simpa using g), wrap_i64 _ (by omega) (by omega)]; exact hX g
      · rw [if_pos (by simpa using g)]; exact hK g
    · intro hK X
      unfold pedagogueref1_SameInts_n0_B
      rw [if_neg (by simp)]
      exact hK
    · by_cases g : a = b
      · rw [if_pos g]; simpa [g] using h
      · rw [if_neg g]; simpa [g] using h
  · rw [if_pos (by simp; omega)]
    rw [decide_eq_false (fun g => e (by rw [g]))] at h
    exact h
theorem sacc_v {a b : T3} {Q : Bool → Prop} (h1 : a.1.length ≤ 1000000) (h2 : a.2.2.length ≤ 1000000) (h : Q (decide (a = b))) : pedagogueref1_SameAcc a b Q := by
  refine ⟨?_⟩
  unfold pedagogueref1_SameAcc_t
  refine sints_v h1 ?_
  obtain ⟨d, e, l⟩ := a
  obtain ⟨d', e', l'⟩ := b
  simp only at h1 h2 ⊢
  by_cases g : d = d' ∧ e = e' ∧ l.length = l'.length
  · obtain ⟨g1, g2, g3⟩ := g
    rw [if_neg (by simp [g1, g2, g3])]
    refine ⟨?_⟩
    refine loop_same (B := pedagogueref1_SameAcc_n0_B (l.length : Int) l l' _ _) l l' g3 (K0 := Q true) (K1 := Q false) ?_ ?_ ?_
    · intro i hi X hX hK
      unfold pedagogueref1_SameAcc_n0_B
      rw [if_pos (by simpa using hi)]
      refine ⟨by omega, by omega, ?_⟩
      simp only [Int.toNat_natCast]
      by_cases g : l.getD i 0 = l'.getD i 0
      · rw [if_neg (by simpa using g), wrap_i64 _ (by omega) (by omega)]; exact hX g
      · rw [if_pos (by simpa using g)]; exact hK g
    · intro hK X
      unfold pedagogueref1_SameAcc_n0_B
      rw [if_neg (by simp)]
      exact hK
    · subst g1 g2
      by_cases g : l = l'
      · rw [if_pos g]; simpa [g] using h
      · rw [if_neg g]; simpa [g] using h
  · rw [if_pos (by
      simp only [Bool.or_eq_true, Bool.not_eq_true', decide_eq_false_iff_not, bne_iff_ne, ne_eq]
      by_cases g1 : d = d'
      · by_cases g2 : e = e'
        · right; intro g3; exact g ⟨g1, g2, by omega⟩
        · left; right; exact g2
      · left; left; exact g1)]
    have : ¬ ((d, e, l) = (d', e', l')) := fun hh => by
      simp only [Prod.mk.injEq] at hh
      exact g ⟨hh.1, hh.2.1, by rw [hh.2.2]⟩
    rw [decide_eq_false this] at h
    exact h

theorem out_fit {h k s p P : Int} (e : outF h k s p = P) {y : Int} (hy : y < P) (h0 : 0 ≤ y) : s * y + k ≤ h + 2 * p := by
  obtain ⟨b1, b2, b3, b4, b5, b6⟩ := out_ok (n := h) (k := k) (s := s) (p := p) (by omega)
  have h1 : y ≤ (h + 2 * p - k) / s := by omega
  have h2 : s * y ≤ s * ((h + 2 * p - k) / s) := Int.mul_le_mul_of_nonneg_left h1 (by omega)
  have h3 := Int.mul_ediv_self_le (x := h + 2 * p - k) (k := s) (by omega)
  omega
theorem outF_zero {n k s p : Int} (h : outF n k s p = 0) : badOut n k s p = true := by
  unfold outF at h
  split at h
  · assumption
  · rename_i hb
    obtain ⟨b1, b2, b3, b4, b5⟩ := badOut_inv (by simpa using hb)
    have := Int.ediv_nonneg (a := n + 2 * p - k) (b := s) (by omega) (by omega)
    omega
theorem outF_pad {h k s p : Int} (h1 : h + 2 * p ≤ 16) (h0 : 0 < outF h k s p) : outF (h + 2 * p) k s 0 = outF h k s p := by
  obtain ⟨b1, b2, b3, b4, b5, b6⟩ := out_ok h0
  rw [b6]
  unfold outF badOut inP
  rw [if_neg (by simp; omega)]
  simp

end Go.Proofs.Ytmleeffinagncaa
