/- What conv.Forward answers, whatever it is given. Laws; no condition. -/
import Derived.Test.YtmleeffinagncaaQ5
namespace Go.Proofs.Ytmleeffinagncaa
open Go.Mach Go.RowKit
set_option maxRecDepth 100000
set_option linter.unusedVariables false
set_option linter.unusedSimpArgs false

theorem len4 {l : List Int} (h : (l.length : Int) = 4) : ∃ a b c d, l = [a, b, c, d] := by
  match l, h with
  | [a, b, c, d], _ => exact ⟨a, b, c, d, rfl⟩
  | [], h => simp at h
  | [_], h => simp at h
  | [_, _], h => simp at h
  | [_, _, _], h => simp at h
  | _ :: _ :: _ :: _ :: _ :: r, h => simp at h; omega
theorem len1 {l : List Int} (h : (l.length : Int) = 1) : ∃ a, l = [a] := by
  match l, h with
  | [a], _ => exact ⟨a, rfl⟩
  | [], h => simp at h
  | _ :: _ :: r, h => simp at h; omega
theorem cmayF_zero {l : List T3} (h : cmayF l = 0) : ∀ t ∈ l, mayF t = true ∧ (t.1.length : Int) = 4 := by
  unfold cmayF at h
  split at h
  · split at h
    · rename_i h1 h2
      intro t ht
      exact ⟨List.all_eq_true.1 h1 t ht, by have := List.all_eq_true.1 h2 t ht; simpa using this⟩
    · cases h
  · cases h
/-- A tensor of four lengths that may be. -/
theorem may4 {t : T3} (h : mayF t = true) (hl : (t.1.length : Int) = 4) : ∃ n m p q : Nat, t.1 = [(n : Int), (m : Int), (p : Int), (q : Int)] ∧ 1 ≤ n ∧ 1 ≤ m ∧ 1 ≤ p ∧ 1 ≤ q ∧ n * m * p * q ≤ 8192 ∧ t.2.2.length = n * m * p * q ∧ -64 ≤ t.2.1 ∧ t.2.1 ≤ 64 := by
  obtain ⟨h1, h2, h3, h4⟩ := mayF_iff.1 h
  obtain ⟨a, b, c, d, e⟩ := len4 hl
  rw [e] at h1 h2
  obtain ⟨n, m, p, q, rfl, rfl, rfl, rfl, g1, g2, g3, g4, g5, g6⟩ := szF4 h1
  rw [g6] at h2
  exact ⟨n, m, p, q, e, g1, g2, g3, g4, g5, by omega, h3.1, h3.2⟩
theorem may1 {t : T3} (h : mayF t = true) (hl : (t.1.length : Int) = 1) : ∃ n : Nat, t.1 = [(n : Int)] ∧ 1 ≤ n ∧ n ≤ 4096 ∧ t.2.2.length = n := by
  obtain ⟨h1, h2, h3, h4⟩ := mayF_iff.1 h
  obtain ⟨a, e⟩ := len1 hl
  rw [e] at h1 h2
  obtain ⟨g1, g2, g3⟩ := szF1 h1
  obtain ⟨n, rfl⟩ := Int.eq_ofNat_of_zero_le (show 0 ≤ a by omega)
  rw [g3] at h2
  exact ⟨n, e, by omega, by omega, by omega⟩
theorem out_ok {n k s p : Int} (h : 0 < outF n k s p) : (1 ≤ n ∧ n ≤ 16) ∧ (1 ≤ k ∧ k ≤ 5) ∧ (1 ≤ s ∧ s ≤ 4) ∧ (0 ≤ p ∧ p ≤ k - 1) ∧ k ≤ n + 2 * p ∧ outF n k s p = (n + 2 * p - k) / s + 1 := by
  have hb := (outF_rng n k s p).2.2 (by omega)
  obtain ⟨b1, b2, b3, b4, b5⟩ := badOut_inv hb
  refine ⟨b1, b2, b3, b4, b5, ?_⟩
  unfold outF
  rw [hb, if_neg (by simp)]
theorem out_nat {n k s p : Int} : ∃ P : Nat, outF n k s p = P ∧ P ≤ 25 := by
  obtain ⟨h1, h2, _⟩ := outF_rng n k s p
  obtain ⟨P, e⟩ := Int.eq_ofNat_of_zero_le h1
  exact ⟨P, e, by omega⟩

/-- Whether what Forward is given does not go together. -/
def convBad (x w b : T3) (s p : Int) : Bool :=
  (((!(decide (0 < outF (x.1.getD 2 0) (w.1.getD 2 0) s p) && decide (0 < outF (x.1.getD 3 0) (w.1.getD 2 0) s p)) || (w.1.getD 1 0 != x.1.getD 1 0)) || (w.1.getD 3 0 != w.1.getD 2 0)) || ((b.1.length : Int) != 1)) || (b.1.getD 0 0 != w.1.getD 0 0)
def convDims (x w : T3) (s p : Int) : List Int := [x.1.getD 0 0, w.1.getD 0 0, outF (x.1.getD 2 0) (w.1.getD 2 0) s p, outF (x.1.getD 3 0) (w.1.getD 2 0) s p]
def convN (x w : T3) : Int := x.1.getD 1 0 * w.1.getD 2 0 * w.1.getD 2 0
/-- How Forward ends. -/
def convE (x w b : T3) (s p : Int) : Int :=
  if (!mayF b) = true then 1
  else if (cmayF [x, w] != 0) = true then cmayF [x, w]
  else if convBad x w b s p = true then 2
  else (sumsF (convDims x w s p) (x.2.1 + w.2.1) (convN x w)).2
def convData (x w b : T3) (s p : Int) : List Int :=
  lst4 (x.1.getD 0 0).toNat (w.1.getD 0 0).toNat (outF (x.1.getD 2 0) (w.1.getD 2 0) s p).toNat (outF (x.1.getD 3 0) (w.1.getD 2 0) s p).toNat
    (fwdCell (x.1.getD 2 0).toNat (x.1.getD 3 0).toNat (x.1.getD 1 0).toNat (w.1.getD 2 0).toNat s p x.2.2 w.2.2 b.2.2 b.2.1 (x.2.1 + w.2.1))
/-- What Forward answers. -/
def convF (x w b : T3) (s p : Int) : T3 × Int := if (convE x w b s p != 0) = true then (Z3, convE x w b s p) else ((convDims x w s p, (x.2.1 + w.2.1, convData x w b s p)), 0)

theorem bne_t {a b : Int} : (a != b) = true ↔ a ≠ b := by simp
theorem bne_f {a b : Int} : (a != b) = false ↔ a = b := by simp
theorem conv_v {x w b : T3} {s p : Int} {Q : T3 × Int → Prop} (ax : All8 x.2.2) (aw : All8 w.2.2) (ab : All8 b.2.2) (hq : Q (convF x w b s p)) : conv_Forward x w b s p Q := by
  refine ⟨?_⟩
  unfold conv_Forward_t
  refine mayT_v ?_
  unfold convF convE at hq
  by_cases h1 : (!mayF b) = true
  · rw [if_pos h1]
    simp only [h1, if_true] at hq
    exact hq
  · rw [if_neg h1]
    simp only [h1, Bool.false_eq_true, if_false] at hq
    refine cmay_v (by simp) ?_
    show (if (cmayF [x, w] != 0) = true then _ else _)
    by_cases h2 : (cmayF [x, w] != 0) = true
    · rw [if_pos h2]
      simp only [h2, if_true] at hq
      exact hq
    · rw [if_neg h2]
      simp only [h2, Bool.false_eq_true, if_false] at hq
      have hz : cmayF [x, w] = 0 := by simpa using h2
      have hzz := cmayF_zero hz
      obtain ⟨mx, lx⟩ := hzz x (by simp)
      obtain ⟨mw, lw⟩ := hzz w (by simp)
      obtain ⟨n, C, H, V, ex, x1, x2, x3, x4, x5, x6, x7, x8⟩ := may4 mx lx
      obtain ⟨O, C', K, K', ew, w1, w2, w3, w4, w5, w6, w7, w8⟩ := may4 mw lw
      refine ⟨by omega, by omega, by omega, by omega, by omega, by omega, over_v ?_⟩
      refine orb_v (b := !(decide (0 < outF (x.1.getD 2 0) (w.1.getD 2 0) s p) && decide (0 < outF (x.1.getD 3 0) (w.1.getD 2 0) s p))) (c := w.1.getD 1 0 != x.1.getD 1 0) (fun _ P hp => ⟨by omega, hp⟩) (fun v4 e4 => ?_) rfl
      refine orb_v (c := w.1.getD 3 0 != w.1.getD 2 0) (fun _ P hp => ⟨by omega, hp⟩) (fun v6 e6 => ?_) rfl
      refine orb_v (b := v6 || ((b.1.length : Int) != 1)) (c := b.1.getD 0 0 != w.1.getD 0 0) (fun hb P hp => ⟨by simp only [Bool.or_eq_false_iff, bne_f] at hb; omega, hp⟩) (fun v8 e8 => ?_) rfl
      have hv : v8 = convBad x w b s p := by rw [e8, e6, e4]; rfl
      rw [← hv] at hq
      cases v8 with
      | true => exact hq
      | false =>
        rw [if_neg (by simp)]
        simp only [Bool.false_eq_true, if_false] at hq
        have hv2 := hv.symm
        unfold convBad at hv2
        simp only [Bool.or_eq_false_iff, bne_f, Bool.not_eq_false', Bool.and_eq_true, decide_eq_true_eq] at hv2
        obtain ⟨⟨⟨⟨⟨o1, o2⟩, c1⟩, c2⟩, c3⟩, c4⟩ := hv2
        obtain ⟨O', eb, b1, b2, b3⟩ := may1 (by simpa using h1) c3
        simp only [ex, ew, eb, List.getD_cons_zero, List.getD_cons_succ] at o1 o2 c1 c2 c4
        have ec : C' = C := by omega
        have ek : K' = K := by omega
        have eo : O' = O := by omega
        subst ec ek eo
        obtain ⟨a1, a2, a3, a4, a5, a6⟩ := out_ok o1
        obtain ⟨d1, d2, d3, d4, d5, d6⟩ := out_ok o2
        obtain ⟨P, eP, hP⟩ := out_nat (n := H) (k := K') (s := s) (p := p)
        obtain ⟨R, eR, hR⟩ := out_nat (n := V) (k := K') (s := s) (p := p)
        have hC : C' ≤ 8192 := by
          have : C' ≤ n * C' := Nat.le_mul_of_pos_left _ (by omega)
          have : n * C' ≤ n * C' * H := Nat.le_mul_of_pos_right _ (by omega)
          have : n * C' * H ≤ n * C' * H * V := Nat.le_mul_of_pos_right _ (by omega)
          omega
        have hn : n ≤ 8192 := by
          have : n ≤ n * C' := Nat.le_mul_of_pos_right _ (by omega)
          have : n * C' ≤ n * C' * H := Nat.le_mul_of_pos_right _ (by omega)
          have : n * C' * H ≤ n * C' * H * V := Nat.le_mul_of_pos_right _ (by omega)
          omega
        have k1 : C' * K' ≤ 8192 * 5 := Nat.mul_le_mul hC (by omega)
        have k2 : C' * K' * K' ≤ 8192 * 5 * 5 := Nat.mul_le_mul k1 (by omega)
        have k3 : H * V ≤ 16 * 16 := Nat.mul_le_mul (by omega) (by omega)
        unfold convN convDims convData at hq
        simp only [ex, ew, List.getD_cons_zero, List.getD_cons_succ, eP, eR] at hq ⊢
        refine ⟨?_⟩
        unfold conv_Forward_n0_t
        rw [mulw (r := C') (n := K') (by omega), mulw (r := C' * K') (n := K') (by omega), wrap_i64 (x.2.1 + w.2.1) (by omega) (by omega)]
        rw [← Int.natCast_mul, ← Int.natCast_mul] at hq
        refine fresh_v ?_
        by_cases h9 : (sumsF [(n : Int), (O' : Int), (P : Int), (R : Int)] (x.2.1 + w.2.1) ((C' * K' * K' : Nat) : Int)).2 = 0
        · obtain ⟨f1, f2, f3, f4⟩ := sumsF_ok h9
          rw [f4] at hq ⊢
          simp only [bne_self_eq_false, Bool.false_eq_true, if_false] at hq ⊢
          obtain ⟨n', m', p', q', e1, e2, e3, e4, _, _, _, _, s5, s6⟩ := szF4 f3
          have e1 : n' = n := by omega
          have e2 : m' = O' := by omega
          have e3 : p' = P := by omega
          have e4 : q' = R := by omega
          subst e1 e2 e3 e4
          rw [s6]
          have g : FwdIn n' C' m' K' H V p' q' x.2.2 w.2.2 b.2.2 := ⟨by rw [x6]; exact Nat.mul_assoc _ _ _, w6, by rw [← Nat.mul_assoc]; exact x5, by omega, ax, aw, ab, b3, by omega, by omega, by omega, by omega, by omega, s5⟩
          rw [mulw (r := H) (n := V) (by omega)]
          refine fp_v g (by omega) (by omega) (by omega) ?_ ?_
          · rw [Int.toNat_natCast]; simp
          · simp only [Int.toNat_natCast] at hq
            exact hq
        · rw [if_pos (by simpa using h9)]
          rw [if_pos (by simpa using h9)] at hq
          have : (sumsF [(n : Int), (O' : Int), (P : Int), (R : Int)] (x.2.1 + w.2.1) ((C' * K' * K' : Nat) : Int)).1 = Z3 := by
            unfold sumsF at h9 ⊢
            split
            · rfl
            · split
              · rfl
              · split
                · rfl
                · rename_i g1 g2 g3
                  rw [if_neg g1, if_neg g2, if_neg g3] at h9
                  exact absurd rfl h9
          dsimp only
          rw [this]
          exact hq

end Go.Proofs.Ytmleeffinagncaa
