/- Part of the proof. No condition. -/
import Derived.Test.YtcfpfefadlnmcaaGreatZ36
import Derived.Test.YtcfpfefadlnmcaaGreatZ35
import Derived.Test.YtcfpfefadlnmcaaGreatYVTold
namespace Go.Proofs.YtcfpfefadlnmcaaGreat
open Go.Mach
set_option maxRecDepth 100000
set_option linter.unusedVariables false
set_option linter.unusedSimpArgs false
theorem aK7 (R C : Nat) (f : Nat -> Nat -> Int) : tab (R * C) (fun p => f (p / C) (p % C)) = A1 R C f := by
 refine aK5 (by simp [tab]) fun r hr c hc => ?_
 rw [aHa _ (l0 hr hc), GF hc, GO hc]
theorem aPb {n C R : Nat} {x w b : List Int} {be e : Int} {K : List Int -> Prop} (hx : x.length = R * n) (hw : w.length = C * n) (hb : b.length = C) (lx : x.length <= 8192) (lw : w.length <= 8192) (hn : n <= 959) (lr : R * C <= 8192) (hR : R <= 8192) (bx : All8 x) (bw : All8 w) (bb : All8 b) (h : K (A1 R C (fwC n e be b x w))) : kS (n : Int) (C : Int) (R : Int) x w be b e K (0, List.replicate (R * C) 0) := by
  refine ⟨?_⟩
  rw [<- aK7] at h
  generalize hF : (fun p => fwC n e be b x w (p / C) (p % C)) = F at h
  generalize hT : R * C = T at h lr
  have e0 : ((0 : Int), List.replicate T (0 : Int)) = (fun i : Nat => ((i : Int), tab (i * C) F ++ List.replicate (T - i * C) 0)) 0 := by simp [tab]
  rw [e0]
  refine Loop.range (B := fI (n : Int) (C : Int) (R : Int) x w be b e K) R (fun i : Nat => ((i : Int), tab (i * C) F ++ List.replicate (T - i * C) 0)) (fun _ => True) trivial ?_ ?_
  · intro i hi _ X hX
    have hX := hX trivial
    unfold fI
    rw [if_pos (decide_eq_true (show (i : Int) < (R : Int) by omega))]
    dsimp only at hX ⊢
    have hrow : (i + 1) * C <= R * C := Nat.mul_le_mul_right C hi
    have hrow2 : (i + 1) * C = i * C + C := by rw [Nat.add_mul, Nat.one_mul]
    refine ⟨?_⟩
    have e1 : ((0 : Int), tab (i * C) F ++ List.replicate (T - i * C) 0) = (fun o : Nat => ((o : Int), tab (i * C + o) F ++ List.replicate (T - (i * C + o)) 0)) 0 := rfl
    rw [e1]
    refine Loop.range (B := fH (n : Int) (C : Int) (i : Int) (C : Int) x w be b e _) C (fun o : Nat => ((o : Int), tab (i * C + o) F ++ List.replicate (T - (i * C + o)) 0)) (fun _ => True) trivial ?_ ?_
    · intro o ho _ Y hY
      have hY := hY trivial
      unfold fH
      rw [if_pos (decide_eq_true (show (o : Int) < (C : Int) by omega))]
      dsimp only at hY ⊢
      have k1 : (i + 1) * n <= R * n := Nat.mul_le_mul_right n hi
      have k2 : (o + 1) * n <= C * n := Nat.mul_le_mul_right n ho
      rw [Nat.add_mul, Nat.one_mul] at k1 k2
      refine ⟨by omega, ?_⟩
      have hb8 := bb.at_ o
      simp only [Int.toNat_natCast]
      rw [aA (b.getD o 0) (by omega) (by omega)]
      refine aJj ⟨?_⟩
      refine Loop.range (B := fF (n : Int) (i : Int) (o : Int) (n : Int) x w _) (f := fun j => (NX (alF (b.getD o 0) be e) (fun j => x.getD (i * n + j) 0 * w.getD (o * n + j) 0) j, (j : Int))) n (fun _ => True) trivial ?_ ?_
      · intro j hj _ Z hZ
        have hZ := hZ trivial
        unfold fF
        rw [if_pos (decide_eq_true (show (j : Int) < (n : Int) by omega))]
        dsimp only at hZ ⊢
        have hs := aGk (s := alF (b.getD o 0) be e) (g := fun j => x.getD (i * n + j) 0 * w.getD (o * n + j) 0) (n := j) (V8 (bb.at_ o)) (by omega) (fun j => aK6 (bx.at_ _) (bw.at_ _))
        rw [ix (r := i) (n := n) (i := j) (by omega)]
        rw [ix (r := o) (n := n) (i := j) (by omega)]
        refine ⟨⟨by omega, by omega⟩, ⟨by omega, by omega⟩, ?_⟩
        simp only [Int.toNat_natCast]
        rw [mac hs (bx.at_ _) (bw.at_ _), aA ((j : Int) + 1) (by omega) (by omega)]
        exact hZ
      · intro _ Z
        unfold fF
        rw [if_neg (by simp)]
        dsimp only
        have hbd := aLg (n := n) (e := e) (be := be) (b := b) (x := x) (w := w) (r := i) (o := o) hn bx bw bb
        have ee : NX (alF (b.getD o 0) be e) (fun j => x.getD (i * n + j) 0 * w.getD (o * n + j) 0) n = fwC n e be b x w i o := rfl
        rw [ee, ix (r := i) (n := C) (i := o) (by omega), aCt (by omega)]
        refine ⟨⟨by omega, by omega⟩, ?_⟩
        rw [Int.toNat_natCast, aHh _ (by omega) (by omega), aA ((o : Int) + 1) (by omega) (by omega)]
        have eF : F (i * C + o) = fwC n e be b x w i o := by rw [<- hF]; dsimp only; rw [GF ho, GO ho]
        rw [<- eF, aBs (by omega)]
        exact hY
    · intro _ Y
      unfold fH
      rw [if_neg (by simp)]
      dsimp only
      rw [<- hrow2, aA ((i : Int) + 1) (by omega) (by omega)]
      exact hX
  · intro _ X
    unfold fI
    rw [if_neg (by simp)]
    dsimp only
    rw [hT, Nat.sub_self, List.replicate_zero, List.append_nil]
    exact h
theorem aLN {R C n e : Int} {f : Nat -> Nat -> Int} (h1 : tU n = true) (h2 : -128 <= e) (h3 : e <= 128) (h4 : 0 < szF [R, C]) : SQ R C n e f = (([R, C], (e, A1 R.toNat C.toNat f)), 0) := by
 unfold SQ
 rw [if_neg (by simp [h1]; omega), if_neg (by simp; omega)]
theorem aIa (R C n e : Int) (f : Nat -> Nat -> Int) : SQ R C n e f = if ((i3 [R, C] e n).2 != 0) = true then i3 [R, C] e n else (([R, C], (e, A1 R.toNat C.toNat f)), 0) := by
  cases hf : tU n with
  | false =>
    have e1 : i3 [R, C] e n = (Z3, 3) := by unfold i3; rw [if_pos (by rw [hf]; rfl)]
    rw [e1]
    unfold SQ
    rw [if_pos (by rw [hf]; rfl), if_pos (by rfl)]
  | true =>
    by_cases h2 : 128 < e \/ e < -128
    · have e1 : i3 [R, C] e n = (Z3, 3) := by unfold i3; rw [if_neg (by rw [hf]; simp), if_pos (by simp; omega)]
      rw [e1]
      unfold SQ
      rw [if_pos (by simp; omega), if_pos (by rfl)]
    · by_cases h3 : 0 < szF [R, C]
      · have e1 : i3 [R, C] e n = (([R, C], (e, List.replicate (szF [R, C]).toNat 0)), 0) := by unfold i3; rw [if_neg (by rw [hf]; simp), if_neg (by simp; omega), if_neg (by simp [h3])]
        rw [e1, aLN hf (by omega) (by omega) h3, if_neg (by simp)]
      · have e1 : i3 [R, C] e n = (Z3, 1) := by unfold i3; rw [if_neg (by rw [hf]; simp), if_neg (by simp; omega), if_pos (by simp [h3])]
        rw [e1]
        unfold SQ
        rw [if_neg (by rw [hf]; simp; omega), if_pos (by simp [h3]), if_pos (by rfl)]
theorem aMf {R C : Nat} (h : 0 < szF [(R : Int), (C : Int)]) : (szF [(R : Int), (C : Int)]).toNat = R * C := by
 have := (aLs _ _ h).2.2.2.2.2
 rw [this, <- Int.natCast_mul, Int.toNat_natCast]
theorem aLu {d : List Int} {e n : Int} (h : ¬ ((i3 d e n).2 != 0) = true) : tU n = true /\ 0 < szF d /\ i3 d e n = ((d, (e, List.replicate (szF d).toNat 0)), 0) := by
  unfold i3 at h ⊢
  by_cases h1 : (!tU n) = true
  · rw [if_pos h1] at h; exact absurd rfl h
  · rw [if_neg h1] at h ⊢
    by_cases h2 : (decide (e < -128) || decide (128 < e)) = true
    · rw [if_pos h2] at h; exact absurd rfl h
    · rw [if_neg h2] at h ⊢
      by_cases h3 : (!decide (0 < szF d)) = true
      · rw [if_pos h3] at h; exact absurd rfl h
      · rw [if_neg h3]
        exact ⟨by simpa using h1, by simpa using h3, rfl⟩
theorem aKw {x w : T3} (h : (aW x && aW w) = true) : N4 2 [x, w] = if (((x.1.length : Int) != 2) || ((w.1.length : Int) != 2)) = true then 2 else 0 := by
 simp only [Bool.and_eq_true] at h
 unfold N4
 rw [if_pos (by simp [h.1, h.2])]
 by_cases h1 : (x.1.length : Int) = 2 /\ (w.1.length : Int) = 2
 ·rw [if_pos (by simp [h1.1, h1.2]), if_neg (by simp [h1.1, h1.2])]
 ·rw [if_neg (by simpa using h1), if_pos (by simp; omega)]
theorem aKb {x w : T3} (h : (aW x && aW w) = false) : N4 2 [x, w] = 1 := by
 unfold N4
 rw [if_neg (by simpa using h)]
theorem aLy {x w b : T3} {Q : T3 × Int -> Prop} (bx : All8 x.2.2) (bw : All8 w.2.2) (bb : All8 b.2.2) (h : Q (aGt x w b)) : pS x w b Q := by
  refine ⟨?_⟩
  refine Q1 (by simp) ?_
  have eall : ([(x.1, (x.2.1, x.2.2)), (w.1, (w.2.1, w.2.2)), (b.1, (b.2.1, b.2.2))] : List T3).all aW = ((aW x && aW w) && aW b) := by
    show (aW x && (aW w && (aW b && true))) = _
    rw [Bool.and_true, Bool.and_assoc]
  rw [eall]
  unfold aGt at h
  by_cases h0 : ((aW x && aW w) && aW b) = true
  · rw [if_neg (by rw [h0]; simp)]
    simp only [Bool.and_eq_true] at h0
    obtain ⟨⟨mx, mw⟩, mb⟩ := h0
    rw [if_neg (by rw [mb]; simp), aKw (by rw [mx, mw]; rfl)] at h
    show (if ((((x.1.length : Int) != 2) || ((w.1.length : Int) != 2)) || ((b.1.length : Int) != 1)) = true then _ else _)
    by_cases h1 : (((x.1.length : Int) != 2) || ((w.1.length : Int) != 2)) = true
    · rw [if_pos h1] at h
      rw [if_pos (by rw [h1]; rfl)]
      exact h
    · rw [if_neg h1, if_neg (by simp)] at h
      have h1' : (((x.1.length : Int) != 2) || ((w.1.length : Int) != 2)) = false := by simpa using h1
      simp only [Bool.or_eq_true, not_or, bne_iff_ne, ne_eq, Classical.not_not] at h1
      obtain ⟨R, n, ex, x1, x2, x3, x4, x5, x6, x7, x8⟩ := aMn mx (by omega)
      obtain ⟨C, m, ew, w1, w2, w3, w4, w5, w6, w7, w8⟩ := aMn mw (by omega)
      rw [h1', Bool.false_or]
      rw [ex, ew] at h ⊢
      by_cases h2 : ((b.1.length : Int) != 1) = true
      · rw [if_pos (by rw [h2]; simp)] at h
        rw [if_pos h2]
        exact h
      · rw [if_neg h2]
        have h2' : ((b.1.length : Int) != 1) = false := by simpa using h2
        obtain ⟨D, eb, b1, b2, b3⟩ := aPZ mb (by simp at h2; omega)
        rw [h2', Bool.or_false] at h
        rw [eb] at h ⊢
        refine ⟨by simp, by simp, ?_⟩
        have key : ∀ v : Bool, (v = (((m : Int) != (n : Int)) || ((D : Int) != (C : Int)))) -> (if v = true then Q (Z3, 2) else kW [(R : Int), (n : Int)] x.2.1 x.2.2 [(C : Int), (m : Int)] w.2.1 w.2.2 b.2.1 b.2.2 (fun (y8 : Int × (List Int) × Int × List Int) => Q ((y8.2.1, (y8.2.2.1, y8.2.2.2)), y8.1))) := by
          intro v hv
          cases v with
          | true =>
            rw [if_pos rfl]
            rw [if_pos (show (([(C : Int), (m : Int)].getD 1 0 != [(R : Int), (n : Int)].getD 1 0) || ([(D : Int)].getD 0 0 != [(C : Int), (m : Int)].getD 0 0)) = true from hv.symm)] at h
            exact h
          | false =>
            rw [if_neg (by simp)]
            rw [if_neg (show ¬ (([(C : Int), (m : Int)].getD 1 0 != [(R : Int), (n : Int)].getD 1 0) || ([(D : Int)].getD 0 0 != [(C : Int), (m : Int)].getD 0 0)) = true from by
              show ¬ (((m : Int) != (n : Int)) || ((D : Int) != (C : Int))) = true
              rw [<- hv]; simp)] at h
            have hv := hv.symm
            simp only [Bool.or_eq_false_iff, bne_eq_false_iff_eq] at hv
            have hmn : m = n := by omega
            have hD : D = C := by omega
            subst hmn
            subst hD
            refine ⟨?_⟩
            refine ⟨by simp, by simp, by simp, ?_⟩
            rw [aA (x.2.1 + w.2.1) (by omega) (by omega)]
            have h : Q (SQ (R : Int) (D : Int) (m : Int) (x.2.1 + w.2.1) (fwC m (x.2.1 + w.2.1) b.2.1 b.2.2 x.2.2 w.2.2)) := h
            rw [aIa] at h
            refine aJg ?_
            rw [show ([[(R : Int), (m : Int)].getD 0 0, [(D : Int), (m : Int)].getD 0 0] : List Int) = [(R : Int), (D : Int)] from rfl, show [(R : Int), (m : Int)].getD 1 0 = (m : Int) from rfl, show [(R : Int), (m : Int)].getD 0 0 = (R : Int) from rfl, show [(D : Int), (m : Int)].getD 0 0 = (D : Int) from rfl]
            by_cases h4 : ((i3 [(R : Int), (D : Int)] (x.2.1 + w.2.1) (m : Int)).2 != 0) = true
            · rw [if_pos h4] at h ⊢
              exact h
            · obtain ⟨k1, k2, k3⟩ := aLu h4
              rw [if_neg h4] at h ⊢
              rw [k3]
              dsimp only
              rw [aMf k2]
              have hn := aHJ k1
              have hRD := (aLs _ _ k2).2.2.2.2.1
              rw [<- Int.natCast_mul] at hRD
              exact aPb x6 w6 b3 (by omega) (by omega) (by omega) (by omega) (by omega) bx bw bb h
        show (if ((n : Int) != (m : Int)) = true then _ else _)
        by_cases h3 : ((n : Int) != (m : Int)) = true
        · rw [if_pos h3]
          refine key true ?_
          have : (m : Int) ≠ (n : Int) := fun e => by rw [e] at h3; simp at h3
          rw [show ((m : Int) != (n : Int)) = true by simpa using this]; rfl
        · rw [if_neg h3]
          refine ⟨by simp, by simp, key _ ?_⟩
          have : (m : Int) = (n : Int) := by simpa using (show (n : Int) = (m : Int) from by simpa using h3).symm
          rw [show ((m : Int) != (n : Int)) = false by simpa using this]
          rfl
  · have h0' : ((aW x && aW w) && aW b) = false := by simpa using h0
    rw [if_pos (by rw [h0']; rfl)]
    by_cases h1 : (!aW b) = true
    · rw [if_pos h1] at h; exact h
    · rw [if_neg h1] at h
      have mb : aW b = true := by simpa using h1
      rw [mb, Bool.and_true] at h0'
      rw [aKb h0', if_pos (by rfl)] at h
      exact h
end Go.Proofs.YtcfpfefadlnmcaaGreat

namespace Go.Proofs.YtcfpfefadlnmcaaGreat
open Go.Mach Go.RowKit
set_option maxRecDepth 100000
set_option linter.unusedVariables false
set_option linter.unusedSimpArgs false
def IsLen (x : Int) (k : Nat) : Prop := x < 2 ^ k /\ 2 ^ k <= 2 * x + 1
theorem IsLen.up {x c : Int} {j k : Nat} (hc : (2 : Int) ^ j = c) (hcp : 0 < c) (hx : c <= x) (h : IsLen (x / c) k) : IsLen x (j + k) := by
  have e := Int.mul_ediv_add_emod x c
  have r0 := Int.emod_nonneg x (show c ≠ 0 by omega)
  have r1 := Int.emod_lt_of_pos x hcp
  have hq : 1 <= x / c := (Int.le_ediv_iff_mul_le hcp).2 (by omega)
  unfold IsLen at h ⊢
  rw [Int.pow_add, hc]
  generalize x / c = q at *
  generalize x % c = r at *
  cases k with
  | zero => rw [Int.pow_zero] at h; omega
  | succ m =>
    rw [Int.pow_succ] at h ⊢
    generalize (2 : Int) ^ m = P at *
    have k1 : c * (q + 1) <= c * (P * 2) := Int.mul_le_mul_of_nonneg_left (by omega) (by omega)
    have k2 : c * (P * 2) <= c * (q * 2) := Int.mul_le_mul_of_nonneg_left (by omega) (by omega)
    rw [Int.mul_add, Int.mul_one] at k1
    rw [<- Int.mul_assoc c q 2] at k2
    omega
theorem aON : ∀ i : Fin 256, i.1 < 2 ^ (lV.data.toList.getD i.1 0).toNat /\ 2 ^ (lV.data.toList.getD i.1 0).toNat <= 2 * i.1 + 1 := by decide +kernel
theorem aM8 {x n : Int} (h0 : 0 <= x) (h : x < 256) (hn : 0 <= n) (hm : n <= 56) : ∃ k : Nat, l31 x n = n + k /\ k <= 8 /\ IsLen x k := by
 have ht := aOb ⟨x.toNat, by omega⟩
 have hl := aON ⟨x.toNat, by omega⟩
 simp only at ht hl
 unfold l31
 rw [aN7 x (by omega) (by omega)]
 generalize (lV.data.toList.getD x.toNat 0).toNat = m at ht hl ⊢
 refine ⟨m, ?_, ht, ?_⟩
 ·rw [aA (m : Int) (by omega) (by omega), aA _ (by omega) (by omega)]
 ·have e : ((2 ^ m : Nat) : Int) = 2 ^ m := by rw [Int.natCast_pow]; rfl
  unfold IsLen
  rw [<- e]
  omega
theorem aLl {x n : Int} (h0 : 0 <= x) (h : x < 65536) (hn : 0 <= n) (hm : n <= 48) : ∃ k : Nat, l15 x n = n + k /\ k <= 16 /\ IsLen x k := by
 have e : (2 : Int) ^ (min ((8 : Int)).toNat (IntKind.u64).bits) = 256 := by decide +kernel
 unfold l15
 rw [e]
 split
 ·rw [aA _ (by omega) (by omega), Int.fdiv_eq_ediv_of_nonneg _ (by omega)]
  obtain ⟨k, h1, h2, h3⟩ := aM8 (x := x / 256) (n := n + 8) (by omega) (by omega) (by omega) (by omega)
  exact ⟨8 + k, by rw [h1]; omega, by omega, h3.up (c := 256) (by decide) (by omega) (by omega)⟩
 ·obtain ⟨k, h1, h2, h3⟩ := aM8 (x := x) (n := n) (by omega) (by omega) (by omega) (by omega)
  exact ⟨k, h1, by omega, h3⟩
theorem aNl {x n : Int} (h0 : 0 <= x) (h : x < 4294967296) (hn : 0 <= n) (hm : n <= 32) : ∃ k : Nat, l7 x n = n + k /\ k <= 32 /\ IsLen x k := by
 have e : (2 : Int) ^ (min ((16 : Int)).toNat (IntKind.u64).bits) = 65536 := by decide +kernel
 unfold l7
 rw [e]
 split
 ·rw [aA _ (by omega) (by omega), Int.fdiv_eq_ediv_of_nonneg _ (by omega)]
  obtain ⟨k, h1, h2, h3⟩ := aLl (x := x / 65536) (n := n + 16) (by omega) (by omega) (by omega) (by omega)
  exact ⟨16 + k, by rw [h1]; omega, by omega, h3.up (c := 65536) (by decide) (by omega) (by omega)⟩
 ·obtain ⟨k, h1, h2, h3⟩ := aLl (x := x) (n := n) (by omega) (by omega) (by omega) (by omega)
  exact ⟨k, h1, by omega, h3⟩
theorem aNM {x : Int} (h0 : 0 <= x) (h : x <= 4611686018427387904) : ∃ k : Nat, aLk x = k /\ k <= 64 /\ IsLen x k := by
 have e : (2 : Int) ^ (min ((32 : Int)).toNat (IntKind.u64).bits) = 4294967296 := by decide +kernel
 unfold aLk
 rw [e]
 split
 ·rw [Int.fdiv_eq_ediv_of_nonneg _ (by omega)]
  obtain ⟨k, h1, h2, h3⟩ := aNl (x := x / 4294967296) (n := 32) (by omega) (by omega) (by omega) (by omega)
  exact ⟨32 + k, by rw [h1]; omega, by omega, h3.up (c := 4294967296) (by decide) (by omega) (by omega)⟩
 ·obtain ⟨k, h1, h2, h3⟩ := aNl (x := x) (n := 0) (by omega) (by omega) (by omega) (by omega)
  exact ⟨k, by rw [h1]; omega, by omega, h3⟩
theorem aHe {a s : Int} {Q : Int × Int -> Prop} (h : Q (qT a, shF s)) : gZ a s Q := by
 have hr := U3 s
 refine ⟨⟨⟨?_⟩⟩⟩
 show Q (qT a, IntKind.u64.wrap (shF s))
 rw [kT _ (by omega) (by omega)]
 exact h
theorem aN2 {a : Int} {Q : Int -> Prop} (h : Q (aM0 a)) : tE a Q := by
 refine ⟨?_⟩
 refine aHe ?_
 show oL (fun y => Q y) (0, aD (qT a) (IntKind.i64.wrap (0 - qT a)))
 have hv := aCW a
 unfold aM0 at h
 rw [aA (0 - qT a) (by omega) (by omega)] at h ⊢
 have hg : 0 <= aD (qT a) (0 - qT a) /\ aD (qT a) (0 - qT a) <= 4611686018427387904 := by
  unfold aD; split <;> omega
 generalize aD (qT a) (0 - qT a) = g at hg h ⊢
 rw [kT g (by omega) (by omega)] at h
 obtain ⟨k, e1, e2, e3, e4⟩ := aNM hg.1 hg.2
 rw [e1] at h
 refine ⟨?_⟩
 have eg : ((0 : Int), g) = (fun i : Nat => ((i : Int), g / 2 ^ i)) 0 := by simp
 rw [eg]
 refine Loop.range (B := gO _) (f := fun i : Nat => ((i : Int), g / 2 ^ i)) k (fun _ => True) trivial ?_ ?_
 ·intro i hi _ X hX
  have hX := hX trivial
  unfold gO
  have p1 := V2 (i + 1) k hi
  have p2 := (V2 i i (Nat.le_refl _)).1
  have hpos : 0 < g / 2 ^ i := by
   rw [Int.pow_succ] at p1
   have : 1 <= g / 2 ^ i := (Int.le_ediv_iff_mul_le (by omega)).2 (by omega)
   omega
  rw [if_pos (decide_eq_true (show 0 < g / 2 ^ i from hpos))]
  refine ⟨by omega, ?_⟩
  have e : (2 : Int) ^ (min ((1 : Int)).toNat (IntKind.i64).bits) = 2 := by decide +kernel
  have e5 : g / 2 ^ (i + 1) = (g / 2 ^ i).fdiv 2 := by
   rw [Int.fdiv_eq_ediv_of_nonneg _ (by omega), Int.pow_succ, Int.ediv_ediv, if_neg (by omega), Int.sub_zero]
  simp only [e]
  rw [aA ((i : Int) + 1) (by omega) (by omega), <- e5]
  exact hX
 ·intro _ X
  unfold gO
  have : g / 2 ^ k = 0 := Int.ediv_eq_zero_of_lt hg.1 e3
  simp only [this]
  rw [if_neg (by simp)]
  exact h
theorem aCs {a : Int} {P P' : Int -> Prop} (h : HA a P) (k : ∀ r, P r -> P' r) : jT a P' := ⟨⟨h.it.1, h.it.2.1, h.it.2.2.1, k _ h.it.2.2.2⟩⟩
theorem aOt {a b c : Int} {Q : Int -> Prop} (h : Q (atF a b c)) : xY a b c Q := ⟨aCs (aPH h).it fun r1 h1 => aCs h1 fun r2 h2 => aCs h2 fun r3 h3 => h3⟩
theorem aKO {a s r : Int} {Q : Int -> Prop} (h : Q (chF a s r)) : qG a s r Q := ⟨aHe ⟨(U3 s).1, (U3 s).1, h⟩⟩
theorem aPA : ∀ i : Fin 32, 0 <= IntKind.i64.wrap ((IntKind.i64.wrap (1 * 2 ^ (min (IntKind.i64.wrap (((i.1 : Int) + 1) - 1)).toNat (IntKind.i64).bits))) - 1) /\ IntKind.i64.wrap ((IntKind.i64.wrap (1 * 2 ^ (min (IntKind.i64.wrap (((i.1 : Int) + 1) - 1)).toNat (IntKind.i64).bits))) - 1) <= 2147483647 := by decide +kernel
theorem aLO (b : Int) : 0 <= aCJ b /\ aCJ b <= 2147483647 := by
 have hr := aG2 b
 have := aPA ⟨(b32 b - 1).toNat, by omega⟩
 simp only at this
 rw [show (((b32 b - 1).toNat : Nat) : Int) + 1 = b32 b by omega] at this
 exact this
theorem aL6 {a b : Int} {Q : Int -> Prop} (h : Q (clF a b)) : rU a b Q := by
 have hr := aG2 b
 have ht := aLO b
 refine ⟨⟨?_⟩⟩
 have ew : IntKind.u64.wrap (IntKind.i64.wrap (b32 b - 1)) = IntKind.i64.wrap (b32 b - 1) := by
  rw [aA _ (by omega) (by omega), kT _ (by omega) (by omega)]
 show ck (0 <= IntKind.u64.wrap (IntKind.i64.wrap (b32 b - 1))) (aY a (IntKind.i64.wrap (0 - IntKind.i64.wrap ((IntKind.i64.wrap (1 * 2 ^ (min (IntKind.u64.wrap (IntKind.i64.wrap (b32 b - 1))).toNat (IntKind.i64).bits))) - 1))) (IntKind.i64.wrap ((IntKind.i64.wrap (1 * 2 ^ (min (IntKind.u64.wrap (IntKind.i64.wrap (b32 b - 1))).toNat (IntKind.i64).bits))) - 1)) (fun r => Q r))
 rw [ew]
 refine ⟨by rw [aA _ (by omega) (by omega)]; omega, ⟨?_⟩⟩
 show Q (aD (IntKind.i64.wrap (0 - aCJ b)) (aL a (aCJ b)))
 have e : clF a b = aD (IntKind.i64.wrap (0 - aCJ b)) (aL a (aCJ b)) := by
  unfold clF
  rw [aA (0 - aCJ b) (by omega) (by omega)]
  unfold qT aD aL
  generalize aCJ b = t at ht
  split <;> split <;> split <;> split <;> (try split) <;> omega
 rw [<- e]
 exact h
theorem aE4 {a : T3} {Q : Bool -> Prop} (h : Q (iU a)) : jU a Q := by
 refine ⟨?_⟩
 refine qR ?_
 refine SO (b := decide (0 < szF a.1)) (c := ((a.2.2.length : Int) == szF a.1)) (fun _ P hp => RQ hp) (fun v e => ?_) rfl
 have : iU a = ((v && decide (-128 <= a.2.1)) && decide (a.2.1 <= 128)) := by
  unfold iU XM
  rw [e, aA (0 - 128) (by omega) (by omega), Bool.and_assoc _ (decide (-128 <= a.2.1))]
  rfl
 rw [<- this]
 exact h
theorem aLX {a : T3} {Q : Int -> Prop} (h : Q (aBZ a)) : rM a Q := by
  refine ⟨?_⟩
  refine aE4 (a := a) ?_
  unfold aBZ at h
  cases hm : iU a with
  | false =>
    rw [hm] at h
    exact h
  | true =>
    rw [hm, if_pos rfl] at h
    rw [if_neg (by simp)]
    obtain ⟨_, _, _, _, hlen⟩ := yQ hm
    refine ⟨?_⟩
    refine Loop.range (B := gB a.2.2 (a.2.2.length : Int) fun y => Q y) a.2.2.length (fun i => (aFC (a.2.2.take i), (i : Int))) (fun _ => True) trivial ?_ ?_
    · intro i hi _ X hX
      unfold gB
      rw [if_pos (decide_eq_true (show (i : Int) < (a.2.2.length : Int) by omega))]
      refine ⟨by simp only []; omega, aN2 ?_⟩
      have := hX trivial
      rw [aCI _ _ hi] at this
      simp only [Int.toNat_natCast]
      rw [aA ((i : Int) + 1) (by omega) (by omega)]
      exact this
    · intro _ X
      unfold gB
      rw [if_neg (by simp)]
      simp only [List.take_length]
      exact h
theorem aLw {a : T3} {b s t : Int} {Q : T3 × Int -> Prop} (h : Q (pQ a b s t)) : bD a b s t Q := by
  refine ⟨?_⟩
  refine aE4 (a := a) ?_
  unfold pQ at h
  by_cases e : ((!(iU a) || (decide (b < 2))) || (decide (8 < b))) = true
  · rw [if_pos e] at h ⊢; exact h
  · rw [if_neg e] at h ⊢
    have hm : iU a = true := by
      cases hm : iU a with
      | true => rfl
      | false => exfalso; apply e; rw [hm]; rfl
    obtain ⟨_, _, h3, h4, hlen⟩ := yQ hm
    refine aLX (a := a) ⟨by omega, ?_⟩
    show (if (decide (IntKind.i64.wrap (a.2.1 + oN a b) < -64) || decide (64 < IntKind.i64.wrap (a.2.1 + oN a b))) = true then _ else _)
    rw [aLd, Bool.not_not] at h
    by_cases e2 : (decide (IntKind.i64.wrap (a.2.1 + oN a b) < -64) || decide (64 < IntKind.i64.wrap (a.2.1 + oN a b))) = true
    · rw [if_pos e2] at h ⊢; exact h
    · rw [if_neg e2] at h ⊢
      refine ⟨?_⟩
      refine Loop.range (B := f6 b s t (oN a b) a.2.2 (a.2.2.length : Int) _) (f := fun i : Nat => ((i : Int), (List.range i).map (aEn b s t (oN a b) a.2.2))) a.2.2.length (fun _ => True) trivial ?_ ?_
      · intro i hi _ X hX
        unfold f6
        rw [if_pos (decide_eq_true (show (i : Int) < (a.2.2.length : Int) by omega))]
        refine ⟨by simp only []; omega, aOt (aKO (aL6 ⟨?_, ?_⟩))⟩
        · simp only [List.length_map, List.length_range, List.length_singleton]
          omega
        · have := hX trivial
          simp only [List.range_succ, List.map_append, List.map_cons, List.map_nil] at this
          simp only [Int.toNat_natCast]
          rw [aA ((i : Int) + 1) (by omega) (by omega)]
          exact this
      · intro _ X
        unfold f6
        rw [if_neg (by simp)]
        exact h
end Go.Proofs.YtcfpfefadlnmcaaGreat

namespace Go.Proofs.YtcfpfefadlnmcaaGreat
open Go.Mach
set_option maxRecDepth 100000
set_option linter.unusedVariables false
set_option linter.unusedSimpArgs false
theorem aKZ {l : List Int} {K0 K1 : Unit -> Prop} (hl : l.length <= 10000000000000) (h : if l.any oT = true then K1 () else K0 ()) : iK l (l.length : Int) K0 K1 0 := by
  refine ⟨?_⟩
  refine Loop.range (B := dN l (l.length : Int) K0 K1) l.length (fun i => (i : Int)) (fun i => ∀ j, j < i -> oT (l.getD j 0) = false) (fun j hj => absurd hj (by omega)) ?_ ?_
  · intro i hi hI X hX
    unfold dN
    rw [if_pos (decide_eq_true (show (i : Int) < (l.length : Int) by omega))]
    refine ⟨by omega, ?_⟩
    rw [Int.toNat_natCast]
    show if oT (l.getD i 0) = true then _ else _
    cases hb : oT (l.getD i 0) with
    | true =>
      rw [if_pos rfl]
      have : l.any oT = true := by
        rw [List.any_eq_true]
        refine ⟨l[i], List.getElem_mem _, ?_⟩
        rw [List.getD_eq_getElem?_getD, List.getElem?_eq_getElem hi] at hb
        exact hb
      rw [this, if_pos rfl] at h
      exact h
    | false =>
      rw [if_neg (by simp), aA _ (by omega) (by omega)]
      refine hX fun j hj => ?_
      by_cases hji : j = i
      · subst hji; exact hb
      · exact hI j (by omega)
  · intro hI X
    unfold dN
    rw [if_neg (by simp)]
    have : l.any oT = false := by
      rw [List.any_eq_false]
      intro x hx
      obtain ⟨j, hj, rfl⟩ := List.mem_iff_getElem.1 hx
      have := hI j hj
      rw [List.getD_eq_getElem?_getD, List.getElem?_eq_getElem hj] at this
      simpa using this
    rw [this, if_neg (by simp)] at h
    exact h
def okW (p : Prm) : Bool := (((aW p.1 && aW p.2.2) && ((p.2.2.1.length : Int) == 1)) && ((p.2.1.length : Int) == (p.1.2.2.length : Int))) && !(p.2.1.any oT)
theorem aIK {p : Prm} {Q : Bool -> Prop} (h : Q (okW p)) : gQ p Q := by
  refine ⟨Q1 (by simp) ?_⟩
  rw [aLC]
  unfold okW at h
  cases h1 : (aW p.1 && aW p.2.2) with
  | false =>
    rw [h1] at h
    rw [if_pos (by simp)]
    exact h
  | true =>
    rw [h1] at h
    by_cases h2 : (p.2.2.1.length : Int) = 1
    rotate_left
    · rw [if_pos (by simp; omega)]
      rw [show ((p.2.2.1.length : Int) == 1) = false by simp; omega] at h
      exact h
    by_cases h3 : (p.2.1.length : Int) = (p.1.2.2.length : Int)
    rotate_left
    · rw [if_pos (by simp; omega)]
      rw [show ((p.2.1.length : Int) == (p.1.2.2.length : Int)) = false by simp; omega, Bool.and_false] at h
      exact h
    rw [if_neg (by simp [h2, h3])]
    simp only [Bool.and_eq_true] at h1
    have := (dT h1.1).2.1
    refine aKZ (by omega) ?_
    rw [h2, h3] at h
    cases hg : p.2.1.any oT with
    | true => rw [hg] at h; rw [if_pos rfl]; simpa using h
    | false => rw [hg] at h; rw [if_neg (by simp)]; simpa using h
def okX (d : List Int) (n : Int) (p : Prm) : Bool := ((((aW p.1 && aW p.2.2) && decide (p.1.1 = d)) && decide (p.2.2.1 = [n])) && ((p.2.1.length : Int) == (p.1.2.2.length : Int))) && !(p.2.1.any oT)
theorem aMW {d : List Int} {n : Int} {p : Prm} (h : okX d n p = true) : okW p = true /\ p.1.1 = d /\ p.2.2.1 = [n] := by
 unfold okX at h
 simp only [Bool.and_eq_true, decide_eq_true_eq] at h
 obtain ⟨⟨⟨⟨⟨m1, m2⟩, e1⟩, e2⟩, e3⟩, e4⟩ := h
 refine ⟨?_, e1, e2⟩
 unfold okW
 rw [m1, m2, e3, e4, e2]
 rfl
theorem aPP {d : List Int} {n : Int} {p : Prm} (h : okW p = true) (e1 : p.1.1 = d) (e2 : p.2.2.1 = [n]) : okX d n p = true := by
 unfold okW at h
 simp only [Bool.and_eq_true] at h
 obtain ⟨⟨⟨⟨m1, m2⟩, _⟩, e3⟩, e4⟩ := h
 unfold okX
 rw [m1, m2, e3, e4, decide_eq_true e1, decide_eq_true e2]
 rfl
theorem aNz {d : List Int} {n : Int} {p : Prm} {nx : Bool -> Prop} (hT : okX d n p = true -> nx false) (hF : okX d n p = false -> nx true) :
    gQ p (fun (r5 : Bool) => jn (fun (v6 : Bool) => jn nx (fun J10 => if v6 = true then J10 true else ck ((0 : Int) <= 0 /\ 0 < (p.2.2.1.length : Int)) (J10 ((p.2.2.1.getD 0 0) != n)))) (fun J7 => if (!r5) = true then J7 true else aO p.1.1 d (fun (r8 : Bool) => J7 (!r8)))) := by
  refine aIK ?_
  unfold jn
  dsimp only
  cases hw : okW p with
  | false =>
    rw [if_pos (by rfl), if_pos rfl]
    refine hF ?_
    rw [Bool.eq_false_iff]
    intro e
    rw [(aMW e).1] at hw
    cases hw
  | true =>
    rw [if_neg (by simp)]
    have h2 := hw
    unfold okW at h2
    simp only [Bool.and_eq_true, beq_iff_eq] at h2
    obtain ⟨⟨⟨⟨m1, m2⟩, l1⟩, _⟩, _⟩ := h2
    have := (dT m1).1
    refine KY (by omega) ?_
    by_cases e1 : p.1.1 = d
    · rw [decide_eq_true e1, if_neg (by simp)]
      refine ⟨by omega, ?_⟩
      obtain ⟨b, hb⟩ : ∃ b, p.2.2.1 = [b] := by
        match hB : p.2.2.1 with
        | [b] => exact ⟨b, rfl⟩
        | [] => rw [hB] at l1; simp at l1
        | _ :: _ :: _ => rw [hB] at l1; simp at l1; omega
      rw [hb]
      show nx (b != n)
      by_cases e2 : b = n
      · rw [show (b != n) = false by simp [e2]]
        exact hT (aPP hw e1 (by rw [hb, e2]))
      · rw [show (b != n) = true by simp [e2]]
        refine hF ?_
        rw [Bool.eq_false_iff]
        intro e
        have := (aMW e).2.2
        rw [hb] at this
        exact e2 (List.cons.inj this).1
    · rw [decide_eq_false e1]
      rw [if_pos (by rfl)]
      refine hF ?_
      rw [Bool.eq_false_iff]
      intro e
      exact e1 (aMW e).2.1
theorem aGX {m : Mdl} {l : List Prm} {Q : Bool -> Prop} (hl : m.2.length <= 10000000000000) (h : Q (N3 m l)) : kA m l Q := by
  refine ⟨aEs hl ?_⟩
  unfold N3 at h
  by_cases h1 : (bX m).2.2 = 0 /\ l.length = m.2.length
  rotate_left
  · have e : (((bX m).2.2 == 0) && ((l.length : Int) == (m.2.length : Int))) = false := by
      rw [Bool.eq_false_iff]
      intro hh
      simp only [Bool.and_eq_true, beq_iff_eq] at hh
      exact h1 ⟨hh.1, by omega⟩
    rw [e] at h
    rw [if_pos]
    · exact h
    · simp only [Bool.or_eq_true, bne_iff_ne, ne_eq]
      by_cases e1 : (bX m).2.2 = 0
      · right; intro e2; exact h1 ⟨e1, by omega⟩
      · exact .inl e1
  have e : (((bX m).2.2 == 0) && ((l.length : Int) == (m.2.length : Int))) = true := by simp [h1.1, h1.2]
  rw [e, Bool.true_and] at h
  rw [if_neg (by simp [h1.1, h1.2])]
  obtain ⟨hm, hok⟩ := DL h1.1
  have hlen := (nT hm).2.1
  refine ⟨?_⟩
  refine Loop.range (B := dK l (l.length : Int) m.1.1 m.1.2.1 m.1.2.2 m.2 (fun _ => Q true) (fun _ => Q false)) l.length (fun i => (i : Int)) (fun i => ∀ j, j < i -> okP (m.2.getD j dX) (AV m ((j : Int) + 1)) (l.getD j rS) = true) (fun j hj => absurd hj (by omega)) ?_ ?_
  · intro i hi hI X hX
    unfold dK
    rw [if_pos (decide_eq_true (show (i : Int) < (l.length : Int) by omega))]
    have hw : IntKind.i64.wrap ((i : Int) + 1) = (i : Int) + 1 := aA _ (by omega) (by omega)
    refine ⟨by omega, ?_⟩
    rw [hw]
    refine aN5 (m := m) hl ?_
    simp only [Int.toNat_natCast]
    have good : okP (m.2.getD i dX) (AV m ((i : Int) + 1)) (l.getD i rS) = true -> X ((i : Int) + 1) := fun hk => hX fun j hj => by
      by_cases hji : j = i
      · subst hji; exact hk
      · exact hI j (by omega)
    have bad : okP (m.2.getD i dX) (AV m ((i : Int) + 1)) (l.getD i rS) = false -> Q false := fun hk => by
      have : U0 m l = false := by
        unfold U0
        rw [List.all_eq_false]
        exact ⟨i, List.mem_range.2 hi, by rw [hk]; simp⟩
      rw [this] at h
      exact h
    unfold okP at good bad
    generalize hD : AV m ((i : Int) + 1) = D at good bad
    by_cases hd : D.1 = []
    · rw [if_pos hd] at good bad
      rw [if_pos (by simp [hd])]
      refine ⟨by omega, ⟨?_⟩⟩
      show if (((!ZD (l.getD i rS)) || ((m.2.getD i dX).1 == 1)) || ((m.2.getD i dX).1 == 2)) = true then Q false else _
      cases hz : ((ZD (l.getD i rS) && !((m.2.getD i dX).1 == 1)) && !((m.2.getD i dX).1 == 2)) with
      | true =>
        rw [if_neg (by
          revert hz
          cases ZD (l.getD i rS) <;> cases ((m.2.getD i dX).1 == 1) <;> cases ((m.2.getD i dX).1 == 2) <;> simp)]
        refine ⟨?_⟩
        rw [hw]
        exact good hz
      | false =>
        rw [if_pos (by
          revert hz
          cases ZD (l.getD i rS) <;> cases ((m.2.getD i dX).1 == 1) <;> cases ((m.2.getD i dX).1 == 2) <;> simp)]
        exact bad hz
    · rw [if_neg hd] at good bad
      rw [if_neg (by
        have := List.length_pos_iff.2 hd
        simp; omega)]
      refine aNz (nx := fun v9 => if v9 = true then Q false else eC (i : Int) (fun y11 => X y11)) (fun hk => ?_) (fun hk => ?_)
      · show if false = true then _ else _
        rw [if_neg (by simp)]
        refine ⟨?_⟩
        rw [hw]
        exact good hk
      · show if true = true then _ else _
        rw [if_pos rfl]
        exact bad hk
  · intro hI X
    unfold dK
    rw [if_neg (by simp)]
    have : U0 m l = true := by
      unfold U0
      rw [List.all_eq_true]
      intro j hj
      exact hI j (List.mem_range.1 hj)
    rw [this] at h
    exact h
theorem aJ9 {n : Int} {Q : Bool -> Prop} (h : Q (inP n 0 1000000)) : g9 n Q := ⟨h⟩
theorem aO8 {a b c : Int} {Q : Int -> Prop} (h : Q (EA a b c)) : aV a b c Q := by
  refine ⟨aJ9 ?_⟩
  unfold EA at h
  by_cases h1 : ((inP a 0 1000000 && inP b 0 12) && inP c 0 15) = true
  · rw [if_pos h1] at h
    have h2 := h1
    unfold inP at h2
    simp only [Bool.and_eq_true, decide_eq_true_eq] at h2
    obtain ⟨⟨ha, hb⟩, hc⟩ := h2
    simp only [Bool.and_eq_true] at h1
    rw [h1.1.1, if_neg (by simp; omega)]
    rw [kT a (by omega) (by omega), kT b (by omega) (by omega), kT c (by omega) (by omega), kT (a * 1024) (by omega) (by omega), kT (b * 16) (by omega) (by omega), kT (a * 1024 + b * 16) (by omega) (by omega), kT _ (by omega) (by omega)]
    exact h
  · rw [if_neg h1] at h
    rw [if_pos]
    · exact h
    · unfold inP at h1 ⊢
      simp only [Bool.and_eq_true, decide_eq_true_eq, not_and] at h1
      simp only [Bool.or_eq_true, Bool.not_eq_true', Bool.and_eq_false_iff, decide_eq_false_iff_not, decide_eq_true_eq]
      by_cases g1 : 0 <= a
      · by_cases g2 : a <= 1000000
        · by_cases g3 : 0 <= b
          · by_cases g4 : b <= 12
            · by_cases g5 : 0 <= c
              · right; have := h1 ⟨⟨g1, g2⟩, g3, g4⟩ g5; omega
              · left; right; omega
            · left; left; right; omega
          · left; left; left; right; omega
        · left; left; left; left; right; exact g2
      · left; left; left; left; left; exact g1
end Go.Proofs.YtcfpfefadlnmcaaGreat

namespace Go.Proofs.YtcfpfefadlnmcaaGreat
open Go.Mach
set_option maxRecDepth 100000
set_option linter.unusedVariables false
set_option linter.unusedSimpArgs false
theorem aPf : aCJ 8 = 127 := by decide +kernel
theorem cl8 (a : Int) : -127 <= clF a 8 /\ clF a 8 <= 127 := by
 unfold clF
 rw [aPf, show IntKind.i64.wrap (0 - 127) = -127 by decide +kernel]
 exact L7 (qT a) (-127) 127 (by omega)
theorem aJw (x : Int) (h1 : -128 <= x) (h2 : x <= 127) : IntKind.i8.wrap x = x := by
 simp only [IntKind.wrap, IntKind.bits, IntKind.signed]
 simp
 split <;> omega
theorem aKS {a : T3} {s t : Int} (h : (pQ a 8 s t).2 = 0) : aW (pQ a 8 s t).1 = true := by
 unfold pQ at h ⊢
 split at h
 ·exact absurd (show (1 : Int) = 0 from h) (by decide)
 rename_i h1
 rw [if_neg h1]
 split at h
 ·exact absurd (show (3 : Int) = 0 from h) (by decide)
 rename_i h2
 rw [if_neg h2]
 have h1 := Bool.eq_false_iff.2 h1
 simp only [Bool.or_eq_false_iff, Bool.not_eq_false'] at h1
 have h2 : XM (IntKind.i64.wrap (a.2.1 + oN a 8)) 64 = true := by simpa using h2
 obtain ⟨m1, m2, _⟩ := yQ h1.1.1
 refine dY.2 ⟨m1, ?_, (aHZ (by omega) (by omega)).1 h2, ?_⟩
 ·show ((aCP 8 s t (oN a 8) a.2.2).length : Int) = _
  unfold aCP
  rw [List.length_map, List.length_range]
  exact m2
 ·intro hm
  have hm : (-128 : Int) ∈ aCP 8 s t (oN a 8) a.2.2 := hm
  unfold aCP at hm
  obtain ⟨i, _, hi⟩ := List.mem_map.1 hm
  unfold aEn at hi
  have := cl8 (chF (IntKind.i64.wrap (a.2.2.getD i 0)) (oN a 8) (atF s t (IntKind.u64.wrap (i : Int))))
  rw [aJw _ (by omega) (by omega)] at hi
  omega
theorem aLh {x : T3} (h : (II x).2 = 0) : aW (II x).1 = true := by
 unfold II at h ⊢
 split at h
 ·rename_i hm
  rw [if_pos hm]
  obtain ⟨h1, h2, h3, h4⟩ := dY.1 hm
  refine dY.2 ⟨h1, by show ((x.2.2.map (aD 0)).length : Int) = _; rw [List.length_map]; exact h2, h3, ?_⟩
  intro hm
  obtain ⟨y, _, hy⟩ := List.mem_map.1 (show (-128 : Int) ∈ x.2.2.map (aD 0) from hm)
  unfold aD at hy
  split at hy <;> omega
 ·exact absurd (show (1 : Int) = 0 from h) (by decide)
theorem aLZ {x : T3} (h : (EP x).2 = 0) : aW (EP x).1 = true := by
  unfold EP XJ at h ⊢
  split at h
  · rename_i hm
    rw [if_pos hm]
    split at h
    · rename_i h1
      rw [if_pos h1]
      split at h
      · rename_i h2
        rw [if_pos h2]
        obtain ⟨_, _, h3, h4⟩ := dY.1 hm
        exact dY.2 ⟨h1.2, h2.symm, h3, h4⟩
      · exact absurd (show (2 : Int) = 0 from h) (by decide)
    · exact absurd (show (1 : Int) = 0 from h) (by decide)
  · exact absurd (show (1 : Int) = 0 from h) (by decide)
theorem aJo {n : Nat} {k s : Int} {P : Nat} (h : bW n k s 0 = P) (h1 : 1 <= P) : P <= n := by
 obtain ⟨a, b, c, d, e, f⟩ := yF (n := (n : Int)) (k := k) (s := s) (p := 0) (by omega)
 have h3 : ((n : Int) + 2 * 0 - k) / s <= n + 2 * 0 - k := Int.ediv_le_self _ (by omega)
 omega
theorem aKG {x : T3} {k s : Int} (h : (VP x k s).2.2 = 0) : aW (VP x k s).1 = true := by
 unfold VP at h ⊢
 split at h
 ·rename_i he
  exact absurd h (by simpa using he)
 rename_i he
 rw [if_neg he]
 have he : plE x k s = 0 := by simpa using he
 obtain ⟨N, H, V, P, Q, n, m, ex, eN, g, hm, hb⟩ := aIU he
 obtain ⟨h1, h2, h3, h4⟩ := dY.1 hm
 have hP := aJo g.hP g.p1
 have hQ := aJo g.hQ g.q1
 have g2 := g.p1
 have g3 := g.q1
 have hNPQ : N * (P * Q) <= N * (H * V) := Nat.mul_le_mul (Nat.le_refl _) (Nat.mul_le_mul hP hQ)
 have bx := g.bx
 have hle := g.le
 have hsz : szF [(n : Int), m, P, Q] = ((n * m * P * Q : Nat) : Int) := aAw (by omega) (by omega) (by omega) (by omega) (by rw [Nat.mul_assoc, <- eN]; omega)
 have hpos : 1 <= n * m * P * Q := Nat.mul_pos (Nat.mul_pos (Nat.mul_pos (by omega) (by omega)) (by omega)) (by omega)
 have en : ((n : Int) * (m : Int)).toNat = N := by rw [eN, <- Int.natCast_mul]; exact Int.toNat_natCast _
 have eD : plD x k s = [(n : Int), m, P, Q] := by unfold plD; rw [ex]; simp only [List.getD_cons_succ, List.getD_cons_zero]; rw [g.hP, g.hQ]
 have eNn : plN x k s = N * (P * Q) := by unfold plN; rw [ex]; simp only [List.getD_cons_succ, List.getD_cons_zero]; rw [g.hP, g.hQ, en]; simp
 refine dY.2 ⟨by show 0 < szF (plD x k s); rw [eD, hsz]; omega, ?_, h3, ?_⟩
 ·show (((ZQ x k s).map _).length : Int) = szF (plD x k s)
  rw [List.length_map, eD, hsz]
  unfold ZQ tab
  rw [List.length_map, List.length_range, eNn, eN, Nat.mul_assoc (n * m) P Q]
 ·intro hmm
  obtain ⟨a, ha, hy⟩ := List.mem_map.1 (show (-128 : Int) ∈ (ZQ x k s).map fun a => x.2.2.getD a.toNat 0 from hmm)
  unfold ZQ at ha
  obtain ⟨t, ht, rfl⟩ := aN3 ha
  rw [eNn] at ht
  have hPQ : 0 < P * Q := Nat.mul_pos (by omega) (by omega)
  obtain ⟨c1, c2, c3⟩ := V5 ht
  have c4 := g.cell c1 c2
  have c5 := g.addr c1 c2
  have eA : plA x k s t = pF H V k s P Q (t / (P * Q) * (P * Q) + t % (P * Q)) := by
   rw [<- c3]
   unfold plA
   rw [ex]
   simp only [List.getD_cons_succ, List.getD_cons_zero]
   rw [g.hP, g.hQ]
   simp
  have hne : plA x k s t ≠ [] := by
   rw [eA, c4.2.2.2.2]
   simpa using c4.2.2.2.1
  have := c5 _ (eA ▸ YS (X := x.2.2) hne)
  have hlt : (AS x.2.2 (plA x k s t)).toNat < x.2.2.length := by rw [<- eA] at this; exact (Int.toNat_lt this.1).2 this.2
  apply h4
  rw [<- hy]
  exact C8 hlt
theorem aEb {x : Lay} {p : Prm} {l : List T3} {s t : Int} (h : (eJ x p l s t).2.2 = 0) : aW (eJ x p l s t).1 = true := by
 unfold eJ at h ⊢
 split at h
 ·rename_i he
  exact absurd h (by simpa using he)
 rename_i he
 rw [if_neg he]
 split at h
 ·rename_i h1
  rw [if_pos h1]; exact aKS h
 rename_i h1
 rw [if_neg h1]
 split at h
 ·rename_i h1
  rw [if_pos h1]; exact aKG h
 rename_i h1
 rw [if_neg h1]
 split at h
 ·rename_i h1
  rw [if_pos h1]; exact aLh h
 ·rename_i h1
  rw [if_neg h1]; exact aLZ h
def aCF (l : List T3) : Prop := ∀ t ∈ l, aW t = true
end Go.Proofs.YtcfpfefadlnmcaaGreat

namespace Go.Proofs.YtcfpfefadlnmcaaGreat
open Go.Mach Go.RowKit
set_option maxRecDepth 100000
set_option linter.unusedVariables false
set_option linter.unusedSimpArgs false
theorem aLH {t s : T3} {fr : List Int} {e sd st i1 : Int} {aT : List T3} {aF : List (List Int)} {G : T3 × List Int × Int} {K1 : Int × Int × List T3 -> Prop} {nx : Int × List T3 × List (List Int) -> Prop} (hl : aT.length <= 1000) (hl2 : aF.length <= 1000)
    (h1 : e ≠ 0 -> G.2.2 = e) (h2 : e = 0 -> t.1 = [] -> G.1 = (pQ s 8 sd (EA st i1 0)).1 /\ G.2.2 = (pQ s 8 sd (EA st i1 0)).2) (h3 : e = 0 -> t.1 ≠ [] -> G.1 = t /\ G.2.2 = 0) (hf : G.2.2 = 0 -> G.2.1 = fr)
    (hE : G.2.2 ≠ 0 -> K1 (i1, G.2.2, [])) (hN : G.2.2 = 0 -> nx (i1, aT ++ [G.1], aF ++ [G.2.1])) :
    if ((e == 0) && ((t.1.length : Int) == 0)) = true then aV st i1 0 (fun (r11 : Int) => bD s 8 sd r11 (fun (r12 : T3 × Int) => if (r12.2 != 0) = true then K1 (i1, r12.2, ([] : List T3)) else ck ((aT.length + [r12.1].length) * 56 <= 140737488355328) (ck ((aF.length + [fr].length) * 24 <= 140737488355328) (nx (i1, aT ++ [r12.1], aF ++ [fr]))))) else if (e != 0) = true then K1 (i1, e, ([] : List T3)) else ck ((aT.length + [t].length) * 56 <= 140737488355328) (ck ((aF.length + [fr].length) * 24 <= 140737488355328) (nx (i1, aT ++ [t], aF ++ [fr]))) := by
  by_cases he : e = 0
  · by_cases ht : t.1 = []
    · rw [if_pos (by simp [he, ht])]
      obtain ⟨g1, g2⟩ := h2 he ht
      refine aO8 (aLw ?_)
      rw [<- g1, <- g2]
      by_cases hg : G.2.2 = 0
      · rw [if_neg (by simp [hg])]
        rw [<- hf hg]
        exact ⟨by simp; omega, by simp; omega, hN hg⟩
      · rw [if_pos (by simpa using hg)]
        exact hE hg
    · have := List.length_pos_iff.2 ht
      rw [if_neg (by simp [he, ht]), if_neg (by simp [he])]
      obtain ⟨g1, g2⟩ := h3 he ht
      rw [<- hf g2, <- g1]
      exact ⟨by simp; omega, by simp; omega, hN g2⟩
  · rw [if_neg (by simp [he]), if_pos (by simpa using he)]
    have := h1 he
    rw [<- this]
    exact hE (by rw [this]; exact he)
theorem aAy {r : T3 × Int} {sd st i1 : Int} {aT : List T3} {aF : List (List Int)} {G : T3 × List Int × Int} {K1 : Int × Int × List T3 -> Prop} {nx : Int × List T3 × List (List Int) -> Prop} (hl : aT.length <= 1000) (hl2 : aF.length <= 1000)
  (hG : G = if (r.2 != 0) = true then (Z3, [], r.2) else ((pQ r.1 8 sd (EA st i1 0)).1, [], (pQ r.1 8 sd (EA st i1 0)).2))
  (hE : G.2.2 ≠ 0 -> K1 (i1, G.2.2, [])) (hN : G.2.2 = 0 -> nx (i1, aT ++ [G.1], aF ++ [G.2.1])) :
  if ((r.2 == 0) && (((0 : Nat) : Int) == 0)) = true then aV st i1 0 (fun (r11 : Int) => bD r.1 8 sd r11 (fun (r12 : T3 × Int) => if (r12.2 != 0) = true then K1 (i1, r12.2, ([] : List T3)) else ck ((aT.length + [r12.1].length) * 56 <= 140737488355328) (ck ((aF.length + [([] : List Int)].length) * 24 <= 140737488355328) (nx (i1, aT ++ [r12.1], aF ++ [([] : List Int)]))))) else if (r.2 != 0) = true then K1 (i1, r.2, ([] : List T3)) else ck ((aT.length + [(([] : List Int), ((0 : Int), ([] : List Int)))].length) * 56 <= 140737488355328) (ck ((aF.length + [([] : List Int)].length) * 24 <= 140737488355328) (nx (i1, aT ++ [(([] : List Int), ((0 : Int), ([] : List Int)))], aF ++ [([] : List Int)]))) := by
 refine aLH (t := Z3) (s := r.1) (fr := []) (e := r.2) (sd := sd) (st := st) (G := G) hl hl2 (fun h => ?_) (fun h _ => ?_) (fun _ h => absurd rfl h) (fun _ => ?_) hE hN
 ·rw [hG, if_pos (by simpa using h)]
 ·rw [hG, if_neg (by simp [h])]; exact ⟨rfl, rfl⟩
 ·rw [hG]; split <;> rfl
theorem aFO {t : T3} {fr : List Int} {e sd st i1 : Int} {aT : List T3} {aF : List (List Int)} {G : T3 × List Int × Int} {K1 : Int × Int × List T3 -> Prop} {nx : Int × List T3 × List (List Int) -> Prop} (hl : aT.length <= 1000) (hl2 : aF.length <= 1000)
  (hG : G = (t, fr, e)) (hm : G.2.2 = 0 -> aW G.1 = true)
  (hE : G.2.2 ≠ 0 -> K1 (i1, G.2.2, [])) (hN : G.2.2 = 0 -> nx (i1, aT ++ [G.1], aF ++ [G.2.1])) :
  if ((e == 0) && ((t.1.length : Int) == 0)) = true then aV st i1 0 (fun (r11 : Int) => bD Z3 8 sd r11 (fun (r12 : T3 × Int) => if (r12.2 != 0) = true then K1 (i1, r12.2, ([] : List T3)) else ck ((aT.length + [r12.1].length) * 56 <= 140737488355328) (ck ((aF.length + [fr].length) * 24 <= 140737488355328) (nx (i1, aT ++ [r12.1], aF ++ [fr]))))) else if (e != 0) = true then K1 (i1, e, ([] : List T3)) else ck ((aT.length + [t].length) * 56 <= 140737488355328) (ck ((aF.length + [fr].length) * 24 <= 140737488355328) (nx (i1, aT ++ [t], aF ++ [fr]))) := by
 subst hG
 refine aLH (G := (t, fr, e)) hl hl2 (fun _ => rfl) (fun h ht => ?_) (fun h _ => ⟨rfl, h⟩) (fun _ => rfl) hE hN
 have := (dT (hm h)).2.2.1
 have ht : (t : T3).1 = [] := ht
 rw [show ((t, fr, e) : T3 × List Int × Int).1 = t from rfl, ht] at this
 simp at this
theorem aL1 {m : Mdl} {ps : List Prm} {s st : Int} {Q : Act × Int × Int -> Prop} (hm : tO m = true) (hl : ps.length = m.2.length) (hp : ∀ p ∈ ps, Prm8 p) {x : T3} (hx : All8 x.2.2) (h : Q (EL ps s st m.2 0 ([x], [[]]))) :
    i6 ps s st m.2 (m.2.length : Int) (fun y => Q (y, 0, 0)) (fun y => Q ((y.2.2, ([] : List (List Int))), y.1, y.2.1)) (0, [x], [([] : List Int)]) := by
  refine ⟨?_⟩
  obtain ⟨_, ⟨k1, k2⟩, k3⟩ := nT hm
  refine Loop.rangeI (B := d8 ps s st m.2 (m.2.length : Int) (fun y => Q (y, 0, 0)) (fun y => Q ((y.2.2, ([] : List (List Int))), y.1, y.2.1))) m.2.length
    (fun i z => z.1 = (i : Int) /\ z.2.1.length = i + 1 /\ z.2.2.length = i + 1 /\ Ten8 z.2.1 /\ Q (EL ps s st (m.2.drop i) i (z.2.1, z.2.2)))
    ⟨rfl, rfl, rfl, (fun t ht => by rw [List.mem_singleton.1 ht]; exact hx), by rw [List.drop_zero]; exact h⟩ ?_ ?_
  · rintro i hi ⟨z1, z2, z3⟩ ⟨rfl, e1, e2, h8, hq⟩ X hX
    unfold d8
    dsimp only at e1 e2 h8 hq ⊢
    rw [if_pos (decide_eq_true (show (i : Int) < (m.2.length : Int) by omega))]
    obtain ⟨el, hpos⟩ := aFq (l := z2) (by intro e; rw [e] at e1; cases e1) (by omega)
    rw [aA ((i : Int) + 1) (by omega) (by omega), el]
    simp only [Int.toNat_natCast]
    rw [List.drop_eq_getElem_cons hi] at hq
    have eg : m.2.getD i dX = m.2[i] := by rw [List.getD_eq_getElem?_getD, List.getElem?_eq_getElem hi]; rfl
    rw [<- eg] at hq
    have h7 : (m.2.getD i dX).1 = 7 -> 0 <= (m.2.getD i dX).2.2.2.2.2.1 /\ (m.2.getD i dX).2.2.2.2.2.1 < (z2.length : Int) := fun h7 => by
      have := KO (k3 i hi) h7
      rw [aA ((i : Int) - 1) (by omega) (by omega)] at this
      have h0 : 0 <= (m.2.getD i dX).2.2.2.2.2.1 := this.1
      have h1 : (m.2.getD i dX).2.2.2.2.2.1 <= (i : Int) - 1 := this.2
      exact ⟨h0, by rw [e1]; omega⟩
    unfold EL at hq
    have b8 : All8 (eJ (m.2.getD i dX) (ps.getD i rS) z2 s (EA st ((i : Int) + 1) 0)).1.2.2 := aMY h8
    have hm' := aEb (x := m.2.getD i dX) (p := ps.getD i rS) (l := z2) (s := s) (t := EA st ((i : Int) + 1) 0)
    have hp' : Prm8 (ps.getD i rS) := Prm8.at_ hp i
    show ck _ (ck _ (ck _ _))
    refine ⟨by omega, by omega, by omega, ?_⟩
    generalize hLy : m.2.getD i dX = y at hq h7 b8 hm'
    generalize hPp : ps.getD i rS = p at hq b8 hm' hp'
    have hGd : eJ y p z2 s (EA st ((i : Int) + 1) 0) = eJ y p z2 s (EA st ((i : Int) + 1) 0) := rfl
    generalize hGe : eJ y p z2 s (EA st ((i : Int) + 1) 0) = G at hq b8 hm'
    have hE : G.2.2 ≠ 0 -> Q ((([] : List T3), ([] : List (List Int))), (i : Int) + 1, G.2.2) := fun hne => by
      rw [if_pos (by simpa using hne)] at hq
      exact hq
    have hN : G.2.2 = 0 -> X ((i : Int) + 1, z2 ++ [G.1], z3 ++ [G.2.1]) := fun he => by
      rw [if_neg (by simp [he])] at hq
      refine hX _ ⟨by simp, by simp; omega, by simp; omega, ?_, hq⟩
      intro t ht
      rcases List.mem_append.1 ht with ht | ht
      · exact h8 t ht
      · rw [List.mem_singleton.1 ht]
        exact b8
    have la : z2.length <= 1000 := by omega
    have lb : z3.length <= 1000 := by omega
    by_cases c1 : (y.1 == 1) = true
    · rw [if_pos c1]
      refine aLy (h8.at_ _) hp'.1 hp'.2 ⟨?_⟩
      refine aAy (r := aGt (lY z2) p.1 p.2.2) (G := G) (K1 := fun y => Q ((y.2.2, ([] : List (List Int))), y.1, y.2.1)) la lb ?_ hE hN
      rw [<- hGe]
      unfold eJ EN
      simp only [c1, if_true]
    have c1 := Bool.eq_false_iff.2 c1
    rw [if_neg (by rw [c1]; simp)]
    by_cases c2 : (y.1 == 2) = true
    · rw [if_pos c2]
      refine aMg (h8.at_ _) hp'.1 hp'.2 ⟨?_⟩
      refine aAy (r := Q9 (lY z2) p.1 p.2.2 y.2.2.2.1 y.2.2.2.2.1) (G := G) (K1 := fun y => Q ((y.2.2, ([] : List (List Int))), y.1, y.2.1)) la lb ?_ hE hN
      rw [<- hGe]
      unfold eJ EN
      simp only [c1, c2, if_true, Bool.false_eq_true, if_false]
    have c2 := Bool.eq_false_iff.2 c2
    rw [if_neg (by rw [c2]; simp)]
    by_cases c4 : (y.1 == 4) = true
    · rw [if_pos c4]
      refine aOR ⟨?_⟩
      refine aAy (r := aJW (lY z2) y.2.2.1 y.2.2.2.1) (G := G) (K1 := fun y => Q ((y.2.2, ([] : List (List Int))), y.1, y.2.1)) la lb ?_ hE hN
      rw [<- hGe]
      unfold eJ EN
      simp only [c1, c2, c4, if_true, Bool.false_eq_true, if_false]
    have c4 := Bool.eq_false_iff.2 c4
    rw [if_neg (by rw [c4]; simp)]
    by_cases c7 : (y.1 == 7) = true
    · rw [if_pos c7]
      refine ⟨h7 (by simpa using c7), aOI ⟨?_⟩⟩
      refine aAy (r := addF (lY z2) (z2.getD y.2.2.2.2.2.1.toNat Z3)) (G := G) (K1 := fun y => Q ((y.2.2, ([] : List (List Int))), y.1, y.2.1)) la lb ?_ hE hN
      rw [<- hGe]
      unfold eJ EN
      simp only [c1, c2, c4, c7, if_true, Bool.false_eq_true, if_false]
    have c7 := Bool.eq_false_iff.2 c7
    rw [if_neg (by rw [c7]; simp)]
    by_cases c3 : (y.1 == 3) = true
    · rw [if_pos c3]
      refine aOY ?_
      refine aFO (t := (VP (lY z2) y.2.2.1 y.2.2.2.1).1) (fr := (VP (lY z2) y.2.2.1 y.2.2.2.1).2.1) (e := (VP (lY z2) y.2.2.1 y.2.2.2.1).2.2) (G := G) (K1 := fun y => Q ((y.2.2, ([] : List (List Int))), y.1, y.2.1)) la lb ?_ hm' hE hN
      rw [<- hGe]
      unfold eJ EN
      simp only [c1, c2, c4, c7, c3, if_true, Bool.false_eq_true, if_false]
      rfl
    have c3 := Bool.eq_false_iff.2 c3
    rw [if_neg (by rw [c3]; simp)]
    by_cases c5 : (y.1 == 5) = true
    · rw [if_pos c5]
      refine aMb ?_
      refine aFO (t := (II (lY z2)).1) (fr := []) (e := (II (lY z2)).2) (G := G) (K1 := fun y => Q ((y.2.2, ([] : List (List Int))), y.1, y.2.1)) la lb ?_ hm' hE hN
      rw [<- hGe]
      unfold eJ EN
      simp only [c1, c2, c4, c7, c3, c5, if_true, Bool.false_eq_true, if_false]
      rfl
    have c5 := Bool.eq_false_iff.2 c5
    rw [if_neg (by rw [c5]; simp)]
    refine aNI ?_
    refine aFO (t := (EP (lY z2)).1) (fr := []) (e := (EP (lY z2)).2) (G := G) (K1 := fun y => Q ((y.2.2, ([] : List (List Int))), y.1, y.2.1)) la lb ?_ hm' hE hN
    rw [<- hGe]
    unfold eJ EN
    simp only [c1, c2, c4, c7, c3, c5, if_true, Bool.false_eq_true, if_false]
    rfl
  · rintro ⟨z1, z2, z3⟩ ⟨rfl, e1, e2, h8, hq⟩ X
    unfold d8
    dsimp only at hq ⊢
    rw [if_neg (by simp)]
    rw [List.drop_length] at hq
    exact hq
theorem aOT {m : Mdl} {ps : List Prm} {x : T3} {s st : Int} {Q : Act × Int × Int -> Prop} (hl : m.2.length <= 10000000000000) (hp : ∀ p ∈ ps, Prm8 p) (hx : All8 x.2.2) (h : Q (aED m ps x s st)) : iB m ps x s st Q := by
  refine ⟨aJ9 ?_⟩
  unfold aED at h
  refine AX (c := !N3 m ps) (fun _ P hP => aGX hl hP) (fun v e => ?_) rfl
  refine AX (c := !aW x) (fun _ P hP => aJc hP) (fun v5 e5 => ?_) rfl
  rw [<- e, <- e5] at h
  cases v5 with
  | true => rw [if_pos rfl] at h ⊢; exact h
  | false =>
    rw [if_neg (by simp)] at h
    rw [if_neg (by simp)]
    have hv : v = false /\ aW x = true := by
      have := e5.symm
      simp only [Bool.or_eq_false_iff, Bool.not_eq_false'] at this
      exact this
    have hmp : N3 m ps = true := by
      have := e.symm
      rw [hv.1] at this
      simp only [Bool.or_eq_false_iff, Bool.not_eq_false'] at this
      exact this.2
    refine AX (c := !decide (x.1.drop 1 = inL m)) (fun hb P hP => ?_) (fun v8 e8 => ?_) rfl
    · have : (x.1.length : Int) = 4 := by simpa using hb
      refine ⟨⟨(fun e0 => by rw [e0] at this; simp at this), by omega, by omega, by omega⟩, ?_⟩
      have e9 : (x.1.take ((x.1.length : Int)).toNat).drop ((1 : Int)).toNat = x.1.drop 1 := by rw [Int.toNat_natCast, List.take_length]; rfl
      rw [e9]
      exact KY (by simp; omega) hP
    · rw [<- e8] at h
      cases v8 with
      | true => rw [if_pos rfl] at h ⊢; exact h
      | false =>
        rw [if_neg (by simp)] at h
        rw [if_neg (by simp)]
        obtain ⟨w1, w2⟩ := aHK hmp
        exact aL1 w1 w2 hp hx h
def aDI (l : List (List Int)) : Prop := ∀ f ∈ l, f.length <= 1000000
theorem aJQ {x : Lay} {p : Prm} {l : List T3} {s t : Int} (h : (eJ x p l s t).2.2 = 0) : (eJ x p l s t).2.1.length <= 1000000 := by
 unfold eJ at h ⊢
 split at h
 ·rename_i he
  exact absurd h (by simpa using he)
 rename_i he
 rw [if_neg he]
 split at h
 ·rename_i h1
  rw [if_pos h1]; simp
 rename_i h1
 rw [if_neg h1]
 split at h
 ·rename_i h1
  rw [if_pos h1]
  have hm := (dT (aKG h)).2.1
  unfold VP at hm h ⊢
  split
  ·simp
  ·rename_i h2
   rw [if_neg h2] at hm
   dsimp only at hm ⊢
   rw [List.length_map] at hm
   omega
 rename_i h1
 rw [if_neg h1]
 split <;> simp
theorem aCp {ps : List Prm} {s st : Int} : ∀ (r : List Lay) (i : Nat) (a : Act), a.1.length = a.2.length -> aCF a.1 -> aDI a.2 ->
    (EL ps s st r i a).1.1.length = (EL ps s st r i a).1.2.length /\ (EL ps s st r i a).1.1.length <= a.1.length + r.length /\ aCF (EL ps s st r i a).1.1 /\ aDI (EL ps s st r i a).1.2
  | [], i, a, h1, h2, h3 => ⟨h1, Nat.le_add_right _ _, h2, h3⟩
  | x :: r, i, a, h1, h2, h3 => by
    unfold EL
    split
    · exact ⟨rfl, Nat.zero_le _, fun t ht => (by cases ht), fun f hf => (by cases hf)⟩
    · rename_i he
      have he : (eJ x (ps.getD i rS) a.1 s (EA st ((i : Int) + 1) 0)).2.2 = 0 := by simpa using he
      obtain ⟨g1, g2, g3, g4⟩ := aCp (ps := ps) (s := s) (st := st) r (i + 1) (a.1 ++ [(eJ x (ps.getD i rS) a.1 s (EA st ((i : Int) + 1) 0)).1], a.2 ++ [(eJ x (ps.getD i rS) a.1 s (EA st ((i : Int) + 1) 0)).2.1])
        (by simp [h1]) (fun t ht => by
          rcases List.mem_append.1 ht with ht | ht
          · exact h2 t ht
          · rw [List.mem_singleton.1 ht]; exact aEb he) (fun f hf => by
          rcases List.mem_append.1 hf with hf | hf
          · exact h3 f hf
          · rw [List.mem_singleton.1 hf]; exact aJQ he)
      exact ⟨g1, by simp at g2 ⊢; omega, g3, g4⟩
theorem aKa {m : Mdl} {ps : List Prm} {x : T3} {s st : Int} (hl : m.2.length <= 40) : (aED m ps x s st).1.1.length = (aED m ps x s st).1.2.length /\ (aED m ps x s st).1.1.length <= 41 /\ aCF (aED m ps x s st).1.1 /\ aDI (aED m ps x s st).1.2 := by
  have z : ([] : List T3).length = ([] : List (List Int)).length /\ ([] : List T3).length <= 41 /\ aCF [] /\ aDI [] := ⟨rfl, Nat.zero_le _, fun t ht => (by cases ht), fun f hf => (by cases hf)⟩
  unfold aED
  split
  · exact z
  · rename_i h1
    split
    · exact z
    · have hx : aW x = true := by
        have h1 := Bool.eq_false_iff.2 h1
        simp only [Bool.or_eq_false_iff, Bool.not_eq_false'] at h1
        exact h1.2
      obtain ⟨g1, g2, g3, g4⟩ := aCp (ps := ps) (s := s) (st := st) m.2 0 ([x], [[]]) rfl (fun t ht => by rw [List.mem_singleton.1 ht]; exact hx) (fun f hf => by rw [List.mem_singleton.1 hf]; simp)
      exact ⟨g1, by simp at g2; omega, g3, g4⟩
theorem aNf {a : Act} {Q : Bool -> Prop} (h1 : a.1.length = a.2.length) (h2 : a.1.length <= 41) (h3 : aCF a.1) (h4 : aDI a.2) (h : Q true) : kN a a Q := by
 refine ⟨?_⟩
 rw [if_neg (by simp)]
 refine ⟨?_⟩
 refine Loop.range (B := f7 (a.1.length : Int) a.1 a.2 a.1 a.2 (fun _ => Q true) (fun _ => Q false)) a.1.length (fun i => (i : Int)) (fun _ => True) trivial ?_ ?_
 ·intro i hi _ X hX
  unfold f7
  rw [if_pos (decide_eq_true (show (i : Int) < (a.1.length : Int) by omega))]
  simp only [Int.toNat_natCast]
  have ht : aW (a.1.getD i Z3) = true := by
   rw [List.getD_eq_getElem?_getD, List.getElem?_eq_getElem hi]
   exact h3 _ (List.getElem_mem _)
  have hlt := dT ht
  have hf : (a.2.getD i []).length <= 1000000 := by
   rw [List.getD_eq_getElem?_getD, List.getElem?_eq_getElem (show i < a.2.length by omega)]
   exact h4 _ (List.getElem_mem _)
  refine ⟨by omega, by omega, aNC (show (a.1.getD i Z3).1.length <= 1000000 by omega) (show (a.1.getD i Z3).2.2.length <= 1000000 by omega) ?_⟩
  rw [decide_eq_true rfl]
  unfold jn
  dsimp only
  rw [if_neg (by simp)]
  refine ⟨by omega, by omega, KY hf ?_⟩
  rw [decide_eq_true rfl, if_neg (by simp), aA ((i : Int) + 1) (by omega) (by omega)]
  exact hX trivial
 ·intro _ X
  unfold f7
  rw [if_neg (by simp)]
  exact h
theorem aHk {m : Mdl} {ps : List Prm} {x : T3} {s st : Int} {Q : Bool -> Prop} (hp : ∀ p ∈ ps, Prm8 p) (hx : All8 x.2.2) (h : Q true) : lU m ps x s st Q := by
 refine ⟨?_⟩
 by_cases hb : ((decide (40 < (m.2.length : Int)) || decide (300 < (x.2.2.length : Int))) || decide (12 < (ps.length : Int))) = true
 ·rw [if_pos hb]; exact aFN h
 rw [if_neg hb]
 simp only [Bool.or_eq_true, decide_eq_true_eq, not_or] at hb
 obtain ⟨⟨b1, b2⟩, b3⟩ := hb
 have main : ∀ y2 : Int, if (decide (600 < y2)) = true then cY (fun (r3 : Bool) => Q r3) else zH m ps x s st (fun r4 => iB m ps x s st (fun r5 => kN r4.1 r5.1 (fun (r6 : Bool) => jn (fun (v7 : Bool) => Q v7) (fun J8 => if ((r6 && (r4.2.1 == r5.2.1)) && (r4.2.2 == r5.2.2)) = true then cY (fun (r9 : Bool) => J8 r9) else J8 false)))) := by
  intro y2
  split
  ·exact aFN h
  ·refine aPS (by omega) hp hx (aOT (by omega) hp hx ?_)
   obtain ⟨g1, g2, g3, g4⟩ := aKa (m := m) (ps := ps) (x := x) (s := s) (st := st) (by omega)
   refine aNf g1 g2 g3 g4 ?_
   unfold jn
   dsimp only
   rw [if_pos (by simp)]
   exact aFN h
 refine ⟨?_⟩
 refine Loop.rangeI (B := cJ ps (ps.length : Int) _) ps.length (fun i z => z.2 = (i : Int)) rfl ?_ ?_
 ·rintro i hi ⟨z1, z2⟩ rfl X hX
  unfold cJ
  dsimp only
  rw [if_pos (decide_eq_true (show (i : Int) < (ps.length : Int) by omega))]
  refine ⟨by omega, ?_⟩
  rw [aA ((i : Int) + 1) (by omega) (by omega)]
  exact hX _ rfl
 ·rintro ⟨z1, z2⟩ rfl X
  unfold cJ
  rw [if_neg (by simp)]
  exact main z1
end Go.Proofs.YtcfpfefadlnmcaaGreat

namespace Go.Proofs.YtcfpfefadlnmcaaGreat
open Go.Mach Go.RowKit
set_option maxRecDepth 100000
set_option linter.unusedVariables false
abbrev aO5 : Ty := .pair (.slc (.int .i64)) (.pair (.int .i64) (.slc (.int .i8)))
abbrev aPg : Ty := .pair aO5 (.pair (.slc (.int .i32)) aO5)
theorem aOq {l : List Int} (h : TR (.slc (.int .i8)) l) : All8 l := fun y hy => aOO (h.2 y hy)
theorem aCV {x : T3} (h : TR aO5 x) : All8 x.2.2 := aOq h.2.2
theorem aL5 {l : List Prm} (h : TR (.slc aPg) l) : ∀ p ∈ l, Prm8 p := fun p hp => by
 have := h.2 p hp
 exact ⟨aCV this.1, aCV this.2.2⟩
end Go.Proofs.YtcfpfefadlnmcaaGreat
