/- ConvMoves: a window with a single one moves the plane. Laws; no condition. -/
import Derived.Test.YtmleeffinagncaaQ7
namespace Go.Proofs.Ytmleeffinagncaa
open Go.Mach Go.RowKit
set_option maxRecDepth 100000
set_option linter.unusedVariables false
set_option linter.unusedSimpArgs false

theorem u64_nonneg (a : Int) : 0 ≤ IntKind.u64.wrap a := by
  simp only [IntKind.wrap, IntKind.bits, IntKind.signed]; simp; omega
theorem umod (a m : Int) (h : 0 < m) (hm : m ≤ 1000000) : ∃ n : Nat, IntKind.i64.wrap ((IntKind.u64.wrap a).tmod m) = n ∧ (n : Int) < m := by
  have h0 := u64_nonneg a
  rw [Int.tmod_eq_emod_of_nonneg h0]
  have h1 := Int.emod_nonneg (IntKind.u64.wrap a) (b := m) (by omega)
  have h2 := Int.emod_lt_of_pos (IntKind.u64.wrap a) h
  obtain ⟨n, hn⟩ := Int.eq_ofNat_of_zero_le h1
  exact ⟨n, by rw [wrap_i64 _ (by omega) (by omega), hn], by omega⟩
theorem outF_plain {n k : Nat} (h1 : 1 ≤ n) (h2 : n ≤ 16) (h3 : 1 ≤ k) (h4 : k ≤ 5) (h5 : k ≤ n) : outF n k 1 0 = ((n - k + 1 : Nat) : Int) := by
  unfold outF badOut inP
  rw [if_neg (by simp; omega), Int.ediv_one]
  omega
theorem szF4_one {h : Nat} (h1 : 1 ≤ h) (h2 : h ≤ 16) : szF [1, 1, (h : Int), (h : Int)] = ((h * h : Nat) : Int) := by
  have hh : h * h ≤ 16 * 16 := Nat.mul_le_mul h2 h2
  have := szF4_of (n := 1) (m := 1) (p := h) (q := h) (by omega) (by omega) (by omega) (by omega) (by simp only [Nat.one_mul]; omega)
  simp only [Nat.one_mul] at this
  exact this

theorem cmayF_of {l : List T3} (h : ∀ t ∈ l, mayF t = true ∧ (t.1.length : Int) = 4) : cmayF l = 0 := by
  unfold cmayF
  rw [if_pos (List.all_eq_true.2 fun t ht => (h t ht).1), if_pos (List.all_eq_true.2 fun t ht => by simpa using (h t ht).2)]
/-- What Forward answers, where all goes together. -/
theorem convF_ok {n C H V O K P R : Nat} {x w b : T3} {s p : Int} (mx : mayF x = true) (mw : mayF w = true) (mb : mayF b = true) (ex : x.1 = [(n : Int), C, H, V]) (ew : w.1 = [(O : Int), C, K, K]) (eb : b.1 = [(O : Int)])
    (eP : outF H K s p = P) (eR : outF V K s p = R) (hP : 0 < P) (hR : 0 < R) (hf : C * K * K ≤ 959) (hs : 0 < szF [(n : Int), O, P, R]) :
    convF x w b s p = (([(n : Int), O, P, R], (x.2.1 + w.2.1, lst4 n O P R (fwdCell H V C K s p x.2.2 w.2.2 b.2.2 b.2.1 (x.2.1 + w.2.1)))), 0) := by
  have hc : cmayF [x, w] = 0 := cmayF_of fun t ht => by
    rcases List.mem_cons.1 ht with e | e
    · subst e; exact ⟨mx, by rw [ex]; rfl⟩
    · rcases List.mem_singleton.1 e with rfl
      exact ⟨mw, by rw [ew]; rfl⟩
  have x2 := (mayF_iff.1 mx).2.2.1
  have w2 := (mayF_iff.1 mw).2.2.1
  have hb : convBad x w b s p = false := by
    unfold convBad
    simp only [ex, ew, eb, List.getD_cons_zero, List.getD_cons_succ, eP, eR]
    simp
    omega
  have hE : convE x w b s p = 0 := by
    unfold convE
    rw [mb, hc, hb]
    simp only [Bool.not_true, Bool.false_eq_true, if_false, bne_self_eq_false]
    unfold convDims convN
    simp only [ex, ew, List.getD_cons_zero, List.getD_cons_succ, eP, eR]
    rw [sumsF_of (fitsF_iff.2 ⟨by rw [← Int.natCast_mul, ← Int.natCast_mul]; omega, by rw [← Int.natCast_mul, ← Int.natCast_mul]; omega⟩) (by omega) hs]
  unfold convF
  rw [hE, if_neg (by simp)]
  unfold convDims convData
  simp only [ex, ew, List.getD_cons_zero, List.getD_cons_succ, eP, eR, Int.toNat_natCast]

theorem moves_v {a0 : List Int} {a1 a2 a3 a4 : Int} {Q : Bool → Prop} (ha : All8 a0) (hq : Q true) : pedagoguelaw11_ConvMoves a0 a1 a2 a3 a4 Q := by
  refine ⟨?_⟩
  unfold pedagoguelaw11_ConvMoves_t
  obtain ⟨h', eh, hh⟩ := umod a1 5 (by omega) (by omega)
  obtain ⟨k', ek, hk⟩ := umod a2 3 (by omega) (by omega)
  rw [eh, ek]
  have e1 : IntKind.i64.wrap (3 + (h' : Int)) = ((3 + h' : Nat) : Int) := by rw [wrap_i64 _ (by omega) (by omega)]; omega
  have e2 : IntKind.i64.wrap (1 + (k' : Int)) = ((1 + k' : Nat) : Int) := by rw [wrap_i64 _ (by omega) (by omega)]; omega
  rw [e1, e2]
  obtain ⟨h, hh'⟩ : ∃ h, 3 + h' = h := ⟨_, rfl⟩
  obtain ⟨k, hk'⟩ : ∃ k, 1 + k' = k := ⟨_, rfl⟩
  rw [hh', hk']
  rw [wrap_u64 (k : Int) (by omega) (by omega)]
  obtain ⟨r, er, hr⟩ := umod a3 (k : Int) (by omega) (by omega)
  obtain ⟨c, ec, hc⟩ := umod a4 (k : Int) (by omega) (by omega)
  rw [er, ec]
  refine ⟨by omega, by omega, by omega, by omega, ?_⟩
  refine tn_v (by simp) (tn_v (by simp) (tn_v (by simp) ?_))
  have sh := szF4_one (h := h) (by omega) (by omega)
  have sk := szF4_one (h := k) (by omega) (by omega)
  have hk2 : k * k ≤ 3 * 3 := Nat.mul_le_mul (by omega) (by omega)
  have hrc : r * k + c < k * k := ix_lt (by omega) (by omega)
  refine ⟨?_⟩
  unfold pedagoguelaw11_ConvMoves_n0_t
  unfold tnF
  rw [sh, sk, Int.toNat_natCast, Int.toNat_natCast]
  dsimp only
  rw [ix (by omega), Int.toNat_natCast]
  refine ⟨by rw [tab_len]; omega, ?_⟩
  have w8 : All8 ((tab (k * k) (tnC [])).set (r * k + c) 1) := by
    intro y hy
    rcases List.mem_or_eq_of_mem_set hy with e | e
    · exact (tab8 fun i => by have := tnC_rng all8_nil i; omega) y e
    · subst e; omega
  have eo := outF_plain (n := h) (k := k) (by omega) (by omega) (by omega) (by omega) (by omega)
  obtain ⟨o, ho⟩ : ∃ o, h - k + 1 = o := ⟨_, rfl⟩
  rw [ho] at eo
  have ho7 : o ≤ 7 := by omega
  have hoo : o * o ≤ 7 * 7 := Nat.mul_le_mul ho7 ho7
  have hhh : h * h ≤ 7 * 7 := Nat.mul_le_mul (by omega) (by omega)
  have so := szF4_one (h := o) (by omega) (by omega)
  have p8 := tnF_8 ha [1, 1, (h : Int), (h : Int)]
  have pm := tnF_may (d := [1, 1, (h : Int), (h : Int)]) ha (by rw [sh]; have : 1 * 1 ≤ h * h := Nat.mul_le_mul (by omega) (by omega); omega)
  unfold tnF at p8 pm
  rw [sh, Int.toNat_natCast] at p8 pm
  have wm : mayF ([1, 1, (k : Int), (k : Int)], (0, (tab (k * k) (tnC [])).set (r * k + c) 1)) = true := by
    have g := mayF_iff.1 (tnF_may (l := []) (d := [1, 1, (k : Int), (k : Int)]) all8_nil (by rw [sk]; omega))
    refine mayF_iff.2 ⟨g.1, ?_, g.2.2.1, ?_⟩
    · show (((tab (k * k) (tnC [])).set (r * k + c) 1).length : Int) = _
      rw [List.length_set, tab_len, sk]
    · intro hm
      rcases List.mem_or_eq_of_mem_set hm with e | e
      · have e0 : tab (k * k) (tnC []) = (tnF [] [1, 1, (k : Int), (k : Int)]).2.2 := by unfold tnF; rw [sk, Int.toNat_natCast]
        rw [e0] at e
        exact g.2.2.2 e
      · omega
  have bm : mayF ([1], (0, tab (szF [1]).toNat (tnC []))) = true := by decide +kernel
  refine conv_v p8 w8 (by intro y hy; rw [show tab (szF [1]).toNat (tnC []) = [0] by decide +kernel] at hy; simp at hy; omega) ?_
  rw [convF_ok (n := 1) (C := 1) (H := h) (V := h) (O := 1) (K := k) (P := o) (R := o) pm wm bm rfl rfl rfl eo eo (by omega) (by omega) (by simp only [Nat.one_mul]; omega) (by rw [show szF [((1 : Nat) : Int), ((1 : Nat) : Int), (o : Int), (o : Int)] = szF [1, 1, (o : Int), (o : Int)] from rfl, so]; have : 1 * 1 ≤ o * o := Nat.mul_le_mul (by omega) (by omega); omega)]
  refine rout_v (by omega) ?_
  rw [eo, mulw (by omega)]
  dsimp only
  rw [lst4_len]
  simp only [Nat.one_mul]
  rw [if_neg (by simp)]
  refine ⟨?_⟩
  obtain ⟨D, hD⟩ : ∃ D, lst4 1 1 o o (fwdCell h h 1 k 1 0 (tab (h * h) (tnC a0)) ((tab (k * k) (tnC [])).set (r * k + c) 1) (tab (szF [1]).toNat (tnC [])) 0 (0 + 0)) = D := ⟨_, rfl⟩
  rw [hD]
  have hDl : D.length = o * o := by rw [← hD, lst4_len]; simp only [Nat.one_mul]
  have hDg : ∀ y x, y < o → x < o → D.getD (y * o + x) 0 = IntKind.i32.wrap (tnC a0 ((y + r) * h + (x + c))) := by
    intro y x hy hx
    have := lst4_get (n := 1) (O := 1) (m := 0) (o := 0) (cell := fwdCell h h 1 k 1 0 (tab (h * h) (tnC a0)) ((tab (k * k) (tnC [])).set (r * k + c) 1) (tab (szF [1]).toNat (tnC [])) 0 (0 + 0)) (by omega) (by omega) hy hx
    rw [hD] at this
    unfold ix4 at this
    simp only [Nat.zero_mul, Nat.zero_add] at this
    rw [this]
    unfold fwdCell
    congr 1
    have ea : alF ((tab (szF [1]).toNat (tnC [])).getD 0 0) 0 (0 + 0) = 0 := by decide +kernel
    rw [ea]
    simp only [sumTo, Int.zero_add]
    rw [windowF_ok eo eo hy hx, lsum_winF]
    rw [sumTo_one (k := r) (by omega)]
    · rw [sumTo_one (k := c) (by omega)]
      · rw [if_pos (by rw [inP_of (by omega) (by omega), inP_of (by omega) (by omega)]; rfl)]
        unfold fwdG
        dsimp only
        have e3 : ((1 : Int) * (y : Int) - 0 + (r : Int)) * (h : Int) + ((1 : Int) * (x : Int) - 0 + (c : Int)) = (((y + r) * h + (x + c) : Nat) : Int) := by
          rw [Int.natCast_add ((y + r) * h), Int.natCast_mul, Int.natCast_add, Int.natCast_add]; simp
        rw [e3, Int.toNat_natCast, Int.toNat_natCast, Int.toNat_natCast]
        simp only [Nat.zero_mul, Nat.zero_add]
        rw [tab_getD _ (ix_lt (by omega) (by omega)), getD_set (by rw [tab_len]; omega), if_pos rfl, Int.mul_one]
      · intro j hj hjc
        split
        · unfold fwdG
          dsimp only
          simp only [Nat.zero_mul, Nat.zero_add, Int.toNat_natCast]
          rw [getD_set (by rw [tab_len]; omega), if_neg (by omega), tab_getD _ (ix_lt (by omega) hj)]
          simp [tnC]
        · rfl
    · intro i hi hir
      refine sumTo_zero fun j hj => ?_
      split
      · unfold fwdG
        dsimp only
        simp only [Nat.zero_mul, Nat.zero_add, Int.toNat_natCast]
        rw [getD_set (by rw [tab_len]; omega), if_neg (fun e => hir (ix_inj (by omega) hj e).1.symm), tab_getD _ (ix_lt hi hj)]
        simp [tnC]
      · rfl
  refine Loop.range (B := pedagoguelaw11_ConvMoves_n1_B h r c o ((o * o : Nat) : Int) D (tab (h * h) (tnC a0)) _ _) (f := fun i : Nat => (i : Int)) (o * o) (fun _ => True) trivial ?_ ?_
  · intro i hi _ X hX
    have hX := hX trivial
    unfold pedagoguelaw11_ConvMoves_n1_B
    rw [if_pos (decide_eq_true (show (i : Int) < ((o * o : Nat) : Int) by omega))]
    obtain ⟨c1, c2, c3⟩ := ix_cover hi
    obtain ⟨y, ey⟩ : ∃ y, i / o = y := ⟨_, rfl⟩
    obtain ⟨x, ex⟩ : ∃ x, i % o = x := ⟨_, rfl⟩
    rw [ey, ex] at c3
    rw [ey] at c1
    rw [ex] at c2
    have et : IntKind.i64.wrap ((i : Int).tdiv (o : Int)) = (y : Int) := by
      rw [Int.tdiv_eq_ediv_of_nonneg (by omega), ← Int.natCast_ediv, ey, wrap_i64 _ (by omega) (by omega)]
    have em : (i : Int).tmod (o : Int) = (x : Int) := by
      rw [Int.tmod_eq_emod_of_nonneg (by omega), ← Int.natCast_emod, ex]
    have eyr : IntKind.i64.wrap ((y : Int) + (r : Int)) = ((y + r : Nat) : Int) := by
      rw [wrap_i64 _ (by omega) (by omega)]; omega
    rw [et, em, eyr]
    have l1 : (y + r) * h + (x + c) < h * h := ix_lt (by omega) (by omega)
    rw [ix (r := y + r) (n := h) (i := x) (by omega)]
    have e5 : IntKind.i64.wrap ((((y + r) * h + x : Nat) : Int) + (c : Int)) = (((y + r) * h + (x + c) : Nat) : Int) := by
      rw [wrap_i64 _ (by omega) (by omega)]; omega
    rw [e5]
    refine ⟨by omega, by omega, by omega, by rw [tab_len]; omega, ?_⟩
    have hd := hDg _ _ c1 c2
    rw [← c3] at hd
    rw [Int.toNat_natCast, Int.toNat_natCast, tab_getD _ l1, hd]
    rw [if_neg (by simp), wrap_i64 _ (by omega) (by omega)]
    exact hX
  · intro _ X
    unfold pedagoguelaw11_ConvMoves_n1_B
    rw [if_neg (by simp)]
    exact awake_v hq

end Go.Proofs.Ytmleeffinagncaa
