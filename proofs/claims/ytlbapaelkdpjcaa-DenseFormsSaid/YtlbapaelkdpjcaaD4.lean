/- The law DenseSums, plainly, and its walk. No condition. -/
import Derived.Test.YtlbapaelkdpjcaaD3
namespace Go.Proofs.Ytlbapaelkdpjcaa
open Go.Mach Go.RowKit
set_option maxRecDepth 100000
set_option linter.unusedVariables false
set_option linter.unusedSimpArgs false

theorem sl_get {l : List Int} {a b j : Nat} (h : a + j < b) : ((l.take b).drop a).getD j 0 = l.getD (a + j) 0 := by
  rw [List.getD_eq_getElem?_getD, List.getElem?_drop, List.getElem?_take_of_lt h, List.getD_eq_getElem?_getD]
theorem sl_len {l : List Int} {a b : Nat} (hb : b ≤ l.length) : ((l.take b).drop a).length = b - a := by
  simp
  omega
theorem All8.sl {l : List Int} (h : All8 l) (a b : Nat) : All8 ((l.take b).drop a) := fun y hy => h y (List.mem_of_mem_take (List.mem_of_mem_drop hy))
theorem mulw {a b : Nat} (h : a * b ≤ 100000000) : IntKind.i64.wrap ((a : Int) * (b : Int)) = ((a * b : Nat) : Int) := by
  rw [Int.natCast_mul, wrap_i64 _ (by rw [← Int.natCast_mul]; omega) (by rw [← Int.natCast_mul]; omega)]
/-- A row of a matrix, made a matrix of its own. -/
theorem row_get {l : List Int} {N n i o : Nat} (hN : N = l.length) (h : (i + 1) * n ≤ N) (hno : -128 ∉ l) (ho : o < n) : (matD ((l.take ((i + 1) * n)).drop (i * n)) (1 * n)).getD (0 * n + o) 0 = l.getD (i * n + o) 0 := by
  have e : (i + 1) * n = i * n + n := by rw [Nat.add_mul, Nat.one_mul]
  rw [Nat.zero_mul, Nat.zero_add, matD_get (by omega)]
  have hg := sl_get (l := l) (a := i * n) (b := (i + 1) * n) (j := o) (by omega)
  unfold mcell
  rw [hg]
  rw [if_pos]
  refine ⟨by rw [sl_len (by omega)]; omega, ?_⟩
  intro hh
  apply hno
  have hlt : i * n + o < l.length := by omega
  rw [List.getD_eq_getElem?_getD, List.getElem?_eq_getElem hlt] at hh
  simp only [Option.getD_some] at hh
  rw [← hh]
  exact List.getElem_mem hlt
theorem rowsF_rep (R C : Nat) (f : Nat → Nat → Int) (h : ∀ r c, f r c = 0) : List.replicate (R * C) (0 : Int) = rowsF R C f := by
  refine rowsF_ext (by simp) fun r hr c hc => ?_
  rw [h, List.getD_eq_getElem?_getD, List.getElem?_replicate]
  split <;> rfl

theorem sums_law {xl gl : List Int} {a b c : Int} {Q : Bool → Prop} (hx : All8 xl) (hg : All8 gl) (h : Q true) : pedagoguelaw10_DenseSums xl gl a b c Q := by
  refine ⟨?_⟩
  unfold pedagoguelaw10_DenseSums_t
  obtain ⟨n, en, n1, n2⟩ := modN a 4 (by omega) (by omega)
  obtain ⟨k, ek, k1, k2⟩ := modN b 12 (by omega) (by omega)
  obtain ⟨m, em, m1, m2⟩ := modN c 8 (by omega) (by omega)
  have en : IntKind.i64.wrap (1 + IntKind.i64.wrap ((IntKind.u64.wrap a).tmod 4)) = (n : Int) := en
  have ek : IntKind.i64.wrap (1 + IntKind.i64.wrap ((IntKind.u64.wrap b).tmod 12)) = (k : Int) := ek
  have em : IntKind.i64.wrap (1 + IntKind.i64.wrap ((IntKind.u64.wrap c).tmod 8)) = (m : Int) := em
  rw [en, ek, em]
  have hnk : n * k ≤ 4 * 12 := Nat.mul_le_mul n2 k2
  have hmk : m * k ≤ 8 * 12 := Nat.mul_le_mul m2 k2
  have hnm : n * m ≤ 4 * 8 := Nat.mul_le_mul n2 m2
  refine ⟨by omega, by omega, by omega, matrix_v (by omega) (matrix_v (by omega) ?_)⟩
  have hp := matD_all hx (n * k)
  have hq := matD_all hg (n * m)
  refine wgt_v hq hp ?_
  rw [show ((matF gl n m).1, (matF gl n m).2.1, (matF gl n m).2.2) = matF gl n m from rfl, show ((matF xl n k).1, (matF xl n k).2.1, (matF xl n k).2.2) = matF xl n k from rfl, wgtF_mat n1 k1 m1 (by omega) (by omega) (by omega)]
  refine bia_v hq ?_
  rw [biaF_mat n1 m1 (by omega) (by omega)]
  refine ⟨?_⟩
  unfold pedagoguelaw10_DenseSums_n63_t
  rw [mulw (a := m) (b := k) (by omega)]
  have hqn := matD_no gl (n * m)
  have hpn := matD_no xl (n * k)
  have lq := matD_len gl (n * m)
  have lp := matD_len xl (n * k)
  show (if _ then _ else ck _ (ck _ (pedagoguelaw10_DenseSums_n2042 (k : Int) (m : Int) (n : Int) (matD xl (n * k)) (matD gl (n * m)) _ _ _)))
  generalize matD gl (n * m) = qd at *
  generalize matD xl (n * k) = pd at *
  rw [if_neg (by simp [rowsF_len])]
  refine ⟨⟨by omega, by omega⟩, ⟨by omega, by omega⟩, ⟨?_⟩⟩
  rw [Int.toNat_natCast, Int.toNat_natCast]
  have e0 : ((0 : Int), List.replicate (m * k) (0 : Int), List.replicate m (0 : Int)) = ((fun i : Nat => ((i : Int), rowsF m k (wtC i m k qd pd), rowsF 1 m (bsC i m qd))) 0) := by
    show _ = (((0 : Nat) : Int), rowsF m k (wtC 0 m k qd pd), rowsF 1 m (bsC 0 m qd))
    rw [rowsF_rep m k (wtC 0 m k qd pd) (fun _ _ => rfl), ← rowsF_rep 1 m (bsC 0 m qd) (fun _ _ => rfl), Nat.one_mul]
    rfl
  rw [e0]
  refine Loop.range (B := pedagoguelaw10_DenseSums_n2042_B (k : Int) (m : Int) (n : Int) pd qd _ _) (f := fun i : Nat => ((i : Int), rowsF m k (wtC i m k qd pd), rowsF 1 m (bsC i m qd))) n (fun _ => True) trivial ?_ ?_
  · intro i hi _ X hX
    have hX := hX trivial
    unfold pedagoguelaw10_DenseSums_n2042_B
    rw [if_pos (decide_eq_true (show (i : Int) < (n : Int) by omega))]
    dsimp only at hX ⊢
    have i1 : (i + 1) * m ≤ n * m := Nat.mul_le_mul_right m hi
    have i2 : (i + 1) * k ≤ n * k := Nat.mul_le_mul_right k hi
    have j1 : (i + 1) * m = i * m + m := by rw [Nat.add_mul, Nat.one_mul]
    have j2 : (i + 1) * k = i * k + k := by rw [Nat.add_mul, Nat.one_mul]
    have w1 : IntKind.i64.wrap ((i : Int) + 1) = ((i + 1 : Nat) : Int) := by rw [wrap_i64 _ (by omega) (by omega)]; rfl
    rw [w1, mulw (a := i) (b := m) (by omega), mulw (a := i + 1) (b := m) (by omega), mulw (a := i) (b := k) (by omega), mulw (a := i + 1) (b := k) (by omega)]
    simp only [Int.toNat_natCast]
    have qne : qd ≠ [] := by intro e; rw [e] at lq; simp at lq; omega
    have pne : pd ≠ [] := by intro e; rw [e] at lp; simp at lp; omega
    refine ⟨⟨qne, by omega, by omega, by omega⟩, matrix_v (n := 1) (by omega) ⟨⟨pne, by omega, by omega, by omega⟩, matrix_v (n := 1) (by omega) ?_⟩⟩
    refine wgt_v (matD_all (hq.sl _ _) _) (matD_all (hp.sl _ _) _) ?_
    rw [show ∀ l : List Int, ∀ a b : Nat, ((matF l a b).1, (matF l a b).2.1, (matF l a b).2.2) = matF l a b from fun _ _ _ => rfl, show ∀ l : List Int, ∀ a b : Nat, ((matF l a b).1, (matF l a b).2.1, (matF l a b).2.2) = matF l a b from fun _ _ _ => rfl, wgtF_mat (n := 1) (by omega) k1 m1 (by omega) (by omega) (by omega)]
    rw [mulw (a := m) (b := k) (by omega), if_neg (by simp [rowsF_len])]
    refine ⟨?_⟩
    unfold pedagoguelaw10_DenseSums_n522855_t
    refine ⟨?_⟩
    dsimp only
    rw [rowsF_len]
    have wb : ∀ j o c, -16760832 ≤ wtC j m k qd pd o c ∧ wtC j m k qd pd o c ≤ 16760832 ∨ 959 < j := by
      intro j o c
      by_cases hj : j ≤ 959
      · exact .inl (wtC_bd hj hq hp)
      · exact .inr (by omega)
    -- one place of the weights' sums
    have cell : ∀ o, o < m → ∀ c, c < k → IntKind.i32.wrap ((rowsF m k (wtC i m k qd pd)).getD (o * k + c) 0 + (rowsF m k (wtC 1 m k (matD ((qd.take ((i + 1) * m)).drop (i * m)) (1 * m)) (matD ((pd.take ((i + 1) * k)).drop (i * k)) (1 * k)))).getD (o * k + c) 0) = wtC (i + 1) m k qd pd o c := by
      intro o ho c hc
      rw [rowsF_get ho hc, rowsF_get ho hc]
      have e1 : wtC 1 m k (matD ((qd.take ((i + 1) * m)).drop (i * m)) (1 * m)) (matD ((pd.take ((i + 1) * k)).drop (i * k)) (1 * k)) o c = qd.getD (i * m + o) 0 * pd.getD (i * k + c) 0 := by
        show 0 + (matD ((qd.take ((i + 1) * m)).drop (i * m)) (1 * m)).getD (0 * m + o) 0 * (matD ((pd.take ((i + 1) * k)).drop (i * k)) (1 * k)).getD (0 * k + c) 0 = _
        rw [row_get lq.symm i1 hqn ho, row_get lp.symm i2 hpn hc, Int.zero_add]
      have e2 : wtC (i + 1) m k qd pd o c = wtC i m k qd pd o c + qd.getD (i * m + o) 0 * pd.getD (i * k + c) 0 := rfl
      rw [e1, ← e2]
      rcases wb (i + 1) o c with hb | hb
      · exact wrap_i32 _ (by omega) (by omega)
      · omega
    have hS := rowsF_len m k (wtC i m k qd pd)
    have hV := rowsF_len m k (wtC 1 m k (matD ((qd.take ((i + 1) * m)).drop (i * m)) (1 * m)) (matD ((pd.take ((i + 1) * k)).drop (i * k)) (1 * k)))
    have hB := rowsF_len 1 m (bsC i m qd)
    generalize hSe : rowsF m k (wtC i m k qd pd) = S at *
    generalize hVe : rowsF m k (wtC 1 m k (matD ((qd.take ((i + 1) * m)).drop (i * m)) (1 * m)) (matD ((pd.take ((i + 1) * k)).drop (i * k)) (1 * k))) = V at *
    generalize hBe : rowsF 1 m (bsC i m qd) = B at *
    rw [show ((0 : Int), S) = ((fun j : Nat => ((j : Int), upTo (fun p => IntKind.i32.wrap (S.getD p 0 + V.getD p 0)) S j)) 0) from by show _ = (((0 : Nat) : Int), upTo _ S 0); rw [upTo_zero]; rfl]
    refine Loop.range (B := pedagoguelaw10_DenseSums_n4182842_B ((m * k : Nat) : Int) V _) (f := fun j : Nat => ((j : Int), upTo (fun p => IntKind.i32.wrap (S.getD p 0 + V.getD p 0)) S j)) (m * k) (fun _ => True) trivial ?_ ?_
    · intro j hj _ Y hY
      have hY := hY trivial
      unfold pedagoguelaw10_DenseSums_n4182842_B
      rw [if_pos (decide_eq_true (show (j : Int) < ((m * k : Nat) : Int) by omega))]
      dsimp only at hY ⊢
      rw [upTo_len (by omega)]
      refine ⟨by omega, by omega, by omega, ?_⟩
      rw [Int.toNat_natCast, upTo_get (by omega), upTo_set (h := fun p => IntKind.i32.wrap (S.getD p 0 + V.getD p 0)) (by omega), wrap_i64 _ (by omega) (by omega)]
      exact hY
    · intro _ Y
      unfold pedagoguelaw10_DenseSums_n4182842_B
      rw [if_neg (by simp)]
      dsimp only
      rw [← hS, upTo_all]
      have eS : (List.range S.length).map (fun p => IntKind.i32.wrap (S.getD p 0 + V.getD p 0)) = rowsF m k (wtC (i + 1) m k qd pd) := by
        refine rowsF_ext (by simp [hS]) fun o ho c hc => ?_
        rw [map_get (by rw [hS]; exact ix_lt ho hc)]
        exact cell o ho c hc
      rw [eS]
      refine ⟨?_⟩
      rw [show ((0 : Int), B) = ((fun j : Nat => ((j : Int), upTo (fun p => IntKind.i32.wrap (B.getD p 0 + IntKind.i32.wrap (qd.getD (i * m + p) 0))) B j)) 0) from by show _ = (((0 : Nat) : Int), upTo _ B 0); rw [upTo_zero]; rfl]
      refine Loop.range (B := pedagoguelaw10_DenseSums_n4182846_B (m : Int) (i : Int) (m : Int) qd _) (f := fun j : Nat => ((j : Int), upTo (fun p => IntKind.i32.wrap (B.getD p 0 + IntKind.i32.wrap (qd.getD (i * m + p) 0))) B j)) m (fun _ => True) trivial ?_ ?_
      · intro j hj _ Z hZ
        have hZ := hZ trivial
        unfold pedagoguelaw10_DenseSums_n4182846_B
        rw [if_pos (decide_eq_true (show (j : Int) < (m : Int) by omega))]
        dsimp only at hZ ⊢
        rw [ix (r := i) (n := m) (i := j) (by omega), upTo_len (by omega)]
        refine ⟨by omega, by omega, by omega, ?_⟩
        rw [Int.toNat_natCast, Int.toNat_natCast, upTo_get (by omega), upTo_set (h := fun p => IntKind.i32.wrap (B.getD p 0 + IntKind.i32.wrap (qd.getD (i * m + p) 0))) (by omega), wrap_i64 _ (by omega) (by omega)]
        exact hZ
      · intro _ Z
        unfold pedagoguelaw10_DenseSums_n4182846_B
        rw [if_neg (by simp)]
        dsimp only
        have hBm : B.length = m := by omega
        rw [show upTo (fun p => IntKind.i32.wrap (B.getD p 0 + IntKind.i32.wrap (qd.getD (i * m + p) 0))) B m = (List.range B.length).map (fun p => IntKind.i32.wrap (B.getD p 0 + IntKind.i32.wrap (qd.getD (i * m + p) 0))) from by rw [← upTo_all, hBm]]
        have eB : (List.range B.length).map (fun p => IntKind.i32.wrap (B.getD p 0 + IntKind.i32.wrap (qd.getD (i * m + p) 0))) = rowsF 1 m (bsC (i + 1) m qd) := by
          refine rowsF_ext (by simp [hB]) fun r hr c hc => ?_
          have hr0 : r = 0 := by omega
          subst hr0
          rw [Nat.zero_mul, Nat.zero_add, map_get (by omega), ← hBe]
          have hb0 := rowsF_get (R := 1) (C := m) (f := bsC i m qd) (r := 0) (c := c) (by omega) hc
          rw [Nat.zero_mul, Nat.zero_add] at hb0
          rw [hb0]
          have e2 : bsC (i + 1) m qd 0 c = bsC i m qd 0 c + qd.getD (i * m + c) 0 := rfl
          have h8 := hq.at_ (i * m + c)
          rw [wrap_i32 (qd.getD (i * m + c) 0) (by omega) (by omega), ← e2]
          have := bsC_bd (n := i + 1) (c := m) (g := qd) (r := 0) (o := c) (by omega) hq
          exact wrap_i32 _ (by omega) (by omega)
        rw [eB]
        exact hX
  · intro _ X
    unfold pedagoguelaw10_DenseSums_n2042_B
    rw [if_neg (by simp)]
    refine ⟨?_⟩
    dsimp only
    rw [rowsF_len]
    refine Loop.range (B := pedagoguelaw10_DenseSums_n4090_B ((m * k : Nat) : Int) (rowsF m k (wtC n m k qd pd)) (rowsF m k (wtC n m k qd pd)) _ _) (m * k) (fun i => (i : Int)) (fun _ => True) trivial ?_ ?_
    · intro i hi _ X hX
      have hX := hX trivial
      unfold pedagoguelaw10_DenseSums_n4090_B
      rw [if_pos (decide_eq_true (show (i : Int) < ((m * k : Nat) : Int) by omega))]
      refine ⟨⟨by omega, by rw [rowsF_len]; omega⟩, ⟨by omega, by rw [rowsF_len]; omega⟩, ?_⟩
      rw [if_neg (by simp), wrap_i64 _ (by omega) (by omega)]
      exact hX
    · intro _ X
      unfold pedagoguelaw10_DenseSums_n4090_B
      rw [if_neg (by simp)]
      refine ⟨?_⟩
      rw [rowsF_len]
      refine Loop.range (B := pedagoguelaw10_DenseSums_n8186_B ((1 * m : Nat) : Int) (rowsF 1 m (bsC n m qd)) (rowsF 1 m (bsC n m qd)) _ _) (1 * m) (fun i => (i : Int)) (fun _ => True) trivial ?_ ?_
      · intro i hi _ X hX
        have hX := hX trivial
        unfold pedagoguelaw10_DenseSums_n8186_B
        rw [if_pos (decide_eq_true (show (i : Int) < ((1 * m : Nat) : Int) by omega))]
        refine ⟨⟨by omega, by rw [rowsF_len]; omega⟩, ⟨by omega, by rw [rowsF_len]; omega⟩, ?_⟩
        rw [if_neg (by simp), wrap_i64 _ (by omega) (by omega)]
        exact hX
      · intro _ X
        unfold pedagoguelaw10_DenseSums_n8186_B
        rw [if_neg (by simp)]
        exact awake10_v h

theorem sums_walk {a0 a1 : Option Addr} {l0 c0 l1 c1 : Nat} {z0 z1 : List Int} {n k m : Int} {w : World} (t0 : RowH .i8 w a0 l0 c0 z0) (t1 : RowH .i8 w a1 l1 c1 z1) :
    Calls Try.prog 5 #[.slice a0 l0 c0, .slice a1 l1 c1, .int .i64 n, .int .i64 k, .int .i64 m] w fun e w' => e = .returned (.bool true) ∧ Below w.heap.size w w' :=
  law_calls (azz := [.slice a0 l0 c0, .slice a1 l1 c1, .int .i64 n, .int .i64 k, .int .i64 m]) (by kernel_rfl)
    (pedagoguelaw10_DenseSums_snd (z0.take l0, z1.take l1, n, k, m, ()) _ (sums_law (fun x hx => i8_rng ((row_RSl t0).2.2.2.1 x hx)) (fun x hx => i8_rng ((row_RSl t1).2.2.2.1 x hx)) (law_true rfl)))
    (.cons (row_R2 t0) (.cons (row_R2 t1) (.cons int_R2 (.cons int_R2 (.cons int_R2 .nil)))))
    (by
      intro x hx
      simp only [List.mem_cons, List.not_mem_nil, or_false] at hx
      rcases hx with rfl | rfl | rfl | rfl | rfl
      · exact (row_RSl t0).2.2.1
      · exact (row_RSl t1).2.2.1
      all_goals exact .int _ _)

end Go.Proofs.Ytlbapaelkdpjcaa
