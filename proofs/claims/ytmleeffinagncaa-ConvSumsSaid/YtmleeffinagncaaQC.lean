/- What conv.Bias and place.Lookers come to. Laws; no condition. -/
import Derived.Test.YtmleeffinagncaaQB
namespace Go.Proofs.Ytmleeffinagncaa
open Go.Mach Go.RowKit
set_option maxRecDepth 100000
set_option linter.unusedVariables false
set_option linter.unusedSimpArgs false

/-! ### Bias -/
theorem tab_set {n i : Nat} {f : Nat → Int} {v : Int} (h : i < n) : (tab n f).set i v = tab n fun j => if j = i then v else f j := by
  refine tab_of (by simp) fun j hj => ?_
  rw [getD_set (by simpa using h)]
  by_cases e : i = j
  · rw [if_pos e, if_pos e.symm]
  · rw [if_neg e, if_neg (fun hh => e hh.symm), tab_getD _ hj]
/-- One sum of Bias, over so many numbers. -/
def bsSum (plane O : Nat) (gd : List Int) (o j : Nat) : Int := sumTo (fun i => if i / plane % O = o then gd.getD i 0 else 0) j
theorem bs_v {plane O : Nat} {gd : List Int} {K0 : List Int → Prop} (h8 : All8 gd) (hl : gd.length ≤ 8192) (hp : 1 ≤ plane) (hO : 1 ≤ O) (hO2 : O ≤ 8192) (hp2 : plane ≤ 8192)
    (hk : K0 (tab O fun o => IntKind.i32.wrap (bsSum plane O gd o gd.length))) : conv_Bias_n0 O plane gd (gd.length : Int) K0 (0, List.replicate O 0) := by
  refine ⟨?_⟩
  have eg : ((0 : Int), List.replicate O (0 : Int)) = (fun j : Nat => ((j : Int), tab O fun o => IntKind.i32.wrap (bsSum plane O gd o j))) 0 := by
    dsimp only
    congr 1
    refine tab_of (by simp) fun i hi => ?_
    rw [getD_repl hi]
    show 0 = IntKind.i32.wrap 0
    decide
  rw [eg]
  refine Loop.range (B := conv_Bias_n0_B O plane gd (gd.length : Int) K0) (f := fun j : Nat => ((j : Int), tab O fun o => IntKind.i32.wrap (bsSum plane O gd o j))) gd.length (fun _ => True) trivial ?_ ?_
  · intro i hi _ X hX
    have hX := hX trivial
    unfold conv_Bias_n0_B
    rw [if_pos (decide_eq_true (show (i : Int) < (gd.length : Int) by omega))]
    dsimp only at hX ⊢
    have l1 : i / plane ≤ i := Nat.div_le_self _ _
    obtain ⟨y, ey⟩ : ∃ y, i / plane = y := ⟨_, rfl⟩
    have et : IntKind.i64.wrap ((i : Int).tdiv (plane : Int)) = (y : Int) := by
      rw [Int.tdiv_eq_ediv_of_nonneg (by omega), ← Int.natCast_ediv, ey]
      rw [ey] at l1
      rw [wrap_i64 _ (by omega) (by omega)]
    have hm := Nat.mod_lt y (show 0 < O by omega)
    obtain ⟨o, eo⟩ : ∃ o, y % O = o := ⟨_, rfl⟩
    have em : (y : Int).tmod (O : Int) = (o : Int) := by
      rw [Int.tmod_eq_emod_of_nonneg (by omega), ← Int.natCast_emod, eo]
    rw [et, em, tab_len]
    refine ⟨by omega, by omega, by omega, by omega, by omega, ?_⟩
    rw [Int.toNat_natCast, Int.toNat_natCast, tab_getD _ (by omega), tab_set (by omega), wrap_i64 ((i : Int) + 1) (by omega) (by omega), w32_add_l, w32_add_r]
    have : (tab O fun j => if j = o then IntKind.i32.wrap (bsSum plane O gd o i + gd.getD i 0) else IntKind.i32.wrap (bsSum plane O gd j i)) = tab O fun o => IntKind.i32.wrap (bsSum plane O gd o (i + 1)) := by
      refine tab_congr fun j hj => ?_
      unfold bsSum
      simp only [sumTo]
      by_cases e : j = o
      · subst e
        rw [if_pos rfl, if_pos (by rw [ey, eo])]
      · rw [if_neg e, if_neg (by rw [ey, eo]; exact fun hh => e hh.symm), Int.add_zero]
    rw [this]
    exact hX
  · intro _ X
    unfold conv_Bias_n0_B
    rw [if_neg (by simp)]
    exact hk
def bsE (g : T3) : Int := if (cmayF [g] != 0) = true then cmayF [g] else (sumsF [g.1.getD 1 0] g.2.1 (g.1.getD 0 0 * (g.1.getD 2 0 * g.1.getD 3 0))).2
def bsData (g : T3) : List Int := tab (g.1.getD 1 0).toNat fun o => IntKind.i32.wrap (bsSum (g.1.getD 2 0 * g.1.getD 3 0).toNat (g.1.getD 1 0).toNat g.2.2 o g.2.2.length)
def biasF (g : T3) : T3 × Int := if (bsE g != 0) = true then (Z3, bsE g) else (([g.1.getD 1 0], (g.2.1, bsData g)), 0)
theorem bias_v {g : T3} {Q : T3 × Int → Prop} (ag : All8 g.2.2) (hq : Q (biasF g)) : conv_Bias g Q := by
  refine ⟨?_⟩
  unfold conv_Bias_t
  unfold biasF bsE at hq
  refine cmay_v (by simp) ?_
  show (if (cmayF [g] != 0) = true then _ else _)
  by_cases h2 : (cmayF [g] != 0) = true
  · rw [if_pos h2]
    simp only [h2, if_true] at hq
    exact hq
  · rw [if_neg h2]
    simp only [h2, Bool.false_eq_true, if_false] at hq
    have hz : cmayF [g] = 0 := by simpa using h2
    obtain ⟨mg, lg⟩ := cmayF_zero hz g (by simp)
    obtain ⟨n, O, P, R, eg, g1, g2, g3, g4, g5, g6, g7, g8⟩ := may4 mg lg
    refine ⟨by omega, by omega, by omega, by omega, ?_⟩
    unfold bsData at hq
    simp only [eg, List.getD_cons_zero, List.getD_cons_succ] at hq ⊢
    have k1 : P * R ≤ n * O * (P * R) := Nat.le_mul_of_pos_left _ (Nat.mul_pos (by omega) (by omega))
    rw [← Nat.mul_assoc] at k1
    have k2 : n ≤ n * O := Nat.le_mul_of_pos_right _ (by omega)
    have k3 : n * P * R ≤ n * O * P * R := Nat.mul_le_mul_right _ (Nat.mul_le_mul_right _ k2)
    have k4 : O ≤ n * O := Nat.le_mul_of_pos_left _ (by omega)
    have k5 : n * O ≤ n * O * P := Nat.le_mul_of_pos_right _ (by omega)
    have k6 : n * O * P ≤ n * O * P * R := Nat.le_mul_of_pos_right _ (by omega)
    have k7 : n * P * R = n * (P * R) := Nat.mul_assoc _ _ _
    rw [mulw (r := P) (n := R) (by omega), mulw (r := n) (n := P * R) (by omega)]
    rw [← Int.natCast_mul, ← Int.natCast_mul] at hq
    refine fresh_v ?_
    by_cases h9 : (sumsF [(O : Int)] g.2.1 ((n * (P * R) : Nat) : Int)).2 = 0
    · obtain ⟨f1, f2, f3, f4⟩ := sumsF_ok h9
      rw [f4] at hq ⊢
      simp only [bne_self_eq_false, Bool.false_eq_true, if_false] at hq ⊢
      rw [(szF1 f3).2.2, Int.toNat_natCast]
      refine bs_v ag (by omega) (Nat.mul_pos (by omega) (by omega)) (by omega) (by omega) (by omega) ?_
      simp only [Int.toNat_natCast] at hq
      exact hq
    · rw [if_pos (by simpa using h9)]
      rw [if_pos (by simpa using h9)] at hq
      rw [sumsF_err h9]
      exact hq

/-! ### Who looks at a place -/
/-- Whether the window of y, x looks at r, c, and as which. -/
def lookCell (s p r c k Q : Int) (y x : Nat) : List (Int × Int × Int) :=
  if (inP (r - (s * y - p)) 0 (k - 1) && inP (c - (s * x - p)) 0 (k - 1)) = true then [((y : Int) * Q + x, r - (s * y - p), c - (s * x - p))] else []
def lookRow (s p r c k Q : Int) (y m : Nat) : List (Int × Int × Int) := (List.range m).flatMap (lookCell s p r c k Q y)
def lookP (s p r c k Q : Int) (P m : Nat) : List (Int × Int × Int) := (List.range P).flatMap fun y => lookRow s p r c k Q y m
theorem lookRow_succ {s p r c k Q : Int} {y m : Nat} : lookRow s p r c k Q y (m + 1) = lookRow s p r c k Q y m ++ lookCell s p r c k Q y m := by
  unfold lookRow; rw [List.range_succ, List.flatMap_append]; simp
theorem lookP_succ {s p r c k Q : Int} {P m : Nat} : lookP s p r c k Q (P + 1) m = lookP s p r c k Q P m ++ lookRow s p r c k Q P m := by
  unfold lookP; rw [List.range_succ, List.flatMap_append]; simp
theorem lookCell_len {s p r c k Q : Int} {y x : Nat} : (lookCell s p r c k Q y x).length ≤ 1 := by
  unfold lookCell; split <;> simp
theorem lookRow_len {s p r c k Q : Int} {y : Nat} : ∀ m, (lookRow s p r c k Q y m).length ≤ m
  | 0 => by simp [lookRow]
  | m + 1 => by
    rw [lookRow_succ, List.length_append]
    have := lookRow_len (s := s) (p := p) (r := r) (c := c) (k := k) (Q := Q) (y := y) m
    have := lookCell_len (s := s) (p := p) (r := r) (c := c) (k := k) (Q := Q) (y := y) (x := m)
    omega
theorem lookP_len {s p r c k Q : Int} {m : Nat} : ∀ P, (lookP s p r c k Q P m).length ≤ P * m
  | 0 => by simp [lookP]
  | P + 1 => by
    rw [lookP_succ, List.length_append, Nat.succ_mul]
    have := lookP_len (s := s) (p := p) (r := r) (c := c) (k := k) (Q := Q) (m := m) P
    have := lookRow_len (s := s) (p := p) (r := r) (c := c) (k := k) (Q := Q) (y := P) m
    omega
theorem flat_one {α : Type} {n k : Nat} {f : Nat → List α} (hk : k < n) (h : ∀ i, i < n → i ≠ k → f i = []) : (List.range n).flatMap f = f k := by
  induction n with
  | zero => omega
  | succ n ih =>
    rw [List.range_succ, List.flatMap_append]
    simp only [List.flatMap_cons, List.flatMap_nil, List.append_nil]
    by_cases e : k = n
    · subst e
      have : (List.range k).flatMap f = [] := by
        rw [List.flatMap_eq_nil_iff]
        intro i hi
        have := List.mem_range.1 hi
        exact h i (by omega) (by omega)
      rw [this, List.nil_append]
    · rw [ih (by omega) fun i hi => h i (by omega), h n (by omega) (by omega), List.append_nil]
theorem flat_none {α : Type} {n : Nat} {f : Nat → List α} (h : ∀ i, i < n → f i = []) : (List.range n).flatMap f = [] := by
  rw [List.flatMap_eq_nil_iff]
  exact fun i hi => h i (List.mem_range.1 hi)
theorem row_eq {a b r c V : Int} (h1 : 0 ≤ b) (h2 : b < V) (h3 : 0 ≤ c) (h4 : c < V) (e : a * V + b = r * V + c) : a = r ∧ b = c := by
  have h5 : (a - r) * V = c - b := by rw [Int.sub_mul]; omega
  have h6 : a - r = 0 := by
    rcases Int.lt_trichotomy (a - r) 0 with h | h | h
    · have := Int.mul_le_mul_of_nonneg_right (show a - r ≤ -1 by omega) (show 0 ≤ V by omega)
      omega
    · exact h
    · have := Int.mul_le_mul_of_nonneg_right (show 1 ≤ a - r by omega) (show 0 ≤ V by omega)
      omega
  rw [h6] at h5
  omega
/-- The one place of a window that lies at r, c. -/
theorem sel_win {rows cols cr cc r c : Int} {k : Nat} (hr : 0 ≤ r ∧ r ≤ rows - 1) (hc : 0 ≤ c ∧ c ≤ cols - 1) (u : Int → Int → List (Int × Int × Int)) :
    ((winF rows cols cr cc k k).flatMap fun w => if w.1 = r * cols + c then u w.2.1 w.2.2 else []) = if (inP (r - cr) 0 ((k : Int) - 1) && inP (c - cc) 0 ((k : Int) - 1)) = true then u (r - cr) (c - cc) else [] := by
  have key : ∀ i j : Nat, ((winCell rows cols cr cc i j).flatMap fun w => if w.1 = r * cols + c then u w.2.1 w.2.2 else []) = if (i : Int) = r - cr ∧ (j : Int) = c - cc then u (r - cr) (c - cc) else [] := by
    intro i j
    unfold winCell
    split
    · rename_i hin
      simp only [Bool.and_eq_true] at hin
      have b1 : 0 ≤ cr + i ∧ cr + i ≤ rows - 1 := by simpa [inP] using hin.1
      have b2 : 0 ≤ cc + j ∧ cc + j ≤ cols - 1 := by simpa [inP] using hin.2
      simp only [List.flatMap_cons, List.flatMap_nil, List.append_nil]
      by_cases e : (i : Int) = r - cr ∧ (j : Int) = c - cc
      · rw [if_pos e, if_pos (by rw [show cr + i = r by omega, show cc + j = c by omega]), e.1, e.2]
      · rw [if_neg e, if_neg]
        intro hh
        obtain ⟨g1, g2⟩ := row_eq b2.1 (by omega) hc.1 (by omega) hh
        exact e ⟨by omega, by omega⟩
    · rename_i hin
      rw [List.flatMap_nil, if_neg]
      rintro ⟨e1, e2⟩
      apply hin
      rw [inP_of (by omega) (by omega), inP_of (by omega) (by omega)]; rfl
  unfold winF winRow
  rw [List.flatMap_assoc]
  have : (fun i => ((List.range k).flatMap (winCell rows cols cr cc i)).flatMap fun w => if w.1 = r * cols + c then u w.2.1 w.2.2 else []) = fun (i : Nat) => (List.range k).flatMap fun (j : Nat) => if (i : Int) = r - cr ∧ (j : Int) = c - cc then u (r - cr) (c - cc) else [] := by
    funext i
    rw [List.flatMap_assoc]
    congr 1
    funext j
    exact key i j
  rw [this]
  by_cases g : (inP (r - cr) 0 ((k : Int) - 1) && inP (c - cc) 0 ((k : Int) - 1)) = true
  · rw [if_pos g]
    simp only [Bool.and_eq_true] at g
    have b1 : 0 ≤ r - cr ∧ r - cr ≤ k - 1 := by simpa [inP] using g.1
    have b2 : 0 ≤ c - cc ∧ c - cc ≤ k - 1 := by simpa [inP] using g.2
    obtain ⟨a, ea⟩ := Int.eq_ofNat_of_zero_le b1.1
    obtain ⟨b, eb⟩ := Int.eq_ofNat_of_zero_le b2.1
    rw [flat_one (k := a) (by omega) (fun i hi hia => flat_none fun j hj => by rw [if_neg (by omega)]), flat_one (k := b) (by omega) (fun j hj hjb => by rw [if_neg (by omega)]), if_pos (by omega)]
  · rw [if_neg g]
    refine flat_none fun i hi => flat_none fun j hj => ?_
    rw [if_neg]
    rintro ⟨e1, e2⟩
    apply g
    rw [inP_of (by omega) (by omega), inP_of (by omega) (by omega)]; rfl

theorem flat_len {α β : Type} {m : List α} {f : α → List β} (h : ∀ a, (f a).length ≤ 1) : (m.flatMap f).length ≤ m.length := by
  induction m with
  | nil => simp
  | cons a m ih =>
    rw [List.flatMap_cons, List.length_append, List.length_cons]
    have := h a
    omega
theorem lsel_v {V r c Q : Int} {y x : Nat} {l acc : List (Int × Int × Int)} {K0 : List (Int × Int × Int) → Prop} (hV : 0 ≤ V ∧ V ≤ 1000) (hr : 0 ≤ r ∧ r ≤ 1000) (hc : 0 ≤ c ∧ c ≤ 1000) (hQ : 0 ≤ Q ∧ Q ≤ 1000) (hy : y ≤ 1000) (hx : x ≤ 1000) (hl : l.length ≤ 1000000) (ha : acc.length ≤ 1000000)
    (hk : K0 (acc ++ l.flatMap fun w => if w.1 = r * V + c then [((y : Int) * Q + x, w.2.1, w.2.2)] else [])) :
    place_Lookers_n2 V r c Q y x (l.length : Int) l K0 (0, acc) := by
  refine ⟨?_⟩
  have m1 : 0 ≤ r * V := Int.mul_nonneg hr.1 hV.1
  have m2 : r * V ≤ 1000 * 1000 := Int.mul_le_mul hr.2 hV.2 hV.1 (by omega)
  have m3 : 0 ≤ (y : Int) * Q := Int.mul_nonneg (by omega) hQ.1
  have m4 : (y : Int) * Q ≤ 1000 * 1000 := Int.mul_le_mul (by omega) hQ.2 hQ.1 (by omega)
  have eg : ((0 : Int), acc) = (fun j : Nat => ((j : Int), acc ++ (l.take j).flatMap fun w => if w.1 = r * V + c then [((y : Int) * Q + x, w.2.1, w.2.2)] else [])) 0 := by simp
  rw [eg]
  refine Loop.range (B := place_Lookers_n2_B V r c Q y x (l.length : Int) l K0) (f := fun j : Nat => ((j : Int), acc ++ (l.take j).flatMap fun w => if w.1 = r * V + c then [((y : Int) * Q + x, w.2.1, w.2.2)] else [])) l.length (fun _ => True) trivial ?_ ?_
  · intro i hi _ X hX
    have hX := hX trivial
    unfold place_Lookers_n2_B
    rw [if_pos (decide_eq_true (show (i : Int) < (l.length : Int) by omega))]
    dsimp only at hX ⊢
    refine ⟨by omega, ?_⟩
    rw [Int.toNat_natCast]
    have hg : l.getD i (0, 0, 0) = l[i] := by rw [List.getD_eq_getElem?_getD, List.getElem?_eq_getElem hi]; rfl
    rw [hg, wrap_i64 (r * V) (by omega) (by omega), wrap_i64 (r * V + c) (by omega) (by omega), wrap_i64 ((y : Int) * Q) (by omega) (by omega), wrap_i64 ((y : Int) * Q + x) (by omega) (by omega)]
    rw [List.take_add_one, List.getElem?_eq_getElem hi, List.flatMap_append, ← List.append_assoc] at hX
    simp only [Option.toList_some, List.flatMap_cons, List.flatMap_nil, List.append_nil] at hX
    by_cases g : l[i].1 = r * V + c
    · rw [if_pos (by simpa using g)]
      rw [if_pos g] at hX
      refine ⟨?_, ⟨?_⟩⟩
      · have hfl : ((l.take i).flatMap fun w => if w.1 = r * V + c then [((y : Int) * Q + x, w.2.1, w.2.2)] else []).length ≤ 1000000 := by
          have h1 := flat_len (m := l.take i) (f := fun w => if w.1 = r * V + c then [((y : Int) * Q + x, w.2.1, w.2.2)] else []) fun w => by split <;> simp
          rw [List.length_take] at h1
          omega
        rw [List.length_append]
        simp only [List.length_singleton]
        omega
      · unfold place_Lookers_n3_t
        rw [wrap_i64 ((i : Int) + 1) (by omega) (by omega)]
        exact hX
    · rw [if_neg (by simpa using g)]
      rw [if_neg g, List.append_nil] at hX
      refine ⟨?_⟩
      unfold place_Lookers_n3_t
      rw [wrap_i64 ((i : Int) + 1) (by omega) (by omega)]
      exact hX
  · intro _ X
    unfold place_Lookers_n2_B
    rw [if_neg (by simp)]
    dsimp only
    rw [List.take_length]
    exact hk
theorem lrow_v {H V r c s p : Int} {k Q y : Nat} {acc : List (Int × Int × Int)} {K0 : List (Int × Int × Int) → Prop} (hH : H ≤ 16) (hV : V ≤ 16) (hr : 0 ≤ r ∧ r ≤ H - 1) (hc : 0 ≤ c ∧ c ≤ V - 1) (hk5 : k ≤ 5) (hs : 1 ≤ s ∧ s ≤ 4) (hp : 0 ≤ p ∧ p ≤ 5) (hQ : Q ≤ 25) (hy : y ≤ 25) (ha : acc.length ≤ 10000)
    (hk : K0 (acc ++ lookRow s p r c k Q y Q)) : place_Lookers_n1 V r c Q y Q H V k s p K0 (0, acc) := by
  refine ⟨?_⟩
  have eg : ((0 : Int), acc) = (fun j : Nat => ((j : Int), acc ++ lookRow s p r c k Q y j)) 0 := by simp [lookRow]
  rw [eg]
  refine Loop.range (B := place_Lookers_n1_B V r c Q y Q H V k s p K0) (f := fun j : Nat => ((j : Int), acc ++ lookRow s p r c k Q y j)) Q (fun _ => True) trivial ?_ ?_
  · intro x hx _ X hX
    have hX := hX trivial
    unfold place_Lookers_n1_B
    rw [if_pos (decide_eq_true (show (x : Int) < (Q : Int) by omega))]
    dsimp only at hX ⊢
    refine window_v (by omega) (by omega) (by omega) (by omega) (by omega) (by omega) (by omega) ?_
    have hl := winF_len (rows := H) (cols := V) (cr := s * y - p) (cc := s * x - p) (k := k) k
    have hkk : k * k ≤ 5 * 5 := Nat.mul_le_mul hk5 hk5
    have hll := lookRow_len (s := s) (p := p) (r := r) (c := c) (k := k) (Q := Q) (y := y) x
    refine lsel_v (by omega) (by omega) (by omega) (by omega) (by omega) (by omega) (by omega) (by rw [List.length_append]; omega) ?_
    rw [wrap_i64 ((x : Int) + 1) (by omega) (by omega), sel_win hr hc fun a b => [((y : Int) * Q + x, a, b)], List.append_assoc]
    rw [lookRow_succ] at hX
    exact hX
  · intro _ X
    unfold place_Lookers_n1_B
    rw [if_neg (by simp)]
    exact hk
/-- Whether there are no windows, or no such place. -/
def noLook (rows cols r c k s p : Int) : Bool := ((decide (outF rows k s p < 1) || decide (outF cols k s p < 1)) || !inP r 0 (rows - 1)) || !inP c 0 (cols - 1)
def lookF (rows cols r c k s p : Int) : List (Int × Int × Int) := if noLook rows cols r c k s p = true then [] else lookP s p r c k (outF cols k s p) (outF rows k s p).toNat (outF cols k s p).toNat
theorem lookers_v {rows cols r c k s p : Int} {Q : List (Int × Int × Int) → Prop} (hrc : -1000000 ≤ rows ∧ rows ≤ 1000000 ∧ -1000000 ≤ cols ∧ cols ≤ 1000000) (h : Q (lookF rows cols r c k s p)) : place_Lookers rows cols r c k s p Q := by
  refine ⟨?_⟩
  unfold place_Lookers_t
  refine ⟨?_⟩
  unfold place_plane_out_t
  refine out_v (out_v ?_)
  unfold lookF noLook at h
  dsimp only
  rw [wrap_i64 (rows - 1) (by omega) (by omega), wrap_i64 (cols - 1) (by omega) (by omega)]
  refine or_v (b := decide (outF rows k s p < 1) || decide (outF cols k s p < 1)) (c := !inP r 0 (rows - 1)) (fun P hp => pin_v hp) (fun v2 e2 => ?_) rfl
  refine or_v (c := !inP c 0 (cols - 1)) (fun P hp => pin_v hp) (fun v5 e5 => ?_) rfl
  rw [← e2, ← e5] at h
  cases hv : v5 with
  | true => rw [hv, if_pos rfl] at h; rw [if_pos (by rfl)]; exact h
  | false =>
    rw [hv, if_neg (by simp)] at h
    rw [if_neg (by simp)]
    rw [hv, e2] at e5
    have := e5.symm
    simp only [Bool.or_eq_false_iff, Bool.not_eq_false', decide_eq_false_iff_not] at this
    obtain ⟨⟨⟨g1, g2⟩, g3⟩, g4⟩ := this
    obtain ⟨b1, b2, b3, b4, b5, _⟩ := out_ok (n := rows) (k := k) (s := s) (p := p) (by omega)
    obtain ⟨c1, _⟩ := out_ok (n := cols) (k := k) (s := s) (p := p) (by omega)
    have r1 : 0 ≤ r ∧ r ≤ rows - 1 := by simpa [inP] using g3
    have r2 : 0 ≤ c ∧ c ≤ cols - 1 := by simpa [inP] using g4
    obtain ⟨P, eP, hP⟩ := out_nat (n := rows) (k := k) (s := s) (p := p)
    obtain ⟨R, eR, hR⟩ := out_nat (n := cols) (k := k) (s := s) (p := p)
    obtain ⟨K, rfl⟩ := Int.eq_ofNat_of_zero_le (show 0 ≤ k by omega)
    rw [eP, eR, Int.toNat_natCast, Int.toNat_natCast] at h
    rw [eP, eR]
    refine ⟨?_⟩
    refine Loop.range (B := place_Lookers_n0_B cols r c R P rows cols K s p _) (f := fun y : Nat => ((y : Int), lookP s p r c K R y R)) P (fun _ => True) trivial ?_ ?_
    · intro y hy _ X hX
      have hX := hX trivial
      unfold place_Lookers_n0_B
      rw [if_pos (decide_eq_true (show (y : Int) < (P : Int) by omega))]
      dsimp only at hX ⊢
      have hl := lookP_len (s := s) (p := p) (r := r) (c := c) (k := K) (Q := R) (m := R) y
      have hl2 : y * R ≤ 25 * 25 := Nat.mul_le_mul (by omega) hR
      refine lrow_v (by omega) (by omega) r1 r2 (by omega) b3 (by omega) hR (by omega) (by omega) ?_
      rw [wrap_i64 ((y : Int) + 1) (by omega) (by omega)]
      rw [lookP_succ] at hX
      exact hX
    · intro _ X
      unfold place_Lookers_n0_B
      rw [if_neg (by simp)]
      exact h

end Go.Proofs.Ytmleeffinagncaa
