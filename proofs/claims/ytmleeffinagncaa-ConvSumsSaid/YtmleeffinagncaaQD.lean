/- What conv.Input comes to. Laws; no condition. -/
import Derived.Test.YtmleeffinagncaaQC
import Derived.Test.YtmleeffinagncaaP6
namespace Go.Proofs.Ytmleeffinagncaa
open Go.Mach Go.RowKit
set_option maxRecDepth 100000
set_option linter.unusedVariables false
set_option linter.unusedSimpArgs false

theorem lookF_in {rows cols r c s p : Int} {K P Q : Nat} (eP : outF rows K s p = P) (eQ : outF cols K s p = Q) : InP K (P * Q) (lookF rows cols r c K s p) := by
  unfold lookF
  split
  · intro z hz; simp at hz
  · rw [eP, eQ, Int.toNat_natCast, Int.toNat_natCast]
    intro z hz
    unfold lookP lookRow at hz
    simp only [List.mem_flatMap, List.mem_range] at hz
    obtain ⟨y, hy, x, hx, hz⟩ := hz
    unfold lookCell at hz
    split at hz
    · rename_i g
      simp only [Bool.and_eq_true] at g
      have b1 : 0 ≤ r - (s * y - p) ∧ r - (s * y - p) ≤ K - 1 := by simpa [inP] using g.1
      have b2 : 0 ≤ c - (s * x - p) ∧ c - (s * x - p) ≤ K - 1 := by simpa [inP] using g.2
      obtain ⟨a, ea⟩ := Int.eq_ofNat_of_zero_le b1.1
      obtain ⟨b, eb⟩ := Int.eq_ofNat_of_zero_le b2.1
      refine ⟨y * Q + x, a, b, ?_, ix_lt hy hx, by omega, by omega⟩
      rw [ea, eb, ← Int.natCast_mul, ← Int.natCast_add] at hz
      simpa using hz
    · simp at hz
theorem lookF_len {rows cols r c k s p : Int} : (lookF rows cols r c k s p).length ≤ 625 := by
  unfold lookF
  split
  · simp
  · obtain ⟨P, eP, hP⟩ := out_nat (n := rows) (k := k) (s := s) (p := p)
    obtain ⟨Q, eQ, hQ⟩ := out_nat (n := cols) (k := k) (s := s) (p := p)
    rw [eP, eQ, Int.toNat_natCast, Int.toNat_natCast]
    have h1 := lookP_len (s := s) (p := p) (r := r) (c := c) (k := k) (Q := Q) (m := Q) P
    have h2 : P * Q ≤ 25 * 25 := Nat.mul_le_mul hP hQ
    omega

/-- One product of Input. -/
def inG (gd wd : List Int) (O C plane K m c o : Nat) (z : Int × Int × Int) : Int := gd.getD ((m * O + o) * plane + z.1.toNat) 0 * wd.getD (((o * C + c) * K + z.2.1.toNat) * K + z.2.2.toNat) 0
theorem iz_v {C K plane m o c n O : Nat} {gd wd : List Int} {l : List (Int × Int × Int)} {t : Int} {K0 : Int → Prop} (hx : gd.length = n * O * plane) (hw : wd.length = O * C * K * K) (bx : n * O * plane ≤ 8192) (bw : O * C * K * K ≤ 8192) (ax : All8 gd) (aw : All8 wd) (hm : m < n) (ho : o < O) (hc : c < C) (hl : InP K plane l) (hll : l.length ≤ 1000000)
    (h : K0 (IntKind.i64.wrap (t + lsum l (inG gd wd O C plane K m c o)))) : conv_Input_n5 O C K plane m c o (l.length : Int) gd wd l K0 (IntKind.i64.wrap t, 0) := by
  refine ⟨?_⟩
  have eg : (IntKind.i64.wrap t, (0 : Int)) = (fun i : Nat => (IntKind.i64.wrap (t + sumTo (fun i => inG gd wd O C plane K m c o (l.getD i (0, 0, 0))) i), (i : Int))) 0 := by simp [sumTo]
  rw [eg]
  refine Loop.range (B := conv_Input_n5_B O C K plane m c o (l.length : Int) gd wd l K0) (f := fun i : Nat => (IntKind.i64.wrap (t + sumTo (fun i => inG gd wd O C plane K m c o (l.getD i (0, 0, 0))) i), (i : Int))) l.length (fun _ => True) trivial ?_ ?_
  · intro i hi _ X hX
    have hX := hX trivial
    unfold conv_Input_n5_B
    rw [if_pos (decide_eq_true (show (i : Int) < (l.length : Int) by omega))]
    dsimp only at hX ⊢
    refine ⟨by omega, ?_⟩
    rw [Int.toNat_natCast]
    obtain ⟨a, r, q, ez, ha, hr, hq⟩ := hl (l.getD i (0, 0, 0)) (by rw [List.getD_eq_getElem?_getD, List.getElem?_eq_getElem hi]; exact List.getElem_mem hi)
    have g1 : (m * O + o) * plane + a < n * O * plane := ix_lt (ix_lt hm ho) ha
    have g2 : ((o * C + c) * K + r) * K + q < O * C * K * K := ix_lt (ix_lt (ix_lt ho hc) hr) hq
    have g3 : m * O + o ≤ (m * O + o) * plane := Nat.le_mul_of_pos_right _ (by omega)
    have g5 : (o * C + c) * K + r ≤ ((o * C + c) * K + r) * K := Nat.le_mul_of_pos_right _ (by omega)
    have g7 : o * C + c ≤ (o * C + c) * K := Nat.le_mul_of_pos_right _ (by omega)
    have ef : inG gd wd O C plane K m c o (l.getD i (0, 0, 0)) = gd.getD ((m * O + o) * plane + a) 0 * wd.getD (((o * C + c) * K + r) * K + q) 0 := by
      unfold inG; rw [ez]; simp only [Int.toNat_natCast]
    simp only [sumTo, ef] at hX
    rw [ez]
    dsimp only
    rw [ix (r := m) (n := O) (i := o) (by omega), ix (r := m * O + o) (n := plane) (i := a) (by omega), ix (r := o) (n := C) (i := c) (by omega), ix (r := o * C + c) (n := K) (i := r) (by omega), ix (r := (o * C + c) * K + r) (n := K) (i := q) (by omega)]
    refine ⟨by omega, by omega, ?_⟩
    simp only [Int.toNat_natCast]
    have b1 := ax.at_ ((m * O + o) * plane + a)
    have b2 := aw.at_ (((o * C + c) * K + r) * K + q)
    have b3 := mul8 b1 b2
    rw [wrap_i64 (gd.getD ((m * O + o) * plane + a) 0) (by omega) (by omega), wrap_i64 (wd.getD (((o * C + c) * K + r) * K + q) 0) (by omega) (by omega), wrap_i64 (_ * _) (by omega) (by omega), wrap_i64 ((i : Int) + 1) (by omega) (by omega), w64_add_l, Int.add_assoc]
    exact hX
  · intro _ X
    unfold conv_Input_n5_B
    rw [if_neg (by simp)]
    rw [lsum_getD l _ (0, 0, 0)] at h
    exact h
theorem io_v {C K plane m c n O : Nat} {gd wd : List Int} {l : List (Int × Int × Int)} {t : Int} {K0 : Int → Prop} (hx : gd.length = n * O * plane) (hw : wd.length = O * C * K * K) (bx : n * O * plane ≤ 8192) (bw : O * C * K * K ≤ 8192) (ax : All8 gd) (aw : All8 wd) (hm : m < n) (hc : c < C) (hl : InP K plane l) (hll : l.length ≤ 1000000) (hO : O ≤ 10000)
    (h : K0 (IntKind.i64.wrap (t + sumTo (fun o => lsum l (inG gd wd O C plane K m c o)) O))) : conv_Input_n4 O C K plane m c O gd wd l K0 (IntKind.i64.wrap t, 0) := by
  refine ⟨?_⟩
  have eg : (IntKind.i64.wrap t, (0 : Int)) = (fun i : Nat => (IntKind.i64.wrap (t + sumTo (fun o => lsum l (inG gd wd O C plane K m c o)) i), (i : Int))) 0 := by simp [sumTo]
  rw [eg]
  refine Loop.range (B := conv_Input_n4_B O C K plane m c O gd wd l K0) (f := fun i : Nat => (IntKind.i64.wrap (t + sumTo (fun o => lsum l (inG gd wd O C plane K m c o)) i), (i : Int))) O (fun _ => True) trivial ?_ ?_
  · intro o ho _ X hX
    have hX := hX trivial
    unfold conv_Input_n4_B
    rw [if_pos (decide_eq_true (show (o : Int) < (O : Int) by omega))]
    dsimp only at hX ⊢
    refine iz_v hx hw bx bw ax aw hm ho hc hl hll ?_
    rw [wrap_i64 ((o : Int) + 1) (by omega) (by omega), Int.add_assoc]
    exact hX
  · intro _ X
    unfold conv_Input_n4_B
    rw [if_neg (by simp)]
    exact h

section
variable {n C O K H V P Q : Nat} {s p : Int} {gd wd : List Int}
/-- One sum of Input. -/
def inCell (H V C O K P Q : Nat) (s p : Int) (gd wd : List Int) (m c y x : Nat) : Int := IntKind.i32.wrap (sumTo (fun o => lsum (lookF H V y x K s p) (inG gd wd O C (P * Q) K m c o)) O)
/-- What Input is given, where it may be. -/
structure InIn (n C O K H V P Q : Nat) (s p : Int) (gd wd : List Int) : Prop where
  hg : gd.length = n * O * (P * Q)
  hw : wd.length = O * C * K * K
  bg : n * O * (P * Q) ≤ 8192
  bw : O * C * K * K ≤ 8192
  ag : All8 gd
  aw : All8 wd
  eP : outF H K s p = P
  eQ : outF V K s p = Q
  hH : 1 ≤ H ∧ H ≤ 16
  hV : 1 ≤ V ∧ V ≤ 16
  bo : n * C * H * V ≤ 8192
  hC : C ≤ 8192
  hO : O ≤ 8192
  hn : n ≤ 8192
theorem ic_v (g : InIn n C O K H V P Q s p gd wd) {C0 : Nat → Nat → Nat → Nat → Prop} {L : List Int} {m y x : Nat} {K0 : List Int → Prop} (hm : m < n) (hy : y < H) (hx : x < V) (hL : Fill n C H V (inCell H V C O K P Q s p gd wd) C0 L)
    (h : ∀ L', Fill n C H V (inCell H V C O K P Q s p gd wd) (fun m' c' y' x' => C0 m' c' y' x' ∨ (m' = m ∧ y' = y ∧ x' = x)) L' → K0 L') :
    conv_Input_n3 H V O C K ((P * Q : Nat) : Int) ((y * V + x : Nat) : Int) m C gd wd (lookF H V y x K s p) K0 (0, L) := by
  refine ⟨?_⟩
  have hbo := g.bo; have hC := g.hC
  refine Loop.rangeI (B := conv_Input_n3_B H V O C K ((P * Q : Nat) : Int) ((y * V + x : Nat) : Int) m C gd wd (lookF H V y x K s p) K0) C (fun i st => st.1 = (i : Int) ∧ Fill n C H V (inCell H V C O K P Q s p gd wd) (fun m' c' y' x' => C0 m' c' y' x' ∨ (m' = m ∧ y' = y ∧ x' = x ∧ c' < i)) st.2) ⟨rfl, hL.mono fun m' c' y' x' _ _ _ _ hc => hc.elim id fun h => absurd h.2.2.2 (by omega)⟩ ?_ ?_
  · rintro c hc ⟨c', M⟩ ⟨e1, hM⟩ X hX
    simp only at e1 hM
    subst e1
    unfold conv_Input_n3_B
    rw [if_pos (decide_eq_true (show (c : Int) < (C : Int) by omega))]
    dsimp only
    have e0 : ((0 : Int), (0 : Int)) = (IntKind.i64.wrap 0, (0 : Int)) := by decide
    rw [e0]
    have hll := lookF_len (rows := H) (cols := V) (r := y) (c := x) (k := K) (s := s) (p := p)
    refine io_v g.hg g.hw g.bg g.bw g.ag g.aw hm hc (lookF_in g.eP g.eQ) (by omega) (by have := g.hO; omega) ?_
    have g1 := ix4_lt (P := H) (Q := V) hm hc hy hx
    have ei : ix4 C H V m c y x = (m * C + c) * H * V + (y * V + x) := by unfold ix4; rw [Nat.add_mul, Nat.add_assoc]
    rw [ei] at g1
    have g2 : m * C + c ≤ (m * C + c) * H := Nat.le_mul_of_pos_right _ (by omega)
    have g3 : (m * C + c) * H ≤ (m * C + c) * H * V := Nat.le_mul_of_pos_right _ (by omega)
    rw [ix (r := m) (n := C) (i := c) (by omega), mulw (r := m * C + c) (n := H) (by omega), ix (r := (m * C + c) * H) (n := V) (i := y * V + x) (by omega)]
    refine ⟨by rw [hM.len]; omega, ?_⟩
    rw [Int.toNat_natCast, wrap_i64 ((c : Int) + 1) (by omega) (by omega), w32_w64, ← ei, Int.zero_add]
    refine hX _ ⟨by simp, ?_⟩
    refine hM.set hm hc hy hx rfl fun m' c' y' x' _ _ _ _ hc => ?_
    rcases hc with hc | ⟨c1, c2, c3, c4⟩
    · exact .inl (.inl hc)
    · rcases Nat.lt_or_ge c' c with c5 | c5
      · exact .inl (.inr ⟨c1, c2, c3, c5⟩)
      · exact .inr ⟨c1, by omega, c2, c3⟩
  · rintro ⟨c', M⟩ ⟨e1, hM⟩ X
    simp only at e1 hM
    subst e1
    unfold conv_Input_n3_B
    rw [if_neg (by simp)]
    exact h _ (hM.mono fun m' c' y' x' _ h2 _ _ hc => hc.elim .inl fun ⟨a, b, c⟩ => .inr ⟨a, b, c, h2⟩)
theorem im_v (g : InIn n C O K H V P Q s p gd wd) {C0 : Nat → Nat → Nat → Nat → Prop} {L : List Int} {y x : Nat} {K0 : List Int → Prop} (hy : y < H) (hx : x < V) (hL : Fill n C H V (inCell H V C O K P Q s p gd wd) C0 L)
    (h : ∀ L', Fill n C H V (inCell H V C O K P Q s p gd wd) (fun m' c' y' x' => C0 m' c' y' x' ∨ (y' = y ∧ x' = x)) L' → K0 L') :
    conv_Input_n2 H V O C K ((P * Q : Nat) : Int) ((y * V + x : Nat) : Int) n gd wd (lookF H V y x K s p) K0 (0, L) := by
  refine ⟨?_⟩
  have hn := g.hn
  refine Loop.rangeI (B := conv_Input_n2_B H V O C K ((P * Q : Nat) : Int) ((y * V + x : Nat) : Int) n gd wd (lookF H V y x K s p) K0) n (fun i st => st.1 = (i : Int) ∧ Fill n C H V (inCell H V C O K P Q s p gd wd) (fun m' c' y' x' => C0 m' c' y' x' ∨ (y' = y ∧ x' = x ∧ m' < i)) st.2) ⟨rfl, hL.mono fun m' c' y' x' _ _ _ _ hc => hc.elim id fun h => absurd h.2.2 (by omega)⟩ ?_ ?_
  · rintro m hm ⟨m', M⟩ ⟨e1, hM⟩ X hX
    simp only at e1 hM
    subst e1
    unfold conv_Input_n2_B
    rw [if_pos (decide_eq_true (show (m : Int) < (n : Int) by omega))]
    dsimp only
    refine ic_v g hm hy hx hM fun L' hL' => ?_
    rw [wrap_i64 ((m : Int) + 1) (by omega) (by omega)]
    refine hX _ ⟨by simp, hL'.mono fun m' c' y' x' _ _ _ _ hc => ?_⟩
    rcases hc with hc | ⟨c1, c2, c3⟩
    · exact .inl (.inl hc)
    · rcases Nat.lt_or_ge m' m with c5 | c5
      · exact .inl (.inr ⟨c1, c2, c5⟩)
      · exact .inr ⟨by omega, c1, c2⟩
  · rintro ⟨m', M⟩ ⟨e1, hM⟩ X
    simp only at e1 hM
    subst e1
    unfold conv_Input_n2_B
    rw [if_neg (by simp)]
    exact h _ (hM.mono fun m' c' y' x' h2 _ _ _ hc => hc.elim .inl fun ⟨a, b⟩ => .inr ⟨a, b, h2⟩)
theorem ii_v (g : InIn n C O K H V P Q s p gd wd) {L : List Int} {K0 : List Int → Prop} (hL : L.length = n * C * H * V)
    (h : K0 (lst4 n C H V (inCell H V C O K P Q s p gd wd))) :
    conv_Input_n1 H V n O C K ((P * Q : Nat) : Int) ((H * V : Nat) : Int) gd wd H V K s p P Q K0 (0, L) := by
  refine ⟨?_⟩
  have hH := g.hH; have hV := g.hV
  have hHV : H * V ≤ 16 * 16 := Nat.mul_le_mul hH.2 hV.2
  refine Loop.rangeI (B := conv_Input_n1_B H V n O C K ((P * Q : Nat) : Int) ((H * V : Nat) : Int) gd wd H V K s p P Q K0) (H * V) (fun i st => st.1 = (i : Int) ∧ Fill n C H V (inCell H V C O K P Q s p gd wd) (fun m' c' y' x' => y' * V + x' < i) st.2) ⟨rfl, hL, fun m' c' y' x' _ _ _ _ hc => absurd hc (by omega)⟩ ?_ ?_
  · rintro i hi ⟨i', M⟩ ⟨e1, hM⟩ X hX
    simp only at e1 hM
    subst e1
    unfold conv_Input_n1_B
    rw [if_pos (decide_eq_true (show (i : Int) < ((H * V : Nat) : Int) by omega))]
    obtain ⟨c1, c2, c3⟩ := ix_cover hi
    obtain ⟨y, ey⟩ : ∃ y, i / V = y := ⟨_, rfl⟩
    obtain ⟨x, ex⟩ : ∃ x, i % V = x := ⟨_, rfl⟩
    rw [ey, ex] at c3
    rw [ey] at c1
    rw [ex] at c2
    dsimp only
    have et : IntKind.i64.wrap ((i : Int).tdiv (V : Int)) = (y : Int) := by
      rw [Int.tdiv_eq_ediv_of_nonneg (by omega), ← Int.natCast_ediv, ey, wrap_i64 _ (by omega) (by omega)]
    have em : (i : Int).tmod (V : Int) = (x : Int) := by
      rw [Int.tmod_eq_emod_of_nonneg (by omega), ← Int.natCast_emod, ex]
    rw [et, em, wrap_i64 ((i : Int) + 1) (by omega) (by omega)]
    refine ⟨by omega, by omega, ⟨?_⟩⟩
    unfold conv_windows_lookers_t
    refine lookers_v (by show -1000000 ≤ (H : Int) ∧ (H : Int) ≤ 1000000 ∧ -1000000 ≤ (V : Int) ∧ (V : Int) ≤ 1000000; omega) ?_
    dsimp only
    have ei : (i : Int) = ((y * V + x : Nat) : Int) := by omega
    have key := im_v g c1 c2 hM (K0 := fun L' => X ((i : Int) + 1, L')) fun L' hL' => hX _ ⟨by simp, hL'.mono fun m' c' y' x' _ _ hy' hx' hc => ?_⟩
    · rw [← ei] at key
      exact key
    · rcases Nat.lt_or_ge (y' * V + x') i with c5 | c5
      · exact .inl c5
      · refine .inr ?_
        have : y' * V + x' = y * V + x := by omega
        exact ix_inj hx' c2 this
  · rintro ⟨i', M⟩ ⟨e1, hM⟩ X
    simp only at e1 hM
    subst e1
    unfold conv_Input_n1_B
    rw [if_neg (by simp)]
    rw [hM.all fun _ _ y' x' _ _ hy hx => ix_lt hy hx]
    exact h
end

/-! ### What Input answers -/
def inBad (g w : T3) (h v s p : Int) : Bool :=
  (((!(decide (0 < outF h (w.1.getD 2 0) s p) && decide (0 < outF v (w.1.getD 2 0) s p)) || (w.1.getD 0 0 != g.1.getD 1 0)) || (w.1.getD 3 0 != w.1.getD 2 0)) || (g.1.getD 2 0 != outF h (w.1.getD 2 0) s p)) || (g.1.getD 3 0 != outF v (w.1.getD 2 0) s p)
def inDims (g w : T3) (h v : Int) : List Int := [g.1.getD 0 0, w.1.getD 1 0, h, v]
def inN (g w : T3) : Int := g.1.getD 1 0 * w.1.getD 2 0 * w.1.getD 2 0
def inE (g w : T3) (h v s p : Int) : Int :=
  if (cmayF [g, w] != 0) = true then cmayF [g, w]
  else if inBad g w h v s p = true then 2
  else (sumsF (inDims g w h v) (g.2.1 + w.2.1) (inN g w)).2
def inData (g w : T3) (h v s p : Int) : List Int :=
  lst4 (g.1.getD 0 0).toNat (w.1.getD 1 0).toNat h.toNat v.toNat
    (inCell h.toNat v.toNat (w.1.getD 1 0).toNat (g.1.getD 1 0).toNat (w.1.getD 2 0).toNat (g.1.getD 2 0).toNat (g.1.getD 3 0).toNat s p g.2.2 w.2.2)
def inputF (g w : T3) (h v s p : Int) : T3 × Int := if (inE g w h v s p != 0) = true then (Z3, inE g w h v s p) else ((inDims g w h v, (g.2.1 + w.2.1, inData g w h v s p)), 0)
theorem input_v {g w : T3} {h v s p : Int} {Q : T3 × Int → Prop} (ag : All8 g.2.2) (aw : All8 w.2.2) (hq : Q (inputF g w h v s p)) : conv_Input g w h v s p Q := by
  refine ⟨?_⟩
  unfold conv_Input_t
  unfold inputF inE at hq
  refine cmay_v (by simp) ?_
  show (if (cmayF [g, w] != 0) = true then _ else _)
  by_cases h2 : (cmayF [g, w] != 0) = true
  · rw [if_pos h2]
    simp only [h2, if_true] at hq
    exact hq
  · rw [if_neg h2]
    simp only [h2, Bool.false_eq_true, if_false] at hq
    have hz : cmayF [g, w] = 0 := by simpa using h2
    have hzz := cmayF_zero hz
    obtain ⟨mg, lg⟩ := hzz g (by simp)
    obtain ⟨mw, lw⟩ := hzz w (by simp)
    obtain ⟨n, O, P, R, eg, g1, g2, g3, g4, g5, g6, g7, g8⟩ := may4 mg lg
    obtain ⟨O', C, K, K', ew, w1, w2, w3, w4, w5, w6, w7, w8⟩ := may4 mw lw
    refine ⟨by omega, by omega, by omega, by omega, over_v ?_⟩
    refine orb_v (b := !(decide (0 < outF h (w.1.getD 2 0) s p) && decide (0 < outF v (w.1.getD 2 0) s p))) (c := w.1.getD 0 0 != g.1.getD 1 0) (fun _ P hp => ⟨by omega, hp⟩) (fun v3 e3 => ?_) rfl
    refine orb_v (c := w.1.getD 3 0 != w.1.getD 2 0) (fun _ P hp => ⟨by omega, hp⟩) (fun v5 e5 => ?_) rfl
    refine orb_v (c := g.1.getD 2 0 != outF h (w.1.getD 2 0) s p) (fun _ P hp => ⟨by omega, hp⟩) (fun v7 e7 => ?_) rfl
    refine orb_v (c := g.1.getD 3 0 != outF v (w.1.getD 2 0) s p) (fun _ P hp => ⟨by omega, hp⟩) (fun v9 e9 => ?_) rfl
    have hv : v9 = inBad g w h v s p := by rw [e9, e7, e5, e3]; rfl
    rw [← hv] at hq
    cases v9 with
    | true => exact hq
    | false =>
      rw [if_neg (by simp)]
      simp only [Bool.false_eq_true, if_false] at hq
      have hv2 := hv.symm
      unfold inBad at hv2
      simp only [Bool.or_eq_false_iff, bne_f, Bool.not_eq_false', Bool.and_eq_true, decide_eq_true_eq] at hv2
      obtain ⟨⟨⟨⟨⟨o1, o2⟩, c1⟩, c2⟩, c3⟩, c4⟩ := hv2
      simp only [eg, ew, List.getD_cons_zero, List.getD_cons_succ] at o1 o2 c1 c2 c3 c4
      have eo : O' = O := by omega
      have ek : K' = K := by omega
      subst eo ek
      obtain ⟨a1, a2, a3, a4, a5, a6⟩ := out_ok o1
      obtain ⟨d1, _⟩ := out_ok o2
      obtain ⟨H, rfl⟩ := Int.eq_ofNat_of_zero_le (show 0 ≤ h by omega)
      obtain ⟨V, rfl⟩ := Int.eq_ofNat_of_zero_le (show 0 ≤ v by omega)
      unfold inN inDims inData at hq
      simp only [eg, ew, List.getD_cons_zero, List.getD_cons_succ, ← c3, ← c4] at hq ⊢
      have k1 : O' ≤ O' * C := Nat.le_mul_of_pos_right _ (by omega)
      have k2 : O' * C ≤ O' * C * K' := Nat.le_mul_of_pos_right _ (by omega)
      have k3 : O' * C * K' ≤ O' * C * K' * K' := Nat.le_mul_of_pos_right _ (by omega)
      have k4 : O' * K' ≤ 8192 * 5 := Nat.mul_le_mul (by omega) (by omega)
      have k5 : O' * K' * K' ≤ 8192 * 5 * 5 := Nat.mul_le_mul k4 (by omega)
      have k6 : C ≤ O' * C := Nat.le_mul_of_pos_left _ (by omega)
      have k7 : n ≤ n * O' := Nat.le_mul_of_pos_right _ (by omega)
      have k8 : n * O' ≤ n * O' * P := Nat.le_mul_of_pos_right _ (by omega)
      have k9 : n * O' * P ≤ n * O' * P * R := Nat.le_mul_of_pos_right _ (by omega)
      have ka : H * V ≤ 16 * 16 := Nat.mul_le_mul (by omega) (by omega)
      have kb : P * R ≤ n * O' * (P * R) := Nat.le_mul_of_pos_left _ (Nat.mul_pos (by omega) (by omega))
      rw [← Nat.mul_assoc] at kb
      rw [mulw (r := O') (n := K') (by omega), mulw (r := O' * K') (n := K') (by omega), wrap_i64 (g.2.1 + w.2.1) (by omega) (by omega)]
      rw [← Int.natCast_mul, ← Int.natCast_mul] at hq
      refine fresh_v ⟨?_⟩
      unfold conv_Input_n0_t
      by_cases h9 : (sumsF [(n : Int), (C : Int), (H : Int), (V : Int)] (g.2.1 + w.2.1) ((O' * K' * K' : Nat) : Int)).2 = 0
      · obtain ⟨f1, f2, f3, f4⟩ := sumsF_ok h9
        rw [f4] at hq ⊢
        simp only [bne_self_eq_false, Bool.false_eq_true, if_false] at hq ⊢
        obtain ⟨q1, q2, q3, q4, e1, e2, e3, e4, _, _, _, _, s5, s6⟩ := szF4 f3
        have r1 : q1 = n := by omega
        have r2 : q2 = C := by omega
        have r3 : q3 = H := by omega
        have r4 : q4 = V := by omega
        subst r1 r2 r3 r4
        rw [s6]
        have gg : InIn q1 q2 O' K' q3 q4 P R s p g.2.2 w.2.2 := ⟨by rw [g6]; exact Nat.mul_assoc _ _ _, w6, by rw [← Nat.mul_assoc]; exact g5, w5, ag, aw, c3.symm, c4.symm, by omega, by omega, s5, by omega, by omega, by omega⟩
        rw [mulw (r := P) (n := R) (by omega), mulw (r := q3) (n := q4) (by omega), Int.toNat_natCast]
        refine ii_v gg (by simp) ?_
        simp only [Int.toNat_natCast] at hq
        exact hq
      · rw [if_pos (by simpa using h9)]
        rw [if_pos (by simpa using h9)] at hq
        rw [sumsF_err h9]
        exact hq

end Go.Proofs.Ytmleeffinagncaa
