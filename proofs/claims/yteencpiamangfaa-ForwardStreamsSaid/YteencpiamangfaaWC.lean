/- What conv.Forward comes to, as sums over windows. Laws; no condition. -/
import Derived.Test.YteencpiamangfaaWB
/- What conv.Forward answers, whatever it is given. Laws; no condition. -/
namespace Go.Proofs.Yteencpiamangfaa
open Go.Mach Go.RowKit
set_option maxRecDepth 100000
set_option linter.unusedVariables false
set_option linter.unusedSimpArgs false

/-! ### Members of a window -/
/-- The places of a list lie in a plane, those of the weights in a window. -/
def InP (K plane : Nat) (l : List (Int × Int × Int)) : Prop := ∀ z ∈ l, ∃ a r c : Nat, z = ((a : Int), (r : Int), (c : Int)) ∧ a < plane ∧ r < K ∧ c < K
theorem winF_mem {rows cols cr cc : Int} {k m : Nat} {z : Int × Int × Int} (h : z ∈ winF rows cols cr cc k m) : ∃ i j : Nat, i < m ∧ j < k ∧ (0 ≤ cr + i ∧ cr + i ≤ rows - 1) ∧ (0 ≤ cc + j ∧ cc + j ≤ cols - 1) ∧ z = ((cr + i) * cols + (cc + j), (i : Int), (j : Int)) := by
  unfold winF winRow at h
  simp only [List.mem_flatMap, List.mem_range] at h
  obtain ⟨i, hi, j, hj, hz⟩ := h
  unfold winCell at hz
  split at hz
  · rename_i hin
    simp only [Bool.and_eq_true] at hin
    refine ⟨i, j, hi, hj, by simpa [inP] using hin.1, by simpa [inP] using hin.2, by simpa using hz⟩
  · simp at hz
theorem winF_in {rows cols : Nat} {cr cc : Int} {k m K : Nat} (hm : m ≤ K) (hk : k ≤ K) : InP K (rows * cols) (winF rows cols cr cc k m) := by
  intro z hz
  obtain ⟨i, j, hi, hj, h1, h2, rfl⟩ := winF_mem hz
  obtain ⟨y, hy⟩ := Int.eq_ofNat_of_zero_le h1.1
  obtain ⟨x, hx⟩ := Int.eq_ofNat_of_zero_le h2.1
  refine ⟨y * cols + x, i, j, ?_, ix_lt (by omega) (by omega), by omega, by omega⟩
  rw [hy, hx, Int.natCast_add, Int.natCast_mul]
theorem windowF_in {rows cols K : Nat} {r c s p : Int} : InP K (rows * cols) (windowF rows cols r c K s p) := by
  unfold windowF
  split
  · intro z hz; simp at hz
  · rw [Int.toNat_natCast]; exact winF_in (Nat.le_refl _) (Nat.le_refl _)
theorem windowF_len {rows cols r c s p : Int} {K : Nat} : (windowF rows cols r c K s p).length ≤ K * K := by
  unfold windowF
  split
  · simp
  · rw [Int.toNat_natCast]; exact winF_len K

/-! ### Forward -/
/-- One product of a window's sum. -/
def fwdG (xd wd : List Int) (C plane K m o c : Nat) (z : Int × Int × Int) : Int := xd.getD ((m * C + c) * plane + z.1.toNat) 0 * wd.getD (((o * C + c) * K + z.2.1.toNat) * K + z.2.2.toNat) 0
theorem fz_v {C K plane m o c n O : Nat} {xd wd : List Int} {l : List (Int × Int × Int)} {t : Int} {K0 : Int → Prop} (hx : xd.length = n * C * plane) (hw : wd.length = O * C * K * K) (bx : n * C * plane ≤ 8192) (bw : O * C * K * K ≤ 8192) (ax : All8 xd) (aw : All8 wd) (hm : m < n) (ho : o < O) (hc : c < C) (hl : InP K plane l) (hll : l.length ≤ 1000000)
    (h : K0 (IntKind.i64.wrap (t + lsum l (fwdG xd wd C plane K m o c)))) : conv_Forward_n6 C K plane m o c (l.length : Int) xd wd l K0 (IntKind.i64.wrap t, 0) := by
  refine ⟨?_⟩
  have eg : (IntKind.i64.wrap t, (0 : Int)) = (fun i : Nat => (IntKind.i64.wrap (t + sumTo (fun i => fwdG xd wd C plane K m o c (l.getD i (0, 0, 0))) i), (i : Int))) 0 := by simp [sumTo]
  rw [eg]
  refine Loop.range (B := conv_Forward_n6_B C K plane m o c (l.length : Int) xd wd l K0) (f := fun i : Nat => (IntKind.i64.wrap (t + sumTo (fun i => fwdG xd wd C plane K m o c (l.getD i (0, 0, 0))) i), (i : Int))) l.length (fun _ => True) trivial ?_ ?_
  · intro i hi _ X hX
    have hX := hX trivial
    unfold conv_Forward_n6_B
    rw [if_pos (decide_eq_true (show (i : Int) < (l.length : Int) by omega))]
    dsimp only at hX ⊢
    refine ⟨by omega, ?_⟩
    rw [Int.toNat_natCast]
    obtain ⟨a, r, q, ez, ha, hr, hq⟩ := hl (l.getD i (0, 0, 0)) (by rw [List.getD_eq_getElem?_getD, List.getElem?_eq_getElem hi]; exact List.getElem_mem hi)
    have g1 : (m * C + c) * plane + a < n * C * plane := ix_lt (ix_lt hm hc) ha
    have g2 : ((o * C + c) * K + r) * K + q < O * C * K * K := ix_lt (ix_lt (ix_lt ho hc) hr) hq
    have g3 : m * C + c < n * C := ix_lt hm hc
    have g4 : n * C ≤ n * C * plane := Nat.le_mul_of_pos_right _ (by omega)
    have g5 : (o * C + c) * K + r < O * C * K := ix_lt (ix_lt ho hc) hr
    have g6 : O * C * K ≤ O * C * K * K := Nat.le_mul_of_pos_right _ (by omega)
    have g7 : o * C + c < O * C := ix_lt ho hc
    have g8 : O * C ≤ O * C * K := Nat.le_mul_of_pos_right _ (by omega)
    have ef : fwdG xd wd C plane K m o c (l.getD i (0, 0, 0)) = xd.getD ((m * C + c) * plane + a) 0 * wd.getD (((o * C + c) * K + r) * K + q) 0 := by
      unfold fwdG; rw [ez]; simp only [Int.toNat_natCast]
    simp only [sumTo, ef] at hX
    rw [ez]
    dsimp only
    rw [ix (r := m) (n := C) (i := c) (by omega), ix (r := m * C + c) (n := plane) (i := a) (by omega), ix (r := o) (n := C) (i := c) (by omega), ix (r := o * C + c) (n := K) (i := r) (by omega), ix (r := (o * C + c) * K + r) (n := K) (i := q) (by omega)]
    refine ⟨by omega, by omega, ?_⟩
    simp only [Int.toNat_natCast]
    have b1 := ax.at_ ((m * C + c) * plane + a)
    have b2 := aw.at_ (((o * C + c) * K + r) * K + q)
    have b3 := mul8 b1 b2
    rw [wrap_i64 (xd.getD ((m * C + c) * plane + a) 0) (by omega) (by omega), wrap_i64 (wd.getD (((o * C + c) * K + r) * K + q) 0) (by omega) (by omega), wrap_i64 (_ * _) (by omega) (by omega), wrap_i64 ((i : Int) + 1) (by omega) (by omega), w64_add_l, Int.add_assoc]
    exact hX
  · intro _ X
    unfold conv_Forward_n6_B
    rw [if_neg (by simp)]
    rw [lsum_getD l _ (0, 0, 0)] at h
    exact h
theorem fc_v {C K plane m o n O : Nat} {xd wd : List Int} {l : List (Int × Int × Int)} {t : Int} {K0 : Int → Prop} (hx : xd.length = n * C * plane) (hw : wd.length = O * C * K * K) (bx : n * C * plane ≤ 8192) (bw : O * C * K * K ≤ 8192) (ax : All8 xd) (aw : All8 wd) (hm : m < n) (ho : o < O) (hl : InP K plane l) (hll : l.length ≤ 1000000) (hC : C ≤ 10000)
    (h : K0 (IntKind.i64.wrap (t + sumTo (fun c => lsum l (fwdG xd wd C plane K m o c)) C))) : conv_Forward_n5 C K plane m o C xd wd l K0 (IntKind.i64.wrap t, 0) := by
  refine ⟨?_⟩
  have eg : (IntKind.i64.wrap t, (0 : Int)) = (fun i : Nat => (IntKind.i64.wrap (t + sumTo (fun c => lsum l (fwdG xd wd C plane K m o c)) i), (i : Int))) 0 := by simp [sumTo]
  rw [eg]
  refine Loop.range (B := conv_Forward_n5_B C K plane m o C xd wd l K0) (f := fun i : Nat => (IntKind.i64.wrap (t + sumTo (fun c => lsum l (fwdG xd wd C plane K m o c)) i), (i : Int))) C (fun _ => True) trivial ?_ ?_
  · intro c hc _ X hX
    have hX := hX trivial
    unfold conv_Forward_n5_B
    rw [if_pos (decide_eq_true (show (c : Int) < (C : Int) by omega))]
    dsimp only at hX ⊢
    refine fz_v hx hw bx bw ax aw hm ho hc hl hll ?_
    rw [wrap_i64 ((c : Int) + 1) (by omega) (by omega), Int.add_assoc]
    exact hX
  · intro _ X
    unfold conv_Forward_n5_B
    rw [if_neg (by simp)]
    exact h

section
variable {n C O K H V P Q : Nat} {s p : Int} {xd wd bd : List Int} {be e : Int}
/-- One sum of Forward. -/
def fwdCell (H V C K : Nat) (s p : Int) (xd wd bd : List Int) (be e : Int) (m o y x : Nat) : Int := IntKind.i32.wrap (alF (bd.getD o 0) be e + sumTo (fun c => lsum (windowF H V y x K s p) (fwdG xd wd C (H * V) K m o c)) C)
/-- What Forward is given, where it may be. -/
structure FwdIn (n C O K H V P Q : Nat) (xd wd bd : List Int) : Prop where
  hx : xd.length = n * C * (H * V)
  hw : wd.length = O * C * K * K
  bx : n * C * (H * V) ≤ 8192
  bw : O * C * K * K ≤ 8192
  ax : All8 xd
  aw : All8 wd
  ab : All8 bd
  hb : bd.length = O
  hK : K ≤ 5
  hC : 1 ≤ C
  hn : 1 ≤ n
  hO : 1 ≤ O
  h0 : 1 ≤ K
  bo : n * O * P * Q ≤ 8192
theorem FwdIn.le {n C O K H V P Q : Nat} {xd wd bd : List Int} (g : FwdIn n C O K H V P Q xd wd bd) : C ≤ 8192 ∧ O ≤ 8192 := by
  have h1 := g.bw
  have h2 := g.h0
  have h3 := g.hO
  have h4 := g.hC
  have h5 : O * C ≤ O * C * K := Nat.le_mul_of_pos_right _ h2
  have h6 : O * C * K ≤ O * C * K * K := Nat.le_mul_of_pos_right _ h2
  have h7 : C ≤ O * C := Nat.le_mul_of_pos_left _ h3
  have h8 : O ≤ O * C := Nat.le_mul_of_pos_right _ h4
  omega
theorem fo_v (g : FwdIn n C O K H V P Q xd wd bd) {C0 : Nat → Nat → Nat → Nat → Prop} {L : List Int} {m y x : Nat} {K0 : List Int → Prop} (hm : m < n) (hy : y < P) (hx : x < Q) (hL : Fill n O P Q (fwdCell H V C K s p xd wd bd be e) C0 L)
    (h : ∀ L', Fill n O P Q (fwdCell H V C K s p xd wd bd be e) (fun m' o' y' x' => C0 m' o' y' x' ∨ (m' = m ∧ y' = y ∧ x' = x)) L' → K0 L') :
    conv_Forward_n4 C O K ((H * V : Nat) : Int) y x m O xd wd be bd P Q e (windowF H V y x K s p) K0 (0, L) := by
  refine ⟨?_⟩
  have hle := g.le
  have hbo := g.bo
  refine Loop.rangeI (B := conv_Forward_n4_B C O K ((H * V : Nat) : Int) y x m O xd wd be bd P Q e (windowF H V y x K s p) K0) O (fun i st => st.1 = (i : Int) ∧ Fill n O P Q (fwdCell H V C K s p xd wd bd be e) (fun m' o' y' x' => C0 m' o' y' x' ∨ (m' = m ∧ y' = y ∧ x' = x ∧ o' < i)) st.2) ⟨rfl, hL.mono fun m' o' y' x' _ _ _ _ hc => hc.elim id fun h => absurd h.2.2.2 (by omega)⟩ ?_ ?_
  · rintro o ho ⟨o', M⟩ ⟨e1, hM⟩ X hX
    simp only at e1 hM
    subst e1
    unfold conv_Forward_n4_B
    rw [if_pos (decide_eq_true (show (o : Int) < (O : Int) by omega))]
    dsimp only
    refine ⟨by rw [g.hb]; omega, ?_⟩
    rw [Int.toNat_natCast]
    have bb := g.ab.at_ o
    rw [wrap_i64 (bd.getD o 0) (by omega) (by omega)]
    refine al_v ?_
    have ba := alF_rng (b := be) (c := e) bb
    have hK := g.hK
    have hKK : K * K ≤ 5 * 5 := Nat.mul_le_mul hK hK
    have hwl := windowF_len (rows := H) (cols := V) (r := y) (c := x) (s := s) (p := p) (K := K)
    have e0 : (alF (bd.getD o 0) be e, (0 : Int)) = (IntKind.i64.wrap (alF (bd.getD o 0) be e), (0 : Int)) := by rw [wrap_i64 _ (by omega) (by omega)]
    rw [e0]
    refine fc_v g.hx g.hw g.bx g.bw g.ax g.aw hm ho windowF_in (by omega) (by omega) ?_
    have g1 := ix4_lt (P := P) (Q := Q) hm ho hy hx
    unfold ix4 at g1
    have g2 : m * O + o ≤ (m * O + o) * P := Nat.le_mul_of_pos_right _ (by omega)
    have g3 : (m * O + o) * P + y ≤ ((m * O + o) * P + y) * Q := Nat.le_mul_of_pos_right _ (by omega)
    rw [ix (r := m) (n := O) (i := o) (by omega), ix (r := m * O + o) (n := P) (i := y) (by omega), ix (r := (m * O + o) * P + y) (n := Q) (i := x) (by omega)]
    refine ⟨by rw [hM.len]; omega, ?_⟩
    rw [Int.toNat_natCast, wrap_i64 ((o : Int) + 1) (by omega) (by omega), w32_w64]
    refine hX _ ⟨by simp, ?_⟩
    refine hM.set hm ho hy hx rfl fun m' o' y' x' _ _ _ _ hc => ?_
    rcases hc with hc | ⟨c1, c2, c3, c4⟩
    · exact .inl (.inl hc)
    · rcases Nat.lt_or_ge o' o with c5 | c5
      · exact .inl (.inr ⟨c1, c2, c3, c5⟩)
      · exact .inr ⟨c1, by omega, c2, c3⟩
  · rintro ⟨o', M⟩ ⟨e1, hM⟩ X
    simp only at e1 hM
    subst e1
    unfold conv_Forward_n4_B
    rw [if_neg (by simp)]
    exact h _ (hM.mono fun m' o' y' x' _ h2 _ _ hc => hc.elim .inl fun ⟨a, b, c⟩ => .inr ⟨a, b, c, h2⟩)
theorem fm_v (g : FwdIn n C O K H V P Q xd wd bd) {C0 : Nat → Nat → Nat → Nat → Prop} {L : List Int} {y x : Nat} {K0 : List Int → Prop} (hn : n ≤ 8192) (hy : y < P) (hx : x < Q) (hL : Fill n O P Q (fwdCell H V C K s p xd wd bd be e) C0 L)
    (h : ∀ L', Fill n O P Q (fwdCell H V C K s p xd wd bd be e) (fun m' o' y' x' => C0 m' o' y' x' ∨ (y' = y ∧ x' = x)) L' → K0 L') :
    conv_Forward_n3 C O K ((H * V : Nat) : Int) y x n xd wd be bd P Q e (windowF H V y x K s p) K0 (0, L) := by
  refine ⟨?_⟩
  refine Loop.rangeI (B := conv_Forward_n3_B C O K ((H * V : Nat) : Int) y x n xd wd be bd P Q e (windowF H V y x K s p) K0) n (fun i st => st.1 = (i : Int) ∧ Fill n O P Q (fwdCell H V C K s p xd wd bd be e) (fun m' o' y' x' => C0 m' o' y' x' ∨ (y' = y ∧ x' = x ∧ m' < i)) st.2) ⟨rfl, hL.mono fun m' o' y' x' _ _ _ _ hc => hc.elim id fun h => absurd h.2.2 (by omega)⟩ ?_ ?_
  · rintro m hm ⟨m', M⟩ ⟨e1, hM⟩ X hX
    simp only at e1 hM
    subst e1
    unfold conv_Forward_n3_B
    rw [if_pos (decide_eq_true (show (m : Int) < (n : Int) by omega))]
    refine fo_v g hm hy hx hM fun L' hL' => ?_
    dsimp only
    rw [wrap_i64 ((m : Int) + 1) (by omega) (by omega)]
    refine hX _ ⟨by simp, hL'.mono fun m' o' y' x' _ _ _ _ hc => ?_⟩
    rcases hc with hc | ⟨c1, c2, c3⟩
    · exact .inl (.inl hc)
    · rcases Nat.lt_or_ge m' m with c5 | c5
      · exact .inl (.inr ⟨c1, c2, c5⟩)
      · exact .inr ⟨by omega, c1, c2⟩
  · rintro ⟨m', M⟩ ⟨e1, hM⟩ X
    simp only at e1 hM
    subst e1
    unfold conv_Forward_n3_B
    rw [if_neg (by simp)]
    exact h _ (hM.mono fun m' o' y' x' h2 _ _ _ hc => hc.elim .inl fun ⟨a, b⟩ => .inr ⟨a, b, h2⟩)
theorem fq_v (g : FwdIn n C O K H V P Q xd wd bd) {C0 : Nat → Nat → Nat → Nat → Prop} {L : List Int} {y : Nat} {K0 : List Int → Prop} (hn : n ≤ 8192) (hQ : Q ≤ 8192) (hy : y < P) (hL : Fill n O P Q (fwdCell H V C K s p xd wd bd be e) C0 L)
    (h : ∀ L', Fill n O P Q (fwdCell H V C K s p xd wd bd be e) (fun m' o' y' x' => C0 m' o' y' x' ∨ y' = y) L' → K0 L') :
    conv_Forward_n2 n C O K ((H * V : Nat) : Int) y Q xd wd be bd H V K s p P Q e K0 (0, L) := by
  refine ⟨?_⟩
  refine Loop.rangeI (B := conv_Forward_n2_B n C O K ((H * V : Nat) : Int) y Q xd wd be bd H V K s p P Q e K0) Q (fun i st => st.1 = (i : Int) ∧ Fill n O P Q (fwdCell H V C K s p xd wd bd be e) (fun m' o' y' x' => C0 m' o' y' x' ∨ (y' = y ∧ x' < i)) st.2) ⟨rfl, hL.mono fun m' o' y' x' _ _ _ _ hc => hc.elim id fun h => absurd h.2 (by omega)⟩ ?_ ?_
  · rintro x hx ⟨x', M⟩ ⟨e1, hM⟩ X hX
    simp only at e1 hM
    subst e1
    unfold conv_Forward_n2_B
    rw [if_pos (decide_eq_true (show (x : Int) < (Q : Int) by omega))]
    refine ⟨?_⟩
    unfold conv_windows_at_t
    refine Window_v ?_
    refine fm_v g hn hy hx hM fun L' hL' => ?_
    dsimp only
    rw [wrap_i64 ((x : Int) + 1) (by omega) (by omega)]
    refine hX _ ⟨by simp, hL'.mono fun m' o' y' x' _ _ _ _ hc => ?_⟩
    rcases hc with hc | ⟨c1, c2⟩
    · exact .inl (.inl hc)
    · rcases Nat.lt_or_ge x' x with c5 | c5
      · exact .inl (.inr ⟨c1, c5⟩)
      · exact .inr ⟨c1, by omega⟩
  · rintro ⟨x', M⟩ ⟨e1, hM⟩ X
    simp only at e1 hM
    subst e1
    unfold conv_Forward_n2_B
    rw [if_neg (by simp)]
    exact h _ (hM.mono fun m' o' y' x' _ _ _ h2 hc => hc.elim .inl fun a => .inr ⟨a, h2⟩)
theorem fp_v (g : FwdIn n C O K H V P Q xd wd bd) {L : List Int} {K0 : List Int → Prop} (hn : n ≤ 8192) (hQ : Q ≤ 8192) (hP : P ≤ 8192) (hL : L.length = n * O * P * Q)
    (h : K0 (lst4 n O P Q (fwdCell H V C K s p xd wd bd be e))) :
    conv_Forward_n1 n C O K ((H * V : Nat) : Int) P xd wd be bd H V K s p P Q e K0 (0, L) := by
  refine ⟨?_⟩
  refine Loop.rangeI (B := conv_Forward_n1_B n C O K ((H * V : Nat) : Int) P xd wd be bd H V K s p P Q e K0) P (fun i st => st.1 = (i : Int) ∧ Fill n O P Q (fwdCell H V C K s p xd wd bd be e) (fun m' o' y' x' => y' < i) st.2) ⟨rfl, hL, fun m' o' y' x' _ _ _ _ hc => absurd hc (by omega)⟩ ?_ ?_
  · rintro y hy ⟨y', M⟩ ⟨e1, hM⟩ X hX
    simp only at e1 hM
    subst e1
    unfold conv_Forward_n1_B
    rw [if_pos (decide_eq_true (show (y : Int) < (P : Int) by omega))]
    refine fq_v g hn hQ hy hM fun L' hL' => ?_
    dsimp only
    rw [wrap_i64 ((y : Int) + 1) (by omega) (by omega)]
    refine hX _ ⟨by simp, hL'.mono fun m' o' y' x' _ _ _ _ hc => ?_⟩
    rcases Nat.lt_or_ge y' y with c5 | c5
    · exact .inl c5
    · exact .inr (by omega)
  · rintro ⟨y', M⟩ ⟨e1, hM⟩ X
    simp only at e1 hM
    subst e1
    unfold conv_Forward_n1_B
    rw [if_neg (by simp)]
    rw [hM.all fun _ _ y' _ _ _ hy _ => hy]
    exact h
end

open Go.Mach Go.RowKit
set_option maxRecDepth 100000
set_option linter.unusedVariables false
set_option linter.unusedSimpArgs false

theorem len4 {l : List Int} (h : (l.length : Int) = 4) : ∃ a b c d, l = [a, b, c, d] := by
  match l, h with
  | [a, b, c, d], _ => exact ⟨a, b, c, d, rfl⟩
  | [], h => simp at h
  | [_], h => simp at h
  | [_, _], h => simp at h
  | [_, _, _], h => simp at h
  | _ :: _ :: _ :: _ :: _ :: r, h => simp at h; omega
theorem len1 {l : List Int} (h : (l.length : Int) = 1) : ∃ a, l = [a] := by
  match l, h with
  | [a], _ => exact ⟨a, rfl⟩
  | [], h => simp at h
  | _ :: _ :: r, h => simp at h; omega
theorem cmayF_zero {l : List T3} (h : cmayF l = 0) : ∀ t ∈ l, mayF t = true ∧ (t.1.length : Int) = 4 := by
  unfold cmayF at h
  split at h
  · split at h
    · rename_i h1 h2
      intro t ht
      exact ⟨List.all_eq_true.1 h1 t ht, by have := List.all_eq_true.1 h2 t ht; simpa using this⟩
    · cases h
  · cases h
/-- A tensor of four lengths that may be. -/
theorem may4 {t : T3} (h : mayF t = true) (hl : (t.1.length : Int) = 4) : ∃ n m p q : Nat, t.1 = [(n : Int), (m : Int), (p : Int), (q : Int)] ∧ 1 ≤ n ∧ 1 ≤ m ∧ 1 ≤ p ∧ 1 ≤ q ∧ n * m * p * q ≤ 8192 ∧ t.2.2.length = n * m * p * q ∧ -64 ≤ t.2.1 ∧ t.2.1 ≤ 64 := by
  obtain ⟨h1, h2, h3, h4⟩ := mayF_iff.1 h
  obtain ⟨a, b, c, d, e⟩ := len4 hl
  rw [e] at h1 h2
  obtain ⟨n, m, p, q, rfl, rfl, rfl, rfl, g1, g2, g3, g4, g5, g6⟩ := szF4 h1
  rw [g6] at h2
  exact ⟨n, m, p, q, e, g1, g2, g3, g4, g5, by omega, h3.1, h3.2⟩
theorem may1 {t : T3} (h : mayF t = true) (hl : (t.1.length : Int) = 1) : ∃ n : Nat, t.1 = [(n : Int)] ∧ 1 ≤ n ∧ n ≤ 4096 ∧ t.2.2.length = n := by
  obtain ⟨h1, h2, h3, h4⟩ := mayF_iff.1 h
  obtain ⟨a, e⟩ := len1 hl
  rw [e] at h1 h2
  obtain ⟨g1, g2, g3⟩ := szF1 h1
  obtain ⟨n, rfl⟩ := Int.eq_ofNat_of_zero_le (show 0 ≤ a by omega)
  rw [g3] at h2
  exact ⟨n, e, by omega, by omega, by omega⟩
theorem out_ok {n k s p : Int} (h : 0 < outF n k s p) : (1 ≤ n ∧ n ≤ 16) ∧ (1 ≤ k ∧ k ≤ 5) ∧ (1 ≤ s ∧ s ≤ 4) ∧ (0 ≤ p ∧ p ≤ k - 1) ∧ k ≤ n + 2 * p ∧ outF n k s p = (n + 2 * p - k) / s + 1 := by
  have hb := (outF_rng n k s p).2.2 (by omega)
  obtain ⟨b1, b2, b3, b4, b5⟩ := badOut_inv hb
  refine ⟨b1, b2, b3, b4, b5, ?_⟩
  unfold outF
  rw [hb, if_neg (by simp)]
theorem out_nat {n k s p : Int} : ∃ P : Nat, outF n k s p = P ∧ P ≤ 25 := by
  obtain ⟨h1, h2, _⟩ := outF_rng n k s p
  obtain ⟨P, e⟩ := Int.eq_ofNat_of_zero_le h1
  exact ⟨P, e, by omega⟩

/-- Whether what Forward is given does not go together. -/
def convBad (x w b : T3) (s p : Int) : Bool :=
  (((!(decide (0 < outF (x.1.getD 2 0) (w.1.getD 2 0) s p) && decide (0 < outF (x.1.getD 3 0) (w.1.getD 2 0) s p)) || (w.1.getD 1 0 != x.1.getD 1 0)) || (w.1.getD 3 0 != w.1.getD 2 0)) || ((b.1.length : Int) != 1)) || (b.1.getD 0 0 != w.1.getD 0 0)
def convDims (x w : T3) (s p : Int) : List Int := [x.1.getD 0 0, w.1.getD 0 0, outF (x.1.getD 2 0) (w.1.getD 2 0) s p, outF (x.1.getD 3 0) (w.1.getD 2 0) s p]
def convN (x w : T3) : Int := x.1.getD 1 0 * w.1.getD 2 0 * w.1.getD 2 0
/-- How Forward ends. -/
def convE (x w b : T3) (s p : Int) : Int :=
  if (!mayF b) = true then 1
  else if (cmayF [x, w] != 0) = true then cmayF [x, w]
  else if convBad x w b s p = true then 2
  else (sumsF (convDims x w s p) (x.2.1 + w.2.1) (convN x w)).2
def convData (x w b : T3) (s p : Int) : List Int :=
  lst4 (x.1.getD 0 0).toNat (w.1.getD 0 0).toNat (outF (x.1.getD 2 0) (w.1.getD 2 0) s p).toNat (outF (x.1.getD 3 0) (w.1.getD 2 0) s p).toNat
    (fwdCell (x.1.getD 2 0).toNat (x.1.getD 3 0).toNat (x.1.getD 1 0).toNat (w.1.getD 2 0).toNat s p x.2.2 w.2.2 b.2.2 b.2.1 (x.2.1 + w.2.1))
/-- What Forward answers. -/
def convF (x w b : T3) (s p : Int) : T3 × Int := if (convE x w b s p != 0) = true then (Z3, convE x w b s p) else ((convDims x w s p, (x.2.1 + w.2.1, convData x w b s p)), 0)

theorem bne_t {a b : Int} : (a != b) = true ↔ a ≠ b := by simp
theorem bne_f {a b : Int} : (a != b) = false ↔ a = b := by simp
theorem conv_v {x w b : T3} {s p : Int} {Q : T3 × Int → Prop} (ax : All8 x.2.2) (aw : All8 w.2.2) (ab : All8 b.2.2) (hq : Q (convF x w b s p)) : conv_Forward x w b s p Q := by
  refine ⟨?_⟩
  unfold conv_Forward_t
  refine mayT_v ?_
  unfold convF convE at hq
  by_cases h1 : (!mayF b) = true
  · rw [if_pos h1]
    simp only [h1, if_true] at hq
    exact hq
  · rw [if_neg h1]
    simp only [h1, Bool.false_eq_true, if_false] at hq
    refine cmay_v (by simp) ?_
    show (if (cmayF [x, w] != 0) = true then _ else _)
    by_cases h2 : (cmayF [x, w] != 0) = true
    · rw [if_pos h2]
      simp only [h2, if_true] at hq
      exact hq
    · rw [if_neg h2]
      simp only [h2, Bool.false_eq_true, if_false] at hq
      have hz : cmayF [x, w] = 0 := by simpa using h2
      have hzz := cmayF_zero hz
      obtain ⟨mx, lx⟩ := hzz x (by simp)
      obtain ⟨mw, lw⟩ := hzz w (by simp)
      obtain ⟨n, C, H, V, ex, x1, x2, x3, x4, x5, x6, x7, x8⟩ := may4 mx lx
      obtain ⟨O, C', K, K', ew, w1, w2, w3, w4, w5, w6, w7, w8⟩ := may4 mw lw
      refine ⟨by omega, by omega, by omega, by omega, by omega, by omega, over_v ?_⟩
      refine orb_v (b := !(decide (0 < outF (x.1.getD 2 0) (w.1.getD 2 0) s p) && decide (0 < outF (x.1.getD 3 0) (w.1.getD 2 0) s p))) (c := w.1.getD 1 0 != x.1.getD 1 0) (fun _ P hp => ⟨by omega, hp⟩) (fun v4 e4 => ?_) rfl
      refine orb_v (c := w.1.getD 3 0 != w.1.getD 2 0) (fun _ P hp => ⟨by omega, hp⟩) (fun v6 e6 => ?_) rfl
      refine orb_v (b := v6 || ((b.1.length : Int) != 1)) (c := b.1.getD 0 0 != w.1.getD 0 0) (fun hb P hp => ⟨by simp only [Bool.or_eq_false_iff, bne_f] at hb; omega, hp⟩) (fun v8 e8 => ?_) rfl
      have hv : v8 = convBad x w b s p := by rw [e8, e6, e4]; rfl
      rw [← hv] at hq
      cases v8 with
      | true => exact hq
      | false =>
        rw [if_neg (by simp)]
        simp only [Bool.false_eq_true, if_false] at hq
        have hv2 := hv.symm
        unfold convBad at hv2
        simp only [Bool.or_eq_false_iff, bne_f, Bool.not_eq_false', Bool.and_eq_true, decide_eq_true_eq] at hv2
        obtain ⟨⟨⟨⟨⟨o1, o2⟩, c1⟩, c2⟩, c3⟩, c4⟩ := hv2
        obtain ⟨O', eb, b1, b2, b3⟩ := may1 (by simpa using h1) c3
        simp only [ex, ew, eb, List.getD_cons_zero, List.getD_cons_succ] at o1 o2 c1 c2 c4
        have ec : C' = C := by omega
        have ek : K' = K := by omega
        have eo : O' = O := by omega
        subst ec ek eo
        obtain ⟨a1, a2, a3, a4, a5, a6⟩ := out_ok o1
        obtain ⟨d1, d2, d3, d4, d5, d6⟩ := out_ok o2
        obtain ⟨P, eP, hP⟩ := out_nat (n := H) (k := K') (s := s) (p := p)
        obtain ⟨R, eR, hR⟩ := out_nat (n := V) (k := K') (s := s) (p := p)
        have hC : C' ≤ 8192 := by
          have : C' ≤ n * C' := Nat.le_mul_of_pos_left _ (by omega)
          have : n * C' ≤ n * C' * H := Nat.le_mul_of_pos_right _ (by omega)
          have : n * C' * H ≤ n * C' * H * V := Nat.le_mul_of_pos_right _ (by omega)
          omega
        have hn : n ≤ 8192 := by
          have : n ≤ n * C' := Nat.le_mul_of_pos_right _ (by omega)
          have : n * C' ≤ n * C' * H := Nat.le_mul_of_pos_right _ (by omega)
          have : n * C' * H ≤ n * C' * H * V := Nat.le_mul_of_pos_right _ (by omega)
          omega
        have k1 : C' * K' ≤ 8192 * 5 := Nat.mul_le_mul hC (by omega)
        have k2 : C' * K' * K' ≤ 8192 * 5 * 5 := Nat.mul_le_mul k1 (by omega)
        have k3 : H * V ≤ 16 * 16 := Nat.mul_le_mul (by omega) (by omega)
        unfold convN convDims convData at hq
        simp only [ex, ew, List.getD_cons_zero, List.getD_cons_succ, eP, eR] at hq ⊢
        refine ⟨?_⟩
        unfold conv_Forward_n0_t
        rw [mulw (r := C') (n := K') (by omega), mulw (r := C' * K') (n := K') (by omega), wrap_i64 (x.2.1 + w.2.1) (by omega) (by omega)]
        rw [← Int.natCast_mul, ← Int.natCast_mul] at hq
        refine fresh_v ?_
        by_cases h9 : (sumsF [(n : Int), (O' : Int), (P : Int), (R : Int)] (x.2.1 + w.2.1) ((C' * K' * K' : Nat) : Int)).2 = 0
        · obtain ⟨f1, f2, f3, f4⟩ := sumsF_ok h9
          rw [f4] at hq ⊢
          simp only [bne_self_eq_false, Bool.false_eq_true, if_false] at hq ⊢
          obtain ⟨n', m', p', q', e1, e2, e3, e4, _, _, _, _, s5, s6⟩ := szF4 f3
          have e1 : n' = n := by omega
          have e2 : m' = O' := by omega
          have e3 : p' = P := by omega
          have e4 : q' = R := by omega
          subst e1 e2 e3 e4
          rw [s6]
          have g : FwdIn n' C' m' K' H V p' q' x.2.2 w.2.2 b.2.2 := ⟨by rw [x6]; exact Nat.mul_assoc _ _ _, w6, by rw [← Nat.mul_assoc]; exact x5, by omega, ax, aw, ab, b3, by omega, by omega, by omega, by omega, by omega, s5⟩
          rw [mulw (r := H) (n := V) (by omega)]
          refine fp_v g (by omega) (by omega) (by omega) ?_ ?_
          · rw [Int.toNat_natCast]; simp
          · simp only [Int.toNat_natCast] at hq
            exact hq
        · rw [if_pos (by simpa using h9)]
          rw [if_pos (by simpa using h9)] at hq
          have : (sumsF [(n : Int), (O' : Int), (P : Int), (R : Int)] (x.2.1 + w.2.1) ((C' * K' * K' : Nat) : Int)).1 = Z3 := by
            unfold sumsF at h9 ⊢
            split
            · rfl
            · split
              · rfl
              · split
                · rfl
                · rename_i g1 g2 g3
                  rw [if_neg g1, if_neg g2, if_neg g3] at h9
                  exact absurd rfl h9
          dsimp only
          rw [this]
          exact hq

end Go.Proofs.Yteencpiamangfaa

namespace Go.Proofs.Yteencpiamangfaa
end Go.Proofs.Yteencpiamangfaa

