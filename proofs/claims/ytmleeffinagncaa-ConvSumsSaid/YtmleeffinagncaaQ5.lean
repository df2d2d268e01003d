/- What conv.Forward comes to, as sums over windows. Laws; no condition. -/
import Derived.Test.YtmleeffinagncaaQ4
namespace Go.Proofs.Ytmleeffinagncaa
open Go.Mach Go.RowKit
set_option maxRecDepth 100000
set_option linter.unusedVariables false
set_option linter.unusedSimpArgs false

/-! ### Members of a window -/
/-- The places of a list lie in a plane, those of the weights in a window. -/
def InP (K plane : Nat) (l : List (Int × Int × Int)) : Prop := ∀ z ∈ l, ∃ a r c : Nat, z = ((a : Int), (r : Int), (c : Int)) ∧ a < plane ∧ r < K ∧ c < K
theorem winF_mem {rows cols cr cc : Int} {k m : Nat} {z : Int × Int × Int} (h : z ∈ winF rows cols cr cc k m) : ∃ i j : Nat, i < m ∧ j < k ∧ (0 ≤ cr + i ∧ cr + i ≤ rows - 1) ∧ (0 ≤ cc + j ∧ cc + j ≤ cols - 1) ∧ z = ((cr + i) * cols + (cc + j), (i : Int), (j : Int)) := by
  unfold winF winRow at h
  simp only [List.mem_flatMap, List.mem_range] at h
  obtain ⟨i, hi, j, hj, hz⟩ := h
  unfold winCell at hz
  split at hz
  · rename_i hin
    simp only [Bool.and_eq_true] at hin
    refine ⟨i, j, hi, hj, by simpa [inP] using hin.1, by simpa [inP] using hin.2, by simpa using hz⟩
  · simp at hz
theorem winF_in {rows cols : Nat} {cr cc : Int} {k m K : Nat} (hm : m ≤ K) (hk : k ≤ K) : InP K (rows * cols) (winF rows cols cr cc k m) := by
  intro z hz
  obtain ⟨i, j, hi, hj, h1, h2, rfl⟩ := winF_mem hz
  obtain ⟨y, hy⟩ := Int.eq_ofNat_of_zero_le h1.1
  obtain ⟨x, hx⟩ := Int.eq_ofNat_of_zero_le h2.1
  refine ⟨y * cols + x, i, j, ?_, ix_lt (by omega) (by omega), by omega, by omega⟩
  rw [hy, hx, Int.natCast_add, Int.natCast_mul]
theorem windowF_in {rows cols K : Nat} {r c s p : Int} : InP K (rows * cols) (windowF rows cols r c K s p) := by
  unfold windowF
  split
  · intro z hz; simp at hz
  · rw [Int.toNat_natCast]; exact winF_in (Nat.le_refl _) (Nat.le_refl _)
theorem windowF_len {rows cols r c s p : Int} {K : Nat} : (windowF rows cols r c K s p).length ≤ K * K := by
  unfold windowF
  split
  · simp
  · rw [Int.toNat_natCast]; exact winF_len K

/-! ### Forward -/
/-- One product of a window's sum. -/
def fwdG (xd wd : List Int) (C plane K m o c : Nat) (z : Int × Int × Int) : Int := xd.getD ((m * C + c) * plane + z.1.toNat) 0 * wd.getD (((o * C + c) * K + z.2.1.toNat) * K + z.2.2.toNat) 0
theorem fz_v {C K plane m o c n O : Nat} {xd wd : List Int} {l : List (Int × Int × Int)} {t : Int} {K0 : Int → Prop} (hx : xd.length = n * C * plane) (hw : wd.length = O * C * K * K) (bx : n * C * plane ≤ 8192) (bw : O * C * K * K ≤ 8192) (ax : All8 xd) (aw : All8 wd) (hm : m < n) (ho : o < O) (hc : c < C) (hl : InP K plane l) (hll : l.length ≤ 1000000)
    (h : K0 (IntKind.i64.wrap (t + lsum l (fwdG xd wd C plane K m o c)))) : conv_Forward_n6 C K plane m o c (l.length : Int) xd wd l K0 (IntKind.i64.wrap t, 0) := by
  refine ⟨?_⟩
  have eg : (IntKind.i64.wrap t, (0 : Int)) = (fun i : Nat => (IntKind.i64.wrap (t + sumTo (fun i => fwdG xd wd C plane K m o c (l.getD i (0, 0, 0))) i), (i : Int))) 0 := by simp [sumTo]
  rw [eg]
  refine Loop.range (B := conv_Forward_n6_B C K plane m o c (l.length : Int) xd wd l K0) (f := fun i : Nat => (IntKind.i64.wrap (t + sumTo (fun i => fwdG xd wd C plane K m o c (l.getD i (0, 0, 0))) i), (i : Int))) l.length (fun _ => True) trivial ?_ ?_
  · intro i hi _ X hX
    have hX := hX trivial
    unfold conv_Forward_n6_B
    rw [if_pos (decide_eq_true (show (i : Int) < (l.length : Int) by omega))]
    dsimp only at hX ⊢
    refine ⟨by omega, ?_⟩
    rw [Int.toNat_natCast]
    obtain ⟨a, r, q, ez, ha, hr, hq⟩ := hl (l.getD i (0, 0, 0)) (by rw [List.getD_eq_getElem?_getD, List.getElem?_eq_getElem hi]; exact List.getElem_mem hi)
    have g1 : (m * C + c) * plane + a < n * C * plane := ix_lt (ix_lt hm hc) ha
    have g2 : ((o * C + c) * K + r) * K + q < O * C * K * K := ix_lt (ix_lt (ix_lt ho hc) hr) hq
    have g3 : m * C + c < n * C := ix_lt hm hc
    have g4 : n * C ≤ n * C * plane := Nat.le_mul_of_pos_right _ (by omega)
    have g5 : (o * C + c) * K + r < O * C * K := ix_lt (ix_lt ho hc) hr
    have g6 : O * C * K ≤ O * C * K * K := Nat.le_mul_of_pos_right _ (by omega)
    have g7 : o * C + c < O * C := ix_lt ho hc
    have g8 : O * C ≤ O * C * K := Nat.le_mul_of_pos_right _ (by omega)
    have ef : fwdG xd wd C plane K m o c (l.getD i (0, 0, 0)) = xd.getD ((m * C + c) * plane + a) 0 * wd.getD (((o * C + c) * K + r) * K + q) 0 := by
      unfold fwdG; rw [ez]; simp only [Int.toNat_natCast]
    simp only [sumTo, ef] at hX
    rw [ez]
    dsimp only
    rw [ix (r := m) (n := C) (i := c) (by omega), ix (r := m * C + c) (n := plane) (i := a) (by omega), ix (r := o) (n := C) (i := c) (by omega), ix (r := o * C + c) (n := K) (i := r) (by omega), ix (r := (o * C + c) * K + r) (n := K) (i := q) (by omega)]
    refine ⟨by omega, by omega, ?_⟩
    simp only [Int.toNat_natCast]
    have b1 := ax.at_ ((m * C + c) * plane + a)
    have b2 := aw.at_ (((o * C + c) * K + r) * K + q)
    have b3 := mul8 b1 b2
    rw [wrap_i64 (xd.getD ((m * C + c) * plane + a) 0) (by omega) (by omega), wrap_i64 (wd.getD (((o * C + c) * K + r) * K + q) 0) (by omega) (by omega), wrap_i64 (_ * _) (by omega) (by omega), wrap_i64 ((i : Int) + 1) (by omega) (by omega), w64_add_l, Int.add_assoc]
    exact hX
  · intro _ X
    unfold conv_Forward_n6_B
    rw [if_neg (by simp)]
    rw [lsum_getD l _ (0, 0, 0)] at h
    exact h
theorem fc_v {C K plane m o n O : Nat} {xd wd : List Int} {l : List (Int × Int × Int)} {t : Int} {K0 : Int → Prop} (hx : xd.length = n * C * plane) (hw : wd.length = O * C * K * K) (bx : n * C * plane ≤ 8192) (bw : O * C * K * K ≤ 8192) (ax : All8 xd) (aw : All8 wd) (hm : m < n) (ho : o < O) (hl : InP K plane l) (hll : l.length ≤ 1000000) (hC : C ≤ 10000)
    (h : K0 (IntKind.i64.wrap (t + sumTo (fun c => lsum l (fwdG xd wd C plane K m o c)) C))) : conv_Forward_n5 C K plane m o C xd wd l K0 (IntKind.i64.wrap t, 0) := by
  refine ⟨?_⟩
  have eg : (IntKind.i64.wrap t, (0 : Int)) = (fun i : Nat => (IntKind.i64.wrap (t + sumTo (fun c => lsum l (fwdG xd wd C plane K m o c)) i), (i : Int))) 0 := by simp [sumTo]
  rw [eg]
  refine Loop.range (B := conv_Forward_n5_B C K plane m o C xd wd l K0) (f := fun i : Nat => (IntKind.i64.wrap (t + sumTo (fun c => lsum l (fwdG xd wd C plane K m o c)) i), (i : Int))) C (fun _ => True) trivial ?_ ?_
  · intro c hc _ X hX
    have hX := hX trivial
    unfold conv_Forward_n5_B
    rw [if_pos (decide_eq_true (show (c : Int) < (C : Int) by omega))]
    dsimp only at hX ⊢
    refine fz_v hx hw bx bw ax aw hm ho hc hl hll ?_
    rw [wrap_i64 ((c : Int) + 1) (by omega) (by omega), Int.add_assoc]
    exact hX
  · intro _ X
    unfold conv_Forward_n5_B
    rw [if_neg (by simp)]
    exact h

section
variable {n C O K H V P Q : Nat} {s p : Int} {xd wd bd : List Int} {be e : Int}
/-- One sum of Forward. -/
def fwdCell (H V C K : Nat) (s p : Int) (xd wd bd : List Int) (be e : Int) (m o y x : Nat) : Int := IntKind.i32.wrap (alF (bd.getD o 0) be e + sumTo (fun c => lsum (windowF H V y x K s p) (fwdG xd wd C (H * V) K m o c)) C)
/-- What Forward is given, where it may be. -/
structure FwdIn (n C O K H V P Q : Nat) (xd wd bd : List Int) : Prop where
  hx : xd.length = n * C * (H * V)
  hw : wd.length = O * C * K * K
  bx : n * C * (H * V) ≤ 8192
  bw : O * C * K * K ≤ 8192
  ax : All8 xd
  aw : All8 wd
  ab : All8 bd
  hb : bd.length = O
  hK : K ≤ 5
  hC : 1 ≤ C
  hn : 1 ≤ n
  hO : 1 ≤ O
  h0 : 1 ≤ K
  bo : n * O * P * Q ≤ 8192
theorem FwdIn.le {n C O K H V P Q : Nat} {xd wd bd : List Int} (g : FwdIn n C O K H V P Q xd wd bd) : C ≤ 8192 ∧ O ≤ 8192 := by
  have h1 := g.bw
  have h2 := g.h0
  have h3 := g.hO
  have h4 := g.hC
  have h5 : O * C ≤ O * C * K := Nat.le_mul_of_pos_right _ h2
  have h6 : O * C * K ≤ O * C * K * K := Nat.le_mul_of_pos_right _ h2
  have h7 : C ≤ O * C := Nat.le_mul_of_pos_left _ h3
  have h8 : O ≤ O * C := Nat.le_mul_of_pos_right _ h4
  omega
theorem fo_v (g : FwdIn n C O K H V P Q xd wd bd) {C0 : Nat → Nat → Nat → Nat → Prop} {L : List Int} {m y x : Nat} {K0 : List Int → Prop} (hm : m < n) (hy : y < P) (hx : x < Q) (hL : Fill n O P Q (fwdCell H V C K s p xd wd bd be e) C0 L)
    (h : ∀ L', Fill n O P Q (fwdCell H V C K s p xd wd bd be e) (fun m' o' y' x' => C0 m' o' y' x' ∨ (m' = m ∧ y' = y ∧ x' = x)) L' → K0 L') :
    conv_Forward_n4 C O K ((H * V : Nat) : Int) y x m O xd wd be bd P Q e (windowF H V y x K s p) K0 (0, L) := by
  refine ⟨?_⟩
  have hle := g.le
  have hbo := g.bo
  refine Loop.rangeI (B := conv_Forward_n4_B C O K ((H * V : Nat) : Int) y x m O xd wd be bd P Q e (windowF H V y x K s p) K0) O (fun i st => st.1 = (i : Int) ∧ Fill n O P Q (fwdCell H V C K s p xd wd bd be e) (fun m' o' y' x' => C0 m' o' y' x' ∨ (m' = m ∧ y' = y ∧ x' = x ∧ o' < i)) st.2) ⟨rfl, hL.mono fun m' o' y' x' _ _ _ _ hc => hc.elim id fun h => absurd h.2.2.2 (by omega)⟩ ?_ ?_
  · rintro o ho ⟨o', M⟩ ⟨e1, hM⟩ X hX
    simp only at e1 hM
    subst e1
    unfold conv_Forward_n4_B
    rw [if_pos (decide_eq_true (show (o : Int) < (O : Int) by omega))]
    dsimp only
    refine ⟨by rw [g.hb]; omega, ?_⟩
    rw [Int.toNat_natCast]
    have bb := g.ab.at_ o
    rw [wrap_i64 (bd.getD o 0) (by omega) (by omega)]
    refine al_v ?_
    have ba := alF_rng (b := be) (c := e) bb
    have hK := g.hK
    have hKK : K * K ≤ 5 * 5 := Nat.mul_le_mul hK hK
    have hwl := windowF_len (rows := H) (cols := V) (r := y) (c := x) (s := s) (p := p) (K := K)
    have e0 : (alF (bd.getD o 0) be e, (0 : Int)) = (IntKind.i64.wrap (alF (bd.getD o 0) be e), (0 : Int)) := by rw [wrap_i64 _ (by omega) (by omega)]
    rw [e0]
    refine fc_v g.hx g.hw g.bx g.bw g.ax g.aw hm ho windowF_in (by omega) (by omega) ?_
    have g1 := ix4_lt (P := P) (Q := Q) hm ho hy hx
    unfold ix4 at g1
    have g2 : m * O + o ≤ (m * O + o) * P := Nat.le_mul_of_pos_right _ (by omega)
    have g3 : (m * O + o) * P + y ≤ ((m * O + o) * P + y) * Q := Nat.le_mul_of_pos_right _ (by omega)
    rw [ix (r := m) (n := O) (i := o) (by omega), ix (r := m * O + o) (n := P) (i := y) (by omega), ix (r := (m * O + o) * P + y) (n := Q) (i := x) (by omega)]
    refine ⟨by rw [hM.len]; omega, ?_⟩
    rw [Int.toNat_natCast, wrap_i64 ((o : Int) + 1) (by omega) (by omega), w32_w64]
    refine hX _ ⟨by simp, ?_⟩
    refine hM.set hm ho hy hx rfl fun m' o' y' x' _ _ _ _ hc => ?_
    rcases hc with hc | ⟨c1, c2, c3, c4⟩
    · exact .inl (.inl hc)
    · rcases Nat.lt_or_ge o' o with c5 | c5
      · exact .inl (.inr ⟨c1, c2, c3, c5⟩)
      · exact .inr ⟨c1, by omega, c2, c3⟩
  · rintro ⟨o', M⟩ ⟨e1, hM⟩ X
    simp only at e1 hM
    subst e1
    unfold conv_Forward_n4_B
    rw [if_neg (by simp)]
    exact h _ (hM.mono fun m' o' y' x' _ h2 _ _ hc => hc.elim .inl fun ⟨a, b, c⟩ => .inr ⟨a, b, c, h2⟩)
theorem fm_v (g : FwdIn n C O K H V P Q xd wd bd) {C0 : Nat → Nat → Nat → Nat → Prop} {L : List Int} {y x : Nat} {K0 : List Int → Prop} (hn : n ≤ 8192) (hy : y < P) (hx : x < Q) (hL : Fill n O P Q (fwdCell H V C K s p xd wd bd be e) C0 L)
    (h : ∀ L', Fill n O P Q (fwdCell H V C K s p xd wd bd be e) (fun m' o' y' x' => C0 m' o' y' x' ∨ (y' = y ∧ x' = x)) L' → K0 L') :
    conv_Forward_n3 C O K ((H * V : Nat) : Int) y x n xd wd be bd P Q e (windowF H V y x K s p) K0 (0, L) := by
  refine ⟨?_⟩
  refine Loop.rangeI (B := conv_Forward_n3_B C O K ((H * V : Nat) : Int) y x n xd wd be bd P Q e (windowF H V y x K s p) K0) n (fun i st => st.1 = (i : Int) ∧ Fill n O P Q (fwdCell H V C K s p xd wd bd be e) (fun m' o' y' x' => C0 m' o' y' x' ∨ (y' = y ∧ x' = x ∧ m' < i)) st.2) ⟨rfl, hL.mono fun m' o' y' x' _ _ _ _ hc => hc.elim id fun h => absurd h.2.2 (by omega)⟩ ?_ ?_
  · rintro m hm ⟨m', M⟩ ⟨e1, hM⟩ X hX
    simp only at e1 hM
    subst e1
    unfold conv_Forward_n3_B
    rw [if_pos (decide_eq_true (show (m : Int) < (n : Int) by omega))]
    refine fo_v g hm hy hx hM fun L' hL' => ?_
    dsimp only
    rw [wrap_i64 ((m : Int) + 1) (by omega) (by omega)]
    refine hX _ ⟨by simp, hL'.mono fun m' o' y' x' _ _ _ _ hc => ?_⟩
    rcases hc with hc | ⟨c1, c2, c3⟩
    · exact .inl (.inl hc)
    · rcases Nat.lt_or_ge m' m with c5 | c5
      · exact .inl (.inr ⟨c1, c2, c5⟩)
      · exact .inr ⟨by omega, c1, c2⟩
  · rintro ⟨m', M⟩ ⟨e1, hM⟩ X
    simp only at e1 hM
    subst e1
    unfold conv_Forward_n3_B
    rw [if_neg (by simp)]
    exact h _ (hM.mono fun m' o' y' x' h2 _ _ _ hc => hc.elim .inl fun ⟨a, b⟩ => .inr ⟨a, b, h2⟩)
theorem fq_v (g : FwdIn n C O K H V P Q xd wd bd) {C0 : Nat → Nat → Nat → Nat → Prop} {L : List Int} {y : Nat} {K0 : List Int → Prop} (hn : n ≤ 8192) (hQ : Q ≤ 8192) (hy : y < P) (hL : Fill n O P Q (fwdCell H V C K s p xd wd bd be e) C0 L)
    (h : ∀ L', Fill n O P Q (fwdCell H V C K s p xd wd bd be e) (fun m' o' y' x' => C0 m' o' y' x' ∨ y' = y) L' → K0 L') :
    conv_Forward_n2 n C O K ((H * V : Nat) : Int) y Q xd wd be bd H V K s p P Q e K0 (0, L) := by
  refine ⟨?_⟩
  refine Loop.rangeI (B := conv_Forward_n2_B n C O K ((H * V : Nat) : Int) y Q xd wd be bd H V K s p P Q e K0) Q (fun i st => st.1 = (i : Int) ∧ Fill n O P Q (fwdCell H V C K s p xd wd bd be e) (fun m' o' y' x' => C0 m' o' y' x' ∨ (y' = y ∧ x' < i)) st.2) ⟨rfl, hL.mono fun m' o' y' x' _ _ _ _ hc => hc.elim id fun h => absurd h.2 (by omega)⟩ ?_ ?_
  · rintro x hx ⟨x', M⟩ ⟨e1, hM⟩ X hX
    simp only at e1 hM
    subst e1
    unfold conv_Forward_n2_B
    rw [if_pos (decide_eq_true (show (x : Int) < (Q : Int) by omega))]
    refine ⟨?_⟩
    unfold conv_windows_at_t
    refine Window_v ?_
    refine fm_v g hn hy hx hM fun L' hL' => ?_
    dsimp only
    rw [wrap_i64 ((x : Int) + 1) (by omega) (by omega)]
    refine hX _ ⟨by simp, hL'.mono fun m' o' y' x' _ _ _ _ hc => ?_⟩
    rcases hc with hc | ⟨c1, c2⟩
    · exact .inl (.inl hc)
    · rcases Nat.lt_or_ge x' x with c5 | c5
      · exact .inl (.inr ⟨c1, c5⟩)
      · exact .inr ⟨c1, by omega⟩
  · rintro ⟨x', M⟩ ⟨e1, hM⟩ X
    simp only at e1 hM
    subst e1
    unfold conv_Forward_n2_B
    rw [if_neg (by simp)]
    exact h _ (hM.mono fun m' o' y' x' _ _ _ h2 hc => hc.elim .inl fun a => .inr ⟨a, h2⟩)
theorem fp_v (g : FwdIn n C O K H V P Q xd wd bd) {L : List Int} {K0 : List Int → Prop} (hn : n ≤ 8192) (hQ : Q ≤ 8192) (hP : P ≤ 8192) (hL : L.length = n * O * P * Q)
    (h : K0 (lst4 n O P Q (fwdCell H V C K s p xd wd bd be e))) :
    conv_Forward_n1 n C O K ((H * V : Nat) : Int) P xd wd be bd H V K s p P Q e K0 (0, L) := by
  refine ⟨?_⟩
  refine Loop.rangeI (B := conv_Forward_n1_B n C O K ((H * V : Nat) : Int) P xd wd be bd H V K s p P Q e K0) P (fun i st => st.1 = (i : Int) ∧ Fill n O P Q (fwdCell H V C K s p xd wd bd be e) (fun m' o' y' x' => y' < i) st.2) ⟨rfl, hL, fun m' o' y' x' _ _ _ _ hc => absurd hc (by omega)⟩ ?_ ?_
  · rintro y hy ⟨y', M⟩ ⟨e1, hM⟩ X hX
    simp only at e1 hM
    subst e1
    unfold conv_Forward_n1_B
    rw [if_pos (decide_eq_true (show (y : Int) < (P : Int) by omega))]
    refine fq_v g hn hQ hy hM fun L' hL' => ?_
    dsimp only
    rw [wrap_i64 ((y : Int) + 1) (by omega) (by omega)]
    refine hX _ ⟨by simp, hL'.mono fun m' o' y' x' _ _ _ _ hc => ?_⟩
    rcases Nat.lt_or_ge y' y with c5 | c5
    · exact .inl c5
    · exact .inr (by omega)
  · rintro ⟨y', M⟩ ⟨e1, hM⟩ X
    simp only at e1 hM
    subst e1
    unfold conv_Forward_n1_B
    rw [if_neg (by simp)]
    rw [hM.all fun _ _ y' _ _ _ hy _ => hy]
    exact h
end

end Go.Proofs.Ytmleeffinagncaa
