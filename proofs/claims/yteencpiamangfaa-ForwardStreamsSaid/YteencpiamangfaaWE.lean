/- What dense.Forward answers. Laws; no condition. -/
import Derived.Test.YteencpiamangfaaF1
import Derived.Test.YteencpiamangfaaWC
namespace Go.Proofs.Yteencpiamangfaa
open Go.Mach Go.RowKit
set_option maxRecDepth 100000
set_option linter.unusedVariables false
set_option linter.unusedSimpArgs false

theorem szF2 (r c : Int) (h : 0 < szF [r, c]) : 1 ≤ r ∧ r ≤ 4096 ∧ 1 ≤ c ∧ c ≤ 4096 ∧ r * c ≤ 8192 ∧ szF [r, c] = r * c := by
  have e : szF [r, c] = if ((decide (r < 1) || decide (4096 < r)) || decide (8192 < IntKind.i64.wrap (1 * r))) = true then 0 else if ((decide (c < 1) || decide (4096 < c)) || decide (8192 < IntKind.i64.wrap (IntKind.i64.wrap (1 * r) * c))) = true then 0 else IntKind.i64.wrap (IntKind.i64.wrap (1 * r) * c) := rfl
  rw [e] at h ⊢
  by_cases h1 : ((decide (r < 1) || decide (4096 < r)) || decide (8192 < IntKind.i64.wrap (1 * r))) = true
  · rw [if_pos h1] at h; omega
  · rw [if_neg h1] at h ⊢
    simp only [Bool.or_eq_true, decide_eq_true_eq, not_or] at h1
    rw [Int.one_mul, wrap_i64 r (by omega) (by omega)] at h h1 ⊢
    by_cases h2 : ((decide (c < 1) || decide (4096 < c)) || decide (8192 < IntKind.i64.wrap (r * c))) = true
    · rw [if_pos h2] at h; omega
    · rw [if_neg h2] at h ⊢
      simp only [Bool.or_eq_true, decide_eq_true_eq, not_or] at h2
      have := mul_bd r c 4096 4096 (by omega) (by omega) (by omega) (by omega) (by omega)
      rw [wrap_i64 (r * c) (by omega) (by omega)] at h2 h ⊢
      omega
theorem szF2_of {r c : Int} (h1 : 1 ≤ r) (h2 : r ≤ 4096) (h3 : 1 ≤ c) (h4 : c ≤ 4096) (h5 : r * c ≤ 8192) : szF [r, c] = r * c := by
  have e : szF [r, c] = if ((decide (r < 1) || decide (4096 < r)) || decide (8192 < IntKind.i64.wrap (1 * r))) = true then 0 else if ((decide (c < 1) || decide (4096 < c)) || decide (8192 < IntKind.i64.wrap (IntKind.i64.wrap (1 * r) * c))) = true then 0 else IntKind.i64.wrap (IntKind.i64.wrap (1 * r) * c) := rfl
  have hb := mul_bd r c 4096 4096 (by omega) (by omega) (by omega) (by omega) (by omega)
  rw [e, Int.one_mul, wrap_i64 r (by omega) (by omega), wrap_i64 (r * c) (by omega) (by omega), if_neg (by simp; omega), if_neg (by simp; omega)]
/-! ### Row by row -/
def rowsF (R C : Nat) (f : Nat → Nat → Int) : List Int := (List.range R).flatMap fun r => (List.range C).map (f r)
theorem rowsF_succ (R C : Nat) (f : Nat → Nat → Int) : rowsF (R + 1) C f = rowsF R C f ++ (List.range C).map (f R) := by
  unfold rowsF
  rw [List.range_succ, List.flatMap_append]
  simp
theorem rowsF_len (R C : Nat) (f : Nat → Nat → Int) : (rowsF R C f).length = R * C := by
  induction R with
  | zero => simp [rowsF]
  | succ R ih => rw [rowsF_succ, List.length_append, ih]; simp [Nat.add_mul]
theorem rowsF_get {R C : Nat} {f : Nat → Nat → Int} {r c : Nat} (hr : r < R) (hc : c < C) : (rowsF R C f).getD (r * C + c) 0 = f r c := by
  induction R with
  | zero => omega
  | succ R ih =>
    rw [rowsF_succ, List.getD_eq_getElem?_getD]
    have hl := rowsF_len R C f
    by_cases h : r < R
    · have := ix_lt (R := R) h hc
      rw [List.getElem?_append_left (by omega), ← List.getD_eq_getElem?_getD]
      exact ih h
    · have : r = R := by omega
      subst this
      rw [List.getElem?_append_right (by omega), hl, show r * C + c - r * C = c by omega, List.getElem?_map, List.getElem?_range hc]
      rfl
theorem rowsF_congr {R C : Nat} {f g : Nat → Nat → Int} (h : ∀ r, r < R → ∀ c, c < C → f r c = g r c) : rowsF R C f = rowsF R C g := by
  induction R with
  | zero => rfl
  | succ R ih =>
    rw [rowsF_succ, rowsF_succ, ih fun r hr => h r (by omega)]
    congr 1
    exact List.map_congr_left fun c hc => h R (by omega) c (List.mem_range.1 hc)
theorem divmod {p C : Nat} (hC : 0 < C) : p = p / C * C + p % C ∧ p % C < C := ⟨by rw [Nat.mul_comm]; exact (Nat.div_add_mod p C).symm, Nat.mod_lt _ hC⟩
theorem rowsF_ext {R C : Nat} {f : Nat → Nat → Int} {l : List Int} (hl : l.length = R * C) (h : ∀ r, r < R → ∀ c, c < C → l.getD (r * C + c) 0 = f r c) : l = rowsF R C f := by
  refine List.ext_getElem (by rw [hl, rowsF_len]) fun p h1 h2 => ?_
  have hC : 0 < C := by
    rcases Nat.eq_zero_or_pos C with e | e
    · rw [hl, e] at h1; omega
    · exact e
  obtain ⟨e, hm⟩ := divmod (p := p) hC
  have hr : p / C < R := by
    rw [Nat.div_lt_iff_lt_mul hC, ← hl]; exact h1
  have k1 := h _ hr _ hm
  have k2 := rowsF_get (f := f) hr hm
  rw [← e, List.getD_eq_getElem?_getD, List.getElem?_eq_getElem h1] at k1
  rw [← e, List.getD_eq_getElem?_getD, List.getElem?_eq_getElem h2] at k2
  simp only [Option.getD_some] at k1 k2
  rw [k1, k2]

def dmayF (n : Int) (l : List T3) : Int := if l.all mayF = true then (if l.all (fun t => (t.1.length : Int) == n) = true then 0 else 2) else 1
theorem dmay_v {n : Int} {l : List T3} {Q : Int → Prop} (hl : l.length ≤ 1000000) (h : Q (dmayF n l)) : dense_may n l Q := by
  refine ⟨?_⟩
  unfold dense_may_t
  refine ⟨?_⟩
  refine Loop.range (B := dense_may_n0_B l (l.length : Int) _ _) l.length (fun i => (i : Int)) (fun i => (l.take i).all mayF = true) rfl ?_ ?_
  · intro i hi hI X hX
    unfold dense_may_n0_B
    rw [if_pos (by simpa using hi)]
    refine ⟨by omega, mayT_v ?_⟩
    simp only [Int.toNat_natCast]
    cases hm : mayF (l.getD i ([], 0, [])) with
    | true =>
      rw [if_neg (by simp [hm])]
      rw [wrap_i64 _ (by omega) (by omega)]
      exact hX (by rw [all_take (d := ([], 0, [])) hi, hI, hm]; rfl)
    | false =>
      rw [if_pos (by simp [hm])]
      unfold dmayF at h
      rw [if_neg (by rw [all_at hi hm]; simp)] at h
      exact h
  · intro hI X
    unfold dense_may_n0_B
    rw [if_neg (by simp)]
    rw [List.take_length] at hI
    unfold dmayF at h
    rw [if_pos hI] at h
    refine ⟨?_⟩
    refine Loop.range (B := dense_may_n1_B n l (l.length : Int) _ _) l.length (fun i => (i : Int)) (fun i => (l.take i).all (fun t => (t.1.length : Int) == n) = true) rfl ?_ ?_
    · intro i hi hJ X hX
      unfold dense_may_n1_B
      rw [if_pos (by simpa using hi)]
      refine ⟨by omega, ?_⟩
      simp only [Int.toNat_natCast]
      cases hm : (((l.getD i ([], 0, [])).1.length : Int) == n) with
      | true =>
        rw [if_neg (by unfold bne; rw [hm]; simp)]
        rw [wrap_i64 _ (by omega) (by omega)]
        exact hX (by rw [all_take (d := ([], 0, [])) hi, hJ, hm]; rfl)
      | false =>
        rw [if_pos (by unfold bne; rw [hm]; rfl)]
        rw [if_neg (by rw [all_at (d := ([], 0, [])) hi hm]; simp)] at h
        exact h
    · intro hJ X
      unfold dense_may_n1_B
      rw [if_neg (by simp)]
      rw [List.take_length] at hJ
      rw [if_pos hJ] at h
      exact h

/-- A sum, from a number on. -/
def sumFr (s : Int) (g : Nat → Int) : Nat → Int
  | 0 => s
  | n + 1 => sumFr s g n + g n
theorem sumFr_eq (s : Int) (g : Nat → Int) (n : Nat) : sumFr s g n = s + sumTo g n := by
  induction n with
  | zero => simp [sumFr, sumTo]
  | succ n ih => simp only [sumFr, sumTo]; rw [ih, Int.add_assoc]
theorem sumFr_bd {s : Int} {g : Nat → Int} {n : Nat} (hs : -1048576 ≤ s ∧ s ≤ 1048576) (hn : n ≤ 1000000) (h : ∀ i, -16384 ≤ g i ∧ g i ≤ 16384) : -17432576000 ≤ sumFr s g n ∧ sumFr s g n ≤ 17432576000 := by
  have := sumTo_bd g 16384 n fun i _ => h i
  rw [sumFr_eq]
  omega
theorem sumFr_bd2 {s : Int} {g : Nat → Int} {n : Nat} (hs : -1048576 ≤ s ∧ s ≤ 1048576) (hn : n ≤ 959) (h : ∀ i, -16384 ≤ g i ∧ g i ≤ 16384) : -16760832 ≤ sumFr s g n ∧ sumFr s g n ≤ 16760832 := by
  have := sumTo_bd g 16384 n fun i _ => h i
  rw [sumFr_eq]
  omega
theorem mac {s a b : Int} (hs : -17432576000 ≤ s ∧ s ≤ 17432576000) (ha : -128 ≤ a ∧ a ≤ 127) (hb : -128 ≤ b ∧ b ≤ 127) : IntKind.i64.wrap (s + IntKind.i64.wrap (IntKind.i64.wrap a * IntKind.i64.wrap b)) = s + a * b := by
  have := mul8 ha hb
  rw [wrap_i64 a (by omega) (by omega), wrap_i64 b (by omega) (by omega), wrap_i64 (a * b) (by omega) (by omega), wrap_i64 _ (by omega) (by omega)]
theorem mac1 {s a : Int} (hs : -17432576000 ≤ s ∧ s ≤ 17432576000) (ha : -128 ≤ a ∧ a ≤ 127) : IntKind.i64.wrap (s + IntKind.i64.wrap a) = s + a := by
  rw [wrap_i64 a (by omega) (by omega), wrap_i64 _ (by omega) (by omega)]


def fwC (n : Nat) (e be : Int) (b x w : List Int) (r o : Nat) : Int := sumFr (alF (b.getD o 0) be e) (fun i => x.getD (r * n + i) 0 * w.getD (o * n + i) 0) n
theorem fw1_v {r o n : Nat} {bd b xd x wd w : List Int} {be e xe we : Int} (ho : o < b.length) (hx : r * n + n ≤ x.length) (hw : o * n + n ≤ w.length) (lx : x.length ≤ 8192) (lw : w.length ≤ 8192) (hn : n ≤ 959) (bx : All8 x) (bw : All8 w) (bb : All8 b) {Q : Int → Prop} (h : Q (fwC n e be b x w r o)) : dense_Forward_1 (r : Int) (o : Int) bd be b e (n : Int) xd xe x wd we w Q := by
  refine ⟨?_⟩
  unfold dense_Forward_1_t
  refine ⟨by omega, ?_⟩
  have hb := bb.at_ o
  simp only [Int.toNat_natCast]
  rw [wrap_i64 (b.getD o 0) (by omega) (by omega)]
  refine al_v ⟨?_⟩
  refine Loop.range (B := dense_Forward_1_n0_B (r : Int) (o : Int) (n : Int) x w (n : Int) _) (f := fun i => (sumFr (alF (b.getD o 0) be e) (fun i => x.getD (r * n + i) 0 * w.getD (o * n + i) 0) i, (i : Int))) n (fun _ => True) trivial ?_ ?_
  · intro i hi _ X hX
    unfold dense_Forward_1_n0_B
    rw [if_pos (by simpa using hi)]
    dsimp only
    have hs := sumFr_bd (s := alF (b.getD o 0) be e) (g := fun i => x.getD (r * n + i) 0 * w.getD (o * n + i) 0) (n := i) (alF_rng (bb.at_ o)) (by omega) (fun i => mul8 (bx.at_ _) (bw.at_ _))
    rw [ix (r := r) (n := n) (i := i) (by omega)]
    rw [ix (r := o) (n := n) (i := i) (by omega)]
    refine ⟨⟨by omega, by omega⟩, ⟨by omega, by omega⟩, ?_⟩
    simp only [Int.toNat_natCast]
    rw [mac hs (bx.at_ _) (bw.at_ _), wrap_i64 ((i : Int) + 1) (by omega) (by omega)]
    exact hX trivial
  · intro _ X
    unfold dense_Forward_1_n0_B
    rw [if_neg (by simp)]
    exact h
theorem fwC_bd {n : Nat} {e be : Int} {b x w : List Int} {r o : Nat} (hn : n ≤ 959) (bx : All8 x) (bw : All8 w) (bb : All8 b) : -16760832 ≤ fwC n e be b x w r o ∧ fwC n e be b x w r o ≤ 16760832 := sumFr_bd2 (alF_rng (bb.at_ o)) hn (fun i => mul8 (bx.at_ _) (bw.at_ _))
def madeF (R C n e : Int) (f : Nat → Nat → Int) : T3 × Int :=
  if ((!fitsF n || decide (128 < e)) || decide (e < -128)) = true then (Z3, 3)
  else if (!decide (0 < szF [R, C])) = true then (Z3, 1)
  else (([R, C], (e, rowsF R.toNat C.toNat f)), 0)

theorem mdForward_v {b bd x xd w wd : List Int} {be e2 n2 xe we : Int} {R C n e : Int} {f : Nat → Nat → Int} {Q : T3 × Int → Prop}
    (hc : fitsF n = true → 0 < szF [R, C] → ∀ r q : Nat, r < R.toNat → q < C.toNat → -2147483648 ≤ f r q ∧ f r q ≤ 2147483647 ∧ ∀ K : Int → Prop, K (f r q) → dense_Forward_1 (r : Int) (q : Int) bd be b e2 n2 xd xe x wd we w K)
    (h : Q (madeF R C n e f)) : dense_made__dense_Forward_1 R C n e bd be b e2 n2 xd xe x wd we w Q := by
  refine ⟨?_⟩
  unfold dense_made__dense_Forward_1_t
  refine fits_v ?_
  unfold madeF at h
  by_cases h1 : ((!fitsF n || decide (128 < e)) || decide (e < -128)) = true
  · rw [if_pos h1] at h ⊢; exact h
  · rw [if_neg h1] at h ⊢
    refine may_v ?_
    by_cases h2 : (!decide (0 < szF [R, C])) = true
    · rw [if_pos h2] at h ⊢; exact h
    · rw [if_neg h2] at h ⊢
      have hfit : fitsF n = true := by
        simp only [Bool.or_eq_true, not_or] at h1
        have := h1.1.1
        cases hq : fitsF n with
        | true => rfl
        | false => rw [hq] at this; exact absurd rfl this
      have hsz : 0 < szF [R, C] := by simpa using h2
      have hc := hc hfit hsz
      obtain ⟨k1, k2, k3, k4, k5, _⟩ := szF2 R C hsz
      obtain ⟨R, rfl⟩ := Int.eq_ofNat_of_zero_le (show 0 ≤ R by omega)
      obtain ⟨C, rfl⟩ := Int.eq_ofNat_of_zero_le (show 0 ≤ C by omega)
      have hRC : R * C ≤ 8192 := by rw [← Int.natCast_mul] at k5; omega
      simp only [Int.toNat_natCast] at hc h
      refine ⟨?_⟩
      refine Loop.range (B := dense_made__dense_Forward_1_n0_B (C : Int) bd be b e2 n2 xd xe x wd we w (R : Int) _) (f := fun r => ((r : Int), rowsF r C f)) R (fun _ => True) trivial ?_ ?_
      · intro r hr _ X hX
        unfold dense_made__dense_Forward_1_n0_B
        rw [if_pos (by simpa using hr)]
        refine ⟨?_⟩
        dsimp only
        have hl := rowsF_len r C f
        have hrc : (r + 1) * C ≤ R * C := Nat.mul_le_mul_right C hr
        rw [Nat.add_mul, Nat.one_mul] at hrc
        rw [show (0, rowsF r C f) = ((fun q : Nat => ((q : Int), rowsF r C f ++ (List.range q).map (f r))) 0) by simp]
        refine Loop.range (f := fun q => ((q : Int), rowsF r C f ++ (List.range q).map (f r))) C (fun _ => True) trivial ?_ ?_
        · intro q hcc _ Y hY
          unfold dense_made__dense_Forward_1_n1_B
          rw [if_pos (by simpa using hcc)]
          obtain ⟨m1, m2, m3⟩ := hc r q hr hcc
          refine m3 _ ?_
          refine ⟨?_, ?_⟩
          · simp only [List.length_append, List.length_map, List.length_range, List.length_singleton, hl]
            omega
          · have := hY trivial
            simp only [List.range_succ, List.map_append, List.map_cons, List.map_nil, ← List.append_assoc] at this
            rw [wrap_i32 _ m1 m2, wrap_i64 ((q : Int) + 1) (by omega) (by omega)]
            exact this
        · intro _ Y
          unfold dense_made__dense_Forward_1_n1_B
          rw [if_neg (by simp)]
          have := hX trivial
          simp only [rowsF_succ] at this
          dsimp only
          rw [wrap_i64 ((r : Int) + 1) (by omega) (by omega)]
          exact this
      · intro _ X
        unfold dense_made__dense_Forward_1_n0_B
        rw [if_neg (by simp)]
        exact h

theorem mayF_inv {a : T3} (h : mayF a = true) : (0 < szF a.1 ∧ (a.2.2.length : Int) = szF a.1) ∧ -64 ≤ a.2.1 ∧ a.2.1 ≤ 64 ∧ -128 ∉ a.2.2 := by
  obtain ⟨h1, h2, h3, h4⟩ := mayF_iff.1 h
  exact ⟨⟨h1, h2⟩, h3.1, h3.2, h4⟩
theorem fitsF_le {n : Int} (h : fitsF n = true) : 0 ≤ n ∧ n ≤ 959 := fitsF_iff.1 h
/-- A tensor of two lengths. -/
theorem ten2 {t : T3} (h : mayF t = true) (h2 : t.1.length = 2) : ∃ R C : Nat, t.1 = [(R : Int), (C : Int)] ∧ 1 ≤ R ∧ R ≤ 4096 ∧ 1 ≤ C ∧ C ≤ 4096 ∧ R * C ≤ 8192 ∧ t.2.2.length = R * C ∧ -64 ≤ t.2.1 ∧ t.2.1 ≤ 64 := by
  obtain ⟨m1, m2, m3, _⟩ := mayF_inv h
  obtain ⟨l1, l2⟩ := m1
  obtain ⟨d, e, v⟩ := t
  match d, h2 with
  | [r, c], _ =>
    obtain ⟨k1, k2, k3, k4, k5, k6⟩ := szF2 r c l1
    obtain ⟨R, rfl⟩ := Int.eq_ofNat_of_zero_le (show 0 ≤ r by omega)
    obtain ⟨C, rfl⟩ := Int.eq_ofNat_of_zero_le (show 0 ≤ c by omega)
    simp only at l2
    have l2' : (v.length : Int) = ((R * C : Nat) : Int) := by rw [l2, k6, Int.natCast_mul]
    rw [← Int.natCast_mul] at k5
    exact ⟨R, C, rfl, by omega, by omega, by omega, by omega, by omega, by show v.length = _; omega, m2, m3⟩
theorem ten1 {t : T3} (h : mayF t = true) (h2 : t.1.length = 1) : ∃ C : Nat, t.1 = [(C : Int)] ∧ 1 ≤ C ∧ C ≤ 4096 ∧ t.2.2.length = C := by
  obtain ⟨m1, m2, m3, _⟩ := mayF_inv h
  obtain ⟨l1, l2⟩ := m1
  obtain ⟨d, e, v⟩ := t
  match d, h2 with
  | [c], _ =>
    obtain ⟨k1, k2, k3⟩ := szF1 l1
    obtain ⟨C, rfl⟩ := Int.eq_ofNat_of_zero_le (show 0 ≤ c by omega)
    simp only at l2
    exact ⟨C, rfl, by omega, by omega, by show v.length = _; omega⟩
theorem dmayF2 {n : Int} {x w : T3} (h : dmayF n [x, w] = 0) : mayF x = true ∧ mayF w = true ∧ (x.1.length : Int) = n ∧ (w.1.length : Int) = n := by
  unfold dmayF at h
  split at h
  · rename_i h1
    split at h
    · rename_i h2
      simp only [List.all_cons, List.all_nil, Bool.and_true, Bool.and_eq_true, beq_iff_eq] at h1 h2
      exact ⟨h1.1, h1.2, h2.1, h2.2⟩
    · omega
  · omega
def fwdF (x w b : T3) : T3 × Int :=
  if (!mayF b) = true then (Z3, 1)
  else if (dmayF 2 [x, w] != 0) = true then (Z3, dmayF 2 [x, w])
  else if (((w.1.getD 1 0 != x.1.getD 1 0) || ((b.1.length : Int) != 1)) || (b.1.getD 0 0 != w.1.getD 0 0)) = true then (Z3, 2)
  else madeF (x.1.getD 0 0) (w.1.getD 0 0) (x.1.getD 1 0) (x.2.1 + w.2.1) (fwC (x.1.getD 1 0).toNat (x.2.1 + w.2.1) b.2.1 b.2.2 x.2.2 w.2.2)
theorem fwd_v {x w b : T3} {Q : T3 × Int → Prop} (bx : All8 x.2.2) (bw : All8 w.2.2) (bb : All8 b.2.2) (h : Q (fwdF x w b)) : dense_Forward x w b Q := by
  refine ⟨?_⟩
  unfold dense_Forward_t
  refine mayT_v ?_
  unfold fwdF at h
  by_cases h1 : (!mayF b) = true
  · rw [if_pos h1] at h
    rw [if_pos h1]; exact h
  · rw [if_neg h1] at h
    rw [if_neg h1]
    refine dmay_v (by simp) ?_
    by_cases h2 : (dmayF 2 [x, w] != 0) = true
    · rw [if_pos h2] at h ⊢; exact h
    · rw [if_neg h2] at h ⊢
      obtain ⟨mx, mw, lx, lw⟩ := dmayF2 (by simpa using h2)
      have mb : mayF b = true := by simpa using h1
      obtain ⟨R, n, ex, x1, x2, x3, x4, x5, x6, x7, x8⟩ := ten2 mx (by omega)
      obtain ⟨C, m, ew, w1, w2, w3, w4, w5, w6, w7, w8⟩ := ten2 mw (by omega)
      rw [ex, ew] at h ⊢
      refine ⟨by simp, by simp, by simp, by simp, ?_⟩
      have key : ∀ v : Bool, (((((m : Int) != (n : Int)) || ((b.1.length : Int) != 1)) || (b.1.getD 0 0 != (C : Int))) = v) → (if v = true then Q (Z3, 2) else dense_made__dense_Forward_1 (R : Int) (C : Int) (n : Int) (IntKind.i64.wrap (x.2.1 + w.2.1)) b.1 b.2.1 b.2.2 (IntKind.i64.wrap (x.2.1 + w.2.1)) (n : Int) [(R : Int), (n : Int)] x.2.1 x.2.2 [(C : Int), (m : Int)] w.2.1 w.2.2 (fun r5 => Q ((r5.1.1, (r5.1.2.1, r5.1.2.2)), r5.2))) := by
        intro v hv
        cases v with
        | true =>
          rw [if_pos rfl]
          rw [if_pos (by simpa using hv)] at h
          exact h
        | false =>
          rw [if_neg (by simp)]
          rw [if_neg (by show ¬ _ = true; rw [show ((((([(C : Int), (m : Int)].getD 1 0) != ([(R : Int), (n : Int)].getD 1 0)) || ((b.1.length : Int) != 1)) || (b.1.getD 0 0 != [(C : Int), (m : Int)].getD 0 0))) = false from hv]; simp)] at h
          simp only [Bool.or_eq_false_iff, bne_eq_false_iff_eq] at hv
          obtain ⟨⟨h3, h4⟩, h5⟩ := hv
          obtain ⟨D, eb, b1, b2, b3⟩ := ten1 mb (by omega)
          have hD : D = C := by
            have : (D : Int) = (C : Int) := by rw [eb] at h5; simpa using h5
            omega
          have hmn : m = n := by omega
          subst hD; subst hmn
          rw [wrap_i64 (x.2.1 + w.2.1) (by omega) (by omega)]
          refine mdForward_v (f := fwC m (x.2.1 + w.2.1) b.2.1 b.2.2 x.2.2 w.2.2) ?_ h
          intro hfit hsz r c hr hcc
          have hn := fitsF_le hfit
          have := fwC_bd (n := m) (e := x.2.1 + w.2.1) (be := b.2.1) (r := r) (o := c) (by omega) bx bw bb
          refine ⟨by omega, by omega, fun K hK => ?_⟩
          simp only [Int.toNat_natCast] at hr hcc
          have k1 : (r + 1) * m ≤ R * m := Nat.mul_le_mul_right m hr
          have k2 : (c + 1) * m ≤ D * m := Nat.mul_le_mul_right m hcc
          rw [Nat.add_mul, Nat.one_mul] at k1 k2
          exact fw1_v (by omega) (by omega) (by omega) (by omega) (by omega) (by omega) bx bw bb hK
      show (if (((m : Int) != (n : Int)) || ((b.1.length : Int) != 1)) = true then _ else _)
      by_cases h3 : (((m : Int) != (n : Int)) || ((b.1.length : Int) != 1)) = true
      · rw [if_pos h3]
        exact key true (by rw [h3]; rfl)
      · rw [if_neg h3]
        have h4 : b.1.length = 1 := by
          simp only [Bool.or_eq_true, not_or, bne_iff_ne, ne_eq, Classical.not_not] at h3
          omega
        refine ⟨⟨by omega, by omega⟩, key _ ?_⟩
        have h3' : (((m : Int) != (n : Int)) || ((b.1.length : Int) != 1)) = false := by simpa using h3
        rw [h3']
        rfl



end Go.Proofs.Yteencpiamangfaa

