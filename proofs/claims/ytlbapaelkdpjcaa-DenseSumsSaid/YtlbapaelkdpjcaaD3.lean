/- The laws DenseNothing and DenseSums, plainly. No condition. -/
import Derived.Test.YtlbapaelkdpjcaaD2
namespace Go.Proofs.Ytlbapaelkdpjcaa
open Go.Mach Go.RowKit
set_option maxRecDepth 100000
set_option linter.unusedVariables false
set_option linter.unusedSimpArgs false

/-! ### Lists that are gone through place by place -/
/-- The first j places anew, the others as they were. -/
def upTo (h : Nat → Int) (A : List Int) (j : Nat) : List Int := (List.range j).map h ++ A.drop j
theorem upTo_zero (h : Nat → Int) (A : List Int) : upTo h A 0 = A := by simp [upTo]
theorem upTo_len {h : Nat → Int} {A : List Int} {j : Nat} (hj : j ≤ A.length) : (upTo h A j).length = A.length := by simp [upTo]; omega
theorem upTo_get {h : Nat → Int} {A : List Int} {j : Nat} (hj : j < A.length) : (upTo h A j).getD j 0 = A.getD j 0 := by
  unfold upTo
  rw [List.getD_eq_getElem?_getD, List.getElem?_append_right (by simp), List.getElem?_drop, List.getD_eq_getElem?_getD]
  simp
theorem upTo_set {h : Nat → Int} {A : List Int} {j : Nat} (hj : j < A.length) : (upTo h A j).set j (h j) = upTo h A (j + 1) := by
  unfold upTo
  rw [List.set_append_right _ _ (by simp), List.range_succ, List.map_append, List.append_assoc]
  congr 1
  simp only [List.length_map, List.length_range, Nat.sub_self]
  rw [List.drop_eq_getElem_cons hj]
  rfl
theorem upTo_skip {h : Nat → Int} {A : List Int} {j : Nat} (hj : j < A.length) (e : h j = A.getD j 0) : upTo h A j = upTo h A (j + 1) := by
  rw [← upTo_set hj, e, ← upTo_get (h := h) hj]
  have hl : j < (upTo h A j).length := by rw [upTo_len (by omega)]; exact hj
  rw [List.getD_eq_getElem?_getD, List.getElem?_eq_getElem hl]
  simp
theorem upTo_all {h : Nat → Int} {A : List Int} : upTo h A A.length = (List.range A.length).map h := by simp [upTo]

/-! ### Matrices -/
def mcell (l : List Int) (i : Nat) : Int := if i < l.length ∧ l.getD i 0 ≠ -128 then l.getD i 0 else 0
def matD (l : List Int) (N : Nat) : List Int := (List.range N).map (mcell l)
theorem matD_len (l : List Int) (N : Nat) : (matD l N).length = N := by simp [matD]
theorem map_get {h : Nat → Int} {N i : Nat} (hi : i < N) : ((List.range N).map h).getD i 0 = h i := by
  rw [List.getD_eq_getElem?_getD, List.getElem?_map, List.getElem?_range hi]; rfl
theorem matD_get {l : List Int} {N i : Nat} (h : i < N) : (matD l N).getD i 0 = mcell l i := map_get h
theorem mcell_ne (l : List Int) (i : Nat) : mcell l i ≠ -128 := by
  unfold mcell
  split
  · rename_i h; exact h.2
  · omega
theorem mcell_rng {l : List Int} (hl : All8 l) (i : Nat) : -128 ≤ mcell l i ∧ mcell l i ≤ 127 := by
  unfold mcell
  split
  · exact hl.at_ i
  · omega
theorem mcell_nil (i : Nat) : mcell [] i = 0 := by simp [mcell]
theorem matD_all {l : List Int} (hl : All8 l) (N : Nat) : All8 (matD l N) := by
  intro y hy
  unfold matD at hy
  obtain ⟨i, _, rfl⟩ := List.mem_map.1 hy
  exact mcell_rng hl i
theorem All8_nil : All8 [] := fun y h => by cases h
theorem matD_no (l : List Int) (N : Nat) : -128 ∉ matD l N := by
  intro hy
  unfold matD at hy
  obtain ⟨i, _, e⟩ := List.mem_map.1 hy
  exact mcell_ne l i e
theorem replicate_len_cast (N : Nat) : ((List.replicate N (0 : Int)).length : Int) = (N : Int) := by simp
def matF (l : List Int) (n k : Nat) : T3 := ([(n : Int), (k : Int)], 0, matD l (n * k))
def vecF (l : List Int) (n : Nat) : T3 := ([(n : Int)], 0, matD l n)
theorem matrix_v {l : List Int} {n k : Nat} {Q : T3 → Prop} (hN : n * k ≤ 100000) (h : Q (matF l n k)) : pedagoguelaw10_matrix l (n : Int) (k : Int) Q := by
  refine ⟨?_⟩
  unfold pedagoguelaw10_matrix_t
  have e : IntKind.i64.wrap ((n : Int) * (k : Int)) = ((n * k : Nat) : Int) := by
    rw [Int.natCast_mul, wrap_i64 _ (by rw [← Int.natCast_mul]; omega) (by rw [← Int.natCast_mul]; omega)]
  rw [e]
  unfold matF at h
  generalize n * k = N at hN h ⊢
  refine ⟨⟨by omega, by omega⟩, ⟨?_⟩⟩
  rw [Int.toNat_natCast]
  rw [replicate_len_cast]
  have hA : (List.replicate N (0 : Int)).length = N := by simp
  rw [show (0, List.replicate N (0 : Int)) = ((fun i : Nat => ((i : Int), upTo (mcell l) (List.replicate N 0) i)) 0) by show _ = (((0 : Nat) : Int), upTo (mcell l) (List.replicate N 0) 0); rw [upTo_zero]; rfl]
  refine Loop.range (B := pedagoguelaw10_matrix_n58_B l (N : Int) _) (f := fun i => ((i : Int), upTo (mcell l) (List.replicate N 0) i)) N (fun _ => True) trivial ?_ ?_
  · intro i hi _ X hX
    have hX := hX trivial
    unfold pedagoguelaw10_matrix_n58_B
    rw [if_pos (by simpa using hi)]
    dsimp only at hX ⊢
    have hr : (List.replicate N (0 : Int)).getD i 0 = 0 := by
      rw [List.getD_eq_getElem?_getD, List.getElem?_replicate]; split <;> rfl
    have key : ∀ v : Bool, (v = true → i < l.length ∧ mcell l i = l.getD i 0) → (v = false → mcell l i = 0) →
        (if v = true then ck ((0 : Int) ≤ (i : Int) ∧ (i : Int) < (l.length : Int)) (ck ((0 : Int) ≤ (i : Int) ∧ (i : Int) < ((upTo (mcell l) (List.replicate N 0) i).length : Int)) (pedagoguelaw10_matrix_n935 (i : Int) (fun (y3 : Int) => X (y3, ((upTo (mcell l) (List.replicate N 0) i).set (((i : Int)).toNat) (l.getD (((i : Int)).toNat) 0)))))) else pedagoguelaw10_matrix_n935 (i : Int) (fun (y4 : Int) => X (y4, (upTo (mcell l) (List.replicate N 0) i)))) := by
      intro v h1 h2
      cases v with
      | true =>
        obtain ⟨h1, h3⟩ := h1 rfl
        rw [if_pos rfl]
        refine ⟨by omega, ⟨by omega, by rw [upTo_len (by omega)]; omega⟩, ⟨?_⟩⟩
        unfold pedagoguelaw10_matrix_n935_t
        rw [wrap_i64 _ (by omega) (by omega), Int.toNat_natCast, ← h3, upTo_set (by omega)]
        exact hX
      | false =>
        rw [if_neg (by simp)]
        refine ⟨?_⟩
        unfold pedagoguelaw10_matrix_n935_t
        rw [wrap_i64 _ (by omega) (by omega), upTo_skip (by omega) (by rw [h2 rfl, hr])]
        exact hX
    show (if (decide ((i : Int) < (l.length : Int))) = true then _ else _)
    by_cases hl : i < l.length
    · rw [if_pos (by simpa using hl)]
      refine ⟨by omega, key _ (fun hv => ⟨hl, ?_⟩) (fun hv => ?_)⟩
      · rw [Int.toNat_natCast] at hv
        have : l.getD i 0 ≠ -128 := by simpa using hv
        unfold mcell
        rw [if_pos ⟨hl, this⟩]
      · rw [Int.toNat_natCast] at hv
        have : l.getD i 0 = -128 := by simpa using hv
        unfold mcell
        rw [if_neg (fun hh => hh.2 this)]
    · rw [if_neg (by simpa using hl)]
      refine key false (fun hv => by cases hv) (fun _ => ?_)
      unfold mcell
      rw [if_neg (fun hh => hl hh.1)]
  · intro _ X
    unfold pedagoguelaw10_matrix_n58_B
    rw [if_neg (by simp)]
    dsimp only
    have := upTo_all (h := mcell l) (A := List.replicate N 0)
    rw [hA] at this
    rw [this]
    exact h
theorem vector_v {l : List Int} {n : Nat} {Q : T3 → Prop} (hN : n ≤ 100000) (h : Q (vecF l n)) : pedagoguelaw10_vector l (n : Int) Q := by
  refine ⟨?_⟩
  unfold pedagoguelaw10_vector_t
  refine matrix_v (n := 1) (by omega) ?_
  unfold matF
  rw [Nat.one_mul]
  exact h
theorem mayF_of {t : T3} (h1 : 0 < szF t.1) (h2 : (t.2.2.length : Int) = szF t.1) (h3 : -64 ≤ t.2.1) (h4 : t.2.1 ≤ 64) (h5 : -128 ∉ t.2.2) : mayF t = true := by
  unfold mayF expF
  rw [wrap_i64 (0 - 64) (by omega) (by omega)]
  simp only [Bool.and_eq_true, decide_eq_true_eq, beq_iff_eq, Bool.not_eq_true', decide_eq_false_iff_not]
  exact ⟨⟨⟨h1, h2⟩, by omega, h4⟩, h5⟩
theorem matF_may {l : List Int} {n k : Nat} (h1 : 1 ≤ n) (h2 : 1 ≤ k) (h3 : n ≤ 90) (h4 : k ≤ 90) : mayF (matF l n k) = true := by
  have hm : n * k ≤ 90 * 90 := Nat.mul_le_mul h3 h4
  have hp : 0 < n * k := Nat.mul_pos (by omega) (by omega)
  have e : szF [(n : Int), (k : Int)] = ((n * k : Nat) : Int) := by
    rw [szF2_of (by omega) (by omega) (by omega) (by omega) (by rw [← Int.natCast_mul]; omega), Int.natCast_mul]
  refine mayF_of ?_ ?_ (by show -64 ≤ (0 : Int); omega) (by show (0 : Int) ≤ 64; omega) (matD_no _ _)
  · show 0 < szF [(n : Int), (k : Int)]; rw [e]; omega
  · show ((matD l (n * k)).length : Int) = szF [(n : Int), (k : Int)]; rw [e, matD_len]
theorem vecF_may {l : List Int} {n : Nat} (h1 : 1 ≤ n) (h3 : n ≤ 90) : mayF (vecF l n) = true := by
  have e : szF [(n : Int)] = (n : Int) := szF1_of (by omega) (by omega)
  refine mayF_of ?_ ?_ (by show -64 ≤ (0 : Int); omega) (by show (0 : Int) ≤ 64; omega) (matD_no _ _)
  · show 0 < szF [(n : Int)]; rw [e]; omega
  · show ((matD l n).length : Int) = szF [(n : Int)]; rw [e, matD_len]

theorem madeF_ok {R C n e : Int} {f : Nat → Nat → Int} (h1 : fitsF n = true) (h2 : -128 ≤ e) (h3 : e ≤ 128) (h4 : 0 < szF [R, C]) : madeF R C n e f = (([R, C], (e, rowsF R.toNat C.toNat f)), 0) := by
  unfold madeF
  rw [if_neg (by simp [h1]; omega), if_neg (by simp; omega)]
theorem sz_pos {R C : Nat} (h1 : 1 ≤ R) (h2 : 1 ≤ C) (h3 : R ≤ 90) (h4 : C ≤ 90) : 0 < szF [(R : Int), (C : Int)] := by
  have hm : R * C ≤ 90 * 90 := Nat.mul_le_mul h3 h4
  have hp : 0 < R * C := Nat.mul_pos (by omega) (by omega)
  rw [szF2_of (by omega) (by omega) (by omega) (by omega) (by rw [← Int.natCast_mul]; omega), ← Int.natCast_mul]
  omega
theorem fits_of {n : Nat} (h : n ≤ 959) : fitsF (n : Int) = true := by
  unfold fitsF
  simp only [Bool.and_eq_true, decide_eq_true_eq]
  omega
theorem dmay_mat {x w : T3} (hx : mayF x = true) (hw : mayF w = true) (h1 : x.1.length = 2) (h2 : w.1.length = 2) : dmayF 2 [x, w] = 0 := by
  unfold dmayF
  rw [if_pos (by simp [hx, hw]), if_pos (by simp [h1, h2])]
theorem fwdF_mat {xl wl bl : List Int} {n k m : Nat} (n1 : 1 ≤ n) (k1 : 1 ≤ k) (m1 : 1 ≤ m) (n2 : n ≤ 90) (k2 : k ≤ 90) (m2 : m ≤ 90) :
    fwdF (matF xl n k) (matF wl m k) (vecF bl m) = (([(n : Int), (m : Int)], (0, rowsF n m (fwC k 0 0 (matD bl m) (matD xl (n * k)) (matD wl (m * k))))), 0) := by
  unfold fwdF
  rw [if_neg (by rw [vecF_may m1 m2]; simp), if_neg (by rw [dmay_mat (matF_may n1 k1 n2 k2) (matF_may m1 k1 m2 k2) rfl rfl]; simp), if_neg (by simp [matF, vecF])]
  exact madeF_ok (R := (n : Int)) (C := (m : Int)) (n := (k : Int)) (e := 0) (fits_of (by omega)) (by omega) (by omega) (sz_pos n1 m1 n2 m2)
theorem inpF_mat {gl wl : List Int} {n k m : Nat} (n1 : 1 ≤ n) (k1 : 1 ≤ k) (m1 : 1 ≤ m) (n2 : n ≤ 90) (k2 : k ≤ 90) (m2 : m ≤ 90) :
    inpF (matF gl n m) (matF wl m k) = (([(n : Int), (k : Int)], (0, rowsF n k (inC m k (matD gl (n * m)) (matD wl (m * k))))), 0) := by
  unfold inpF
  rw [if_neg (by rw [dmay_mat (matF_may n1 m1 n2 m2) (matF_may m1 k1 m2 k2) rfl rfl]; simp), if_neg (by simp [matF])]
  exact madeF_ok (R := (n : Int)) (C := (k : Int)) (n := (m : Int)) (e := 0) (fits_of (by omega)) (by omega) (by omega) (sz_pos n1 k1 n2 k2)
theorem wgtF_mat {gl xl : List Int} {n k m : Nat} (n1 : 1 ≤ n) (k1 : 1 ≤ k) (m1 : 1 ≤ m) (n2 : n ≤ 90) (k2 : k ≤ 90) (m2 : m ≤ 90) :
    wgtF (matF gl n m) (matF xl n k) = (([(m : Int), (k : Int)], (0, rowsF m k (wtC n m k (matD gl (n * m)) (matD xl (n * k))))), 0) := by
  unfold wgtF
  rw [if_neg (by rw [dmay_mat (matF_may n1 m1 n2 m2) (matF_may n1 k1 n2 k2) rfl rfl]; simp), if_neg (by simp [matF])]
  exact madeF_ok (R := (m : Int)) (C := (k : Int)) (n := (n : Int)) (e := 0) (fits_of (by omega)) (by omega) (by omega) (sz_pos m1 k1 m2 k2)
theorem biaF_mat {gl : List Int} {n m : Nat} (n1 : 1 ≤ n) (m1 : 1 ≤ m) (n2 : n ≤ 90) (m2 : m ≤ 90) :
    biaF (matF gl n m) = (([(m : Int)], (0, rowsF 1 m (bsC n m (matD gl (n * m))))), 0) := by
  unfold biaF
  have h1 : dmayF 2 [matF gl n m] = 0 := by
    unfold dmayF
    rw [if_pos (by simp [matF_may n1 m1 n2 m2]), if_pos (by simp [matF])]
  rw [if_neg (by rw [h1]; simp)]
  have e := madeF_ok (R := 1) (C := (m : Int)) (n := (n : Int)) (e := 0) (f := bsC n m (matD gl (n * m))) (fits_of (by omega)) (by omega) (by omega) (sz_pos (R := 1) (by omega) m1 (by omega) m2)
  show (if (((madeF 1 (m : Int) (n : Int) 0 (bsC n m (matD gl (n * m)))).2 == 0) = true) then _ else _) = _
  have e2 : madeF 1 ((matF gl n m).1.getD 1 0) ((matF gl n m).1.getD 0 0) (matF gl n m).2.1 (bsC ((matF gl n m).1.getD 0 0).toNat ((matF gl n m).1.getD 1 0).toNat (matF gl n m).2.2) = madeF 1 (m : Int) (n : Int) 0 (bsC n m (matD gl (n * m))) := rfl
  simp only [e2, e]
  rfl

theorem fwd_awake : fwdF ([1, 2], 0, [1, 2]) ([1, 2], 0, [3, 4]) ([1], 0, [5]) = (([1, 1], 0, [16]), 0) := by decide +kernel
theorem awake10_v {Q : Bool → Prop} (h : Q true) : pedagoguelaw10_awake Q := by
  refine ⟨?_⟩
  unfold pedagoguelaw10_awake_t
  refine fwd_v (x := ([1, 2], 0, [1, 2])) (w := ([1, 2], 0, [3, 4])) (b := ([1], 0, [5])) (by unfold All8; decide) (by unfold All8; decide) (by unfold All8; decide) ?_
  rw [fwd_awake]
  exact ⟨by decide, h⟩

theorem modN (a : Int) (q : Nat) (h1 : 1 ≤ q) (h2 : q ≤ 100) : ∃ n : Nat, IntKind.i64.wrap (1 + IntKind.i64.wrap ((IntKind.u64.wrap a).tmod (q : Int))) = (n : Int) ∧ 1 ≤ n ∧ n ≤ q := by
  have h0 : 0 ≤ IntKind.u64.wrap a := by
    simp only [IntKind.wrap, IntKind.bits, IntKind.signed]
    simp
    omega
  generalize IntKind.u64.wrap a = u at h0
  have h3 : u.tmod (q : Int) = u % (q : Int) := Int.tmod_eq_emod_of_nonneg h0
  have h4 := Int.emod_nonneg u (show (q : Int) ≠ 0 by omega)
  have h5 := Int.emod_lt_of_pos u (show 0 < (q : Int) by omega)
  rw [h3]
  generalize u % (q : Int) = v at *
  rw [wrap_i64 v (by omega) (by omega), wrap_i64 (1 + v) (by omega) (by omega)]
  exact ⟨(1 + v).toNat, by omega, by omega, by omega⟩
theorem rowsF_at {R C p : Nat} {f : Nat → Nat → Int} (hp : p < R * C) : (rowsF R C f).getD p 0 = f (p / C) (p % C) := by
  have hC : 0 < C := by
    rcases Nat.eq_zero_or_pos C with e | e
    · rw [e] at hp; omega
    · exact e
  obtain ⟨e, hm⟩ := divmod (p := p) hC
  have hr : p / C < R := by rw [Nat.div_lt_iff_lt_mul hC]; exact hp
  have := rowsF_get (f := f) hr hm
  rw [← e] at this
  exact this

/-! ### DenseNothing -/
theorem nothing_law {xl wl bl : List Int} {a b c : Int} {Q : Bool → Prop} (hx : All8 xl) (hw : All8 wl) (hb : All8 bl) (h : Q true) : pedagoguelaw10_DenseNothing xl wl bl a b c Q := by
  refine ⟨?_⟩
  unfold pedagoguelaw10_DenseNothing_t
  obtain ⟨n, en, n1, n2⟩ := modN a 4 (by omega) (by omega)
  obtain ⟨k, ek, k1, k2⟩ := modN b 12 (by omega) (by omega)
  obtain ⟨m, em, m1, m2⟩ := modN c 8 (by omega) (by omega)
  have en : IntKind.i64.wrap (1 + IntKind.i64.wrap ((IntKind.u64.wrap a).tmod 4)) = (n : Int) := en
  have ek : IntKind.i64.wrap (1 + IntKind.i64.wrap ((IntKind.u64.wrap b).tmod 12)) = (k : Int) := ek
  have em : IntKind.i64.wrap (1 + IntKind.i64.wrap ((IntKind.u64.wrap c).tmod 8)) = (m : Int) := em
  rw [en, ek, em]
  have hnk : n * k ≤ 4 * 12 := Nat.mul_le_mul n2 k2
  have hmk : m * k ≤ 8 * 12 := Nat.mul_le_mul m2 k2
  have hnm : n * m ≤ 4 * 8 := Nat.mul_le_mul n2 m2
  refine ⟨by omega, by omega, by omega, matrix_v (by omega) (vector_v (by omega) (matrix_v (by omega) ?_))⟩
  refine fwd_v (matD_all All8_nil _) (matD_all hw _) (matD_all hb _) ?_
  rw [show ((matF ([] : List Int) n k).1, (matF ([] : List Int) n k).2.1, (matF ([] : List Int) n k).2.2) = matF [] n k from rfl, show ((matF wl m k).1, (matF wl m k).2.1, (matF wl m k).2.2) = matF wl m k from rfl, show ((vecF bl m).1, (vecF bl m).2.1, (vecF bl m).2.2) = vecF bl m from rfl, fwdF_mat n1 k1 m1 (by omega) (by omega) (by omega)]
  refine ⟨?_⟩
  unfold pedagoguelaw10_DenseNothing_n31_t
  refine matrix_v (by omega) (matrix_v (by omega) ?_)
  refine fwd_v (b := vecF bl m) (matD_all hx _) (matD_all All8_nil _) (matD_all hb _) ?_
  rw [show ((matF xl n k).1, (matF xl n k).2.1, (matF xl n k).2.2) = matF xl n k from rfl, show ((matF ([] : List Int) m k).1, (matF ([] : List Int) m k).2.1, (matF ([] : List Int) m k).2.2) = matF [] m k from rfl, fwdF_mat n1 k1 m1 (by omega) (by omega) (by omega)]
  refine matrix_v (by omega) (matrix_v (by omega) ?_)
  refine inp_v (matD_all All8_nil _) (matD_all hw _) ?_
  rw [show ((matF ([] : List Int) n m).1, (matF ([] : List Int) n m).2.1, (matF ([] : List Int) n m).2.2) = matF [] n m from rfl, show ((matF wl m k).1, (matF wl m k).2.1, (matF wl m k).2.2) = matF wl m k from rfl, inpF_mat n1 k1 m1 (by omega) (by omega) (by omega)]
  have ew : IntKind.i64.wrap ((n : Int) * (m : Int)) = ((n * m : Nat) : Int) := by
    rw [Int.natCast_mul, wrap_i64 _ (by rw [← Int.natCast_mul]; omega) (by rw [← Int.natCast_mul]; omega)]
  rw [if_neg (by rw [ew]; simp [rowsF_len])]
  -- each number is the bias
  have bias : ∀ o, -128 ≤ (matD bl m).getD o 0 ∧ (matD bl m).getD o 0 ≤ 127 := fun o => (matD_all hb m).at_ o
  have ca : ∀ r, r < n → ∀ o, o < m → fwC k 0 0 (matD bl m) (matD [] (n * k)) (matD wl (m * k)) r o = (matD bl m).getD o 0 := by
    intro r hr o ho
    unfold fwC
    rw [sumFr_eq, alF_same (bias o), sumTo_zero, Int.add_zero]
    intro i hi
    rw [matD_get (l := []) (ix_lt hr hi), mcell_nil, Int.zero_mul]
  have cd : ∀ r, r < n → ∀ o, o < m → fwC k 0 0 (matD bl m) (matD xl (n * k)) (matD [] (m * k)) r o = (matD bl m).getD o 0 := by
    intro r hr o ho
    unfold fwC
    rw [sumFr_eq, alF_same (bias o), sumTo_zero, Int.add_zero]
    intro i hi
    rw [matD_get (l := []) (ix_lt ho hi), mcell_nil, Int.mul_zero]
  have cg : ∀ r, r < n → ∀ i, i < k → inC m k (matD [] (n * m)) (matD wl (m * k)) r i = 0 := by
    intro r hr i hi
    unfold inC
    rw [sumFr_eq, sumTo_zero]
    · rfl
    intro o ho
    rw [matD_get (l := []) (ix_lt hr ho), mcell_nil, Int.zero_mul]
  rw [rowsF_congr ca, rowsF_congr cd, rowsF_congr cg]
  refine ⟨?_⟩
  unfold pedagoguelaw10_DenseNothing_n255_t
  refine ⟨?_⟩
  dsimp only
  rw [rowsF_len]
  refine Loop.range (B := pedagoguelaw10_DenseNothing_n2042_B (m : Int) ((n * m : Nat) : Int) (matD bl m) (rowsF n m fun r o => (matD bl m).getD o 0) (rowsF n m fun r o => (matD bl m).getD o 0) _ _) (n * m) (fun i => (i : Int)) (fun _ => True) trivial ?_ ?_
  · intro i hi _ X hX
    have hX := hX trivial
    unfold pedagoguelaw10_DenseNothing_n2042_B
    rw [if_pos (decide_eq_true (show (i : Int) < ((n * m : Nat) : Int) by omega))]
    have hmod : (i : Int).tmod (m : Int) = ((i % m : Nat) : Int) := by rw [Int.ofNat_tmod]
    have hlt : i % m < m := Nat.mod_lt _ (by omega)
    rw [hmod, Int.toNat_natCast, Int.toNat_natCast]
    have hb := bias (i % m)
    rw [rowsF_at hi, wrap_i32 _ (by omega) (by omega)]
    refine ⟨⟨by omega, by rw [rowsF_len]; omega⟩, by omega, ⟨by omega, by rw [matD_len]; omega⟩, ?_⟩
    show (if ((matD bl m).getD (i % m) 0 != (matD bl m).getD (i % m) 0) = true then _ else _)
    rw [if_neg (by simp)]
    refine ⟨⟨by omega, by rw [rowsF_len]; omega⟩, by omega, ⟨by omega, by rw [matD_len]; omega⟩, ?_⟩
    show (if ((matD bl m).getD (i % m) 0 != (matD bl m).getD (i % m) 0) = true then _ else _)
    rw [if_neg (by simp), wrap_i64 _ (by omega) (by omega)]
    exact hX
  · intro _ X
    unfold pedagoguelaw10_DenseNothing_n2042_B
    rw [if_neg (by simp)]
    refine ⟨?_⟩
    rw [rowsF_len]
    refine Loop.range (B := pedagoguelaw10_DenseNothing_n4090_B ((n * k : Nat) : Int) (rowsF n k fun _ _ => 0) _ _) (n * k) (fun i => (i : Int)) (fun _ => True) trivial ?_ ?_
    · intro i hi _ X hX
      have hX := hX trivial
      unfold pedagoguelaw10_DenseNothing_n4090_B
      rw [if_pos (decide_eq_true (show (i : Int) < ((n * k : Nat) : Int) by omega))]
      refine ⟨⟨by omega, by rw [rowsF_len]; omega⟩, ?_⟩
      rw [Int.toNat_natCast, rowsF_at hi, if_neg (by simp), wrap_i64 _ (by omega) (by omega)]
      exact hX
    · intro _ X
      unfold pedagoguelaw10_DenseNothing_n4090_B
      rw [if_neg (by simp)]
      exact awake10_v h

theorem i8_rng {x : Int} (h : (Lit.int IntKind.i8 x).wf = true) : -128 ≤ x ∧ x ≤ 127 := by
  have := wf_rng h
  have e1 : IntKind.i8.min = -128 := by decide
  have e2 : IntKind.i8.max = 127 := by decide
  rw [e1, e2] at this
  exact this
theorem nothing_walk {a0 a1 a2 : Option Addr} {l0 c0 l1 c1 l2 c2 : Nat} {z0 z1 z2 : List Int} {n k m : Int} {w : World} (t0 : RowH .i8 w a0 l0 c0 z0) (t1 : RowH .i8 w a1 l1 c1 z1) (t2 : RowH .i8 w a2 l2 c2 z2) :
    Calls Try.prog 3 #[.slice a0 l0 c0, .slice a1 l1 c1, .slice a2 l2 c2, .int .i64 n, .int .i64 k, .int .i64 m] w fun e w' => e = .returned (.bool true) ∧ Below w.heap.size w w' :=
  law_calls (azz := [.slice a0 l0 c0, .slice a1 l1 c1, .slice a2 l2 c2, .int .i64 n, .int .i64 k, .int .i64 m]) (by kernel_rfl)
    (pedagoguelaw10_DenseNothing_snd (z0.take l0, z1.take l1, z2.take l2, n, k, m, ()) _ (nothing_law (fun x hx => i8_rng ((row_RSl t0).2.2.2.1 x hx)) (fun x hx => i8_rng ((row_RSl t1).2.2.2.1 x hx)) (fun x hx => i8_rng ((row_RSl t2).2.2.2.1 x hx)) (law_true rfl)))
    (.cons (row_R2 t0) (.cons (row_R2 t1) (.cons (row_R2 t2) (.cons int_R2 (.cons int_R2 (.cons int_R2 .nil))))))
    (by
      intro x hx
      simp only [List.mem_cons, List.not_mem_nil, or_false] at hx
      rcases hx with rfl | rfl | rfl | rfl | rfl | rfl
      · exact (row_RSl t0).2.2.1
      · exact (row_RSl t1).2.2.1
      · exact (row_RSl t2).2.2.1
      all_goals exact .int _ _)

end Go.Proofs.Ytlbapaelkdpjcaa
