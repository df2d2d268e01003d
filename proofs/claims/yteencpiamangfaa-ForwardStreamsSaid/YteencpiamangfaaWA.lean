/- How many numbers a shape has, behind doors. Laws; no condition. -/
import Derived.Test.YteencpiamangfaaFl
import Derived.Test.YteencpiamangfaaVJoin
import Derived.Test.YteencpiamangfaaF2
/- Places as pairs of whole numbers: what place.Of, place.To come to. Laws; no condition. -/
/- A window's places as a list. Laws; no condition. -/
/- How many windows fit. Laws; no condition. -/
namespace Go.Proofs.Yteencpiamangfaa
open Go.Mach Go.RowKit
set_option maxRecDepth 100000
set_option linter.unusedVariables false
set_option linter.unusedSimpArgs false

def szGo : Int → List Int → Int
  | acc, [] => acc
  | acc, d :: r => if ((decide (d < 1) || decide (4096 < d)) || decide (8192 < IntKind.i64.wrap (acc * d))) = true then 0 else szGo (IntKind.i64.wrap (acc * d)) r
def szF (l : List Int) : Int := if (decide ((l.length : Int) < 1) || decide (4 < (l.length : Int))) = true then 0 else szGo 1 l
theorem szGo_le : ∀ (l : List Int) (acc : Int), acc ≤ 8192 → szGo acc l ≤ 8192
  | [], acc, h => h
  | d :: r, acc, h => by
    unfold szGo
    split
    · omega
    · rename_i hn
      simp only [Bool.or_eq_true, decide_eq_true_eq, not_or] at hn
      exact szGo_le r _ (by omega)
theorem szF_le (l : List Int) : szF l ≤ 8192 := by
  unfold szF
  split
  · omega
  · exact szGo_le l 1 (by omega)
theorem size_v {a : List Int} {Q : Int → Prop} (h : Q (szF a)) : shape_Size a Q := by
  refine ⟨?_⟩
  unfold shape_Size_t
  unfold szF at h
  by_cases e : (decide ((a.length : Int) < 1) || decide (4 < (a.length : Int))) = true
  · rw [if_pos e] at h ⊢; exact h
  · rw [if_neg e] at h ⊢
    simp only [Bool.or_eq_true, decide_eq_true_eq, not_or] at e
    obtain ⟨z, hzz⟩ : ∃ z, szGo 1 a = z := ⟨_, rfl⟩
    rw [hzz] at h
    refine ⟨?_⟩
    refine Loop.inv (n := a.length) (fun m s => ∃ i : Nat, i + m = a.length ∧ s.2 = (i : Int) ∧ szGo s.1 (a.drop i) = z) ⟨0, by omega, rfl, hzz⟩ ?_
    rintro m ⟨acc, i'⟩ X ⟨i, hi, he, hz⟩ hX
    simp only at he hz
    subst he
    unfold shape_Size_n0_B
    by_cases hlt : i < a.length
    · have hd : a.drop i = a.getD i 0 :: a.drop (i + 1) := by
        rw [List.drop_eq_getElem_cons hlt, List.getD_eq_getElem?_getD, List.getElem?_eq_getElem hlt]; rfl
      rw [hd] at hz
      rw [if_pos (by simpa using hlt)]
      refine ⟨by simp only []; omega, ?_⟩
      simp only [Int.toNat_natCast]
      unfold szGo at hz
      split
      · rename_i hc
        rw [if_pos hc] at hz
        rw [← hz] at h; exact h
      · rename_i hc
        rw [if_neg hc] at hz
        refine hX (m - 1) _ (by omega) ⟨i + 1, by omega, ?_, hz⟩
        show IntKind.i64.wrap ((i : Int) + 1) = _
        rw [wrap_i64 _ (by omega) (by omega)]; rfl
    · have hil : i = a.length := by omega
      subst hil
      rw [if_neg (by simp)]
      rw [List.drop_length] at hz
      unfold szGo at hz
      show Q acc
      rw [hz]; exact h
theorem may_v {a : List Int} {Q : Bool → Prop} (h : Q (decide (0 < szF a))) : shape_May a Q := by
  refine ⟨?_⟩
  unfold shape_May_t
  exact size_v h

open Go.Mach Go.RowKit Go.Fl
set_option maxRecDepth 100000
set_option linter.unusedVariables false
set_option linter.unusedSimpArgs false

def inP (a lo hi : Int) : Bool := decide (lo ≤ a) && decide (a ≤ hi)
theorem pin_v {a lo hi : Int} {Q : Bool → Prop} (h : Q (inP a lo hi)) : place_in a lo hi Q := ⟨h⟩
theorem inP_of {a lo hi : Int} (h1 : lo ≤ a) (h2 : a ≤ hi) : inP a lo hi = true := by
  unfold inP
  rw [decide_eq_true h1, decide_eq_true h2]
  rfl
theorem of_v {r c : Int} {Q : Nat × Nat → Prop} (h1 : -1000 ≤ r ∧ r ≤ 1000) (h2 : -1000 ≤ c ∧ c ≤ 1000) (h : ∀ z, CWord z r c → Q z) : place_Of r c Q := by
  refine ⟨?_⟩
  unfold place_Of_t
  refine pin_v ?_
  rw [inP_of h1.1 h1.2]
  simp only [jn, Bool.not_true, Bool.false_eq_true, if_false]
  refine pin_v ?_
  rw [inP_of h2.1 h2.2]
  simp only [Bool.not_true, Bool.false_eq_true, if_false]
  exact h _ ⟨word_int64 (by omega), word_int64 (by omega)⟩
theorem word_lo : Word 13875379345695965184 (-1000) := by
  have : FloatKind.f64.nearest (-1000) = 13875379345695965184 := by decide +kernel
  rw [← this]
  exact word_int (by decide)
theorem word_hi : Word 4652007308841189376 1000 := by
  have : FloatKind.f64.nearest 1000 = 4652007308841189376 := by decide +kernel
  rw [← this]
  exact word_int (by decide)
theorem cmp_ge (a b : Int) : ((some (compare a b) == some Ordering.gt) || (some (compare a b) == some Ordering.eq)) = decide (b ≤ a) := by
  show ((some (compareOfLessAndEq a b) == some Ordering.gt) || (some (compareOfLessAndEq a b) == some Ordering.eq)) = decide (b ≤ a)
  unfold compareOfLessAndEq
  by_cases h1 : a < b
  · rw [if_pos h1, decide_eq_false (by omega)]; rfl
  · rw [if_neg h1]
    by_cases h2 : a = b
    · rw [if_pos h2, decide_eq_true (by omega)]; rfl
    · rw [if_neg h2, decide_eq_true (by omega)]; rfl
theorem cmp_le (a b : Int) : ((some (compare a b) == some Ordering.lt) || (some (compare a b) == some Ordering.eq)) = decide (a ≤ b) := by
  show ((some (compareOfLessAndEq a b) == some Ordering.lt) || (some (compareOfLessAndEq a b) == some Ordering.eq)) = decide (a ≤ b)
  unfold compareOfLessAndEq
  by_cases h1 : a < b
  · rw [if_pos h1, decide_eq_true (by omega)]; rfl
  · rw [if_neg h1]
    by_cases h2 : a = b
    · rw [if_pos h2, decide_eq_true (by omega)]; rfl
    · rw [if_neg h2, decide_eq_false (by omega)]; rfl
theorem cmp_eq (a : Int) : (some (compare a a) == some Ordering.eq) = true := by
  show (some (compareOfLessAndEq a a) == some Ordering.eq) = true
  unfold compareOfLessAndEq
  rw [if_neg (by omega), if_pos rfl]
  rfl
theorem whole_v {x : Nat} {n : Int} {Q : Int × Bool → Prop} (hw : Word x n) (h : Q (if inP n (-1000) 1000 = true then (n, true) else (0, false))) : place_whole x Q := by
  refine ⟨?_⟩
  unfold place_whole_t
  rw [order_of_words hw word_lo, order_of_words hw word_hi, cmp_ge, cmp_le]
  by_cases hi : inP n (-1000) 1000 = true
  · rw [if_pos hi] at h
    unfold inP at hi
    rw [hi, if_neg (by simp)]
    simp only [Bool.and_eq_true, decide_eq_true_eq] at hi
    refine ⟨n, int_of_word hw (by omega) (by omega), ?_⟩
    show Q (n, FloatKind.f64.format.order (floatOfInt .f64 n) x == some Ordering.eq)
    rw [order_of_words (word_int64 (by omega)) hw, cmp_eq]
    exact h
  · rw [if_neg hi] at h
    unfold inP at hi
    have hi2 : (decide (-1000 ≤ n) && decide (n ≤ 1000)) = false := by simpa using hi
    rw [hi2, if_pos (by rfl)]
    exact h
theorem to_v {z : Nat × Nat} {r c : Int} {Q : Int × Int × Bool → Prop} (hz : CWord z r c) (h : Q (if (inP r (-1000) 1000 && inP c (-1000) 1000) = true then (r, c, true) else (0, 0, false))) : place_To z Q := by
  refine ⟨?_⟩
  unfold place_To_t
  refine whole_v hz.1 (whole_v hz.2 ?_)
  cases h1 : inP r (-1000) 1000 <;> cases h2 : inP c (-1000) 1000 <;> rw [h1, h2] at h <;> exact h

open Go.Mach Go.RowKit Go.Fl
set_option maxRecDepth 100000
set_option linter.unusedVariables false
set_option linter.unusedSimpArgs false

/-- The place i, j of a window whose corner is cr, cc: it is there if the plane has it. -/
def winCell (rows cols cr cc : Int) (i j : Nat) : List (Int × Int × Int) :=
  if (inP (cr + i) 0 (rows - 1) && inP (cc + j) 0 (cols - 1)) = true then [((cr + i) * cols + (cc + j), (i : Int), (j : Int))] else []
def winRow (rows cols cr cc : Int) (i k : Nat) : List (Int × Int × Int) := (List.range k).flatMap (winCell rows cols cr cc i)
theorem winCell_len (rows cols cr cc : Int) (i j : Nat) : (winCell rows cols cr cc i j).length ≤ 1 := by
  unfold winCell; split <;> simp
theorem winRow_succ {rows cols cr cc : Int} {i k : Nat} : winRow rows cols cr cc i (k + 1) = winRow rows cols cr cc i k ++ winCell rows cols cr cc i k := by
  unfold winRow
  rw [List.range_succ, List.flatMap_append]
  simp
theorem winRow_len {rows cols cr cc : Int} {i : Nat} : ∀ k, (winRow rows cols cr cc i k).length ≤ k
  | 0 => by simp [winRow]
  | k + 1 => by
    rw [winRow_succ, List.length_append]
    have := winRow_len (rows := rows) (cols := cols) (cr := cr) (cc := cc) (i := i) k
    have := winCell_len rows cols cr cc i k
    omega
theorem wrow_v {z : Nat × Nat} {rows cols cr cc : Int} {i k : Nat} {acc : List (Int × Int × Int)} {K0 : (Nat × Nat) × List (Int × Int × Int) → Prop} (hz : CWord z cr cc) (hr : 0 ≤ rows ∧ rows ≤ 1000) (hc : 0 ≤ cols ∧ cols ≤ 1000) (hcr : -100000 ≤ cr ∧ cr ≤ 100000) (hcc : -100000 ≤ cc ∧ cc ≤ 100000) (hi : i ≤ 1000) (hk : k ≤ 1000) (ha : acc.length ≤ 1000000)
    (h : K0 ((z.1, z.2), acc ++ winRow rows cols cr cc i k)) : place_plane_window_n1 (i : Int) (k : Int) rows cols K0 ((z.1, z.2), 0, acc) := by
  refine ⟨?_⟩
  have eg : ((z.1, z.2), (0 : Int), acc) = (fun j : Nat => ((z.1, z.2), (j : Int), acc ++ winRow rows cols cr cc i j)) 0 := by simp [winRow]
  rw [eg]
  refine Loop.range (B := place_plane_window_n1_B (i : Int) (k : Int) rows cols K0) (f := fun j : Nat => ((z.1, z.2), (j : Int), acc ++ winRow rows cols cr cc i j)) k (fun _ => True) trivial ?_ ?_
  · intro j hj _ X hX
    have hX := hX trivial
    unfold place_plane_window_n1_B
    rw [if_pos (decide_eq_true (show (j : Int) < (k : Int) by omega))]
    dsimp only at hX ⊢
    refine of_v (by omega) (by omega) fun u hu => ?_
    obtain ⟨r, e, hrr⟩ := cword_add hz hu (by omega) (by omega)
    refine ⟨r, e, to_v (z := r) hrr ?_⟩
    have hlen := winRow_len (rows := rows) (cols := cols) (cr := cr) (cc := cc) (i := i) j
    have e1 : IntKind.i64.wrap (rows - 1) = rows - 1 := wrap_i64 _ (by omega) (by omega)
    have e2 : IntKind.i64.wrap (cols - 1) = cols - 1 := wrap_i64 _ (by omega) (by omega)
    rw [winRow_succ, ← List.append_assoc] at hX
    by_cases hin : (inP (cr + i) 0 (rows - 1) && inP (cc + j) 0 (cols - 1)) = true
    · have ew : winCell rows cols cr cc i j = [((cr + i) * cols + (cc + j), (i : Int), (j : Int))] := by unfold winCell; rw [if_pos hin]
      simp only [Bool.and_eq_true] at hin
      have b1 : 0 ≤ cr + i ∧ cr + i ≤ rows - 1 := by simpa [inP] using hin.1
      have b2 : 0 ≤ cc + j ∧ cc + j ≤ cols - 1 := by simpa [inP] using hin.2
      have m1 : 0 ≤ (cr + i) * cols := Int.mul_nonneg b1.1 hc.1
      have m2 : (cr + i) * cols ≤ 1000 * 1000 := Int.mul_le_mul (by omega) hc.2 hc.1 (by omega)
      rw [inP_of (by omega) (by omega), inP_of (by omega) (by omega), if_pos (by rfl)]
      simp only [jn, if_true]
      refine pin_v ?_
      rw [e1, hin.1]
      simp only [if_true]
      refine pin_v ?_
      rw [e2, hin.2]
      simp only [if_true]
      refine ⟨?_, ⟨?_⟩⟩
      · simp only [List.length_append, List.length_singleton]; omega
      · unfold place_plane_window_n2_t
        rw [wrap_i64 ((j : Int) + 1) (by omega) (by omega), wrap_i64 ((cr + i) * cols) (by omega) (by omega), wrap_i64 ((cr + i) * cols + (cc + j)) (by omega) (by omega)]
        rw [ew] at hX
        exact hX
    · have ew : winCell rows cols cr cc i j = [] := by unfold winCell; rw [if_neg hin]
      rw [ew, List.append_nil] at hX
      have skip : place_plane_window_n2 (j : Int) (fun (y28 : Int) => X ((z.1, z.2), y28, acc ++ winRow rows cols cr cc i j)) := by
        refine ⟨?_⟩
        unfold place_plane_window_n2_t
        rw [wrap_i64 ((j : Int) + 1) (by omega) (by omega)]
        exact hX
      by_cases hb : (inP (cr + i) (-1000) 1000 && inP (cc + j) (-1000) 1000) = true
      · rw [if_pos hb]
        simp only [jn, if_true]
        refine pin_v ?_
        rw [e1]
        cases h1 : inP (cr + i) 0 (rows - 1) with
        | false => simp only [Bool.false_eq_true, if_false]; exact skip
        | true =>
          simp only [if_true]
          refine pin_v ?_
          rw [e2]
          cases h2 : inP (cc + j) 0 (cols - 1) with
          | false => simp only [Bool.false_eq_true, if_false]; exact skip
          | true => rw [h1, h2] at hin; exact absurd rfl hin
      · rw [if_neg hb]
        simp only [jn, Bool.false_eq_true, if_false]
        exact skip
  · intro _ X
    unfold place_plane_window_n1_B
    rw [if_neg (by simp)]
    exact h

/-- The places of a window. -/
def winF (rows cols cr cc : Int) (k : Nat) (m : Nat) : List (Int × Int × Int) := (List.range m).flatMap fun i => winRow rows cols cr cc i k
theorem winF_succ {rows cols cr cc : Int} {k m : Nat} : winF rows cols cr cc k (m + 1) = winF rows cols cr cc k m ++ winRow rows cols cr cc m k := by
  unfold winF
  rw [List.range_succ, List.flatMap_append]
  simp
theorem winF_len {rows cols cr cc : Int} {k : Nat} : ∀ m, (winF rows cols cr cc k m).length ≤ m * k
  | 0 => by simp [winF]
  | m + 1 => by
    rw [winF_succ, List.length_append, Nat.succ_mul]
    have := winF_len (rows := rows) (cols := cols) (cr := cr) (cc := cc) (k := k) m
    have := winRow_len (rows := rows) (cols := cols) (cr := cr) (cc := cc) (i := m) k
    omega
theorem window_v {rows cols stride pad r c : Int} {k : Nat} {Q : List (Int × Int × Int) → Prop} (hr : 0 ≤ rows ∧ rows ≤ 1000) (hc : 0 ≤ cols ∧ cols ≤ 1000) (hs : 0 ≤ stride ∧ stride ≤ 100) (hp : 0 ≤ pad ∧ pad ≤ 100) (h1 : 0 ≤ r ∧ r ≤ 900) (h2 : 0 ≤ c ∧ c ≤ 900) (hk : k ≤ 900)
    (h : Q (winF rows cols (stride * r - pad) (stride * c - pad) k k)) : place_plane_window (rows, cols, (k : Int), stride, pad) r c Q := by
  have m1 : 0 ≤ stride * r := Int.mul_nonneg hs.1 h1.1
  have m2 : stride * r ≤ 100 * 900 := Int.mul_le_mul hs.2 h1.2 h1.1 (by omega)
  have m3 : 0 ≤ stride * c := Int.mul_nonneg hs.1 h2.1
  have m4 : stride * c ≤ 100 * 900 := Int.mul_le_mul hs.2 h2.2 h2.1 (by omega)
  refine ⟨?_⟩
  unfold place_plane_window_t
  dsimp only
  refine of_v (by show -1000 ≤ stride ∧ stride ≤ 1000; omega) (by omega) fun u hu => ?_
  refine of_v (by omega) (by omega) fun v hv => ?_
  obtain ⟨p, e1, hpw⟩ := cword_mul hu hv (by omega) (by rw [Int.zero_mul]; decide) (by omega) (by rw [Int.zero_mul]; decide)
  refine ⟨p, e1, ?_⟩
  refine of_v (by show -1000 ≤ pad ∧ pad ≤ 1000; omega) (by show -1000 ≤ pad ∧ pad ≤ 1000; omega) fun q hq => ?_
  rw [Int.zero_mul, Int.zero_mul, Int.sub_zero, Int.add_zero] at hpw
  obtain ⟨z, e2, hz⟩ := cword_sub hpw hq (by omega) (by omega)
  refine ⟨z, e2, ⟨?_⟩⟩
  show Go.Mach.Loop (place_plane_window_n0_B (k : Int) rows cols (k : Int) (fun y => Q y)) ((z.1, z.2), 0, [])
  have eg : ((z.1, z.2), (0 : Int), ([] : List (Int × Int × Int))) = (fun i : Nat => ((z.1, z.2), (i : Int), winF rows cols (stride * r - pad) (stride * c - pad) k i)) 0 := by simp [winF]
  rw [eg]
  refine Loop.range (B := place_plane_window_n0_B (k : Int) rows cols (k : Int) (fun y => Q y)) (f := fun i : Nat => ((z.1, z.2), (i : Int), winF rows cols (stride * r - pad) (stride * c - pad) k i)) k (fun _ => True) trivial ?_ ?_
  · intro i hi _ X hX
    have hX := hX trivial
    unfold place_plane_window_n0_B
    rw [if_pos (decide_eq_true (show (i : Int) < (k : Int) by omega))]
    dsimp only at hX ⊢
    have hl := winF_len (rows := rows) (cols := cols) (cr := stride * r - pad) (cc := stride * c - pad) (k := k) i
    have hm : i * k ≤ 900 * 900 := Nat.mul_le_mul (by omega) hk
    refine wrow_v (z := z) hz hr hc (by omega) (by omega) (by omega) (by omega) (by omega) ?_
    rw [wrap_i64 ((i : Int) + 1) (by omega) (by omega)]
    rw [winF_succ] at hX
    exact hX
  · intro _ X
    unfold place_plane_window_n0_B
    rw [if_neg (by simp)]
    exact h

open Go.Mach Go.RowKit Go.Fl
set_option maxRecDepth 100000
set_option linter.unusedVariables false
set_option linter.unusedSimpArgs false

theorem or_v {b c : Bool} {Q K : Bool → Prop} {G : (Bool → Prop) → Prop} (hG : ∀ P : Bool → Prop, P c → G P) (hK : ∀ v, v = (b || c) → K v) (hQ : Q = K) : jn (fun v => Q v) (fun J => if b = true then J true else G J) := by
  subst hQ
  cases b with
  | true => exact hK _ rfl
  | false => show (if false = true then Q true else G (fun v => Q v)); rw [if_neg (by simp)]; exact hG _ (hK _ (by simp))
theorem sin_v {a lo hi : Int} {Q : Bool → Prop} (h : Q (inP a lo hi)) : shape_in a lo hi Q := ⟨h⟩
/-- Whether windows do not fit. -/
def badOut (n k s p : Int) : Bool := (((!inP n 1 16 || !inP k 1 5) || !inP s 1 4) || !inP p 0 (k - 1)) || decide (n + 2 * p < k)
def outF (n k s p : Int) : Int := if badOut n k s p = true then 0 else (n + 2 * p - k) / s + 1
theorem out_v {n k s p : Int} {Q : Int → Prop} (h : Q (outF n k s p)) : shape_Out n k s p Q := by
  refine ⟨?_⟩
  unfold shape_Out_t
  refine sin_v ?_
  refine or_v (b := !inP n 1 16) (c := !inP k 1 5) (fun P hp => sin_v hp) (fun v2 e2 => ?_) rfl
  refine or_v (c := !inP s 1 4) (fun P hp => sin_v hp) (fun v5 e5 => ?_) rfl
  refine or_v (c := !inP p 0 (IntKind.i64.wrap (k - 1))) (fun P hp => sin_v hp) (fun v8 e8 => ?_) rfl
  have e8' : v8 = (((!inP n 1 16 || !inP k 1 5) || !inP s 1 4) || !inP p 0 (IntKind.i64.wrap (k - 1))) := by rw [e8, e5, e2]
  by_cases hc : ((!inP n 1 16 || !inP k 1 5) || !inP s 1 4) = true
  · have hv : v8 = true := by rw [e8', hc]; rfl
    have hb : badOut n k s p = true := by unfold badOut; rw [hc]; rfl
    unfold outF at h
    rw [if_pos hb] at h
    rw [hv, if_pos (by rfl)]
    exact h
  · have hc' : ((!inP n 1 16 || !inP k 1 5) || !inP s 1 4) = false := by simpa using hc
    simp only [Bool.or_eq_false_iff, Bool.not_eq_false'] at hc'
    have b1 : 1 ≤ n ∧ n ≤ 16 := by simpa [inP] using hc'.1.1
    have b2 : 1 ≤ k ∧ k ≤ 5 := by simpa [inP] using hc'.1.2
    have b3 : 1 ≤ s ∧ s ≤ 4 := by simpa [inP] using hc'.2
    rw [wrap_i64 (k - 1) (by omega) (by omega)] at e8'
    cases hv : v8 with
    | true =>
      have hb : badOut n k s p = true := by unfold badOut; rw [← e8', hv]; rfl
      unfold outF at h
      rw [if_pos hb] at h
      rw [if_pos (by rfl)]
      exact h
    | false =>
      have hp : inP p 0 (k - 1) = true := by
        rw [hv] at e8'
        have := e8'.symm
        simp only [Bool.or_eq_false_iff, Bool.not_eq_false'] at this
        exact this.2
      have b4 : 0 ≤ p ∧ p ≤ k - 1 := by simpa [inP] using hp
      rw [wrap_i64 (2 * p) (by omega) (by omega), wrap_i64 (n + 2 * p) (by omega) (by omega)]
      have hbe : badOut n k s p = decide (n + 2 * p < k) := by unfold badOut; rw [← e8', hv, Bool.false_or]
      unfold outF at h
      rw [hbe] at h
      rw [Bool.false_or]
      by_cases hl : decide (n + 2 * p < k) = true
      · rw [if_pos hl] at h ⊢; exact h
      · rw [if_neg hl] at h ⊢
        have hl2 : ¬ (n + 2 * p < k) := by simpa using hl
        have d0 : 0 ≤ (n + 2 * p - k) / s := Int.ediv_nonneg (by omega) (by omega)
        have d1 : (n + 2 * p - k) / s ≤ n + 2 * p - k := Int.ediv_le_self _ (by omega)
        refine ⟨by omega, ?_⟩
        rw [wrap_i64 (n + 2 * p - k) (by omega) (by omega), Int.tdiv_eq_ediv_of_nonneg (by omega), wrap_i64 ((n + 2 * p - k) / s) (by omega) (by omega), wrap_i64 _ (by omega) (by omega)]
        exact h

theorem badOut_inv {n k s p : Int} (h : badOut n k s p = false) : (1 ≤ n ∧ n ≤ 16) ∧ (1 ≤ k ∧ k ≤ 5) ∧ (1 ≤ s ∧ s ≤ 4) ∧ (0 ≤ p ∧ p ≤ k - 1) ∧ k ≤ n + 2 * p := by
  unfold badOut at h
  simp only [Bool.or_eq_false_iff, Bool.not_eq_false', decide_eq_false_iff_not] at h
  obtain ⟨⟨⟨⟨h1, h2⟩, h3⟩, h4⟩, h5⟩ := h
  exact ⟨by simpa [inP] using h1, by simpa [inP] using h2, by simpa [inP] using h3, by simpa [inP] using h4, by omega⟩
theorem outF_rng (n k s p : Int) : 0 ≤ outF n k s p ∧ outF n k s p ≤ 25 ∧ (1 ≤ outF n k s p → badOut n k s p = false) := by
  unfold outF
  cases hb : badOut n k s p with
  | true => rw [if_pos rfl]; exact ⟨by omega, by omega, fun h => by omega⟩
  | false =>
    rw [if_neg (by simp)]
    obtain ⟨b1, b2, b3, b4, b5⟩ := badOut_inv hb
    have d0 : 0 ≤ (n + 2 * p - k) / s := Int.ediv_nonneg (by omega) (by omega)
    have d1 : (n + 2 * p - k) / s ≤ n + 2 * p - k := Int.ediv_le_self _ (by omega)
    exact ⟨by omega, by omega, fun _ => rfl⟩
/-- Whether there is no such window. -/
def noWin (rows cols r c k s p : Int) : Bool := ((decide (outF rows k s p < 1) || decide (outF cols k s p < 1)) || !inP r 0 (outF rows k s p - 1)) || !inP c 0 (outF cols k s p - 1)
def windowF (rows cols r c k s p : Int) : List (Int × Int × Int) := if noWin rows cols r c k s p = true then [] else winF rows cols (s * r - p) (s * c - p) k.toNat k.toNat
theorem Window_v {rows cols r c k s p : Int} {Q : List (Int × Int × Int) → Prop} (h : Q (windowF rows cols r c k s p)) : place_Window rows cols r c k s p Q := by
  refine ⟨?_⟩
  unfold place_Window_t
  refine ⟨?_⟩
  unfold place_plane_out_t
  refine out_v (out_v ?_)
  obtain ⟨m1, m2, m3⟩ := outF_rng rows k s p
  obtain ⟨n1, n2, n3⟩ := outF_rng cols k s p
  unfold windowF noWin at h
  dsimp only
  rw [wrap_i64 (outF rows k s p - 1) (by omega) (by omega), wrap_i64 (outF cols k s p - 1) (by omega) (by omega)]
  refine or_v (b := decide (outF rows k s p < 1) || decide (outF cols k s p < 1)) (c := !inP r 0 (outF rows k s p - 1)) (fun P hp => pin_v hp) (fun v2 e2 => ?_) rfl
  refine or_v (c := !inP c 0 (outF cols k s p - 1)) (fun P hp => pin_v hp) (fun v5 e5 => ?_) rfl
  rw [← e2, ← e5] at h
  cases hv : v5 with
  | true => rw [hv, if_pos rfl] at h; rw [if_pos (by rfl)]; exact h
  | false =>
    rw [hv, if_neg (by simp)] at h
    rw [if_neg (by simp)]
    rw [hv, e2] at e5
    have := e5.symm
    simp only [Bool.or_eq_false_iff, Bool.not_eq_false', decide_eq_false_iff_not] at this
    obtain ⟨⟨⟨g1, g2⟩, g3⟩, g4⟩ := this
    obtain ⟨b1, b2, b3, b4, b5⟩ := badOut_inv (m3 (by omega))
    obtain ⟨c1, _⟩ := badOut_inv (n3 (by omega))
    have r1 : 0 ≤ r ∧ r ≤ outF rows k s p - 1 := by simpa [inP] using g3
    have r2 : 0 ≤ c ∧ c ≤ outF cols k s p - 1 := by simpa [inP] using g4
    have hk : ((k.toNat : Nat) : Int) = k := by omega
    have := window_v (rows := rows) (cols := cols) (stride := s) (pad := p) (r := r) (c := c) (k := k.toNat) (Q := fun r8 => Q r8) (by omega) (by omega) (by omega) (by omega) (by omega) (by omega) (by omega) h
    rw [hk] at this
    exact this

end Go.Proofs.Yteencpiamangfaa

namespace Go.Proofs.Yteencpiamangfaa
end Go.Proofs.Yteencpiamangfaa

namespace Go.Proofs.Yteencpiamangfaa
end Go.Proofs.Yteencpiamangfaa

namespace Go.Proofs.Yteencpiamangfaa
end Go.Proofs.Yteencpiamangfaa

