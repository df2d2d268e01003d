/- A window's places as a list. Laws; no condition. -/
import Derived.Test.YtmleeffinagncaaQ1
namespace Go.Proofs.Ytmleeffinagncaa
open Go.Mach Go.RowKit Go.Fl
set_option maxRecDepth 100000
set_option linter.unusedVariables false
set_option linter.unusedSimpArgs false

/-- The place i, j of a window whose corner is cr, cc: it is there if the plane has it. -/
def winCell (rows cols cr cc : Int) (i j : Nat) : List (Int × Int × Int) :=
  if (inP (cr + i) 0 (rows - 1) && inP (cc + j) 0 (cols - 1)) = true then [((cr + i) * cols + (cc + j), (i : Int), (j : Int))] else []
def winRow (rows cols cr cc : Int) (i k : Nat) : List (Int × Int × Int) := (List.range k).flatMap (winCell rows cols cr cc i)
theorem winCell_len (rows cols cr cc : Int) (i j : Nat) : (winCell rows cols cr cc i j).length ≤ 1 := by
  unfold winCell; split <;> simp
theorem winRow_succ {rows cols cr cc : Int} {i k : Nat} : winRow rows cols cr cc i (k + 1) = winRow rows cols cr cc i k ++ winCell rows cols cr cc i k := by
  unfold winRow
  rw [List.range_succ, List.flatMap_append]
  simp
theorem winRow_len {rows cols cr cc : Int} {i : Nat} : ∀ k, (winRow rows cols cr cc i k).length ≤ k
  | 0 => by simp [winRow]
  | k + 1 => by
    rw [winRow_succ, List.length_append]
    have := winRow_len (rows := rows) (cols := cols) (cr := cr) (cc := cc) (i := i) k
    have := winCell_len rows cols cr cc i k
    omega
theorem wrow_v {z : Nat × Nat} {rows cols cr cc : Int} {i k : Nat} {acc : List (Int × Int × Int)} {K0 : (Nat × Nat) × List (Int × Int × Int) → Prop} (hz : CWord z cr cc) (hr : 0 ≤ rows ∧ rows ≤ 1000) (hc : 0 ≤ cols ∧ cols ≤ 1000) (hcr : -100000 ≤ cr ∧ cr ≤ 100000) (hcc : -100000 ≤ cc ∧ cc ≤ 100000) (hi : i ≤ 1000) (hk : k ≤ 1000) (ha : acc.length ≤ 1000000)
    (h : K0 ((z.1, z.2), acc ++ winRow rows cols cr cc i k)) : place_plane_window_n1 (i : Int) (k : Int) rows cols K0 ((z.1, z.2), 0, acc) := by
  refine ⟨?_⟩
  have eg : ((z.1, z.2), (0 : Int), acc) = (fun j : Nat => ((z.1, z.2), (j : Int), acc ++ winRow rows cols cr cc i j)) 0 := by simp [winRow]
  rw [eg]
  refine Loop.range (B := place_plane_window_n1_B (i : Int) (k : Int) rows cols K0) (f := fun j : Nat => ((z.1, z.2), (j : Int), acc ++ winRow rows cols cr cc i j)) k (fun _ => True) trivial ?_ ?_
  · intro j hj _ X hX
    have hX := hX trivial
    unfold place_plane_window_n1_B
    rw [if_pos (decide_eq_true (show (j : Int) < (k : Int) by omega))]
    dsimp only at hX ⊢
    refine of_v (by omega) (by omega) fun u hu => ?_
    obtain ⟨r, e, hrr⟩ := cword_add hz hu (by omega) (by omega)
    refine ⟨r, e, to_v (z := r) hrr ?_⟩
    have hlen := winRow_len (rows := rows) (cols := cols) (cr := cr) (cc := cc) (i := i) j
    have e1 : IntKind.i64.wrap (rows - 1) = rows - 1 := wrap_i64 _ (by omega) (by omega)
    have e2 : IntKind.i64.wrap (cols - 1) = cols - 1 := wrap_i64 _ (by omega) (by omega)
    rw [winRow_succ, ← List.append_assoc] at hX
    by_cases hin : (inP (cr + i) 0 (rows - 1) && inP (cc + j) 0 (cols - 1)) = true
    · have ew : winCell rows cols cr cc i j = [((cr + i) * cols + (cc + j), (i : Int), (j : Int))] := by unfold winCell; rw [if_pos hin]
      simp only [Bool.and_eq_true] at hin
      have b1 : 0 ≤ cr + i ∧ cr + i ≤ rows - 1 := by simpa [inP] using hin.1
      have b2 : 0 ≤ cc + j ∧ cc + j ≤ cols - 1 := by simpa [inP] using hin.2
      have m1 : 0 ≤ (cr + i) * cols := Int.mul_nonneg b1.1 hc.1
      have m2 : (cr + i) * cols ≤ 1000 * 1000 := Int.mul_le_mul (by omega) hc.2 hc.1 (by omega)
      rw [inP_of (by omega) (by omega), inP_of (by omega) (by omega), if_pos (by rfl)]
      simp only [jn, if_true]
      refine pin_v ?_
      rw [e1, hin.1]
      simp only [if_true]
      refine pin_v ?_
      rw [e2, hin.2]
      simp only [if_true]
      refine ⟨?_, ⟨?_⟩⟩
      · simp only [List.length_append, List.length_singleton]; omega
      · unfold place_plane_window_n2_t
        rw [wrap_i64 ((j : Int) + 1) (by omega) (by omega), wrap_i64 ((cr + i) * cols) (by omega) (by omega), wrap_i64 ((cr + i) * cols + (cc + j)) (by omega) (by omega)]
        rw [ew] at hX
        exact hX
    · have ew : winCell rows cols cr cc i j = [] := by unfold winCell; rw [if_neg hin]
      rw [ew, List.append_nil] at hX
      have skip : place_plane_window_n2 (j : Int) (fun (y28 : Int) => X ((z.1, z.2), y28, acc ++ winRow rows cols cr cc i j)) := by
        refine ⟨?_⟩
        unfold place_plane_window_n2_t
        rw [wrap_i64 ((j : Int) + 1) (by omega) (by omega)]
        exact hX
      by_cases hb : (inP (cr + i) (-1000) 1000 && inP (cc + j) (-1000) 1000) = true
      · rw [if_pos hb]
        simp only [jn, if_true]
        refine pin_v ?_
        rw [e1]
        cases h1 : inP (cr + i) 0 (rows - 1) with
        | false => simp only [Bool.false_eq_true, if_false]; exact skip
        | true =>
          simp only [if_true]
          refine pin_v ?_
          rw [e2]
          cases h2 : inP (cc + j) 0 (cols - 1) with
          | false => simp only [Bool.false_eq_true, if_false]; exact skip
          | true => rw [h1, h2] at hin; exact absurd rfl hin
      · rw [if_neg hb]
        simp only [jn, Bool.false_eq_true, if_false]
        exact skip
  · intro _ X
    unfold place_plane_window_n1_B
    rw [if_neg (by simp)]
    exact h

/-- The places of a window. -/
def winF (rows cols cr cc : Int) (k : Nat) (m : Nat) : List (Int × Int × Int) := (List.range m).flatMap fun i => winRow rows cols cr cc i k
theorem winF_succ {rows cols cr cc : Int} {k m : Nat} : winF rows cols cr cc k (m + 1) = winF rows cols cr cc k m ++ winRow rows cols cr cc m k := by
  unfold winF
  rw [List.range_succ, List.flatMap_append]
  simp
theorem winF_len {rows cols cr cc : Int} {k : Nat} : ∀ m, (winF rows cols cr cc k m).length ≤ m * k
  | 0 => by simp [winF]
  | m + 1 => by
    rw [winF_succ, List.length_append, Nat.succ_mul]
    have := winF_len (rows := rows) (cols := cols) (cr := cr) (cc := cc) (k := k) m
    have := winRow_len (rows := rows) (cols := cols) (cr := cr) (cc := cc) (i := m) k
    omega
theorem window_v {rows cols stride pad r c : Int} {k : Nat} {Q : List (Int × Int × Int) → Prop} (hr : 0 ≤ rows ∧ rows ≤ 1000) (hc : 0 ≤ cols ∧ cols ≤ 1000) (hs : 0 ≤ stride ∧ stride ≤ 100) (hp : 0 ≤ pad ∧ pad ≤ 100) (h1 : 0 ≤ r ∧ r ≤ 900) (h2 : 0 ≤ c ∧ c ≤ 900) (hk : k ≤ 900)
    (h : Q (winF rows cols (stride * r - pad) (stride * c - pad) k k)) : place_plane_window (rows, cols, (k : Int), stride, pad) r c Q := by
  have m1 : 0 ≤ stride * r := Int.mul_nonneg hs.1 h1.1
  have m2 : stride * r ≤ 100 * 900 := Int.mul_le_mul hs.2 h1.2 h1.1 (by omega)
  have m3 : 0 ≤ stride * c := Int.mul_nonneg hs.1 h2.1
  have m4 : stride * c ≤ 100 * 900 := Int.mul_le_mul hs.2 h2.2 h2.1 (by omega)
  refine ⟨?_⟩
  unfold place_plane_window_t
  dsimp only
  refine of_v (by show -1000 ≤ stride ∧ stride ≤ 1000; omega) (by omega) fun u hu => ?_
  refine of_v (by omega) (by omega) fun v hv => ?_
  obtain ⟨p, e1, hpw⟩ := cword_mul hu hv (by omega) (by rw [Int.zero_mul]; decide) (by omega) (by rw [Int.zero_mul]; decide)
  refine ⟨p, e1, ?_⟩
  refine of_v (by show -1000 ≤ pad ∧ pad ≤ 1000; omega) (by show -1000 ≤ pad ∧ pad ≤ 1000; omega) fun q hq => ?_
  rw [Int.zero_mul, Int.zero_mul, Int.sub_zero, Int.add_zero] at hpw
  obtain ⟨z, e2, hz⟩ := cword_sub hpw hq (by omega) (by omega)
  refine ⟨z, e2, ⟨?_⟩⟩
  show Go.Mach.Loop (place_plane_window_n0_B (k : Int) rows cols (k : Int) (fun y => Q y)) ((z.1, z.2), 0, [])
  have eg : ((z.1, z.2), (0 : Int), ([] : List (Int × Int × Int))) = (fun i : Nat => ((z.1, z.2), (i : Int), winF rows cols (stride * r - pad) (stride * c - pad) k i)) 0 := by simp [winF]
  rw [eg]
  refine Loop.range (B := place_plane_window_n0_B (k : Int) rows cols (k : Int) (fun y => Q y)) (f := fun i : Nat => ((z.1, z.2), (i : Int), winF rows cols (stride * r - pad) (stride * c - pad) k i)) k (fun _ => True) trivial ?_ ?_
  · intro i hi _ X hX
    have hX := hX trivial
    unfold place_plane_window_n0_B
    rw [if_pos (decide_eq_true (show (i : Int) < (k : Int) by omega))]
    dsimp only at hX ⊢
    have hl := winF_len (rows := rows) (cols := cols) (cr := stride * r - pad) (cc := stride * c - pad) (k := k) i
    have hm : i * k ≤ 900 * 900 := Nat.mul_le_mul (by omega) hk
    refine wrow_v (z := z) hz hr hc (by omega) (by omega) (by omega) (by omega) (by omega) ?_
    rw [wrap_i64 ((i : Int) + 1) (by omega) (by omega)]
    rw [winF_succ] at hX
    exact hX
  · intro _ X
    unfold place_plane_window_n0_B
    rw [if_neg (by simp)]
    exact h

end Go.Proofs.Ytmleeffinagncaa
