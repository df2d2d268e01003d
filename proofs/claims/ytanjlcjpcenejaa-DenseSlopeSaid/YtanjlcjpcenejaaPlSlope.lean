/- THE WAY BACK IS THE SLOPE, in plain numbers. -/
import Derived.Test.YtanjlcjpcenejaaPlDense2
namespace Go.Proofs.Ytanjlcjpcenejaa
namespace Pl
/-- One number of a row is one more. -/
def bump (l : List Int) (i : Nat) : List Int := l.set i (l.getD i 0 + 1)
theorem bump_len (l : List Int) (i : Nat) : (bump l i).length = l.length := by simp [bump]
theorem bump_at (l : List Int) (i j : Nat) (h : i < l.length) : (bump l i).getD j 0 = l.getD j 0 + (if j = i then 1 else 0) := by
  unfold bump
  rw [List.getD_eq_getElem?_getD, List.getElem?_set]
  by_cases e : i = j
  · subst e; simp [h]
  · rw [if_neg e, if_neg (fun q => e q.symm), Int.add_zero, List.getD_eq_getElem?_getD]
theorem sumTo_add (f g : Nat → Int) (n : Nat) : sumTo (fun j => f j + g j) n = sumTo f n + sumTo g n := by
  induction n with
  | zero => rfl
  | succ n ih => simp only [sumTo]; rw [ih]; omega
theorem sumTo_zero (n : Nat) : sumTo (fun _ => 0) n = 0 := by
  induction n with
  | zero => rfl
  | succ n ih => simp only [sumTo]; rw [ih]; omega
theorem sumTo_one (t : Nat) (c : Nat → Int) (n : Nat) : sumTo (fun j => if j = t then c j else 0) n = if t < n then c t else 0 := by
  induction n with
  | zero => simp [sumTo]
  | succ n ih =>
    simp only [sumTo]
    rw [ih]
    by_cases e : n = t
    · subst e
      rw [if_neg (by omega), if_pos rfl, if_pos (by omega)]
      omega
    · rw [if_neg e]
      by_cases h : t < n
      · rw [if_pos h, if_pos (by omega)]; omega
      · rw [if_neg h, if_neg (by omega)]; omega
theorem sumTo_app (f : Nat → Int) (a b : Nat) : sumTo f (a + b) = sumTo f a + sumTo (fun j => f (a + j)) b := by
  induction b with
  | zero => simp [sumTo]
  | succ b ih => rw [← Nat.add_assoc]; simp only [sumTo]; rw [ih]; omega
theorem sumTo_two (F : Nat → Nat → Int) (n m : Nat) (hm : 0 < m) : sumTo (fun j => F (j / m) (j % m)) (n * m) = sumTo (fun r => sumTo (F r) m) n := by
  induction n with
  | zero => simp [sumTo]
  | succ n ih =>
    rw [Nat.add_mul, Nat.one_mul, sumTo_app, ih]
    simp only [sumTo]
    congr 1
    apply sumTo_congr
    intro j hj
    rw [show (n * m + j) / m = n by rw [Nat.mul_comm, Nat.mul_add_div hm, Nat.div_eq_of_lt hj]; rfl, show (n * m + j) % m = j by rw [Nat.mul_comm, Nat.mul_add_mod, Nat.mod_eq_of_lt hj]]

/-- Forward's change where one number of x is one more. -/
theorem fwd_bump_x (k : Nat) (e be : Int) (x v b : List Int) (r o i : Nat) (hi : i < x.length) (hk : 0 < k) :
    fwdAt k e (bump x i) v b be r o - fwdAt k e x v b be r o = if r = i / k then v.getD (o * k + i % k) 0 else 0 := by
  unfold fwdAt
  have h : sumTo (fwdG k (bump x i) v r o) k = sumTo (fun j => fwdG k x v r o j + (if j = i - r * k then (if r * k ≤ i then v.getD (o * k + j) 0 else 0) else 0)) k := by
    apply sumTo_congr
    intro j hj
    unfold fwdG
    rw [bump_at x i _ hi, Int.add_mul]
    congr 1
    by_cases q : r * k + j = i
    · rw [if_pos q, if_pos (by omega), if_pos (by omega), Int.one_mul]
    · rw [if_neg q, Int.zero_mul]
      by_cases q2 : j = i - r * k
      · rw [if_pos q2, if_neg (by omega)]
      · rw [if_neg q2]
  rw [h, sumTo_add, sumTo_one]
  have hd := Nat.div_add_mod i k
  have hm := Nat.mod_lt i hk
  rw [Nat.mul_comm] at hd
  generalize i / k = a at *
  generalize i % k = c at *
  by_cases q : r = a
  · subst q
    rw [if_pos rfl, if_pos (by omega), if_pos (by omega), show i - r * k = c by omega]
    omega
  · rw [if_neg q]
    by_cases q1 : r * k ≤ i
    · rw [if_pos q1]
      by_cases q2 : i - r * k < k
      · exfalso
        rcases Nat.lt_or_ge r a with h1 | h1
        · have h2 := Nat.mul_le_mul_right k (show r + 1 ≤ a from h1)
          rw [Nat.add_mul, Nat.one_mul] at h2
          omega
        · have h2 := Nat.mul_le_mul_right k (show a + 1 ≤ r by omega)
          rw [Nat.add_mul, Nat.one_mul] at h2
          omega
      · rw [if_neg q2]; omega
    · rw [if_neg q1]
      split <;> omega
/-- Forward's change where one number of w is one more. -/
theorem fwd_bump_w (k : Nat) (e be : Int) (x v b : List Int) (r o i : Nat) (hi : i < v.length) (hk : 0 < k) :
    fwdAt k e x (bump v i) b be r o - fwdAt k e x v b be r o = if o = i / k then x.getD (r * k + i % k) 0 else 0 := by
  have h := fwd_bump_x k e be v x b o r i hi hk
  unfold fwdAt at h ⊢
  have e1 : ∀ y : List Int, sumTo (fwdG k x y r o) k = sumTo (fwdG k y x o r) k := fun y => sumTo_congr _ _ _ fun j _ => Int.mul_comm _ _
  rw [e1, e1]
  omega
theorem slope_x (n k m : Nat) (e be : Int) (x v b h : List Int) (i : Nat) (hi : i < n * k) (hx : x.length = n * k) (hk : 0 < k) (hm : 0 < m) :
    sumTo (fun j => h.getD j 0 * (fwdAt k e (bump x i) v b be (j / m) (j % m) - fwdAt k e x v b be (j / m) (j % m))) (n * m) = inAt m k h v (i / k) (i % k) := by
  have h1 : sumTo (fun j => h.getD j 0 * (fwdAt k e (bump x i) v b be (j / m) (j % m) - fwdAt k e x v b be (j / m) (j % m))) (n * m)
      = sumTo (fun j => (fun r o => if r = i / k then h.getD (r * m + o) 0 * v.getD (o * k + i % k) 0 else 0) (j / m) (j % m)) (n * m) := by
    apply sumTo_congr
    intro j _
    rw [fwd_bump_x k e be x v b _ _ i (by omega) hk]
    have hd := Nat.div_add_mod j m
    rw [Nat.mul_comm] at hd
    simp only
    rw [hd]
    split
    · rfl
    · rw [Int.mul_zero]
  rw [h1, sumTo_two (fun r o => if r = i / k then h.getD (r * m + o) 0 * v.getD (o * k + i % k) 0 else 0) n m hm]
  have h2 : sumTo (fun r => sumTo (fun o => if r = i / k then h.getD (r * m + o) 0 * v.getD (o * k + i % k) 0 else 0) m) n
      = sumTo (fun r => if r = i / k then (fun r => sumTo (fun o => h.getD (r * m + o) 0 * v.getD (o * k + i % k) 0) m) r else 0) n := by
    apply sumTo_congr
    intro r _
    by_cases q : r = i / k
    · simp only [if_pos q]
    · simp only [if_neg q, sumTo_zero]
  rw [h2, sumTo_one, if_pos (by rw [Nat.div_lt_iff_lt_mul hk]; exact hi)]
  rfl
theorem slope_w (n k m : Nat) (e be : Int) (x v b h : List Int) (i : Nat) (hi : i < m * k) (hv : v.length = m * k) (hk : 0 < k) (hm : 0 < m) :
    sumTo (fun j => h.getD j 0 * (fwdAt k e x (bump v i) b be (j / m) (j % m) - fwdAt k e x v b be (j / m) (j % m))) (n * m) = wtAt n m k h x (i / k) (i % k) := by
  have h1 : sumTo (fun j => h.getD j 0 * (fwdAt k e x (bump v i) b be (j / m) (j % m) - fwdAt k e x v b be (j / m) (j % m))) (n * m)
      = sumTo (fun j => (fun r o => if o = i / k then h.getD (r * m + o) 0 * x.getD (r * k + i % k) 0 else 0) (j / m) (j % m)) (n * m) := by
    apply sumTo_congr
    intro j _
    rw [fwd_bump_w k e be x v b _ _ i (by omega) hk]
    have hd := Nat.div_add_mod j m
    rw [Nat.mul_comm] at hd
    simp only
    rw [hd]
    split
    · rfl
    · rw [Int.mul_zero]
  rw [h1, sumTo_two (fun r o => if o = i / k then h.getD (r * m + o) 0 * x.getD (r * k + i % k) 0 else 0) n m hm]
  unfold wtAt
  apply sumTo_congr
  intro r _
  rw [sumTo_one (i / k) (fun o => h.getD (r * m + o) 0 * x.getD (r * k + i % k) 0), if_pos (by rw [Nat.div_lt_iff_lt_mul hk]; exact hi)]
  rfl
end Pl
end Go.Proofs.Ytanjlcjpcenejaa
