/- Plain functions on numbers and lists: what the program's functions compute. No program in sight. -/
namespace Go.Proofs.Ytanjlcjpcenejaa
namespace Pl

/-- shape.Size's loop. -/
def sizeGo : List Int → Int → Int
  | [], n => n
  | x :: r, n => if x < 1 ∨ 4096 < x ∨ 8192 < n * x then 0 else sizeGo r (n * x)
def size (ds : List Int) : Int := if ds.length < 1 ∨ 4 < ds.length then 0 else sizeGo ds 1

theorem sizeGo_bd : ∀ (ds : List Int) (n : Int), 0 ≤ n → n ≤ 8192 → 0 ≤ sizeGo ds n ∧ sizeGo ds n ≤ 8192
  | [], n, h, k => by simp [sizeGo]; exact ⟨h, k⟩
  | x :: r, n, h, k => by
    unfold sizeGo
    split
    · omega
    · rename_i hx
      have h1 : 0 ≤ n * x := Int.mul_nonneg h (by omega)
      exact sizeGo_bd r (n * x) h1 (by omega)
theorem size_bd (ds : List Int) : 0 ≤ size ds ∧ size ds ≤ 8192 := by
  unfold size
  split
  · omega
  · exact sizeGo_bd ds 1 (by omega) (by omega)

/-- round.between. -/
def between (n a b : Int) : Int := max a (min n b)
theorem between_in (n a b : Int) (h : a ≤ n) (k : n ≤ b) : between n a b = n := by unfold between; omega
theorem between_lo (n a b : Int) : a ≤ between n a b := by unfold between; omega
theorem between_hi (n a b : Int) (h : a ≤ b) : between n a b ≤ b := by unfold between; omega
def value (v : Int) : Int := between v (-4611686018427387904) 4611686018427387904
theorem value_in (v : Int) (h : -4611686018427387904 ≤ v) (k : v ≤ 4611686018427387904) : value v = v := between_in v _ _ h k

/-- round.Align. -/
def alignBy (v y : Int) : Int :=
  if y < 0 then (if 62 < -y then v / 4611686018427387904 else v / 2 ^ (-y).toNat)
  else if 20 < y then (if 0 < v then 1048576 else if v < 0 then -1048576 else 0)
  else between (between v (-1048576) 1048576 * 2 ^ y.toNat) (-1048576) 1048576
def align (v a b : Int) : Int := alignBy (value v) (between a (-1000) 1000 - between b (-1000) 1000)
theorem pow2_le (k n : Nat) (h : k ≤ n) : (1 : Int) ≤ 2 ^ k ∧ (2 : Int) ^ k ≤ 2 ^ n := by
  refine ⟨?_, ?_⟩
  · have : (1 : Int) ≤ ((2 ^ k : Nat) : Int) := by have := Nat.one_le_two_pow (n := k); omega
    simpa using this
  · have : ((2 ^ k : Nat) : Int) ≤ ((2 ^ n : Nat) : Int) := by have := Nat.pow_le_pow_right (n := 2) (by omega) h; omega
    simpa using this
theorem mul_bd (a b A B : Int) (h1 : -A ≤ a) (h2 : a ≤ A) (h3 : 0 ≤ b) (h4 : b ≤ B) (hA : 0 ≤ A) : -(A * B) ≤ a * b ∧ a * b ≤ A * B := by
  have e1 : a * b ≤ A * b := Int.mul_le_mul_of_nonneg_right h2 h3
  have e2 : A * b ≤ A * B := Int.mul_le_mul_of_nonneg_left h4 hA
  have e3 : -A * b ≤ a * b := Int.mul_le_mul_of_nonneg_right h1 h3
  have e4 : -A * b = -(A * b) := Int.neg_mul A b
  omega
theorem align_shl (v y : Int) (h : y ≤ 20) : -1099511627776 ≤ between v (-1048576) 1048576 * 2 ^ y.toNat ∧ between v (-1048576) 1048576 * 2 ^ y.toNat ≤ 1099511627776 := by
  have h1 := between_lo v (-1048576) 1048576
  have h2 := between_hi v (-1048576) 1048576 (by omega)
  have h3 := pow2_le y.toNat 20 (by omega)
  have h4 := mul_bd _ (2 ^ y.toNat) 1048576 1048576 h1 h2 (by omega) h3.2 (by omega)
  omega
/-- slices.Index: the first place of x, from the number k on; -1 where there is none. -/
def idxGo (x : Int) : List Int → Int → Int
  | [], _ => -1
  | y :: r, k => if x = y then k else idxGo x r (k + 1)
/-- slices.Contains. -/
def has (x : Int) (l : List Int) : Bool := decide (0 ≤ idxGo x l 0)
theorem idxGo_drop (x : Int) (l : List Int) (k : Nat) (m : Int) (h : k < l.length) :
    idxGo x (l.drop k) m = if x = l.getD k 0 then m else idxGo x (l.drop (k + 1)) (m + 1) := by
  rw [List.drop_eq_getElem_cons h]
  simp only [idxGo, List.getD_eq_getElem?_getD, List.getElem?_eq_getElem h, Option.getD_some]
theorem idxGo_iff (x : Int) : ∀ (l : List Int) (k : Int), 0 ≤ k → (0 ≤ idxGo x l k ↔ x ∈ l)
  | [], k, h => by simp [idxGo]
  | y :: r, k, h => by
    unfold idxGo
    split
    · rename_i e; simp [e, h]
    · rename_i e; rw [idxGo_iff x r (k + 1) (by omega)]; simp [e]
theorem has_iff (x : Int) (l : List Int) : has x l = true ↔ x ∈ l := by unfold has; rw [decide_eq_true_iff]; exact idxGo_iff x l 0 (by omega)
theorem has_not (x : Int) (l : List Int) : has x l = false ↔ x ∉ l := by
  rw [← has_iff]; simp
/-- tensor.exp. -/
def expOk (e m : Int) : Bool := decide (-m ≤ e ∧ e ≤ m)

/-- A tensor, read. -/
structure Ten where
  dims : List Int
  exp : Int
  data : List Int
/-- Sums, read. -/
structure Sums where
  dims : List Int
  exp : Int
  data : List Int
/-- tensor.May. -/
def mayT (t : Ten) : Bool := decide (0 < size t.dims) && decide ((t.data.length : Int) = size t.dims) && expOk t.exp 64 && !has (-128) t.data
theorem mayT_size (t : Ten) (h : size t.dims ≤ 0) : mayT t = false := by simp [mayT, show ¬ 0 < size t.dims by omega]
theorem mayT_len (t : Ten) (h : (t.data.length : Int) ≠ size t.dims) : mayT t = false := by simp [mayT, h]
theorem mayT_exp (t : Ten) (h : expOk t.exp 64 = false) : mayT t = false := by simp [mayT, h]
theorem mayT_has (t : Ten) (h1 : 0 < size t.dims) (h2 : (t.data.length : Int) = size t.dims) (h : expOk t.exp 64 = true) : mayT t = !has (-128) t.data := by simp [mayT, h, h1, h2]

/-- dense.may: the first tensor that may not be, then the first of other lengths than L. -/
def allMay : List Ten → Bool
  | [] => true
  | t :: r => mayT t && allMay r
def allLen (L : Int) : List Ten → Bool
  | [] => true
  | t :: r => decide ((t.dims.length : Int) = L) && allLen L r
def mayErr (L : Int) (ts : List Ten) : Int := if allMay ts = false then 1 else if allLen L ts = false then 2 else 0

end Pl
end Go.Proofs.Ytanjlcjpcenejaa
