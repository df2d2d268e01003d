/- Plain functions of the dense layer. -/
import Derived.Test.YtanjlcjpcenejaaPlain
namespace Go.Proofs.Ytanjlcjpcenejaa
namespace Pl
/-- A number as 32 bits keep it. -/
def w32 (x : Int) : Int := (x + 2147483648) % 4294967296 - 2147483648
theorem w32_in (x : Int) (h : -2147483648 ≤ x) (k : x < 2147483648) : w32 x = x := by unfold w32; omega
/-- dense.Fits. -/
def fits (n : Int) : Bool := decide (0 ≤ n ∧ n ≤ 1023 ∧ n * 16384 + 1048576 < 16777216)
/-- dense.made. -/
def madeErr (rows cols n exp : Int) : Int :=
  if fits n = false ∨ 128 < exp ∨ exp < -128 then 3 else if size [rows, cols] ≤ 0 then 1 else 0
def madeData (rows cols : Nat) (f : Nat → Nat → Int) : List Int := (List.range (rows * cols)).map fun j => w32 (f (j / cols) (j % cols))
/-- The first k of them. -/
def madeTo (cols k : Nat) (f : Nat → Nat → Int) : List Int := (List.range k).map fun j => w32 (f (j / cols) (j % cols))
theorem madeTo_succ (cols r c : Nat) (f : Nat → Nat → Int) (h : c < cols) : madeTo cols (r * cols + c + 1) f = madeTo cols (r * cols + c) f ++ [w32 (f r c)] := by
  unfold madeTo
  rw [List.range_succ, List.map_append]
  congr 1
  simp only [List.map_cons, List.map_nil]
  rw [show (r * cols + c) / cols = r by rw [Nat.mul_comm, Nat.mul_add_div (by omega), Nat.div_eq_of_lt h]; rfl, show (r * cols + c) % cols = c by rw [Nat.mul_comm, Nat.mul_add_mod, Nat.mod_eq_of_lt h]]
theorem madeTo_length (cols k : Nat) (f : Nat → Nat → Int) : (madeTo cols k f).length = k := by simp [madeTo]
theorem size2 (r c : Int) (h : 0 < size [r, c]) : 1 ≤ r ∧ r ≤ 4096 ∧ 1 ≤ c ∧ c ≤ 4096 ∧ r * c ≤ 8192 ∧ size [r, c] = r * c := by
  have e : size [r, c] = if r < 1 ∨ 4096 < r ∨ 8192 < 1 * r then 0 else if c < 1 ∨ 4096 < c ∨ 8192 < 1 * r * c then 0 else 1 * r * c := rfl
  rw [e] at h ⊢
  rw [Int.one_mul] at h ⊢
  by_cases h1 : r < 1 ∨ 4096 < r ∨ 8192 < r
  · rw [if_pos h1] at h; omega
  · rw [if_neg h1] at h ⊢
    by_cases h2 : c < 1 ∨ 4096 < c ∨ 8192 < r * c
    · rw [if_pos h2] at h; omega
    · rw [if_neg h2]; omega
/-- A sum of so many numbers. -/
def sumTo (g : Nat → Int) : Nat → Int
  | 0 => 0
  | n + 1 => sumTo g n + g n
theorem sumTo_bd (g : Nat → Int) (B : Int) (n : Nat) (h : ∀ i, i < n → -B ≤ g i ∧ g i ≤ B) : -(B * n) ≤ sumTo g n ∧ sumTo g n ≤ B * n := by
  induction n with
  | zero => simp [sumTo]
  | succ n ih =>
    have h1 := ih fun i hi => h i (by omega)
    have h2 := h n (by omega)
    have e : B * ((n + 1 : Nat) : Int) = B * n + B := by rw [Int.natCast_add, Int.mul_add]; simp
    simp only [sumTo]
    omega
theorem sumTo_congr (f g : Nat → Int) (n : Nat) (h : ∀ i, i < n → f i = g i) : sumTo f n = sumTo g n := by
  induction n with
  | zero => rfl
  | succ n ih => simp only [sumTo]; rw [ih fun i hi => h i (by omega), h n (by omega)]
/-- Small numbers: eight bits. -/
def All8 (l : List Int) : Prop := ∀ y ∈ l, -128 ≤ y ∧ y ≤ 127
theorem All8.at_ {l : List Int} (h : All8 l) (i : Nat) : -128 ≤ l.getD i 0 ∧ l.getD i 0 ≤ 127 := by
  rw [List.getD_eq_getElem?_getD]
  cases hq : l[i]? with
  | none => simp
  | some y => exact h y (List.mem_of_getElem? hq)
theorem mul8 (a b : Int) (h : -128 ≤ a ∧ a ≤ 127) (k : -128 ≤ b ∧ b ≤ 127) : -16384 ≤ a * b ∧ a * b ≤ 16384 := by
  rcases Int.le_total 0 b with hb | hb
  · have := mul_bd a b 128 128 (by omega) (by omega) hb (by omega) (by omega)
    omega
  · have := mul_bd a (-b) 128 128 (by omega) (by omega) (by omega) (by omega) (by omega)
    rw [Int.mul_neg] at this
    omega
theorem align_bd (v a b : Int) (h : -128 ≤ v ∧ v ≤ 127) : -1048576 ≤ align v a b ∧ align v a b ≤ 1048576 := by
  unfold align
  rw [value_in v (by omega) (by omega)]
  generalize between a (-1000) 1000 - between b (-1000) 1000 = y
  unfold alignBy
  split
  · split
    · omega
    · have h1 := pow2_le (-y).toNat 62 (by omega)
      have h2 : (0 : Int) < 2 ^ (-y).toNat := by omega
      have h3 : v / 2 ^ (-y).toNat ≤ 127 := by
        have := Int.ediv_le_ediv h2 h.2
        have h5 : (127 : Int) / 2 ^ (-y).toNat ≤ 127 := Int.ediv_le_self _ (by omega)
        omega
      have h4 : -128 ≤ v / 2 ^ (-y).toNat := by
        rw [Int.le_ediv_iff_mul_le h2]
        have : (128 : Int) * 1 ≤ 128 * 2 ^ (-y).toNat := Int.mul_le_mul_of_nonneg_left h1.1 (by omega)
        omega
      omega
  · split
    · split
      · omega
      · split <;> omega
    · exact ⟨between_lo _ _ _, between_hi _ _ _ (by omega)⟩
/-- dense.Forward's sum. -/
def fwdG (n : Nat) (x w : List Int) (r o i : Nat) : Int := x.getD (r * n + i) 0 * w.getD (o * n + i) 0
def fwdAt (n : Nat) (exp : Int) (x w b : List Int) (be : Int) (r o : Nat) : Int := align (b.getD o 0) be exp + sumTo (fwdG n x w r o) n

end Pl
end Go.Proofs.Ytanjlcjpcenejaa
