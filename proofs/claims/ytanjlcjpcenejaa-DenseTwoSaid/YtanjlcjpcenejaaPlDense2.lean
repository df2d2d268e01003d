/- Plain functions of the dense layer: the ways back. -/
import Derived.Test.YtanjlcjpcenejaaPlDense
namespace Go.Proofs.Ytanjlcjpcenejaa
namespace Pl
def inG (n cols : Nat) (g w : List Int) (r i o : Nat) : Int := g.getD (r * n + o) 0 * w.getD (o * cols + i) 0
def inAt (n cols : Nat) (g w : List Int) (r i : Nat) : Int := sumTo (inG n cols g w r i) n
def wtG (rows cols : Nat) (g x : List Int) (o i r : Nat) : Int := g.getD (r * rows + o) 0 * x.getD (r * cols + i) 0
def wtAt (n rows cols : Nat) (g x : List Int) (o i : Nat) : Int := sumTo (wtG rows cols g x o i) n
def bsG (cols : Nat) (g : List Int) (o r : Nat) : Int := g.getD (r * cols + o) 0
def bsAt (n cols : Nat) (g : List Int) (o : Nat) : Int := sumTo (bsG cols g o) n
theorem row_lt (k n c i m : Nat) (hk : k < n) (hi : i < c) (h : n * c ≤ m) : k * c + i < m := by
  have h1 : (k + 1) * c ≤ n * c := Nat.mul_le_mul_right c hk
  rw [Nat.add_mul, Nat.one_mul] at h1
  omega
end Pl
end Go.Proofs.Ytanjlcjpcenejaa
