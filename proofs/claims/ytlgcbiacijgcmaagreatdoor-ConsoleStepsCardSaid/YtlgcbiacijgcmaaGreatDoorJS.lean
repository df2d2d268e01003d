/- The states of learning of the console's net, step by step, as blocks; what the calls come to, as entries. Plain definitions; no condition. -/
import Derived.Test.YtlgcbiacijgcmaaGreatDoorJE
import Derived.Test.YtlgcbiacijgcmaaGreatDoorProg
namespace Go.Mach.J
open Go Go.Mach

def q0 : Nat := 960
def stepN : Nat := 1829
def offP : Nat := 1828
def n0 : Nat := 2789
/-- A state's blocks, from p on. -/
def SBd (x : Bool) (e0 e1 e2 e3 : Value) (l2 l3 l5 l7 l8 l10 : List Value) (p : Nat) : DomK := [(p + 1828, .l [z, i 0, z, z, z, i 0, z, s (p + 1628) 0 2 2, e0, s (p + 1661) 0 16 16, s (p + 1575) 0 16 16, s (p + 1666) 0 1 1, e1, s (p + 1679) 0 4 4, z, i 0, z, z, z, i 0, z, s (p + 1796) 0 2 2, e2, s (p + 1813) 0 8 8, s (p + 1767) 0 8 8, s (p + 1818) 0 1 1, e3, s (p + 1825) 0 2 2] 7 false),
  (p + 1628, .l [i 4, i 4] 1 false),
  (p + 1661, .l l2 1 x),
  (p + 1575, .l l3 1 x),
  (p + 1666, .l [i 4] 1 false),
  (p + 1679, .l l5 1 x),
  (p + 1796, .l [i 2, i 4] 1 false),
  (p + 1813, .l l7 1 x),
  (p + 1767, .l l8 1 x),
  (p + 1818, .l [i 2] 1 false),
  (p + 1825, .l l10 1 x)]
theorem SBd_rng (x : Bool) (e0 e1 e2 e3 : Value) (l2 l3 l5 l7 l8 l10 : List Value) (p : Nat) : ∀ y ∈ SBd x e0 e1 e2 e3 l2 l3 l5 l7 l8 l10 p, p ≤ y.1 ∧ y.1 < p + stepN := by
  intro y hy
  simp only [SBd, List.mem_cons, List.not_mem_nil, or_false] at hy
  have : stepN = 1829 := rfl
  rcases hy with rfl | rfl | rfl | rfl | rfl | rfl | rfl | rfl | rfl | rfl | rfl <;> (constructor <;> (simp only; omega))
def S0 : Nat → DomK := SBd true (i' 6) (i' 6) (i' 6) (i' 6) [b 0, b' 11, b 11, b 24, b' 23, b 4, b' 13, b 22, b' 22, b' 23, b 4, b 9, b' 9, b' 2, b 16, b' 19] [d 0, d 0, d 0, d 0, d 0, d 0, d 0, d 0, d 0, d 0, d 0, d 0, d 0, d 0, d 0, d 0] [b 0, b 0, b 0, b 0] [b 15, b' 10, b' 10, b 4, b 20, b 3, b' 7, b' 26] [d 0, d 0, d 0, d 0, d 0, d 0, d 0, d 0] [b 0, b 0]
def S1 : Nat → DomK := SBd false (i' 6) (i' 6) (i' 6) (i' 6) [b 0, b' 11, b 11, b 24, b' 22, b 5, b' 12, b 23, b' 22, b' 22, b 4, b 9, b' 11, b' 4, b 15, b' 20] [d 0, d 0, d 0, d 0, d' 3, d' 2, d' 1, d' 0, d' 0, d' 0, d 0, d 0, d 9, d 7, d 4, d 2] [b 0, b' 1, b 0, b 3] [b 15, b' 8, b' 7, b 5, b 20, b 1, b' 10, b' 27] [d 0, d' 6, d' 11, d' 2, d 0, d 6, d 12, d 3] [b 0, b 0]
def S2 : Nat → DomK := SBd false (i' 6) (i' 6) (i' 6) (i' 6) [b 0, b' 11, b 11, b 24, b' 22, b 5, b' 11, b 23, b' 21, b' 22, b 4, b 9, b' 10, b' 3, b 17, b' 23] [d 1, d 1, d 0, d 0, d' 0, d' 0, d' 0, d 0, d' 0, d' 0, d 0, d 0, d' 1, d' 3, d' 5, d 12] [b 1, b 1, b' 0, b 3] [b 14, b' 8, b' 8, b 8, b 21, b 1, b' 9, b' 30] [d 4, d 3, d 5, d' 13, d' 3, d' 1, d' 3, d 15] [b 0, b 0]
def S3 : Nat → DomK := SBd false (i' 6) (i' 6) (i' 6) (i' 6) [b 0, b' 11, b 11, b 24, b' 22, b 5, b' 11, b 23, b' 21, b' 22, b 4, b 9, b' 11, b' 2, b 20, b' 23] [d 0, d' 0, d' 0, d' 0, d' 1, d' 1, d' 1, d' 1, d 0, d 0, d 0, d 0, d 6, d' 1, d' 9, d 0] [b 1, b 1, b' 0, b 5] [b 11, b' 8, b' 6, b 12, b 24, b 1, b' 11, b' 34] [d 14, d 0, d' 8, d' 12, d' 13, d 1, d 11, d 15] [b 1, b 0]
def S4 : Nat → DomK := SBd false (i' 6) (i' 6) (i' 6) (i' 6) [b' 0, b' 11, b 11, b 24, b' 23, b 5, b' 11, b 24, b' 21, b' 22, b 4, b 9, b' 10, b' 0, b 22, b' 24] [d 2, d 2, d 0, d 0, d 1, d 1, d' 0, d' 1, d' 0, d 0, d 0, d 0, d' 3, d' 6, d' 9, d 2] [b 1, b 2, b' 0, b 2] [b 6, b' 11, b' 7, b 13, b 28, b 4, b' 10, b' 36] [d 18, d 11, d 7, d' 3, d' 16, d' 10, d' 3, d 7] [b' 0, b 2]
def S5 : Nat → DomK := SBd false (i' 6) (i' 6) (i' 6) (i' 6) [b 1, b' 9, b 14, b 27, b' 21, b 6, b' 10, b 26, b' 22, b' 22, b 5, b 10, b' 9, b 0, b 24, b' 24] [d' 7, d' 7, d' 9, d' 10, d' 5, d' 5, d' 6, d' 7, d 1, d 0, d' 0, d' 0, d' 2, d' 5, d' 7, d 2] [b 1, b 2, b 1, b 2] [b 0, b' 12, b' 5, b 13, b 34, b 6, b' 13, b' 38] [d 25, d 7, d' 6, d' 2, d' 24, d' 6, d 11, d 7] [b 0, b 2]
def S6 : Nat → DomK := SBd false (i' 6) (i' 6) (i' 6) (i' 6) [b 3, b' 8, b 16, b 29, b' 19, b 8, b' 8, b 28, b' 23, b' 22, b 5, b 10, b' 10, b 1, b 27, b' 27] [d' 6, d' 6, d' 7, d' 8, d' 7, d' 7, d' 6, d' 7, d 3, d 0, d 0, d 0, d 3, d' 4, d' 9, d 12] [b 1, b 1, b 2, b 5] [b' 4, b' 12, b' 0, b 17, b 39, b 6, b' 18, b' 43] [d 22, d 1, d' 17, d' 16, d' 20, d 0, d 22, d 22] [b 2, b 0]
def S7 : Nat → DomK := SBd false (i' 6) (i' 6) (i' 6) (i' 6) [b 3, b' 8, b 17, b 31, b' 17, b 11, b' 6, b 30, b' 24, b' 23, b 5, b 10, b' 12, b 0, b 27, b' 31] [d 3, d' 0, d' 4, d' 7, d' 8, d' 8, d' 7, d' 8, d 5, d 2, d 2, d 2, d 9, d 3, d' 0, d 18] [b 4, b 1, b 2, b 4] [b' 10, b' 13, b 7, b 22, b 45, b 7, b' 26, b' 49] [d 25, d 3, d' 29, d' 18, d' 22, d' 2, d 34, d 24] [b 2, b 0]
def S8 : Nat → DomK := SBd false (i' 6) (i' 6) (i' 6) (i' 6) [b 4, b' 8, b 17, b 31, b' 14, b 13, b' 4, b 31, b' 26, b' 24, b 5, b 10, b' 16, b' 0, b 29, b' 33] [d' 1, d' 0, d' 0, d 0, d' 8, d' 7, d' 5, d' 3, d 8, d 3, d 0, d' 1, d 15, d 4, d' 4, d 6] [b 3, b 1, b 3, b 6] [b' 12, b' 10, b 16, b 26, b 46, b 4, b' 37, b' 54] [d 8, d' 8, d' 36, d' 16, d' 5, d 10, d 41, d 22] [b 2, b 0]
def S9 : Nat → DomK := SBd false (i' 6) (i' 6) (i' 6) (i' 6) [b 5, b' 8, b 18, b 33, b' 12, b 15, b' 3, b 33, b' 28, b' 25, b 4, b 9, b' 18, b 0, b 33, b' 37] [d' 0, d' 2, d' 4, d' 6, d' 6, d' 7, d' 5, d' 4, d 8, d 6, d 4, d 5, d 9, d' 3, d' 15, d 17] [b 5, b 1, b 1, b 8] [b' 16, b' 9, b 24, b 32, b 49, b 3, b' 46, b' 61] [d 13, d' 1, d' 30, d' 22, d' 10, d 5, d 35, d 29] [b 2, b 0]
def S10 : Nat → DomK := SBd false (i' 6) (i' 6) (i' 6) (i' 6) [b 6, b' 6, b 21, b 36, b' 11, b 18, b' 1, b 34, b' 32, b' 29, b 1, b 6, b' 22, b 0, b 38, b' 38] [d' 6, d' 8, d' 10, d' 12, d' 6, d' 8, d' 5, d' 5, d 15, d 14, d 11, d 12, d 17, d' 0, d' 18, d 2] [b 5, b 1, b 1, b 11] [b' 21, b' 10, b 33, b 38, b 54, b 4, b' 56, b' 69] [d 22, d 6, d' 35, d' 24, d' 19, d' 1, d 40, d 31] [b 3, b 1]
def S11 : Nat → DomK := SBd false (i' 6) (i' 6) (i' 6) (i' 6) [b 7, b' 5, b 23, b 39, b' 9, b 20, b' 0, b 35, b' 34, b' 32, b' 1, b 3, b' 24, b 3, b 44, b' 41] [d' 1, d' 3, d' 7, d' 11, d' 4, d' 6, d' 3, d' 4, d 10, d 10, d 9, d 12, d 6, d' 8, d' 24, d 10] [b 7, b 1, b' 1, b 11] [b' 26, b' 12, b 39, b 45, b 59, b 4, b' 63, b' 78] [d 21, d 7, d' 25, d' 28, d' 17, d' 1, d 30, d 36] [b 3, b 1]
def S12 : Nat → DomK := SBd false (i' 6) (i' 6) (i' 6) (i' 6) [b 8, b' 4, b 25, b 42, b' 8, b 22, b 0, b 36, b' 38, b' 36, b' 4, b' 0, b' 28, b 3, b 48, b' 44] [d' 0, d' 2, d' 6, d' 9, d' 3, d' 5, d' 2, d' 3, d 17, d 15, d 12, d 13, d 16, d 0, d' 16, d 11] [b 7, b 1, b 1, b 15] [b' 30, b' 13, b 46, b 53, b 62, b 4, b' 72, b' 88] [d 19, d 7, d' 30, d' 29, d' 14, d' 0, d 35, d 37] [b 4, b 1]
def S13 : Nat → DomK := SBd false (i' 6) (i' 6) (i' 6) (i' 6) [b 5, b' 6, b 24, b 42, b' 8, b 23, b 0, b 36, b' 38, b' 36, b' 4, b' 0, b' 28, b 7, b 55, b' 42] [d 10, d 8, d 5, d 2, d' 0, d' 2, d 0, d' 1, d 2, d 1, d' 0, d 0, d' 0, d' 14, d' 28, d' 4] [b 7, b 1, b 0, b 15] [b' 32, b' 13, b 51, b 59, b 64, b 3, b' 78, b' 96] [d 10, d 1, d' 18, d' 23, d' 5, d 5, d 22, d 31] [b 4, b 1]
def S14 : Nat → DomK := SBd false (i' 6) (i' 6) (i' 6) (i' 6) [b 2, b' 8, b 23, b 42, b' 8, b 24, b 0, b 37, b' 39, b' 36, b' 4, b' 0, b' 27, b 12, b 64, b' 44] [d 9, d 7, d 5, d 2, d 0, d' 1, d 0, d' 0, d 2, d 1, d 0, d 0, d' 3, d' 20, d' 35, d 6] [b 7, b 1, b 0, b 17] [b' 34, b' 13, b 55, b 66, b 65, b 2, b' 83, b' 105] [d 9, d 1, d' 15, d' 28, d' 4, d 5, d 20, d 36] [b 4, b 2]
def S15 : Nat → DomK := SBd false (i' 6) (i' 6) (i' 6) (i' 6) [b 0, b' 9, b 22, b 43, b' 8, b 25, b 1, b 37, b' 42, b' 38, b' 6, b' 0, b' 30, b 13, b 68, b' 49] [d 8, d 4, d 1, d' 3, d 0, d' 0, d' 0, d' 0, d 12, d 9, d 5, d 2, d 11, d' 3, d' 16, d 20] [b 8, b 1, b 2, b 17] [b' 38, b' 15, b 61, b 73, b 68, b 3, b' 91, b' 113] [d 16, d 7, d' 24, d' 24, d' 12, d' 0, d 29, d 31] [b 4, b 2]
def S16 : Nat → DomK := SBd false (i' 6) (i' 6) (i' 6) (i' 6) [b' 2, b' 10, b 21, b 44, b' 8, b 25, b 1, b 37, b' 43, b' 39, b' 7, b' 0, b' 31, b 15, b 72, b' 54] [d 12, d 7, d 2, d' 3, d 1, d 0, d 0, d 0, d 3, d 3, d 4, d 3, d 1, d' 7, d' 15, d 20] [b 9, b 1, b 0, b 14] [b' 43, b' 16, b 62, b 76, b 73, b 3, b' 94, b' 117] [d 19, d 7, d' 5, d' 12, d' 16, d 0, d 11, d 19] [b 2, b 4]
def S17 : Nat → DomK := SBd false (i' 6) (i' 6) (i' 6) (i' 6) [b' 3, b' 11, b 21, b 45, b' 8, b 25, b 1, b 37, b' 45, b' 41, b' 9, b' 1, b' 33, b 17, b 76, b' 60] [d 6, d 4, d 0, d' 3, d 1, d 0, d 0, d 0, d 9, d 8, d 7, d 4, d 6, d' 5, d' 16, d 26] [b 8, b 1, b 1, b 17] [b' 47, b' 18, b 65, b 82, b 76, b 3, b' 98, b' 124] [d 17, d 7, d' 10, d' 22, d' 12, d 0, d 16, d 29] [b 4, b 2]
def S18 : Nat → DomK := SBd false (i' 6) (i' 6) (i' 5) (i' 6) [b' 3, b' 10, b 23, b 48, b' 7, b 26, b 2, b 38, b' 49, b' 43, b' 10, b 0, b' 37, b 15, b 76, b' 68] [d 0, d' 2, d' 6, d' 9, d' 0, d' 1, d' 1, d' 0, d 16, d 8, d 2, d' 6, d 17, d 7, d' 1, d 35] [b 8, b 1, b 3, b 17] [b' 26, b' 10, b 35, b 44, b 41, b 3, b' 51, b' 64] [d 25, d 18, d' 18, d' 19, d' 21, d' 10, d 24, d 26] [b 5, b 2]
def S19 : Nat → DomK := SBd false (i' 6) (i' 6) (i' 5) (i' 6) [b' 5, b' 12, b 22, b 48, b' 7, b 26, b 2, b 37, b' 50, b' 42, b' 8, b 4, b' 38, b 16, b 79, b' 73] [d 7, d 6, d 1, d' 0, d' 1, d' 0, d 0, d 2, d 4, d' 1, d' 7, d' 14, d 3, d' 4, d' 12, d 19] [b 8, b' 2, b 3, b 17] [b' 30, b' 12, b 36, b 48, b 44, b 3, b' 53, b' 69] [d 16, d 10, d' 4, d' 14, d' 12, d' 2, d 10, d 21] [b 5, b 3]
def S20 : Nat → DomK := SBd false (i' 6) (i' 6) (i' 5) (i' 6) [b' 4, b' 12, b 24, b 49, b' 6, b 26, b 2, b 36, b' 55, b' 45, b' 8, b 6, b' 42, b 15, b 82, b' 81] [d' 4, d' 2, d' 4, d' 2, d' 0, d 0, d 0, d 2, d 18, d 10, d 0, d' 9, d 16, d 2, d' 12, d 32] [b 7, b' 2, b 4, b 20] [b' 33, b' 14, b 39, b 54, b 47, b 4, b' 57, b' 76] [d 14, d 9, d' 10, d' 23, d' 9, d' 1, d 16, d 29] [b 8, b 0]
def S21 : Nat → DomK := SBd false (i' 6) (i' 6) (i' 5) (i' 6) [b' 3, b' 11, b 26, b 50, b' 6, b 26, b 2, b 36, b' 59, b' 47, b' 8, b 8, b' 45, b 14, b 84, b' 90] [d' 4, d' 2, d' 6, d' 6, d 0, d 0, d' 0, d 1, d 16, d 9, d 0, d' 7, d 14, d 5, d' 5, d 37] [b 8, b' 1, b 4, b 18] [b' 39, b' 17, b 41, b 58, b 52, b 5, b' 60, b' 82] [d 23, d 13, d' 8, d' 17, d' 16, d' 5, d 14, d 24] [b 6, b 2]
def S22 : Nat → DomK := SBd false (i' 6) (i' 6) (i' 5) (i' 6) [b' 2, b' 10, b 28, b 51, b' 6, b 26, b 2, b 36, b' 64, b' 50, b' 8, b 10, b' 49, b 12, b 86, b' 100] [d' 3, d' 1, d' 5, d' 5, d 0, d 0, d 0, d 1, d 19, d 12, d 3, d' 5, d 17, d 6, d' 7, d 41] [b 8, b' 1, b 5, b 21] [b' 44, b' 20, b 44, b 65, b 56, b 6, b' 64, b' 90] [d 21, d 12, d' 12, d' 26, d' 13, d' 4, d 18, d 33] [b 9, b' 0]
def S23 : Nat → DomK := SBd false (i' 6) (i' 6) (i' 5) (i' 6) [b' 0, b' 9, b 28, b 51, b' 6, b 26, b 2, b 35, b' 69, b' 53, b' 7, b 13, b' 54, b 10, b 89, b' 106] [d' 6, d' 1, d' 0, d 2, d' 0, d 0, d 1, d 3, d 22, d 12, d' 0, d' 12, d 23, d 7, d' 11, d 26] [b 6, b' 2, b 6, b 23] [b' 46, b' 22, b 49, b 72, b 55, b 6, b' 70, b' 99] [d 6, d 6, d' 21, d' 28, d 1, d 0, d 26, d 35] [b 9, b' 0]
def S24 : Nat → DomK := SBd false (i' 6) (i' 6) (i' 5) (i' 6) [b' 0, b' 9, b 28, b 53, b' 6, b 26, b 2, b 35, b' 72, b' 55, b' 7, b 15, b' 57, b 10, b 92, b' 113] [d 0, d 1, d' 2, d' 4, d 0, d 0, d' 0, d 1, d 12, d 6, d' 0, d' 9, d 9, d 0, d' 12, d 25] [b 9, b' 2, b 4, b 20] [b' 50, b' 24, b 51, b 77, b 56, b 6, b' 74, b' 105] [d 13, d 9, d' 9, d' 20, d' 5, d' 2, d 15, d 27] [b 6, b 2]
def S25 : Nat → DomK := SBd false (i' 6) (i' 6) (i' 5) (i' 6) [b' 0, b' 9, b 29, b 54, b' 6, b 26, b 2, b 35, b' 75, b' 56, b' 7, b 17, b' 58, b 12, b 97, b' 121] [d 0, d 1, d' 1, d' 3, d 0, d 0, d 0, d 1, d 11, d 6, d 0, d' 7, d 3, d' 6, d' 20, d 32] [b 9, b' 2, b 4, b 22] [b' 53, b' 26, b 53, b 85, b 57, b 6, b' 78, b' 114] [d 12, d 8, d' 7, d' 30, d' 4, d' 1, d 14, d 36] [b 4, b 5]
def S26 : Nat → DomK := SBd false (i' 5) (i' 6) (i' 5) (i' 6) [b' 0, b' 5, b 15, b 27, b' 2, b 13, b 1, b 17, b' 38, b' 28, b' 2, b 10, b' 27, b 8, b 52, b' 63] [d 5, d 5, d 2, d 0, d 0, d 0, d 0, d 2, d 5, d 1, d' 4, d' 9, d' 5, d' 12, d' 23, d 24] [b 10, b' 3, b 2, b 19] [b' 55, b' 27, b 52, b 90, b 57, b 6, b' 78, b' 120] [d 8, d 5, d 4, d' 21, d' 0, d 1, d 2, d 25] [b 1, b 8]
def S27 : Nat → DomK := SBd false (i' 5) (i' 6) (i' 5) (i' 6) [b' 1, b' 5, b 16, b 30, b' 2, b 13, b 1, b 17, b' 42, b' 30, b' 2, b 11, b' 29, b 9, b 56, b' 69] [d 4, d 0, d' 6, d' 13, d' 0, d' 0, d' 1, d' 1, d 13, d 7, d 0, d' 5, d 8, d' 0, d' 13, d 25] [b 13, b' 2, b 3, b 22] [b' 60, b' 29, b 53, b 96, b 59, b 7, b' 80, b' 126] [d 19, d 10, d' 3, d' 22, d' 10, d' 3, d 10, d 25] [b' 0, b 10]
def S28 : Nat → DomK := SBd false (i' 5) (i' 6) (i' 4) (i' 6) [b' 2, b' 3, b 20, b 37, b' 2, b 14, b 2, b 18, b' 45, b' 32, b' 2, b 13, b' 31, b 10, b 60, b' 76] [d 3, d' 4, d' 15, d' 26, d' 0, d' 1, d' 3, d' 5, d 12, d 7, d 0, d' 4, d 6, d' 2, d' 15, d 25] [b 16, b' 1, b 3, b 23] [b' 33, b' 15, b 27, b 51, b 32, b 5, b' 40, b' 66] [d 30, d 13, d' 2, d' 24, d' 21, d' 7, d 9, d 27] [b' 4, b 13]
def S29 : Nat → DomK := SBd false (i' 5) (i' 6) (i' 4) (i' 6) [b' 2, b' 2, b 23, b 42, b' 2, b 14, b 3, b 19, b' 48, b' 33, b' 2, b 16, b' 34, b 10, b 65, b' 80] [d 0, d' 4, d' 11, d' 17, d' 0, d' 0, d' 1, d' 2, d 15, d 7, d' 1, d' 8, d 12, d' 0, d' 16, d 14] [b 14, b' 2, b 5, b 26] [b' 37, b' 18, b 29, b 57, b 34, b 6, b' 44, b' 72] [d 16, d 10, d' 8, d' 21, d' 7, d' 4, d 16, d 25] [b' 4, b 13]
def S30 : Nat → DomK := SBd false (i' 5) (i' 6) (i' 4) (i' 6) [b' 4, b' 2, b 25, b 46, b' 2, b 14, b 3, b 20, b' 49, b' 34, b' 2, b 17, b' 34, b 12, b 69, b' 84] [d 9, d 2, d' 7, d' 16, d 0, d 0, d' 0, d' 1, d 7, d 3, d' 1, d' 4, d' 1, d' 7, d' 15, d 16] [b 15, b' 2, b 4, b 23] [b' 42, b' 20, b 29, b 61, b 37, b 7, b' 45, b' 77] [d 17, d 9, d 1, d' 15, d' 9, d' 3, d 5, d 19] [b' 6, b 15]
def S31 : Nat → DomK := SBd false (i' 5) (i' 6) (i' 4) (i' 6) [b' 6, b' 2, b 27, b 49, b' 2, b 14, b 3, b 21, b' 52, b' 35, b' 2, b 17, b' 36, b 12, b 71, b' 88] [d 8, d 2, d' 6, d' 13, d 0, d 0, d 0, d' 0, d 12, d 7, d 1, d' 2, d 8, d 0, d' 8, d 16] [b 15, b' 2, b 6, b 26] [b' 46, b' 22, b 31, b 66, b 39, b 8, b' 48, b' 82] [d 15, d 8, d' 7, d' 17, d' 7, d' 2, d 14, d 21] [b' 9, b 17]
def S32 : Nat → DomK := SBd false (i' 5) (i' 6) (i' 4) (i' 6) [b' 7, b' 2, b 29, b 51, b' 2, b 14, b 3, b 21, b' 56, b' 37, b' 2, b 17, b' 39, b 12, b 74, b' 89] [d 2, d 0, d' 6, d' 9, d' 0, d' 0, d 0, d 1, d 15, d 9, d 1, d' 2, d 14, d 1, d' 11, d 4] [b 14, b' 2, b 7, b 29] [b' 48, b' 24, b 35, b 71, b 40, b 8, b' 54, b' 87] [d 9, d 8, d' 15, d' 16, d' 1, d' 1, d 22, d 21] [b' 7, b 14]
def S33 : Nat → DomK := SBd false (i' 5) (i' 6) (i' 4) (i' 6) [b' 9, b' 3, b 30, b 54, b' 2, b 14, b 3, b 21, b' 58, b' 38, b' 2, b 17, b' 39, b 14, b 77, b' 91] [d 9, d 4, d' 4, d' 8, d 0, d 0, d 0, d 1, d 7, d 4, d' 0, d' 0, d 1, d' 6, d' 12, d 7] [b 16, b' 2, b 5, b 25] [b' 52, b' 26, b 35, b 73, b 42, b 8, b' 56, b' 90] [d 13, d 7, d 1, d' 7, d' 4, d' 0, d 6, d 13] [b' 10, b 17]
def S34 : Nat → DomK := SBd false (i' 5) (i' 6) (i' 4) (i' 6) [b' 13, b' 5, b 31, b 56, b' 2, b 14, b 3, b 21, b' 58, b' 39, b' 2, b 16, b' 37, b 18, b 80, b' 93] [d 15, d 8, d' 3, d' 9, d 0, d 0, d' 0, d 0, d 1, d 2, d 0, d 3, d' 9, d' 12, d' 13, d 8] [b 18, b' 2, b 3, b 21] [b' 57, b' 28, b 31, b 74, b 45, b 8, b' 54, b' 92] [d 21, d 8, d 14, d' 2, d' 12, d' 1, d' 5, d 8] [b' 14, b 21]
def S35 : Nat → DomK := SBd false (i' 5) (i' 6) (i' 4) (i' 6) [b' 15, b' 6, b 33, b 59, b' 2, b 14, b 3, b 21, b' 60, b' 41, b' 3, b 15, b' 38, b 19, b 81, b' 95] [d 7, d 2, d' 6, d' 9, d 0, d 0, d 0, d 0, d 7, d 7, d 3, d 4, d 3, d' 2, d' 5, d 10] [b 16, b' 2, b 4, b 23] [b' 61, b' 30, b 31, b 75, b 48, b 8, b' 56, b' 95] [d 18, d 7, d 0, d' 6, d' 9, d' 0, d 7, d 10] [b' 12, b 19]
def S36 : Nat → DomK := SBd false (i' 5) (i' 6) (i' 4) (i' 6) [b' 16, b' 7, b 33, b 59, b' 2, b 14, b 3, b 20, b' 63, b' 43, b' 3, b 17, b' 41, b 19, b 84, b' 93] [d 1, d 1, d' 1, d 2, d' 2, d 0, d 2, d 4, d 12, d 8, d' 0, d' 4, d 13, d 0, d' 11, d' 5] [b 14, b' 3, b 6, b 27] [b' 62, b' 32, b 32, b 76, b 47, b 7, b' 59, b' 97] [d 5, d 6, d' 5, d' 5, d 3, d 2, d 13, d 10] [b' 9, b 17]
def SB (n : Nat) : Nat → DomK := match n with
  | 0 => S0
  | 1 => S1
  | 2 => S2
  | 3 => S3
  | 4 => S4
  | 5 => S5
  | 6 => S6
  | 7 => S7
  | 8 => S8
  | 9 => S9
  | 10 => S10
  | 11 => S11
  | 12 => S12
  | 13 => S13
  | 14 => S14
  | 15 => S15
  | 16 => S16
  | 17 => S17
  | 18 => S18
  | 19 => S19
  | 20 => S20
  | 21 => S21
  | 22 => S22
  | 23 => S23
  | 24 => S24
  | 25 => S25
  | 26 => S26
  | 27 => S27
  | 28 => S28
  | 29 => S29
  | 30 => S30
  | 31 => S31
  | 32 => S32
  | 33 => S33
  | 34 => S34
  | 35 => S35
  | 36 => S36
  | _ => fun _ => []
theorem SB_rng (n p : Nat) : ∀ y ∈ SB n p, p ≤ y.1 ∧ y.1 < p + stepN := by
  intro y hy
  unfold SB at hy
  split at hy
  · exact SBd_rng _ _ _ _ _ _ _ _ _ _ _ _ y hy
  · exact SBd_rng _ _ _ _ _ _ _ _ _ _ _ _ y hy
  · exact SBd_rng _ _ _ _ _ _ _ _ _ _ _ _ y hy
  · exact SBd_rng _ _ _ _ _ _ _ _ _ _ _ _ y hy
  · exact SBd_rng _ _ _ _ _ _ _ _ _ _ _ _ y hy
  · exact SBd_rng _ _ _ _ _ _ _ _ _ _ _ _ y hy
  · exact SBd_rng _ _ _ _ _ _ _ _ _ _ _ _ y hy
  · exact SBd_rng _ _ _ _ _ _ _ _ _ _ _ _ y hy
  · exact SBd_rng _ _ _ _ _ _ _ _ _ _ _ _ y hy
  · exact SBd_rng _ _ _ _ _ _ _ _ _ _ _ _ y hy
  · exact SBd_rng _ _ _ _ _ _ _ _ _ _ _ _ y hy
  · exact SBd_rng _ _ _ _ _ _ _ _ _ _ _ _ y hy
  · exact SBd_rng _ _ _ _ _ _ _ _ _ _ _ _ y hy
  · exact SBd_rng _ _ _ _ _ _ _ _ _ _ _ _ y hy
  · exact SBd_rng _ _ _ _ _ _ _ _ _ _ _ _ y hy
  · exact SBd_rng _ _ _ _ _ _ _ _ _ _ _ _ y hy
  · exact SBd_rng _ _ _ _ _ _ _ _ _ _ _ _ y hy
  · exact SBd_rng _ _ _ _ _ _ _ _ _ _ _ _ y hy
  · exact SBd_rng _ _ _ _ _ _ _ _ _ _ _ _ y hy
  · exact SBd_rng _ _ _ _ _ _ _ _ _ _ _ _ y hy
  · exact SBd_rng _ _ _ _ _ _ _ _ _ _ _ _ y hy
  · exact SBd_rng _ _ _ _ _ _ _ _ _ _ _ _ y hy
  · exact SBd_rng _ _ _ _ _ _ _ _ _ _ _ _ y hy
  · exact SBd_rng _ _ _ _ _ _ _ _ _ _ _ _ y hy
  · exact SBd_rng _ _ _ _ _ _ _ _ _ _ _ _ y hy
  · exact SBd_rng _ _ _ _ _ _ _ _ _ _ _ _ y hy
  · exact SBd_rng _ _ _ _ _ _ _ _ _ _ _ _ y hy
  · exact SBd_rng _ _ _ _ _ _ _ _ _ _ _ _ y hy
  · exact SBd_rng _ _ _ _ _ _ _ _ _ _ _ _ y hy
  · exact SBd_rng _ _ _ _ _ _ _ _ _ _ _ _ y hy
  · exact SBd_rng _ _ _ _ _ _ _ _ _ _ _ _ y hy
  · exact SBd_rng _ _ _ _ _ _ _ _ _ _ _ _ y hy
  · exact SBd_rng _ _ _ _ _ _ _ _ _ _ _ _ y hy
  · exact SBd_rng _ _ _ _ _ _ _ _ _ _ _ _ y hy
  · exact SBd_rng _ _ _ _ _ _ _ _ _ _ _ _ y hy
  · exact SBd_rng _ _ _ _ _ _ _ _ _ _ _ _ y hy
  · exact SBd_rng _ _ _ _ _ _ _ _ _ _ _ _ y hy
  · simp at hy
/-- What stays: the net, the examples. -/
def stN : DomK := [(258, .l [i 6, i 0, i 0, i 0, i 0, i 0, f, i 1, i 4, i 0, i 0, i 0, i 0, f, i 5, i 0, i 0, i 0, i 0, i 0, f, i 1, i 2, i 0, i 0, i 0, i 0, f] 7 false),
  (406, .l [b' 19, b' 14, b' 9, b' 4] 1 false),
  (425, .l [b' 12, b' 7, b' 2, b 2] 1 false),
  (444, .l [b' 5, b' 0, b 4, b 9] 1 false),
  (463, .l [b 1, b 6, b 11, b 16] 1 false),
  (482, .l [b 8, b 13, b 18, b' 17] 1 false),
  (501, .l [b 15, b 20, b' 15, b' 10] 1 false),
  (506, .l [s 406 0 4 4, i 0, s 425 0 4 4, i 1, s 444 0 4 4, i 0, s 463 0 4 4, i 1, s 482 0 4 4, i 0, s 501 0 4 4, i 1] 2 false)]
/-- .. the disk, the journal, the first state. -/
def stC : DomK := [(507, .c (u 0) 16384 64 true),
  (508, .c (u 0) 16384 64 true),
  (509, .l [s 507 0 256 256, s 508 0 256 256, z, i 1, i 0, f] 0 true),
  (511, .l [p 509 0, i 128, i 1, x 0, z, f] 0 true),
  (958, .l [u 112, u 100, u 115, u 116, u 0, u 0, u 0, u 0, u 0, u 0, u 0, u 1, u 0, u 0, u 0, u 0, u 4, u 0, u 2, u 0, u 4, u 0, u 4, u 249, u 0, u 244, u 11, u 24, u 232, u 4, u 242, u 22, u 233, u 232, u 4, u 9, u 246, u 253, u 16, u 236, u 0, u 0, u 0, u 0, u 0, u 0, u 0, u 0, u 0, u 0, u 0, u 0, u 0, u 0, u 0, u 0, u 0, u 0, u 0, u 0, u 0, u 0, u 0, u 0, u 0, u 0, u 0, u 0, u 0, u 0, u 0, u 0, u 0, u 0, u 0, u 0, u 0, u 0, u 0, u 0, u 0, u 0, u 0, u 0, u 0, u 0, u 0, u 0, u 0, u 0, u 0, u 0, u 0, u 0, u 0, u 0, u 0, u 0, u 0, u 0, u 0, u 0, u 0, u 0, u 0, u 4, u 249, u 0, u 0, u 0, u 0, u 0, u 2, u 0, u 2, u 0, u 4, u 249, u 15, u 245, u 245, u 4, u 20, u 3, u 248, u 229, u 0, u 0, u 0, u 0, u 0, u 0, u 0, u 0, u 0, u 0, u 0, u 0, u 0, u 0, u 0, u 0, u 0, u 0, u 0, u 0, u 0, u 0, u 0, u 0, u 0, u 0, u 0, u 0, u 0, u 0, u 0, u 0, u 0, u 2, u 249, u 0, u 0] 1 false),
  (959, .l [p 510 0] 0 true)]
/-- The trainer: its step, its weights. -/
def trB (a v : Value) : KD := .l [i 1, i 2, i 2, s 258 0 4 4, i 1, i 2, i 2, i' 4, i 2, s 506 0 6 6, i 2, i 5, i 2, i 3, i 0, i 0, s 958 0 163 163, w 1, a, v, p 509 0, p 511 0, i 0, f, i 0, f] 0 true
def argN (n b : Nat) : List Value := [.agg ⟨[i 1, i 2, i 2, s 258 0 4 4]⟩, .agg ⟨[i 1, i 2, i 2, i' 4, i 2, s 506 0 6 6]⟩, .agg ⟨[i 2, i 5, i 2, i 3, i 0, i 0]⟩, .agg ⟨[w 1, .int .i64 (.ofNat n), .slice (some ⟨b, 0, none⟩) 4 4]⟩]
def vN (n b : Nat) : Value := .tuple ⟨[.agg ⟨[w 1, .int .i64 (.ofNat n), .slice (some ⟨b, 0, none⟩) 4 4]⟩, i 0]⟩
/-- A step. -/
def eN (n : Nat) : EK := ⟨158, argN n (q0 + offP), n0, stN ++ SB n q0, vN (n + 1) (n0 + offP), n0 + stepN, (stN ++ SB n q0) ++ SB (n + 1) n0⟩
end Go.Mach.J
