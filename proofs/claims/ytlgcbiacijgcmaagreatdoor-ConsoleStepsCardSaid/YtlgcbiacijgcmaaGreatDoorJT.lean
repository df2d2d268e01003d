/- What the console's lines come to, as entries. Plain definitions; no condition. -/
import Derived.Test.YtlgcbiacijgcmaaGreatDoorJNO
namespace Go.Mach.J
open Go Go.Mach

def str (l : List UInt8) : Value := .string ⟨⟨l⟩⟩
/-- The console at a state, its blocks from p on. -/
def DD (n p : Nat) : DomK := (stN ++ stC ++ [(510, trB (.int .i64 (.ofNat n)) (s (p + offP) 0 4 4))]) ++ SB n p
/-- The console behind a crash. -/
def DC : DomK := [(258, .l [i 6, i 0, i 0, i 0, i 0, i 0, f, i 1, i 4, i 0, i 0, i 0, i 0, f, i 5, i 0, i 0, i 0, i 0, i 0, f, i 1, i 2, i 0, i 0, i 0, i 0, f] 7 false),
  (406, .l [b' 19, b' 14, b' 9, b' 4] 1 false),
  (425, .l [b' 12, b' 7, b' 2, b 2] 1 false),
  (444, .l [b' 5, b' 0, b 4, b 9] 1 false),
  (463, .l [b 1, b 6, b 11, b 16] 1 false),
  (482, .l [b 8, b 13, b 18, b' 17] 1 false),
  (501, .l [b 15, b 20, b' 15, b' 10] 1 false),
  (506, .l [s 406 0 4 4, i 0, s 425 0 4 4, i 1, s 444 0 4 4, i 0, s 463 0 4 4, i 1, s 482 0 4 4, i 0, s 501 0 4 4, i 1] 2 false),
  (507, .c (u 0) 16384 64 true),
  (508, .c (u 0) 16384 64 true),
  (509, .l [s 507 0 256 256, s 508 0 256 256, z, i 2, i 0, f] 0 true),
  (510, .l [i 1, i 2, i 2, s 258 0 4 4, i 1, i 2, i 2, i' 4, i 2, s 506 0 6 6, i 2, i 5, i 2, i 3, i 0, i 0, s 958 0 163 163, w 1, i 0, s 3063 0 4 4, p 509 0, p 2797 0, i 0, f, i 0, f] 0 true),
  (958, .l [u 112, u 100, u 115, u 116, u 0, u 0, u 0, u 0, u 0, u 0, u 0, u 1, u 0, u 0, u 0, u 0, u 4, u 0, u 2, u 0, u 4, u 0, u 4, u 249, u 0, u 244, u 11, u 24, u 232, u 4, u 242, u 22, u 233, u 232, u 4, u 9, u 246, u 253, u 16, u 236, u 0, u 0, u 0, u 0, u 0, u 0, u 0, u 0, u 0, u 0, u 0, u 0, u 0, u 0, u 0, u 0, u 0, u 0, u 0, u 0, u 0, u 0, u 0, u 0, u 0, u 0, u 0, u 0, u 0, u 0, u 0, u 0, u 0, u 0, u 0, u 0, u 0, u 0, u 0, u 0, u 0, u 0, u 0, u 0, u 0, u 0, u 0, u 0, u 0, u 0, u 0, u 0, u 0, u 0, u 0, u 0, u 0, u 0, u 0, u 0, u 0, u 0, u 0, u 0, u 0, u 4, u 249, u 0, u 0, u 0, u 0, u 0, u 2, u 0, u 2, u 0, u 4, u 249, u 15, u 245, u 245, u 4, u 20, u 3, u 248, u 229, u 0, u 0, u 0, u 0, u 0, u 0, u 0, u 0, u 0, u 0, u 0, u 0, u 0, u 0, u 0, u 0, u 0, u 0, u 0, u 0, u 0, u 0, u 0, u 0, u 0, u 0, u 0, u 0, u 0, u 0, u 0, u 0, u 0, u 2, u 249, u 0, u 0] 1 false),
  (959, .l [p 510 0] 0 true),
  (2797, .l [p 509 0, i 128, i 1, x 0, z, f] 0 true),
  (2849, .l [i 4, i 4] 1 false),
  (2887, .l [b 0, b' 11, b 11, b 24, b' 23, b 4, b' 13, b 22, b' 22, b' 23, b 4, b 9, b' 9, b' 2, b 16, b' 19] 1 false),
  (2952, .l [d 0, d 0, d 0, d 0, d 0, d 0, d 0, d 0, d 0, d 0, d 0, d 0, d 0, d 0, d 0, d 0] 1 false),
  (2956, .l [i 4] 1 true),
  (2970, .l [b 0, b 0, b 0, b 0] 1 false),
  (2991, .l [i 2, i 4] 1 false),
  (3013, .l [b 15, b' 10, b' 10, b 4, b 20, b 3, b' 7, b' 26] 1 false),
  (3046, .l [d 0, d 0, d 0, d 0, d 0, d 0, d 0, d 0] 1 false),
  (3050, .l [i 2] 1 true),
  (3060, .l [b 0, b 0] 1 false),
  (3063, .l [z, i 0, z, z, z, i 0, z, s 2849 0 2 2, i' 6, s 2887 0 16 16, s 2952 0 16 16, s 2956 0 1 1, i' 6, s 2970 0 4 4, z, i 0, z, z, z, i 0, z, s 2991 0 2 2, i' 6, s 3013 0 8 8, s 3046 0 8 8, s 3050 0 1 1, i' 6, s 3060 0 2 2] 7 false)]
def digs (n : Nat) : List UInt8 := match Nat.blt n 10 with
  | true => [UInt8.ofNat (48 + n)]
  | false => [UInt8.ofNat (48 + n / 10), UInt8.ofNat (48 + n % 10)]
def LN : FuncId := 5
def cP : Value := p 959 0
def lnT : Nat → Nat
  | 0 => 8
  | 1 => 1838
  | 2 => 3668
  | _ => 5498
def pT : Nat → Nat
  | 0 => q0
  | 1 => 2797
  | 2 => 4627
  | _ => 6457
def sTrain : List UInt8 := [116, 114, 97, 105, 110, 32]
def sOk : List UInt8 := [111, 107, 32]
def sStep : List UInt8 := [115, 116, 101, 112]
def sSaved : List UInt8 := [115, 97, 118, 101, 100]
def sCrash : List UInt8 := [99, 114, 97, 115, 104, 32, 45]
def sWts : List UInt8 := [119, 101, 105, 103, 104, 116, 115, 32, 50]
def sW : List UInt8 := [52, 120, 52, 64, 45, 55, 58, 48, 44, 45, 49, 50, 44, 49, 49, 44, 50, 52, 44, 45, 50, 52, 44, 52, 44, 45, 49, 52, 44, 50, 50, 44, 45, 50, 51, 44, 45, 50, 52, 44, 52, 44, 57, 44, 45, 49, 48, 44, 45, 51, 44, 49, 54, 44, 45, 50, 48]
def eT (n k : Nat) : EK := ⟨LN, [cP, str (sTrain ++ [UInt8.ofNat (48 + k)])], n0, DD n q0, str (sOk ++ [UInt8.ofNat (48 + k)]), n0 + lnT k, DD (n + k) (pT k)⟩
def eP (n : Nat) : EK := ⟨LN, [cP, str sStep], n0, DD n q0, str (digs n), n0 + 678, DD n q0⟩
def eV (n : Nat) : EK := ⟨LN, [cP, str sSaved], n0, DD n q0, str [45], n0 + 3, DD n q0⟩
def eW : EK := ⟨LN, [cP, str sWts], n0, DD 0 q0, str sW, n0 + 721, DD 0 q0⟩
def nC : Nat := n0 + 276
def eC (n : Nat) : EK := ⟨LN, [cP, str sCrash], n0, DD n q0, str (sOk ++ [48]), nC, DC⟩
def eP2 : EK := ⟨LN, [cP, str sStep], nC, DC, str [48], nC + 678, DC⟩
def eW2 : EK := ⟨LN, [cP, str sWts], nC, DC, str sW, nC + 721, DC⟩
/-- Where a new console's state lies. -/
def nu (x : Nat) : Nat := match Nat.blt x q0 with
  | true => x
  | false => nuO (x - q0)
where nuO : Nat → Nat
  | 1828 => 255
  | 1628 => 212
  | 1661 => 213
  | 1575 => 225
  | 1666 => 220
  | 1679 => 221
  | 1796 => 240
  | 1813 => 241
  | 1767 => 253
  | 1818 => 248
  | 1825 => 249
  | o => o + q0
def eO : EK := ⟨4, [], 5, [], cP, q0, mvD nu (DD 0 q0)⟩
end Go.Mach.J
