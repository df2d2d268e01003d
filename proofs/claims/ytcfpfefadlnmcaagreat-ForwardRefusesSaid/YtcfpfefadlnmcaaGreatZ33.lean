/- Part of the proof. No condition. -/
import Derived.Test.YtcfpfefadlnmcaaGreatYVTold
import Derived.Test.YtcfpfefadlnmcaaGreatProg
import Derived.KernelRfl
namespace Go.Proofs.YtcfpfefadlnmcaaGreat
open Go.Mach
set_option maxRecDepth 100000
set_option linter.unusedVariables false
abbrev TT7 : Ty := (.pair (.int .i64) (.pair (.int .i64) (.pair .bool (.int .u8))))
abbrev aPU : Ty := (.pair .str (.int .u64))
abbrev aLT : Ty := (.pair (.pair (.int .i64) (.pair (.int .i64) (.int .i64))) (.slc (.pair (.int .i64) (.pair (.int .i64) (.pair (.int .i64) (.pair (.int .i64) (.pair (.int .i64) (.pair (.int .i64) .bool))))))))
abbrev VC : Type := (Int × Int × Int) × List (Int × Int × Int × Int × Int × Int × Bool)
abbrev c9 : Ty := (.pair (.slc (.int .i64)) (.pair (.int .i64) (.slc (.int .i8))))
abbrev aR : Type := (List Int) × Int × List Int
abbrev xS : Ty := (.pair c9 (.pair (.slc (.int .i32)) c9))
abbrev JD : Type := aR × (List Int) × aR
abbrev aJ3 : Ty := (.pair (.slc c9) (.slc (.slc (.int .i64))))
abbrev aH7 : Type := (List aR) × List (List Int)
abbrev aPN : Ty := (.pair aLT (.pair (.int .u64) (.pair (.slc (.int .i8)) (.pair (.int .i64) (.pair (.slc (.int .i8)) (.int .i64))))))
abbrev mF : Ty := (.pair (.int .i64) (.pair (.int .i64) (.pair (.int .i64) (.pair (.int .i64) (.pair (.int .i64) (.pair (.int .i64) .bool))))))
abbrev zM : Type := Int × Int × Int × Int × Int × Int × Bool
abbrev uE : Ty := (.pair (.slc (.int .i64)) (.pair (.int .i64) (.slc (.int .i32))))
abbrev iE : Type := (List Int) × Int × List Int
abbrev aOa : Ty := (.pair .bool (.pair uE uE))
abbrev aNi : Ty := (.pair (.slc c9) (.pair (.int .u64) (.int .i64)))
abbrev aEz : Ty := (.pair (.int .i64) (.pair (.int .i64) (.pair (.int .i64) (.pair (.int .i64) (.pair (.int .i64) (.int .i64))))))
abbrev aGj : Type := Int × Int × Int × Int × Int × Int
abbrev bZ : Ty := (.pair (.int .i64) (.pair (.int .i64) (.int .i64)))
abbrev aX : Type := Int × Int × Int
abbrev aJe : Ty := (.pair (.int .i64) aEz)
abbrev aJh : Type := Int × aGj
abbrev aNt : Ty := (.pair (.int .i64) (.pair (.int .i64) bZ))
abbrev aNo : Type := Int × Int × aX
noncomputable def tt : TypeId -> Option Ty := fun t => match t with
 | 2 => some (.int .i64)
 | 3 => some (.int .i64)
 | 4 => some .bool
 | 5 => some (.int .u8)
 | 6 => some (.int .u8)
 | 7 => some TT7
 | 8 => some TT7
 | 9 => some .str
 | 10 => some .str
 | 11 => some .str
 | 12 => some (.int .u64)
 | 13 => some aPU
 | 14 => some aPU
 | 21 => some (.int .i32)
 | 22 => some bZ
 | 23 => some (.slc mF)
 | 24 => some aLT
 | 25 => some aLT
 | 26 => some (.slc xS)
 | 27 => some (.slc (.int .i64))
 | 28 => some (.slc (.int .i8))
 | 29 => some c9
 | 30 => some c9
 | 31 => some (.int .u64)
 | 33 => some (.slc (.int .i32))
 | 34 => some xS
 | 35 => some xS
 | 36 => some (.slc c9)
 | 37 => some (.slc (.slc (.int .i64)))
 | 38 => some aJ3
 | 39 => some aJ3
 | 40 => some (.int .i64)
 | 43 => some aJ3
 | 48 => some aPN
 | 49 => some aPN
 | 53 => some (.slc aOa)
 | 60 => some mF
 | 61 => some mF
 | 64 => some uE
 | 65 => some uE
 | 66 => some aOa
 | 67 => some aOa
 | 73 => some (.int .i8)
 | 104 => some aNi
 | 105 => some aNi
 | 145 => some aEz
 | 146 => some aEz
 | 160 => some (.slc bZ)
 | 162 => some bZ
 | 163 => some bZ
 | 169 => some (.int .u64)
 | 189 => some aJe
 | 190 => some aJe
 | 198 => some aEz
 | 200 => some aNt
 | 201 => some aNt
 | 203 => some .cpx
 | 207 => some .flt
 | 217 => some (.int .u32)
 | 218 => some (.int .u8)
 | 219 => some (.int .u8)
 | 222 => some (.int .i32)
 | 223 => some (.int .i32)
 | _ => none
noncomputable def T__ : Tb Tryz.prog := Tb.none
def NJ (x1 : List Int) (x2 : Int) (K0 : Int -> Prop) (K1 : Unit -> Prop) (s : Int × Int) (nx : (Int × Int) -> Prop) : Prop :=
 if (decide (s.2 < x2)) = true then ck ((0 : Int) <= s.2 /\ s.2 < (x1.length : Int)) (if (((decide ((x1.getD ((s.2).toNat) 0) < 1)) || (decide (4096 < (x1.getD ((s.2).toNat) 0)))) || (decide (8192 < (IntKind.i64.wrap (s.1 * (x1.getD ((s.2).toNat) 0)))))) = true then K1 () else nx (IntKind.i64.wrap (s.1 * (x1.getD ((s.2).toNat) 0)), IntKind.i64.wrap (s.2 + 1))) else K0 s.1
structure SZ (x1 : List Int) (x2 : Int) (K0 : Int -> Prop) (K1 : Unit -> Prop) (s : Int × Int) : Prop where
 it : Go.Mach.Loop (NJ x1 x2 K0 K1) s
structure pX (a0 : List Int) (Q : Int -> Prop) : Prop where
 it : if ((decide ((a0.length : Int) < 1)) || (decide (4 < (a0.length : Int)))) = true then Q 0 else SZ a0 (a0.length : Int) (fun (y1 : Int) => Q y1) (fun (y2 : Unit) => Q 0) (1, 0)
noncomputable def aEG : Ent := ⟨[3, 14, 15, 16], [sI, sZ (.int .i64), sI, sI], [], fun x k => SZ x.1.2.1 x.1.2.2.1 (fun (y3 : Int) => k (.exit 0) ⟨[(3, vI y3)], []⟩) (fun (y4 : Unit) => k .ret ⟨[(2, vI 0)], []⟩) (x.1.1, x.1.2.2.2.1)⟩
noncomputable def SE : Tab := fun n => match n with | 122 => some aEG | _ => none
noncomputable def U7 : Code := (bod Tryz.f54).getD .skip
noncomputable def aD3 : Go.Mach.Ends := aN U7 [2] []
theorem aBg : aI (T__.cfg tt none false 0) SE aD3 U7 := by
 intro n E hn f c hs x k h
 unfold SE at hn
 split at hn
 ·cases hn; exact aG rfl hs (by kernel_rfl) (fun y : Int × Int => ⟨[(3, vI y.1), (14, vZ (.int .i64) x.1.2.1), (15, vI x.1.2.2.1), (16, vI y.2)], []⟩) (x.1.1, x.1.2.2.2.1) (by kernel_rfl) (fun y X => by kernel_rfl) h.it
 ·cases hn
def FJ : List Sh := [sZ (.int .i64)]
theorem aCk (x : aM FJ) (Q : QT) (h : pX x.1 (fun (r : Int) => Q (aC [(false, (.int .i64))] [.n] (r, ())))) : aH Tryz.prog 54 (aJ FJ x) Q := T__.told [.n] (rt := [(false, (.int .i64))]) hI0 aBg Tryz.func54 (by kernel_rfl) (by kernel_rfl) (Nat.le_of_ble_eq_true rfl) h.it (by kernel_rfl)
noncomputable def KR : Tb Tryz.prog := T__.add 54 FJ aCk
structure lC (a0 : List Int) (Q : Bool -> Prop) : Prop where
 it : pX a0 (fun (r1 : Int) => Q (decide (0 < r1)))
noncomputable def aG6 : Tab := fun n => none
noncomputable def ZE : Code := (bod Tryz.f53).getD .skip
noncomputable def aFZ : Go.Mach.Ends := aN ZE [2] []
theorem aD7 : aI (KR.cfg tt none false 0) aG6 aFZ ZE := by
 intro n E hn f c hs x k h
 cases hn
def JV : List Sh := [sZ (.int .i64)]
theorem aEN (x : aM JV) (Q : QT) (h : lC x.1 (fun (r : Bool) => Q (aC [(false, .bool)] [.n] (r, ())))) : aH Tryz.prog 53 (aJ JV x) Q := KR.told [.n] (rt := [(false, .bool)]) hI0 aD7 Tryz.func53 (by kernel_rfl) (by kernel_rfl) (Nat.le_of_ble_eq_true rfl) h.it (by kernel_rfl)
noncomputable def Q2 : Tb Tryz.prog := KR.add 53 JV aEN
structure CJ (a0 a1 : Int) (Q : Bool -> Prop) : Prop where
 it : Q ((decide ((IntKind.i64.wrap (0 - a1)) <= a0)) && (decide (a0 <= a1)))
noncomputable def aD6 : Tab := fun n => none
noncomputable def WB : Code := (bod Tryz.f55).getD .skip
noncomputable def aEE : Go.Mach.Ends := aN WB [4] []
theorem aCy : aI (Q2.cfg tt none false 0) aD6 aEE WB := by
 intro n E hn f c hs x k h
 cases hn
def FM : List Sh := [sI, sI]
theorem aCw (x : aM FM) (Q : QT) (h : CJ x.1 x.2.1 (fun (r : Bool) => Q (aC [(false, .bool)] [.n] (r, ())))) : aH Tryz.prog 55 (aJ FM x) Q := Q2.told [.n] (rt := [(false, .bool)]) hI0 aCy Tryz.func55 (by kernel_rfl) (by kernel_rfl) (Nat.le_of_ble_eq_true rfl) h.it (by kernel_rfl)
noncomputable def JT : Tb Tryz.prog := Q2.add 55 FM aCw
def eE (x0 : List Int) (x1 x2 : Int) (K0 : Unit -> Prop) (K1 : Int -> Prop) (s : Int) (nx : Int -> Prop) : Prop :=
 if (decide (s < x2)) = true then ck ((0 : Int) <= s /\ s < (x0.length : Int)) (if (x1 == (x0.getD ((s).toNat) 0)) = true then K1 s else nx (IntKind.i64.wrap (s + 1))) else K0 ()
structure rD (x0 : List Int) (x1 x2 : Int) (K0 : Unit -> Prop) (K1 : Int -> Prop) (s : Int) : Prop where
 it : Go.Mach.Loop (eE x0 x1 x2 K0 K1) s
structure uJ (a0 : List Int) (a1 : Int) (Q : Int -> Prop) : Prop where
 it : rD a0 a1 (a0.length : Int) (fun (y1 : Unit) => Q (-1)) (fun (y2 : Int) => Q y2) 0
noncomputable def DZ : Ent := ⟨[0, 1, 7, 8], [sZ (.int .i8), .lf (.int .i8), sI, sI], [], fun x k => rD x.1.1 x.1.2.1 x.1.2.2.1 (fun (y3 : Unit) => k (.exit 0) ⟨[], []⟩) (fun (y4 : Int) => k .ret ⟨[(4, vI y4)], []⟩) x.1.2.2.2.1⟩
noncomputable def qZ : Tab := fun n => match n with | 26 => some DZ | _ => none
noncomputable def sM : Code := (bod Tryz.f96).getD .skip
noncomputable def D1 : Go.Mach.Ends := aN sM [4] []
theorem CP : aI (JT.cfg tt none false 0) qZ D1 sM := by
 intro n E hn f c hs x k h
 unfold qZ at hn
 split at hn
 ·cases hn; exact aG rfl hs (by kernel_rfl) (fun y : Int => ⟨[(0, vZ (.int .i8) x.1.1), (1, vK .i8 x.1.2.1), (7, vI x.1.2.2.1), (8, vI y)], []⟩) x.1.2.2.2.1 (by kernel_rfl) (fun y X => by kernel_rfl) h.it
 ·cases hn
def jD : List Sh := [sZ (.int .i8), .lf (.int .i8)]
theorem DN (x : aM jD) (Q : QT) (h : uJ x.1 x.2.1 (fun (r : Int) => Q (aC [(false, (.int .i64))] [.n] (r, ())))) : aH Tryz.prog 96 (aJ jD x) Q := JT.told [.n] (rt := [(false, (.int .i64))]) hI0 CP Tryz.func96 (by kernel_rfl) (by kernel_rfl) (Nat.le_of_ble_eq_true rfl) h.it (by kernel_rfl)
noncomputable def jV : Tb Tryz.prog := JT.add 96 jD DN
structure i5 (a0 : List Int) (a1 : Int) (Q : Bool -> Prop) : Prop where
 it : uJ a0 a1 (fun (r1 : Int) => Q (decide (0 <= r1)))
noncomputable def zN : Tab := fun n => none
noncomputable def pA : Code := (bod Tryz.f56).getD .skip
noncomputable def AB : Go.Mach.Ends := aN pA [4] []
theorem zJ : aI (jV.cfg tt none false 0) zN AB pA := by
 intro n E hn f c hs x k h
 cases hn
def gX : List Sh := [sZ (.int .i8), .lf (.int .i8)]
theorem zK (x : aM gX) (Q : QT) (h : i5 x.1 x.2.1 (fun (r : Bool) => Q (aC [(false, .bool)] [.n] (r, ())))) : aH Tryz.prog 56 (aJ gX x) Q := jV.told [.n] (rt := [(false, .bool)]) hI0 zJ Tryz.func56 (by kernel_rfl) (by kernel_rfl) (Nat.le_of_ble_eq_true rfl) h.it (by kernel_rfl)
noncomputable def iC : Tb Tryz.prog := jV.add 56 gX zK
structure cF (a0 : aR) (Q : Bool -> Prop) : Prop where
 it : lC a0.1 (fun (r1 : Bool) => jn (fun (v2 : Bool) => jn (fun (v5 : Bool) => jn (fun (v8 : Bool) => Q v8) (fun J9 => if v5 = true then i5 a0.2.2 (-128) (fun (r10 : Bool) => J9 (!r10)) else J9 false)) (fun J6 => if v2 = true then CJ a0.2.1 64 (fun (r7 : Bool) => J6 r7) else J6 false)) (fun J3 => if r1 = true then pX a0.1 (fun (r4 : Int) => J3 ((a0.2.2.length : Int) == r4)) else J3 false))
noncomputable def aDe : Tab := fun n => none
noncomputable def VL : Code := (bod Tryz.f26).getD .skip
noncomputable def aD5 : Go.Mach.Ends := aN VL [2] []
theorem aCf : aI (iC.cfg tt none false 0) aDe aD5 VL := by
 intro n E hn f c hs x k h
 cases hn
def FB : List Sh := [.agg [lZ (.int .i64), lI, lZ (.int .i8)]]
theorem aCq (x : aM FB) (Q : QT) (h : cF (x.1.1, (x.1.2.1, x.1.2.2.1)) (fun (r : Bool) => Q (aC [(false, .bool)] [.n] (r, ())))) : aH Tryz.prog 26 (aJ FB x) Q := iC.told [.n] (rt := [(false, .bool)]) hI0 aCf Tryz.func26 (by kernel_rfl) (by kernel_rfl) (Nat.le_of_ble_eq_true rfl) h.it (by kernel_rfl)
noncomputable def KX : Tb Tryz.prog := iC.add 26 FB aCq
def uP (x2 : List aR) (x3 : Int) (K0 K1 : Unit -> Prop) (s : Int) (nx : Int -> Prop) : Prop :=
 if (decide (s < x3)) = true then ck ((0 : Int) <= s /\ s < (x2.length : Int)) (cF (x2.getD ((s).toNat) ([], (0, []))) (fun (r1 : Bool) => if (!r1) = true then K1 () else nx (IntKind.i64.wrap (s + 1)))) else K0 ()
structure WD (x2 : List aR) (x3 : Int) (K0 K1 : Unit -> Prop) (s : Int) : Prop where
 it : Go.Mach.Loop (uP x2 x3 K0 K1) s
def u9 (x0 : Int) (x1 : List aR) (x2 : Int) (K0 K1 : Unit -> Prop) (s : Int) (nx : Int -> Prop) : Prop :=
 if (decide (s < x2)) = true then ck ((0 : Int) <= s /\ s < (x1.length : Int)) (if ((((x1.getD ((s).toNat) ([], (0, []))).1).length : Int) != x0) = true then K1 () else nx (IntKind.i64.wrap (s + 1))) else K0 ()
structure WI (x0 : Int) (x1 : List aR) (x2 : Int) (K0 K1 : Unit -> Prop) (s : Int) : Prop where
 it : Go.Mach.Loop (u9 x0 x1 x2 K0 K1) s
structure YH (a0 : Int) (a1 : List aR) (Q : Int -> Prop) : Prop where
 it : WD a1 (a1.length : Int) (fun (y2 : Unit) => WI a0 a1 (a1.length : Int) (fun (y3 : Unit) => Q 0) (fun (y4 : Unit) => Q 2) 0) (fun (y5 : Unit) => Q 1) 0
noncomputable def aFh : Ent := ⟨[0, 1, 9, 10, 11], [sI, sZ c9, sZ c9, sI, sI], [], fun x k => WD x.1.2.2.1 x.1.2.2.2.1 (fun (y6 : Unit) => k (.exit 0) ⟨[(0, vI x.1.1), (1, vZ c9 x.1.2.1)], []⟩) (fun (y7 : Unit) => k .ret ⟨[(4, vI 1)], []⟩) x.1.2.2.2.2.1⟩
noncomputable def aFP : Ent := ⟨[0, 19, 20, 21], [sI, sZ c9, sI, sI], [], fun x k => WI x.1.1 x.1.2.1 x.1.2.2.1 (fun (y8 : Unit) => k (.exit 2) ⟨[], []⟩) (fun (y9 : Unit) => k .ret ⟨[(4, vI 2)], []⟩) x.1.2.2.2.1⟩
noncomputable def U4 : Tab := fun n => match n with | 26 => some aFh | 58 => some aFP | _ => none
noncomputable def YY : Code := (bod Tryz.f155).getD .skip
noncomputable def aF4 : Go.Mach.Ends := aN YY [4] []
theorem aEK : aI (KX.cfg tt none false 0) U4 aF4 YY := by
 intro n E hn f c hs x k h
 unfold U4 at hn
 split at hn
 ·cases hn; exact aG rfl hs (by kernel_rfl) (fun y : Int => ⟨[(0, vI x.1.1), (1, vZ c9 x.1.2.1), (9, vZ c9 x.1.2.2.1), (10, vI x.1.2.2.2.1), (11, vI y)], []⟩) x.1.2.2.2.2.1 (by kernel_rfl) (fun y X => by kernel_rfl) h.it
 ·cases hn; exact aG rfl hs (by kernel_rfl) (fun y : Int => ⟨[(0, vI x.1.1), (19, vZ c9 x.1.2.1), (20, vI x.1.2.2.1), (21, vI y)], []⟩) x.1.2.2.2.1 (by kernel_rfl) (fun y X => by kernel_rfl) h.it
 ·cases hn
def L6 : List Sh := [sI, sZ c9]
theorem aDf (x : aM L6) (Q : QT) (h : YH x.1 x.2.1 (fun (r : Int) => Q (aC [(false, (.int .i64))] [.n] (r, ())))) : aH Tryz.prog 155 (aJ L6 x) Q := KX.told [.n] (rt := [(false, (.int .i64))]) hI0 aEK Tryz.func155 (by kernel_rfl) (by kernel_rfl) (Nat.le_of_ble_eq_true rfl) h.it (by kernel_rfl)
noncomputable def RD : Tb Tryz.prog := KX.add 155 L6 aDf
structure KL (a0 : Int) (Q : Bool -> Prop) : Prop where
 it : Q (((decide (0 <= a0)) && (decide (a0 <= 1023))) && (decide ((IntKind.i64.wrap ((IntKind.i64.wrap (a0 * 16384)) + 1048576)) < 16777216)))
noncomputable def aDs : Tab := fun n => none
noncomputable def V9 : Code := (bod Tryz.f184).getD .skip
noncomputable def aDt : Go.Mach.Ends := aN V9 [2] []
theorem aCo : aI (RD.cfg tt none false 0) aDs aDt V9 := by
 intro n E hn f c hs x k h
 cases hn
def GM : List Sh := [sI]
theorem aBz (x : aM GM) (Q : QT) (h : KL x.1 (fun (r : Bool) => Q (aC [(false, .bool)] [.n] (r, ())))) : aH Tryz.prog 184 (aJ GM x) Q := RD.told [.n] (rt := [(false, .bool)]) hI0 aCo Tryz.func184 (by kernel_rfl) (by kernel_rfl) (Nat.le_of_ble_eq_true rfl) h.it (by kernel_rfl)
noncomputable def KS : Tb Tryz.prog := RD.add 184 GM aBz
structure fA (a0 a1 a2 : Int) (Q : Int -> Prop) : Prop where
 it : Q (aD a1 (aL a0 a2))
noncomputable def KZ : Tab := fun n => none
noncomputable def wY : Code := (bod Tryz.f170).getD .skip
noncomputable def JR : Go.Mach.Ends := aN wY [6] []
theorem HT : aI (KS.cfg tt none false 0) KZ JR wY := by
 intro n E hn f c hs x k h
 cases hn
def mQ : List Sh := [sI, sI, sI]
theorem JG (x : aM mQ) (Q : QT) (h : fA x.1 x.2.1 x.2.2.1 (fun (r : Int) => Q (aC [(false, (.int .i64))] [.n] (r, ())))) : aH Tryz.prog 170 (aJ mQ x) Q := KS.told [.n] (rt := [(false, (.int .i64))]) hI0 HT Tryz.func170 (by kernel_rfl) (by kernel_rfl) (Nat.le_of_ble_eq_true rfl) h.it (by kernel_rfl)
noncomputable def n9 : Tb Tryz.prog := KS.add 170 mQ JG
structure tY (a0 : Int) (Q : Int -> Prop) : Prop where
 it : fA a0 (-4611686018427387904) 4611686018427387904 (fun (r1 : Int) => Q r1)
noncomputable def aDJ : Tab := fun n => none
noncomputable def SN : Code := (bod Tryz.f167).getD .skip
noncomputable def aCv : Go.Mach.Ends := aN SN [2] []
theorem aAP : aI (n9.cfg tt none false 0) aDJ aCv SN := by
 intro n E hn f c hs x k h
 cases hn
def CA : List Sh := [sI]
theorem aAj (x : aM CA) (Q : QT) (h : tY x.1 (fun (r : Int) => Q (aC [(false, (.int .i64))] [.n] (r, ())))) : aH Tryz.prog 167 (aJ CA x) Q := n9.told [.n] (rt := [(false, (.int .i64))]) hI0 aAP Tryz.func167 (by kernel_rfl) (by kernel_rfl) (Nat.le_of_ble_eq_true rfl) h.it (by kernel_rfl)
noncomputable def GH : Tb Tryz.prog := n9.add 167 CA aAj
structure gL (a0 a1 a2 : Int) (Q : Int -> Prop) : Prop where
 it : Q (aD a1 (aL a0 a2))
noncomputable def Q5 : Tab := fun n => none
noncomputable def AZ : Code := (bod Tryz.f169).getD .skip
noncomputable def QO : Go.Mach.Ends := aN AZ [6] []
theorem OJ : aI (GH.cfg tt none false 0) Q5 QO AZ := by
 intro n E hn f c hs x k h
 cases hn
def pU : List Sh := [sI, sI, sI]
theorem OC (x : aM pU) (Q : QT) (h : gL x.1 x.2.1 x.2.2.1 (fun (r : Int) => Q (aC [(false, (.int .i64))] [.n] (r, ())))) : aH Tryz.prog 169 (aJ pU x) Q := GH.told [.n] (rt := [(false, (.int .i64))]) hI0 OJ Tryz.func169 (by kernel_rfl) (by kernel_rfl) (Nat.le_of_ble_eq_true rfl) h.it (by kernel_rfl)
noncomputable def rN : Tb Tryz.prog := GH.add 169 pU OC
structure tJ (a0 a1 a2 : Int) (Q : Int -> Prop) : Prop where
 it : tY a0 (fun (r1 : Int) => gL a1 (-1000) 1000 (fun (r2 : Int) => gL a2 (-1000) 1000 (fun (r3 : Int) => if (decide ((IntKind.i64.wrap (r2 - r3)) < 0)) = true then ck ((0 : Int) <= (aL (IntKind.i64.wrap (0 - (IntKind.i64.wrap (r2 - r3)))) 62)) (Q ((r1).fdiv (2 ^ (min (aL (IntKind.i64.wrap (0 - (IntKind.i64.wrap (r2 - r3)))) 62).toNat (IntKind.i64).bits)))) else if ((decide (20 < (IntKind.i64.wrap (r2 - r3)))) && (decide (0 < r1))) = true then Q 1048576 else if ((decide (20 < (IntKind.i64.wrap (r2 - r3)))) && (decide (r1 < 0))) = true then Q (-1048576) else if (decide (20 < (IntKind.i64.wrap (r2 - r3)))) = true then Q 0 else fA r1 (-1048576) 1048576 (fun (r4 : Int) => ck ((0 : Int) <= (IntKind.i64.wrap (r2 - r3))) (fA (IntKind.i64.wrap (r4 * 2 ^ (min (IntKind.i64.wrap (r2 - r3)).toNat (IntKind.i64).bits))) (-1048576) 1048576 (fun (r5 : Int) => Q r5))))))
noncomputable def aBq : Tab := fun n => none
noncomputable def SJ : Code := (bod Tryz.f158).getD .skip
noncomputable def aBE : Go.Mach.Ends := aN SJ [6] []
theorem aAe : aI (rN.cfg tt none false 0) aBq aBE SJ := by
 intro n E hn f c hs x k h
 cases hn
def CG : List Sh := [sI, sI, sI]
theorem aAk (x : aM CG) (Q : QT) (h : tJ x.1 x.2.1 x.2.2.1 (fun (r : Int) => Q (aC [(false, (.int .i64))] [.n] (r, ())))) : aH Tryz.prog 158 (aJ CG x) Q := rN.told [.n] (rt := [(false, (.int .i64))]) hI0 aAe Tryz.func158 (by kernel_rfl) (by kernel_rfl) (Nat.le_of_ble_eq_true rfl) h.it (by kernel_rfl)
noncomputable def GE : Tb Tryz.prog := rN.add 158 CG aAk
def jO (x0 x1 x2 : Int) (x5 x8 : List Int) (x10 : Int) (K0 : Int -> Prop) (s : Int × Int) (nx : (Int × Int) -> Prop) : Prop :=
 if (decide (s.2 < x10)) = true then ck ((0 : Int) <= (IntKind.i64.wrap ((IntKind.i64.wrap (x0 * x2)) + s.2)) /\ (IntKind.i64.wrap ((IntKind.i64.wrap (x0 * x2)) + s.2)) < (x5.length : Int)) (ck ((0 : Int) <= (IntKind.i64.wrap ((IntKind.i64.wrap (x1 * x2)) + s.2)) /\ (IntKind.i64.wrap ((IntKind.i64.wrap (x1 * x2)) + s.2)) < (x8.length : Int)) (nx (IntKind.i64.wrap (s.1 + (IntKind.i64.wrap ((IntKind.i64.wrap (x5.getD ((IntKind.i64.wrap ((IntKind.i64.wrap (x0 * x2)) + s.2)).toNat) 0)) * (IntKind.i64.wrap (x8.getD ((IntKind.i64.wrap ((IntKind.i64.wrap (x1 * x2)) + s.2)).toNat) 0))))), IntKind.i64.wrap (s.2 + 1)))) else K0 s.1
structure DI (x0 x1 x2 : Int) (x5 x8 : List Int) (x10 : Int) (K0 : Int -> Prop) (s : Int × Int) : Prop where
 it : Go.Mach.Loop (jO x0 x1 x2 x5 x8 x10 K0) s
structure sT (a0 a1 : Int) (a2 : List Int) (a3 : Int) (a4 : List Int) (a5 a6 : Int) (a7 : List Int) (a8 : Int) (a9 a10 : List Int) (a11 : Int) (a12 : List Int) (Q : Int -> Prop) : Prop where
 it : ck ((0 : Int) <= a1 /\ a1 < (a4.length : Int)) (tJ (IntKind.i64.wrap (a4.getD ((a1).toNat) 0)) a3 a5 (fun (r1 : Int) => DI a0 a1 a6 a9 a12 a6 (fun (y2 : Int) => Q y2) (r1, 0)))
noncomputable def UA : Ent := ⟨[0, 1, 4, 5, 6, 10, 22, 23], [sI, sI, .bx [lI], .bx [lZ (.int .i64), lI, lZ (.int .i8)], .bx [lZ (.int .i64), lI, lZ (.int .i8)], sI, sI, sI], [], fun x k => DI x.1.1 x.1.2.1 x.1.2.2.1.1 x.1.2.2.2.1.2.2.1 x.1.2.2.2.2.1.2.2.1 x.1.2.2.2.2.2.2.1 (fun (y3 : Int) => k (.exit 0) ⟨[(10, vI y3)], []⟩) (x.1.2.2.2.2.2.1, x.1.2.2.2.2.2.2.2.1)⟩
noncomputable def BX : Tab := fun n => match n with | 58 => some UA | _ => none
noncomputable def EZ : Code := (bod Tryz.f157).getD .skip
noncomputable def T9 : Go.Mach.Ends := aN EZ [9] []
theorem SB : aI (GE.cfg tt none false 0) BX T9 EZ := by
 intro n E hn f c hs x k h
 unfold BX at hn
 split at hn
 ·cases hn; exact aG rfl hs (by kernel_rfl) (fun y : Int × Int => ⟨[(0, vI x.1.1), (1, vI x.1.2.1), (4, .bx [vI x.1.2.2.1.1] 0), (5, .bx [vZ (.int .i64) x.1.2.2.2.1.1, vI x.1.2.2.2.1.2.1, vZ (.int .i8) x.1.2.2.2.1.2.2.1] 0), (6, .bx [vZ (.int .i64) x.1.2.2.2.2.1.1, vI x.1.2.2.2.2.1.2.1, vZ (.int .i8) x.1.2.2.2.2.1.2.2.1] 0), (10, vI y.1), (22, vI x.1.2.2.2.2.2.2.1), (23, vI y.2)], []⟩) (x.1.2.2.2.2.2.1, x.1.2.2.2.2.2.2.2.1) (by kernel_rfl) (fun y X => by kernel_rfl) h.it
 ·cases hn
def tF : List Sh := [sI, sI, .bx [lZ (.int .i64), lI, lZ (.int .i8)], .bx [lI], .bx [lI], .bx [lZ (.int .i64), lI, lZ (.int .i8)], .bx [lZ (.int .i64), lI, lZ (.int .i8)]]
theorem R0 (x : aM tF) (Q : QT) (h : sT x.1 x.2.1 x.2.2.1.1 x.2.2.1.2.1 x.2.2.1.2.2.1 x.2.2.2.1.1 x.2.2.2.2.1.1 x.2.2.2.2.2.1.1 x.2.2.2.2.2.1.2.1 x.2.2.2.2.2.1.2.2.1 x.2.2.2.2.2.2.1.1 x.2.2.2.2.2.2.1.2.1 x.2.2.2.2.2.2.1.2.2.1 (fun (r : Int) => Q (aC [(false, (.int .i64))] [.n] (r, ())))) : aH Tryz.prog 157 (aJ tF x) Q := GE.told [.n] (rt := [(false, (.int .i64))]) hI0 SB Tryz.func157 (by kernel_rfl) (by kernel_rfl) (Nat.le_of_ble_eq_true rfl) h.it (by kernel_rfl)
noncomputable def uN : Tb Tryz.prog := GE.add 157 tF R0
def eV (x1 : List Int) (x2 : Int) (x3 : List Int) (x4 x5 : Int) (x6 : List Int) (x7 : Int) (x8 x9 : List Int) (x10 : Int) (x11 : List Int) (x12 x15 : Int) (K0 : (List Int) -> Prop) (s : Int × List Int) (nx : (Int × List Int) -> Prop) : Prop :=
 if (decide (s.1 < x15)) = true then sT x12 s.1 x1 x2 x3 x4 x5 x6 x7 x8 x9 x10 x11 (fun (r6 : Int) => ck ((s.2.length + [IntKind.i32.wrap r6].length) * 4 <= 140737488355328) (nx (IntKind.i64.wrap (s.1 + 1), s.2 ++ [IntKind.i32.wrap r6]))) else K0 s.2
structure lA (x1 : List Int) (x2 : Int) (x3 : List Int) (x4 x5 : Int) (x6 : List Int) (x7 : Int) (x8 x9 : List Int) (x10 : Int) (x11 : List Int) (x12 x15 : Int) (K0 : (List Int) -> Prop) (s : Int × List Int) : Prop where
 it : Go.Mach.Loop (eV x1 x2 x3 x4 x5 x6 x7 x8 x9 x10 x11 x12 x15 K0) s
def cU (x0 : Int) (x1 : List Int) (x2 : Int) (x3 : List Int) (x4 x5 : Int) (x6 : List Int) (x7 : Int) (x8 x9 : List Int) (x10 : Int) (x11 : List Int) (x12 : Int) (K0 : (List Int) -> Prop) (s : Int × List Int) (nx : (Int × List Int) -> Prop) : Prop :=
 if (decide (s.1 < x12)) = true then lA x1 x2 x3 x4 x5 x6 x7 x8 x9 x10 x11 s.1 x0 (fun (y6 : List Int) => nx (IntKind.i64.wrap (s.1 + 1), y6)) (0, s.2) else K0 s.2
structure k8 (x0 : Int) (x1 : List Int) (x2 : Int) (x3 : List Int) (x4 x5 : Int) (x6 : List Int) (x7 : Int) (x8 x9 : List Int) (x10 : Int) (x11 : List Int) (x12 : Int) (K0 : (List Int) -> Prop) (s : Int × List Int) : Prop where
 it : Go.Mach.Loop (cU x0 x1 x2 x3 x4 x5 x6 x7 x8 x9 x10 x11 x12 K0) s
structure eB (a0 a1 a2 a3 : Int) (a4 : List Int) (a5 : Int) (a6 : List Int) (a7 a8 : Int) (a9 : List Int) (a10 : Int) (a11 a12 : List Int) (a13 : Int) (a14 : List Int) (Q : (iE × Int) -> Prop) : Prop where
 it : KL a2 (fun (r1 : Bool) => if (((!r1) || (decide (128 < a3))) || (decide (a3 < (-128)))) = true then Q ((([] : List Int), (0, ([] : List Int))), 3) else lC [a0, a1] (fun (r2 : Bool) => if (!r2) = true then Q ((([] : List Int), (0, ([] : List Int))), 1) else k8 a1 a4 a5 a6 a7 a8 a9 a10 a11 a12 a13 a14 a0 (fun (y7 : List Int) => Q (([a0, a1], (a3, y7)), 0)) (0, ([] : List Int))))
noncomputable def yH : Ent := ⟨[1, 4, 10, 12, 39, 40], [sI, .fn 157 [.bx [lZ (.int .i64), lI, lZ (.int .i8)], .bx [lI], .bx [lI], .bx [lZ (.int .i64), lI, lZ (.int .i8)], .bx [lZ (.int .i64), lI, lZ (.int .i8)]], sC (.ptr 0 0), sC (.ptr 1 0), sI, sI], [.box [.cst (.pl (.slice none 0 0)), lI, .cst (.pl (.slice none 0 0))] false, .box [.cst (.own 2), lI, .cst (.pl (.slice none 0 0))] false, .lst true (.int .i64) false], fun x k => k8 x.1.1 x.1.2.1.1.1 x.1.2.1.1.2.1 x.1.2.1.1.2.2.1 x.1.2.1.2.1.1 x.1.2.1.2.2.1.1 x.1.2.1.2.2.2.1.1 x.1.2.1.2.2.2.1.2.1 x.1.2.1.2.2.2.1.2.2.1 x.1.2.1.2.2.2.2.1.1 x.1.2.1.2.2.2.2.1.2.1 x.1.2.1.2.2.2.2.1.2.2.1 x.1.2.2.2.2.1 (fun (y8 : List Int) => k (.exit 1) ⟨[(10, .ptr 0 0), (12, .ptr 1 0)], [.box [.pl (.slice none 0 0), vI x.2.1.2.1, .pl (.slice none 0 0)] false, .box [.own 2, vI x.2.2.1.2.1, .own 3] false, .lst true (.int .i64) x.2.2.2.1 false, .lst true (.int .i32) y8 false]⟩) (x.1.2.2.2.2.2.1, ([] : List Int))⟩
noncomputable def xR : Ent := ⟨[1, 4, 10, 12, 13, 39, 40, 43, 44], [sI, .fn 157 [.bx [lZ (.int .i64), lI, lZ (.int .i8)], .bx [lI], .bx [lI], .bx [lZ (.int .i64), lI, lZ (.int .i8)], .bx [lZ (.int .i64), lI, lZ (.int .i8)]], sC (.ptr 0 0), sC (.ptr 1 0), sI, sI, sI, sI, sI], [.box [.cst (.pl (.slice none 0 0)), lI, .cst (.pl (.slice none 0 0))] false, .box [.cst (.own 2), lI, .cst (.own 3)] false, .lst true (.int .i64) false, .lst true (.int .i32) false], fun x k => lA x.1.2.1.1.1 x.1.2.1.1.2.1 x.1.2.1.1.2.2.1 x.1.2.1.2.1.1 x.1.2.1.2.2.1.1 x.1.2.1.2.2.2.1.1 x.1.2.1.2.2.2.1.2.1 x.1.2.1.2.2.2.1.2.2.1 x.1.2.1.2.2.2.2.1.1 x.1.2.1.2.2.2.2.1.2.1 x.1.2.1.2.2.2.2.1.2.2.1 x.1.2.2.2.2.1 x.1.2.2.2.2.2.2.2.1 (fun (y9 : List Int) => k (.exit 3) ⟨[(1, vI x.1.1), (4, .fn 157 [.bx [vZ (.int .i64) x.1.2.1.1.1, vI x.1.2.1.1.2.1, vZ (.int .i8) x.1.2.1.1.2.2.1] 0, .bx [vI x.1.2.1.2.1.1] 0, .bx [vI x.1.2.1.2.2.1.1] 0, .bx [vZ (.int .i64) x.1.2.1.2.2.2.1.1, vI x.1.2.1.2.2.2.1.2.1, vZ (.int .i8) x.1.2.1.2.2.2.1.2.2.1] 0, .bx [vZ (.int .i64) x.1.2.1.2.2.2.2.1.1, vI x.1.2.1.2.2.2.2.1.2.1, vZ (.int .i8) x.1.2.1.2.2.2.2.1.2.2.1] 0]), (10, .ptr 0 0), (12, .ptr 1 0), (39, vI x.1.2.2.2.2.2.1), (40, vI x.1.2.2.2.2.2.2.1)], [.box [.pl (.slice none 0 0), vI x.2.1.2.1, .pl (.slice none 0 0)] false, .box [.own 2, vI x.2.2.1.2.1, .own 3] false, .lst true (.int .i64) x.2.2.2.1 false, .lst true (.int .i32) y9 false]⟩) (x.1.2.2.2.2.2.2.2.2.1, x.2.2.2.2.1)⟩
noncomputable def kR : Tab := fun n => match n with | 122 => some yH | 31334 => some xR | _ => none
noncomputable def lW : Code := (bod Tryz.f156).getD .skip
noncomputable def yC : Go.Mach.Ends := aN lW [10, 11] [(122, [⟨12, some 2, false, (.int .i32)⟩]), (31334, [⟨12, some 2, false, (.int .i32)⟩])]
theorem vY : aI (uN.cfg tt none false 0) kR yC lW := by
 intro n E hn f c hs x k h
 unfold kR at hn
 split at hn
 ·cases hn; exact aG rfl hs (by kernel_rfl) (fun y : Int × List Int => ⟨[(1, vI x.1.1), (4, .fn 157 [.bx [vZ (.int .i64) x.1.2.1.1.1, vI x.1.2.1.1.2.1, vZ (.int .i8) x.1.2.1.1.2.2.1] 0, .bx [vI x.1.2.1.2.1.1] 0, .bx [vI x.1.2.1.2.2.1.1] 0, .bx [vZ (.int .i64) x.1.2.1.2.2.2.1.1, vI x.1.2.1.2.2.2.1.2.1, vZ (.int .i8) x.1.2.1.2.2.2.1.2.2.1] 0, .bx [vZ (.int .i64) x.1.2.1.2.2.2.2.1.1, vI x.1.2.1.2.2.2.2.1.2.1, vZ (.int .i8) x.1.2.1.2.2.2.2.1.2.2.1] 0]), (10, .ptr 0 0), (12, .ptr 1 0), (39, vI x.1.2.2.2.2.1), (40, vI y.1)], [.box [.pl (.slice none 0 0), vI x.2.1.2.1, .pl (.slice none 0 0)] false, .box [.own 2, vI x.2.2.1.2.1, .own 3] false, .lst true (.int .i64) x.2.2.2.1 false, .lst true (.int .i32) y.2 false]⟩) (x.1.2.2.2.2.2.1, ([] : List Int)) (by kernel_rfl) (fun y X => by kernel_rfl) h.it
 ·cases hn; exact aG rfl hs (by kernel_rfl) (fun y : Int × List Int => ⟨[(1, vI x.1.1), (4, .fn 157 [.bx [vZ (.int .i64) x.1.2.1.1.1, vI x.1.2.1.1.2.1, vZ (.int .i8) x.1.2.1.1.2.2.1] 0, .bx [vI x.1.2.1.2.1.1] 0, .bx [vI x.1.2.1.2.2.1.1] 0, .bx [vZ (.int .i64) x.1.2.1.2.2.2.1.1, vI x.1.2.1.2.2.2.1.2.1, vZ (.int .i8) x.1.2.1.2.2.2.1.2.2.1] 0, .bx [vZ (.int .i64) x.1.2.1.2.2.2.2.1.1, vI x.1.2.1.2.2.2.2.1.2.1, vZ (.int .i8) x.1.2.1.2.2.2.2.1.2.2.1] 0]), (10, .ptr 0 0), (12, .ptr 1 0), (13, vI x.1.2.2.2.2.1), (39, vI x.1.2.2.2.2.2.1), (40, vI x.1.2.2.2.2.2.2.1), (43, vI x.1.2.2.2.2.2.2.2.1), (44, vI y.1)], [.box [.pl (.slice none 0 0), vI x.2.1.2.1, .pl (.slice none 0 0)] false, .box [.own 2, vI x.2.2.1.2.1, .own 3] false, .lst true (.int .i64) x.2.2.2.1 false, .lst true (.int .i32) y.2 false]⟩) (x.1.2.2.2.2.2.2.2.2.1, x.2.2.2.2.1) (by kernel_rfl) (fun y X => by kernel_rfl) h.it
 ·cases hn
def fU : List Sh := [sI, sI, sI, sI, .fn 157 [.bx [lZ (.int .i64), lI, lZ (.int .i8)], .bx [lI], .bx [lI], .bx [lZ (.int .i64), lI, lZ (.int .i8)], .bx [lZ (.int .i64), lI, lZ (.int .i8)]]]
theorem wE (x : aM fU) (Q : QT) (h : eB x.1 x.2.1 x.2.2.1 x.2.2.2.1 x.2.2.2.2.1.1.1 x.2.2.2.2.1.1.2.1 x.2.2.2.2.1.1.2.2.1 x.2.2.2.2.1.2.1.1 x.2.2.2.2.1.2.2.1.1 x.2.2.2.2.1.2.2.2.1.1 x.2.2.2.2.1.2.2.2.1.2.1 x.2.2.2.2.1.2.2.2.1.2.2.1 x.2.2.2.2.1.2.2.2.2.1.1 x.2.2.2.2.1.2.2.2.2.1.2.1 x.2.2.2.2.1.2.2.2.2.1.2.2.1 (fun (r : iE × Int) => Q (aC [(true, uE), (false, (.int .i64))] [.n, .n] (r.1, (r.2, ()))))) : aH Tryz.prog 156 (aJ fU x) Q := uN.told [.n, .n] (rt := [(true, uE), (false, (.int .i64))]) hI0 vY Tryz.func156 (by kernel_rfl) (by kernel_rfl) (Nat.le_of_ble_eq_true rfl) h.it (by kernel_rfl)
noncomputable def gD : Tb Tryz.prog := uN.addF 156 [157] fU wE
structure FI (a0 a1 a2 : aR) (Q : (iE × Int) -> Prop) : Prop where
 it : cF a2 (fun (r1 : Bool) => if (!r1) = true then Q ((([] : List Int), (0, ([] : List Int))), 1) else YH 2 [a0, a1] (fun (r2 : Int) => if (r2 != 0) = true then Q ((([] : List Int), (0, ([] : List Int))), r2) else ck ((0 : Int) <= 0 /\ 0 < (a0.1.length : Int)) (ck ((0 : Int) <= 1 /\ 1 < (a0.1.length : Int)) (ck ((0 : Int) <= 0 /\ 0 < (a1.1.length : Int)) (ck ((0 : Int) <= 1 /\ 1 < (a1.1.length : Int)) (jn (fun (v3 : Bool) => if v3 = true then Q ((([] : List Int), (0, ([] : List Int))), 2) else eB (a0.1.getD 0 0) (a1.1.getD 0 0) (a0.1.getD 1 0) (IntKind.i64.wrap (a0.2.1 + a1.2.1)) a2.1 a2.2.1 a2.2.2 (IntKind.i64.wrap (a0.2.1 + a1.2.1)) (a0.1.getD 1 0) a0.1 a0.2.1 a0.2.2 a1.1 a1.2.1 a1.2.2 (fun (r5 : iE × Int) => Q (r5.1, r5.2))) (fun J4 => if (((a1.1.getD 1 0) != (a0.1.getD 1 0)) || ((a2.1.length : Int) != 1)) = true then J4 true else ck ((0 : Int) <= 0 /\ 0 < (a2.1.length : Int)) (J4 ((a2.1.getD 0 0) != (a1.1.getD 0 0))))))))))
noncomputable def XQ : Tab := fun n => none
noncomputable def NZ : Code := (bod Tryz.f97).getD .skip
noncomputable def YF : Go.Mach.Ends := aN NZ [6, 7] []
theorem V0 : aI (gD.cfg tt none false 0) XQ YF NZ := by
 intro n E hn f c hs x k h
 cases hn
def xW : List Sh := [.agg [lZ (.int .i64), lI, lZ (.int .i8)], .agg [lZ (.int .i64), lI, lZ (.int .i8)], .agg [lZ (.int .i64), lI, lZ (.int .i8)]]
theorem UX (x : aM xW) (Q : QT) (h : FI (x.1.1, (x.1.2.1, x.1.2.2.1)) (x.2.1.1, (x.2.1.2.1, x.2.1.2.2.1)) (x.2.2.1.1, (x.2.2.1.2.1, x.2.2.1.2.2.1)) (fun (r : iE × Int) => Q (aC [(true, uE), (false, (.int .i64))] [.n, .n] (r.1, (r.2, ()))))) : aH Tryz.prog 97 (aJ xW x) Q := gD.told [.n, .n] (rt := [(true, uE), (false, (.int .i64))]) hI0 V0 Tryz.func97 (by kernel_rfl) (by kernel_rfl) (Nat.le_of_ble_eq_true rfl) h.it (by kernel_rfl)
noncomputable def zQ : Tb Tryz.prog := gD.add 97 xW UX
end Go.Proofs.YtcfpfefadlnmcaaGreat

namespace Go.Proofs.YtcfpfefadlnmcaaGreat
open Go.Mach
set_option maxRecDepth 100000
set_option linter.unusedVariables false
def yN (x1 : List aR) (x2 : Int) (K0 K1 : Unit -> Prop) (s : Int) (nx : Int -> Prop) : Prop :=
 if (decide (s < x2)) = true then ck ((0 : Int) <= s /\ s < (x1.length : Int)) (cF (x1.getD ((s).toNat) ([], (0, []))) (fun (r1 : Bool) => if (!r1) = true then K1 () else nx (IntKind.i64.wrap (s + 1)))) else K0 ()
structure ZZ (x1 : List aR) (x2 : Int) (K0 K1 : Unit -> Prop) (s : Int) : Prop where
 it : Go.Mach.Loop (yN x1 x2 K0 K1) s
def yL (x0 : List aR) (x1 : Int) (K0 K1 : Unit -> Prop) (s : Int) (nx : Int -> Prop) : Prop :=
 if (decide (s < x1)) = true then ck ((0 : Int) <= s /\ s < (x0.length : Int)) (if ((((x0.getD ((s).toNat) ([], (0, []))).1).length : Int) != 4) = true then K1 () else nx (IntKind.i64.wrap (s + 1))) else K0 ()
structure ZP (x0 : List aR) (x1 : Int) (K0 K1 : Unit -> Prop) (s : Int) : Prop where
 it : Go.Mach.Loop (yL x0 x1 K0 K1) s
structure aBS (a0 : List aR) (Q : Int -> Prop) : Prop where
 it : ZZ a0 (a0.length : Int) (fun (y2 : Unit) => ZP a0 (a0.length : Int) (fun (y3 : Unit) => Q 0) (fun (y4 : Unit) => Q 2) 0) (fun (y5 : Unit) => Q 1) 0
noncomputable def aGu : Ent := ⟨[0, 7, 8, 9], [sZ c9, sZ c9, sI, sI], [], fun x k => ZZ x.1.2.1 x.1.2.2.1 (fun (y6 : Unit) => k (.exit 0) ⟨[(0, vZ c9 x.1.1)], []⟩) (fun (y7 : Unit) => k .ret ⟨[(2, vI 1)], []⟩) x.1.2.2.2.1⟩
noncomputable def aGx : Ent := ⟨[17, 18, 19], [sZ c9, sI, sI], [], fun x k => ZP x.1.1 x.1.2.1 (fun (y8 : Unit) => k (.exit 2) ⟨[], []⟩) (fun (y9 : Unit) => k .ret ⟨[(2, vI 2)], []⟩) x.1.2.2.1⟩
noncomputable def Y9 : Tab := fun n => match n with | 26 => some aGu | 58 => some aGx | _ => none
noncomputable def aC7 : Code := (bod Tryz.f159).getD .skip
noncomputable def aII : Go.Mach.Ends := aN aC7 [2] []
theorem aFt : aI (zQ.cfg tt none false 0) Y9 aII aC7 := by
 intro n E hn f c hs x k h
 unfold Y9 at hn
 split at hn
 ·cases hn; exact aG rfl hs (by kernel_rfl) (fun y : Int => ⟨[(0, vZ c9 x.1.1), (7, vZ c9 x.1.2.1), (8, vI x.1.2.2.1), (9, vI y)], []⟩) x.1.2.2.2.1 (by kernel_rfl) (fun y X => by kernel_rfl) h.it
 ·cases hn; exact aG rfl hs (by kernel_rfl) (fun y : Int => ⟨[(17, vZ c9 x.1.1), (18, vI x.1.2.1), (19, vI y)], []⟩) x.1.2.2.1 (by kernel_rfl) (fun y X => by kernel_rfl) h.it
 ·cases hn
def Q0 : List Sh := [sZ c9]
theorem aGT (x : aM Q0) (Q : QT) (h : aBS x.1 (fun (r : Int) => Q (aC [(false, (.int .i64))] [.n] (r, ())))) : aH Tryz.prog 159 (aJ Q0 x) Q := zQ.told [.n] (rt := [(false, (.int .i64))]) hI0 aFt Tryz.func159 (by kernel_rfl) (by kernel_rfl) (Nat.le_of_ble_eq_true rfl) h.it (by kernel_rfl)
noncomputable def TB : Tb Tryz.prog := zQ.add 159 Q0 aGT
structure HY (a0 a1 a2 : Int) (Q : Bool -> Prop) : Prop where
 it : Q ((decide (a1 <= a0)) && (decide (a0 <= a2)))
noncomputable def aHO : Tab := fun n => none
noncomputable def aDQ : Code := (bod Tryz.f186).getD .skip
noncomputable def aGy : Go.Mach.Ends := aN aDQ [6] []
theorem aF0 : aI (TB.cfg tt none false 0) aHO aGy aDQ := by
 intro n E hn f c hs x k h
 cases hn
def P8 : List Sh := [sI, sI, sI]
theorem aGe (x : aM P8) (Q : QT) (h : HY x.1 x.2.1 x.2.2.1 (fun (r : Bool) => Q (aC [(false, .bool)] [.n] (r, ())))) : aH Tryz.prog 186 (aJ P8 x) Q := TB.told [.n] (rt := [(false, .bool)]) hI0 aF0 Tryz.func186 (by kernel_rfl) (by kernel_rfl) (Nat.le_of_ble_eq_true rfl) h.it (by kernel_rfl)
noncomputable def S9 : Tb Tryz.prog := TB.add 186 P8 aGe
structure nU (a0 a1 a2 a3 : Int) (Q : Int -> Prop) : Prop where
 it : HY a0 1 16 (fun (r1 : Bool) => jn (fun (v2 : Bool) => jn (fun (v5 : Bool) => jn (fun (v8 : Bool) => if (v8 || (decide ((IntKind.i64.wrap (a0 + (IntKind.i64.wrap (2 * a3)))) < a1))) = true then Q 0 else ck (a2 ≠ (0 : Int)) (Q (IntKind.i64.wrap ((IntKind.i64.wrap ((IntKind.i64.wrap ((IntKind.i64.wrap (a0 + (IntKind.i64.wrap (2 * a3)))) - a1)).tdiv a2)) + 1)))) (fun J9 => if v5 = true then J9 true else HY a3 0 (IntKind.i64.wrap (a1 - 1)) (fun (r10 : Bool) => J9 (!r10)))) (fun J6 => if v2 = true then J6 true else HY a2 1 4 (fun (r7 : Bool) => J6 (!r7)))) (fun J3 => if (!r1) = true then J3 true else HY a1 1 5 (fun (r4 : Bool) => J3 (!r4))))
noncomputable def aGZ : Tab := fun n => none
noncomputable def Y0 : Code := (bod Tryz.f171).getD .skip
noncomputable def aFs : Go.Mach.Ends := aN Y0 [8] []
theorem aDa : aI (S9.cfg tt none false 0) aGZ aFs Y0 := by
 intro n E hn f c hs x k h
 cases hn
def MO : List Sh := [sI, sI, sI, sI]
theorem aDr (x : aM MO) (Q : QT) (h : nU x.1 x.2.1 x.2.2.1 x.2.2.2.1 (fun (r : Int) => Q (aC [(false, (.int .i64))] [.n] (r, ())))) : aH Tryz.prog 171 (aJ MO x) Q := S9.told [.n] (rt := [(false, (.int .i64))]) hI0 aDa Tryz.func171 (by kernel_rfl) (by kernel_rfl) (Nat.le_of_ble_eq_true rfl) h.it (by kernel_rfl)
noncomputable def QG : Tb Tryz.prog := S9.add 171 MO aDr
structure W3 (a0 a1 a2 a3 a4 : Int) (Q : (aJh × Bool) -> Prop) : Prop where
 it : nU a0 a2 a3 a4 (fun (r1 : Int) => nU a1 a2 a3 a4 (fun (r2 : Int) => Q ((a0, (a1, (a2, (a3, (a4, (r1, r2)))))), (decide (0 < r1)) && (decide (0 < r2)))))
noncomputable def aFR : Tab := fun n => none
noncomputable def ZJ : Code := (bod Tryz.f160).getD .skip
noncomputable def aFw : Go.Mach.Ends := aN ZJ [10, 11] []
theorem aDh : aI (QG.cfg tt none false 0) aFR aFw ZJ := by
 intro n E hn f c hs x k h
 cases hn
def LF : List Sh := [sI, sI, sI, sI, sI]
theorem aDi (x : aM LF) (Q : QT) (h : W3 x.1 x.2.1 x.2.2.1 x.2.2.2.1 x.2.2.2.2.1 (fun (r : aJh × Bool) => Q (aC [(true, aJe), (false, .bool)] [.n, .n] (r.1, (r.2, ()))))) : aH Tryz.prog 160 (aJ LF x) Q := QG.told [.n, .n] (rt := [(true, aJe), (false, .bool)]) hI0 aDh Tryz.func160 (by kernel_rfl) (by kernel_rfl) (Nat.le_of_ble_eq_true rfl) h.it (by kernel_rfl)
noncomputable def PH : Tb Tryz.prog := QG.add 160 LF aDi
structure TF (a0 a1 : Int) (a2 : List Int) (Q : (iE × Int) -> Prop) : Prop where
 it : KL a0 (fun (r1 : Bool) => if (((!r1) || (decide (128 < a1))) || (decide (a1 < (-128)))) = true then Q ((([] : List Int), (0, ([] : List Int))), 3) else lC a2 (fun (r2 : Bool) => if (!r2) = true then Q ((([] : List Int), (0, ([] : List Int))), 1) else pX a2 (fun (r3 : Int) => ck ((0 : Int) <= r3 /\ ((4 : Nat) : Int) * r3 <= 70368744177664) (Q ((a2, (a1, List.replicate (r3).toNat (0 : Int))), 0)))))
noncomputable def aDd : Tab := fun n => none
noncomputable def VZ : Code := (bod Tryz.f161).getD .skip
noncomputable def aDg : Go.Mach.Ends := aN VZ [6, 7] []
theorem aDR : aI (PH.cfg tt none false 0) aDd aDg VZ := by
 intro n E hn f c hs x k h
 cases hn
def GQ : List Sh := [sI, sI, sZ (.int .i64)]
theorem aBt (x : aM GQ) (Q : QT) (h : TF x.1 x.2.1 x.2.2.1 (fun (r : iE × Int) => Q (aC [(true, uE), (false, (.int .i64))] [(.p .f .n), .n] (r.1, (r.2, ()))))) : aH Tryz.prog 161 (aJ GQ x) Q := PH.told [(.p .f .n), .n] (rt := [(true, uE), (false, (.int .i64))]) hI0 aDR Tryz.func161 (by kernel_rfl) (by kernel_rfl) (Nat.le_of_ble_eq_true rfl) h.it (by kernel_rfl)
noncomputable def MG : Tb Tryz.prog := PH.add 161 GQ aBt
structure NT (a0 : aNo) (Q : (Int × Int) -> Prop) : Prop where
 it : nU a0.1 a0.2.2.1 a0.2.2.2.1 a0.2.2.2.2 (fun (r1 : Int) => nU a0.2.1 a0.2.2.1 a0.2.2.2.1 a0.2.2.2.2 (fun (r2 : Int) => Q (r1, r2)))
noncomputable def UM : Tab := fun n => none
noncomputable def EK : Code := (bod Tryz.f187).getD .skip
noncomputable def UI : Go.Mach.Ends := aN EK [2, 3] []
theorem SA : aI (MG.cfg tt none false 0) UM UI EK := by
 intro n E hn f c hs x k h
 cases hn
def tC : List Sh := [.agg [lI, lI, lI, lI, lI]]
theorem R3 (x : aM tC) (Q : QT) (h : NT (x.1.1, (x.1.2.1, (x.1.2.2.1, (x.1.2.2.2.1, x.1.2.2.2.2.1)))) (fun (r : Int × Int) => Q (aC [(false, (.int .i64)), (false, (.int .i64))] [.n, .n] (r.1, (r.2, ()))))) : aH Tryz.prog 187 (aJ tC x) Q := MG.told [.n, .n] (rt := [(false, (.int .i64)), (false, (.int .i64))]) hI0 SA Tryz.func187 (by kernel_rfl) (by kernel_rfl) (Nat.le_of_ble_eq_true rfl) h.it (by kernel_rfl)
noncomputable def uZ : Tb Tryz.prog := MG.add 187 tC R3
structure yX (a0 a1 a2 : Int) (Q : Bool -> Prop) : Prop where
 it : Q ((decide (a1 <= a0)) && (decide (a0 <= a2)))
noncomputable def aHc : Tab := fun n => none
noncomputable def aDM : Code := (bod Tryz.f188).getD .skip
noncomputable def aGq : Go.Mach.Ends := aN aDM [6] []
theorem aFi : aI (uZ.cfg tt none false 0) aHc aGq aDM := by
 intro n E hn f c hs x k h
 cases hn
def RA : List Sh := [sI, sI, sI]
theorem aGQ (x : aM RA) (Q : QT) (h : yX x.1 x.2.1 x.2.2.1 (fun (r : Bool) => Q (aC [(false, .bool)] [.n] (r, ())))) : aH Tryz.prog 188 (aJ RA x) Q := uZ.told [.n] (rt := [(false, .bool)]) hI0 aFi Tryz.func188 (by kernel_rfl) (by kernel_rfl) (Nat.le_of_ble_eq_true rfl) h.it (by kernel_rfl)
noncomputable def UG : Tb Tryz.prog := uZ.add 188 RA aGQ
structure HX (a0 a1 : Int) (Q : (Nat × Nat) -> Prop) : Prop where
 it : yX a0 (-1000) 1000 (fun (r1 : Bool) => jn (fun (v2 : Bool) => if v2 = true then Q (0, 0) else Q (floatOfInt .f64 a0, floatOfInt .f64 a1)) (fun J3 => if (!r1) = true then J3 true else yX a1 (-1000) 1000 (fun (r4 : Bool) => J3 (!r4))))
noncomputable def aGi : Tab := fun n => none
noncomputable def aCd : Code := (bod Tryz.f191).getD .skip
noncomputable def aGp : Go.Mach.Ends := aN aCd [4] []
theorem aFy : aI (UG.cfg tt none false 0) aGi aGp aCd := by
 intro n E hn f c hs x k h
 cases hn
def O7 : List Sh := [sI, sI]
theorem aG0 (x : aM O7) (Q : QT) (h : HX x.1 x.2.1 (fun (r : Nat × Nat) => Q (aC [(false, .cpx)] [.n] (r, ())))) : aH Tryz.prog 191 (aJ O7 x) Q := UG.told [.n] (rt := [(false, .cpx)]) hI0 aFy Tryz.func191 (by kernel_rfl) (by kernel_rfl) (Nat.le_of_ble_eq_true rfl) h.it (by kernel_rfl)
noncomputable def TZ : Tb Tryz.prog := UG.add 191 O7 aG0
structure EU (a0 : Nat) (Q : (Int × Bool) -> Prop) : Prop where
 it : if (!(((FloatKind.f64.format.order a0 13875379345695965184 == some Ordering.gt) || (FloatKind.f64.format.order a0 13875379345695965184 == some Ordering.eq)) && ((FloatKind.f64.format.order a0 4652007308841189376 == some Ordering.lt) || (FloatKind.f64.format.order a0 4652007308841189376 == some Ordering.eq)))) = true then Q (0, false) else got (floatToIntVal .f64 a0 .i64) (fun (r1 : Int) => Q (r1, FloatKind.f64.format.order (floatOfInt .f64 r1) a0 == some Ordering.eq))
noncomputable def aCN : Tab := fun n => none
noncomputable def S0 : Code := (bod Tryz.f193).getD .skip
noncomputable def aDV : Go.Mach.Ends := aN S0 [2, 3] []
theorem aAM : aI (TZ.cfg tt none false 0) aCN aDV S0 := by
 intro n E hn f c hs x k h
 cases hn
def B6 : List Sh := [.lf (.flt)]
theorem aA7 (x : aM B6) (Q : QT) (h : EU x.1 (fun (r : Int × Bool) => Q (aC [(false, (.int .i64)), (false, .bool)] [.n, .n] (r.1, (r.2, ()))))) : aH Tryz.prog 193 (aJ B6 x) Q := TZ.told [.n, .n] (rt := [(false, (.int .i64)), (false, .bool)]) hI0 aAM Tryz.func193 (by kernel_rfl) (by kernel_rfl) (Nat.le_of_ble_eq_true rfl) h.it (by kernel_rfl)
noncomputable def FA : Tb Tryz.prog := TZ.add 193 B6 aA7
structure aCE (a0 : Nat × Nat) (Q : (Int × Int × Bool) -> Prop) : Prop where
 it : EU a0.1 (fun (r1 : Int × Bool) => EU a0.2 (fun (r2 : Int × Bool) => if ((!r1.2) || (!r2.2)) = true then Q (0, 0, false) else Q (r1.1, r2.1, true)))
noncomputable def aIE : Tab := fun n => none
noncomputable def aDO : Code := (bod Tryz.f192).getD .skip
noncomputable def aGs : Go.Mach.Ends := aN aDO [2, 3, 4] []
theorem aG8 : aI (FA.cfg tt none false 0) aIE aGs aDO := by
 intro n E hn f c hs x k h
 cases hn
def QH : List Sh := [.lf (.cpx)]
theorem aFf (x : aM QH) (Q : QT) (h : aCE x.1 (fun (r : Int × Int × Bool) => Q (aC [(false, (.int .i64)), (false, (.int .i64)), (false, .bool)] [.n, .n, .n] (r.1, (r.2.1, (r.2.2, ())))))) : aH Tryz.prog 192 (aJ QH x) Q := FA.told [.n, .n, .n] (rt := [(false, (.int .i64)), (false, (.int .i64)), (false, .bool)]) hI0 aG8 Tryz.func192 (by kernel_rfl) (by kernel_rfl) (Nat.le_of_ble_eq_true rfl) h.it (by kernel_rfl)
noncomputable def S8 : Tb Tryz.prog := FA.add 192 QH aFf
structure iV (x5 : Int) (K0 : Int -> Prop) : Prop where
 it : K0 (IntKind.i64.wrap (x5 + 1))
def gW (x0 : Nat × Nat) (x1 x4 x6 x7 : Int) (K0 : (List aX) -> Prop) (s : Int × List aX) (nx : (Int × List aX) -> Prop) : Prop :=
 if (decide (s.1 < x4)) = true then HX x1 s.1 (fun (r18 : Nat × Nat) => got (cSumBits .add .f64 x0.1 x0.2 r18.1 r18.2) (fun (r19 : Nat × Nat) => aCE r19 (fun (r20 : Int × Int × Bool) => jn (fun (v21 : Bool) => jn (fun (v24 : Bool) => if v24 = true then ck ((s.2.length + [(IntKind.i64.wrap ((IntKind.i64.wrap (r20.1 * x7)) + r20.2.1), (x1, s.1))].length) * 24 <= 140737488355328) (iV s.1 (fun (y27 : Int) => nx (y27, (s.2 ++ [(IntKind.i64.wrap ((IntKind.i64.wrap (r20.1 * x7)) + r20.2.1), (x1, s.1))])))) else iV s.1 (fun (y28 : Int) => nx (y28, s.2))) (fun J25 => if v21 = true then yX r20.2.1 0 (IntKind.i64.wrap (x7 - 1)) (fun (r26 : Bool) => J25 r26) else J25 false)) (fun J22 => if r20.2.2 = true then yX r20.1 0 (IntKind.i64.wrap (x6 - 1)) (fun (r23 : Bool) => J22 r23) else J22 false)))) else K0 s.2
structure oK (x0 : Nat × Nat) (x1 x4 x6 x7 : Int) (K0 : (List aX) -> Prop) (s : Int × List aX) : Prop where
 it : Go.Mach.Loop (gW x0 x1 x4 x6 x7 K0) s
def dV (x0 : Nat × Nat) (x1 x3 x4 x5 : Int) (K0 : (List aX) -> Prop) (s : Int × List aX) (nx : (Int × List aX) -> Prop) : Prop :=
 if (decide (s.1 < x1)) = true then oK x0 s.1 x5 x3 x4 (fun (y18 : List aX) => nx (IntKind.i64.wrap (s.1 + 1), y18)) (0, s.2) else K0 s.2
structure xL (x0 : Nat × Nat) (x1 x3 x4 x5 : Int) (K0 : (List aX) -> Prop) (s : Int × List aX) : Prop where
 it : Go.Mach.Loop (dV x0 x1 x3 x4 x5 K0) s
structure sV (a0 : aNo) (a1 a2 : Int) (Q : (List aX) -> Prop) : Prop where
 it : HX a0.2.2.2.1 0 (fun (r1 : Nat × Nat) => HX a1 a2 (fun (r2 : Nat × Nat) => got (cMulBits r1.1 r1.2 r2.1 r2.2) (fun (r3 : Nat × Nat) => HX a0.2.2.2.2 a0.2.2.2.2 (fun (r4 : Nat × Nat) => got (cSumBits .sub .f64 r3.1 r3.2 r4.1 r4.2) (fun (r5 : Nat × Nat) => xL r5 a0.2.2.1 a0.1 a0.2.1 a0.2.2.1 (fun (y19 : List aX) => Q y19) (0, ([] : List aX)))))))
noncomputable def OG : Ent := ⟨[3, 7, 8, 28, 29], [sC (.ptr 0 0), sC (.pl (.slice none 0 0)), .lf (.cpx), sI, sI], [.box [lI, lI, lI, lI, lI] false], fun x k => xL x.1.2.2.1 x.1.2.2.2.1 x.2.1.1 x.2.1.2.1 x.2.1.2.2.1 (fun (y20 : List aX) => k (.exit 0) ⟨[(7, .own 0)], [.lst true bZ y20 false]⟩) (x.1.2.2.2.2.1, ([] : List aX))⟩
noncomputable def OE : Ent := ⟨[3, 7, 8, 9, 28, 29, 33, 34], [sC (.ptr 0 0), sC (.own 1), .lf (.cpx), sI, sI, sI, sI, sI], [.box [lI, lI, lI, lI, lI] false, .lst true bZ false], fun x k => oK x.1.2.2.1 x.1.2.2.2.1 x.1.2.2.2.2.2.2.1 x.2.1.1 x.2.1.2.1 (fun (y21 : List aX) => k (.exit 2) ⟨[(3, .ptr 0 0), (7, .own 1), (8, .pl (.complex .f64 x.1.2.2.1.1 x.1.2.2.1.2)), (28, vI x.1.2.2.2.2.1), (29, vI x.1.2.2.2.2.2.1)], [.box [vI x.2.1.1, vI x.2.1.2.1, vI x.2.1.2.2.1, vI x.2.1.2.2.2.1, vI x.2.1.2.2.2.2.1] false, .lst true bZ y21 false]⟩) (x.1.2.2.2.2.2.2.2.1, x.2.2.1)⟩
noncomputable def OX : Ent := ⟨[3, 7, 8, 9, 28, 29, 33, 34], [sC (.ptr 0 0), sC (.own 1), .lf (.cpx), sI, sI, sI, sI, sI], [.box [lI, lI, lI, lI, lI] false, .lst true bZ false], fun x k => iV x.1.2.2.2.2.2.2.2.1 (fun (y22 : Int) => k .normal ⟨[(3, .ptr 0 0), (7, .own 1), (8, .pl (.complex .f64 x.1.2.2.1.1 x.1.2.2.1.2)), (9, vI x.1.2.2.2.1), (28, vI x.1.2.2.2.2.1), (29, vI x.1.2.2.2.2.2.1), (33, vI x.1.2.2.2.2.2.2.1), (34, vI y22)], [.box [vI x.2.1.1, vI x.2.1.2.1, vI x.2.1.2.2.1, vI x.2.1.2.2.2.1, vI x.2.1.2.2.2.2.1] false, .lst true bZ x.2.2.1 false]⟩)⟩
noncomputable def wO : Tab := fun n => match n with | 122 => some OG | 31334 => some OE | 501351 => some OX | _ => none
noncomputable def yT : Code := (bod Tryz.f189).getD .skip
noncomputable def OP : Go.Mach.Ends := aN yT [6] [(122, [⟨7, none, false, bZ⟩]), (31334, [⟨7, none, false, bZ⟩])]
theorem MJ : aI (S8.cfg tt none false 0) wO OP yT := by
 intro n E hn f c hs x k h
 unfold wO at hn
 split at hn
 ·cases hn; exact aG rfl hs (by kernel_rfl) (fun y : Int × List aX => ⟨[(3, .ptr 0 0), (7, .own 1), (8, .pl (.complex .f64 x.1.2.2.1.1 x.1.2.2.1.2)), (28, vI x.1.2.2.2.1), (29, vI y.1)], [.box [vI x.2.1.1, vI x.2.1.2.1, vI x.2.1.2.2.1, vI x.2.1.2.2.2.1, vI x.2.1.2.2.2.2.1] false, .lst true bZ y.2 false]⟩) (x.1.2.2.2.2.1, ([] : List aX)) (by kernel_rfl) (fun y X => by kernel_rfl) h.it
 ·cases hn; exact aG rfl hs (by kernel_rfl) (fun y : Int × List aX => ⟨[(3, .ptr 0 0), (7, .own 1), (8, .pl (.complex .f64 x.1.2.2.1.1 x.1.2.2.1.2)), (9, vI x.1.2.2.2.1), (28, vI x.1.2.2.2.2.1), (29, vI x.1.2.2.2.2.2.1), (33, vI x.1.2.2.2.2.2.2.1), (34, vI y.1)], [.box [vI x.2.1.1, vI x.2.1.2.1, vI x.2.1.2.2.1, vI x.2.1.2.2.2.1, vI x.2.1.2.2.2.2.1] false, .lst true bZ y.2 false]⟩) (x.1.2.2.2.2.2.2.2.1, x.2.2.1) (by kernel_rfl) (fun y X => by kernel_rfl) h.it
 ·cases hn; exact bU hs (by kernel_rfl) (by kernel_rfl) h.it
 ·cases hn
def oI : List Sh := [.agg [lI, lI, lI, lI, lI], sI, sI]
theorem LI (x : aM oI) (Q : QT) (h : sV (x.1.1, (x.1.2.1, (x.1.2.2.1, (x.1.2.2.2.1, x.1.2.2.2.2.1)))) x.2.1 x.2.2.1 (fun (r : List aX) => Q (aC [(false, (.slc bZ))] [.n] (r, ())))) : aH Tryz.prog 189 (aJ oI x) Q := S8.told [.n] (rt := [(false, (.slc bZ))]) hI0 MJ Tryz.func189 (by kernel_rfl) (by kernel_rfl) (Nat.le_of_ble_eq_true rfl) h.it (by kernel_rfl)
noncomputable def p8 : Tb Tryz.prog := S8.add 189 oI LI
structure uX (a0 a1 a2 a3 a4 a5 a6 : Int) (Q : (List aX) -> Prop) : Prop where
 it : NT (a0, (a1, (a4, (a5, a6)))) (fun (r1 : Int × Int) => jn (fun (v2 : Bool) => jn (fun (v5 : Bool) => if v5 = true then Q ([] : List aX) else sV (a0, (a1, (a4, (a5, a6)))) a2 a3 (fun (r8 : List aX) => Q r8)) (fun J6 => if v2 = true then J6 true else yX a3 0 (IntKind.i64.wrap (r1.2 - 1)) (fun (r7 : Bool) => J6 (!r7)))) (fun J3 => if ((decide (r1.1 < 1)) || (decide (r1.2 < 1))) = true then J3 true else yX a2 0 (IntKind.i64.wrap (r1.1 - 1)) (fun (r4 : Bool) => J3 (!r4))))
noncomputable def aAJ : Tab := fun n => none
noncomputable def QC : Code := (bod Tryz.f172).getD .skip
noncomputable def aAl : Go.Mach.Ends := aN QC [14] []
theorem XE : aI (p8.cfg tt none false 0) aAJ aAl QC := by
 intro n E hn f c hs x k h
 cases hn
def zW : List Sh := [sI, sI, sI, sI, sI, sI, sI]
theorem YK (x : aM zW) (Q : QT) (h : uX x.1 x.2.1 x.2.2.1 x.2.2.2.1 x.2.2.2.2.1 x.2.2.2.2.2.1 x.2.2.2.2.2.2.1 (fun (r : List aX) => Q (aC [(false, (.slc bZ))] [.n] (r, ())))) : aH Tryz.prog 172 (aJ zW x) Q := p8.told [.n] (rt := [(false, (.slc bZ))]) hI0 XE Tryz.func172 (by kernel_rfl) (by kernel_rfl) (Nat.le_of_ble_eq_true rfl) h.it (by kernel_rfl)
noncomputable def B8 : Tb Tryz.prog := p8.add 172 zW YK
structure N6 (a0 : aJh) (a1 a2 : Int) (Q : (List aX) -> Prop) : Prop where
 it : uX a0.1 a0.2.1 a1 a2 a0.2.2.1 a0.2.2.2.1 a0.2.2.2.2.1 (fun (r1 : List aX) => Q r1)
noncomputable def T5 : Tab := fun n => none
noncomputable def EX : Code := (bod Tryz.f162).getD .skip
noncomputable def TV : Go.Mach.Ends := aN EX [6] []
theorem R6 : aI (B8.cfg tt none false 0) T5 TV EX := by
 intro n E hn f c hs x k h
 cases hn
def sY : List Sh := [.agg [lI, lI, lI, lI, lI, lI, lI], sI, sI]
theorem R5 (x : aM sY) (Q : QT) (h : N6 (x.1.1, (x.1.2.1, (x.1.2.2.1, (x.1.2.2.2.1, (x.1.2.2.2.2.1, (x.1.2.2.2.2.2.1, x.1.2.2.2.2.2.2.1)))))) x.2.1 x.2.2.1 (fun (r : List aX) => Q (aC [(false, (.slc bZ))] [.n] (r, ())))) : aH Tryz.prog 162 (aJ sY x) Q := B8.told [.n] (rt := [(false, (.slc bZ))]) hI0 R6 Tryz.func162 (by kernel_rfl) (by kernel_rfl) (Nat.le_of_ble_eq_true rfl) h.it (by kernel_rfl)
noncomputable def vD : Tb Tryz.prog := B8.add 162 sY R5
def pJ (x1 x3 x4 x7 x8 x10 x21 : Int) (x25 x28 : List Int) (x42 : List aX) (K0 : Int -> Prop) (s : Int × Int) (nx : (Int × Int) -> Prop) : Prop :=
 if (decide (s.2 < x21)) = true then ck ((0 : Int) <= s.2 /\ s.2 < (x42.length : Int)) (ck ((0 : Int) <= (IntKind.i64.wrap ((IntKind.i64.wrap ((IntKind.i64.wrap ((IntKind.i64.wrap (x7 * x1)) + x10)) * x4)) + ((x42.getD ((s.2).toNat) (0, (0, 0))).1))) /\ (IntKind.i64.wrap ((IntKind.i64.wrap ((IntKind.i64.wrap ((IntKind.i64.wrap (x7 * x1)) + x10)) * x4)) + ((x42.getD ((s.2).toNat) (0, (0, 0))).1))) < (x25.length : Int)) (ck ((0 : Int) <= (IntKind.i64.wrap ((IntKind.i64.wrap ((IntKind.i64.wrap ((IntKind.i64.wrap ((IntKind.i64.wrap ((IntKind.i64.wrap (x8 * x1)) + x10)) * x3)) + (((x42.getD ((s.2).toNat) (0, (0, 0))).2).1))) * x3)) + (((x42.getD ((s.2).toNat) (0, (0, 0))).2).2))) /\ (IntKind.i64.wrap ((IntKind.i64.wrap ((IntKind.i64.wrap ((IntKind.i64.wrap ((IntKind.i64.wrap ((IntKind.i64.wrap (x8 * x1)) + x10)) * x3)) + (((x42.getD ((s.2).toNat) (0, (0, 0))).2).1))) * x3)) + (((x42.getD ((s.2).toNat) (0, (0, 0))).2).2))) < (x28.length : Int)) (nx (IntKind.i64.wrap (s.1 + (IntKind.i64.wrap ((IntKind.i64.wrap (x25.getD ((IntKind.i64.wrap ((IntKind.i64.wrap ((IntKind.i64.wrap ((IntKind.i64.wrap (x7 * x1)) + x10)) * x4)) + ((x42.getD ((s.2).toNat) (0, (0, 0))).1))).toNat) 0)) * (IntKind.i64.wrap (x28.getD ((IntKind.i64.wrap ((IntKind.i64.wrap ((IntKind.i64.wrap ((IntKind.i64.wrap ((IntKind.i64.wrap ((IntKind.i64.wrap (x8 * x1)) + x10)) * x3)) + (((x42.getD ((s.2).toNat) (0, (0, 0))).2).1))) * x3)) + (((x42.getD ((s.2).toNat) (0, (0, 0))).2).2))).toNat) 0))))), IntKind.i64.wrap (s.2 + 1))))) else K0 s.1
structure zS (x1 x3 x4 x7 x8 x10 x21 : Int) (x25 x28 : List Int) (x42 : List aX) (K0 : Int -> Prop) (s : Int × Int) : Prop where
 it : Go.Mach.Loop (pJ x1 x3 x4 x7 x8 x10 x21 x25 x28 x42 K0) s
def pG (x1 x3 x4 x7 x8 x18 : Int) (x22 x25 : List Int) (x39 : List aX) (K0 : Int -> Prop) (s : Int × Int) (nx : (Int × Int) -> Prop) : Prop :=
 if (decide (s.2 < x18)) = true then zS x1 x3 x4 x7 x8 s.2 (x39.length : Int) x22 x25 x39 (fun (y13 : Int) => nx (y13, IntKind.i64.wrap (s.2 + 1))) (s.1, 0) else K0 s.1
structure AF (x1 x3 x4 x7 x8 x18 : Int) (x22 x25 : List Int) (x39 : List aX) (K0 : Int -> Prop) (s : Int × Int) : Prop where
 it : Go.Mach.Loop (pG x1 x3 x4 x7 x8 x18 x22 x25 x39 K0) s
def pM (x1 x2 x3 x4 x5 x6 x7 x14 : Int) (x18 x21 : List Int) (x23 : Int) (x24 : List Int) (x31 x32 x34 : Int) (x35 : List aX) (K0 : (List Int) -> Prop) (s : Int × List Int) (nx : (Int × List Int) -> Prop) : Prop :=
 if (decide (s.1 < x14)) = true then ck ((0 : Int) <= s.1 /\ s.1 < (x24.length : Int)) (tJ (IntKind.i64.wrap (x24.getD ((s.1).toNat) 0)) x23 x34 (fun (r12 : Int) => AF x1 x3 x4 x7 s.1 x1 x18 x21 x35 (fun (y13 : Int) => ck ((0 : Int) <= (IntKind.i64.wrap ((IntKind.i64.wrap ((IntKind.i64.wrap ((IntKind.i64.wrap ((IntKind.i64.wrap ((IntKind.i64.wrap (x7 * x2)) + s.1)) * x31)) + x5)) * x32)) + x6)) /\ (IntKind.i64.wrap ((IntKind.i64.wrap ((IntKind.i64.wrap ((IntKind.i64.wrap ((IntKind.i64.wrap ((IntKind.i64.wrap (x7 * x2)) + s.1)) * x31)) + x5)) * x32)) + x6)) < (s.2.length : Int)) (nx (IntKind.i64.wrap (s.1 + 1), s.2.set ((IntKind.i64.wrap ((IntKind.i64.wrap ((IntKind.i64.wrap ((IntKind.i64.wrap ((IntKind.i64.wrap ((IntKind.i64.wrap (x7 * x2)) + s.1)) * x31)) + x5)) * x32)) + x6)).toNat) (IntKind.i32.wrap y13)))) (r12, 0))) else K0 s.2
structure zV (x1 x2 x3 x4 x5 x6 x7 x14 : Int) (x18 x21 : List Int) (x23 : Int) (x24 : List Int) (x31 x32 x34 : Int) (x35 : List aX) (K0 : (List Int) -> Prop) (s : Int × List Int) : Prop where
 it : Go.Mach.Loop (pM x1 x2 x3 x4 x5 x6 x7 x14 x18 x21 x23 x24 x31 x32 x34 x35 K0) s
def o8 (x1 x2 x3 x4 x5 x6 x11 : Int) (x15 x18 : List Int) (x20 : Int) (x21 : List Int) (x28 x29 x31 : Int) (x32 : List aX) (K0 : (List Int) -> Prop) (s : Int × List Int) (nx : (Int × List Int) -> Prop) : Prop :=
 if (decide (s.1 < x11)) = true then zV x1 x2 x3 x4 x5 x6 s.1 x2 x15 x18 x20 x21 x28 x29 x31 x32 (fun (y12 : List Int) => nx (IntKind.i64.wrap (s.1 + 1), y12)) (0, s.2) else K0 s.2
structure AP (x1 x2 x3 x4 x5 x6 x11 : Int) (x15 x18 : List Int) (x20 : Int) (x21 : List Int) (x28 x29 x31 : Int) (x32 : List aX) (K0 : (List Int) -> Prop) (s : Int × List Int) : Prop where
 it : Go.Mach.Loop (o8 x1 x2 x3 x4 x5 x6 x11 x15 x18 x20 x21 x28 x29 x31 x32 K0) s
def o9 (x0 x1 x2 x3 x4 x5 x8 : Int) (x12 x15 : List Int) (x17 : Int) (x18 : List Int) (x20 x21 x22 x23 x24 x25 x26 x28 : Int) (K0 : (List Int) -> Prop) (s : Int × List Int) (nx : (Int × List Int) -> Prop) : Prop :=
 if (decide (s.1 < x8)) = true then N6 (x20, (x21, (x22, (x23, (x24, (x25, x26)))))) x5 s.1 (fun (r11 : List aX) => AP x1 x2 x3 x4 x5 s.1 x0 x12 x15 x17 x18 x25 x26 x28 r11 (fun (y12 : List Int) => nx (IntKind.i64.wrap (s.1 + 1), y12)) (0, s.2)) else K0 s.2
structure z9 (x0 x1 x2 x3 x4 x5 x8 : Int) (x12 x15 : List Int) (x17 : Int) (x18 : List Int) (x20 x21 x22 x23 x24 x25 x26 x28 : Int) (K0 : (List Int) -> Prop) (s : Int × List Int) : Prop where
 it : Go.Mach.Loop (o9 x0 x1 x2 x3 x4 x5 x8 x12 x15 x17 x18 x20 x21 x22 x23 x24 x25 x26 x28 K0) s
def pE (x0 x1 x2 x3 x4 x5 : Int) (x9 x12 : List Int) (x14 : Int) (x15 : List Int) (x17 x18 x19 x20 x21 x22 x23 x25 : Int) (K0 : (List Int) -> Prop) (s : Int × List Int) (nx : (Int × List Int) -> Prop) : Prop :=
 if (decide (s.1 < x5)) = true then z9 x0 x1 x2 x3 x4 s.1 x23 x9 x12 x14 x15 x17 x18 x19 x20 x21 x22 x23 x25 (fun (y11 : List Int) => nx (IntKind.i64.wrap (s.1 + 1), y11)) (0, s.2) else K0 s.2
structure AJ (x0 x1 x2 x3 x4 x5 : Int) (x9 x12 : List Int) (x14 : Int) (x15 : List Int) (x17 x18 x19 x20 x21 x22 x23 x25 : Int) (K0 : (List Int) -> Prop) (s : Int × List Int) : Prop where
 it : Go.Mach.Loop (pE x0 x1 x2 x3 x4 x5 x9 x12 x14 x15 x17 x18 x19 x20 x21 x22 x23 x25 K0) s
structure NL (x0 x1 x2 x3 x5 : Int) (x6 : List Int) (x8 : Int) (x9 : List Int) (x11 : Int) (x12 : List Int) (x14 x15 x16 x17 x18 x19 x20 : Int) (K0 : (Int × (List Int) × Int × List Int) -> Prop) : Prop where
 it : TF (IntKind.i64.wrap ((IntKind.i64.wrap (x1 * x3)) * x3)) (IntKind.i64.wrap (x5 + x8)) [x0, x2, x19, x20] (fun (r10 : iE × Int) => if (r10.2 != 0) = true then K0 (r10.2, r10.1.1, r10.1.2.1, r10.1.2.2) else AJ x0 x1 x2 x3 (IntKind.i64.wrap (x14 * x15)) x19 x6 x9 x11 x12 x14 x15 x16 x17 x18 x19 x20 r10.1.2.1 (fun (y11 : List Int) => K0 (0, r10.1.1, r10.1.2.1, y11)) (0, r10.1.2.2))
structure MD (a0 a1 a2 : aR) (a3 a4 : Int) (Q : (iE × Int) -> Prop) : Prop where
 it : cF a2 (fun (r1 : Bool) => if (!r1) = true then Q ((([] : List Int), (0, ([] : List Int))), 1) else aBS [a0, a1] (fun (r2 : Int) => if (r2 != 0) = true then Q ((([] : List Int), (0, ([] : List Int))), r2) else ck ((0 : Int) <= 0 /\ 0 < (a0.1.length : Int)) (ck ((0 : Int) <= 1 /\ 1 < (a0.1.length : Int)) (ck ((0 : Int) <= 0 /\ 0 < (a1.1.length : Int)) (ck ((0 : Int) <= 2 /\ 2 < (a1.1.length : Int)) (ck ((0 : Int) <= 2 /\ 2 < (a0.1.length : Int)) (ck ((0 : Int) <= 3 /\ 3 < (a0.1.length : Int)) (W3 (a0.1.getD 2 0) (a0.1.getD 3 0) (a1.1.getD 2 0) a3 a4 (fun (r3 : aJh × Bool) => jn (fun (v4 : Bool) => jn (fun (v6 : Bool) => jn (fun (v8 : Bool) => if v8 = true then Q ((([] : List Int), (0, ([] : List Int))), 2) else NL (a0.1.getD 0 0) (a0.1.getD 1 0) (a1.1.getD 0 0) (a1.1.getD 2 0) a0.2.1 a0.2.2 a1.2.1 a1.2.2 a2.2.1 a2.2.2 r3.1.1 r3.1.2.1 r3.1.2.2.1 r3.1.2.2.2.1 r3.1.2.2.2.2.1 r3.1.2.2.2.2.2.1 r3.1.2.2.2.2.2.2 (fun (y12 : Int × (List Int) × Int × List Int) => Q (y12.2, y12.1))) (fun J9 => if (v6 || ((a2.1.length : Int) != 1)) = true then J9 true else ck ((0 : Int) <= 0 /\ 0 < (a2.1.length : Int)) (J9 ((a2.1.getD 0 0) != (a1.1.getD 0 0))))) (fun J7 => if v4 = true then J7 true else ck ((0 : Int) <= 3 /\ 3 < (a1.1.length : Int)) (J7 ((a1.1.getD 3 0) != (a1.1.getD 2 0))))) (fun J5 => if (!r3.2) = true then J5 true else ck ((0 : Int) <= 1 /\ 1 < (a1.1.length : Int)) (J5 ((a1.1.getD 1 0) != (a0.1.getD 1 0)))))))))))))
noncomputable def aAL : Ent := ⟨[5, 6, 7, 10, 13, 14, 15, 16, 17], [sC (.ptr 0 0), sC (.ptr 1 0), sC (.ptr 2 0), sC (.ptr 3 0), sI, sI, sI, sI, sC (.ptr 4 0)], [.box [lZ (.int .i64), lI, lZ (.int .i8)] false, .box [lZ (.int .i64), lI, lZ (.int .i8)] false, .box [lZ (.int .i64), lI, lZ (.int .i8)] false, .box [.cst (.pl (.slice none 0 0)), lI, .cst (.pl (.slice none 0 0))] false, .box [lI, lI, lI, lI, lI, lI, lI] false], fun x k => NL x.1.2.2.2.2.1 x.1.2.2.2.2.2.1 x.1.2.2.2.2.2.2.1 x.1.2.2.2.2.2.2.2.1 x.2.1.2.1 x.2.1.2.2.1 x.2.2.1.2.1 x.2.2.1.2.2.1 x.2.2.2.1.2.1 x.2.2.2.1.2.2.1 x.2.2.2.2.2.1.1 x.2.2.2.2.2.1.2.1 x.2.2.2.2.2.1.2.2.1 x.2.2.2.2.2.1.2.2.2.1 x.2.2.2.2.2.1.2.2.2.2.1 x.2.2.2.2.2.1.2.2.2.2.2.1 x.2.2.2.2.2.1.2.2.2.2.2.2.1 (fun (y13 : Int × (List Int) × Int × List Int) => k .ret ⟨[(10, .ptr 0 0), (11, vI y13.1)], [.box [vZ (.int .i64) y13.2.1, vI y13.2.2.1, .own 1] false, .lst true (.int .i32) y13.2.2.2 false]⟩)⟩
noncomputable def aAA : Ent := ⟨[5, 6, 7, 10, 13, 14, 15, 16, 17, 19, 21, 138, 139], [sC (.ptr 0 0), sC (.ptr 1 0), sC (.ptr 2 0), sC (.ptr 3 0), sI, sI, sI, sI, sC (.ptr 4 0), sC (.ptr 5 0), sI, sI, sI], [.box [lZ (.int .i64), lI, lZ (.int .i8)] false, .box [lZ (.int .i64), lI, lZ (.int .i8)] false, .box [lZ (.int .i64), lI, lZ (.int .i8)] false, .box [.cst (.pl (.slice none 0 0)), lI, .cst (.pl (.slice none 0 0))] false, .box [lI, lI, lI, lI, lI, lI, lI] false, .box [lZ (.int .i64), lI, .cst (.own 6)] false, .lst true (.int .i32) false], fun x k => AJ x.1.2.2.2.2.1 x.1.2.2.2.2.2.1 x.1.2.2.2.2.2.2.1 x.1.2.2.2.2.2.2.2.1 x.1.2.2.2.2.2.2.2.2.2.2.1 x.1.2.2.2.2.2.2.2.2.2.2.2.1 x.2.1.2.2.1 x.2.2.1.2.2.1 x.2.2.2.1.2.1 x.2.2.2.1.2.2.1 x.2.2.2.2.2.1.1 x.2.2.2.2.2.1.2.1 x.2.2.2.2.2.1.2.2.1 x.2.2.2.2.2.1.2.2.2.1 x.2.2.2.2.2.1.2.2.2.2.1 x.2.2.2.2.2.1.2.2.2.2.2.1 x.2.2.2.2.2.1.2.2.2.2.2.2.1 x.2.2.2.2.2.2.1.2.1 (fun (y14 : List Int) => k (.exit 0) ⟨[(10, .ptr 0 0), (19, .ptr 1 0)], [.box [.pl (.slice none 0 0), vI x.2.2.2.2.1.2.1, .pl (.slice none 0 0)] false, .box [vZ (.int .i64) x.2.2.2.2.2.2.1.1, vI x.2.2.2.2.2.2.1.2.1, .own 2] false, .lst true (.int .i32) y14 false]⟩) (x.1.2.2.2.2.2.2.2.2.2.2.2.2.1, x.2.2.2.2.2.2.2.1)⟩
noncomputable def aAV : Ent := ⟨[5, 6, 7, 10, 13, 14, 15, 16, 17, 19, 21, 22, 138, 139, 143, 144], [sC (.ptr 0 0), sC (.ptr 1 0), sC (.ptr 2 0), sC (.ptr 3 0), sI, sI, sI, sI, sC (.ptr 4 0), sC (.ptr 5 0), sI, sI, sI, sI, sI, sI], [.box [lZ (.int .i64), lI, lZ (.int .i8)] false, .box [lZ (.int .i64), lI, lZ (.int .i8)] false, .box [lZ (.int .i64), lI, lZ (.int .i8)] false, .box [.cst (.pl (.slice none 0 0)), lI, .cst (.pl (.slice none 0 0))] false, .box [lI, lI, lI, lI, lI, lI, lI] false, .box [lZ (.int .i64), lI, .cst (.own 6)] false, .lst true (.int .i32) false], fun x k => z9 x.1.2.2.2.2.1 x.1.2.2.2.2.2.1 x.1.2.2.2.2.2.2.1 x.1.2.2.2.2.2.2.2.1 x.1.2.2.2.2.2.2.2.2.2.2.1 x.1.2.2.2.2.2.2.2.2.2.2.2.1 x.1.2.2.2.2.2.2.2.2.2.2.2.2.2.2.1 x.2.1.2.2.1 x.2.2.1.2.2.1 x.2.2.2.1.2.1 x.2.2.2.1.2.2.1 x.2.2.2.2.2.1.1 x.2.2.2.2.2.1.2.1 x.2.2.2.2.2.1.2.2.1 x.2.2.2.2.2.1.2.2.2.1 x.2.2.2.2.2.1.2.2.2.2.1 x.2.2.2.2.2.1.2.2.2.2.2.1 x.2.2.2.2.2.1.2.2.2.2.2.2.1 x.2.2.2.2.2.2.1.2.1 (fun (y15 : List Int) => k (.exit 2) ⟨[(5, .ptr 0 0), (6, .ptr 1 0), (7, .ptr 2 0), (10, .ptr 3 0), (13, vI x.1.2.2.2.2.1), (14, vI x.1.2.2.2.2.2.1), (15, vI x.1.2.2.2.2.2.2.1), (16, vI x.1.2.2.2.2.2.2.2.1), (17, .ptr 4 0), (19, .ptr 5 0), (21, vI x.1.2.2.2.2.2.2.2.2.2.2.1), (138, vI x.1.2.2.2.2.2.2.2.2.2.2.2.2.1), (139, vI x.1.2.2.2.2.2.2.2.2.2.2.2.2.2.1)], [.box [vZ (.int .i64) x.2.1.1, vI x.2.1.2.1, vZ (.int .i8) x.2.1.2.2.1] false, .box [vZ (.int .i64) x.2.2.1.1, vI x.2.2.1.2.1, vZ (.int .i8) x.2.2.1.2.2.1] false, .box [vZ (.int .i64) x.2.2.2.1.1, vI x.2.2.2.1.2.1, vZ (.int .i8) x.2.2.2.1.2.2.1] false, .box [.pl (.slice none 0 0), vI x.2.2.2.2.1.2.1, .pl (.slice none 0 0)] false, .box [vI x.2.2.2.2.2.1.1, vI x.2.2.2.2.2.1.2.1, vI x.2.2.2.2.2.1.2.2.1, vI x.2.2.2.2.2.1.2.2.2.1, vI x.2.2.2.2.2.1.2.2.2.2.1, vI x.2.2.2.2.2.1.2.2.2.2.2.1, vI x.2.2.2.2.2.1.2.2.2.2.2.2.1] false, .box [vZ (.int .i64) x.2.2.2.2.2.2.1.1, vI x.2.2.2.2.2.2.1.2.1, .own 6] false, .lst true (.int .i32) y15 false]⟩) (x.1.2.2.2.2.2.2.2.2.2.2.2.2.2.2.2.1, x.2.2.2.2.2.2.2.1)⟩
noncomputable def aAQ : Ent := ⟨[5, 6, 7, 10, 13, 14, 15, 16, 17, 19, 21, 22, 23, 24, 138, 139, 143, 144, 151, 152], [sC (.ptr 0 0), sC (.ptr 1 0), sC (.ptr 2 0), sC (.ptr 3 0), sI, sI, sI, sI, sC (.ptr 4 0), sC (.ptr 5 0), sI, sI, sI, sC (.own 6), sI, sI, sI, sI, sI, sI], [.box [lZ (.int .i64), lI, lZ (.int .i8)] false, .box [lZ (.int .i64), lI, lZ (.int .i8)] false, .box [lZ (.int .i64), lI, lZ (.int .i8)] false, .box [.cst (.pl (.slice none 0 0)), lI, .cst (.pl (.slice none 0 0))] false, .box [lI, lI, lI, lI, lI, lI, lI] false, .box [lZ (.int .i64), lI, .cst (.own 7)] false, .lst true bZ false, .lst true (.int .i32) false], fun x k => AP x.1.2.2.2.2.2.1 x.1.2.2.2.2.2.2.1 x.1.2.2.2.2.2.2.2.1 x.1.2.2.2.2.2.2.2.2.2.2.1 x.1.2.2.2.2.2.2.2.2.2.2.2.1 x.1.2.2.2.2.2.2.2.2.2.2.2.2.1 x.1.2.2.2.2.2.2.2.2.2.2.2.2.2.2.2.2.2.2.1 x.2.1.2.2.1 x.2.2.1.2.2.1 x.2.2.2.1.2.1 x.2.2.2.1.2.2.1 x.2.2.2.2.2.1.2.2.2.2.2.1 x.2.2.2.2.2.1.2.2.2.2.2.2.1 x.2.2.2.2.2.2.1.2.1 x.2.2.2.2.2.2.2.1 (fun (y16 : List Int) => k (.exit 4) ⟨[(5, .ptr 0 0), (6, .ptr 1 0), (7, .ptr 2 0), (10, .ptr 3 0), (13, vI x.1.2.2.2.2.1), (14, vI x.1.2.2.2.2.2.1), (15, vI x.1.2.2.2.2.2.2.1), (16, vI x.1.2.2.2.2.2.2.2.1), (17, .ptr 4 0), (19, .ptr 5 0), (21, vI x.1.2.2.2.2.2.2.2.2.2.2.1), (22, vI x.1.2.2.2.2.2.2.2.2.2.2.2.1), (138, vI x.1.2.2.2.2.2.2.2.2.2.2.2.2.2.2.1), (139, vI x.1.2.2.2.2.2.2.2.2.2.2.2.2.2.2.2.1), (143, vI x.1.2.2.2.2.2.2.2.2.2.2.2.2.2.2.2.2.1), (144, vI x.1.2.2.2.2.2.2.2.2.2.2.2.2.2.2.2.2.2.1)], [.box [vZ (.int .i64) x.2.1.1, vI x.2.1.2.1, vZ (.int .i8) x.2.1.2.2.1] false, .box [vZ (.int .i64) x.2.2.1.1, vI x.2.2.1.2.1, vZ (.int .i8) x.2.2.1.2.2.1] false, .box [vZ (.int .i64) x.2.2.2.1.1, vI x.2.2.2.1.2.1, vZ (.int .i8) x.2.2.2.1.2.2.1] false, .box [.pl (.slice none 0 0), vI x.2.2.2.2.1.2.1, .pl (.slice none 0 0)] false, .box [vI x.2.2.2.2.2.1.1, vI x.2.2.2.2.2.1.2.1, vI x.2.2.2.2.2.1.2.2.1, vI x.2.2.2.2.2.1.2.2.2.1, vI x.2.2.2.2.2.1.2.2.2.2.1, vI x.2.2.2.2.2.1.2.2.2.2.2.1, vI x.2.2.2.2.2.1.2.2.2.2.2.2.1] false, .box [vZ (.int .i64) x.2.2.2.2.2.2.1.1, vI x.2.2.2.2.2.2.1.2.1, .own 6] false, .lst true (.int .i32) y16 false]⟩) (x.1.2.2.2.2.2.2.2.2.2.2.2.2.2.2.2.2.2.2.2.1, x.2.2.2.2.2.2.2.2.1)⟩
noncomputable def aAh : Ent := ⟨[5, 6, 7, 10, 13, 14, 15, 16, 17, 19, 21, 22, 23, 24, 25, 138, 139, 143, 144, 151, 152, 155, 156], [sC (.ptr 0 0), sC (.ptr 1 0), sC (.ptr 2 0), sC (.ptr 3 0), sI, sI, sI, sI, sC (.ptr 4 0), sC (.ptr 5 0), sI, sI, sI, sC (.own 6), sI, sI, sI, sI, sI, sI, sI, sI, sI], [.box [lZ (.int .i64), lI, lZ (.int .i8)] false, .box [lZ (.int .i64), lI, lZ (.int .i8)] false, .box [lZ (.int .i64), lI, lZ (.int .i8)] false, .box [.cst (.pl (.slice none 0 0)), lI, .cst (.pl (.slice none 0 0))] false, .box [lI, lI, lI, lI, lI, lI, lI] false, .box [lZ (.int .i64), lI, .cst (.own 7)] false, .lst true bZ false, .lst true (.int .i32) false], fun x k => zV x.1.2.2.2.2.2.1 x.1.2.2.2.2.2.2.1 x.1.2.2.2.2.2.2.2.1 x.1.2.2.2.2.2.2.2.2.2.2.1 x.1.2.2.2.2.2.2.2.2.2.2.2.1 x.1.2.2.2.2.2.2.2.2.2.2.2.2.1 x.1.2.2.2.2.2.2.2.2.2.2.2.2.2.2.1 x.1.2.2.2.2.2.2.2.2.2.2.2.2.2.2.2.2.2.2.2.2.2.1 x.2.1.2.2.1 x.2.2.1.2.2.1 x.2.2.2.1.2.1 x.2.2.2.1.2.2.1 x.2.2.2.2.2.1.2.2.2.2.2.1 x.2.2.2.2.2.1.2.2.2.2.2.2.1 x.2.2.2.2.2.2.1.2.1 x.2.2.2.2.2.2.2.1 (fun (y17 : List Int) => k (.exit 6) ⟨[(5, .ptr 0 0), (6, .ptr 1 0), (7, .ptr 2 0), (10, .ptr 3 0), (13, vI x.1.2.2.2.2.1), (14, vI x.1.2.2.2.2.2.1), (15, vI x.1.2.2.2.2.2.2.1), (16, vI x.1.2.2.2.2.2.2.2.1), (17, .ptr 4 0), (19, .ptr 5 0), (21, vI x.1.2.2.2.2.2.2.2.2.2.2.1), (22, vI x.1.2.2.2.2.2.2.2.2.2.2.2.1), (23, vI x.1.2.2.2.2.2.2.2.2.2.2.2.2.1), (24, .own 6), (138, vI x.1.2.2.2.2.2.2.2.2.2.2.2.2.2.2.2.1), (139, vI x.1.2.2.2.2.2.2.2.2.2.2.2.2.2.2.2.2.1), (143, vI x.1.2.2.2.2.2.2.2.2.2.2.2.2.2.2.2.2.2.1), (144, vI x.1.2.2.2.2.2.2.2.2.2.2.2.2.2.2.2.2.2.2.1), (151, vI x.1.2.2.2.2.2.2.2.2.2.2.2.2.2.2.2.2.2.2.2.1), (152, vI x.1.2.2.2.2.2.2.2.2.2.2.2.2.2.2.2.2.2.2.2.2.1)], [.box [vZ (.int .i64) x.2.1.1, vI x.2.1.2.1, vZ (.int .i8) x.2.1.2.2.1] false, .box [vZ (.int .i64) x.2.2.1.1, vI x.2.2.1.2.1, vZ (.int .i8) x.2.2.1.2.2.1] false, .box [vZ (.int .i64) x.2.2.2.1.1, vI x.2.2.2.1.2.1, vZ (.int .i8) x.2.2.2.1.2.2.1] false, .box [.pl (.slice none 0 0), vI x.2.2.2.2.1.2.1, .pl (.slice none 0 0)] false, .box [vI x.2.2.2.2.2.1.1, vI x.2.2.2.2.2.1.2.1, vI x.2.2.2.2.2.1.2.2.1, vI x.2.2.2.2.2.1.2.2.2.1, vI x.2.2.2.2.2.1.2.2.2.2.1, vI x.2.2.2.2.2.1.2.2.2.2.2.1, vI x.2.2.2.2.2.1.2.2.2.2.2.2.1] false, .box [vZ (.int .i64) x.2.2.2.2.2.2.1.1, vI x.2.2.2.2.2.2.1.2.1, .own 7] false, .lst true bZ x.2.2.2.2.2.2.2.1 false, .lst true (.int .i32) y17 false]⟩) (x.1.2.2.2.2.2.2.2.2.2.2.2.2.2.2.2.2.2.2.2.2.2.2.1, x.2.2.2.2.2.2.2.2.1)⟩
noncomputable def aAc : Ent := ⟨[5, 6, 7, 10, 13, 14, 15, 16, 17, 19, 21, 22, 23, 24, 25, 26, 27, 138, 139, 143, 144, 151, 152, 155, 156, 170, 171], [sC (.ptr 0 0), sC (.ptr 1 0), sC (.ptr 2 0), sC (.ptr 3 0), sI, sI, sI, sI, sC (.ptr 4 0), sC (.ptr 5 0), sI, sI, sI, sC (.own 6), sI, sI, sI, sI, sI, sI, sI, sI, sI, sI, sI, sI, sI], [.box [lZ (.int .i64), lI, lZ (.int .i8)] false, .box [lZ (.int .i64), lI, lZ (.int .i8)] false, .box [lZ (.int .i64), lI, lZ (.int .i8)] false, .box [.cst (.pl (.slice none 0 0)), lI, .cst (.pl (.slice none 0 0))] false, .box [lI, lI, lI, lI, lI, lI, lI] false, .box [lZ (.int .i64), lI, .cst (.own 7)] false, .lst true bZ false, .lst true (.int .i32) false], fun x k => AF x.1.2.2.2.2.2.1 x.1.2.2.2.2.2.2.2.1 x.1.2.2.2.2.2.2.2.2.2.2.1 x.1.2.2.2.2.2.2.2.2.2.2.2.2.2.2.1 x.1.2.2.2.2.2.2.2.2.2.2.2.2.2.2.2.1 x.1.2.2.2.2.2.2.2.2.2.2.2.2.2.2.2.2.2.2.2.2.2.2.2.2.2.1 x.2.1.2.2.1 x.2.2.1.2.2.1 x.2.2.2.2.2.2.2.1 (fun (y18 : Int) => k (.exit 8) ⟨[(5, .ptr 0 0), (6, .ptr 1 0), (7, .ptr 2 0), (10, .ptr 3 0), (13, vI x.1.2.2.2.2.1), (14, vI x.1.2.2.2.2.2.1), (15, vI x.1.2.2.2.2.2.2.1), (16, vI x.1.2.2.2.2.2.2.2.1), (17, .ptr 4 0), (19, .ptr 5 0), (21, vI x.1.2.2.2.2.2.2.2.2.2.2.1), (22, vI x.1.2.2.2.2.2.2.2.2.2.2.2.1), (23, vI x.1.2.2.2.2.2.2.2.2.2.2.2.2.1), (24, .own 6), (25, vI x.1.2.2.2.2.2.2.2.2.2.2.2.2.2.2.1), (26, vI x.1.2.2.2.2.2.2.2.2.2.2.2.2.2.2.2.1), (27, vI y18), (138, vI x.1.2.2.2.2.2.2.2.2.2.2.2.2.2.2.2.2.2.1), (139, vI x.1.2.2.2.2.2.2.2.2.2.2.2.2.2.2.2.2.2.2.1), (143, vI x.1.2.2.2.2.2.2.2.2.2.2.2.2.2.2.2.2.2.2.2.1), (144, vI x.1.2.2.2.2.2.2.2.2.2.2.2.2.2.2.2.2.2.2.2.2.1), (151, vI x.1.2.2.2.2.2.2.2.2.2.2.2.2.2.2.2.2.2.2.2.2.2.1), (152, vI x.1.2.2.2.2.2.2.2.2.2.2.2.2.2.2.2.2.2.2.2.2.2.2.1), (155, vI x.1.2.2.2.2.2.2.2.2.2.2.2.2.2.2.2.2.2.2.2.2.2.2.2.1), (156, vI x.1.2.2.2.2.2.2.2.2.2.2.2.2.2.2.2.2.2.2.2.2.2.2.2.2.1)], [.box [vZ (.int .i64) x.2.1.1, vI x.2.1.2.1, vZ (.int .i8) x.2.1.2.2.1] false, .box [vZ (.int .i64) x.2.2.1.1, vI x.2.2.1.2.1, vZ (.int .i8) x.2.2.1.2.2.1] false, .box [vZ (.int .i64) x.2.2.2.1.1, vI x.2.2.2.1.2.1, vZ (.int .i8) x.2.2.2.1.2.2.1] false, .box [.pl (.slice none 0 0), vI x.2.2.2.2.1.2.1, .pl (.slice none 0 0)] false, .box [vI x.2.2.2.2.2.1.1, vI x.2.2.2.2.2.1.2.1, vI x.2.2.2.2.2.1.2.2.1, vI x.2.2.2.2.2.1.2.2.2.1, vI x.2.2.2.2.2.1.2.2.2.2.1, vI x.2.2.2.2.2.1.2.2.2.2.2.1, vI x.2.2.2.2.2.1.2.2.2.2.2.2.1] false, .box [vZ (.int .i64) x.2.2.2.2.2.2.1.1, vI x.2.2.2.2.2.2.1.2.1, .own 7] false, .lst true bZ x.2.2.2.2.2.2.2.1 false, .lst true (.int .i32) x.2.2.2.2.2.2.2.2.1 false]⟩) (x.1.2.2.2.2.2.2.2.2.2.2.2.2.2.2.2.2.1, x.1.2.2.2.2.2.2.2.2.2.2.2.2.2.2.2.2.2.2.2.2.2.2.2.2.2.2.1)⟩
noncomputable def aAT : Ent := ⟨[5, 6, 7, 10, 13, 14, 15, 16, 17, 19, 21, 22, 23, 24, 25, 26, 27, 28, 138, 139, 143, 144, 151, 152, 155, 156, 170, 171, 174, 175, 176], [sC (.ptr 0 0), sC (.ptr 1 0), sC (.ptr 2 0), sC (.ptr 3 0), sI, sI, sI, sI, sC (.ptr 4 0), sC (.ptr 5 0), sI, sI, sI, sC (.own 6), sI, sI, sI, sI, sI, sI, sI, sI, sI, sI, sI, sI, sI, sI, sC (.own 6), sI, sI], [.box [lZ (.int .i64), lI, lZ (.int .i8)] false, .box [lZ (.int .i64), lI, lZ (.int .i8)] false, .box [lZ (.int .i64), lI, lZ (.int .i8)] false, .box [.cst (.pl (.slice none 0 0)), lI, .cst (.pl (.slice none 0 0))] false, .box [lI, lI, lI, lI, lI, lI, lI] false, .box [lZ (.int .i64), lI, .cst (.own 7)] false, .lst true bZ false, .lst true (.int .i32) false], fun x k => zS x.1.2.2.2.2.2.1 x.1.2.2.2.2.2.2.2.1 x.1.2.2.2.2.2.2.2.2.2.2.1 x.1.2.2.2.2.2.2.2.2.2.2.2.2.2.2.1 x.1.2.2.2.2.2.2.2.2.2.2.2.2.2.2.2.1 x.1.2.2.2.2.2.2.2.2.2.2.2.2.2.2.2.2.2.1 x.1.2.2.2.2.2.2.2.2.2.2.2.2.2.2.2.2.2.2.2.2.2.2.2.2.2.2.2.2.2.1 x.2.1.2.2.1 x.2.2.1.2.2.1 x.2.2.2.2.2.2.2.1 (fun (y19 : Int) => k (.exit 10) ⟨[(5, .ptr 0 0), (6, .ptr 1 0), (7, .ptr 2 0), (10, .ptr 3 0), (13, vI x.1.2.2.2.2.1), (14, vI x.1.2.2.2.2.2.1), (15, vI x.1.2.2.2.2.2.2.1), (16, vI x.1.2.2.2.2.2.2.2.1), (17, .ptr 4 0), (19, .ptr 5 0), (21, vI x.1.2.2.2.2.2.2.2.2.2.2.1), (22, vI x.1.2.2.2.2.2.2.2.2.2.2.2.1), (23, vI x.1.2.2.2.2.2.2.2.2.2.2.2.2.1), (24, .own 6), (25, vI x.1.2.2.2.2.2.2.2.2.2.2.2.2.2.2.1), (26, vI x.1.2.2.2.2.2.2.2.2.2.2.2.2.2.2.2.1), (27, vI y19), (138, vI x.1.2.2.2.2.2.2.2.2.2.2.2.2.2.2.2.2.2.2.1), (139, vI x.1.2.2.2.2.2.2.2.2.2.2.2.2.2.2.2.2.2.2.2.1), (143, vI x.1.2.2.2.2.2.2.2.2.2.2.2.2.2.2.2.2.2.2.2.2.1), (144, vI x.1.2.2.2.2.2.2.2.2.2.2.2.2.2.2.2.2.2.2.2.2.2.1), (151, vI x.1.2.2.2.2.2.2.2.2.2.2.2.2.2.2.2.2.2.2.2.2.2.2.1), (152, vI x.1.2.2.2.2.2.2.2.2.2.2.2.2.2.2.2.2.2.2.2.2.2.2.2.1), (155, vI x.1.2.2.2.2.2.2.2.2.2.2.2.2.2.2.2.2.2.2.2.2.2.2.2.2.1), (156, vI x.1.2.2.2.2.2.2.2.2.2.2.2.2.2.2.2.2.2.2.2.2.2.2.2.2.2.1), (170, vI x.1.2.2.2.2.2.2.2.2.2.2.2.2.2.2.2.2.2.2.2.2.2.2.2.2.2.2.1), (171, vI x.1.2.2.2.2.2.2.2.2.2.2.2.2.2.2.2.2.2.2.2.2.2.2.2.2.2.2.2.1)], [.box [vZ (.int .i64) x.2.1.1, vI x.2.1.2.1, vZ (.int .i8) x.2.1.2.2.1] false, .box [vZ (.int .i64) x.2.2.1.1, vI x.2.2.1.2.1, vZ (.int .i8) x.2.2.1.2.2.1] false, .box [vZ (.int .i64) x.2.2.2.1.1, vI x.2.2.2.1.2.1, vZ (.int .i8) x.2.2.2.1.2.2.1] false, .box [.pl (.slice none 0 0), vI x.2.2.2.2.1.2.1, .pl (.slice none 0 0)] false, .box [vI x.2.2.2.2.2.1.1, vI x.2.2.2.2.2.1.2.1, vI x.2.2.2.2.2.1.2.2.1, vI x.2.2.2.2.2.1.2.2.2.1, vI x.2.2.2.2.2.1.2.2.2.2.1, vI x.2.2.2.2.2.1.2.2.2.2.2.1, vI x.2.2.2.2.2.1.2.2.2.2.2.2.1] false, .box [vZ (.int .i64) x.2.2.2.2.2.2.1.1, vI x.2.2.2.2.2.2.1.2.1, .own 7] false, .lst true bZ x.2.2.2.2.2.2.2.1 false, .lst true (.int .i32) x.2.2.2.2.2.2.2.2.1 false]⟩) (x.1.2.2.2.2.2.2.2.2.2.2.2.2.2.2.2.2.1, x.1.2.2.2.2.2.2.2.2.2.2.2.2.2.2.2.2.2.2.2.2.2.2.2.2.2.2.2.2.2.2.1)⟩
noncomputable def NQ : Tab := fun n => match n with | 127 => some aAL | 8186 => some aAA | 2095718 => some aAV | 1073007822 => some aAQ | 274690002534 => some aAh | 281282562595226 => some aAc | 72008336024377958 => some aAT | _ => none
noncomputable def QB : Code := (bod Tryz.f98).getD .skip
noncomputable def aAs : Go.Mach.Ends := aN QB [10, 11] []
theorem W2 : aI (vD.cfg tt none false 0) NQ aAs QB := by
 intro n E hn f c hs x k h
 unfold NQ at hn
 split at hn
 ·cases hn; exact bU hs (by kernel_rfl) (by kernel_rfl) h.it
 ·cases hn; exact aG rfl hs (by kernel_rfl) (fun y : Int × List Int => ⟨[(5, .ptr 0 0), (6, .ptr 1 0), (7, .ptr 2 0), (10, .ptr 3 0), (13, vI x.1.2.2.2.2.1), (14, vI x.1.2.2.2.2.2.1), (15, vI x.1.2.2.2.2.2.2.1), (16, vI x.1.2.2.2.2.2.2.2.1), (17, .ptr 4 0), (19, .ptr 5 0), (21, vI x.1.2.2.2.2.2.2.2.2.2.2.1), (138, vI x.1.2.2.2.2.2.2.2.2.2.2.2.1), (139, vI y.1)], [.box [vZ (.int .i64) x.2.1.1, vI x.2.1.2.1, vZ (.int .i8) x.2.1.2.2.1] false, .box [vZ (.int .i64) x.2.2.1.1, vI x.2.2.1.2.1, vZ (.int .i8) x.2.2.1.2.2.1] false, .box [vZ (.int .i64) x.2.2.2.1.1, vI x.2.2.2.1.2.1, vZ (.int .i8) x.2.2.2.1.2.2.1] false, .box [.pl (.slice none 0 0), vI x.2.2.2.2.1.2.1, .pl (.slice none 0 0)] false, .box [vI x.2.2.2.2.2.1.1, vI x.2.2.2.2.2.1.2.1, vI x.2.2.2.2.2.1.2.2.1, vI x.2.2.2.2.2.1.2.2.2.1, vI x.2.2.2.2.2.1.2.2.2.2.1, vI x.2.2.2.2.2.1.2.2.2.2.2.1, vI x.2.2.2.2.2.1.2.2.2.2.2.2.1] false, .box [vZ (.int .i64) x.2.2.2.2.2.2.1.1, vI x.2.2.2.2.2.2.1.2.1, .own 6] false, .lst true (.int .i32) y.2 false]⟩) (x.1.2.2.2.2.2.2.2.2.2.2.2.2.1, x.2.2.2.2.2.2.2.1) (by kernel_rfl) (fun y X => by kernel_rfl) h.it
 ·cases hn; exact aG rfl hs (by kernel_rfl) (fun y : Int × List Int => ⟨[(5, .ptr 0 0), (6, .ptr 1 0), (7, .ptr 2 0), (10, .ptr 3 0), (13, vI x.1.2.2.2.2.1), (14, vI x.1.2.2.2.2.2.1), (15, vI x.1.2.2.2.2.2.2.1), (16, vI x.1.2.2.2.2.2.2.2.1), (17, .ptr 4 0), (19, .ptr 5 0), (21, vI x.1.2.2.2.2.2.2.2.2.2.2.1), (22, vI x.1.2.2.2.2.2.2.2.2.2.2.2.1), (138, vI x.1.2.2.2.2.2.2.2.2.2.2.2.2.1), (139, vI x.1.2.2.2.2.2.2.2.2.2.2.2.2.2.1), (143, vI x.1.2.2.2.2.2.2.2.2.2.2.2.2.2.2.1), (144, vI y.1)], [.box [vZ (.int .i64) x.2.1.1, vI x.2.1.2.1, vZ (.int .i8) x.2.1.2.2.1] false, .box [vZ (.int .i64) x.2.2.1.1, vI x.2.2.1.2.1, vZ (.int .i8) x.2.2.1.2.2.1] false, .box [vZ (.int .i64) x.2.2.2.1.1, vI x.2.2.2.1.2.1, vZ (.int .i8) x.2.2.2.1.2.2.1] false, .box [.pl (.slice none 0 0), vI x.2.2.2.2.1.2.1, .pl (.slice none 0 0)] false, .box [vI x.2.2.2.2.2.1.1, vI x.2.2.2.2.2.1.2.1, vI x.2.2.2.2.2.1.2.2.1, vI x.2.2.2.2.2.1.2.2.2.1, vI x.2.2.2.2.2.1.2.2.2.2.1, vI x.2.2.2.2.2.1.2.2.2.2.2.1, vI x.2.2.2.2.2.1.2.2.2.2.2.2.1] false, .box [vZ (.int .i64) x.2.2.2.2.2.2.1.1, vI x.2.2.2.2.2.2.1.2.1, .own 6] false, .lst true (.int .i32) y.2 false]⟩) (x.1.2.2.2.2.2.2.2.2.2.2.2.2.2.2.2.1, x.2.2.2.2.2.2.2.1) (by kernel_rfl) (fun y X => by kernel_rfl) h.it
 ·cases hn; exact aG rfl hs (by kernel_rfl) (fun y : Int × List Int => ⟨[(5, .ptr 0 0), (6, .ptr 1 0), (7, .ptr 2 0), (10, .ptr 3 0), (13, vI x.1.2.2.2.2.1), (14, vI x.1.2.2.2.2.2.1), (15, vI x.1.2.2.2.2.2.2.1), (16, vI x.1.2.2.2.2.2.2.2.1), (17, .ptr 4 0), (19, .ptr 5 0), (21, vI x.1.2.2.2.2.2.2.2.2.2.2.1), (22, vI x.1.2.2.2.2.2.2.2.2.2.2.2.1), (23, vI x.1.2.2.2.2.2.2.2.2.2.2.2.2.1), (24, .own 6), (138, vI x.1.2.2.2.2.2.2.2.2.2.2.2.2.2.2.1), (139, vI x.1.2.2.2.2.2.2.2.2.2.2.2.2.2.2.2.1), (143, vI x.1.2.2.2.2.2.2.2.2.2.2.2.2.2.2.2.2.1), (144, vI x.1.2.2.2.2.2.2.2.2.2.2.2.2.2.2.2.2.2.1), (151, vI x.1.2.2.2.2.2.2.2.2.2.2.2.2.2.2.2.2.2.2.1), (152, vI y.1)], [.box [vZ (.int .i64) x.2.1.1, vI x.2.1.2.1, vZ (.int .i8) x.2.1.2.2.1] false, .box [vZ (.int .i64) x.2.2.1.1, vI x.2.2.1.2.1, vZ (.int .i8) x.2.2.1.2.2.1] false, .box [vZ (.int .i64) x.2.2.2.1.1, vI x.2.2.2.1.2.1, vZ (.int .i8) x.2.2.2.1.2.2.1] false, .box [.pl (.slice none 0 0), vI x.2.2.2.2.1.2.1, .pl (.slice none 0 0)] false, .box [vI x.2.2.2.2.2.1.1, vI x.2.2.2.2.2.1.2.1, vI x.2.2.2.2.2.1.2.2.1, vI x.2.2.2.2.2.1.2.2.2.1, vI x.2.2.2.2.2.1.2.2.2.2.1, vI x.2.2.2.2.2.1.2.2.2.2.2.1, vI x.2.2.2.2.2.1.2.2.2.2.2.2.1] false, .box [vZ (.int .i64) x.2.2.2.2.2.2.1.1, vI x.2.2.2.2.2.2.1.2.1, .own 7] false, .lst true bZ x.2.2.2.2.2.2.2.1 false, .lst true (.int .i32) y.2 false]⟩) (x.1.2.2.2.2.2.2.2.2.2.2.2.2.2.2.2.2.2.2.2.1, x.2.2.2.2.2.2.2.2.1) (by kernel_rfl) (fun y X => by kernel_rfl) h.it
 ·cases hn; exact aG rfl hs (by kernel_rfl) (fun y : Int × List Int => ⟨[(5, .ptr 0 0), (6, .ptr 1 0), (7, .ptr 2 0), (10, .ptr 3 0), (13, vI x.1.2.2.2.2.1), (14, vI x.1.2.2.2.2.2.1), (15, vI x.1.2.2.2.2.2.2.1), (16, vI x.1.2.2.2.2.2.2.2.1), (17, .ptr 4 0), (19, .ptr 5 0), (21, vI x.1.2.2.2.2.2.2.2.2.2.2.1), (22, vI x.1.2.2.2.2.2.2.2.2.2.2.2.1), (23, vI x.1.2.2.2.2.2.2.2.2.2.2.2.2.1), (24, .own 6), (25, vI x.1.2.2.2.2.2.2.2.2.2.2.2.2.2.2.1), (138, vI x.1.2.2.2.2.2.2.2.2.2.2.2.2.2.2.2.1), (139, vI x.1.2.2.2.2.2.2.2.2.2.2.2.2.2.2.2.2.1), (143, vI x.1.2.2.2.2.2.2.2.2.2.2.2.2.2.2.2.2.2.1), (144, vI x.1.2.2.2.2.2.2.2.2.2.2.2.2.2.2.2.2.2.2.1), (151, vI x.1.2.2.2.2.2.2.2.2.2.2.2.2.2.2.2.2.2.2.2.1), (152, vI x.1.2.2.2.2.2.2.2.2.2.2.2.2.2.2.2.2.2.2.2.2.1), (155, vI x.1.2.2.2.2.2.2.2.2.2.2.2.2.2.2.2.2.2.2.2.2.2.1), (156, vI y.1)], [.box [vZ (.int .i64) x.2.1.1, vI x.2.1.2.1, vZ (.int .i8) x.2.1.2.2.1] false, .box [vZ (.int .i64) x.2.2.1.1, vI x.2.2.1.2.1, vZ (.int .i8) x.2.2.1.2.2.1] false, .box [vZ (.int .i64) x.2.2.2.1.1, vI x.2.2.2.1.2.1, vZ (.int .i8) x.2.2.2.1.2.2.1] false, .box [.pl (.slice none 0 0), vI x.2.2.2.2.1.2.1, .pl (.slice none 0 0)] false, .box [vI x.2.2.2.2.2.1.1, vI x.2.2.2.2.2.1.2.1, vI x.2.2.2.2.2.1.2.2.1, vI x.2.2.2.2.2.1.2.2.2.1, vI x.2.2.2.2.2.1.2.2.2.2.1, vI x.2.2.2.2.2.1.2.2.2.2.2.1, vI x.2.2.2.2.2.1.2.2.2.2.2.2.1] false, .box [vZ (.int .i64) x.2.2.2.2.2.2.1.1, vI x.2.2.2.2.2.2.1.2.1, .own 7] false, .lst true bZ x.2.2.2.2.2.2.2.1 false, .lst true (.int .i32) y.2 false]⟩) (x.1.2.2.2.2.2.2.2.2.2.2.2.2.2.2.2.2.2.2.2.2.2.2.1, x.2.2.2.2.2.2.2.2.1) (by kernel_rfl) (fun y X => by kernel_rfl) h.it
 ·cases hn; exact aG rfl hs (by kernel_rfl) (fun y : Int × Int => ⟨[(5, .ptr 0 0), (6, .ptr 1 0), (7, .ptr 2 0), (10, .ptr 3 0), (13, vI x.1.2.2.2.2.1), (14, vI x.1.2.2.2.2.2.1), (15, vI x.1.2.2.2.2.2.2.1), (16, vI x.1.2.2.2.2.2.2.2.1), (17, .ptr 4 0), (19, .ptr 5 0), (21, vI x.1.2.2.2.2.2.2.2.2.2.2.1), (22, vI x.1.2.2.2.2.2.2.2.2.2.2.2.1), (23, vI x.1.2.2.2.2.2.2.2.2.2.2.2.2.1), (24, .own 6), (25, vI x.1.2.2.2.2.2.2.2.2.2.2.2.2.2.2.1), (26, vI x.1.2.2.2.2.2.2.2.2.2.2.2.2.2.2.2.1), (27, vI y.1), (138, vI x.1.2.2.2.2.2.2.2.2.2.2.2.2.2.2.2.2.2.1), (139, vI x.1.2.2.2.2.2.2.2.2.2.2.2.2.2.2.2.2.2.2.1), (143, vI x.1.2.2.2.2.2.2.2.2.2.2.2.2.2.2.2.2.2.2.2.1), (144, vI x.1.2.2.2.2.2.2.2.2.2.2.2.2.2.2.2.2.2.2.2.2.1), (151, vI x.1.2.2.2.2.2.2.2.2.2.2.2.2.2.2.2.2.2.2.2.2.2.1), (152, vI x.1.2.2.2.2.2.2.2.2.2.2.2.2.2.2.2.2.2.2.2.2.2.2.1), (155, vI x.1.2.2.2.2.2.2.2.2.2.2.2.2.2.2.2.2.2.2.2.2.2.2.2.1), (156, vI x.1.2.2.2.2.2.2.2.2.2.2.2.2.2.2.2.2.2.2.2.2.2.2.2.2.1), (170, vI x.1.2.2.2.2.2.2.2.2.2.2.2.2.2.2.2.2.2.2.2.2.2.2.2.2.2.1), (171, vI y.2)], [.box [vZ (.int .i64) x.2.1.1, vI x.2.1.2.1, vZ (.int .i8) x.2.1.2.2.1] false, .box [vZ (.int .i64) x.2.2.1.1, vI x.2.2.1.2.1, vZ (.int .i8) x.2.2.1.2.2.1] false, .box [vZ (.int .i64) x.2.2.2.1.1, vI x.2.2.2.1.2.1, vZ (.int .i8) x.2.2.2.1.2.2.1] false, .box [.pl (.slice none 0 0), vI x.2.2.2.2.1.2.1, .pl (.slice none 0 0)] false, .box [vI x.2.2.2.2.2.1.1, vI x.2.2.2.2.2.1.2.1, vI x.2.2.2.2.2.1.2.2.1, vI x.2.2.2.2.2.1.2.2.2.1, vI x.2.2.2.2.2.1.2.2.2.2.1, vI x.2.2.2.2.2.1.2.2.2.2.2.1, vI x.2.2.2.2.2.1.2.2.2.2.2.2.1] false, .box [vZ (.int .i64) x.2.2.2.2.2.2.1.1, vI x.2.2.2.2.2.2.1.2.1, .own 7] false, .lst true bZ x.2.2.2.2.2.2.2.1 false, .lst true (.int .i32) x.2.2.2.2.2.2.2.2.1 false]⟩) (x.1.2.2.2.2.2.2.2.2.2.2.2.2.2.2.2.2.1, x.1.2.2.2.2.2.2.2.2.2.2.2.2.2.2.2.2.2.2.2.2.2.2.2.2.2.2.1) (by kernel_rfl) (fun y X => by kernel_rfl) h.it
 ·cases hn; exact aG rfl hs (by kernel_rfl) (fun y : Int × Int => ⟨[(5, .ptr 0 0), (6, .ptr 1 0), (7, .ptr 2 0), (10, .ptr 3 0), (13, vI x.1.2.2.2.2.1), (14, vI x.1.2.2.2.2.2.1), (15, vI x.1.2.2.2.2.2.2.1), (16, vI x.1.2.2.2.2.2.2.2.1), (17, .ptr 4 0), (19, .ptr 5 0), (21, vI x.1.2.2.2.2.2.2.2.2.2.2.1), (22, vI x.1.2.2.2.2.2.2.2.2.2.2.2.1), (23, vI x.1.2.2.2.2.2.2.2.2.2.2.2.2.1), (24, .own 6), (25, vI x.1.2.2.2.2.2.2.2.2.2.2.2.2.2.2.1), (26, vI x.1.2.2.2.2.2.2.2.2.2.2.2.2.2.2.2.1), (27, vI y.1), (28, vI x.1.2.2.2.2.2.2.2.2.2.2.2.2.2.2.2.2.2.1), (138, vI x.1.2.2.2.2.2.2.2.2.2.2.2.2.2.2.2.2.2.2.1), (139, vI x.1.2.2.2.2.2.2.2.2.2.2.2.2.2.2.2.2.2.2.2.1), (143, vI x.1.2.2.2.2.2.2.2.2.2.2.2.2.2.2.2.2.2.2.2.2.1), (144, vI x.1.2.2.2.2.2.2.2.2.2.2.2.2.2.2.2.2.2.2.2.2.2.1), (151, vI x.1.2.2.2.2.2.2.2.2.2.2.2.2.2.2.2.2.2.2.2.2.2.2.1), (152, vI x.1.2.2.2.2.2.2.2.2.2.2.2.2.2.2.2.2.2.2.2.2.2.2.2.1), (155, vI x.1.2.2.2.2.2.2.2.2.2.2.2.2.2.2.2.2.2.2.2.2.2.2.2.2.1), (156, vI x.1.2.2.2.2.2.2.2.2.2.2.2.2.2.2.2.2.2.2.2.2.2.2.2.2.2.1), (170, vI x.1.2.2.2.2.2.2.2.2.2.2.2.2.2.2.2.2.2.2.2.2.2.2.2.2.2.2.1), (171, vI x.1.2.2.2.2.2.2.2.2.2.2.2.2.2.2.2.2.2.2.2.2.2.2.2.2.2.2.2.1), (174, .own 6), (175, vI x.1.2.2.2.2.2.2.2.2.2.2.2.2.2.2.2.2.2.2.2.2.2.2.2.2.2.2.2.2.2.1), (176, vI y.2)], [.box [vZ (.int .i64) x.2.1.1, vI x.2.1.2.1, vZ (.int .i8) x.2.1.2.2.1] false, .box [vZ (.int .i64) x.2.2.1.1, vI x.2.2.1.2.1, vZ (.int .i8) x.2.2.1.2.2.1] false, .box [vZ (.int .i64) x.2.2.2.1.1, vI x.2.2.2.1.2.1, vZ (.int .i8) x.2.2.2.1.2.2.1] false, .box [.pl (.slice none 0 0), vI x.2.2.2.2.1.2.1, .pl (.slice none 0 0)] false, .box [vI x.2.2.2.2.2.1.1, vI x.2.2.2.2.2.1.2.1, vI x.2.2.2.2.2.1.2.2.1, vI x.2.2.2.2.2.1.2.2.2.1, vI x.2.2.2.2.2.1.2.2.2.2.1, vI x.2.2.2.2.2.1.2.2.2.2.2.1, vI x.2.2.2.2.2.1.2.2.2.2.2.2.1] false, .box [vZ (.int .i64) x.2.2.2.2.2.2.1.1, vI x.2.2.2.2.2.2.1.2.1, .own 7] false, .lst true bZ x.2.2.2.2.2.2.2.1 false, .lst true (.int .i32) x.2.2.2.2.2.2.2.2.1 false]⟩) (x.1.2.2.2.2.2.2.2.2.2.2.2.2.2.2.2.2.1, x.1.2.2.2.2.2.2.2.2.2.2.2.2.2.2.2.2.2.2.2.2.2.2.2.2.2.2.2.2.2.2.1) (by kernel_rfl) (fun y X => by kernel_rfl) h.it
 ·cases hn
def AC : List Sh := [.agg [lZ (.int .i64), lI, lZ (.int .i8)], .agg [lZ (.int .i64), lI, lZ (.int .i8)], .agg [lZ (.int .i64), lI, lZ (.int .i8)], sI, sI]
theorem XV (x : aM AC) (Q : QT) (h : MD (x.1.1, (x.1.2.1, x.1.2.2.1)) (x.2.1.1, (x.2.1.2.1, x.2.1.2.2.1)) (x.2.2.1.1, (x.2.2.1.2.1, x.2.2.1.2.2.1)) x.2.2.2.1 x.2.2.2.2.1 (fun (r : iE × Int) => Q (aC [(true, uE), (false, (.int .i64))] [(.p .f .n), .n] (r.1, (r.2, ()))))) : aH Tryz.prog 98 (aJ AC x) Q := vD.told [(.p .f .n), .n] (rt := [(true, uE), (false, (.int .i64))]) hI0 W2 Tryz.func98 (by kernel_rfl) (by kernel_rfl) (Nat.le_of_ble_eq_true rfl) h.it (by kernel_rfl)
noncomputable def CW : Tb Tryz.prog := vD.add 98 AC XV
end Go.Proofs.YtcfpfefadlnmcaaGreat

namespace Go.Proofs.YtcfpfefadlnmcaaGreat
open Go.Mach
set_option maxRecDepth 100000
set_option linter.unusedVariables false
structure RE (a0 : List Int) (a1 a2 : Int) (Q : (aGj × Bool) -> Prop) : Prop where
 it : if ((a0.length : Int) != 4) = true then Q ((0, (0, (0, (0, (0, 0))))), false) else ck ((0 : Int) <= 2 /\ 2 < (a0.length : Int)) (ck ((0 : Int) <= 3 /\ 3 < (a0.length : Int)) (nU (a0.getD 2 0) a1 a2 0 (fun (r1 : Int) => nU (a0.getD 3 0) a1 a2 0 (fun (r2 : Int) => Q ((a0.getD 2 0, (a0.getD 3 0, (a1, (a2, (r1, r2))))), (decide (0 < r1)) && (decide (0 < r2)))))))
noncomputable def aGY : Tab := fun n => none
noncomputable def ZR : Code := (bod Tryz.f106).getD .skip
noncomputable def aGI : Go.Mach.Ends := aN ZR [6, 7] []
theorem aDb : aI (CW.cfg tt none false 0) aGY aGI ZR := by
 intro n E hn f c hs x k h
 cases hn
def KJ : List Sh := [sZ (.int .i64), sI, sI]
theorem aDZ (x : aM KJ) (Q : QT) (h : RE x.1 x.2.1 x.2.2.1 (fun (r : aGj × Bool) => Q (aC [(true, aEz), (false, .bool)] [.n, .n] (r.1, (r.2, ()))))) : aH Tryz.prog 106 (aJ KJ x) Q := CW.told [.n, .n] (rt := [(true, aEz), (false, .bool)]) hI0 aDb Tryz.func106 (by kernel_rfl) (by kernel_rfl) (Nat.le_of_ble_eq_true rfl) h.it (by kernel_rfl)
noncomputable def gJ : Tb Tryz.prog := CW.add 106 KJ aDZ
structure cN (x2 : Int) (K0 : Int -> Prop) : Prop where
 it : K0 (IntKind.i64.wrap (x2 + 1))
def bH (x1 : Int) (x10 x12 : List Int) (K0 : Int -> Prop) (s : Int × Int) (nx : (Int × Int) -> Prop) : Prop :=
 if (decide (s.2 < x1)) = true then ck ((0 : Int) <= s.2 /\ s.2 < (x12.length : Int)) (ck ((0 : Int) <= (x12.getD ((s.2).toNat) 0) /\ (x12.getD ((s.2).toNat) 0) < (x10.length : Int)) (ck ((0 : Int) <= s.1 /\ s.1 < (x10.length : Int)) (if (decide ((x10.getD ((s.1).toNat) 0) < (x10.getD ((x12.getD ((s.2).toNat) 0).toNat) 0))) = true then cN s.2 (fun (yii1 : Int) => nx ((x12.getD ((s.2).toNat) 0), yii1)) else cN s.2 (fun (yii2 : Int) => nx (s.1, yii2))))) else K0 s.1
structure cK (x1 : Int) (x10 x12 : List Int) (K0 : Int -> Prop) (s : Int × Int) : Prop where
 it : Go.Mach.Loop (bH x1 x10 x12 K0) s
noncomputable def mT : Ent := ⟨[2, 3, 4, 7, 13, 14, 15, 48, 49, 52, 57, 58, 65, 66, 125, 130, 131], [sC (.ptr 0 0), sC (.ptr 1 0), sC (.ptr 2 0), sI, sC (.own 3), sI, sI, .fn 108 [.lf (.cst (.ptr 0 0)), .lf (.cst (.ptr 1 0)), .lf (.cst (.ptr 2 0))], sC (.ptr 4 0), sI, sI, sI, sI, sI, sC (.ptr 5 0), sC (.ptr 1 0), sC (.ptr 2 0)], [.box [lZ (.int .i64), lI, lZ (.int .i8)] false, .box [.cst (.own 6), lI, .cst (.own 7)] false, .box [.cst (.own 8)] false, .lst true (.int .i64) false, .box [lI, lI, lI, lI, lI, lI] false, .box [.cst (.pl (.slice none 0 0)), lI, .cst (.pl (.slice none 0 0))] false, .lst true (.int .i64) false, .lst true (.int .i8) false, .lst true (.int .i64) false], fun x k => cK x.1.2.2.2.2.2.1 x.2.1.2.2.1 x.2.2.2.2.1 (fun (yii5 : Int) => k (.exit 0) ⟨[(2, .ptr 0 0), (3, .ptr 1 0), (4, .ptr 2 0), (7, vI yii5), (48, .fn 108 [.ptr 0 0, .ptr 1 0, .ptr 2 0]), (49, .ptr 3 0), (52, vI x.1.2.2.2.2.2.2.2.2.2.1), (57, vI x.1.2.2.2.2.2.2.2.2.2.2.1), (58, vI x.1.2.2.2.2.2.2.2.2.2.2.2.1), (65, vI x.1.2.2.2.2.2.2.2.2.2.2.2.2.1), (66, vI x.1.2.2.2.2.2.2.2.2.2.2.2.2.2.1), (125, .ptr 4 0), (130, .ptr 1 0), (131, .ptr 2 0)], [.box [vZ (.int .i64) x.2.1.1, vI x.2.1.2.1, vZ (.int .i8) x.2.1.2.2.1] false, .box [.own 5, vI x.2.2.1.2.1, .own 6] false, .box [.own 7] false, .box [vI x.2.2.2.2.2.1.1, vI x.2.2.2.2.2.1.2.1, vI x.2.2.2.2.2.1.2.2.1, vI x.2.2.2.2.2.1.2.2.2.1, vI x.2.2.2.2.2.1.2.2.2.2.1, vI x.2.2.2.2.2.1.2.2.2.2.2.1] false, .box [.pl (.slice none 0 0), vI x.2.2.2.2.2.2.1.2.1, .pl (.slice none 0 0)] false, .lst true (.int .i64) x.2.2.2.2.2.2.2.1 false, .lst true (.int .i8) x.2.2.2.2.2.2.2.2.1 false, .lst true (.int .i64) x.2.2.2.2.2.2.2.2.2.1 false]⟩) (x.1.2.2.2.1, x.1.2.2.2.2.2.2.1)⟩
noncomputable def nE : Ent := ⟨[2, 3, 4, 7, 13, 14, 15, 48, 49, 52, 57, 58, 65, 66, 125, 130, 131], [sC (.ptr 0 0), sC (.ptr 1 0), sC (.ptr 2 0), sI, sC (.own 3), sI, sI, .fn 108 [.lf (.cst (.ptr 0 0)), .lf (.cst (.ptr 1 0)), .lf (.cst (.ptr 2 0))], sC (.ptr 4 0), sI, sI, sI, sI, sI, sC (.ptr 5 0), sC (.ptr 1 0), sC (.ptr 2 0)], [.box [lZ (.int .i64), lI, lZ (.int .i8)] false, .box [.cst (.own 6), lI, .cst (.own 7)] false, .box [.cst (.own 8)] false, .lst true (.int .i64) false, .box [lI, lI, lI, lI, lI, lI] false, .box [.cst (.pl (.slice none 0 0)), lI, .cst (.pl (.slice none 0 0))] false, .lst true (.int .i64) false, .lst true (.int .i8) false, .lst true (.int .i64) false], fun x k => cN x.1.2.2.2.2.2.2.1 (fun (yii6 : Int) => k .normal ⟨[(2, .ptr 0 0), (3, .ptr 1 0), (4, .ptr 2 0), (7, vI x.1.2.2.2.1), (13, .own 3), (14, vI x.1.2.2.2.2.2.1), (15, vI yii6), (48, .fn 108 [.ptr 0 0, .ptr 1 0, .ptr 2 0]), (49, .ptr 4 0), (52, vI x.1.2.2.2.2.2.2.2.2.2.1), (57, vI x.1.2.2.2.2.2.2.2.2.2.2.1), (58, vI x.1.2.2.2.2.2.2.2.2.2.2.2.1), (65, vI x.1.2.2.2.2.2.2.2.2.2.2.2.2.1), (66, vI x.1.2.2.2.2.2.2.2.2.2.2.2.2.2.1), (125, .ptr 5 0), (130, .ptr 1 0), (131, .ptr 2 0)], [.box [vZ (.int .i64) x.2.1.1, vI x.2.1.2.1, vZ (.int .i8) x.2.1.2.2.1] false, .box [.own 6, vI x.2.2.1.2.1, .own 7] false, .box [.own 8] false, .lst true (.int .i64) x.2.2.2.2.1 false, .box [vI x.2.2.2.2.2.1.1, vI x.2.2.2.2.2.1.2.1, vI x.2.2.2.2.2.1.2.2.1, vI x.2.2.2.2.2.1.2.2.2.1, vI x.2.2.2.2.2.1.2.2.2.2.1, vI x.2.2.2.2.2.1.2.2.2.2.2.1] false, .box [.pl (.slice none 0 0), vI x.2.2.2.2.2.2.1.2.1, .pl (.slice none 0 0)] false, .lst true (.int .i64) x.2.2.2.2.2.2.2.1 false, .lst true (.int .i8) x.2.2.2.2.2.2.2.2.1 false, .lst true (.int .i64) x.2.2.2.2.2.2.2.2.2.1 false]⟩)⟩
noncomputable def bL : Tab := fun n => match n with | 26 => some mT | 423 => some nE | _ => none
noncomputable def bT : Code := (bod Tryz.f108).getD .skip
noncomputable def cM : Go.Mach.Ends := aN bT [48, 49, 52, 57, 58, 65, 66, 125, 130, 131] []
theorem lS : aI (gJ.cfg tt none false 0) bL cM bT := by
 intro n E hn f c hs x k h
 unfold bL at hn
 split at hn
 ·cases hn; exact aG rfl hs (by kernel_rfl) (fun y : Int × Int => ⟨[(2, .ptr 0 0), (3, .ptr 1 0), (4, .ptr 2 0), (7, vI y.1), (13, .own 3), (14, vI x.1.2.2.2.2.2.1), (15, vI y.2), (48, .fn 108 [.ptr 0 0, .ptr 1 0, .ptr 2 0]), (49, .ptr 4 0), (52, vI x.1.2.2.2.2.2.2.2.2.2.1), (57, vI x.1.2.2.2.2.2.2.2.2.2.2.1), (58, vI x.1.2.2.2.2.2.2.2.2.2.2.2.1), (65, vI x.1.2.2.2.2.2.2.2.2.2.2.2.2.1), (66, vI x.1.2.2.2.2.2.2.2.2.2.2.2.2.2.1), (125, .ptr 5 0), (130, .ptr 1 0), (131, .ptr 2 0)], [.box [vZ (.int .i64) x.2.1.1, vI x.2.1.2.1, vZ (.int .i8) x.2.1.2.2.1] false, .box [.own 6, vI x.2.2.1.2.1, .own 7] false, .box [.own 8] false, .lst true (.int .i64) x.2.2.2.2.1 false, .box [vI x.2.2.2.2.2.1.1, vI x.2.2.2.2.2.1.2.1, vI x.2.2.2.2.2.1.2.2.1, vI x.2.2.2.2.2.1.2.2.2.1, vI x.2.2.2.2.2.1.2.2.2.2.1, vI x.2.2.2.2.2.1.2.2.2.2.2.1] false, .box [.pl (.slice none 0 0), vI x.2.2.2.2.2.2.1.2.1, .pl (.slice none 0 0)] false, .lst true (.int .i64) x.2.2.2.2.2.2.2.1 false, .lst true (.int .i8) x.2.2.2.2.2.2.2.2.1 false, .lst true (.int .i64) x.2.2.2.2.2.2.2.2.2.1 false]⟩) (x.1.2.2.2.1, x.1.2.2.2.2.2.2.1) (by kernel_rfl) (fun y X => by kernel_rfl) h.it
 ·cases hn; exact bU hs (by kernel_rfl) (by kernel_rfl) h.it
 ·cases hn
noncomputable def bS : Inl := ⟨fun g => g == 108, fun _ args s k => QP (gJ.cfg tt none false 0) bL cM Tryz.f108 bT args s k⟩
theorem lQ : gC Tryz.prog bS := aBn (G1 := (gJ.cfg tt none false 0)) (ct := bL) (en := cM) (F := 108) (fn := Tryz.f108) (cd := bT) Tryz.func108 (by kernel_rfl) (by kernel_rfl) lS gJ.ok hI0
def cT (x0 x6 x12 x13 : Int) (x19 : List aX) (K0 : (List Int) -> Prop) (s : Int × List Int) (nx : (Int × List Int) -> Prop) : Prop :=
 if (decide (s.1 < x6)) = true then ck ((0 : Int) <= s.1 /\ s.1 < (x19.length : Int)) (ck ((s.2.length + [IntKind.i64.wrap ((IntKind.i64.wrap ((IntKind.i64.wrap (x0 * x12)) * x13)) + ((x19.getD ((s.1).toNat) (0, (0, 0))).1))].length) * 8 <= 140737488355328) (nx (IntKind.i64.wrap (s.1 + 1), s.2 ++ [IntKind.i64.wrap ((IntKind.i64.wrap ((IntKind.i64.wrap (x0 * x12)) * x13)) + ((x19.getD ((s.1).toNat) (0, (0, 0))).1))]))) else K0 s.2
structure fS (x0 x6 x12 x13 : Int) (x19 : List aX) (K0 : (List Int) -> Prop) (s : Int × List Int) : Prop where
 it : Go.Mach.Loop (cT x0 x6 x12 x13 x19 K0) s
def cX (x0 x3 : Int) (x7 : List Int) (x9 x10 x11 x12 x14 : Int) (K0 : ((List Int) × List Int) -> Prop) (s : Int × (List Int) × List Int) (nx : (Int × (List Int) × List Int) -> Prop) : Prop :=
 if (decide (s.1 < x3)) = true then ck (x14 ≠ (0 : Int)) (ck (x14 ≠ (0 : Int)) (uX x9 x10 (IntKind.i64.wrap ((s.1).tdiv x14)) ((s.1).tmod x14) x11 x12 0 (fun (ri6 : List aX) => fS x0 (ri6.length : Int) x9 x10 ri6 (fun (yi7 : List Int) => ck ((0 : Int) <= 0 /\ 0 < (yi7.length : Int)) (cK (yi7.length : Int) x7 yi7 (fun (yii4 : Int) => ck ((0 : Int) <= yii4 /\ yii4 < (x7.length : Int)) (ck ((s.2.1.length + [x7.getD ((yii4).toNat) 0].length) * 1 <= 140737488355328) (ck ((s.2.2.length + [yii4].length) * 8 <= 140737488355328) (nx (IntKind.i64.wrap (s.1 + 1), s.2.1 ++ [x7.getD ((yii4).toNat) 0], s.2.2 ++ [yii4]))))) (yi7.getD 0 0, 0))) (0, ([] : List Int))))) else K0 (s.2.1, s.2.2)
structure fO (x0 x3 : Int) (x7 : List Int) (x9 x10 x11 x12 x14 : Int) (K0 : ((List Int) × List Int) -> Prop) (s : Int × (List Int) × List Int) : Prop where
 it : Go.Mach.Loop (cX x0 x3 x7 x9 x10 x11 x12 x14 K0) s
def cS (x0 : Int) (x4 : List Int) (x6 x7 x8 x9 x10 x11 : Int) (K0 : ((List Int) × List Int) -> Prop) (s : Int × (List Int) × List Int) (nx : (Int × (List Int) × List Int) -> Prop) : Prop :=
 if (decide (s.1 < x0)) = true then fO s.1 (IntKind.i64.wrap (x10 * x11)) x4 x6 x7 x8 x9 x11 (fun (yi6 : (List Int) × List Int) => nx (IntKind.i64.wrap (s.1 + 1), yi6.1, yi6.2)) (0, s.2.1, s.2.2) else K0 (s.2.1, s.2.2)
structure fR (x0 : Int) (x4 : List Int) (x6 x7 x8 x9 x10 x11 : Int) (K0 : ((List Int) × List Int) -> Prop) (s : Int × (List Int) × List Int) : Prop where
 it : Go.Mach.Loop (cS x0 x4 x6 x7 x8 x9 x10 x11 K0) s
noncomputable def yJ : Ent := ⟨[2, 3, 11, 12, 79, 84, 85], [.fn 108 [.lf (.cst (.ptr 0 0)), .lf (.cst (.ptr 1 0)), .lf (.cst (.ptr 2 0))], sC (.ptr 3 0), sI, sI, sC (.ptr 4 0), sC (.ptr 1 0), sC (.ptr 2 0)], [.box [lZ (.int .i64), lI, lZ (.int .i8)] false, .box [.cst (.own 5), lI, .cst (.pl (.slice none 0 0))] false, .box [.cst (.pl (.slice none 0 0))] false, .box [lI, lI, lI, lI, lI, lI] false, .box [.cst (.pl (.slice none 0 0)), lI, .cst (.pl (.slice none 0 0))] false, .lst true (.int .i64) false], fun x k => fR x.1.2.2.1 x.2.1.2.2.1 x.2.2.2.2.1.1 x.2.2.2.2.1.2.1 x.2.2.2.2.1.2.2.1 x.2.2.2.2.1.2.2.2.1 x.2.2.2.2.1.2.2.2.2.1 x.2.2.2.2.1.2.2.2.2.2.1 (fun (yi8 : (List Int) × List Int) => k (.exit 0) ⟨[(79, .ptr 0 0), (84, .ptr 1 0), (85, .ptr 2 0)], [.box [.pl (.slice none 0 0), vI x.2.2.2.2.2.1.2.1, .pl (.slice none 0 0)] false, .box [.own 3, vI x.2.2.1.2.1, .own 4] false, .box [.own 5] false, .lst true (.int .i64) x.2.2.2.2.2.2.1 false, .lst true (.int .i8) yi8.1 false, .lst true (.int .i64) yi8.2 false]⟩) (x.1.2.2.2.1, ([] : List Int), ([] : List Int))⟩
noncomputable def yE : Ent := ⟨[2, 3, 6, 11, 12, 19, 20, 79, 84, 85], [.fn 108 [.lf (.cst (.ptr 0 0)), .lf (.cst (.ptr 1 0)), .lf (.cst (.ptr 2 0))], sC (.ptr 3 0), sI, sI, sI, sI, sI, sC (.ptr 4 0), sC (.ptr 1 0), sC (.ptr 2 0)], [.box [lZ (.int .i64), lI, lZ (.int .i8)] false, .box [.cst (.own 5), lI, .cst (.own 6)] false, .box [.cst (.own 7)] false, .box [lI, lI, lI, lI, lI, lI] false, .box [.cst (.pl (.slice none 0 0)), lI, .cst (.pl (.slice none 0 0))] false, .lst true (.int .i64) false, .lst true (.int .i8) false, .lst true (.int .i64) false], fun x k => fO x.1.2.2.1 x.1.2.2.2.2.2.1 x.2.1.2.2.1 x.2.2.2.2.1.1 x.2.2.2.2.1.2.1 x.2.2.2.2.1.2.2.1 x.2.2.2.2.1.2.2.2.1 x.2.2.2.2.1.2.2.2.2.2.1 (fun (yi9 : (List Int) × List Int) => k (.exit 2) ⟨[(2, .fn 108 [.ptr 0 0, .ptr 1 0, .ptr 2 0]), (3, .ptr 3 0), (11, vI x.1.2.2.2.1), (12, vI x.1.2.2.2.2.1), (79, .ptr 4 0), (84, .ptr 1 0), (85, .ptr 2 0)], [.box [vZ (.int .i64) x.2.1.1, vI x.2.1.2.1, vZ (.int .i8) x.2.1.2.2.1] false, .box [.own 5, vI x.2.2.1.2.1, .own 6] false, .box [.own 7] false, .box [vI x.2.2.2.2.1.1, vI x.2.2.2.2.1.2.1, vI x.2.2.2.2.1.2.2.1, vI x.2.2.2.2.1.2.2.2.1, vI x.2.2.2.2.1.2.2.2.2.1, vI x.2.2.2.2.1.2.2.2.2.2.1] false, .box [.pl (.slice none 0 0), vI x.2.2.2.2.2.1.2.1, .pl (.slice none 0 0)] false, .lst true (.int .i64) x.2.2.2.2.2.2.1 false, .lst true (.int .i8) yi9.1 false, .lst true (.int .i64) yi9.2 false]⟩) (x.1.2.2.2.2.2.2.1, x.2.2.2.2.2.2.2.1, x.2.2.2.2.2.2.2.2.1)⟩
noncomputable def xN : Ent := ⟨[2, 3, 6, 7, 8, 11, 12, 19, 20, 39, 40, 41, 79, 84, 85], [.fn 108 [.lf (.cst (.ptr 0 0)), .lf (.cst (.ptr 1 0)), .lf (.cst (.ptr 2 0))], sC (.ptr 3 0), sI, sI, sC (.pl (.slice none 0 0)), sI, sI, sI, sI, sC (.own 4), sI, sI, sC (.ptr 5 0), sC (.ptr 1 0), sC (.ptr 2 0)], [.box [lZ (.int .i64), lI, lZ (.int .i8)] false, .box [.cst (.own 6), lI, .cst (.own 7)] false, .box [.cst (.own 8)] false, .box [lI, lI, lI, lI, lI, lI] false, .lst true bZ false, .box [.cst (.pl (.slice none 0 0)), lI, .cst (.pl (.slice none 0 0))] false, .lst true (.int .i64) false, .lst true (.int .i8) false, .lst true (.int .i64) false], fun x k => fS x.1.2.2.1 x.1.2.2.2.2.2.2.2.2.2.2.1 x.2.2.2.2.1.1 x.2.2.2.2.1.2.1 x.2.2.2.2.2.1 (fun (yi10 : List Int) => k (.exit 4) ⟨[(2, .fn 108 [.ptr 0 0, .ptr 1 0, .ptr 2 0]), (3, .ptr 3 0), (6, vI x.1.2.2.1), (7, vI x.1.2.2.2.1), (8, .own 4), (11, vI x.1.2.2.2.2.2.1), (12, vI x.1.2.2.2.2.2.2.1), (19, vI x.1.2.2.2.2.2.2.2.1), (20, vI x.1.2.2.2.2.2.2.2.2.1), (79, .ptr 5 0), (84, .ptr 1 0), (85, .ptr 2 0)], [.box [vZ (.int .i64) x.2.1.1, vI x.2.1.2.1, vZ (.int .i8) x.2.1.2.2.1] false, .box [.own 6, vI x.2.2.1.2.1, .own 7] false, .box [.own 8] false, .box [vI x.2.2.2.2.1.1, vI x.2.2.2.2.1.2.1, vI x.2.2.2.2.1.2.2.1, vI x.2.2.2.2.1.2.2.2.1, vI x.2.2.2.2.1.2.2.2.2.1, vI x.2.2.2.2.1.2.2.2.2.2.1] false, .lst true (.int .i64) yi10 false, .box [.pl (.slice none 0 0), vI x.2.2.2.2.2.2.1.2.1, .pl (.slice none 0 0)] false, .lst true (.int .i64) x.2.2.2.2.2.2.2.1 false, .lst true (.int .i8) x.2.2.2.2.2.2.2.2.1 false, .lst true (.int .i64) x.2.2.2.2.2.2.2.2.2.1 false]⟩) (x.1.2.2.2.2.2.2.2.2.2.2.2.1, ([] : List Int))⟩
noncomputable def dC : Tab := fun n => match n with | 14 => some yJ | 3686 => some yE | 3774874 => some xN | _ => none
noncomputable def dJ : Code := (bod Tryz.f107).getD .skip
noncomputable def fT : Go.Mach.Ends := aN dJ [79, 84, 85] [(14, [⟨84, some 2, false, (.int .i8)⟩, ⟨85, some 0, false, (.int .i64)⟩]), (3686, [⟨84, some 2, false, (.int .i8)⟩, ⟨85, some 0, false, (.int .i64)⟩]), (3774874, [⟨8, none, false, (.int .i64)⟩])]
theorem wA : aI (gJ.cfg tt (some bS) false 0) dC fT dJ := by
 intro n E hn f c hs x k h
 unfold dC at hn
 split at hn
 ·cases hn; exact aG rfl hs (by kernel_rfl) (fun y : Int × (List Int) × List Int => ⟨[(2, .fn 108 [.ptr 0 0, .ptr 1 0, .ptr 2 0]), (3, .ptr 3 0), (11, vI x.1.2.2.1), (12, vI y.1), (79, .ptr 4 0), (84, .ptr 1 0), (85, .ptr 2 0)], [.box [vZ (.int .i64) x.2.1.1, vI x.2.1.2.1, vZ (.int .i8) x.2.1.2.2.1] false, .box [.own 5, vI x.2.2.1.2.1, .own 6] false, .box [.own 7] false, .box [vI x.2.2.2.2.1.1, vI x.2.2.2.2.1.2.1, vI x.2.2.2.2.1.2.2.1, vI x.2.2.2.2.1.2.2.2.1, vI x.2.2.2.2.1.2.2.2.2.1, vI x.2.2.2.2.1.2.2.2.2.2.1] false, .box [.pl (.slice none 0 0), vI x.2.2.2.2.2.1.2.1, .pl (.slice none 0 0)] false, .lst true (.int .i64) x.2.2.2.2.2.2.1 false, .lst true (.int .i8) y.2.1 false, .lst true (.int .i64) y.2.2 false]⟩) (x.1.2.2.2.1, ([] : List Int), ([] : List Int)) (by kernel_rfl) (fun y X => by kernel_rfl) h.it
 ·cases hn; exact aG rfl hs (by kernel_rfl) (fun y : Int × (List Int) × List Int => ⟨[(2, .fn 108 [.ptr 0 0, .ptr 1 0, .ptr 2 0]), (3, .ptr 3 0), (6, vI x.1.2.2.1), (11, vI x.1.2.2.2.1), (12, vI x.1.2.2.2.2.1), (19, vI x.1.2.2.2.2.2.1), (20, vI y.1), (79, .ptr 4 0), (84, .ptr 1 0), (85, .ptr 2 0)], [.box [vZ (.int .i64) x.2.1.1, vI x.2.1.2.1, vZ (.int .i8) x.2.1.2.2.1] false, .box [.own 5, vI x.2.2.1.2.1, .own 6] false, .box [.own 7] false, .box [vI x.2.2.2.2.1.1, vI x.2.2.2.2.1.2.1, vI x.2.2.2.2.1.2.2.1, vI x.2.2.2.2.1.2.2.2.1, vI x.2.2.2.2.1.2.2.2.2.1, vI x.2.2.2.2.1.2.2.2.2.2.1] false, .box [.pl (.slice none 0 0), vI x.2.2.2.2.2.1.2.1, .pl (.slice none 0 0)] false, .lst true (.int .i64) x.2.2.2.2.2.2.1 false, .lst true (.int .i8) y.2.1 false, .lst true (.int .i64) y.2.2 false]⟩) (x.1.2.2.2.2.2.2.1, x.2.2.2.2.2.2.2.1, x.2.2.2.2.2.2.2.2.1) (by kernel_rfl) (fun y X => by kernel_rfl) h.it
 ·cases hn; exact aG rfl hs (by kernel_rfl) (fun y : Int × List Int => ⟨[(2, .fn 108 [.ptr 0 0, .ptr 1 0, .ptr 2 0]), (3, .ptr 3 0), (6, vI x.1.2.2.1), (7, vI x.1.2.2.2.1), (8, .own 4), (11, vI x.1.2.2.2.2.2.1), (12, vI x.1.2.2.2.2.2.2.1), (19, vI x.1.2.2.2.2.2.2.2.1), (20, vI x.1.2.2.2.2.2.2.2.2.1), (39, .own 5), (40, vI x.1.2.2.2.2.2.2.2.2.2.2.1), (41, vI y.1), (79, .ptr 6 0), (84, .ptr 1 0), (85, .ptr 2 0)], [.box [vZ (.int .i64) x.2.1.1, vI x.2.1.2.1, vZ (.int .i8) x.2.1.2.2.1] false, .box [.own 7, vI x.2.2.1.2.1, .own 8] false, .box [.own 9] false, .box [vI x.2.2.2.2.1.1, vI x.2.2.2.2.1.2.1, vI x.2.2.2.2.1.2.2.1, vI x.2.2.2.2.1.2.2.2.1, vI x.2.2.2.2.1.2.2.2.2.1, vI x.2.2.2.2.1.2.2.2.2.2.1] false, .lst true (.int .i64) y.2 false, .lst true bZ x.2.2.2.2.2.1 false, .box [.pl (.slice none 0 0), vI x.2.2.2.2.2.2.1.2.1, .pl (.slice none 0 0)] false, .lst true (.int .i64) x.2.2.2.2.2.2.2.1 false, .lst true (.int .i8) x.2.2.2.2.2.2.2.2.1 false, .lst true (.int .i64) x.2.2.2.2.2.2.2.2.2.1 false]⟩) (x.1.2.2.2.2.2.2.2.2.2.2.2.1, ([] : List Int)) (by kernel_rfl) (fun y X => by kernel_rfl) h.it
 ·cases hn
noncomputable def l4 : Inl := ⟨fun g => g == 107, fun _ args s k => QP (gJ.cfg tt (some bS) false 0) dC fT Tryz.f107 dJ args s k⟩
theorem wD : gC Tryz.prog l4 := aBn (G1 := (gJ.cfg tt (some bS) false 0)) (ct := dC) (en := fT) (F := 107) (fn := Tryz.f107) (cd := dJ) Tryz.func107 (by kernel_rfl) (by kernel_rfl) wA gJ.ok (hI1 lQ)
structure aCg (a0 : aR) (a1 a2 : Int) (Q : (aR × (List Int) × Int) -> Prop) : Prop where
 it : cF a0 (fun (r1 : Bool) => if (!r1) = true then Q ((([] : List Int), (0, ([] : List Int))), ([] : List Int), 1) else RE a0.1 a1 a2 (fun (r2 : aGj × Bool) => if (!r2.2) = true then Q ((([] : List Int), (0, ([] : List Int))), ([] : List Int), 2) else ck ((0 : Int) <= 0 /\ 0 < (a0.1.length : Int)) (ck ((0 : Int) <= 1 /\ 1 < (a0.1.length : Int)) (ck ((0 : Int) <= 0 /\ 0 < (a0.1.length : Int)) (ck ((0 : Int) <= 1 /\ 1 < (a0.1.length : Int)) (fR (IntKind.i64.wrap ((a0.1.getD 0 0) * (a0.1.getD 1 0))) a0.2.2 r2.1.1 r2.1.2.1 r2.1.2.2.1 r2.1.2.2.2.1 r2.1.2.2.2.2.1 r2.1.2.2.2.2.2 (fun (yi7 : (List Int) × List Int) => Q (([a0.1.getD 0 0, a0.1.getD 1 0, r2.1.2.2.2.2.1, r2.1.2.2.2.2.2], (a0.2.1, yi7.1)), yi7.2, 0)) (0, ([] : List Int), ([] : List Int))))))))
noncomputable def aIW : Tab := fun n => none
noncomputable def aCQ : Code := (bod Tryz.f60).getD .skip
noncomputable def aHQ : Go.Mach.Ends := aN aCQ [6, 7, 8] []
theorem aFY : aI (gJ.cfg tt (some l4) false 0) aIW aHQ aCQ := by
 intro n E hn f c hs x k h
 cases hn
def O6 : List Sh := [.agg [lZ (.int .i64), lI, lZ (.int .i8)], sI, sI]
theorem aGV (x : aM O6) (Q : QT) (h : aCg (x.1.1, (x.1.2.1, x.1.2.2.1)) x.2.1 x.2.2.1 (fun (r : aR × (List Int) × Int) => Q (aC [(true, c9), (false, (.slc (.int .i64))), (false, (.int .i64))] [.n, .n, .n] (r.1, (r.2.1, (r.2.2, ())))))) : aH Tryz.prog 60 (aJ O6 x) Q := gJ.told [.n, .n, .n] (rt := [(true, c9), (false, (.slc (.int .i64))), (false, (.int .i64))]) (hI1 wD) aFY Tryz.func60 (by kernel_rfl) (by kernel_rfl) (Nat.le_of_ble_eq_true rfl) h.it (by kernel_rfl)
noncomputable def UC : Tb Tryz.prog := gJ.add 60 O6 aGV
structure aE7 (a0 : Int) (Q : Int -> Prop) : Prop where
 it : ck (2 ≠ (0 : Int)) (Q (IntKind.i64.wrap ((IntKind.i64.wrap ((a0).tdiv 2)) * 2)))
noncomputable def aFX : Tab := fun n => none
noncomputable def Y1 : Code := (bod Tryz.f163).getD .skip
noncomputable def aFd : Go.Mach.Ends := aN Y1 [2] []
theorem aEO : aI (UC.cfg tt none false 0) aFX aFd Y1 := by
 intro n E hn f c hs x k h
 cases hn
def KW : List Sh := [sI]
theorem aDj (x : aM KW) (Q : QT) (h : aE7 x.1 (fun (r : Int) => Q (aC [(false, (.int .i64))] [.n] (r, ())))) : aH Tryz.prog 163 (aJ KW x) Q := UC.told [.n] (rt := [(false, (.int .i64))]) hI0 aEO Tryz.func163 (by kernel_rfl) (by kernel_rfl) (Nat.le_of_ble_eq_true rfl) h.it (by kernel_rfl)
noncomputable def gI : Tb Tryz.prog := UC.add 163 KW aDj
def bI (x1 : Int) (x10 x12 : List Int) (K0 : Int -> Prop) (s : Int × Int) (nx : (Int × Int) -> Prop) : Prop :=
 if (decide (s.2 < x1)) = true then ck ((0 : Int) <= s.2 /\ s.2 < (x12.length : Int)) (ck ((0 : Int) <= (x12.getD ((s.2).toNat) 0) /\ (x12.getD ((s.2).toNat) 0) < (x10.length : Int)) (nx (IntKind.i32.wrap (s.1 + (IntKind.i32.wrap (x10.getD ((x12.getD ((s.2).toNat) 0).toNat) 0))), IntKind.i64.wrap (s.2 + 1)))) else K0 s.1
structure cO (x1 : Int) (x10 x12 : List Int) (K0 : Int -> Prop) (s : Int × Int) : Prop where
 it : Go.Mach.Loop (bI x1 x10 x12 K0) s
noncomputable def m7 : Ent := ⟨[2, 3, 6, 9, 10, 11, 32, 33, 36, 41, 42, 49, 50, 109, 113], [sC (.ptr 0 0), sC (.ptr 1 0), .lf (.int .i32), sC (.own 2), sI, sI, .fn 164 [.lf (.cst (.ptr 0 0)), .lf (.cst (.ptr 1 0))], sC (.ptr 3 0), sI, sI, sI, sI, sI, sC (.ptr 4 0), sC (.ptr 1 0)], [.box [lZ (.int .i64), lI, lZ (.int .i8)] false, .box [.cst (.own 5), lI, .cst (.own 6)] false, .lst true (.int .i64) false, .box [lI, lI, lI, lI, lI, lI] false, .box [.cst (.pl (.slice none 0 0)), lI, .cst (.pl (.slice none 0 0))] false, .lst true (.int .i64) false, .lst true (.int .i32) false], fun x k => cO x.1.2.2.2.2.1 x.2.1.2.2.1 x.2.2.2.1 (fun (yii3 : Int) => k (.exit 0) ⟨[(3, .ptr 0 0), (6, vK .i32 yii3), (32, .fn 164 [.ptr 1 0, .ptr 0 0]), (33, .ptr 2 0), (36, vI x.1.2.2.2.2.2.2.2.2.1), (41, vI x.1.2.2.2.2.2.2.2.2.2.1), (42, vI x.1.2.2.2.2.2.2.2.2.2.2.1), (49, vI x.1.2.2.2.2.2.2.2.2.2.2.2.1), (50, vI x.1.2.2.2.2.2.2.2.2.2.2.2.2.1), (109, .ptr 3 0), (113, .ptr 0 0)], [.box [.own 4, vI x.2.2.1.2.1, .own 5] false, .box [vZ (.int .i64) x.2.1.1, vI x.2.1.2.1, vZ (.int .i8) x.2.1.2.2.1] false, .box [vI x.2.2.2.2.1.1, vI x.2.2.2.2.1.2.1, vI x.2.2.2.2.1.2.2.1, vI x.2.2.2.2.1.2.2.2.1, vI x.2.2.2.2.1.2.2.2.2.1, vI x.2.2.2.2.1.2.2.2.2.2.1] false, .box [.pl (.slice none 0 0), vI x.2.2.2.2.2.1.2.1, .pl (.slice none 0 0)] false, .lst true (.int .i64) x.2.2.2.2.2.2.1 false, .lst true (.int .i32) x.2.2.2.2.2.2.2.1 false]⟩) (x.1.2.2.1, x.1.2.2.2.2.2.1)⟩
noncomputable def bM : Tab := fun n => match n with | 26 => some m7 | _ => none
noncomputable def bR : Code := (bod Tryz.f164).getD .skip
noncomputable def cL : Go.Mach.Ends := aN bR [32, 33, 36, 41, 42, 49, 50, 109, 113] []
theorem lR : aI (gI.cfg tt none false 0) bM cL bR := by
 intro n E hn f c hs x k h
 unfold bM at hn
 split at hn
 ·cases hn; exact aG rfl hs (by kernel_rfl) (fun y : Int × Int => ⟨[(2, .ptr 0 0), (3, .ptr 1 0), (6, vK .i32 y.1), (9, .own 2), (10, vI x.1.2.2.2.2.1), (11, vI y.2), (32, .fn 164 [.ptr 0 0, .ptr 1 0]), (33, .ptr 3 0), (36, vI x.1.2.2.2.2.2.2.2.2.1), (41, vI x.1.2.2.2.2.2.2.2.2.2.1), (42, vI x.1.2.2.2.2.2.2.2.2.2.2.1), (49, vI x.1.2.2.2.2.2.2.2.2.2.2.2.1), (50, vI x.1.2.2.2.2.2.2.2.2.2.2.2.2.1), (109, .ptr 4 0), (113, .ptr 1 0)], [.box [vZ (.int .i64) x.2.1.1, vI x.2.1.2.1, vZ (.int .i8) x.2.1.2.2.1] false, .box [.own 5, vI x.2.2.1.2.1, .own 6] false, .lst true (.int .i64) x.2.2.2.1 false, .box [vI x.2.2.2.2.1.1, vI x.2.2.2.2.1.2.1, vI x.2.2.2.2.1.2.2.1, vI x.2.2.2.2.1.2.2.2.1, vI x.2.2.2.2.1.2.2.2.2.1, vI x.2.2.2.2.1.2.2.2.2.2.1] false, .box [.pl (.slice none 0 0), vI x.2.2.2.2.2.1.2.1, .pl (.slice none 0 0)] false, .lst true (.int .i64) x.2.2.2.2.2.2.1 false, .lst true (.int .i32) x.2.2.2.2.2.2.2.1 false]⟩) (x.1.2.2.1, x.1.2.2.2.2.2.1) (by kernel_rfl) (fun y X => by kernel_rfl) h.it
 ·cases hn
noncomputable def bO : Inl := ⟨fun g => g == 164, fun _ args s k => QP (gI.cfg tt none false 0) bM cL Tryz.f164 bR args s k⟩
theorem lT : gC Tryz.prog bO := aBn (G1 := (gI.cfg tt none false 0)) (ct := bM) (en := cL) (F := 164) (fn := Tryz.f164) (cd := bR) Tryz.func164 (by kernel_rfl) (by kernel_rfl) lR gI.ok hI0
def cR (x0 x6 x12 x13 : Int) (x19 : List aX) (K0 : (List Int) -> Prop) (s : Int × List Int) (nx : (Int × List Int) -> Prop) : Prop :=
 if (decide (s.1 < x6)) = true then ck ((0 : Int) <= s.1 /\ s.1 < (x19.length : Int)) (ck ((s.2.length + [IntKind.i64.wrap ((IntKind.i64.wrap ((IntKind.i64.wrap (x0 * x12)) * x13)) + ((x19.getD ((s.1).toNat) (0, (0, 0))).1))].length) * 8 <= 140737488355328) (nx (IntKind.i64.wrap (s.1 + 1), s.2 ++ [IntKind.i64.wrap ((IntKind.i64.wrap ((IntKind.i64.wrap (x0 * x12)) * x13)) + ((x19.getD ((s.1).toNat) (0, (0, 0))).1))]))) else K0 s.2
structure fW (x0 x6 x12 x13 : Int) (x19 : List aX) (K0 : (List Int) -> Prop) (s : Int × List Int) : Prop where
 it : Go.Mach.Loop (cR x0 x6 x12 x13 x19 K0) s
def cW (x0 x3 : Int) (x7 : List Int) (x9 x10 x11 x12 x14 : Int) (K0 : (List Int) -> Prop) (s : Int × List Int) (nx : (Int × List Int) -> Prop) : Prop :=
 if (decide (s.1 < x3)) = true then ck (x14 ≠ (0 : Int)) (ck (x14 ≠ (0 : Int)) (uX x9 x10 (IntKind.i64.wrap ((s.1).tdiv x14)) ((s.1).tmod x14) x11 x12 0 (fun (ri6 : List aX) => fW x0 (ri6.length : Int) x9 x10 ri6 (fun (yi7 : List Int) => cO (yi7.length : Int) x7 yi7 (fun (yii2 : Int) => ck ((s.2.length + [yii2].length) * 4 <= 140737488355328) (nx (IntKind.i64.wrap (s.1 + 1), s.2 ++ [yii2]))) (0, 0)) (0, ([] : List Int))))) else K0 s.2
structure fP (x0 x3 : Int) (x7 : List Int) (x9 x10 x11 x12 x14 : Int) (K0 : (List Int) -> Prop) (s : Int × List Int) : Prop where
 it : Go.Mach.Loop (cW x0 x3 x7 x9 x10 x11 x12 x14 K0) s
def cV (x0 : Int) (x4 : List Int) (x6 x7 x8 x9 x10 x11 : Int) (K0 : (List Int) -> Prop) (s : Int × List Int) (nx : (Int × List Int) -> Prop) : Prop :=
 if (decide (s.1 < x0)) = true then fP s.1 (IntKind.i64.wrap (x10 * x11)) x4 x6 x7 x8 x9 x11 (fun (yi6 : List Int) => nx (IntKind.i64.wrap (s.1 + 1), yi6)) (0, s.2) else K0 s.2
structure fV (x0 : Int) (x4 : List Int) (x6 x7 x8 x9 x10 x11 : Int) (K0 : (List Int) -> Prop) (s : Int × List Int) : Prop where
 it : Go.Mach.Loop (cV x0 x4 x6 x7 x8 x9 x10 x11 K0) s
noncomputable def yB : Ent := ⟨[2, 3, 11, 12, 79, 83], [.fn 164 [.lf (.cst (.ptr 0 0)), .lf (.cst (.ptr 1 0))], sC (.ptr 2 0), sI, sI, sC (.ptr 3 0), sC (.ptr 1 0)], [.box [lZ (.int .i64), lI, lZ (.int .i8)] false, .box [.cst (.own 4), lI, .cst (.pl (.slice none 0 0))] false, .box [lI, lI, lI, lI, lI, lI] false, .box [.cst (.pl (.slice none 0 0)), lI, .cst (.pl (.slice none 0 0))] false, .lst true (.int .i64) false], fun x k => fV x.1.2.2.1 x.2.1.2.2.1 x.2.2.2.1.1 x.2.2.2.1.2.1 x.2.2.2.1.2.2.1 x.2.2.2.1.2.2.2.1 x.2.2.2.1.2.2.2.2.1 x.2.2.2.1.2.2.2.2.2.1 (fun (yi8 : List Int) => k (.exit 0) ⟨[(79, .ptr 0 0), (83, .ptr 1 0)], [.box [.pl (.slice none 0 0), vI x.2.2.2.2.1.2.1, .pl (.slice none 0 0)] false, .box [.own 2, vI x.2.2.1.2.1, .own 3] false, .lst true (.int .i64) x.2.2.2.2.2.1 false, .lst true (.int .i32) yi8 false]⟩) (x.1.2.2.2.1, ([] : List Int))⟩
noncomputable def xQ : Ent := ⟨[2, 3, 6, 11, 12, 19, 20, 79, 83], [.fn 164 [.lf (.cst (.ptr 0 0)), .lf (.cst (.ptr 1 0))], sC (.ptr 2 0), sI, sI, sI, sI, sI, sC (.ptr 3 0), sC (.ptr 1 0)], [.box [lZ (.int .i64), lI, lZ (.int .i8)] false, .box [.cst (.own 4), lI, .cst (.own 5)] false, .box [lI, lI, lI, lI, lI, lI] false, .box [.cst (.pl (.slice none 0 0)), lI, .cst (.pl (.slice none 0 0))] false, .lst true (.int .i64) false, .lst true (.int .i32) false], fun x k => fP x.1.2.2.1 x.1.2.2.2.2.2.1 x.2.1.2.2.1 x.2.2.2.1.1 x.2.2.2.1.2.1 x.2.2.2.1.2.2.1 x.2.2.2.1.2.2.2.1 x.2.2.2.1.2.2.2.2.2.1 (fun (yi9 : List Int) => k (.exit 2) ⟨[(2, .fn 164 [.ptr 0 0, .ptr 1 0]), (3, .ptr 2 0), (11, vI x.1.2.2.2.1), (12, vI x.1.2.2.2.2.1), (79, .ptr 3 0), (83, .ptr 1 0)], [.box [vZ (.int .i64) x.2.1.1, vI x.2.1.2.1, vZ (.int .i8) x.2.1.2.2.1] false, .box [.own 4, vI x.2.2.1.2.1, .own 5] false, .box [vI x.2.2.2.1.1, vI x.2.2.2.1.2.1, vI x.2.2.2.1.2.2.1, vI x.2.2.2.1.2.2.2.1, vI x.2.2.2.1.2.2.2.2.1, vI x.2.2.2.1.2.2.2.2.2.1] false, .box [.pl (.slice none 0 0), vI x.2.2.2.2.1.2.1, .pl (.slice none 0 0)] false, .lst true (.int .i64) x.2.2.2.2.2.1 false, .lst true (.int .i32) yi9 false]⟩) (x.1.2.2.2.2.2.2.1, x.2.2.2.2.2.2.1)⟩
noncomputable def xP : Ent := ⟨[2, 3, 6, 7, 8, 11, 12, 19, 20, 39, 40, 41, 79, 83], [.fn 164 [.lf (.cst (.ptr 0 0)), .lf (.cst (.ptr 1 0))], sC (.ptr 2 0), sI, sI, sC (.pl (.slice none 0 0)), sI, sI, sI, sI, sC (.own 3), sI, sI, sC (.ptr 4 0), sC (.ptr 1 0)], [.box [lZ (.int .i64), lI, lZ (.int .i8)] false, .box [.cst (.own 5), lI, .cst (.own 6)] false, .box [lI, lI, lI, lI, lI, lI] false, .lst true bZ false, .box [.cst (.pl (.slice none 0 0)), lI, .cst (.pl (.slice none 0 0))] false, .lst true (.int .i64) false, .lst true (.int .i32) false], fun x k => fW x.1.2.2.1 x.1.2.2.2.2.2.2.2.2.2.2.1 x.2.2.2.1.1 x.2.2.2.1.2.1 x.2.2.2.2.1 (fun (yi10 : List Int) => k (.exit 4) ⟨[(2, .fn 164 [.ptr 0 0, .ptr 1 0]), (3, .ptr 2 0), (6, vI x.1.2.2.1), (7, vI x.1.2.2.2.1), (8, .own 3), (11, vI x.1.2.2.2.2.2.1), (12, vI x.1.2.2.2.2.2.2.1), (19, vI x.1.2.2.2.2.2.2.2.1), (20, vI x.1.2.2.2.2.2.2.2.2.1), (79, .ptr 4 0), (83, .ptr 1 0)], [.box [vZ (.int .i64) x.2.1.1, vI x.2.1.2.1, vZ (.int .i8) x.2.1.2.2.1] false, .box [.own 5, vI x.2.2.1.2.1, .own 6] false, .box [vI x.2.2.2.1.1, vI x.2.2.2.1.2.1, vI x.2.2.2.1.2.2.1, vI x.2.2.2.1.2.2.2.1, vI x.2.2.2.1.2.2.2.2.1, vI x.2.2.2.1.2.2.2.2.2.1] false, .lst true (.int .i64) yi10 false, .box [.pl (.slice none 0 0), vI x.2.2.2.2.2.1.2.1, .pl (.slice none 0 0)] false, .lst true (.int .i64) x.2.2.2.2.2.2.1 false, .lst true (.int .i32) x.2.2.2.2.2.2.2.1 false]⟩) (x.1.2.2.2.2.2.2.2.2.2.2.2.1, ([] : List Int))⟩
noncomputable def dB : Tab := fun n => match n with | 14 => some yB | 3686 => some xQ | 3774874 => some xP | _ => none
noncomputable def dH : Code := (bod Tryz.f107).getD .skip
noncomputable def fQ : Go.Mach.Ends := aN dH [79, 83] [(14, [⟨83, some 2, false, (.int .i32)⟩]), (3686, [⟨83, some 2, false, (.int .i32)⟩]), (3774874, [⟨8, none, false, (.int .i64)⟩])]
theorem wC : aI (gI.cfg tt (some bO) false 0) dB fQ dH := by
 intro n E hn f c hs x k h
 unfold dB at hn
 split at hn
 ·cases hn; exact aG rfl hs (by kernel_rfl) (fun y : Int × List Int => ⟨[(2, .fn 164 [.ptr 0 0, .ptr 1 0]), (3, .ptr 2 0), (11, vI x.1.2.2.1), (12, vI y.1), (79, .ptr 3 0), (83, .ptr 1 0)], [.box [vZ (.int .i64) x.2.1.1, vI x.2.1.2.1, vZ (.int .i8) x.2.1.2.2.1] false, .box [.own 4, vI x.2.2.1.2.1, .own 5] false, .box [vI x.2.2.2.1.1, vI x.2.2.2.1.2.1, vI x.2.2.2.1.2.2.1, vI x.2.2.2.1.2.2.2.1, vI x.2.2.2.1.2.2.2.2.1, vI x.2.2.2.1.2.2.2.2.2.1] false, .box [.pl (.slice none 0 0), vI x.2.2.2.2.1.2.1, .pl (.slice none 0 0)] false, .lst true (.int .i64) x.2.2.2.2.2.1 false, .lst true (.int .i32) y.2 false]⟩) (x.1.2.2.2.1, ([] : List Int)) (by kernel_rfl) (fun y X => by kernel_rfl) h.it
 ·cases hn; exact aG rfl hs (by kernel_rfl) (fun y : Int × List Int => ⟨[(2, .fn 164 [.ptr 0 0, .ptr 1 0]), (3, .ptr 2 0), (6, vI x.1.2.2.1), (11, vI x.1.2.2.2.1), (12, vI x.1.2.2.2.2.1), (19, vI x.1.2.2.2.2.2.1), (20, vI y.1), (79, .ptr 3 0), (83, .ptr 1 0)], [.box [vZ (.int .i64) x.2.1.1, vI x.2.1.2.1, vZ (.int .i8) x.2.1.2.2.1] false, .box [.own 4, vI x.2.2.1.2.1, .own 5] false, .box [vI x.2.2.2.1.1, vI x.2.2.2.1.2.1, vI x.2.2.2.1.2.2.1, vI x.2.2.2.1.2.2.2.1, vI x.2.2.2.1.2.2.2.2.1, vI x.2.2.2.1.2.2.2.2.2.1] false, .box [.pl (.slice none 0 0), vI x.2.2.2.2.1.2.1, .pl (.slice none 0 0)] false, .lst true (.int .i64) x.2.2.2.2.2.1 false, .lst true (.int .i32) y.2 false]⟩) (x.1.2.2.2.2.2.2.1, x.2.2.2.2.2.2.1) (by kernel_rfl) (fun y X => by kernel_rfl) h.it
 ·cases hn; exact aG rfl hs (by kernel_rfl) (fun y : Int × List Int => ⟨[(2, .fn 164 [.ptr 0 0, .ptr 1 0]), (3, .ptr 2 0), (6, vI x.1.2.2.1), (7, vI x.1.2.2.2.1), (8, .own 3), (11, vI x.1.2.2.2.2.2.1), (12, vI x.1.2.2.2.2.2.2.1), (19, vI x.1.2.2.2.2.2.2.2.1), (20, vI x.1.2.2.2.2.2.2.2.2.1), (39, .own 4), (40, vI x.1.2.2.2.2.2.2.2.2.2.2.1), (41, vI y.1), (79, .ptr 5 0), (83, .ptr 1 0)], [.box [vZ (.int .i64) x.2.1.1, vI x.2.1.2.1, vZ (.int .i8) x.2.1.2.2.1] false, .box [.own 6, vI x.2.2.1.2.1, .own 7] false, .box [vI x.2.2.2.1.1, vI x.2.2.2.1.2.1, vI x.2.2.2.1.2.2.1, vI x.2.2.2.1.2.2.2.1, vI x.2.2.2.1.2.2.2.2.1, vI x.2.2.2.1.2.2.2.2.2.1] false, .lst true (.int .i64) y.2 false, .lst true bZ x.2.2.2.2.1 false, .box [.pl (.slice none 0 0), vI x.2.2.2.2.2.1.2.1, .pl (.slice none 0 0)] false, .lst true (.int .i64) x.2.2.2.2.2.2.1 false, .lst true (.int .i32) x.2.2.2.2.2.2.2.1 false]⟩) (x.1.2.2.2.2.2.2.2.2.2.2.2.1, ([] : List Int)) (by kernel_rfl) (fun y X => by kernel_rfl) h.it
 ·cases hn
noncomputable def l6 : Inl := ⟨fun g => g == 107, fun _ args s k => QP (gI.cfg tt (some bO) false 0) dB fQ Tryz.f107 dH args s k⟩
theorem wB : gC Tryz.prog l6 := aBn (G1 := (gI.cfg tt (some bO) false 0)) (ct := dB) (en := fQ) (F := 107) (fn := Tryz.f107) (cd := dH) Tryz.func107 (by kernel_rfl) (by kernel_rfl) wC gI.ok (hI1 lT)
structure aB0 (a0 : aR) (a1 a2 : Int) (Q : (iE × Int) -> Prop) : Prop where
 it : cF a0 (fun (r1 : Bool) => if (!r1) = true then Q ((([] : List Int), (0, ([] : List Int))), 1) else RE a0.1 a1 a2 (fun (r2 : aGj × Bool) => if (!r2.2) = true then Q ((([] : List Int), (0, ([] : List Int))), 2) else ck ((0 : Int) <= 0 /\ 0 < (a0.1.length : Int)) (ck ((0 : Int) <= 1 /\ 1 < (a0.1.length : Int)) (aE7 a1 (fun (r3 : Int) => ck ((0 : Int) <= 0 /\ 0 < (a0.1.length : Int)) (ck ((0 : Int) <= 1 /\ 1 < (a0.1.length : Int)) (fV (IntKind.i64.wrap ((a0.1.getD 0 0) * (a0.1.getD 1 0))) a0.2.2 r2.1.1 r2.1.2.1 r2.1.2.2.1 r2.1.2.2.2.1 r2.1.2.2.2.2.1 r2.1.2.2.2.2.2 (fun (yi7 : List Int) => Q (([a0.1.getD 0 0, a0.1.getD 1 0, r2.1.2.2.2.2.1, r2.1.2.2.2.2.2], ((IntKind.i64.wrap (a0.2.1 - r3)), yi7)), 0)) (0, ([] : List Int)))))))))
noncomputable def aHT : Tab := fun n => none
noncomputable def aBc : Code := (bod Tryz.f99).getD .skip
noncomputable def aIH : Go.Mach.Ends := aN aBc [6, 7] []
theorem aFn : aI (gI.cfg tt (some l6) false 0) aHT aIH aBc := by
 intro n E hn f c hs x k h
 cases hn
def P0 : List Sh := [.agg [lZ (.int .i64), lI, lZ (.int .i8)], sI, sI]
theorem aFa (x : aM P0) (Q : QT) (h : aB0 (x.1.1, (x.1.2.1, x.1.2.2.1)) x.2.1 x.2.2.1 (fun (r : iE × Int) => Q (aC [(true, uE), (false, (.int .i64))] [.n, .n] (r.1, (r.2, ()))))) : aH Tryz.prog 99 (aJ P0 x) Q := gI.told [.n, .n] (rt := [(true, uE), (false, (.int .i64))]) (hI1 wB) aFn Tryz.func99 (by kernel_rfl) (by kernel_rfl) (Nat.le_of_ble_eq_true rfl) h.it (by kernel_rfl)
noncomputable def TX : Tb Tryz.prog := gI.add 99 P0 aFa
end Go.Proofs.YtcfpfefadlnmcaaGreat

namespace Go.Proofs.YtcfpfefadlnmcaaGreat
open Go.Mach
set_option maxRecDepth 100000
set_option linter.unusedVariables false
structure yO (a0 : iE) (Q : Bool -> Prop) : Prop where
 it : lC a0.1 (fun (r1 : Bool) => jn (fun (v2 : Bool) => jn (fun (v5 : Bool) => Q v5) (fun J6 => if v2 = true then CJ a0.2.1 128 (fun (r7 : Bool) => J6 r7) else J6 false)) (fun J3 => if r1 = true then pX a0.1 (fun (r4 : Int) => J3 ((a0.2.2.length : Int) == r4)) else J3 false))
noncomputable def WV : Tab := fun n => none
noncomputable def N2 : Code := (bod Tryz.f101).getD .skip
noncomputable def XP : Go.Mach.Ends := aN N2 [2] []
theorem VI : aI (TX.cfg tt none false 0) WV XP N2 := by
 intro n E hn f c hs x k h
 cases hn
def yI : List Sh := [.agg [lZ (.int .i64), lI, lZ (.int .i32)]]
theorem VN (x : aM yI) (Q : QT) (h : yO (x.1.1, (x.1.2.1, x.1.2.2.1)) (fun (r : Bool) => Q (aC [(false, .bool)] [.n] (r, ())))) : aH Tryz.prog 101 (aJ yI x) Q := TX.told [.n] (rt := [(false, .bool)]) hI0 VI Tryz.func101 (by kernel_rfl) (by kernel_rfl) (Nat.le_of_ble_eq_true rfl) h.it (by kernel_rfl)
noncomputable def AH : Tb Tryz.prog := TX.add 101 yI VN
def lV : ByteArray := ⟨#[0, 1, 2, 2, 3, 3, 3, 3, 4, 4, 4, 4, 4, 4, 4, 4, 5, 5, 5, 5, 5, 5, 5, 5, 5, 5, 5, 5, 5, 5, 5, 5, 6, 6, 6, 6, 6, 6, 6, 6, 6, 6, 6, 6, 6, 6, 6, 6, 6, 6, 6, 6, 6, 6, 6, 6, 6, 6, 6, 6, 6, 6, 6, 6, 7, 7, 7, 7, 7, 7, 7, 7, 7, 7, 7, 7, 7, 7, 7, 7, 7, 7, 7, 7, 7, 7, 7, 7, 7, 7, 7, 7, 7, 7, 7, 7, 7, 7, 7, 7, 7, 7, 7, 7, 7, 7, 7, 7, 7, 7, 7, 7, 7, 7, 7, 7, 7, 7, 7, 7, 7, 7, 7, 7, 7, 7, 7, 7, 8, 8, 8, 8, 8, 8, 8, 8, 8, 8, 8, 8, 8, 8, 8, 8, 8, 8, 8, 8, 8, 8, 8, 8, 8, 8, 8, 8, 8, 8, 8, 8, 8, 8, 8, 8, 8, 8, 8, 8, 8, 8, 8, 8, 8, 8, 8, 8, 8, 8, 8, 8, 8, 8, 8, 8, 8, 8, 8, 8, 8, 8, 8, 8, 8, 8, 8, 8, 8, 8, 8, 8, 8, 8, 8, 8, 8, 8, 8, 8, 8, 8, 8, 8, 8, 8, 8, 8, 8, 8, 8, 8, 8, 8, 8, 8, 8, 8, 8, 8, 8, 8, 8, 8, 8, 8, 8, 8, 8, 8, 8, 8, 8, 8, 8, 8, 8, 8, 8, 8, 8, 8, 8, 8, 8, 8, 8, 8]⟩
structure mW (x0 x1 : Int) (K0 : Int -> Prop) : Prop where
 it : ck ((0 : Int) <= (IntKind.u8.wrap x0) /\ (IntKind.u8.wrap x0) < (lV.size : Int)) (K0 (IntKind.i64.wrap (x1 + (IntKind.i64.wrap ((lV.data.toList.getD (IntKind.u8.wrap x0).toNat 0).toNat : Int)))))
structure l8 (x0 x1 : Int) (K0 : Int -> Prop) : Prop where
 it : if (decide (256 <= x0)) = true then ck ((0 : Int) <= 8) (mW ((x0).fdiv (2 ^ (min ((8 : Int)).toNat (IntKind.u64).bits))) (IntKind.i64.wrap (x1 + 8)) (fun (y1 : Int) => K0 y1)) else mW x0 x1 (fun (y2 : Int) => K0 y2)
structure mB (x0 x1 : Int) (K0 : Int -> Prop) : Prop where
 it : if (decide (65536 <= x0)) = true then ck ((0 : Int) <= 16) (l8 ((x0).fdiv (2 ^ (min ((16 : Int)).toNat (IntKind.u64).bits))) (IntKind.i64.wrap (x1 + 16)) (fun (y1 : Int) => K0 y1)) else l8 x0 x1 (fun (y2 : Int) => K0 y2)
structure z8 (a0 : Int) (Q : Int -> Prop) : Prop where
 it : if (decide (4294967296 <= a0)) = true then ck ((0 : Int) <= 32) (mB ((a0).fdiv (2 ^ (min ((32 : Int)).toNat (IntKind.u64).bits))) 32 (fun (y3 : Int) => Q y3)) else mB a0 0 (fun (y4 : Int) => Q y4)
noncomputable def TP : Ent := ⟨[0, 2], [.lf (.int .u64), sI], [], fun x k => mB x.1.1 x.1.2.1 (fun (y5 : Int) => k .ret ⟨[(2, vI y5)], []⟩)⟩
noncomputable def UP : Ent := ⟨[0, 2], [.lf (.int .u64), sI], [], fun x k => l8 x.1.1 x.1.2.1 (fun (y6 : Int) => k .ret ⟨[(2, vI y6)], []⟩)⟩
noncomputable def T0 : Ent := ⟨[0, 2], [.lf (.int .u64), sI], [], fun x k => mW x.1.1 x.1.2.1 (fun (y7 : Int) => k .ret ⟨[(2, vI y7)], []⟩)⟩
noncomputable def C4 : Tab := fun n => match n with | 7 => some TP | 15 => some UP | 31 => some T0 | _ => none
noncomputable def EF : Code := (bod Tryz.f185).getD .skip
noncomputable def TK : Go.Mach.Ends := aN EF [2] []
theorem R9 : aI (AH.cfg tt none false 0) C4 TK EF := by
 intro n E hn f c hs x k h
 unfold C4 at hn
 split at hn
 ·cases hn; exact bU hs (by kernel_rfl) (by kernel_rfl) h.it
 ·cases hn; exact bU hs (by kernel_rfl) (by kernel_rfl) h.it
 ·cases hn; exact bU hs (by kernel_rfl) (by kernel_rfl) h.it
 ·cases hn
def sW : List Sh := [.lf (.int .u64)]
theorem R8 (x : aM sW) (Q : QT) (h : z8 x.1 (fun (r : Int) => Q (aC [(false, (.int .i64))] [.n] (r, ())))) : aH Tryz.prog 185 (aJ sW x) Q := AH.told [.n] (rt := [(false, (.int .i64))]) hI0 R9 Tryz.func185 (by kernel_rfl) (by kernel_rfl) (Nat.le_of_ble_eq_true rfl) h.it (by kernel_rfl)
noncomputable def vM : Tb Tryz.prog := AH.add 185 sW R8
structure TT (a0 : Int) (Q : Int -> Prop) : Prop where
 it : tY a0 (fun (r1 : Int) => z8 (IntKind.u64.wrap (aD r1 (IntKind.i64.wrap (0 - r1)))) (fun (r2 : Int) => Q r2))
noncomputable def aDx : Tab := fun n => none
noncomputable def VW : Code := (bod Tryz.f165).getD .skip
noncomputable def aDm : Go.Mach.Ends := aN VW [2] []
theorem aBi : aI (vM.cfg tt none false 0) aDx aDm VW := by
 intro n E hn f c hs x k h
 cases hn
def E6 : List Sh := [sI]
theorem aCH (x : aM E6) (Q : QT) (h : TT x.1 (fun (r : Int) => Q (aC [(false, (.int .i64))] [.n] (r, ())))) : aH Tryz.prog 165 (aJ E6 x) Q := vM.told [.n] (rt := [(false, (.int .i64))]) hI0 aBi Tryz.func165 (by kernel_rfl) (by kernel_rfl) (Nat.le_of_ble_eq_true rfl) h.it (by kernel_rfl)
noncomputable def M1 : Tb Tryz.prog := vM.add 165 E6 aCH
def pD (x1 : List Int) (x2 : Int) (K0 : Int -> Prop) (s : Int × Int) (nx : (Int × Int) -> Prop) : Prop :=
 if (decide (s.2 < x2)) = true then ck ((0 : Int) <= s.2 /\ s.2 < (x1.length : Int)) (TT (IntKind.i64.wrap (x1.getD ((s.2).toNat) 0)) (fun (r2 : Int) => nx (aD s.1 r2, IntKind.i64.wrap (s.2 + 1)))) else K0 s.1
structure NK (x1 : List Int) (x2 : Int) (K0 : Int -> Prop) (s : Int × Int) : Prop where
 it : Go.Mach.Loop (pD x1 x2 K0) s
structure NA (a0 : iE) (Q : Int -> Prop) : Prop where
 it : yO a0 (fun (r1 : Bool) => if (!r1) = true then Q 0 else NK a0.2.2 (a0.2.2.length : Int) (fun (y3 : Int) => Q y3) (0, 0))
noncomputable def aAb : Ent := ⟨[3, 10, 11, 12], [sI, sZ (.int .i32), sI, sI], [], fun x k => NK x.1.2.1 x.1.2.2.1 (fun (y4 : Int) => k (.exit 0) ⟨[(3, vI y4)], []⟩) (x.1.1, x.1.2.2.2.1)⟩
noncomputable def NP : Tab := fun n => match n with | 122 => some aAb | _ => none
noncomputable def P1 : Code := (bod Tryz.f102).getD .skip
noncomputable def aAG : Go.Mach.Ends := aN P1 [2] []
theorem XX : aI (M1.cfg tt none false 0) NP aAG P1 := by
 intro n E hn f c hs x k h
 unfold NP at hn
 split at hn
 ·cases hn; exact aG rfl hs (by kernel_rfl) (fun y : Int × Int => ⟨[(3, vI y.1), (10, vZ (.int .i32) x.1.2.1), (11, vI x.1.2.2.1), (12, vI y.2)], []⟩) (x.1.1, x.1.2.2.2.1) (by kernel_rfl) (fun y X => by kernel_rfl) h.it
 ·cases hn
def AE : List Sh := [.agg [lZ (.int .i64), lI, lZ (.int .i32)]]
theorem WZ (x : aM AE) (Q : QT) (h : NA (x.1.1, (x.1.2.1, x.1.2.2.1)) (fun (r : Int) => Q (aC [(false, (.int .i64))] [.n] (r, ())))) : aH Tryz.prog 102 (aJ AE x) Q := M1.told [.n] (rt := [(false, (.int .i64))]) hI0 XX Tryz.func102 (by kernel_rfl) (by kernel_rfl) (Nat.le_of_ble_eq_true rfl) h.it (by kernel_rfl)
noncomputable def CS : Tb Tryz.prog := M1.add 102 AE WZ
structure bF (a0 : List Int) (Q : (List Int) -> Prop) : Prop where
 it : nq a0 (Q ([] : List Int)) (ck ((([] : List Int).length + a0.length) * 8 <= 140737488355328) (Q (([] : List Int) ++ a0)))
noncomputable def JK : Tab := fun n => none
noncomputable def vE : Code := (bod Tryz.f28).getD .skip
noncomputable def HP : Go.Mach.Ends := aN vE [2] []
theorem F6 : aI (CS.cfg tt none false 0) JK HP vE := by
 intro n E hn f c hs x k h
 cases hn
def lD : List Sh := [sZ (.int .i64)]
theorem FD (x : aM lD) (Q : QT) (h : bF x.1 (fun (r : List Int) => Q (aC [(false, (.slc (.int .i64)))] [.n] (r, ())))) : aH Tryz.prog 28 (aJ lD x) Q := CS.told [.n] (rt := [(false, (.slc (.int .i64)))]) hI0 F6 Tryz.func28 (by kernel_rfl) (by kernel_rfl) (Nat.le_of_ble_eq_true rfl) h.it (by kernel_rfl)
noncomputable def mK : Tb Tryz.prog := CS.add 28 lD FD
structure HA (a0 : Int) (Q : Int -> Prop) : Prop where
 it : ck ((0 : Int) <= 30) (ck ((0 : Int) <= 27) (ck ((0 : Int) <= 31) (Q (IntKind.u64.wrap ((BitVec.ofInt (IntKind.u64).bits (IntKind.u64.wrap ((IntKind.u64.wrap ((BitVec.ofInt (IntKind.u64).bits (IntKind.u64.wrap ((IntKind.u64.wrap ((BitVec.ofInt (IntKind.u64).bits (IntKind.u64.wrap (a0 + 11400714819323198485)) ^^^ BitVec.ofInt (IntKind.u64).bits ((IntKind.u64.wrap (a0 + 11400714819323198485)).fdiv (2 ^ (min ((30 : Int)).toNat (IntKind.u64).bits)))).toNat : Nat)) * 13787848793156543929)) ^^^ BitVec.ofInt (IntKind.u64).bits ((IntKind.u64.wrap ((IntKind.u64.wrap ((BitVec.ofInt (IntKind.u64).bits (IntKind.u64.wrap (a0 + 11400714819323198485)) ^^^ BitVec.ofInt (IntKind.u64).bits ((IntKind.u64.wrap (a0 + 11400714819323198485)).fdiv (2 ^ (min ((30 : Int)).toNat (IntKind.u64).bits)))).toNat : Nat)) * 13787848793156543929)).fdiv (2 ^ (min ((27 : Int)).toNat (IntKind.u64).bits)))).toNat : Nat)) * 10723151780598845931)) ^^^ BitVec.ofInt (IntKind.u64).bits ((IntKind.u64.wrap ((IntKind.u64.wrap ((BitVec.ofInt (IntKind.u64).bits (IntKind.u64.wrap ((IntKind.u64.wrap ((BitVec.ofInt (IntKind.u64).bits (IntKind.u64.wrap (a0 + 11400714819323198485)) ^^^ BitVec.ofInt (IntKind.u64).bits ((IntKind.u64.wrap (a0 + 11400714819323198485)).fdiv (2 ^ (min ((30 : Int)).toNat (IntKind.u64).bits)))).toNat : Nat)) * 13787848793156543929)) ^^^ BitVec.ofInt (IntKind.u64).bits ((IntKind.u64.wrap ((IntKind.u64.wrap ((BitVec.ofInt (IntKind.u64).bits (IntKind.u64.wrap (a0 + 11400714819323198485)) ^^^ BitVec.ofInt (IntKind.u64).bits ((IntKind.u64.wrap (a0 + 11400714819323198485)).fdiv (2 ^ (min ((30 : Int)).toNat (IntKind.u64).bits)))).toNat : Nat)) * 13787848793156543929)).fdiv (2 ^ (min ((27 : Int)).toNat (IntKind.u64).bits)))).toNat : Nat)) * 10723151780598845931)).fdiv (2 ^ (min ((31 : Int)).toNat (IntKind.u64).bits)))).toNat : Nat)))))
noncomputable def aIP : Tab := fun n => none
noncomputable def aDE : Code := (bod Tryz.f168).getD .skip
noncomputable def aHf : Go.Mach.Ends := aN aDE [2] []
theorem aF3 : aI (mK.cfg tt none false 0) aIP aHf aDE := by
 intro n E hn f c hs x k h
 cases hn
def PW : List Sh := [.lf (.int .u64)]
theorem aGC (x : aM PW) (Q : QT) (h : HA x.1 (fun (r : Int) => Q (aC [(false, (.int .u64))] [.n] (r, ())))) : aH Tryz.prog 168 (aJ PW x) Q := mK.told [.n] (rt := [(false, (.int .u64))]) hI0 aF3 Tryz.func168 (by kernel_rfl) (by kernel_rfl) (Nat.le_of_ble_eq_true rfl) h.it (by kernel_rfl)
noncomputable def UB : Tb Tryz.prog := mK.add 168 PW aGC
structure aBB (a0 a1 a2 : Int) (Q : Int -> Prop) : Prop where
 it : HA a0 (fun (r1 : Int) => HA (IntKind.u64.wrap ((BitVec.ofInt (IntKind.u64).bits r1 ^^^ BitVec.ofInt (IntKind.u64).bits a1).toNat : Nat)) (fun (r2 : Int) => HA (IntKind.u64.wrap ((BitVec.ofInt (IntKind.u64).bits r2 ^^^ BitVec.ofInt (IntKind.u64).bits a2).toNat : Nat)) (fun (r3 : Int) => Q r3)))
noncomputable def aJP : Tab := fun n => none
noncomputable def aEk : Code := (bod Tryz.f104).getD .skip
noncomputable def aIq : Go.Mach.Ends := aN aEk [6] []
theorem aHw : aI (UB.cfg tt none false 0) aJP aIq aEk := by
 intro n E hn f c hs x k h
 cases hn
def T6 : List Sh := [.lf (.int .u64), .lf (.int .u64), .lf (.int .u64)]
theorem aGl (x : aM T6) (Q : QT) (h : aBB x.1 x.2.1 x.2.2.1 (fun (r : Int) => Q (aC [(false, (.int .u64))] [.n] (r, ())))) : aH Tryz.prog 104 (aJ T6 x) Q := UB.told [.n] (rt := [(false, (.int .u64))]) hI0 aHw Tryz.func104 (by kernel_rfl) (by kernel_rfl) (Nat.le_of_ble_eq_true rfl) h.it (by kernel_rfl)
noncomputable def YD : Tb Tryz.prog := UB.add 104 T6 aGl
structure PG (a0 : Int) (Q : Int -> Prop) : Prop where
 it : gL a0 0 62 (fun (r1 : Int) => Q r1)
noncomputable def aDX : Tab := fun n => none
noncomputable def S4 : Code := (bod Tryz.f166).getD .skip
noncomputable def aCi : Go.Mach.Ends := aN S4 [2] []
theorem aAO : aI (YD.cfg tt none false 0) aDX aCi S4 := by
 intro n E hn f c hs x k h
 cases hn
def B7 : List Sh := [sI]
theorem aAd (x : aM B7) (Q : QT) (h : PG x.1 (fun (r : Int) => Q (aC [(false, (.int .i64))] [.n] (r, ())))) : aH Tryz.prog 166 (aJ B7 x) Q := YD.told [.n] (rt := [(false, (.int .i64))]) hI0 aAO Tryz.func166 (by kernel_rfl) (by kernel_rfl) (Nat.le_of_ble_eq_true rfl) h.it (by kernel_rfl)
noncomputable def E0 : Tb Tryz.prog := YD.add 166 B7 aAd
structure LD (a0 a1 a2 : Int) (Q : Int -> Prop) : Prop where
 it : PG a1 (fun (r1 : Int) => tY a0 (fun (r2 : Int) => ck ((0 : Int) <= r1) (ck ((0 : Int) <= r1) (Q ((IntKind.i64.wrap (r2 + (IntKind.i64.wrap (IntKind.u64.wrap ((BitVec.ofInt (IntKind.u64).bits a2 &&& BitVec.ofInt (IntKind.u64).bits (IntKind.u64.wrap ((IntKind.u64.wrap (1 * 2 ^ (min (r1).toNat (IntKind.u64).bits))) - 1))).toNat : Nat))))).fdiv (2 ^ (min (r1).toNat (IntKind.i64).bits)))))))
noncomputable def aAm : Tab := fun n => none
noncomputable def QK : Code := (bod Tryz.f103).getD .skip
noncomputable def aAR : Go.Mach.Ends := aN QK [6] []
theorem WT : aI (E0.cfg tt none false 0) aAm aAR QK := by
 intro n E hn f c hs x k h
 cases hn
def AD : List Sh := [sI, sI, .lf (.int .u64)]
theorem XU (x : aM AD) (Q : QT) (h : LD x.1 x.2.1 x.2.2.1 (fun (r : Int) => Q (aC [(false, (.int .i64))] [.n] (r, ())))) : aH Tryz.prog 103 (aJ AD x) Q := E0.told [.n] (rt := [(false, (.int .i64))]) hI0 WT Tryz.func103 (by kernel_rfl) (by kernel_rfl) (Nat.le_of_ble_eq_true rfl) h.it (by kernel_rfl)
noncomputable def CK : Tb Tryz.prog := E0.add 103 AD XU
structure PL (a0 a1 : Int) (Q : Int -> Prop) : Prop where
 it : gL a1 1 32 (fun (r1 : Int) => ck ((0 : Int) <= (IntKind.i64.wrap (r1 - 1))) (tY a0 (fun (r2 : Int) => fA r2 (IntKind.i64.wrap (0 - (IntKind.i64.wrap ((IntKind.i64.wrap (1 * 2 ^ (min (IntKind.i64.wrap (r1 - 1)).toNat (IntKind.i64).bits))) - 1)))) (IntKind.i64.wrap ((IntKind.i64.wrap (1 * 2 ^ (min (IntKind.i64.wrap (r1 - 1)).toNat (IntKind.i64).bits))) - 1)) (fun (r3 : Int) => Q r3))))
noncomputable def aDP : Tab := fun n => none
noncomputable def SU : Code := (bod Tryz.f105).getD .skip
noncomputable def aBM : Go.Mach.Ends := aN SU [4] []
theorem aAf : aI (CK.cfg tt none false 0) aDP aBM SU := by
 intro n E hn f c hs x k h
 cases hn
def C9 : List Sh := [sI, sI]
theorem aA2 (x : aM C9) (Q : QT) (h : PL x.1 x.2.1 (fun (r : Int) => Q (aC [(false, (.int .i64))] [.n] (r, ())))) : aH Tryz.prog 105 (aJ C9 x) Q := CK.told [.n] (rt := [(false, (.int .i64))]) hI0 aAf Tryz.func105 (by kernel_rfl) (by kernel_rfl) (Nat.le_of_ble_eq_true rfl) h.it (by kernel_rfl)
noncomputable def FT : Tb Tryz.prog := CK.add 105 C9 aA2
def pH (x0 x1 x2 x3 : Int) (x4 : List Int) (x5 : Int) (K0 : (List Int) -> Prop) (s : Int × List Int) (nx : (Int × List Int) -> Prop) : Prop :=
 if (decide (s.1 < x5)) = true then ck ((0 : Int) <= s.1 /\ s.1 < (x4.length : Int)) (aBB x1 x2 (IntKind.u64.wrap s.1) (fun (r8 : Int) => LD (IntKind.i64.wrap (x4.getD ((s.1).toNat) 0)) x3 r8 (fun (r9 : Int) => PL r9 x0 (fun (r10 : Int) => ck ((s.2.length + [IntKind.i8.wrap r10].length) * 1 <= 140737488355328) (nx (IntKind.i64.wrap (s.1 + 1), s.2 ++ [IntKind.i8.wrap r10])))))) else K0 s.2
structure NG (x0 x1 x2 x3 : Int) (x4 : List Int) (x5 : Int) (K0 : (List Int) -> Prop) (s : Int × List Int) : Prop where
 it : Go.Mach.Loop (pH x0 x1 x2 x3 x4 x5 K0) s
structure JY (a0 : iE) (a1 a2 a3 : Int) (Q : (aR × Int) -> Prop) : Prop where
 it : yO a0 (fun (r1 : Bool) => if (((!r1) || (decide (a1 < 2))) || (decide (8 < a1))) = true then Q ((([] : List Int), (0, ([] : List Int))), 1) else NA a0 (fun (r2 : Int) => bF a0.1 (fun (r3 : List Int) => CJ (IntKind.i64.wrap (a0.2.1 + (aD 0 (IntKind.i64.wrap (r2 - (IntKind.i64.wrap (a1 - 1))))))) 64 (fun (r4 : Bool) => if (!r4) = true then Q ((([] : List Int), (0, ([] : List Int))), 3) else NG a1 a2 a3 (aD 0 (IntKind.i64.wrap (r2 - (IntKind.i64.wrap (a1 - 1))))) a0.2.2 (a0.2.2.length : Int) (fun (y11 : List Int) => Q ((r3, ((IntKind.i64.wrap (a0.2.1 + (aD 0 (IntKind.i64.wrap (r2 - (IntKind.i64.wrap (a1 - 1))))))), y11)), 0)) (0, ([] : List Int))))))
noncomputable def aAC : Ent := ⟨[1, 2, 3, 8, 10, 11, 47, 48, 49], [sI, .lf (.int .u64), .lf (.int .u64), sC (.ptr 0 0), sI, sC (.ptr 1 0), sZ (.int .i32), sI, sI], [.box [.cst (.pl (.slice none 0 0)), lI, .cst (.pl (.slice none 0 0))] false, .box [.cst (.own 2), lI, .cst (.pl (.slice none 0 0))] false, .lst true (.int .i64) false], fun x k => NG x.1.1 x.1.2.1 x.1.2.2.1 x.1.2.2.2.2.1 x.1.2.2.2.2.2.2.1 x.1.2.2.2.2.2.2.2.1 (fun (y12 : List Int) => k (.exit 0) ⟨[(8, .ptr 0 0), (11, .ptr 1 0)], [.box [.pl (.slice none 0 0), vI x.2.1.2.1, .pl (.slice none 0 0)] false, .box [.own 2, vI x.2.2.1.2.1, .own 3] false, .lst true (.int .i64) x.2.2.2.1 false, .lst true (.int .i8) y12 false]⟩) (x.1.2.2.2.2.2.2.2.2.1, ([] : List Int))⟩
noncomputable def N1 : Tab := fun n => match n with | 506 => some aAC | _ => none
noncomputable def QI : Code := (bod Tryz.f59).getD .skip
noncomputable def aAZ : Go.Mach.Ends := aN QI [8, 9] [(506, [⟨11, some 2, false, (.int .i8)⟩])]
theorem XB : aI (FT.cfg tt none false 0) N1 aAZ QI := by
 intro n E hn f c hs x k h
 unfold N1 at hn
 split at hn
 ·cases hn; exact aG rfl hs (by kernel_rfl) (fun y : Int × List Int => ⟨[(1, vI x.1.1), (2, vK .u64 x.1.2.1), (3, vK .u64 x.1.2.2.1), (8, .ptr 0 0), (10, vI x.1.2.2.2.2.1), (11, .ptr 1 0), (47, vZ (.int .i32) x.1.2.2.2.2.2.2.1), (48, vI x.1.2.2.2.2.2.2.2.1), (49, vI y.1)], [.box [.pl (.slice none 0 0), vI x.2.1.2.1, .pl (.slice none 0 0)] false, .box [.own 2, vI x.2.2.1.2.1, .own 3] false, .lst true (.int .i64) x.2.2.2.1 false, .lst true (.int .i8) y.2 false]⟩) (x.1.2.2.2.2.2.2.2.2.1, ([] : List Int)) (by kernel_rfl) (fun y X => by kernel_rfl) h.it
 ·cases hn
def zR : List Sh := [.agg [lZ (.int .i64), lI, lZ (.int .i32)], sI, .lf (.int .u64), .lf (.int .u64)]
theorem YL (x : aM zR) (Q : QT) (h : JY (x.1.1, (x.1.2.1, x.1.2.2.1)) x.2.1 x.2.2.1 x.2.2.2.1 (fun (r : aR × Int) => Q (aC [(true, c9), (false, (.int .i64))] [.n, .n] (r.1, (r.2, ()))))) : aH Tryz.prog 59 (aJ zR x) Q := FT.told [.n, .n] (rt := [(true, c9), (false, (.int .i64))]) hI0 XB Tryz.func59 (by kernel_rfl) (by kernel_rfl) (Nat.le_of_ble_eq_true rfl) h.it (by kernel_rfl)
noncomputable def BZ : Tb Tryz.prog := FT.add 59 zR YL
def fE (x0 x1 : List Int) (x2 : Int) (K0 K1 : Unit -> Prop) (s : Int) (nx : Int -> Prop) : Prop :=
 if (decide (s < x2)) = true then ck ((0 : Int) <= s /\ s < (x0.length : Int)) (ck ((0 : Int) <= s /\ s < (x1.length : Int)) (if ((x0.getD ((s).toNat) 0) != (x1.getD ((s).toNat) 0)) = true then K1 () else nx (IntKind.i64.wrap (s + 1)))) else K0 ()
structure tI (x0 x1 : List Int) (x2 : Int) (K0 K1 : Unit -> Prop) (s : Int) : Prop where
 it : Go.Mach.Loop (fE x0 x1 x2 K0 K1) s
structure gG (a0 a1 : List Int) (Q : Bool -> Prop) : Prop where
 it : if ((a0.length : Int) != (a1.length : Int)) = true then Q false else tI a0 a1 (a0.length : Int) (fun (y1 : Unit) => Q true) (fun (y2 : Unit) => Q false) 0
noncomputable def G5 : Ent := ⟨[0, 1, 12, 13], [sZ (.int .i64), sZ (.int .i64), sI, sI], [], fun x k => tI x.1.1 x.1.2.1 x.1.2.2.1 (fun (y3 : Unit) => k (.exit 0) ⟨[], []⟩) (fun (y4 : Unit) => k .ret ⟨[(4, vB false)], []⟩) x.1.2.2.2.1⟩
noncomputable def t9 : Tab := fun n => match n with | 58 => some G5 | _ => none
noncomputable def uL : Code := (bod Tryz.f57).getD .skip
noncomputable def HV : Go.Mach.Ends := aN uL [4] []
theorem E3 : aI (BZ.cfg tt none false 0) t9 HV uL := by
 intro n E hn f c hs x k h
 unfold t9 at hn
 split at hn
 ·cases hn; exact aG rfl hs (by kernel_rfl) (fun y : Int => ⟨[(0, vZ (.int .i64) x.1.1), (1, vZ (.int .i64) x.1.2.1), (12, vI x.1.2.2.1), (13, vI y)], []⟩) x.1.2.2.2.1 (by kernel_rfl) (fun y X => by kernel_rfl) h.it
 ·cases hn
def lE : List Sh := [sZ (.int .i64), sZ (.int .i64)]
theorem E1 (x : aM lE) (Q : QT) (h : gG x.1 x.2.1 (fun (r : Bool) => Q (aC [(false, .bool)] [.n] (r, ())))) : aH Tryz.prog 57 (aJ lE x) Q := BZ.told [.n] (rt := [(false, .bool)]) hI0 E3 Tryz.func57 (by kernel_rfl) (by kernel_rfl) (Nat.le_of_ble_eq_true rfl) h.it (by kernel_rfl)
noncomputable def nN : Tb Tryz.prog := BZ.add 57 lE E1
structure kH (a0 a1 : List Int) (Q : Bool -> Prop) : Prop where
 it : gG a0 a1 (fun (r1 : Bool) => Q r1)
noncomputable def aDp : Tab := fun n => none
noncomputable def U1 : Code := (bod Tryz.f27).getD .skip
noncomputable def aEB : Go.Mach.Ends := aN U1 [4] []
theorem aB7 : aI (nN.cfg tt none false 0) aDp aEB U1 := by
 intro n E hn f c hs x k h
 cases hn
def FY : List Sh := [sZ (.int .i64), sZ (.int .i64)]
theorem aBx (x : aM FY) (Q : QT) (h : kH x.1 x.2.1 (fun (r : Bool) => Q (aC [(false, .bool)] [.n] (r, ())))) : aH Tryz.prog 27 (aJ FY x) Q := nN.told [.n] (rt := [(false, .bool)]) hI0 aB7 Tryz.func27 (by kernel_rfl) (by kernel_rfl) (Nat.le_of_ble_eq_true rfl) h.it (by kernel_rfl)
noncomputable def L4 : Tb Tryz.prog := nN.add 27 FY aBx
def A6 (x0 x3 : Int) (x4 : List Int) (x6 : Int) (x7 : List Int) (x9 : Int) (K0 : (List Int) -> Prop) (s : Int × List Int) (nx : (Int × List Int) -> Prop) : Prop :=
 if (decide (s.1 < x0)) = true then ck ((0 : Int) <= s.1 /\ s.1 < (x4.length : Int)) (tJ (IntKind.i64.wrap (x4.getD ((s.1).toNat) 0)) x3 x9 (fun (r9 : Int) => ck ((0 : Int) <= s.1 /\ s.1 < (x7.length : Int)) (tJ (IntKind.i64.wrap (x7.getD ((s.1).toNat) 0)) x6 x9 (fun (r10 : Int) => ck ((s.2.length + [IntKind.i32.wrap (IntKind.i64.wrap (r9 + r10))].length) * 4 <= 140737488355328) (nx (IntKind.i64.wrap (s.1 + 1), s.2 ++ [IntKind.i32.wrap (IntKind.i64.wrap (r9 + r10))])))))) else K0 s.2
structure aB3 (x0 x3 : Int) (x4 : List Int) (x6 : Int) (x7 : List Int) (x9 : Int) (K0 : (List Int) -> Prop) (s : Int × List Int) : Prop where
 it : Go.Mach.Loop (A6 x0 x3 x4 x6 x7 x9 K0) s
structure aGM (a0 a1 : aR) (Q : (iE × Int) -> Prop) : Prop where
 it : cF a0 (fun (r1 : Bool) => jn (fun (v2 : Bool) => if v2 = true then Q ((([] : List Int), (0, ([] : List Int))), 1) else kH a0.1 a1.1 (fun (r5 : Bool) => if (!r5) = true then Q ((([] : List Int), (0, ([] : List Int))), 2) else bF a0.1 (fun (r6 : List Int) => aB3 (a0.2.2.length : Int) a0.2.1 a0.2.2 a1.2.1 a1.2.2 (aD (aL a0.2.1 a1.2.1) (IntKind.i64.wrap ((aD a0.2.1 a1.2.1) - 12))) (fun (y11 : List Int) => Q ((r6, ((aD (aL a0.2.1 a1.2.1) (IntKind.i64.wrap ((aD a0.2.1 a1.2.1) - 12))), y11)), 0)) (0, ([] : List Int))))) (fun J3 => if (!r1) = true then J3 true else cF a1 (fun (r4 : Bool) => J3 (!r4))))
noncomputable def aIt : Ent := ⟨[2, 3, 4, 6, 45, 46], [sC (.ptr 0 0), sC (.ptr 1 0), sC (.ptr 2 0), sC (.ptr 3 0), sI, sI], [.box [lZ (.int .i64), lI, lZ (.int .i8)] false, .box [lZ (.int .i64), lI, lZ (.int .i8)] false, .box [.cst (.pl (.slice none 0 0)), lI, .cst (.pl (.slice none 0 0))] false, .box [.cst (.own 4), lI, .cst (.pl (.slice none 0 0))] false, .lst true (.int .i64) false], fun x k => aB3 x.1.2.2.2.2.1 x.2.1.2.1 x.2.1.2.2.1 x.2.2.1.2.1 x.2.2.1.2.2.1 x.2.2.2.2.1.2.1 (fun (y12 : List Int) => k (.exit 1) ⟨[(4, .ptr 0 0), (6, .ptr 1 0)], [.box [.pl (.slice none 0 0), vI x.2.2.2.1.2.1, .pl (.slice none 0 0)] false, .box [.own 2, vI x.2.2.2.2.1.2.1, .own 3] false, .lst true (.int .i64) x.2.2.2.2.2.1 false, .lst true (.int .i32) y12 false]⟩) (x.1.2.2.2.2.2.1, ([] : List Int))⟩
noncomputable def aCx : Tab := fun n => match n with | 122 => some aIt | _ => none
noncomputable def aE6 : Code := (bod Tryz.f100).getD .skip
noncomputable def aI3 : Go.Mach.Ends := aN aE6 [4, 5] [(122, [⟨6, some 2, false, (.int .i32)⟩])]
theorem aH2 : aI (L4.cfg tt none false 0) aCx aI3 aE6 := by
 intro n E hn f c hs x k h
 unfold aCx at hn
 split at hn
 ·cases hn; exact aG rfl hs (by kernel_rfl) (fun y : Int × List Int => ⟨[(2, .ptr 0 0), (3, .ptr 1 0), (4, .ptr 2 0), (6, .ptr 3 0), (45, vI x.1.2.2.2.2.1), (46, vI y.1)], [.box [vZ (.int .i64) x.2.1.1, vI x.2.1.2.1, vZ (.int .i8) x.2.1.2.2.1] false, .box [vZ (.int .i64) x.2.2.1.1, vI x.2.2.1.2.1, vZ (.int .i8) x.2.2.1.2.2.1] false, .box [.pl (.slice none 0 0), vI x.2.2.2.1.2.1, .pl (.slice none 0 0)] false, .box [.own 4, vI x.2.2.2.2.1.2.1, .own 5] false, .lst true (.int .i64) x.2.2.2.2.2.1 false, .lst true (.int .i32) y.2 false]⟩) (x.1.2.2.2.2.2.1, ([] : List Int)) (by kernel_rfl) (fun y X => by kernel_rfl) h.it
 ·cases hn
def UO : List Sh := [.agg [lZ (.int .i64), lI, lZ (.int .i8)], .agg [lZ (.int .i64), lI, lZ (.int .i8)]]
theorem aHd (x : aM UO) (Q : QT) (h : aGM (x.1.1, (x.1.2.1, x.1.2.2.1)) (x.2.1.1, (x.2.1.2.1, x.2.1.2.2.1)) (fun (r : iE × Int) => Q (aC [(true, uE), (false, (.int .i64))] [.n, .n] (r.1, (r.2, ()))))) : aH Tryz.prog 100 (aJ UO x) Q := L4.told [.n, .n] (rt := [(true, uE), (false, (.int .i64))]) hI0 aH2 Tryz.func100 (by kernel_rfl) (by kernel_rfl) (Nat.le_of_ble_eq_true rfl) h.it (by kernel_rfl)
noncomputable def X2 : Tb Tryz.prog := L4.add 100 UO aHd
structure ZY (a0 : Int) (a1 : List Int) (a2 : Int) (a3 : List Int) (Q : Int -> Prop) : Prop where
 it : ck ((0 : Int) <= a0 /\ a0 < (a3.length : Int)) (Q (aD 0 (a3.getD ((a0).toNat) 0)))
noncomputable def aDW : Tab := fun n => none
noncomputable def SD : Code := (bod Tryz.f110).getD .skip
noncomputable def aBR : Go.Mach.Ends := aN SD [3] []
theorem aAE : aI (X2.cfg tt none false 0) aDW aBR SD := by
 intro n E hn f c hs x k h
 cases hn
def BR : List Sh := [sI, .bx [lZ (.int .i64), lI, lZ (.int .i8)]]
theorem aA4 (x : aM BR) (Q : QT) (h : ZY x.1 x.2.1.1 x.2.1.2.1 x.2.1.2.2.1 (fun (r : Int) => Q (aC [(false, (.int .i8))] [.n] (r, ())))) : aH Tryz.prog 110 (aJ BR x) Q := X2.told [.n] (rt := [(false, (.int .i8))]) hI0 aAE Tryz.func110 (by kernel_rfl) (by kernel_rfl) (Nat.le_of_ble_eq_true rfl) h.it (by kernel_rfl)
noncomputable def FN : Tb Tryz.prog := X2.add 110 BR aA4
def d9 (x0 : List Int) (x1 : Int) (x2 : List Int) (x3 : Int) (K0 : (List Int) -> Prop) (s : Int × List Int) (nx : (Int × List Int) -> Prop) : Prop :=
 if (decide (s.1 < x3)) = true then ZY s.1 x0 x1 x2 (fun (r3 : Int) => ck ((s.2.length + [r3].length) * 1 <= 140737488355328) (nx (IntKind.i64.wrap (s.1 + 1), s.2 ++ [r3]))) else K0 s.2
structure q8 (x0 : List Int) (x1 : Int) (x2 : List Int) (x3 : Int) (K0 : (List Int) -> Prop) (s : Int × List Int) : Prop where
 it : Go.Mach.Loop (d9 x0 x1 x2 x3 K0) s
structure uR (a0 : aR) (a1 : List Int) (a2 : Int) (a3 : List Int) (Q : aR -> Prop) : Prop where
 it : bF a0.1 (fun (r1 : List Int) => q8 a1 a2 a3 (a0.2.2.length : Int) (fun (y4 : List Int) => Q (r1, (a0.2.1, y4))) (0, ([] : List Int)))
noncomputable def D6 : Ent := ⟨[1, 4, 5, 15, 16], [.fn 110 [.bx [lZ (.int .i64), lI, lZ (.int .i8)]], sC (.ptr 0 0), sC (.ptr 1 0), sI, sI], [.box [.cst (.pl (.slice none 0 0)), lI, .cst (.pl (.slice none 0 0))] false, .box [.cst (.own 2), lI, .cst (.pl (.slice none 0 0))] false, .lst true (.int .i64) false], fun x k => q8 x.1.1.1.1 x.1.1.1.2.1 x.1.1.1.2.2.1 x.1.2.2.2.1 (fun (y5 : List Int) => k (.exit 0) ⟨[(4, .ptr 0 0), (5, .ptr 1 0)], [.box [.pl (.slice none 0 0), vI x.2.1.2.1, .pl (.slice none 0 0)] false, .box [.own 2, vI x.2.2.1.2.1, .own 3] false, .lst true (.int .i64) x.2.2.2.1 false, .lst true (.int .i8) y5 false]⟩) (x.1.2.2.2.2.1, ([] : List Int))⟩
noncomputable def rF : Tab := fun n => match n with | 58 => some D6 | _ => none
noncomputable def sR : Code := (bod Tryz.f109).getD .skip
noncomputable def DV : Go.Mach.Ends := aN sR [4] [(58, [⟨5, some 2, false, (.int .i8)⟩])]
theorem BS : aI (FN.cfg tt none false 0) rF DV sR := by
 intro n E hn f c hs x k h
 unfold rF at hn
 split at hn
 ·cases hn; exact aG rfl hs (by kernel_rfl) (fun y : Int × List Int => ⟨[(1, .fn 110 [.bx [vZ (.int .i64) x.1.1.1.1, vI x.1.1.1.2.1, vZ (.int .i8) x.1.1.1.2.2.1] 0]), (4, .ptr 0 0), (5, .ptr 1 0), (15, vI x.1.2.2.2.1), (16, vI y.1)], [.box [.pl (.slice none 0 0), vI x.2.1.2.1, .pl (.slice none 0 0)] false, .box [.own 2, vI x.2.2.1.2.1, .own 3] false, .lst true (.int .i64) x.2.2.2.1 false, .lst true (.int .i8) y.2 false]⟩) (x.1.2.2.2.2.1, ([] : List Int)) (by kernel_rfl) (fun y X => by kernel_rfl) h.it
 ·cases hn
def jH : List Sh := [.agg [lZ (.int .i64), lI, lZ (.int .i8)], .fn 110 [.bx [lZ (.int .i64), lI, lZ (.int .i8)]]]
theorem CZ (x : aM jH) (Q : QT) (h : uR (x.1.1, (x.1.2.1, x.1.2.2.1)) x.2.1.1.1 x.2.1.1.2.1 x.2.1.1.2.2.1 (fun (r : aR) => Q (aC [(true, c9)] [.n] (r, ())))) : aH Tryz.prog 109 (aJ jH x) Q := FN.told [.n] (rt := [(true, c9)]) hI0 BS Tryz.func109 (by kernel_rfl) (by kernel_rfl) (Nat.le_of_ble_eq_true rfl) h.it (by kernel_rfl)
noncomputable def kD : Tb Tryz.prog := FN.addF 109 [110] jH CZ
structure XA (a0 : aR) (Q : (aR × Int) -> Prop) : Prop where
 it : cF a0 (fun (r1 : Bool) => if (!r1) = true then Q ((([] : List Int), (0, ([] : List Int))), 1) else uR a0 a0.1 a0.2.1 a0.2.2 (fun (r2 : aR) => Q (r2, 0)))
noncomputable def aG7 : Tab := fun n => none
noncomputable def Y5 : Code := (bod Tryz.f61).getD .skip
noncomputable def aGf : Go.Mach.Ends := aN Y5 [2, 3] []
theorem aD4 : aI (kD.cfg tt none false 0) aG7 aGf Y5 := by
 intro n E hn f c hs x k h
 cases hn
def KB : List Sh := [.agg [lZ (.int .i64), lI, lZ (.int .i8)]]
theorem aDv (x : aM KB) (Q : QT) (h : XA (x.1.1, (x.1.2.1, x.1.2.2.1)) (fun (r : aR × Int) => Q (aC [(true, c9), (false, (.int .i64))] [.n, .n] (r.1, (r.2, ()))))) : aH Tryz.prog 61 (aJ KB x) Q := kD.told [.n, .n] (rt := [(true, c9), (false, (.int .i64))]) hI0 aD4 Tryz.func61 (by kernel_rfl) (by kernel_rfl) (Nat.le_of_ble_eq_true rfl) h.it (by kernel_rfl)
noncomputable def QD : Tb Tryz.prog := kD.add 61 KB aDv
structure g0 (a0 : List Int) (Q : (List Int) -> Prop) : Prop where
 it : nq a0 (Q ([] : List Int)) (ck ((([] : List Int).length + a0.length) * 1 <= 140737488355328) (Q (([] : List Int) ++ a0)))
noncomputable def D3 : Tab := fun n => none
noncomputable def sE : Code := (bod Tryz.f29).getD .skip
noncomputable def DS : Go.Mach.Ends := aN sE [2] []
theorem DF : aI (QD.cfg tt none false 0) D3 DS sE := by
 intro n E hn f c hs x k h
 cases hn
def jK : List Sh := [sZ (.int .i8)]
theorem CO (x : aM jK) (Q : QT) (h : g0 x.1 (fun (r : List Int) => Q (aC [(false, (.slc (.int .i8)))] [.n] (r, ())))) : aH Tryz.prog 29 (aJ jK x) Q := QD.told [.n] (rt := [(false, (.slc (.int .i8)))]) hI0 DF Tryz.func29 (by kernel_rfl) (by kernel_rfl) (Nat.le_of_ble_eq_true rfl) h.it (by kernel_rfl)
noncomputable def j3 : Tb Tryz.prog := QD.add 29 jK CO
structure TE (a0 : aR) (a1 : List Int) (Q : (aR × Int) -> Prop) : Prop where
 it : cF a0 (fun (r1 : Bool) => jn (fun (v2 : Bool) => if v2 = true then Q ((([] : List Int), (0, ([] : List Int))), 1) else pX a1 (fun (r5 : Int) => if (r5 != (a0.2.2.length : Int)) = true then Q ((([] : List Int), (0, ([] : List Int))), 2) else bF a1 (fun (r6 : List Int) => g0 a0.2.2 (fun (r7 : List Int) => Q ((r6, (a0.2.1, r7)), 0))))) (fun J3 => if (!r1) = true then J3 true else lC a1 (fun (r4 : Bool) => J3 (!r4))))
noncomputable def aDu : Tab := fun n => none
noncomputable def VR : Code := (bod Tryz.f111).getD .skip
noncomputable def aDc : Go.Mach.Ends := aN VR [4, 5] []
theorem aCh : aI (j3.cfg tt none false 0) aDu aDc VR := by
 intro n E hn f c hs x k h
 cases hn
def FL : List Sh := [.agg [lZ (.int .i64), lI, lZ (.int .i8)], sZ (.int .i64)]
theorem aBQ (x : aM FL) (Q : QT) (h : TE (x.1.1, (x.1.2.1, x.1.2.2.1)) x.2.1 (fun (r : aR × Int) => Q (aC [(true, c9), (false, (.int .i64))] [.n, .n] (r.1, (r.2, ()))))) : aH Tryz.prog 111 (aJ FL x) Q := j3.told [.n, .n] (rt := [(true, c9), (false, (.int .i64))]) hI0 aCh Tryz.func111 (by kernel_rfl) (by kernel_rfl) (Nat.le_of_ble_eq_true rfl) h.it (by kernel_rfl)
noncomputable def LM : Tb Tryz.prog := j3.add 111 FL aBQ
structure YA (a0 : aR) (Q : (aR × Int) -> Prop) : Prop where
 it : cF a0 (fun (r1 : Bool) => if (!r1) = true then Q ((([] : List Int), (0, ([] : List Int))), 1) else ck ((0 : Int) <= 0 /\ 0 < (a0.1.length : Int)) (pX a0.1 (fun (r2 : Int) => ck ((0 : Int) <= 0 /\ 0 < (a0.1.length : Int)) (ck ((a0.1.getD 0 0) ≠ (0 : Int)) (TE a0 [a0.1.getD 0 0, IntKind.i64.wrap ((r2).tdiv (a0.1.getD 0 0))] (fun (r3 : aR × Int) => Q (r3.1, r3.2)))))))
noncomputable def aG5 : Tab := fun n => none
noncomputable def ZL : Code := (bod Tryz.f62).getD .skip
noncomputable def aFc : Go.Mach.Ends := aN ZL [2, 3] []
theorem aDw : aI (LM.cfg tt none false 0) aG5 aFc ZL := by
 intro n E hn f c hs x k h
 cases hn
def KP : List Sh := [.agg [lZ (.int .i64), lI, lZ (.int .i8)]]
theorem aEM (x : aM KP) (Q : QT) (h : YA (x.1.1, (x.1.2.1, x.1.2.2.1)) (fun (r : aR × Int) => Q (aC [(true, c9), (false, (.int .i64))] [.n, .n] (r.1, (r.2, ()))))) : aH Tryz.prog 62 (aJ KP x) Q := LM.told [.n, .n] (rt := [(true, c9), (false, (.int .i64))]) hI0 aDw Tryz.func62 (by kernel_rfl) (by kernel_rfl) (Nat.le_of_ble_eq_true rfl) h.it (by kernel_rfl)
noncomputable def PK : Tb Tryz.prog := LM.add 62 KP aEM
end Go.Proofs.YtcfpfefadlnmcaaGreat

namespace Go.Proofs.YtcfpfefadlnmcaaGreat
open Go.Mach
set_option maxRecDepth 100000
set_option linter.unusedVariables false
structure nR (a0 a1 a2 : Int) (Q : Bool -> Prop) : Prop where
 it : Q ((decide (a1 <= a0)) && (decide (a0 <= a2)))
noncomputable def aHD : Tab := fun n => none
noncomputable def aCA : Code := (bod Tryz.f152).getD .skip
noncomputable def aH4 : Go.Mach.Ends := aN aCA [6] []
theorem aF6 : aI (PK.cfg tt none false 0) aHD aH4 aCA := by
 intro n E hn f c hs x k h
 cases hn
def RB : List Sh := [sI, sI, sI]
theorem aFo (x : aM RB) (Q : QT) (h : nR x.1 x.2.1 x.2.2.1 (fun (r : Bool) => Q (aC [(false, .bool)] [.n] (r, ())))) : aH Tryz.prog 152 (aJ RB x) Q := PK.told [.n] (rt := [(false, .bool)]) hI0 aF6 Tryz.func152 (by kernel_rfl) (by kernel_rfl) (Nat.le_of_ble_eq_true rfl) h.it (by kernel_rfl)
noncomputable def S7 : Tb Tryz.prog := PK.add 152 RB aFo
structure LW (a0 : aX) (Q : Bool -> Prop) : Prop where
 it : nR a0.1 1 8 (fun (r1 : Bool) => jn (fun (v2 : Bool) => jn (fun (v5 : Bool) => Q v5) (fun J6 => if v2 = true then nR a0.2.2 1 16 (fun (r7 : Bool) => J6 r7) else J6 false)) (fun J3 => if r1 = true then nR a0.2.1 1 16 (fun (r4 : Bool) => J3 r4) else J3 false))
noncomputable def aAp : Tab := fun n => none
noncomputable def PO : Code := (bod Tryz.f151).getD .skip
noncomputable def aAK : Go.Mach.Ends := aN PO [2] []
theorem YP : aI (S7.cfg tt none false 0) aAp aAK PO := by
 intro n E hn f c hs x k h
 cases hn
def zU : List Sh := [.agg [lI, lI, lI]]
theorem XG (x : aM zU) (Q : QT) (h : LW (x.1.1, (x.1.2.1, x.1.2.2.1)) (fun (r : Bool) => Q (aC [(false, .bool)] [.n] (r, ())))) : aH Tryz.prog 151 (aJ zU x) Q := S7.told [.n] (rt := [(false, .bool)]) hI0 YP Tryz.func151 (by kernel_rfl) (by kernel_rfl) (Nat.le_of_ble_eq_true rfl) h.it (by kernel_rfl)
noncomputable def B4 : Tb Tryz.prog := S7.add 151 zU XG
structure BF (a0 : zM) (Q : Bool -> Prop) : Prop where
 it : nR a0.2.2.1 1 5 (fun (r1 : Bool) => jn (fun (v2 : Bool) => Q v2) (fun J3 => if r1 = true then nR a0.2.2.2.1 1 4 (fun (r4 : Bool) => J3 r4) else J3 false))
noncomputable def aAW : Tab := fun n => none
noncomputable def P7 : Code := (bod Tryz.f183).getD .skip
noncomputable def aAn : Go.Mach.Ends := aN P7 [2] []
theorem XT : aI (B4.cfg tt none false 0) aAW aAn P7 := by
 intro n E hn f c hs x k h
 cases hn
def AG : List Sh := [.agg [lI, lI, lI, lI, lI, lI, lB]]
theorem W8 (x : aM AG) (Q : QT) (h : BF (x.1.1, (x.1.2.1, (x.1.2.2.1, (x.1.2.2.2.1, (x.1.2.2.2.2.1, (x.1.2.2.2.2.2.1, x.1.2.2.2.2.2.2.1)))))) (fun (r : Bool) => Q (aC [(false, .bool)] [.n] (r, ())))) : aH Tryz.prog 183 (aJ AG x) Q := B4.told [.n] (rt := [(false, .bool)]) hI0 XT Tryz.func183 (by kernel_rfl) (by kernel_rfl) (Nat.le_of_ble_eq_true rfl) h.it (by kernel_rfl)
noncomputable def B5 : Tb Tryz.prog := B4.add 183 AG W8
structure qU  (K0 : Unit -> Prop) : Prop where
 it : K0 ()
structure LO (x0 : Int) (x1 : Bool) (x2 : Int) (x3 : Bool) (x9 x16 : Int) (K0 : (Bool × Int) -> Prop) : Prop where
 it : if x3 = true then K0 (x1, x16) else if (x2 == 7) = true then nR x9 0 (IntKind.i64.wrap (x0 - 1)) (fun (r12 : Bool) => K0 (r12, x9)) else K0 (false, x16)
structure MH (x0 : Int) (x1 : Bool) (x2 : Int) (x3 : Bool) (x4 x5 x6 x7 x8 x9 : Int) (x10 : Bool) (x13 x14 x16 : Int) (K0 : (Bool × Int × Int × Int) -> Prop) : Prop where
 it : if x3 = true then BF (x4, (x5, (x6, (x7, (x8, (x9, x10)))))) (fun (r11 : Bool) => K0 (r11, x6, x7, x16)) else if (x2 == 5) = true then LO x0 x1 x2 (x2 == 5) x9 x16 (fun (y12 : Bool × Int) => K0 (y12.1, x13, x14, y12.2)) else LO x0 x1 x2 (x2 == 6) x9 x16 (fun (y13 : Bool × Int) => K0 (y13.1, x13, x14, y13.2))
structure YR (a0 : zM) (a1 : Int) (Q : Bool -> Prop) : Prop where
 it : if (a0.1 == 1) = true then nR a0.2.1 1 4096 (fun (r1 : Bool) => qU (fun (y2 : Unit) => Q (r1 && ((a0.1 == a0.1) && ((a0.2.1 == a0.2.1) && ((a0.2.2.1 == 0) && ((a0.2.2.2.1 == 0) && ((a0.2.2.2.2.1 == 0) && ((a0.2.2.2.2.2.1 == 0) && ((a0.2.2.2.2.2.2 == a0.2.2.2.2.2.2) && (true))))))))))) else if (a0.1 == 2) = true then nR a0.2.1 1 8 (fun (r3 : Bool) => jn (fun (v4 : Bool) => jn (fun (v7 : Bool) => qU (fun (y10 : Unit) => Q (v7 && ((a0.1 == a0.1) && ((a0.2.1 == a0.2.1) && ((a0.2.2.1 == a0.2.2.1) && ((a0.2.2.2.1 == a0.2.2.2.1) && ((a0.2.2.2.2.1 == a0.2.2.2.2.1) && ((a0.2.2.2.2.2.1 == 0) && ((a0.2.2.2.2.2.2 == a0.2.2.2.2.2.2) && (true))))))))))) (fun J8 => if v4 = true then nR a0.2.2.2.2.1 0 (IntKind.i64.wrap (a0.2.2.1 - 1)) (fun (r9 : Bool) => J8 r9) else J8 false)) (fun J5 => if r3 = true then BF a0 (fun (r6 : Bool) => J5 r6) else J5 false)) else if (a0.1 == 3) = true then MH a1 true a0.1 (a0.1 == 3) a0.1 a0.2.1 a0.2.2.1 a0.2.2.2.1 a0.2.2.2.2.1 a0.2.2.2.2.2.1 a0.2.2.2.2.2.2 0 0 0 (fun (y14 : Bool × Int × Int × Int) => qU (fun (y15 : Unit) => Q (y14.1 && ((a0.1 == a0.1) && ((a0.2.1 == 0) && ((a0.2.2.1 == y14.2.1) && ((a0.2.2.2.1 == y14.2.2.1) && ((a0.2.2.2.2.1 == 0) && ((a0.2.2.2.2.2.1 == y14.2.2.2) && ((a0.2.2.2.2.2.2 == false) && (true))))))))))) else MH a1 true a0.1 (a0.1 == 4) a0.1 a0.2.1 a0.2.2.1 a0.2.2.2.1 a0.2.2.2.2.1 a0.2.2.2.2.2.1 a0.2.2.2.2.2.2 0 0 0 (fun (y16 : Bool × Int × Int × Int) => qU (fun (y17 : Unit) => Q (y16.1 && ((a0.1 == a0.1) && ((a0.2.1 == 0) && ((a0.2.2.1 == y16.2.1) && ((a0.2.2.2.1 == y16.2.2.1) && ((a0.2.2.2.2.1 == 0) && ((a0.2.2.2.2.2.1 == y16.2.2.2) && ((a0.2.2.2.2.2.2 == false) && (true)))))))))))
noncomputable def aFk : Ent := ⟨[2, 5, 6], [sC (.ptr 0 0), sC (.ptr 1 0), sB], [.box [lI, lI, lI, lI, lI, lI, lB] false, .box [lI, lI, lI, lI, lI, lI, lB] false], fun x k => qU (fun (y18 : Unit) => k .ret ⟨[(4, vB (x.1.2.2.1 && ((x.2.1.1 == x.2.2.1.1) && ((x.2.1.2.1 == x.2.2.1.2.1) && ((x.2.1.2.2.1 == x.2.2.1.2.2.1) && ((x.2.1.2.2.2.1 == x.2.2.1.2.2.2.1) && ((x.2.1.2.2.2.2.1 == x.2.2.1.2.2.2.2.1) && ((x.2.1.2.2.2.2.2.1 == x.2.2.1.2.2.2.2.2.1) && ((x.2.1.2.2.2.2.2.2.1 == x.2.2.1.2.2.2.2.2.2.1) && (true))))))))))], []⟩)⟩
noncomputable def aG9 : Ent := ⟨[1, 2, 5, 6, 11, 42], [sI, sC (.ptr 0 0), sC (.ptr 1 0), sB, sI, sB], [.box [lI, lI, lI, lI, lI, lI, lB] false, .box [lI, lI, lI, lI, lI, lI, lB] false], fun x k => MH x.1.1 x.1.2.2.2.1 x.1.2.2.2.2.1 x.1.2.2.2.2.2.1 x.2.1.1 x.2.1.2.1 x.2.1.2.2.1 x.2.1.2.2.2.1 x.2.1.2.2.2.2.1 x.2.1.2.2.2.2.2.1 x.2.1.2.2.2.2.2.2.1 x.2.2.1.2.2.1 x.2.2.1.2.2.2.1 x.2.2.1.2.2.2.2.2.1 (fun (y19 : Bool × Int × Int × Int) => k .normal ⟨[(2, .ptr 0 0), (5, .ptr 1 0), (6, vB y19.1)], [.box [vI x.2.1.1, vI x.2.1.2.1, vI x.2.1.2.2.1, vI x.2.1.2.2.2.1, vI x.2.1.2.2.2.2.1, vI x.2.1.2.2.2.2.2.1, vB x.2.1.2.2.2.2.2.2.1] false, .box [vI x.2.2.1.1, vI x.2.2.1.2.1, vI y19.2.1, vI y19.2.2.1, vI x.2.2.1.2.2.2.2.1, vI y19.2.2.2, vB x.2.2.1.2.2.2.2.2.2.1] false]⟩)⟩
noncomputable def aF9 : Ent := ⟨[1, 2, 5, 6, 11, 53], [sI, sC (.ptr 0 0), sC (.ptr 1 0), sB, sI, sB], [.box [lI, lI, lI, lI, lI, lI, lB] false, .box [lI, lI, lI, lI, lI, lI, lB] false], fun x k => LO x.1.1 x.1.2.2.2.1 x.1.2.2.2.2.1 x.1.2.2.2.2.2.1 x.2.1.2.2.2.2.2.1 x.2.2.1.2.2.2.2.2.1 (fun (y20 : Bool × Int) => k .normal ⟨[(2, .ptr 0 0), (5, .ptr 1 0), (6, vB y20.1)], [.box [vI x.2.1.1, vI x.2.1.2.1, vI x.2.1.2.2.1, vI x.2.1.2.2.2.1, vI x.2.1.2.2.2.2.1, vI x.2.1.2.2.2.2.2.1, vB x.2.1.2.2.2.2.2.2.1] false, .box [vI x.2.2.1.1, vI x.2.2.1.2.1, vI x.2.2.1.2.2.1, vI x.2.2.1.2.2.2.1, vI x.2.2.1.2.2.2.2.1, vI y20.2, vB x.2.2.1.2.2.2.2.2.2.1] false]⟩)⟩
noncomputable def WQ : Tab := fun n => match n with | 31 => some aFk | 3935 => some aG9 | 15743 => some aF9 | _ => none
noncomputable def Z6 : Code := (bod Tryz.f153).getD .skip
noncomputable def aGG : Go.Mach.Ends := aN Z6 [4] []
theorem aDn : aI (B5.cfg tt none false 0) WQ aGG Z6 := by
 intro n E hn f c hs x k h
 unfold WQ at hn
 split at hn
 ·cases hn; exact bU hs (by kernel_rfl) (by kernel_rfl) h.it
 ·cases hn; exact bU hs (by kernel_rfl) (by kernel_rfl) h.it
 ·cases hn; exact bU hs (by kernel_rfl) (by kernel_rfl) h.it
 ·cases hn
def MV : List Sh := [.agg [lI, lI, lI, lI, lI, lI, lB], sI]
theorem aDy (x : aM MV) (Q : QT) (h : YR (x.1.1, (x.1.2.1, (x.1.2.2.1, (x.1.2.2.2.1, (x.1.2.2.2.2.1, (x.1.2.2.2.2.2.1, x.1.2.2.2.2.2.2.1)))))) x.2.1 (fun (r : Bool) => Q (aC [(false, .bool)] [.n] (r, ())))) : aH Tryz.prog 153 (aJ MV x) Q := B5.told [.n] (rt := [(false, .bool)]) hI0 aDn Tryz.func153 (by kernel_rfl) (by kernel_rfl) (Nat.le_of_ble_eq_true rfl) h.it (by kernel_rfl)
noncomputable def QX : Tb Tryz.prog := B5.add 153 MV aDy
def vH (x0 : List zM) (x1 : Int) (K0 K1 : Unit -> Prop) (s : Int) (nx : Int -> Prop) : Prop :=
 if (decide (s < x1)) = true then ck ((0 : Int) <= s /\ s < (x0.length : Int)) (YR (x0.getD ((s).toNat) (0, (0, (0, (0, (0, (0, false))))))) s (fun (r5 : Bool) => if (!r5) = true then K1 () else nx (IntKind.i64.wrap (s + 1)))) else K0 ()
structure UZ (x0 : List zM) (x1 : Int) (K0 K1 : Unit -> Prop) (s : Int) : Prop where
 it : Go.Mach.Loop (vH x0 x1 K0 K1) s
structure WU (a0 : VC) (Q : Bool -> Prop) : Prop where
 it : LW a0.1 (fun (r1 : Bool) => jn (fun (v2 : Bool) => if v2 = true then Q false else UZ a0.2 (a0.2.length : Int) (fun (y6 : Unit) => Q true) (fun (y7 : Unit) => Q false) 0) (fun J3 => if (!r1) = true then J3 true else nR (a0.2.length : Int) 1 12 (fun (r4 : Bool) => J3 (!r4))))
noncomputable def aFb : Ent := ⟨[17, 18, 19], [sZ mF, sI, sI], [], fun x k => UZ x.1.1 x.1.2.1 (fun (y8 : Unit) => k (.exit 0) ⟨[], []⟩) (fun (y9 : Unit) => k .ret ⟨[(2, vB false)], []⟩) x.1.2.2.1⟩
noncomputable def V7 : Tab := fun n => match n with | 58 => some aFb | _ => none
noncomputable def ZM : Code := (bod Tryz.f91).getD .skip
noncomputable def aGc : Go.Mach.Ends := aN ZM [2] []
theorem aDl : aI (QX.cfg tt none false 0) V7 aGc ZM := by
 intro n E hn f c hs x k h
 unfold V7 at hn
 split at hn
 ·cases hn; exact aG rfl hs (by kernel_rfl) (fun y : Int => ⟨[(17, vZ mF x.1.1), (18, vI x.1.2.1), (19, vI y)], []⟩) x.1.2.2.1 (by kernel_rfl) (fun y X => by kernel_rfl) h.it
 ·cases hn
def JM : List Sh := [.agg [lI, lI, lI, lZ mF]]
theorem aDq (x : aM JM) (Q : QT) (h : WU ((x.1.1, (x.1.2.1, x.1.2.2.1)), x.1.2.2.2.1) (fun (r : Bool) => Q (aC [(false, .bool)] [.n] (r, ())))) : aH Tryz.prog 91 (aJ JM x) Q := QX.told [.n] (rt := [(false, .bool)]) hI0 aDl Tryz.func91 (by kernel_rfl) (by kernel_rfl) (Nat.le_of_ble_eq_true rfl) h.it (by kernel_rfl)
noncomputable def Q4 : Tb Tryz.prog := QX.add 91 JM aDq
def mD (x1 : List Int) (x2 : Int) (K0 : Int -> Prop) (s : Int × Int) (nx : (Int × Int) -> Prop) : Prop :=
 if (decide (s.2 < x2)) = true then ck ((0 : Int) <= s.2 /\ s.2 < (x1.length : Int)) (nx (IntKind.i64.wrap (s.1 * (x1.getD ((s.2).toNat) 0)), IntKind.i64.wrap (s.2 + 1))) else K0 s.1
structure HK (x1 : List Int) (x2 : Int) (K0 : Int -> Prop) (s : Int × Int) : Prop where
 it : Go.Mach.Loop (mD x1 x2 K0) s
structure nV (a0 : List Int) (Q : Int -> Prop) : Prop where
 it : HK a0 (a0.length : Int) (fun (y1 : Int) => Q y1) (1, 0)
noncomputable def X4 : Ent := ⟨[3, 6, 7, 8], [sI, sZ (.int .i64), sI, sI], [], fun x k => HK x.1.2.1 x.1.2.2.1 (fun (y2 : Int) => k (.exit 0) ⟨[(3, vI y2)], []⟩) (x.1.1, x.1.2.2.2.1)⟩
noncomputable def IV : Tab := fun n => match n with | 58 => some X4 | _ => none
noncomputable def NI : Code := (bod Tryz.f92).getD .skip
noncomputable def XC : Go.Mach.Ends := aN NI [2] []
theorem VT : aI (Q4.cfg tt none false 0) IV XC NI := by
 intro n E hn f c hs x k h
 unfold IV at hn
 split at hn
 ·cases hn; exact aG rfl hs (by kernel_rfl) (fun y : Int × Int => ⟨[(3, vI y.1), (6, vZ (.int .i64) x.1.2.1), (7, vI x.1.2.2.1), (8, vI y.2)], []⟩) (x.1.1, x.1.2.2.2.1) (by kernel_rfl) (fun y X => by kernel_rfl) h.it
 ·cases hn
def xV : List Sh := [sZ (.int .i64)]
theorem U2 (x : aM xV) (Q : QT) (h : nV x.1 (fun (r : Int) => Q (aC [(false, (.int .i64))] [.n] (r, ())))) : aH Tryz.prog 92 (aJ xV x) Q := Q4.told [.n] (rt := [(false, (.int .i64))]) hI0 VT Tryz.func92 (by kernel_rfl) (by kernel_rfl) (Nat.le_of_ble_eq_true rfl) h.it (by kernel_rfl)
noncomputable def AO : Tb Tryz.prog := Q4.add 92 xV U2
structure qS (a0 : List Int) (a1 : Int) (a2 : zM) (Q : (List Int) -> Prop) : Prop where
 it : if ((a0.length : Int) != 3) = true then Q ([] : List Int) else ck ((0 : Int) <= 1 /\ 1 < (a0.length : Int)) (nU (a0.getD 1 0) a2.2.2.1 a2.2.2.2.1 a2.2.2.2.2.1 (fun (r1 : Int) => ck ((0 : Int) <= 2 /\ 2 < (a0.length : Int)) (nU (a0.getD 2 0) a2.2.2.1 a2.2.2.2.1 a2.2.2.2.2.1 (fun (r2 : Int) => if ((r1 == 0) || (r2 == 0)) = true then Q ([] : List Int) else ck ([a1, r1, r2] ≠ []) (Q [a1, r1, r2])))))
noncomputable def aA5 : Tab := fun n => none
noncomputable def PV : Code := (bod Tryz.f154).getD .skip
noncomputable def aAN : Go.Mach.Ends := aN PV [6] []
theorem X3 : aI (AO.cfg tt none false 0) aA5 aAN PV := by
 intro n E hn f c hs x k h
 cases hn
def zP : List Sh := [sZ (.int .i64), sI, .agg [lI, lI, lI, lI, lI, lI, lB]]
theorem W9 (x : aM zP) (Q : QT) (h : qS x.1 x.2.1 (x.2.2.1.1, (x.2.2.1.2.1, (x.2.2.1.2.2.1, (x.2.2.1.2.2.2.1, (x.2.2.1.2.2.2.2.1, (x.2.2.1.2.2.2.2.2.1, x.2.2.1.2.2.2.2.2.2.1)))))) (fun (r : List Int) => Q (aC [(false, (.slc (.int .i64)))] [.z] (r, ())))) : aH Tryz.prog 154 (aJ zP x) Q := AO.told [.z] (rt := [(false, (.slc (.int .i64)))]) hI0 X3 Tryz.func154 (by kernel_rfl) (by kernel_rfl) (Nat.le_of_ble_eq_true rfl) h.it (by kernel_rfl)
noncomputable def C6 : Tb Tryz.prog := AO.add 154 zP W9
structure QS (a0 : zM) (a1 : List (List Int)) (Q : (List Int) -> Prop) : Prop where
 it : ck ((0 : Int) <= (IntKind.i64.wrap ((a1.length : Int) - 1)) /\ (IntKind.i64.wrap ((a1.length : Int) - 1)) < (a1.length : Int)) (if (a0.1 == 1) = true then if (((a1.getD ((IntKind.i64.wrap ((a1.length : Int) - 1)).toNat) []).length : Int) == 1) = true then ck ([a0.2.1] ≠ []) (Q [a0.2.1]) else Q ([] : List Int) else if (a0.1 == 2) = true then qS (a1.getD ((IntKind.i64.wrap ((a1.length : Int) - 1)).toNat) []) a0.2.1 a0 (fun (r1 : List Int) => nz r1 (Q ([] : List Int)) (ck (r1 ≠ []) (Q r1))) else if (a0.1 == 3) = true then if (a0.1 == 3) = true then ck ((0 : Int) <= 0 /\ 0 < ((a1.getD ((IntKind.i64.wrap ((a1.length : Int) - 1)).toNat) []).length : Int)) (qS (a1.getD ((IntKind.i64.wrap ((a1.length : Int) - 1)).toNat) []) ((a1.getD ((IntKind.i64.wrap ((a1.length : Int) - 1)).toNat) []).getD 0 0) a0 (fun (r2 : List Int) => nz r2 (Q ([] : List Int)) (ck (r2 ≠ []) (Q r2)))) else if (a0.1 == 5) = true then bF (a1.getD ((IntKind.i64.wrap ((a1.length : Int) - 1)).toNat) []) (fun (r3 : List Int) => ck (r3 ≠ []) (Q r3)) else if (a0.1 == 6) = true then nV (a1.getD ((IntKind.i64.wrap ((a1.length : Int) - 1)).toNat) []) (fun (r4 : Int) => ck ([r4] ≠ []) (Q [r4])) else if (a0.1 == 7) = true then ck ((0 : Int) <= a0.2.2.2.2.2.1 /\ a0.2.2.2.2.2.1 < (a1.length : Int)) (gG (a1.getD ((a0.2.2.2.2.2.1).toNat) []) (a1.getD ((IntKind.i64.wrap ((a1.length : Int) - 1)).toNat) []) (fun (r5 : Bool) => if r5 = true then bF (a1.getD ((IntKind.i64.wrap ((a1.length : Int) - 1)).toNat) []) (fun (r6 : List Int) => ck (r6 ≠ []) (Q r6)) else Q ([] : List Int))) else Q ([] : List Int) else if (a0.1 == 4) = true then ck ((0 : Int) <= 0 /\ 0 < ((a1.getD ((IntKind.i64.wrap ((a1.length : Int) - 1)).toNat) []).length : Int)) (qS (a1.getD ((IntKind.i64.wrap ((a1.length : Int) - 1)).toNat) []) ((a1.getD ((IntKind.i64.wrap ((a1.length : Int) - 1)).toNat) []).getD 0 0) a0 (fun (r7 : List Int) => nz r7 (Q ([] : List Int)) (ck (r7 ≠ []) (Q r7)))) else if (a0.1 == 5) = true then bF (a1.getD ((IntKind.i64.wrap ((a1.length : Int) - 1)).toNat) []) (fun (r8 : List Int) => ck (r8 ≠ []) (Q r8)) else if (a0.1 == 6) = true then nV (a1.getD ((IntKind.i64.wrap ((a1.length : Int) - 1)).toNat) []) (fun (r9 : Int) => ck ([r9] ≠ []) (Q [r9])) else if (a0.1 == 7) = true then ck ((0 : Int) <= a0.2.2.2.2.2.1 /\ a0.2.2.2.2.2.1 < (a1.length : Int)) (gG (a1.getD ((a0.2.2.2.2.2.1).toNat) []) (a1.getD ((IntKind.i64.wrap ((a1.length : Int) - 1)).toNat) []) (fun (r10 : Bool) => if r10 = true then bF (a1.getD ((IntKind.i64.wrap ((a1.length : Int) - 1)).toNat) []) (fun (r11 : List Int) => ck (r11 ≠ []) (Q r11)) else Q ([] : List Int))) else Q ([] : List Int))
noncomputable def aBT : Tab := fun n => none
noncomputable def SP : Code := (bod Tryz.f93).getD .skip
noncomputable def aBu : Go.Mach.Ends := aN SP [4] []
theorem aAY : aI (C6.cfg tt none false 0) aBT aBu SP := by
 intro n E hn f c hs x k h
 cases hn
def C7 : List Sh := [.agg [lI, lI, lI, lI, lI, lI, lB], sZ (.slc (.int .i64))]
theorem aAi (x : aM C7) (Q : QT) (h : QS (x.1.1, (x.1.2.1, (x.1.2.2.1, (x.1.2.2.2.1, (x.1.2.2.2.2.1, (x.1.2.2.2.2.2.1, x.1.2.2.2.2.2.2.1)))))) x.2.1 (fun (r : List Int) => Q (aC [(false, (.slc (.int .i64)))] [.z] (r, ())))) : aH Tryz.prog 93 (aJ C7 x) Q := C6.told [.z] (rt := [(false, (.slc (.int .i64)))]) hI0 aAY Tryz.func93 (by kernel_rfl) (by kernel_rfl) (Nat.le_of_ble_eq_true rfl) h.it (by kernel_rfl)
noncomputable def FX : Tb Tryz.prog := C6.add 93 C7 aAi
def pL (x0 : List zM) (x1 : Int) (K0 : (List (List Int)) -> Prop) (K1 : (Int × Int) -> Prop) (s : Int × List (List Int)) (nx : (Int × List (List Int)) -> Prop) : Prop :=
 if (decide (s.1 < x1)) = true then ck ((0 : Int) <= s.1 /\ s.1 < (x0.length : Int)) (QS (x0.getD ((s.1).toNat) (0, (0, (0, (0, (0, (0, false))))))) s.2 (fun (r3 : List Int) => nz r3 (K1 (IntKind.i64.wrap (s.1 + 1), 2)) (nq r3 (K1 (IntKind.i64.wrap (s.1 + 1), 2)) (nV r3 (fun (r4 : Int) => if (decide (8192 < r4)) = true then K1 (IntKind.i64.wrap (s.1 + 1), 1) else ck ((s.2.length + [r3].length) * 24 <= 140737488355328) (nx (IntKind.i64.wrap (s.1 + 1), s.2 ++ [r3]))))))) else K0 s.2
structure NO (x0 : List zM) (x1 : Int) (K0 : (List (List Int)) -> Prop) (K1 : (Int × Int) -> Prop) (s : Int × List (List Int)) : Prop where
 it : Go.Mach.Loop (pL x0 x1 K0 K1) s
structure BE (a0 : VC) (Q : ((List (List Int)) × Int × Int) -> Prop) : Prop where
 it : WU a0 (fun (r1 : Bool) => if (!r1) = true then Q (([] : List (List Int)), 0, 1) else ck ((0 : Int) <= 0 /\ 0 < ([([a0.1.1, a0.1.2.1, a0.1.2.2] : List Int)].length : Int)) (nV ([a0.1.1, a0.1.2.1, a0.1.2.2] : List Int) (fun (r2 : Int) => if (decide (8192 < r2)) = true then Q (([] : List (List Int)), 0, 1) else NO a0.2 (a0.2.length : Int) (fun (y5 : List (List Int)) => Q (y5, 0, 0)) (fun (y6 : Int × Int) => Q (([] : List (List Int)), y6.1, y6.2)) (0, [([a0.1.1, a0.1.2.1, a0.1.2.2] : List Int)]))))
noncomputable def aAS : Ent := ⟨[5, 21, 22, 23], [sC (.own 0), sZ mF, sI, sI], [.lst true (.slc (.int .i64)) false], fun x k => NO x.1.2.1 x.1.2.2.1 (fun (y7 : List (List Int)) => k (.exit 0) ⟨[(5, .own 0)], [.lst true (.slc (.int .i64)) y7 false]⟩) (fun (y8 : Int × Int) => k .ret ⟨[(2, .pl (.slice none 0 0)), (3, vI y8.1), (4, vI y8.2)], []⟩) (x.1.2.2.2.1, x.2.1)⟩
noncomputable def NR : Tab := fun n => match n with | 250 => some aAS | _ => none
noncomputable def QN : Code := (bod Tryz.f48).getD .skip
noncomputable def aA1 : Go.Mach.Ends := aN QN [2, 3, 4] []
theorem WS : aI (FX.cfg tt none false 0) NR aA1 QN := by
 intro n E hn f c hs x k h
 unfold NR at hn
 split at hn
 ·cases hn; exact aG rfl hs (by kernel_rfl) (fun y : Int × List (List Int) => ⟨[(5, .own 0), (21, vZ mF x.1.2.1), (22, vI x.1.2.2.1), (23, vI y.1)], [.lst true (.slc (.int .i64)) y.2 false]⟩) (x.1.2.2.2.1, x.2.1) (by kernel_rfl) (fun y X => by kernel_rfl) h.it
 ·cases hn
def zO : List Sh := [.agg [lI, lI, lI, lZ mF]]
theorem W7 (x : aM zO) (Q : QT) (h : BE ((x.1.1, (x.1.2.1, x.1.2.2.1)), x.1.2.2.2.1) (fun (r : (List (List Int)) × Int × Int) => Q (aC [(false, (.slc (.slc (.int .i64)))), (false, (.int .i64)), (false, (.int .i64))] [.n, .n, .n] (r.1, (r.2.1, (r.2.2, ())))))) : aH Tryz.prog 48 (aJ zO x) Q := FX.told [.n, .n, .n] (rt := [(false, (.slc (.slc (.int .i64)))), (false, (.int .i64)), (false, (.int .i64))]) hI0 WS Tryz.func48 (by kernel_rfl) (by kernel_rfl) (Nat.le_of_ble_eq_true rfl) h.it (by kernel_rfl)
noncomputable def CX : Tb Tryz.prog := FX.add 48 zO W7
structure W4 (a0 : zM) (a1 : List Int) (Q : ((List Int) × Int) -> Prop) : Prop where
 it : if (a0.1 == 1) = true then ck ((0 : Int) <= 0 /\ 0 < (a1.length : Int)) (ck ([a0.2.1, a1.getD 0 0] ≠ []) (Q ([a0.2.1, a1.getD 0 0], a0.2.1))) else if (a0.1 == 2) = true then ck ((0 : Int) <= 0 /\ 0 < (a1.length : Int)) (ck ([a0.2.1, a1.getD 0 0, a0.2.2.1, a0.2.2.1] ≠ []) (Q ([a0.2.1, a1.getD 0 0, a0.2.2.1, a0.2.2.1], a0.2.1))) else Q (([] : List Int), 0)
noncomputable def aGJ : Tab := fun n => none
noncomputable def Z2 : Code := (bod Tryz.f94).getD .skip
noncomputable def aGg : Go.Mach.Ends := aN Z2 [4, 5] []
theorem aDo : aI (CX.cfg tt none false 0) aGJ aGg Z2 := by
 intro n E hn f c hs x k h
 cases hn
def M5 : List Sh := [.agg [lI, lI, lI, lI, lI, lI, lB], sZ (.int .i64)]
theorem aD0 (x : aM M5) (Q : QT) (h : W4 (x.1.1, (x.1.2.1, (x.1.2.2.1, (x.1.2.2.2.1, (x.1.2.2.2.2.1, (x.1.2.2.2.2.2.1, x.1.2.2.2.2.2.2.1)))))) x.2.1 (fun (r : (List Int) × Int) => Q (aC [(false, (.slc (.int .i64))), (false, (.int .i64))] [.z, .n] (r.1, (r.2, ()))))) : aH Tryz.prog 94 (aJ M5 x) Q := CX.told [.z, .n] (rt := [(false, (.slc (.int .i64))), (false, (.int .i64))]) hI0 aDo Tryz.func94 (by kernel_rfl) (by kernel_rfl) (Nat.le_of_ble_eq_true rfl) h.it (by kernel_rfl)
noncomputable def QM : Tb Tryz.prog := CX.add 94 M5 aD0
structure QU (a0 : VC) (a1 : Int) (Q : ((List Int) × Int) -> Prop) : Prop where
 it : BE a0 (fun (r1 : (List (List Int)) × Int × Int) => if (((r1.2.2 != 0) || (decide (a1 < 1))) || (decide ((a0.2.length : Int) < a1))) = true then Q (([] : List Int), 0) else ck ((0 : Int) <= (IntKind.i64.wrap (a1 - 1)) /\ (IntKind.i64.wrap (a1 - 1)) < (a0.2.length : Int)) (ck ((0 : Int) <= (IntKind.i64.wrap (a1 - 1)) /\ (IntKind.i64.wrap (a1 - 1)) < (r1.1.length : Int)) (W4 (a0.2.getD ((IntKind.i64.wrap (a1 - 1)).toNat) (0, (0, (0, (0, (0, (0, false))))))) (r1.1.getD ((IntKind.i64.wrap (a1 - 1)).toNat) []) (fun (r2 : (List Int) × Int) => nz r2.1 (lC ([] : List Int) (fun (r3 : Bool) => if (!r3) = true then Q (([] : List Int), 0) else Q (([] : List Int), r2.2))) (lC r2.1 (fun (r4 : Bool) => if (!r4) = true then Q (([] : List Int), 0) else ck (r2.1 ≠ []) (Q (r2.1, r2.2))))))))
noncomputable def aBk : Tab := fun n => none
noncomputable def SR : Code := (bod Tryz.f49).getD .skip
noncomputable def aCS : Go.Mach.Ends := aN SR [4, 5] []
theorem aA3 : aI (QM.cfg tt none false 0) aBk aCS SR := by
 intro n E hn f c hs x k h
 cases hn
def CV : List Sh := [.agg [lI, lI, lI, lZ mF], sI]
theorem aAH (x : aM CV) (Q : QT) (h : QU ((x.1.1, (x.1.2.1, x.1.2.2.1)), x.1.2.2.2.1) x.2.1 (fun (r : (List Int) × Int) => Q (aC [(false, (.slc (.int .i64))), (false, (.int .i64))] [.z, .n] (r.1, (r.2, ()))))) : aH Tryz.prog 49 (aJ CV x) Q := QM.told [.z, .n] (rt := [(false, (.slc (.int .i64))), (false, (.int .i64))]) hI0 aA3 Tryz.func49 (by kernel_rfl) (by kernel_rfl) (Nat.le_of_ble_eq_true rfl) h.it (by kernel_rfl)
noncomputable def F5 : Tb Tryz.prog := QM.add 49 CV aAH
structure pR (a0 : JD) (Q : Bool -> Prop) : Prop where
 it : Q ((((IntKind.i64.wrap ((IntKind.i64.wrap ((IntKind.i64.wrap ((IntKind.i64.wrap ((a0.1.1.length : Int) + (a0.1.2.2.length : Int))) + (a0.2.1.length : Int))) + (a0.2.2.1.length : Int))) + (a0.2.2.2.2.length : Int))) == 0) && (a0.1.2.1 == 0)) && (a0.2.2.2.1 == 0))
noncomputable def aBy : Tab := fun n => none
noncomputable def SG : Code := (bod Tryz.f50).getD .skip
noncomputable def aDB : Go.Mach.Ends := aN SG [2] []
theorem aA0 : aI (F5.cfg tt none false 0) aBy aDB SG := by
 intro n E hn f c hs x k h
 cases hn
def CR : List Sh := [.agg [lZ (.int .i64), lI, lZ (.int .i8), lZ (.int .i32), lZ (.int .i64), lI, lZ (.int .i8)]]
theorem aAr (x : aM CR) (Q : QT) (h : pR ((x.1.1, (x.1.2.1, x.1.2.2.1)), (x.1.2.2.2.1, (x.1.2.2.2.2.1, (x.1.2.2.2.2.2.1, x.1.2.2.2.2.2.2.1)))) (fun (r : Bool) => Q (aC [(false, .bool)] [.n] (r, ())))) : aH Tryz.prog 50 (aJ CR x) Q := F5.told [.n] (rt := [(false, .bool)]) hI0 aA0 Tryz.func50 (by kernel_rfl) (by kernel_rfl) (Nat.le_of_ble_eq_true rfl) h.it (by kernel_rfl)
noncomputable def GD : Tb Tryz.prog := F5.add 50 CR aAr
structure M7 (a0 : Int) (Q : Bool -> Prop) : Prop where
 it : Q ((decide (a0 < (-1048576))) || (decide (1048576 < a0)))
noncomputable def aA8 : Tab := fun n => none
noncomputable def QF : Code := (bod Tryz.f52).getD .skip
noncomputable def aAg : Go.Mach.Ends := aN QF [2] []
theorem YT : aI (GD.cfg tt none false 0) aA8 aAg QF := by
 intro n E hn f c hs x k h
 cases hn
def AM : List Sh := [.lf (.int .i32)]
theorem W0 (x : aM AM) (Q : QT) (h : M7 x.1 (fun (r : Bool) => Q (aC [(false, .bool)] [.n] (r, ())))) : aH Tryz.prog 52 (aJ AM x) Q := GD.told [.n] (rt := [(false, .bool)]) hI0 YT Tryz.func52 (by kernel_rfl) (by kernel_rfl) (Nat.le_of_ble_eq_true rfl) h.it (by kernel_rfl)
noncomputable def CM : Tb Tryz.prog := GD.add 52 AM W0
def bC (x0 : List Int) (x1 : Int) (K0 : Unit -> Prop) (K1 : Int -> Prop) (s : Int) (nx : Int -> Prop) : Prop :=
 if (decide (s < x1)) = true then ck ((0 : Int) <= s /\ s < (x0.length : Int)) (M7 (x0.getD ((s).toNat) 0) (fun (r1 : Bool) => if r1 = true then K1 s else nx (IntKind.i64.wrap (s + 1)))) else K0 ()
structure dQ (x0 : List Int) (x1 : Int) (K0 : Unit -> Prop) (K1 : Int -> Prop) (s : Int) : Prop where
 it : Go.Mach.Loop (bC x0 x1 K0 K1) s
structure eO (a0 : List Int) (Q : Int -> Prop) : Prop where
 it : dQ a0 (a0.length : Int) (fun (y2 : Unit) => Q (-1)) (fun (y3 : Int) => Q y3) 0
noncomputable def kL : Ent := ⟨[0, 1, 7, 8], [sZ (.int .i32), sC (.fn 52 []), sI, sI], [], fun x k => dQ x.1.1 x.1.2.2.1 (fun (y4 : Unit) => k (.exit 0) ⟨[], []⟩) (fun (y5 : Int) => k .ret ⟨[(4, vI y5)], []⟩) x.1.2.2.2.1⟩
noncomputable def dO : Tab := fun n => match n with | 26 => some kL | _ => none
noncomputable def dW : Code := (bod Tryz.f95).getD .skip
noncomputable def kM : Go.Mach.Ends := aN dW [4] []
theorem j8 : aI (CM.cfg tt none false 0) dO kM dW := by
 intro n E hn f c hs x k h
 unfold dO at hn
 split at hn
 ·cases hn; exact aG rfl hs (by kernel_rfl) (fun y : Int => ⟨[(0, vZ (.int .i32) x.1.1), (1, .fn 52 []), (7, vI x.1.2.2.1), (8, vI y)], []⟩) x.1.2.2.2.1 (by kernel_rfl) (fun y X => by kernel_rfl) h.it
 ·cases hn
def b9 : List Sh := [sZ (.int .i32), .fn 52 []]
theorem kG (x : aM b9) (Q : QT) (h : eO x.1 (fun (r : Int) => Q (aC [(false, (.int .i64))] [.n] (r, ())))) : aH Tryz.prog 95 (aJ b9 x) Q := CM.told [.n] (rt := [(false, (.int .i64))]) hI0 j8 Tryz.func95 (by kernel_rfl) (by kernel_rfl) (Nat.le_of_ble_eq_true rfl) h.it (by kernel_rfl)
noncomputable def cC : Tb Tryz.prog := CM.addF 95 [52] b9 kG
structure aP (a0 : List Int) (Q : Bool -> Prop) : Prop where
 it : eO a0 (fun (r1 : Int) => Q (decide (0 <= r1)))
noncomputable def i4 : Tab := fun n => none
noncomputable def dI : Code := (bod Tryz.f51).getD .skip
noncomputable def jC : Go.Mach.Ends := aN dI [4] []
theorem iZ : aI (cC.cfg tt none false 0) i4 jC dI := by
 intro n E hn f c hs x k h
 cases hn
def bY : List Sh := [sZ (.int .i32), .fn 52 []]
theorem i0 (x : aM bY) (Q : QT) (h : aP x.1 (fun (r : Bool) => Q (aC [(false, .bool)] [.n] (r, ())))) : aH Tryz.prog 51 (aJ bY x) Q := cC.told [.n] (rt := [(false, .bool)]) hI0 iZ Tryz.func51 (by kernel_rfl) (by kernel_rfl) (Nat.le_of_ble_eq_true rfl) h.it (by kernel_rfl)
noncomputable def b6 : Tb Tryz.prog := cC.addF 51 [52] bY i0
structure eH (x2 : Int) (K0 : Int -> Prop) : Prop where
 it : K0 (IntKind.i64.wrap (x2 + 1))
def sS (x0 : List JD) (x1 x3 x4 x5 : Int) (x6 : List zM) (K0 K1 : Unit -> Prop) (s : Int) (nx : Int -> Prop) : Prop :=
 if (decide (s < x1)) = true then ck ((0 : Int) <= s /\ s < (x0.length : Int)) (QU ((x3, (x4, x5)), x6) (IntKind.i64.wrap (s + 1)) (fun (r2 : (List Int) × Int) => nz r2.1 (ck ((0 : Int) <= s /\ s < (x6.length : Int)) (pR (x0.getD ((s).toNat) (([], (0, [])), ([], ([], (0, []))))) (fun (r3 : Bool) => if (((!r3) || (((x6.getD ((s).toNat) (0, (0, (0, (0, (0, (0, false))))))).1) == 1)) || (((x6.getD ((s).toNat) (0, (0, (0, (0, (0, (0, false))))))).1) == 2)) = true then K1 () else eH s (fun (y4 : Int) => nx y4)))) (nq r2.1 (ck ((0 : Int) <= s /\ s < (x6.length : Int)) (pR (x0.getD ((s).toNat) (([], (0, [])), ([], ([], (0, []))))) (fun (r5 : Bool) => if (((!r5) || (((x6.getD ((s).toNat) (0, (0, (0, (0, (0, (0, false))))))).1) == 1)) || (((x6.getD ((s).toNat) (0, (0, (0, (0, (0, (0, false))))))).1) == 2)) = true then K1 () else eH s (fun (y6 : Int) => nx y6)))) (cF ((x0.getD ((s).toNat) (([], (0, [])), ([], ([], (0, []))))).1) (fun (r7 : Bool) => jn (fun (v8 : Bool) => jn (fun (v11 : Bool) => jn (fun (v14 : Bool) => jn (fun (v17 : Bool) => if v17 = true then K1 () else eH s (fun (y20 : Int) => nx y20)) (fun J18 => if (v14 || (((((x0.getD ((s).toNat) (([], (0, [])), ([], ([], (0, []))))).2).1).length : Int) != (((((x0.getD ((s).toNat) (([], (0, [])), ([], ([], (0, []))))).1).2).2).length : Int))) = true then J18 true else aP (((x0.getD ((s).toNat) (([], (0, [])), ([], ([], (0, []))))).2).1) (fun (r19 : Bool) => J18 r19))) (fun J15 => if v11 = true then J15 true else kH ((((x0.getD ((s).toNat) (([], (0, [])), ([], ([], (0, []))))).2).2).1) [r2.2] (fun (r16 : Bool) => J15 (!r16)))) (fun J12 => if v8 = true then J12 true else kH (((x0.getD ((s).toNat) (([], (0, [])), ([], ([], (0, []))))).1).1) r2.1 (fun (r13 : Bool) => J12 (!r13)))) (fun J9 => if (!r7) = true then J9 true else cF (((x0.getD ((s).toNat) (([], (0, [])), ([], ([], (0, []))))).2).2) (fun (r10 : Bool) => J9 (!r10)))))))) else K0 ()
structure SF (x0 : List JD) (x1 x3 x4 x5 : Int) (x6 : List zM) (K0 K1 : Unit -> Prop) (s : Int) : Prop where
 it : Go.Mach.Loop (sS x0 x1 x3 x4 x5 x6 K0 K1) s
structure TO (a0 : VC) (a1 : List JD) (Q : Bool -> Prop) : Prop where
 it : BE a0 (fun (r1 : (List (List Int)) × Int × Int) => if ((r1.2.2 != 0) || ((a1.length : Int) != (a0.2.length : Int))) = true then Q false else SF a1 (a1.length : Int) a0.1.1 a0.1.2.1 a0.1.2.2 a0.2 (fun (y21 : Unit) => Q true) (fun (y22 : Unit) => Q false) 0)
noncomputable def aEP : Ent := ⟨[2, 29, 30, 31], [sC (.ptr 0 0), sZ xS, sI, sI], [.box [lI, lI, lI, lZ mF] false], fun x k => SF x.1.2.1 x.1.2.2.1 x.2.1.1 x.2.1.2.1 x.2.1.2.2.1 x.2.1.2.2.2.1 (fun (y23 : Unit) => k (.exit 0) ⟨[], []⟩) (fun (y24 : Unit) => k .ret ⟨[(4, vB false)], []⟩) x.1.2.2.2.1⟩
noncomputable def aDz : Ent := ⟨[2, 29, 30, 31], [sC (.ptr 0 0), sZ xS, sI, sI], [.box [lI, lI, lI, lZ mF] false], fun x k => eH x.1.2.2.2.1 (fun (y25 : Int) => k .normal ⟨[(2, .ptr 0 0), (29, vZ xS x.1.2.1), (30, vI x.1.2.2.1), (31, vI y25)], [.box [vI x.2.1.1, vI x.2.1.2.1, vI x.2.1.2.2.1, vZ mF x.2.1.2.2.2.1] false]⟩)⟩
noncomputable def S2 : Tab := fun n => match n with | 58 => some aEP | 935 => some aDz | _ => none
noncomputable def VM : Code := (bod Tryz.f25).getD .skip
noncomputable def aEF : Go.Mach.Ends := aN VM [4] []
theorem aCr : aI (b6.cfg tt none false 0) S2 aEF VM := by
 intro n E hn f c hs x k h
 unfold S2 at hn
 split at hn
 ·cases hn; exact aG rfl hs (by kernel_rfl) (fun y : Int => ⟨[(2, .ptr 0 0), (29, vZ xS x.1.2.1), (30, vI x.1.2.2.1), (31, vI y)], [.box [vI x.2.1.1, vI x.2.1.2.1, vI x.2.1.2.2.1, vZ mF x.2.1.2.2.2.1] false]⟩) x.1.2.2.2.1 (by kernel_rfl) (fun y X => by kernel_rfl) h.it
 ·cases hn; exact bU hs (by kernel_rfl) (by kernel_rfl) h.it
 ·cases hn
def F3 : List Sh := [.agg [lI, lI, lI, lZ mF], sZ xS]
theorem aB5 (x : aM F3) (Q : QT) (h : TO ((x.1.1, (x.1.2.1, x.1.2.2.1)), x.1.2.2.2.1) x.2.1 (fun (r : Bool) => Q (aC [(false, .bool)] [.n] (r, ())))) : aH Tryz.prog 25 (aJ F3 x) Q := b6.told [.n] (rt := [(false, .bool)]) hI0 aCr Tryz.func25 (by kernel_rfl) (by kernel_rfl) (Nat.le_of_ble_eq_true rfl) h.it (by kernel_rfl)
noncomputable def MC : Tb Tryz.prog := b6.add 25 F3 aB5
structure yG (a0 a1 a2 : Int) (Q : Bool -> Prop) : Prop where
 it : Q ((decide (a1 <= a0)) && (decide (a0 <= a2)))
noncomputable def aD9 : Tab := fun n => none
noncomputable def WC : Code := (bod Tryz.f24).getD .skip
noncomputable def aEH : Go.Mach.Ends := aN WC [6] []
theorem aCj : aI (MC.cfg tt none false 0) aD9 aEH WC := by
 intro n E hn f c hs x k h
 cases hn
def GB : List Sh := [sI, sI, sI]
theorem aBJ (x : aM GB) (Q : QT) (h : yG x.1 x.2.1 x.2.2.1 (fun (r : Bool) => Q (aC [(false, .bool)] [.n] (r, ())))) : aH Tryz.prog 24 (aJ GB x) Q := MC.told [.n] (rt := [(false, .bool)]) hI0 aCj Tryz.func24 (by kernel_rfl) (by kernel_rfl) (Nat.le_of_ble_eq_true rfl) h.it (by kernel_rfl)
noncomputable def MA : Tb Tryz.prog := MC.add 24 GB aBJ
structure uY (a0 a1 a2 : Int) (Q : Int -> Prop) : Prop where
 it : yG a0 0 1000000 (fun (r1 : Bool) => jn (fun (v2 : Bool) => jn (fun (v5 : Bool) => if v5 = true then Q 0 else Q (IntKind.u64.wrap (IntKind.i64.wrap ((IntKind.i64.wrap ((IntKind.i64.wrap (a0 * 1024)) + (IntKind.i64.wrap (a1 * 16)))) + a2)))) (fun J6 => if v2 = true then J6 true else yG a2 0 15 (fun (r7 : Bool) => J6 (!r7)))) (fun J3 => if (!r1) = true then J3 true else yG a1 0 12 (fun (r4 : Bool) => J3 (!r4))))
noncomputable def WF : Tab := fun n => none
noncomputable def HD : Code := (bod Tryz.f23).getD .skip
noncomputable def V1 : Go.Mach.Ends := aN HD [6] []
theorem TH : aI (MA.cfg tt none false 0) WF V1 HD := by
 intro n E hn f c hs x k h
 cases hn
def vQ : List Sh := [sI, sI, sI]
theorem T8 (x : aM vQ) (Q : QT) (h : uY x.1 x.2.1 x.2.2.1 (fun (r : Int) => Q (aC [(false, (.int .u64))] [.n] (r, ())))) : aH Tryz.prog 23 (aJ vQ x) Q := MA.told [.n] (rt := [(false, (.int .u64))]) hI0 TH Tryz.func23 (by kernel_rfl) (by kernel_rfl) (Nat.le_of_ble_eq_true rfl) h.it (by kernel_rfl)
noncomputable def xO : Tb Tryz.prog := MA.add 23 vQ T8
structure LH (a0 : zM) (a1 : JD) (a2 : List aR) (Q : (iE × Bool × Int) -> Prop) : Prop where
 it : ck ((0 : Int) <= (IntKind.i64.wrap ((a2.length : Int) - 1)) /\ (IntKind.i64.wrap ((a2.length : Int) - 1)) < (a2.length : Int)) (if (a0.1 == 1) = true then FI (a2.getD ((IntKind.i64.wrap ((a2.length : Int) - 1)).toNat) ([], (0, []))) a1.1 a1.2.2 (fun (r1 : iE × Int) => Q (r1.1, true, r1.2)) else if (a0.1 == 2) = true then MD (a2.getD ((IntKind.i64.wrap ((a2.length : Int) - 1)).toNat) ([], (0, []))) a1.1 a1.2.2 a0.2.2.2.1 a0.2.2.2.2.1 (fun (r2 : iE × Int) => Q (r2.1, true, r2.2)) else if (a0.1 == 4) = true then aB0 (a2.getD ((IntKind.i64.wrap ((a2.length : Int) - 1)).toNat) ([], (0, []))) a0.2.2.1 a0.2.2.2.1 (fun (r3 : iE × Int) => Q (r3.1, true, r3.2)) else if (a0.1 == 7) = true then ck ((0 : Int) <= a0.2.2.2.2.2.1 /\ a0.2.2.2.2.2.1 < (a2.length : Int)) (aGM (a2.getD ((IntKind.i64.wrap ((a2.length : Int) - 1)).toNat) ([], (0, []))) (a2.getD ((a0.2.2.2.2.2.1).toNat) ([], (0, []))) (fun (r4 : iE × Int) => Q (r4.1, true, r4.2))) else Q ((([] : List Int), (0, ([] : List Int))), false, 0))
noncomputable def aAF : Tab := fun n => none
noncomputable def P9 : Code := (bod Tryz.f58).getD .skip
noncomputable def aAB : Go.Mach.Ends := aN P9 [6, 7, 8] [(127, [⟨6, some 0, true, (.int .i64)⟩]), (128511, [⟨6, some 0, true, (.int .i64)⟩])]
theorem YO : aI (xO.cfg tt none false 0) aAF aAB P9 := by
 intro n E hn f c hs x k h
 cases hn
def zY : List Sh := [.agg [lI, lI, lI, lI, lI, lI, lB], .agg [lZ (.int .i64), lI, lZ (.int .i8), lZ (.int .i32), lZ (.int .i64), lI, lZ (.int .i8)], sZ c9]
theorem X8 (x : aM zY) (Q : QT) (h : LH (x.1.1, (x.1.2.1, (x.1.2.2.1, (x.1.2.2.2.1, (x.1.2.2.2.2.1, (x.1.2.2.2.2.2.1, x.1.2.2.2.2.2.2.1)))))) ((x.2.1.1, (x.2.1.2.1, x.2.1.2.2.1)), (x.2.1.2.2.2.1, (x.2.1.2.2.2.2.1, (x.2.1.2.2.2.2.2.1, x.2.1.2.2.2.2.2.2.1)))) x.2.2.1 (fun (r : iE × Bool × Int) => Q (aC [(true, uE), (false, .bool), (false, (.int .i64))] [(.p .f .n), .n, .n] (r.1, (r.2.1, (r.2.2, ())))))) : aH Tryz.prog 58 (aJ zY x) Q := xO.told [(.p .f .n), .n, .n] (rt := [(true, uE), (false, .bool), (false, (.int .i64))]) hI0 YO Tryz.func58 (by kernel_rfl) (by kernel_rfl) (Nat.le_of_ble_eq_true rfl) h.it (by kernel_rfl)
noncomputable def DC : Tb Tryz.prog := xO.add 58 zY X8
structure xU  (K0 : Unit -> Prop) : Prop where
 it : K0 ()
structure E8 (a0 : zM) (a1 : JD) (a2 : List aR) (a3 a4 : Int) (Q : (aR × (List Int) × Int) -> Prop) : Prop where
 it : LH a0 a1 a2 (fun (r1 : iE × Bool × Int) => if (r1.2.2 != 0) = true then Q ((([] : List Int), (0, ([] : List Int))), ([] : List Int), r1.2.2) else if r1.2.1 = true then JY r1.1 8 a3 a4 (fun (r2 : aR × Int) => Q (r2.1, ([] : List Int), r2.2)) else ck ((0 : Int) <= (IntKind.i64.wrap ((a2.length : Int) - 1)) /\ (IntKind.i64.wrap ((a2.length : Int) - 1)) < (a2.length : Int)) (if (a0.1 == 3) = true then aCg (a2.getD ((IntKind.i64.wrap ((a2.length : Int) - 1)).toNat) ([], (0, []))) a0.2.2.1 a0.2.2.2.1 (fun (r3 : aR × (List Int) × Int) => Q (r3.1, r3.2.1, r3.2.2)) else if (a0.1 == 5) = true then XA (a2.getD ((IntKind.i64.wrap ((a2.length : Int) - 1)).toNat) ([], (0, []))) (fun (r4 : aR × Int) => xU (fun (y5 : Unit) => Q (r4.1, ([] : List Int), r4.2))) else YA (a2.getD ((IntKind.i64.wrap ((a2.length : Int) - 1)).toNat) ([], (0, []))) (fun (r6 : aR × Int) => xU (fun (y7 : Unit) => Q (r6.1, ([] : List Int), r6.2)))))
noncomputable def YE : Ent := ⟨[10, 15, 18], [sC (.ptr 0 0), sI, sC (.ptr 1 0)], [.box [.cst (.pl (.slice none 0 0)), lI, .cst (.pl (.slice none 0 0))] false, .box [.cst (.own 2), lI, .cst (.own 3)] false, .lst true (.int .i64) false, .lst true (.int .i8) false], fun x k => xU (fun (y8 : Unit) => k .ret ⟨[(10, .ptr 0 0), (11, .pl (.slice none 0 0)), (12, vI x.1.2.1)], [.box [.own 1, vI x.2.2.1.2.1, .own 2] false, .lst true (.int .i64) x.2.2.2.1 false, .lst true (.int .i8) x.2.2.2.2.1 false]⟩)⟩
noncomputable def G0 : Tab := fun n => match n with | 63 => some YE | _ => none
noncomputable def NE : Code := (bod Tryz.f30).getD .skip
noncomputable def XL : Go.Mach.Ends := aN NE [10, 11, 12] []
theorem WO : aI (DC.cfg tt none false 0) G0 XL NE := by
 intro n E hn f c hs x k h
 unfold G0 at hn
 split at hn
 ·cases hn; exact bU hs (by kernel_rfl) (by kernel_rfl) h.it
 ·cases hn
def xX : List Sh := [.agg [lI, lI, lI, lI, lI, lI, lB], .agg [lZ (.int .i64), lI, lZ (.int .i8), lZ (.int .i32), lZ (.int .i64), lI, lZ (.int .i8)], sZ c9, .lf (.int .u64), .lf (.int .u64)]
theorem U9 (x : aM xX) (Q : QT) (h : E8 (x.1.1, (x.1.2.1, (x.1.2.2.1, (x.1.2.2.2.1, (x.1.2.2.2.2.1, (x.1.2.2.2.2.2.1, x.1.2.2.2.2.2.2.1)))))) ((x.2.1.1, (x.2.1.2.1, x.2.1.2.2.1)), (x.2.1.2.2.2.1, (x.2.1.2.2.2.2.1, (x.2.1.2.2.2.2.2.1, x.2.1.2.2.2.2.2.2.1)))) x.2.2.1 x.2.2.2.1 x.2.2.2.2.1 (fun (r : aR × (List Int) × Int) => Q (aC [(true, c9), (false, (.slc (.int .i64))), (false, (.int .i64))] [.n, .n, .n] (r.1, (r.2.1, (r.2.2, ())))))) : aH Tryz.prog 30 (aJ xX x) Q := DC.told [.n, .n, .n] (rt := [(true, c9), (false, (.slc (.int .i64))), (false, (.int .i64))]) hI0 WO Tryz.func30 (by kernel_rfl) (by kernel_rfl) (Nat.le_of_ble_eq_true rfl) h.it (by kernel_rfl)
noncomputable def zT : Tb Tryz.prog := DC.add 30 xX U9
def fN (x0 : List JD) (x1 x2 : Int) (x3 : List zM) (x4 : Int) (K0 : ((List aR) × List (List Int)) -> Prop) (K1 : (Int × Int) -> Prop) (s : Int × (List aR) × List (List Int)) (nx : (Int × (List aR) × List (List Int)) -> Prop) : Prop :=
 if (decide (s.1 < x4)) = true then ck ((0 : Int) <= s.1 /\ s.1 < (x3.length : Int)) (ck ((0 : Int) <= s.1 /\ s.1 < (x0.length : Int)) (uY x2 (IntKind.i64.wrap (s.1 + 1)) 0 (fun (r13 : Int) => E8 (x3.getD ((s.1).toNat) (0, (0, (0, (0, (0, (0, false))))))) (x0.getD ((s.1).toNat) (([], (0, [])), ([], ([], (0, []))))) s.2.1 x1 r13 (fun (r14 : aR × (List Int) × Int) => if (r14.2.2 != 0) = true then K1 (IntKind.i64.wrap (s.1 + 1), r14.2.2) else ck ((s.2.1.length + [r14.1].length) * 56 <= 140737488355328) (ck ((s.2.2.length + [r14.2.1].length) * 24 <= 140737488355328) (nx (IntKind.i64.wrap (s.1 + 1), s.2.1 ++ [r14.1], s.2.2 ++ [r14.2.1]))))))) else K0 (s.2.1, s.2.2)
structure CT (x0 : List JD) (x1 x2 : Int) (x3 : List zM) (x4 : Int) (K0 : ((List aR) × List (List Int)) -> Prop) (K1 : (Int × Int) -> Prop) (s : Int × (List aR) × List (List Int)) : Prop where
 it : Go.Mach.Loop (fN x0 x1 x2 x3 x4 K0 K1) s
structure zH (a0 : VC) (a1 : List JD) (a2 : aR) (a3 a4 : Int) (Q : (aH7 × Int × Int) -> Prop) : Prop where
 it : yG a4 0 1000000 (fun (r1 : Bool) => jn (fun (v2 : Bool) => jn (fun (v5 : Bool) => if v5 = true then Q ((([] : List aR), ([] : List (List Int))), 0, 1) else jn (fun (v8 : Bool) => if v8 = true then Q ((([] : List aR), ([] : List (List Int))), 0, 2) else bF a2.1 (fun (r11 : List Int) => g0 a2.2.2 (fun (r12 : List Int) => CT a1 a3 a4 a0.2 (a0.2.length : Int) (fun (y15 : (List aR) × List (List Int)) => Q (y15, 0, 0)) (fun (y16 : Int × Int) => Q ((([] : List aR), ([] : List (List Int))), y16.1, y16.2)) (0, [(r11, (a2.2.1, r12))], [([] : List Int)])))) (fun J9 => if ((a2.1.length : Int) != 4) = true then J9 true else ck (a2.1 ≠ [] /\ (0 : Int) <= 1 /\ (1 : Int) <= (a2.1.length : Int) /\ (a2.1.length : Int) <= (a2.1.length : Int)) (kH ((a2.1.take ((a2.1.length : Int)).toNat).drop ((1 : Int)).toNat) ([a0.1.1, a0.1.2.1, a0.1.2.2] : List Int) (fun (r10 : Bool) => J9 (!r10))))) (fun J6 => if v2 = true then J6 true else cF a2 (fun (r7 : Bool) => J6 (!r7)))) (fun J3 => if (!r1) = true then J3 true else TO a0 a1 (fun (r4 : Bool) => J3 (!r4))))
noncomputable def aBj : Ent := ⟨[1, 3, 4, 10, 13, 63, 64, 65], [sZ xS, .lf (.int .u64), sI, sC (.ptr 0 0), sC (.ptr 1 0), sZ mF, sI, sI], [.box [.cst (.pl (.slice none 0 0)), .cst (.pl (.slice none 0 0))] false, .box [.cst (.own 2), .cst (.own 3)] false, .lst true c9 false, .lst true (.slc (.int .i64)) false], fun x k => CT x.1.1 x.1.2.1 x.1.2.2.1 x.1.2.2.2.2.2.1 x.1.2.2.2.2.2.2.1 (fun (y17 : (List aR) × List (List Int)) => k (.exit 1) ⟨[(10, .ptr 0 0), (13, .ptr 1 0)], [.box [.pl (.slice none 0 0), .pl (.slice none 0 0)] false, .box [.own 2, .own 3] false, .lst true c9 y17.1 false, .lst true (.slc (.int .i64)) y17.2 false]⟩) (fun (y18 : Int × Int) => k .ret ⟨[(10, .ptr 0 0), (11, vI y18.1), (12, vI y18.2)], [.box [.pl (.slice none 0 0), .pl (.slice none 0 0)] false]⟩) (x.1.2.2.2.2.2.2.2.1, x.2.2.2.1, x.2.2.2.2.1)⟩
noncomputable def QZ : Tab := fun n => match n with | 250 => some aBj | _ => none
noncomputable def SK : Code := (bod Tryz.f10).getD .skip
noncomputable def aCR : Go.Mach.Ends := aN SK [10, 11, 12] []
theorem aAU : aI (zT.cfg tt none false 0) QZ aCR SK := by
 intro n E hn f c hs x k h
 unfold QZ at hn
 split at hn
 ·cases hn; exact aG rfl hs (by kernel_rfl) (fun y : Int × (List aR) × List (List Int) => ⟨[(1, vZ xS x.1.1), (3, vK .u64 x.1.2.1), (4, vI x.1.2.2.1), (10, .ptr 0 0), (13, .ptr 1 0), (63, vZ mF x.1.2.2.2.2.2.1), (64, vI x.1.2.2.2.2.2.2.1), (65, vI y.1)], [.box [.pl (.slice none 0 0), .pl (.slice none 0 0)] false, .box [.own 2, .own 3] false, .lst true c9 y.2.1 false, .lst true (.slc (.int .i64)) y.2.2 false]⟩) (x.1.2.2.2.2.2.2.2.1, x.2.2.2.1, x.2.2.2.2.1) (by kernel_rfl) (fun y X => by kernel_rfl) h.it
 ·cases hn
def DD : List Sh := [.agg [lI, lI, lI, lZ mF], sZ xS, .agg [lZ (.int .i64), lI, lZ (.int .i8)], .lf (.int .u64), sI]
theorem aAI (x : aM DD) (Q : QT) (h : zH ((x.1.1, (x.1.2.1, x.1.2.2.1)), x.1.2.2.2.1) x.2.1 (x.2.2.1.1, (x.2.2.1.2.1, x.2.2.1.2.2.1)) x.2.2.2.1 x.2.2.2.2.1 (fun (r : aH7 × Int × Int) => Q (aC [(true, aJ3), (false, (.int .i64)), (false, (.int .i64))] [.n, .n, .n] (r.1, (r.2.1, (r.2.2, ())))))) : aH Tryz.prog 10 (aJ DD x) Q := zT.told [.n, .n, .n] (rt := [(true, aJ3), (false, (.int .i64)), (false, (.int .i64))]) hI0 aAU Tryz.func10 (by kernel_rfl) (by kernel_rfl) (Nat.le_of_ble_eq_true rfl) h.it (by kernel_rfl)
noncomputable def F8 : Tb Tryz.prog := zT.add 10 DD aAI
structure AQ (a0 : Int) (Q : VC -> Prop) : Prop where
 it : Q ((1, (1, 2)), [(6, (0, (0, (0, (0, (0, false)))))), (1, (a0, (0, (0, (0, (0, false))))))])
noncomputable def LL : Tab := fun n => none
noncomputable def xK : Code := (bod Tryz.f22).getD .skip
noncomputable def M6 : Go.Mach.Ends := aN xK [2] []
theorem HU : aI (F8.cfg tt none false 0) LL M6 xK := by
 intro n E hn f c hs x k h
 cases hn
def mP : List Sh := [sI]
theorem GW (x : aM mP) (Q : QT) (h : AQ x.1 (fun (r : VC) => Q (aC [(true, aLT)] [.n] (r, ())))) : aH Tryz.prog 22 (aJ mP x) Q := F8.told [.n] (rt := [(true, aLT)]) hI0 HU Tryz.func22 (by kernel_rfl) (by kernel_rfl) (Nat.le_of_ble_eq_true rfl) h.it (by kernel_rfl)
noncomputable def oY : Tb Tryz.prog := F8.add 22 mP GW
structure cY  (Q : Bool -> Prop) : Prop where
 it : AQ 1 (fun (r1 : VC) => zH r1 [((([] : List Int), (0, ([] : List Int))), (([] : List Int), (([] : List Int), (0, ([] : List Int))))), (([1, 2], (0, [3, 4])), ([0, 0], ([1], (0, [5]))))] ([1, 1, 1, 2], (0, [1, 2])) 1 0 (fun (r2 : aH7 × Int × Int) => jn (fun (v3 : Bool) => jn (fun (v5 : Bool) => jn (fun (v7 : Bool) => Q v7) (fun J8 => if v5 = true then uY 2 3 4 (fun (r9 : Int) => J8 (r9 == 2100)) else J8 false)) (fun J6 => if v3 = true then ck ((0 : Int) <= 2 /\ 2 < (r2.1.1.length : Int)) (ck ((0 : Int) <= 0 /\ 0 < ((((r2.1.1.getD 2 ([], (0, []))).2).2).length : Int)) (J6 (((((r2.1.1.getD 2 ([], (0, []))).2).2).getD 0 0) == 16))) else J6 false)) (fun J4 => if ((r2.2.2 == 0) && ((r2.1.1.length : Int) == 3)) = true then ck ((0 : Int) <= 2 /\ 2 < (r2.1.1.length : Int)) (J4 (((((r2.1.1.getD 2 ([], (0, []))).2).2).length : Int) == 1)) else J4 false)))
noncomputable def IB : Tab := fun n => none
noncomputable def uW : Code := (bod Tryz.f9).getD .skip
noncomputable def IE : Go.Mach.Ends := aN uW [0] []
theorem GI : aI (oY.cfg tt none false 0) IB IE uW := by
 intro n E hn f c hs x k h
 cases hn
def kU : List Sh := []
theorem FS (x : aM kU) (Q : QT) (h : cY (fun (r : Bool) => Q (aC [(false, .bool)] [.n] (r, ())))) : aH Tryz.prog 9 (aJ kU x) Q := oY.told [.n] (rt := [(false, .bool)]) hI0 GI Tryz.func9 (by kernel_rfl) (by kernel_rfl) (Nat.le_of_ble_eq_true rfl) h.it (by kernel_rfl)
noncomputable def m9 : Tb Tryz.prog := oY.add 9 kU FS
end Go.Proofs.YtcfpfefadlnmcaaGreat
