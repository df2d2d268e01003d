/- Part of the proof. No condition. -/
import Derived.Test.YtcfpfefadlnmcaaGreatZ34
import Derived.Test.YtcfpfefadlnmcaaGreatProg
import Derived.KernelRfl
import Derived.Test.YtcfpfefadlnmcaaGreatZ35
namespace Go.Proofs.YtcfpfefadlnmcaaGreat
open Go.Mach
set_option maxRecDepth 100000
set_option linter.unusedVariables false
structure AW (a0 : JD) (Q : Bool -> Prop) : Prop where
 it : Q ((((IntKind.i64.wrap ((IntKind.i64.wrap ((IntKind.i64.wrap ((IntKind.i64.wrap ((a0.1.1.length : Int) + (a0.1.2.2.length : Int))) + (a0.2.1.length : Int))) + (a0.2.2.1.length : Int))) + (a0.2.2.2.2.length : Int))) == 0) && (a0.1.2.1 == 0)) && (a0.2.2.2.1 == 0))
noncomputable def J0 : Tab := fun n => none
noncomputable def xE : Code := (bod Tryz.f63).getD .skip
noncomputable def MS : Go.Mach.Ends := aN xE [2] []
theorem G4 : aI (oH.cfg tt none false 0) J0 MS xE := by
 intro n E hn f c hs x k h
 cases hn
def nO : List Sh := [.agg [lZ (.int .i64), lI, lZ (.int .i8), lZ (.int .i32), lZ (.int .i64), lI, lZ (.int .i8)]]
theorem ID (x : aM nO) (Q : QT) (h : AW ((x.1.1, (x.1.2.1, x.1.2.2.1)), (x.1.2.2.2.1, (x.1.2.2.2.2.1, (x.1.2.2.2.2.2.1, x.1.2.2.2.2.2.2.1)))) (fun (r : Bool) => Q (aC [(false, .bool)] [.n] (r, ())))) : aH Tryz.prog 63 (aJ nO x) Q := oH.told [.n] (rt := [(false, .bool)]) hI0 G4 Tryz.func63 (by kernel_rfl) (by kernel_rfl) (Nat.le_of_ble_eq_true rfl) h.it (by kernel_rfl)
noncomputable def nW : Tb Tryz.prog := oH.add 63 nO ID
def gS (x0 : List Int) (x1 : Int) (K0 K1 : Unit -> Prop) (s : Int) (nx : Int -> Prop) : Prop :=
 if (decide (s < x1)) = true then ck ((0 : Int) <= s /\ s < (x0.length : Int)) (if ((x0.getD ((s).toNat) 0) == (-128)) = true then K1 () else nx (IntKind.i64.wrap (s + 1))) else K0 ()
structure iX (x0 : List Int) (x1 : Int) (K0 K1 : Unit -> Prop) (s : Int) : Prop where
 it : Go.Mach.Loop (gS x0 x1 K0 K1) s
structure mO (a0 : aR) (Q : Bool -> Prop) : Prop where
 it : bK a0.1 (fun (r1 : Bool) => jn (fun (v2 : Bool) => if ((v2 || (decide (a0.2.1 < (-64)))) || (decide (64 < a0.2.1))) = true then Q false else iX a0.2.2 (a0.2.2.length : Int) (fun (y5 : Unit) => Q true) (fun (y6 : Unit) => Q false) 0) (fun J3 => if (!r1) = true then J3 true else dR a0.1 (fun (r4 : Int) => J3 ((a0.2.2.length : Int) != r4))))
noncomputable def O5 : Ent := ⟨[29, 30, 31], [sZ (.int .i8), sI, sI], [], fun x k => iX x.1.1 x.1.2.1 (fun (y7 : Unit) => k (.exit 0) ⟨[], []⟩) (fun (y8 : Unit) => k .ret ⟨[(2, vB false)], []⟩) x.1.2.2.1⟩
noncomputable def wU : Tab := fun n => match n with | 58 => some O5 | _ => none
noncomputable def yW : Code := (bod Tryz.f33).getD .skip
noncomputable def OH : Go.Mach.Ends := aN yW [2] []
theorem LY : aI (nW.cfg tt none false 0) wU OH yW := by
 intro n E hn f c hs x k h
 unfold wU at hn
 split at hn
 ·cases hn; exact aG rfl hs (by kernel_rfl) (fun y : Int => ⟨[(29, vZ (.int .i8) x.1.1), (30, vI x.1.2.1), (31, vI y)], []⟩) x.1.2.2.1 (by kernel_rfl) (fun y X => by kernel_rfl) h.it
 ·cases hn
def oJ : List Sh := [.agg [lZ (.int .i64), lI, lZ (.int .i8)]]
theorem LE (x : aM oJ) (Q : QT) (h : mO (x.1.1, (x.1.2.1, x.1.2.2.1)) (fun (r : Bool) => Q (aC [(false, .bool)] [.n] (r, ())))) : aH Tryz.prog 33 (aJ oJ x) Q := nW.told [.n] (rt := [(false, .bool)]) hI0 LY Tryz.func33 (by kernel_rfl) (by kernel_rfl) (Nat.le_of_ble_eq_true rfl) h.it (by kernel_rfl)
noncomputable def qJ : Tb Tryz.prog := nW.add 33 oJ LE
def gP (x0 : List aR) (x1 : Int) (K0 K1 : Unit -> Prop) (s : Int) (nx : Int -> Prop) : Prop :=
 if (decide (s < x1)) = true then ck ((0 : Int) <= s /\ s < (x0.length : Int)) (mO (x0.getD ((s).toNat) ([], (0, []))) (fun (r1 : Bool) => if (!r1) = true then K1 () else nx (IntKind.i64.wrap (s + 1)))) else K0 ()
structure xI (x0 : List aR) (x1 : Int) (K0 K1 : Unit -> Prop) (s : Int) : Prop where
 it : Go.Mach.Loop (gP x0 x1 K0 K1) s
structure b7 (a0 : List aR) (Q : Bool -> Prop) : Prop where
 it : xI a0 (a0.length : Int) (fun (y2 : Unit) => Q true) (fun (y3 : Unit) => Q false) 0
noncomputable def OY : Ent := ⟨[5, 6, 7], [sZ c9, sI, sI], [], fun x k => xI x.1.1 x.1.2.1 (fun (y4 : Unit) => k (.exit 0) ⟨[], []⟩) (fun (y5 : Unit) => k .ret ⟨[(2, vB false)], []⟩) x.1.2.2.1⟩
noncomputable def wK : Tab := fun n => match n with | 26 => some OY | _ => none
noncomputable def zG : Code := (bod Tryz.f112).getD .skip
noncomputable def N8 : Go.Mach.Ends := aN zG [2] []
theorem KF : aI (qJ.cfg tt none false 0) wK N8 zG := by
 intro n E hn f c hs x k h
 unfold wK at hn
 split at hn
 ·cases hn; exact aG rfl hs (by kernel_rfl) (fun y : Int => ⟨[(5, vZ c9 x.1.1), (6, vI x.1.2.1), (7, vI y)], []⟩) x.1.2.2.1 (by kernel_rfl) (fun y X => by kernel_rfl) h.it
 ·cases hn
def oA : List Sh := [sZ c9]
theorem KU (x : aM oA) (Q : QT) (h : b7 x.1 (fun (r : Bool) => Q (aC [(false, .bool)] [.n] (r, ())))) : aH Tryz.prog 112 (aJ oA x) Q := qJ.told [.n] (rt := [(false, .bool)]) hI0 KF Tryz.func112 (by kernel_rfl) (by kernel_rfl) (Nat.le_of_ble_eq_true rfl) h.it (by kernel_rfl)
noncomputable def qN : Tb Tryz.prog := qJ.add 112 oA KU
def dN (x0 : List Int) (x1 : Int) (K0 K1 : Unit -> Prop) (s : Int) (nx : Int -> Prop) : Prop :=
 if (decide (s < x1)) = true then ck ((0 : Int) <= s /\ s < (x0.length : Int)) (if ((decide ((x0.getD ((s).toNat) 0) < (-1048576))) || (decide (1048576 < (x0.getD ((s).toNat) 0)))) = true then K1 () else nx (IntKind.i64.wrap (s + 1))) else K0 ()
structure iK (x0 : List Int) (x1 : Int) (K0 K1 : Unit -> Prop) (s : Int) : Prop where
 it : Go.Mach.Loop (dN x0 x1 K0 K1) s
structure gQ (a0 : JD) (Q : Bool -> Prop) : Prop where
 it : b7 [a0.1, a0.2.2] (fun (r1 : Bool) => if (((!r1) || ((a0.2.2.1.length : Int) != 1)) || ((a0.2.1.length : Int) != (a0.1.2.2.length : Int))) = true then Q false else iK a0.2.1 (a0.2.1.length : Int) (fun (y2 : Unit) => Q true) (fun (y3 : Unit) => Q false) 0)
noncomputable def CN : Ent := ⟨[30, 31, 32], [sZ (.int .i32), sI, sI], [], fun x k => iK x.1.1 x.1.2.1 (fun (y4 : Unit) => k (.exit 0) ⟨[], []⟩) (fun (y5 : Unit) => k .ret ⟨[(2, vB false)], []⟩) x.1.2.2.1⟩
noncomputable def p5 : Tab := fun n => match n with | 58 => some CN | _ => none
noncomputable def rC : Code := (bod Tryz.f64).getD .skip
noncomputable def CE : Go.Mach.Ends := aN rC [2] []
theorem BA : aI (qN.cfg tt none false 0) p5 CE rC := by
 intro n E hn f c hs x k h
 unfold p5 at hn
 split at hn
 ·cases hn; exact aG rfl hs (by kernel_rfl) (fun y : Int => ⟨[(30, vZ (.int .i32) x.1.1), (31, vI x.1.2.1), (32, vI y)], []⟩) x.1.2.2.1 (by kernel_rfl) (fun y X => by kernel_rfl) h.it
 ·cases hn
def iH : List Sh := [.agg [lZ (.int .i64), lI, lZ (.int .i8), lZ (.int .i32), lZ (.int .i64), lI, lZ (.int .i8)]]
theorem A4 (x : aM iH) (Q : QT) (h : gQ ((x.1.1, (x.1.2.1, x.1.2.2.1)), (x.1.2.2.2.1, (x.1.2.2.2.2.1, (x.1.2.2.2.2.2.1, x.1.2.2.2.2.2.2.1)))) (fun (r : Bool) => Q (aC [(false, .bool)] [.n] (r, ())))) : aH Tryz.prog 64 (aJ iH x) Q := qN.told [.n] (rt := [(false, .bool)]) hI0 BA Tryz.func64 (by kernel_rfl) (by kernel_rfl) (Nat.le_of_ble_eq_true rfl) h.it (by kernel_rfl)
noncomputable def jJ : Tb Tryz.prog := qN.add 64 iH A4
structure eC (x2 : Int) (K0 : Int -> Prop) : Prop where
 it : K0 (IntKind.i64.wrap (x2 + 1))
def dK (x0 : List JD) (x1 x3 x4 x5 : Int) (x6 : List zM) (K0 K1 : Unit -> Prop) (s : Int) (nx : Int -> Prop) : Prop :=
 if (decide (s < x1)) = true then ck ((0 : Int) <= s /\ s < (x0.length : Int)) (rR ((x3, (x4, x5)), x6) (IntKind.i64.wrap (s + 1)) (fun (r2 : (List Int) × Int) => if ((r2.1.length : Int) == 0) = true then ck ((0 : Int) <= s /\ s < (x6.length : Int)) (AW (x0.getD ((s).toNat) (([], (0, [])), ([], ([], (0, []))))) (fun (r3 : Bool) => if (((!r3) || (((x6.getD ((s).toNat) (0, (0, (0, (0, (0, (0, false))))))).1) == 1)) || (((x6.getD ((s).toNat) (0, (0, (0, (0, (0, (0, false))))))).1) == 2)) = true then K1 () else eC s (fun (y4 : Int) => nx y4))) else gQ (x0.getD ((s).toNat) (([], (0, [])), ([], ([], (0, []))))) (fun (r5 : Bool) => jn (fun (v6 : Bool) => jn (fun (v9 : Bool) => if v9 = true then K1 () else eC s (fun (y11 : Int) => nx y11)) (fun J10 => if v6 = true then J10 true else ck ((0 : Int) <= 0 /\ 0 < (((((x0.getD ((s).toNat) (([], (0, [])), ([], ([], (0, []))))).2).2).1).length : Int)) (J10 ((((((x0.getD ((s).toNat) (([], (0, [])), ([], ([], (0, []))))).2).2).1).getD 0 0) != r2.2)))) (fun J7 => if (!r5) = true then J7 true else aO (((x0.getD ((s).toNat) (([], (0, [])), ([], ([], (0, []))))).1).1) r2.1 (fun (r8 : Bool) => J7 (!r8)))))) else K0 ()
structure pK (x0 : List JD) (x1 x3 x4 x5 : Int) (x6 : List zM) (K0 K1 : Unit -> Prop) (s : Int) : Prop where
 it : Go.Mach.Loop (dK x0 x1 x3 x4 x5 x6 K0 K1) s
structure kA (a0 : VC) (a1 : List JD) (Q : Bool -> Prop) : Prop where
 it : iY a0 (fun (r1 : (List (List Int)) × Int × Int) => if ((r1.2.2 != 0) || ((a1.length : Int) != (a0.2.length : Int))) = true then Q false else pK a1 (a1.length : Int) a0.1.1 a0.1.2.1 a0.1.2.2 a0.2 (fun (y12 : Unit) => Q true) (fun (y13 : Unit) => Q false) 0)
noncomputable def BH : Ent := ⟨[2, 29, 30, 31], [sC (.ptr 0 0), sZ xS, sI, sI], [.box [lI, lI, lI, lZ mF] false], fun x k => pK x.1.2.1 x.1.2.2.1 x.2.1.1 x.2.1.2.1 x.2.1.2.2.1 x.2.1.2.2.2.1 (fun (y14 : Unit) => k (.exit 0) ⟨[], []⟩) (fun (y15 : Unit) => k .ret ⟨[(4, vB false)], []⟩) x.1.2.2.2.1⟩
noncomputable def A3 : Ent := ⟨[2, 29, 30, 31], [sC (.ptr 0 0), sZ xS, sI, sI], [.box [lI, lI, lI, lZ mF] false], fun x k => eC x.1.2.2.2.1 (fun (y16 : Int) => k .normal ⟨[(2, .ptr 0 0), (29, vZ xS x.1.2.1), (30, vI x.1.2.2.1), (31, vI y16)], [.box [vI x.2.1.1, vI x.2.1.2.1, vI x.2.1.2.2.1, vZ mF x.2.1.2.2.2.1] false]⟩)⟩
noncomputable def pI : Tab := fun n => match n with | 58 => some BH | 935 => some A3 | _ => none
noncomputable def qK : Code := (bod Tryz.f32).getD .skip
noncomputable def A7 : Go.Mach.Ends := aN qK [4] []
theorem zZ : aI (jJ.cfg tt none false 0) pI A7 qK := by
 intro n E hn f c hs x k h
 unfold pI at hn
 split at hn
 ·cases hn; exact aG rfl hs (by kernel_rfl) (fun y : Int => ⟨[(2, .ptr 0 0), (29, vZ xS x.1.2.1), (30, vI x.1.2.2.1), (31, vI y)], [.box [vI x.2.1.1, vI x.2.1.2.1, vI x.2.1.2.2.1, vZ mF x.2.1.2.2.2.1] false]⟩) x.1.2.2.2.1 (by kernel_rfl) (fun y X => by kernel_rfl) h.it
 ·cases hn; exact bU hs (by kernel_rfl) (by kernel_rfl) h.it
 ·cases hn
def iA : List Sh := [.agg [lI, lI, lI, lZ mF], sZ xS]
theorem AN (x : aM iA) (Q : QT) (h : kA ((x.1.1, (x.1.2.1, x.1.2.2.1)), x.1.2.2.2.1) x.2.1 (fun (r : Bool) => Q (aC [(false, .bool)] [.n] (r, ())))) : aH Tryz.prog 32 (aJ iA x) Q := jJ.told [.n] (rt := [(false, .bool)]) hI0 zZ Tryz.func32 (by kernel_rfl) (by kernel_rfl) (Nat.le_of_ble_eq_true rfl) h.it (by kernel_rfl)
noncomputable def iG : Tb Tryz.prog := jJ.add 32 iA AN
structure rL (a0 : Int) (Q : Bool -> Prop) : Prop where
 it : jn (fun (v1 : Bool) => Q v1) (fun J2 => if ((decide (0 <= a0)) && (decide (a0 <= 1023))) = true then ck ((0 : Int) <= 14) (J2 (decide ((IntKind.i64.wrap ((IntKind.i64.wrap ((IntKind.i64.wrap (a0 * 1)) * 2 ^ (min ((14 : Int)).toNat (IntKind.i64).bits))) + 1048576)) < 16777216))) else J2 false)
noncomputable def LA : Tab := fun n => none
noncomputable def wQ : Code := (bod Tryz.f173).getD .skip
noncomputable def JW : Go.Mach.Ends := aN wQ [2] []
theorem G8 : aI (iG.cfg tt none false 0) LA JW wQ := by
 intro n E hn f c hs x k h
 cases hn
def mN : List Sh := [sI]
theorem HE (x : aM mN) (Q : QT) (h : rL x.1 (fun (r : Bool) => Q (aC [(false, .bool)] [.n] (r, ())))) : aH Tryz.prog 173 (aJ mN x) Q := iG.told [.n] (rt := [(false, .bool)]) hI0 G8 Tryz.func173 (by kernel_rfl) (by kernel_rfl) (Nat.le_of_ble_eq_true rfl) h.it (by kernel_rfl)
noncomputable def oP : Tb Tryz.prog := iG.add 173 mN HE
structure iP (a0 : List Int) (a1 : Int) (Q : (iE × Int) -> Prop) : Prop where
 it : if ((decide (a1 < (-128))) || (decide (128 < a1))) = true then Q ((([] : List Int), (0, ([] : List Int))), 3) else bK a0 (fun (r1 : Bool) => if (!r1) = true then Q ((([] : List Int), (0, ([] : List Int))), 1) else dR a0 (fun (r2 : Int) => ck ((0 : Int) <= r2 /\ ((4 : Nat) : Int) * r2 <= 70368744177664) (Q ((a0, (a1, List.replicate (r2).toNat (0 : Int))), 0))))
noncomputable def OA : Tab := fun n => none
noncomputable def zE : Code := (bod Tryz.f119).getD .skip
noncomputable def OK : Go.Mach.Ends := aN zE [4, 5] []
theorem MQ : aI (oP.cfg tt none false 0) OA OK zE := by
 intro n E hn f c hs x k h
 cases hn
def oR : List Sh := [sZ (.int .i64), sI]
theorem MM (x : aM oR) (Q : QT) (h : iP x.1 x.2.1 (fun (r : iE × Int) => Q (aC [(true, uE), (false, (.int .i64))] [(.p .f .n), .n] (r.1, (r.2, ()))))) : aH Tryz.prog 119 (aJ oR x) Q := oP.told [(.p .f .n), .n] (rt := [(true, uE), (false, (.int .i64))]) hI0 MQ Tryz.func119 (by kernel_rfl) (by kernel_rfl) (Nat.le_of_ble_eq_true rfl) h.it (by kernel_rfl)
noncomputable def pN : Tb Tryz.prog := oP.add 119 oR MM
structure kO (a0 : List Int) (a1 a2 : Int) (Q : (iE × Int) -> Prop) : Prop where
 it : rL a2 (fun (r1 : Bool) => if (!r1) = true then Q ((([] : List Int), (0, ([] : List Int))), 3) else iP a0 a1 (fun (r2 : iE × Int) => Q (r2.1, r2.2)))
noncomputable def J1 : Tab := fun n => none
noncomputable def wX : Code := (bod Tryz.f113).getD .skip
noncomputable def LG : Go.Mach.Ends := aN wX [6, 7] []
theorem IU : aI (pN.cfg tt none false 0) J1 LG wX := by
 intro n E hn f c hs x k h
 cases hn
def mY : List Sh := [sZ (.int .i64), sI, sI]
theorem GZ (x : aM mY) (Q : QT) (h : kO x.1 x.2.1 x.2.2.1 (fun (r : iE × Int) => Q (aC [(true, uE), (false, (.int .i64))] [(.p .f .n), .n] (r.1, (r.2, ()))))) : aH Tryz.prog 113 (aJ mY x) Q := pN.told [(.p .f .n), .n] (rt := [(true, uE), (false, (.int .i64))]) hI0 IU Tryz.func113 (by kernel_rfl) (by kernel_rfl) (Nat.le_of_ble_eq_true rfl) h.it (by kernel_rfl)
noncomputable def nZ : Tb Tryz.prog := pN.add 113 mY GZ
structure aY (a0 a1 a2 : Int) (Q : Int -> Prop) : Prop where
 it : Q (aD a1 (aL a0 a2))
noncomputable def JE : Tab := fun n => none
noncomputable def uQ : Code := (bod Tryz.f123).getD .skip
noncomputable def HR : Go.Mach.Ends := aN uQ [6] []
theorem E2 : aI (nZ.cfg tt none false 0) JE HR uQ := by
 intro n E hn f c hs x k h
 cases hn
def k9 : List Sh := [sI, sI, sI]
theorem F2 (x : aM k9) (Q : QT) (h : aY x.1 x.2.1 x.2.2.1 (fun (r : Int) => Q (aC [(false, (.int .i64))] [.n] (r, ())))) : aH Tryz.prog 123 (aJ k9 x) Q := nZ.told [.n] (rt := [(false, (.int .i64))]) hI0 E2 Tryz.func123 (by kernel_rfl) (by kernel_rfl) (Nat.le_of_ble_eq_true rfl) h.it (by kernel_rfl)
noncomputable def mX : Tb Tryz.prog := nZ.add 123 k9 F2
structure gZ (a0 a1 : Int) (Q : (Int × Int) -> Prop) : Prop where
 it : aY a0 (-4611686018427387904) 4611686018427387904 (fun (r1 : Int) => aY a1 0 62 (fun (r2 : Int) => Q (r1, IntKind.u64.wrap r2)))
noncomputable def MW : Tab := fun n => none
noncomputable def wL : Code := (bod Tryz.f124).getD .skip
noncomputable def L8 : Go.Mach.Ends := aN wL [4, 5] []
theorem I9 : aI (mX.cfg tt none false 0) MW L8 wL := by
 intro n E hn f c hs x k h
 cases hn
def mC : List Sh := [sI, sI]
theorem IQ (x : aM mC) (Q : QT) (h : gZ x.1 x.2.1 (fun (r : Int × Int) => Q (aC [(false, (.int .i64)), (false, (.int .u64))] [.n, .n] (r.1, (r.2, ()))))) : aH Tryz.prog 124 (aJ mC x) Q := mX.told [.n, .n] (rt := [(false, (.int .i64)), (false, (.int .u64))]) hI0 I9 Tryz.func124 (by kernel_rfl) (by kernel_rfl) (Nat.le_of_ble_eq_true rfl) h.it (by kernel_rfl)
noncomputable def oG : Tb Tryz.prog := mX.add 124 mC IQ
structure cI (x0 x1 x2 : Int) (K0 : Int -> Prop) : Prop where
 it : aY x0 (-1048576) 1048576 (fun (r5 : Int) => ck ((0 : Int) <= (IntKind.u64.wrap (IntKind.i64.wrap (x1 - x2)))) (aY (IntKind.i64.wrap (r5 * 2 ^ (min (IntKind.u64.wrap (IntKind.i64.wrap (x1 - x2))).toNat (IntKind.i64).bits))) (-1048576) 1048576 (fun (r6 : Int) => K0 r6)))
structure eY (a0 a1 a2 : Int) (Q : Int -> Prop) : Prop where
 it : gZ a0 0 (fun (r1 : Int × Int) => aY a1 (-1000) 1000 (fun (r2 : Int) => aY a2 (-1000) 1000 (fun (r3 : Int) => if (decide (r2 < r3)) = true then ck ((0 : Int) <= (IntKind.u64.wrap (aL (IntKind.i64.wrap (r3 - r2)) 62))) (Q ((r1.1).fdiv (2 ^ (min (IntKind.u64.wrap (aL (IntKind.i64.wrap (r3 - r2)) 62)).toNat (IntKind.i64).bits)))) else if (decide (20 < (IntKind.i64.wrap (r2 - r3)))) = true then if (r1.1 == 0) = true then Q 0 else aY r1.1 (-1) 1 (fun (r4 : Int) => cI r4 (IntKind.i64.wrap (r3 + 20)) r3 (fun (y7 : Int) => Q y7)) else cI r1.1 r2 r3 (fun (y8 : Int) => Q y8))))
noncomputable def KV : Ent := ⟨[0, 7, 8], [sI, sI, sI], [], fun x k => cI x.1.1 x.1.2.1 x.1.2.2.1 (fun (y9 : Int) => k .ret ⟨[(6, vI y9)], []⟩)⟩
noncomputable def vN : Tab := fun n => match n with | 63 => some KV | _ => none
noncomputable def wZ : Code := (bod Tryz.f114).getD .skip
noncomputable def MK : Go.Mach.Ends := aN wZ [6] []
theorem IF : aI (oG.cfg tt none false 0) vN MK wZ := by
 intro n E hn f c hs x k h
 unfold vN at hn
 split at hn
 ·cases hn; exact bU hs (by kernel_rfl) (by kernel_rfl) h.it
 ·cases hn
def nJ : List Sh := [sI, sI, sI]
theorem HB (x : aM nJ) (Q : QT) (h : eY x.1 x.2.1 x.2.2.1 (fun (r : Int) => Q (aC [(false, (.int .i64))] [.n] (r, ())))) : aH Tryz.prog 114 (aJ nJ x) Q := oG.told [.n] (rt := [(false, (.int .i64))]) hI0 IF Tryz.func114 (by kernel_rfl) (by kernel_rfl) (Nat.le_of_ble_eq_true rfl) h.it (by kernel_rfl)
noncomputable def o7 : Tb Tryz.prog := oG.add 114 nJ HB
def fF (x0 x2 x3 x9 : Int) (x13 x16 : List Int) (K0 : Int -> Prop) (s : Int × Int) (nx : (Int × Int) -> Prop) : Prop :=
 if (decide (s.2 < x9)) = true then ck ((0 : Int) <= (IntKind.i64.wrap ((IntKind.i64.wrap (x2 * x0)) + s.2)) /\ (IntKind.i64.wrap ((IntKind.i64.wrap (x2 * x0)) + s.2)) < (x13.length : Int)) (ck ((0 : Int) <= (IntKind.i64.wrap ((IntKind.i64.wrap (x3 * x0)) + s.2)) /\ (IntKind.i64.wrap ((IntKind.i64.wrap (x3 * x0)) + s.2)) < (x16.length : Int)) (nx (IntKind.i64.wrap (s.1 + (IntKind.i64.wrap ((IntKind.i64.wrap (x13.getD ((IntKind.i64.wrap ((IntKind.i64.wrap (x2 * x0)) + s.2)).toNat) 0)) * (IntKind.i64.wrap (x16.getD ((IntKind.i64.wrap ((IntKind.i64.wrap (x3 * x0)) + s.2)).toNat) 0))))), IntKind.i64.wrap (s.2 + 1)))) else K0 s.1
structure tV (x0 x2 x3 x9 : Int) (x13 x16 : List Int) (K0 : Int -> Prop) (s : Int × Int) : Prop where
 it : Go.Mach.Loop (fF x0 x2 x3 x9 x13 x16 K0) s
def fH (x0 x1 x2 x5 : Int) (x9 x12 : List Int) (x14 : Int) (x15 : List Int) (x18 : Int) (K0 : (List Int) -> Prop) (s : Int × List Int) (nx : (Int × List Int) -> Prop) : Prop :=
 if (decide (s.1 < x5)) = true then ck ((0 : Int) <= s.1 /\ s.1 < (x15.length : Int)) (eY (IntKind.i64.wrap (x15.getD ((s.1).toNat) 0)) x14 x18 (fun (r7 : Int) => tV x0 x2 s.1 x0 x9 x12 (fun (y8 : Int) => ck ((0 : Int) <= (IntKind.i64.wrap ((IntKind.i64.wrap (x2 * x1)) + s.1)) /\ (IntKind.i64.wrap ((IntKind.i64.wrap (x2 * x1)) + s.1)) < (s.2.length : Int)) (nx (IntKind.i64.wrap (s.1 + 1), s.2.set ((IntKind.i64.wrap ((IntKind.i64.wrap (x2 * x1)) + s.1)).toNat) (IntKind.i32.wrap y8)))) (r7, 0))) else K0 s.2
structure tQ (x0 x1 x2 x5 : Int) (x9 x12 : List Int) (x14 : Int) (x15 : List Int) (x18 : Int) (K0 : (List Int) -> Prop) (s : Int × List Int) : Prop where
 it : Go.Mach.Loop (fH x0 x1 x2 x5 x9 x12 x14 x15 x18 K0) s
def fI (x0 x1 x2 : Int) (x6 x9 : List Int) (x11 : Int) (x12 : List Int) (x15 : Int) (K0 : (List Int) -> Prop) (s : Int × List Int) (nx : (Int × List Int) -> Prop) : Prop :=
 if (decide (s.1 < x2)) = true then tQ x0 x1 s.1 x1 x6 x9 x11 x12 x15 (fun (y7 : List Int) => nx (IntKind.i64.wrap (s.1 + 1), y7)) (0, s.2) else K0 s.2
structure kS (x0 x1 x2 : Int) (x6 x9 : List Int) (x11 : Int) (x12 : List Int) (x15 : Int) (K0 : (List Int) -> Prop) (s : Int × List Int) : Prop where
 it : Go.Mach.Loop (fI x0 x1 x2 x6 x9 x11 x12 x15 K0) s
structure kW (x0 : List Int) (x1 : Int) (x2 x3 : List Int) (x4 : Int) (x5 : List Int) (x7 : Int) (x8 : List Int) (K0 : (Int × (List Int) × Int × List Int) -> Prop) : Prop where
 it : ck ((0 : Int) <= 0 /\ 0 < (x0.length : Int)) (ck ((0 : Int) <= 1 /\ 1 < (x0.length : Int)) (ck ((0 : Int) <= 0 /\ 0 < (x3.length : Int)) (kO [x0.getD 0 0, x3.getD 0 0] (IntKind.i64.wrap (x1 + x4)) (x0.getD 1 0) (fun (r6 : iE × Int) => if (r6.2 != 0) = true then K0 (r6.2, r6.1.1, r6.1.2.1, r6.1.2.2) else kS (x0.getD 1 0) (x3.getD 0 0) (x0.getD 0 0) x2 x5 x7 x8 r6.1.2.1 (fun (y7 : List Int) => K0 (0, r6.1.1, r6.1.2.1, y7)) (0, r6.1.2.2)))))
structure pS (a0 a1 a2 : aR) (Q : (iE × Int) -> Prop) : Prop where
 it : b7 [a0, a1, a2] (fun (r1 : Bool) => if (!r1) = true then Q ((([] : List Int), (0, ([] : List Int))), 1) else jn (fun (v2 : Bool) => jn (fun (v4 : Bool) => if v4 = true then Q ((([] : List Int), (0, ([] : List Int))), 2) else kW a0.1 a0.2.1 a0.2.2 a1.1 a1.2.1 a1.2.2 a2.2.1 a2.2.2 (fun (y8 : Int × (List Int) × Int × List Int) => Q (y8.2, y8.1))) (fun J5 => if v2 = true then J5 true else ck ((0 : Int) <= 0 /\ 0 < (a2.1.length : Int)) (ck ((0 : Int) <= 0 /\ 0 < (a1.1.length : Int)) (J5 ((a2.1.getD 0 0) != (a1.1.getD 0 0)))))) (fun J3 => if ((((a0.1.length : Int) != 2) || ((a1.1.length : Int) != 2)) || ((a2.1.length : Int) != 1)) = true then J3 true else ck ((0 : Int) <= 1 /\ 1 < (a0.1.length : Int)) (ck ((0 : Int) <= 1 /\ 1 < (a1.1.length : Int)) (J3 ((a0.1.getD 1 0) != (a1.1.getD 1 0))))))
noncomputable def JF : Ent := ⟨[3, 4, 5, 6], [sC (.ptr 0 0), sC (.ptr 1 0), sC (.ptr 2 0), sC (.ptr 3 0)], [.box [lZ (.int .i64), lI, lZ (.int .i8)] false, .box [lZ (.int .i64), lI, lZ (.int .i8)] false, .box [lZ (.int .i64), lI, lZ (.int .i8)] false, .box [.cst (.pl (.slice none 0 0)), lI, .cst (.pl (.slice none 0 0))] false], fun x k => kW x.2.1.1 x.2.1.2.1 x.2.1.2.2.1 x.2.2.1.1 x.2.2.1.2.1 x.2.2.1.2.2.1 x.2.2.2.1.2.1 x.2.2.2.1.2.2.1 (fun (y9 : Int × (List Int) × Int × List Int) => k .ret ⟨[(6, .ptr 0 0), (7, vI y9.1)], [.box [vZ (.int .i64) y9.2.1, vI y9.2.2.1, .own 1] false, .lst true (.int .i32) y9.2.2.2 false]⟩)⟩
noncomputable def G3 : Ent := ⟨[3, 4, 5, 6, 9, 10, 11, 92, 93], [sC (.ptr 0 0), sC (.ptr 1 0), sC (.ptr 2 0), sC (.ptr 3 0), sI, sI, sC (.ptr 4 0), sI, sI], [.box [lZ (.int .i64), lI, lZ (.int .i8)] false, .box [lZ (.int .i64), lI, lZ (.int .i8)] false, .box [lZ (.int .i64), lI, lZ (.int .i8)] false, .box [.cst (.pl (.slice none 0 0)), lI, .cst (.pl (.slice none 0 0))] false, .box [lZ (.int .i64), lI, .cst (.own 5)] false, .lst true (.int .i32) false], fun x k => kS x.1.2.2.2.2.1 x.1.2.2.2.2.2.1 x.1.2.2.2.2.2.2.2.1 x.2.1.2.2.1 x.2.2.1.2.2.1 x.2.2.2.1.2.1 x.2.2.2.1.2.2.1 x.2.2.2.2.2.1.2.1 (fun (y10 : List Int) => k (.exit 0) ⟨[(6, .ptr 0 0), (11, .ptr 1 0)], [.box [.pl (.slice none 0 0), vI x.2.2.2.2.1.2.1, .pl (.slice none 0 0)] false, .box [vZ (.int .i64) x.2.2.2.2.2.1.1, vI x.2.2.2.2.2.1.2.1, .own 2] false, .lst true (.int .i32) y10 false]⟩) (x.1.2.2.2.2.2.2.2.2.1, x.2.2.2.2.2.2.1)⟩
noncomputable def GU : Ent := ⟨[3, 4, 5, 6, 9, 10, 11, 13, 92, 93, 96, 97], [sC (.ptr 0 0), sC (.ptr 1 0), sC (.ptr 2 0), sC (.ptr 3 0), sI, sI, sC (.ptr 4 0), sI, sI, sI, sI, sI], [.box [lZ (.int .i64), lI, lZ (.int .i8)] false, .box [lZ (.int .i64), lI, lZ (.int .i8)] false, .box [lZ (.int .i64), lI, lZ (.int .i8)] false, .box [.cst (.pl (.slice none 0 0)), lI, .cst (.pl (.slice none 0 0))] false, .box [lZ (.int .i64), lI, .cst (.own 5)] false, .lst true (.int .i32) false], fun x k => tQ x.1.2.2.2.2.1 x.1.2.2.2.2.2.1 x.1.2.2.2.2.2.2.2.1 x.1.2.2.2.2.2.2.2.2.2.2.1 x.2.1.2.2.1 x.2.2.1.2.2.1 x.2.2.2.1.2.1 x.2.2.2.1.2.2.1 x.2.2.2.2.2.1.2.1 (fun (y11 : List Int) => k (.exit 2) ⟨[(3, .ptr 0 0), (4, .ptr 1 0), (5, .ptr 2 0), (6, .ptr 3 0), (9, vI x.1.2.2.2.2.1), (10, vI x.1.2.2.2.2.2.1), (11, .ptr 4 0), (92, vI x.1.2.2.2.2.2.2.2.2.1), (93, vI x.1.2.2.2.2.2.2.2.2.2.1)], [.box [vZ (.int .i64) x.2.1.1, vI x.2.1.2.1, vZ (.int .i8) x.2.1.2.2.1] false, .box [vZ (.int .i64) x.2.2.1.1, vI x.2.2.1.2.1, vZ (.int .i8) x.2.2.1.2.2.1] false, .box [vZ (.int .i64) x.2.2.2.1.1, vI x.2.2.2.1.2.1, vZ (.int .i8) x.2.2.2.1.2.2.1] false, .box [.pl (.slice none 0 0), vI x.2.2.2.2.1.2.1, .pl (.slice none 0 0)] false, .box [vZ (.int .i64) x.2.2.2.2.2.1.1, vI x.2.2.2.2.2.1.2.1, .own 5] false, .lst true (.int .i32) y11 false]⟩) (x.1.2.2.2.2.2.2.2.2.2.2.2.1, x.2.2.2.2.2.2.1)⟩
noncomputable def HJ : Ent := ⟨[3, 4, 5, 6, 9, 10, 11, 13, 14, 15, 92, 93, 96, 97, 111, 112], [sC (.ptr 0 0), sC (.ptr 1 0), sC (.ptr 2 0), sC (.ptr 3 0), sI, sI, sC (.ptr 4 0), sI, sI, sI, sI, sI, sI, sI, sI, sI], [.box [lZ (.int .i64), lI, lZ (.int .i8)] false, .box [lZ (.int .i64), lI, lZ (.int .i8)] false, .box [lZ (.int .i64), lI, lZ (.int .i8)] false, .box [.cst (.pl (.slice none 0 0)), lI, .cst (.pl (.slice none 0 0))] false, .box [lZ (.int .i64), lI, .cst (.own 5)] false, .lst true (.int .i32) false], fun x k => tV x.1.2.2.2.2.1 x.1.2.2.2.2.2.2.2.1 x.1.2.2.2.2.2.2.2.2.1 x.1.2.2.2.2.2.2.2.2.2.2.2.2.2.2.1 x.2.1.2.2.1 x.2.2.1.2.2.1 (fun (y12 : Int) => k (.exit 4) ⟨[(3, .ptr 0 0), (4, .ptr 1 0), (5, .ptr 2 0), (6, .ptr 3 0), (9, vI x.1.2.2.2.2.1), (10, vI x.1.2.2.2.2.2.1), (11, .ptr 4 0), (13, vI x.1.2.2.2.2.2.2.2.1), (14, vI x.1.2.2.2.2.2.2.2.2.1), (15, vI y12), (92, vI x.1.2.2.2.2.2.2.2.2.2.2.1), (93, vI x.1.2.2.2.2.2.2.2.2.2.2.2.1), (96, vI x.1.2.2.2.2.2.2.2.2.2.2.2.2.1), (97, vI x.1.2.2.2.2.2.2.2.2.2.2.2.2.2.1)], [.box [vZ (.int .i64) x.2.1.1, vI x.2.1.2.1, vZ (.int .i8) x.2.1.2.2.1] false, .box [vZ (.int .i64) x.2.2.1.1, vI x.2.2.1.2.1, vZ (.int .i8) x.2.2.1.2.2.1] false, .box [vZ (.int .i64) x.2.2.2.1.1, vI x.2.2.2.1.2.1, vZ (.int .i8) x.2.2.2.1.2.2.1] false, .box [.pl (.slice none 0 0), vI x.2.2.2.2.1.2.1, .pl (.slice none 0 0)] false, .box [vZ (.int .i64) x.2.2.2.2.2.1.1, vI x.2.2.2.2.2.1.2.1, .own 5] false, .lst true (.int .i32) x.2.2.2.2.2.2.1 false]⟩) (x.1.2.2.2.2.2.2.2.2.2.1, x.1.2.2.2.2.2.2.2.2.2.2.2.2.2.2.2.1)⟩
noncomputable def tZ : Tab := fun n => match n with | 15 => some JF | 1018 => some G3 | 260710 => some GU | 266967450 => some HJ | _ => none
noncomputable def vF : Code := (bod Tryz.f65).getD .skip
noncomputable def G6 : Go.Mach.Ends := aN vF [6, 7] []
theorem GS : aI (o7.cfg tt none false 0) tZ G6 vF := by
 intro n E hn f c hs x k h
 unfold tZ at hn
 split at hn
 ·cases hn; exact bU hs (by kernel_rfl) (by kernel_rfl) h.it
 ·cases hn; exact aG rfl hs (by kernel_rfl) (fun y : Int × List Int => ⟨[(3, .ptr 0 0), (4, .ptr 1 0), (5, .ptr 2 0), (6, .ptr 3 0), (9, vI x.1.2.2.2.2.1), (10, vI x.1.2.2.2.2.2.1), (11, .ptr 4 0), (92, vI x.1.2.2.2.2.2.2.2.1), (93, vI y.1)], [.box [vZ (.int .i64) x.2.1.1, vI x.2.1.2.1, vZ (.int .i8) x.2.1.2.2.1] false, .box [vZ (.int .i64) x.2.2.1.1, vI x.2.2.1.2.1, vZ (.int .i8) x.2.2.1.2.2.1] false, .box [vZ (.int .i64) x.2.2.2.1.1, vI x.2.2.2.1.2.1, vZ (.int .i8) x.2.2.2.1.2.2.1] false, .box [.pl (.slice none 0 0), vI x.2.2.2.2.1.2.1, .pl (.slice none 0 0)] false, .box [vZ (.int .i64) x.2.2.2.2.2.1.1, vI x.2.2.2.2.2.1.2.1, .own 5] false, .lst true (.int .i32) y.2 false]⟩) (x.1.2.2.2.2.2.2.2.2.1, x.2.2.2.2.2.2.1) (by kernel_rfl) (fun y X => by kernel_rfl) h.it
 ·cases hn; exact aG rfl hs (by kernel_rfl) (fun y : Int × List Int => ⟨[(3, .ptr 0 0), (4, .ptr 1 0), (5, .ptr 2 0), (6, .ptr 3 0), (9, vI x.1.2.2.2.2.1), (10, vI x.1.2.2.2.2.2.1), (11, .ptr 4 0), (13, vI x.1.2.2.2.2.2.2.2.1), (92, vI x.1.2.2.2.2.2.2.2.2.1), (93, vI x.1.2.2.2.2.2.2.2.2.2.1), (96, vI x.1.2.2.2.2.2.2.2.2.2.2.1), (97, vI y.1)], [.box [vZ (.int .i64) x.2.1.1, vI x.2.1.2.1, vZ (.int .i8) x.2.1.2.2.1] false, .box [vZ (.int .i64) x.2.2.1.1, vI x.2.2.1.2.1, vZ (.int .i8) x.2.2.1.2.2.1] false, .box [vZ (.int .i64) x.2.2.2.1.1, vI x.2.2.2.1.2.1, vZ (.int .i8) x.2.2.2.1.2.2.1] false, .box [.pl (.slice none 0 0), vI x.2.2.2.2.1.2.1, .pl (.slice none 0 0)] false, .box [vZ (.int .i64) x.2.2.2.2.2.1.1, vI x.2.2.2.2.2.1.2.1, .own 5] false, .lst true (.int .i32) y.2 false]⟩) (x.1.2.2.2.2.2.2.2.2.2.2.2.1, x.2.2.2.2.2.2.1) (by kernel_rfl) (fun y X => by kernel_rfl) h.it
 ·cases hn; exact aG rfl hs (by kernel_rfl) (fun y : Int × Int => ⟨[(3, .ptr 0 0), (4, .ptr 1 0), (5, .ptr 2 0), (6, .ptr 3 0), (9, vI x.1.2.2.2.2.1), (10, vI x.1.2.2.2.2.2.1), (11, .ptr 4 0), (13, vI x.1.2.2.2.2.2.2.2.1), (14, vI x.1.2.2.2.2.2.2.2.2.1), (15, vI y.1), (92, vI x.1.2.2.2.2.2.2.2.2.2.2.1), (93, vI x.1.2.2.2.2.2.2.2.2.2.2.2.1), (96, vI x.1.2.2.2.2.2.2.2.2.2.2.2.2.1), (97, vI x.1.2.2.2.2.2.2.2.2.2.2.2.2.2.1), (111, vI x.1.2.2.2.2.2.2.2.2.2.2.2.2.2.2.1), (112, vI y.2)], [.box [vZ (.int .i64) x.2.1.1, vI x.2.1.2.1, vZ (.int .i8) x.2.1.2.2.1] false, .box [vZ (.int .i64) x.2.2.1.1, vI x.2.2.1.2.1, vZ (.int .i8) x.2.2.1.2.2.1] false, .box [vZ (.int .i64) x.2.2.2.1.1, vI x.2.2.2.1.2.1, vZ (.int .i8) x.2.2.2.1.2.2.1] false, .box [.pl (.slice none 0 0), vI x.2.2.2.2.1.2.1, .pl (.slice none 0 0)] false, .box [vZ (.int .i64) x.2.2.2.2.2.1.1, vI x.2.2.2.2.2.1.2.1, .own 5] false, .lst true (.int .i32) x.2.2.2.2.2.2.1 false]⟩) (x.1.2.2.2.2.2.2.2.2.2.1, x.1.2.2.2.2.2.2.2.2.2.2.2.2.2.2.2.1) (by kernel_rfl) (fun y X => by kernel_rfl) h.it
 ·cases hn
def lF : List Sh := [.agg [lZ (.int .i64), lI, lZ (.int .i8)], .agg [lZ (.int .i64), lI, lZ (.int .i8)], .agg [lZ (.int .i64), lI, lZ (.int .i8)]]
theorem FK (x : aM lF) (Q : QT) (h : pS (x.1.1, (x.1.2.1, x.1.2.2.1)) (x.2.1.1, (x.2.1.2.1, x.2.1.2.2.1)) (x.2.2.1.1, (x.2.2.1.2.1, x.2.2.1.2.2.1)) (fun (r : iE × Int) => Q (aC [(true, uE), (false, (.int .i64))] [(.p .f .n), .n] (r.1, (r.2, ()))))) : aH Tryz.prog 65 (aJ lF x) Q := o7.told [(.p .f .n), .n] (rt := [(true, uE), (false, (.int .i64))]) hI0 GS Tryz.func65 (by kernel_rfl) (by kernel_rfl) (Nat.le_of_ble_eq_true rfl) h.it (by kernel_rfl)
noncomputable def mA : Tb Tryz.prog := o7.add 65 lF FK
def eI (x4 : List Int) (x5 : Int) (K0 : Int -> Prop) (s : Int × Int) (nx : (Int × Int) -> Prop) : Prop :=
 if (decide (s.2 < x5)) = true then ck ((0 : Int) <= s.2 /\ s.2 < (x4.length : Int)) (nx (IntKind.i64.wrap (s.1 * (x4.getD ((s.2).toNat) 0)), IntKind.i64.wrap (s.2 + 1))) else K0 s.1
structure j4 (x4 : List Int) (x5 : Int) (K0 : Int -> Prop) (s : Int × Int) : Prop where
 it : Go.Mach.Loop (eI x4 x5 K0) s
def eS (x0 : List Int) (x1 : Int) (K0 : (List Int) -> Prop) (s : Int × List Int) (nx : (Int × List Int) -> Prop) : Prop :=
 if (decide (s.1 < x1)) = true then ck (x0 ≠ [] /\ (0 : Int) <= (IntKind.i64.wrap (s.1 + 1)) /\ (IntKind.i64.wrap (s.1 + 1)) <= (x0.length : Int) /\ (x0.length : Int) <= (x0.length : Int)) (j4 ((x0.take ((x0.length : Int)).toNat).drop (IntKind.i64.wrap (s.1 + 1)).toNat) (((x0.take ((x0.length : Int)).toNat).drop (IntKind.i64.wrap (s.1 + 1)).toNat).length : Int) (fun (y3 : Int) => ck ((s.2.length + [y3].length) * 8 <= 140737488355328) (nx (IntKind.i64.wrap (s.1 + 1), s.2 ++ [y3]))) (1, 0)) else K0 s.2
structure rZ (x0 : List Int) (x1 : Int) (K0 : (List Int) -> Prop) (s : Int × List Int) : Prop where
 it : Go.Mach.Loop (eS x0 x1 K0) s
structure n6 (a0 : List Int) (Q : (List Int) -> Prop) : Prop where
 it : bK a0 (fun (r1 : Bool) => if (!r1) = true then Q ([] : List Int) else rZ a0 (a0.length : Int) (fun (y4 : List Int) => Q y4) (0, ([] : List Int)))
noncomputable def FQ : Ent := ⟨[0, 3, 12, 13], [sZ (.int .i64), sC (.pl (.slice none 0 0)), sI, sI], [], fun x k => rZ x.1.1 x.1.2.2.1 (fun (y5 : List Int) => k (.exit 0) ⟨[(3, .own 0)], [.lst true (.int .i64) y5 false]⟩) (x.1.2.2.2.1, ([] : List Int))⟩
noncomputable def F1 : Ent := ⟨[0, 3, 5, 12, 13, 19, 20, 21], [sZ (.int .i64), sC (.own 0), sI, sI, sI, sZ (.int .i64), sI, sI], [.lst true (.int .i64) false], fun x k => j4 x.1.2.2.2.2.2.1 x.1.2.2.2.2.2.2.1 (fun (y6 : Int) => k (.exit 2) ⟨[(0, vZ (.int .i64) x.1.1), (3, .own 0), (5, vI y6), (12, vI x.1.2.2.2.1), (13, vI x.1.2.2.2.2.1)], [.lst true (.int .i64) x.2.1 false]⟩) (x.1.2.2.1, x.1.2.2.2.2.2.2.2.1)⟩
noncomputable def sD : Tab := fun n => match n with | 122 => some FQ | 125338 => some F1 | _ => none
noncomputable def tN : Code := (bod Tryz.f175).getD .skip
noncomputable def FG : Go.Mach.Ends := aN tN [2] [(122, [⟨3, none, false, (.int .i64)⟩])]
theorem DQ : aI (mA.cfg tt none false 0) sD FG tN := by
 intro n E hn f c hs x k h
 unfold sD at hn
 split at hn
 ·cases hn; exact aG rfl hs (by kernel_rfl) (fun y : Int × List Int => ⟨[(0, vZ (.int .i64) x.1.1), (3, .own 0), (12, vI x.1.2.2.1), (13, vI y.1)], [.lst true (.int .i64) y.2 false]⟩) (x.1.2.2.2.1, ([] : List Int)) (by kernel_rfl) (fun y X => by kernel_rfl) h.it
 ·cases hn; exact aG rfl hs (by kernel_rfl) (fun y : Int × Int => ⟨[(0, vZ (.int .i64) x.1.1), (3, .own 0), (5, vI y.1), (12, vI x.1.2.2.2.1), (13, vI x.1.2.2.2.2.1), (19, vZ (.int .i64) x.1.2.2.2.2.2.1), (20, vI x.1.2.2.2.2.2.2.1), (21, vI y.2)], [.lst true (.int .i64) x.2.1 false]⟩) (x.1.2.2.1, x.1.2.2.2.2.2.2.2.1) (by kernel_rfl) (fun y X => by kernel_rfl) h.it
 ·cases hn
def j9 : List Sh := [sZ (.int .i64)]
theorem DO (x : aM j9) (Q : QT) (h : n6 x.1 (fun (r : List Int) => Q (aC [(false, (.slc (.int .i64)))] [.n] (r, ())))) : aH Tryz.prog 175 (aJ j9 x) Q := mA.told [.n] (rt := [(false, (.slc (.int .i64)))]) hI0 DQ Tryz.func175 (by kernel_rfl) (by kernel_rfl) (Nat.le_of_ble_eq_true rfl) h.it (by kernel_rfl)
noncomputable def lP : Tb Tryz.prog := mA.add 175 j9 DO
def jG (x1 : Int) (x4 : List Int) (K0 : (List Int) -> Prop) (s : Int × Int × List Int) (nx : (Int × Int × List Int) -> Prop) : Prop :=
 if (decide (s.2.1 < x1)) = true then ck ((0 : Int) <= s.2.1 /\ s.2.1 < (x4.length : Int)) (ck ((x4.getD ((s.2.1).toNat) 0) ≠ (0 : Int)) (ck ((s.2.2.length + [IntKind.i64.wrap ((s.1).tdiv (x4.getD ((s.2.1).toNat) 0))].length) * 8 <= 140737488355328) (ck ((x4.getD ((s.2.1).toNat) 0) ≠ (0 : Int)) (nx ((s.1).tmod (x4.getD ((s.2.1).toNat) 0), IntKind.i64.wrap (s.2.1 + 1), s.2.2 ++ [IntKind.i64.wrap ((s.1).tdiv (x4.getD ((s.2.1).toNat) 0))]))))) else K0 s.2.2
structure t5 (x1 : Int) (x4 : List Int) (K0 : (List Int) -> Prop) (s : Int × Int × List Int) : Prop where
 it : Go.Mach.Loop (jG x1 x4 K0) s
structure c8 (a0 : List Int) (a1 : Int) (Q : (List Int) -> Prop) : Prop where
 it : jn (fun (v1 : Bool) => if v1 = true then Q ([] : List Int) else n6 a0 (fun (r4 : List Int) => t5 (r4.length : Int) r4 (fun (y5 : List Int) => Q y5) (a1, 0, ([] : List Int)))) (fun J2 => if (decide (a1 < 0)) = true then J2 true else dR a0 (fun (r3 : Int) => J2 (decide (r3 <= a1))))
noncomputable def I1 : Ent := ⟨[1, 5, 17, 18, 19], [sI, sC (.pl (.slice none 0 0)), sC (.own 0), sI, sI], [.lst true (.int .i64) false], fun x k => t5 x.1.2.2.2.1 x.2.1 (fun (y6 : List Int) => k (.exit 0) ⟨[(5, .own 0)], [.lst true (.int .i64) y6 false]⟩) (x.1.1, x.1.2.2.2.2.1, ([] : List Int))⟩
noncomputable def tX : Tab := fun n => match n with | 122 => some I1 | _ => none
noncomputable def u6 : Code := (bod Tryz.f116).getD .skip
noncomputable def HF : Go.Mach.Ends := aN u6 [4] [(122, [⟨5, none, false, (.int .i64)⟩])]
theorem GA : aI (lP.cfg tt none false 0) tX HF u6 := by
 intro n E hn f c hs x k h
 unfold tX at hn
 split at hn
 ·cases hn; exact aG rfl hs (by kernel_rfl) (fun y : Int × Int × List Int => ⟨[(1, vI y.1), (5, .own 0), (17, .own 1), (18, vI x.1.2.2.2.1), (19, vI y.2.1)], [.lst true (.int .i64) y.2.2 false, .lst true (.int .i64) x.2.1 false]⟩) (x.1.1, x.1.2.2.2.2.1, ([] : List Int)) (by kernel_rfl) (fun y X => by kernel_rfl) h.it
 ·cases hn
def kY : List Sh := [sZ (.int .i64), sI]
theorem GJ (x : aM kY) (Q : QT) (h : c8 x.1 x.2.1 (fun (r : List Int) => Q (aC [(false, (.slc (.int .i64)))] [.n] (r, ())))) : aH Tryz.prog 116 (aJ kY x) Q := lP.told [.n] (rt := [(false, (.slc (.int .i64)))]) hI0 GA Tryz.func116 (by kernel_rfl) (by kernel_rfl) (Nat.le_of_ble_eq_true rfl) h.it (by kernel_rfl)
noncomputable def mM : Tb Tryz.prog := lP.add 116 kY GJ
structure kZ (x11 : Int) (K0 : Int -> Prop) : Prop where
 it : K0 (IntKind.i64.wrap (x11 + 1))
def fG (x0 x1 x2 x3 x5 x6 x7 x10 : Int) (K0 : (List aX) -> Prop) (s : Int × List aX) (nx : (Int × List aX) -> Prop) : Prop :=
 if (decide (s.1 < x10)) = true then if ((((decide (0 <= (IntKind.i64.wrap ((IntKind.i64.wrap ((IntKind.i64.wrap (x2 * x5)) - x6)) + x7)))) && (decide ((IntKind.i64.wrap ((IntKind.i64.wrap ((IntKind.i64.wrap (x2 * x5)) - x6)) + x7)) < x0))) && (decide (0 <= (IntKind.i64.wrap ((IntKind.i64.wrap ((IntKind.i64.wrap (x3 * x5)) - x6)) + s.1))))) && (decide ((IntKind.i64.wrap ((IntKind.i64.wrap ((IntKind.i64.wrap (x3 * x5)) - x6)) + s.1)) < x1))) = true then ck ((s.2.length + [(IntKind.i64.wrap ((IntKind.i64.wrap ((IntKind.i64.wrap ((IntKind.i64.wrap ((IntKind.i64.wrap (x2 * x5)) - x6)) + x7)) * x1)) + (IntKind.i64.wrap ((IntKind.i64.wrap ((IntKind.i64.wrap (x3 * x5)) - x6)) + s.1))), (x7, s.1))].length) * 24 <= 140737488355328) (kZ s.1 (fun (y10 : Int) => nx (y10, (s.2 ++ [(IntKind.i64.wrap ((IntKind.i64.wrap ((IntKind.i64.wrap ((IntKind.i64.wrap ((IntKind.i64.wrap (x2 * x5)) - x6)) + x7)) * x1)) + (IntKind.i64.wrap ((IntKind.i64.wrap ((IntKind.i64.wrap (x3 * x5)) - x6)) + s.1))), (x7, s.1))])))) else kZ s.1 (fun (y11 : Int) => nx (y11, s.2)) else K0 s.2
structure lH (x0 x1 x2 x3 x5 x6 x7 x10 : Int) (K0 : (List aX) -> Prop) (s : Int × List aX) : Prop where
 it : Go.Mach.Loop (fG x0 x1 x2 x3 x5 x6 x7 x10 K0) s
def fB (x0 x1 x2 x3 x4 x5 x6 x7 : Int) (K0 : (List aX) -> Prop) (s : Int × List aX) (nx : (Int × List aX) -> Prop) : Prop :=
 if (decide (s.1 < x7)) = true then lH x0 x1 x2 x3 x5 x6 s.1 x4 (fun (y10 : List aX) => nx (IntKind.i64.wrap (s.1 + 1), y10)) (0, s.2) else K0 s.2
structure t6 (x0 x1 x2 x3 x4 x5 x6 x7 : Int) (K0 : (List aX) -> Prop) (s : Int × List aX) : Prop where
 it : Go.Mach.Loop (fB x0 x1 x2 x3 x4 x5 x6 x7 K0) s
structure gK (a0 a1 a2 a3 a4 a5 a6 : Int) (Q : (List aX) -> Prop) : Prop where
 it : jn (fun (v1 : Bool) => jn (fun (v4 : Bool) => if v4 = true then Q ([] : List aX) else t6 a0 a1 a2 a3 a4 a5 a6 a4 (fun (y11 : List aX) => Q y11) (0, ([] : List aX))) (fun J5 => if v1 = true then J5 true else eX a1 a4 a5 a6 (fun (r6 : Int) => J5 (decide (r6 <= a3))))) (fun J2 => if ((decide (a2 < 0)) || (decide (a3 < 0))) = true then J2 true else eX a0 a4 a5 a6 (fun (r3 : Int) => J2 (decide (r3 <= a2))))
noncomputable def HW : Ent := ⟨[0, 1, 2, 3, 4, 5, 6, 15, 44, 45], [sI, sI, sI, sI, sI, sI, sI, sC (.pl (.slice none 0 0)), sI, sI], [], fun x k => t6 x.1.1 x.1.2.1 x.1.2.2.1 x.1.2.2.2.1 x.1.2.2.2.2.1 x.1.2.2.2.2.2.1 x.1.2.2.2.2.2.2.1 x.1.2.2.2.2.2.2.2.2.1 (fun (y12 : List aX) => k (.exit 0) ⟨[(15, .own 0)], [.lst true bZ y12 false]⟩) (x.1.2.2.2.2.2.2.2.2.2.1, ([] : List aX))⟩
noncomputable def HQ : Ent := ⟨[0, 1, 2, 3, 4, 5, 6, 15, 16, 44, 45, 48, 49], [sI, sI, sI, sI, sI, sI, sI, sC (.own 0), sI, sI, sI, sI, sI], [.lst true bZ false], fun x k => lH x.1.1 x.1.2.1 x.1.2.2.1 x.1.2.2.2.1 x.1.2.2.2.2.2.1 x.1.2.2.2.2.2.2.1 x.1.2.2.2.2.2.2.2.2.1 x.1.2.2.2.2.2.2.2.2.2.2.2.1 (fun (y13 : List aX) => k (.exit 2) ⟨[(0, vI x.1.1), (1, vI x.1.2.1), (2, vI x.1.2.2.1), (3, vI x.1.2.2.2.1), (4, vI x.1.2.2.2.2.1), (5, vI x.1.2.2.2.2.2.1), (6, vI x.1.2.2.2.2.2.2.1), (15, .own 0), (44, vI x.1.2.2.2.2.2.2.2.2.2.1), (45, vI x.1.2.2.2.2.2.2.2.2.2.2.1)], [.lst true bZ y13 false]⟩) (x.1.2.2.2.2.2.2.2.2.2.2.2.2.1, x.2.1)⟩
noncomputable def GV : Ent := ⟨[0, 1, 2, 3, 4, 5, 6, 15, 16, 44, 45, 48, 49], [sI, sI, sI, sI, sI, sI, sI, sC (.own 0), sI, sI, sI, sI, sI], [.lst true bZ false], fun x k => kZ x.1.2.2.2.2.2.2.2.2.2.2.2.2.1 (fun (y14 : Int) => k .normal ⟨[(0, vI x.1.1), (1, vI x.1.2.1), (2, vI x.1.2.2.1), (3, vI x.1.2.2.2.1), (4, vI x.1.2.2.2.2.1), (5, vI x.1.2.2.2.2.2.1), (6, vI x.1.2.2.2.2.2.2.1), (15, .own 0), (16, vI x.1.2.2.2.2.2.2.2.2.1), (44, vI x.1.2.2.2.2.2.2.2.2.2.1), (45, vI x.1.2.2.2.2.2.2.2.2.2.2.1), (48, vI x.1.2.2.2.2.2.2.2.2.2.2.2.1), (49, vI y14)], [.lst true bZ x.2.1 false]⟩)⟩
noncomputable def t7 : Tab := fun n => match n with | 122 => some HW | 31334 => some HQ | 501351 => some GV | _ => none
noncomputable def uK : Code := (bod Tryz.f117).getD .skip
noncomputable def IY : Go.Mach.Ends := aN uK [14] [(122, [⟨15, none, false, bZ⟩]), (31334, [⟨15, none, false, bZ⟩])]
theorem GG : aI (mM.cfg tt none false 0) t7 IY uK := by
 intro n E hn f c hs x k h
 unfold t7 at hn
 split at hn
 ·cases hn; exact aG rfl hs (by kernel_rfl) (fun y : Int × List aX => ⟨[(0, vI x.1.1), (1, vI x.1.2.1), (2, vI x.1.2.2.1), (3, vI x.1.2.2.2.1), (4, vI x.1.2.2.2.2.1), (5, vI x.1.2.2.2.2.2.1), (6, vI x.1.2.2.2.2.2.2.1), (15, .own 0), (44, vI x.1.2.2.2.2.2.2.2.2.1), (45, vI y.1)], [.lst true bZ y.2 false]⟩) (x.1.2.2.2.2.2.2.2.2.2.1, ([] : List aX)) (by kernel_rfl) (fun y X => by kernel_rfl) h.it
 ·cases hn; exact aG rfl hs (by kernel_rfl) (fun y : Int × List aX => ⟨[(0, vI x.1.1), (1, vI x.1.2.1), (2, vI x.1.2.2.1), (3, vI x.1.2.2.2.1), (4, vI x.1.2.2.2.2.1), (5, vI x.1.2.2.2.2.2.1), (6, vI x.1.2.2.2.2.2.2.1), (15, .own 0), (16, vI x.1.2.2.2.2.2.2.2.2.1), (44, vI x.1.2.2.2.2.2.2.2.2.2.1), (45, vI x.1.2.2.2.2.2.2.2.2.2.2.1), (48, vI x.1.2.2.2.2.2.2.2.2.2.2.2.1), (49, vI y.1)], [.lst true bZ y.2 false]⟩) (x.1.2.2.2.2.2.2.2.2.2.2.2.2.1, x.2.1) (by kernel_rfl) (fun y X => by kernel_rfl) h.it
 ·cases hn; exact bU hs (by kernel_rfl) (by kernel_rfl) h.it
 ·cases hn
def lJ : List Sh := [sI, sI, sI, sI, sI, sI, sI]
theorem FH (x : aM lJ) (Q : QT) (h : gK x.1 x.2.1 x.2.2.1 x.2.2.2.1 x.2.2.2.2.1 x.2.2.2.2.2.1 x.2.2.2.2.2.2.1 (fun (r : List aX) => Q (aC [(false, (.slc bZ))] [.n] (r, ())))) : aH Tryz.prog 117 (aJ lJ x) Q := mM.told [.n] (rt := [(false, (.slc bZ))]) hI0 GG Tryz.func117 (by kernel_rfl) (by kernel_rfl) (Nat.le_of_ble_eq_true rfl) h.it (by kernel_rfl)
noncomputable def m8 : Tb Tryz.prog := mM.add 117 lJ FH
def f5 (x2 x3 x4 x5 x12 : Int) (x16 x19 x26 : List Int) (x27 x28 x29 : Int) (K0 : Int -> Prop) (s : Int × Int) (nx : (Int × Int) -> Prop) : Prop :=
 if (decide (s.2 < x12)) = true then ck ((0 : Int) <= 0 /\ 0 < (x26.length : Int)) (ck ((0 : Int) <= (IntKind.i64.wrap ((IntKind.i64.wrap ((IntKind.i64.wrap ((IntKind.i64.wrap ((IntKind.i64.wrap ((x26.getD 0 0) * x2)) + s.2)) * x3)) * x4)) + x27)) /\ (IntKind.i64.wrap ((IntKind.i64.wrap ((IntKind.i64.wrap ((IntKind.i64.wrap ((IntKind.i64.wrap ((x26.getD 0 0) * x2)) + s.2)) * x3)) * x4)) + x27)) < (x16.length : Int)) (ck ((0 : Int) <= 1 /\ 1 < (x26.length : Int)) (ck ((0 : Int) <= (IntKind.i64.wrap ((IntKind.i64.wrap ((IntKind.i64.wrap ((IntKind.i64.wrap ((IntKind.i64.wrap ((IntKind.i64.wrap ((x26.getD 1 0) * x2)) + s.2)) * x5)) + x28)) * x5)) + x29)) /\ (IntKind.i64.wrap ((IntKind.i64.wrap ((IntKind.i64.wrap ((IntKind.i64.wrap ((IntKind.i64.wrap ((IntKind.i64.wrap ((x26.getD 1 0) * x2)) + s.2)) * x5)) + x28)) * x5)) + x29)) < (x19.length : Int)) (nx (IntKind.i64.wrap (s.1 + (IntKind.i64.wrap ((IntKind.i64.wrap (x16.getD ((IntKind.i64.wrap ((IntKind.i64.wrap ((IntKind.i64.wrap ((IntKind.i64.wrap ((IntKind.i64.wrap ((x26.getD 0 0) * x2)) + s.2)) * x3)) * x4)) + x27)).toNat) 0)) * (IntKind.i64.wrap (x19.getD ((IntKind.i64.wrap ((IntKind.i64.wrap ((IntKind.i64.wrap ((IntKind.i64.wrap ((IntKind.i64.wrap ((IntKind.i64.wrap ((x26.getD 1 0) * x2)) + s.2)) * x5)) + x28)) * x5)) + x29)).toNat) 0))))), IntKind.i64.wrap (s.2 + 1)))))) else K0 s.1
structure mE (x2 x3 x4 x5 x12 : Int) (x16 x19 x26 : List Int) (x27 x28 x29 : Int) (K0 : Int -> Prop) (s : Int × Int) : Prop where
 it : Go.Mach.Loop (f5 x2 x3 x4 x5 x12 x16 x19 x26 x27 x28 x29 K0) s
def f8 (x2 x3 x4 x5 x10 : Int) (x14 x17 x24 : List Int) (x25 : List aX) (K0 : Int -> Prop) (s : Int × Int) (nx : (Int × Int) -> Prop) : Prop :=
 if (decide (s.2 < x10)) = true then ck ((0 : Int) <= s.2 /\ s.2 < (x25.length : Int)) (mE x2 x3 x4 x5 x2 x14 x17 x24 ((x25.getD ((s.2).toNat) (0, (0, 0))).1) (((x25.getD ((s.2).toNat) (0, (0, 0))).2).1) (((x25.getD ((s.2).toNat) (0, (0, 0))).2).2) (fun (y13 : Int) => nx (y13, IntKind.i64.wrap (s.2 + 1))) (s.1, 0)) else K0 s.1
structure nK (x2 x3 x4 x5 x10 : Int) (x14 x17 x24 : List Int) (x25 : List aX) (K0 : Int -> Prop) (s : Int × Int) : Prop where
 it : Go.Mach.Loop (f8 x2 x3 x4 x5 x10 x14 x17 x24 x25 K0) s
def gA (x0 x1 x2 x3 x4 x5 x6 : Int) (x10 x13 : List Int) (x15 : Int) (x16 x18 : List Int) (x19 : Int) (K0 : (List Int) -> Prop) (s : Int × List Int) (nx : (Int × List Int) -> Prop) : Prop :=
 if (decide (s.1 < x6)) = true then c8 x18 s.1 (fun (r10 : List Int) => ck ((0 : Int) <= 1 /\ 1 < (r10.length : Int)) (ck ((0 : Int) <= (r10.getD 1 0) /\ (r10.getD 1 0) < (x16.length : Int)) (eY (IntKind.i64.wrap (x16.getD ((r10.getD 1 0).toNat) 0)) x15 x19 (fun (r11 : Int) => ck ((0 : Int) <= 2 /\ 2 < (r10.length : Int)) (ck ((0 : Int) <= 3 /\ 3 < (r10.length : Int)) (gK x3 x4 (r10.getD 2 0) (r10.getD 3 0) x5 x0 x1 (fun (r12 : List aX) => nK x2 x3 x4 x5 (r12.length : Int) x10 x13 r10 r12 (fun (y13 : Int) => ck ((0 : Int) <= s.1 /\ s.1 < (s.2.length : Int)) (nx (IntKind.i64.wrap (s.1 + 1), s.2.set ((s.1).toNat) (IntKind.i32.wrap y13)))) (r11, 0)))))))) else K0 s.2
structure nI (x0 x1 x2 x3 x4 x5 x6 : Int) (x10 x13 : List Int) (x15 : Int) (x16 x18 : List Int) (x19 : Int) (K0 : (List Int) -> Prop) (s : Int × List Int) : Prop where
 it : Go.Mach.Loop (gA x0 x1 x2 x3 x4 x5 x6 x10 x13 x15 x16 x18 x19 K0) s
structure uV (x0 x1 x2 x3 x4 x5 x6 x7 : Int) (x10 x13 : List Int) (x15 : Int) (x16 x18 : List Int) (x19 : Int) (x20 : List Int) (K0 : (List Int) -> Prop) : Prop where
 it : nI x0 x1 x2 x3 x4 x5 x6 x10 x13 x15 x16 x18 x19 (fun (y10 : List Int) => K0 y10) (x7, x20)
structure rI (a0 a1 a2 : aR) (a3 a4 : Int) (Q : (iE × Int) -> Prop) : Prop where
 it : b7 [a0, a1, a2] (fun (r1 : Bool) => if (!r1) = true then Q ((([] : List Int), (0, ([] : List Int))), 1) else jn (fun (v2 : Bool) => jn (fun (v4 : Bool) => jn (fun (v6 : Bool) => if v6 = true then Q ((([] : List Int), (0, ([] : List Int))), 2) else ck ((0 : Int) <= 0 /\ 0 < (a0.1.length : Int)) (ck ((0 : Int) <= 1 /\ 1 < (a0.1.length : Int)) (ck ((0 : Int) <= 2 /\ 2 < (a0.1.length : Int)) (ck ((0 : Int) <= 3 /\ 3 < (a0.1.length : Int)) (ck ((0 : Int) <= 0 /\ 0 < (a1.1.length : Int)) (ck ((0 : Int) <= 2 /\ 2 < (a1.1.length : Int)) (dA (a0.1.getD 2 0) (a0.1.getD 3 0) (a1.1.getD 2 0) a3 a4 (fun (r8 : Int × Int) => if ((r8.1 == 0) || (r8.2 == 0)) = true then Q ((([] : List Int), (0, ([] : List Int))), 2) else kO [a0.1.getD 0 0, a1.1.getD 0 0, r8.1, r8.2] (IntKind.i64.wrap (a0.2.1 + a1.2.1)) (IntKind.i64.wrap ((IntKind.i64.wrap ((a0.1.getD 1 0) * (a1.1.getD 2 0))) * (a1.1.getD 2 0))) (fun (r9 : iE × Int) => if (r9.2 != 0) = true then Q (r9.1, r9.2) else uV a3 a4 (a0.1.getD 1 0) (a0.1.getD 2 0) (a0.1.getD 3 0) (a1.1.getD 2 0) (r9.1.2.2.length : Int) 0 a0.2.2 a1.2.2 a2.2.1 a2.2.2 r9.1.1 r9.1.2.1 r9.1.2.2 (fun (y11 : List Int) => Q ((r9.1.1, (r9.1.2.1, y11)), 0))))))))))) (fun J7 => if v4 = true then J7 true else ck ((0 : Int) <= 0 /\ 0 < (a2.1.length : Int)) (ck ((0 : Int) <= 0 /\ 0 < (a1.1.length : Int)) (J7 ((a2.1.getD 0 0) != (a1.1.getD 0 0)))))) (fun J5 => if v2 = true then J5 true else ck ((0 : Int) <= 2 /\ 2 < (a1.1.length : Int)) (ck ((0 : Int) <= 3 /\ 3 < (a1.1.length : Int)) (J5 ((a1.1.getD 2 0) != (a1.1.getD 3 0)))))) (fun J3 => if ((((a0.1.length : Int) != 4) || ((a1.1.length : Int) != 4)) || ((a2.1.length : Int) != 1)) = true then J3 true else ck ((0 : Int) <= 1 /\ 1 < (a0.1.length : Int)) (ck ((0 : Int) <= 1 /\ 1 < (a1.1.length : Int)) (J3 ((a0.1.getD 1 0) != (a1.1.getD 1 0))))))
noncomputable def JX : Ent := ⟨[3, 4, 5, 6, 7, 10, 13, 14, 15, 17, 20, 150, 151], [sI, sI, sC (.ptr 0 0), sC (.ptr 1 0), sC (.ptr 2 0), sC (.ptr 3 0), sI, sI, sI, sI, sC (.ptr 4 0), sI, sI], [.box [lZ (.int .i64), lI, lZ (.int .i8)] false, .box [lZ (.int .i64), lI, lZ (.int .i8)] false, .box [lZ (.int .i64), lI, lZ (.int .i8)] false, .box [.cst (.pl (.slice none 0 0)), lI, .cst (.pl (.slice none 0 0))] false, .box [lZ (.int .i64), lI, .cst (.own 5)] false, .lst true (.int .i32) false], fun x k => uV x.1.1 x.1.2.1 x.1.2.2.2.2.2.2.1 x.1.2.2.2.2.2.2.2.1 x.1.2.2.2.2.2.2.2.2.1 x.1.2.2.2.2.2.2.2.2.2.1 x.1.2.2.2.2.2.2.2.2.2.2.2.1 x.1.2.2.2.2.2.2.2.2.2.2.2.2.1 x.2.1.2.2.1 x.2.2.1.2.2.1 x.2.2.2.1.2.1 x.2.2.2.1.2.2.1 x.2.2.2.2.2.1.1 x.2.2.2.2.2.1.2.1 x.2.2.2.2.2.2.1 (fun (y12 : List Int) => k .normal ⟨[(10, .ptr 0 0), (20, .ptr 1 0)], [.box [.pl (.slice none 0 0), vI x.2.2.2.2.1.2.1, .pl (.slice none 0 0)] false, .box [vZ (.int .i64) x.2.2.2.2.2.1.1, vI x.2.2.2.2.2.1.2.1, .own 2] false, .lst true (.int .i32) y12 false]⟩)⟩
noncomputable def MZ : Ent := ⟨[3, 4, 5, 6, 7, 10, 13, 14, 15, 17, 20, 150, 151], [sI, sI, sC (.ptr 0 0), sC (.ptr 1 0), sC (.ptr 2 0), sC (.ptr 3 0), sI, sI, sI, sI, sC (.ptr 4 0), sI, sI], [.box [lZ (.int .i64), lI, lZ (.int .i8)] false, .box [lZ (.int .i64), lI, lZ (.int .i8)] false, .box [lZ (.int .i64), lI, lZ (.int .i8)] false, .box [.cst (.pl (.slice none 0 0)), lI, .cst (.pl (.slice none 0 0))] false, .box [lZ (.int .i64), lI, .cst (.own 5)] false, .lst true (.int .i32) false], fun x k => nI x.1.1 x.1.2.1 x.1.2.2.2.2.2.2.1 x.1.2.2.2.2.2.2.2.1 x.1.2.2.2.2.2.2.2.2.1 x.1.2.2.2.2.2.2.2.2.2.1 x.1.2.2.2.2.2.2.2.2.2.2.2.1 x.2.1.2.2.1 x.2.2.1.2.2.1 x.2.2.2.1.2.1 x.2.2.2.1.2.2.1 x.2.2.2.2.2.1.1 x.2.2.2.2.2.1.2.1 (fun (y13 : List Int) => k (.exit 0) ⟨[(10, .ptr 0 0), (20, .ptr 1 0)], [.box [.pl (.slice none 0 0), vI x.2.2.2.2.1.2.1, .pl (.slice none 0 0)] false, .box [vZ (.int .i64) x.2.2.2.2.2.1.1, vI x.2.2.2.2.2.1.2.1, .own 2] false, .lst true (.int .i32) y13 false]⟩) (x.1.2.2.2.2.2.2.2.2.2.2.2.2.1, x.2.2.2.2.2.2.1)⟩
noncomputable def MT : Ent := ⟨[3, 4, 5, 6, 7, 10, 13, 14, 15, 17, 20, 22, 23, 24, 150, 151, 182, 183, 184], [sI, sI, sC (.ptr 0 0), sC (.ptr 1 0), sC (.ptr 2 0), sC (.ptr 3 0), sI, sI, sI, sI, sC (.ptr 4 0), sI, sC (.own 5), sI, sI, sI, sC (.own 6), sI, sI], [.box [lZ (.int .i64), lI, lZ (.int .i8)] false, .box [lZ (.int .i64), lI, lZ (.int .i8)] false, .box [lZ (.int .i64), lI, lZ (.int .i8)] false, .box [.cst (.pl (.slice none 0 0)), lI, .cst (.pl (.slice none 0 0))] false, .box [lZ (.int .i64), lI, .cst (.own 7)] false, .lst true (.int .i64) false, .lst true bZ false, .lst true (.int .i32) false], fun x k => nK x.1.2.2.2.2.2.2.1 x.1.2.2.2.2.2.2.2.1 x.1.2.2.2.2.2.2.2.2.1 x.1.2.2.2.2.2.2.2.2.2.1 x.1.2.2.2.2.2.2.2.2.2.2.2.2.2.2.2.2.2.1 x.2.1.2.2.1 x.2.2.1.2.2.1 x.2.2.2.2.2.2.1 x.2.2.2.2.2.2.2.1 (fun (y14 : Int) => k (.exit 2) ⟨[(3, vI x.1.1), (4, vI x.1.2.1), (5, .ptr 0 0), (6, .ptr 1 0), (7, .ptr 2 0), (10, .ptr 3 0), (13, vI x.1.2.2.2.2.2.2.1), (14, vI x.1.2.2.2.2.2.2.2.1), (15, vI x.1.2.2.2.2.2.2.2.2.1), (17, vI x.1.2.2.2.2.2.2.2.2.2.1), (20, .ptr 4 0), (22, vI x.1.2.2.2.2.2.2.2.2.2.2.2.1), (24, vI y14), (150, vI x.1.2.2.2.2.2.2.2.2.2.2.2.2.2.2.1), (151, vI x.1.2.2.2.2.2.2.2.2.2.2.2.2.2.2.2.1)], [.box [vZ (.int .i64) x.2.1.1, vI x.2.1.2.1, vZ (.int .i8) x.2.1.2.2.1] false, .box [vZ (.int .i64) x.2.2.1.1, vI x.2.2.1.2.1, vZ (.int .i8) x.2.2.1.2.2.1] false, .box [vZ (.int .i64) x.2.2.2.1.1, vI x.2.2.2.1.2.1, vZ (.int .i8) x.2.2.2.1.2.2.1] false, .box [.pl (.slice none 0 0), vI x.2.2.2.2.1.2.1, .pl (.slice none 0 0)] false, .box [vZ (.int .i64) x.2.2.2.2.2.1.1, vI x.2.2.2.2.2.1.2.1, .own 5] false, .lst true (.int .i32) x.2.2.2.2.2.2.2.2.1 false]⟩) (x.1.2.2.2.2.2.2.2.2.2.2.2.2.2.1, x.1.2.2.2.2.2.2.2.2.2.2.2.2.2.2.2.2.2.2.1)⟩
noncomputable def MF : Ent := ⟨[3, 4, 5, 6, 7, 10, 13, 14, 15, 17, 20, 22, 23, 24, 26, 150, 151, 182, 183, 184, 188, 189], [sI, sI, sC (.ptr 0 0), sC (.ptr 1 0), sC (.ptr 2 0), sC (.ptr 3 0), sI, sI, sI, sI, sC (.ptr 4 0), sI, sC (.own 5), sI, sC (.ptr 6 0), sI, sI, sC (.own 7), sI, sI, sI, sI], [.box [lZ (.int .i64), lI, lZ (.int .i8)] false, .box [lZ (.int .i64), lI, lZ (.int .i8)] false, .box [lZ (.int .i64), lI, lZ (.int .i8)] false, .box [.cst (.pl (.slice none 0 0)), lI, .cst (.pl (.slice none 0 0))] false, .box [lZ (.int .i64), lI, .cst (.own 8)] false, .lst true (.int .i64) false, .box [lI, lI, lI] false, .lst true bZ false, .lst true (.int .i32) false], fun x k => mE x.1.2.2.2.2.2.2.1 x.1.2.2.2.2.2.2.2.1 x.1.2.2.2.2.2.2.2.2.1 x.1.2.2.2.2.2.2.2.2.2.1 x.1.2.2.2.2.2.2.2.2.2.2.2.2.2.2.2.2.2.2.2.2.1 x.2.1.2.2.1 x.2.2.1.2.2.1 x.2.2.2.2.2.2.1 x.2.2.2.2.2.2.2.1.1 x.2.2.2.2.2.2.2.1.2.1 x.2.2.2.2.2.2.2.1.2.2.1 (fun (y15 : Int) => k (.exit 4) ⟨[(3, vI x.1.1), (4, vI x.1.2.1), (5, .ptr 0 0), (6, .ptr 1 0), (7, .ptr 2 0), (10, .ptr 3 0), (13, vI x.1.2.2.2.2.2.2.1), (14, vI x.1.2.2.2.2.2.2.2.1), (15, vI x.1.2.2.2.2.2.2.2.2.1), (17, vI x.1.2.2.2.2.2.2.2.2.2.1), (20, .ptr 4 0), (22, vI x.1.2.2.2.2.2.2.2.2.2.2.2.1), (23, .own 5), (24, vI y15), (150, vI x.1.2.2.2.2.2.2.2.2.2.2.2.2.2.2.2.1), (151, vI x.1.2.2.2.2.2.2.2.2.2.2.2.2.2.2.2.2.1), (182, .own 6), (183, vI x.1.2.2.2.2.2.2.2.2.2.2.2.2.2.2.2.2.2.2.1), (184, vI x.1.2.2.2.2.2.2.2.2.2.2.2.2.2.2.2.2.2.2.2.1)], [.box [vZ (.int .i64) x.2.1.1, vI x.2.1.2.1, vZ (.int .i8) x.2.1.2.2.1] false, .box [vZ (.int .i64) x.2.2.1.1, vI x.2.2.1.2.1, vZ (.int .i8) x.2.2.1.2.2.1] false, .box [vZ (.int .i64) x.2.2.2.1.1, vI x.2.2.2.1.2.1, vZ (.int .i8) x.2.2.2.1.2.2.1] false, .box [.pl (.slice none 0 0), vI x.2.2.2.2.1.2.1, .pl (.slice none 0 0)] false, .box [vZ (.int .i64) x.2.2.2.2.2.1.1, vI x.2.2.2.2.2.1.2.1, .own 7] false, .lst true (.int .i64) x.2.2.2.2.2.2.1 false, .lst true bZ x.2.2.2.2.2.2.2.2.1 false, .lst true (.int .i32) x.2.2.2.2.2.2.2.2.2.1 false]⟩) (x.1.2.2.2.2.2.2.2.2.2.2.2.2.2.1, x.1.2.2.2.2.2.2.2.2.2.2.2.2.2.2.2.2.2.2.2.2.2.1)⟩
noncomputable def vO : Tab := fun n => match n with | 4093 => some JX | 8186 => some MZ | 16765754 => some MT | 4292033126 => some MF | _ => none
noncomputable def xF : Code := (bod Tryz.f66).getD .skip
noncomputable def MP : Go.Mach.Ends := aN xF [10, 11] []
theorem JI : aI (m8.cfg tt none false 0) vO MP xF := by
 intro n E hn f c hs x k h
 unfold vO at hn
 split at hn
 ·cases hn; exact bU hs (by kernel_rfl) (by kernel_rfl) h.it
 ·cases hn; exact aG rfl hs (by kernel_rfl) (fun y : Int × List Int => ⟨[(3, vI x.1.1), (4, vI x.1.2.1), (5, .ptr 0 0), (6, .ptr 1 0), (7, .ptr 2 0), (10, .ptr 3 0), (13, vI x.1.2.2.2.2.2.2.1), (14, vI x.1.2.2.2.2.2.2.2.1), (15, vI x.1.2.2.2.2.2.2.2.2.1), (17, vI x.1.2.2.2.2.2.2.2.2.2.1), (20, .ptr 4 0), (150, vI x.1.2.2.2.2.2.2.2.2.2.2.2.1), (151, vI y.1)], [.box [vZ (.int .i64) x.2.1.1, vI x.2.1.2.1, vZ (.int .i8) x.2.1.2.2.1] false, .box [vZ (.int .i64) x.2.2.1.1, vI x.2.2.1.2.1, vZ (.int .i8) x.2.2.1.2.2.1] false, .box [vZ (.int .i64) x.2.2.2.1.1, vI x.2.2.2.1.2.1, vZ (.int .i8) x.2.2.2.1.2.2.1] false, .box [.pl (.slice none 0 0), vI x.2.2.2.2.1.2.1, .pl (.slice none 0 0)] false, .box [vZ (.int .i64) x.2.2.2.2.2.1.1, vI x.2.2.2.2.2.1.2.1, .own 5] false, .lst true (.int .i32) y.2 false]⟩) (x.1.2.2.2.2.2.2.2.2.2.2.2.2.1, x.2.2.2.2.2.2.1) (by kernel_rfl) (fun y X => by kernel_rfl) h.it
 ·cases hn; exact aG rfl hs (by kernel_rfl) (fun y : Int × Int => ⟨[(3, vI x.1.1), (4, vI x.1.2.1), (5, .ptr 0 0), (6, .ptr 1 0), (7, .ptr 2 0), (10, .ptr 3 0), (13, vI x.1.2.2.2.2.2.2.1), (14, vI x.1.2.2.2.2.2.2.2.1), (15, vI x.1.2.2.2.2.2.2.2.2.1), (17, vI x.1.2.2.2.2.2.2.2.2.2.1), (20, .ptr 4 0), (22, vI x.1.2.2.2.2.2.2.2.2.2.2.2.1), (23, .own 5), (24, vI y.1), (150, vI x.1.2.2.2.2.2.2.2.2.2.2.2.2.2.2.1), (151, vI x.1.2.2.2.2.2.2.2.2.2.2.2.2.2.2.2.1), (182, .own 6), (183, vI x.1.2.2.2.2.2.2.2.2.2.2.2.2.2.2.2.2.2.1), (184, vI y.2)], [.box [vZ (.int .i64) x.2.1.1, vI x.2.1.2.1, vZ (.int .i8) x.2.1.2.2.1] false, .box [vZ (.int .i64) x.2.2.1.1, vI x.2.2.1.2.1, vZ (.int .i8) x.2.2.1.2.2.1] false, .box [vZ (.int .i64) x.2.2.2.1.1, vI x.2.2.2.1.2.1, vZ (.int .i8) x.2.2.2.1.2.2.1] false, .box [.pl (.slice none 0 0), vI x.2.2.2.2.1.2.1, .pl (.slice none 0 0)] false, .box [vZ (.int .i64) x.2.2.2.2.2.1.1, vI x.2.2.2.2.2.1.2.1, .own 7] false, .lst true (.int .i64) x.2.2.2.2.2.2.1 false, .lst true bZ x.2.2.2.2.2.2.2.1 false, .lst true (.int .i32) x.2.2.2.2.2.2.2.2.1 false]⟩) (x.1.2.2.2.2.2.2.2.2.2.2.2.2.2.1, x.1.2.2.2.2.2.2.2.2.2.2.2.2.2.2.2.2.2.2.1) (by kernel_rfl) (fun y X => by kernel_rfl) h.it
 ·cases hn; exact aG rfl hs (by kernel_rfl) (fun y : Int × Int => ⟨[(3, vI x.1.1), (4, vI x.1.2.1), (5, .ptr 0 0), (6, .ptr 1 0), (7, .ptr 2 0), (10, .ptr 3 0), (13, vI x.1.2.2.2.2.2.2.1), (14, vI x.1.2.2.2.2.2.2.2.1), (15, vI x.1.2.2.2.2.2.2.2.2.1), (17, vI x.1.2.2.2.2.2.2.2.2.2.1), (20, .ptr 4 0), (22, vI x.1.2.2.2.2.2.2.2.2.2.2.2.1), (23, .own 5), (24, vI y.1), (26, .ptr 6 0), (150, vI x.1.2.2.2.2.2.2.2.2.2.2.2.2.2.2.2.1), (151, vI x.1.2.2.2.2.2.2.2.2.2.2.2.2.2.2.2.2.1), (182, .own 7), (183, vI x.1.2.2.2.2.2.2.2.2.2.2.2.2.2.2.2.2.2.2.1), (184, vI x.1.2.2.2.2.2.2.2.2.2.2.2.2.2.2.2.2.2.2.2.1), (188, vI x.1.2.2.2.2.2.2.2.2.2.2.2.2.2.2.2.2.2.2.2.2.1), (189, vI y.2)], [.box [vZ (.int .i64) x.2.1.1, vI x.2.1.2.1, vZ (.int .i8) x.2.1.2.2.1] false, .box [vZ (.int .i64) x.2.2.1.1, vI x.2.2.1.2.1, vZ (.int .i8) x.2.2.1.2.2.1] false, .box [vZ (.int .i64) x.2.2.2.1.1, vI x.2.2.2.1.2.1, vZ (.int .i8) x.2.2.2.1.2.2.1] false, .box [.pl (.slice none 0 0), vI x.2.2.2.2.1.2.1, .pl (.slice none 0 0)] false, .box [vZ (.int .i64) x.2.2.2.2.2.1.1, vI x.2.2.2.2.2.1.2.1, .own 8] false, .lst true (.int .i64) x.2.2.2.2.2.2.1 false, .box [vI x.2.2.2.2.2.2.2.1.1, vI x.2.2.2.2.2.2.2.1.2.1, vI x.2.2.2.2.2.2.2.1.2.2.1] false, .lst true bZ x.2.2.2.2.2.2.2.2.1 false, .lst true (.int .i32) x.2.2.2.2.2.2.2.2.2.1 false]⟩) (x.1.2.2.2.2.2.2.2.2.2.2.2.2.2.1, x.1.2.2.2.2.2.2.2.2.2.2.2.2.2.2.2.2.2.2.2.2.2.1) (by kernel_rfl) (fun y X => by kernel_rfl) h.it
 ·cases hn
def mZ : List Sh := [.agg [lZ (.int .i64), lI, lZ (.int .i8)], .agg [lZ (.int .i64), lI, lZ (.int .i8)], .agg [lZ (.int .i64), lI, lZ (.int .i8)], sI, sI]
theorem IM (x : aM mZ) (Q : QT) (h : rI (x.1.1, (x.1.2.1, x.1.2.2.1)) (x.2.1.1, (x.2.1.2.1, x.2.1.2.2.1)) (x.2.2.1.1, (x.2.2.1.2.1, x.2.2.1.2.2.1)) x.2.2.2.1 x.2.2.2.2.1 (fun (r : iE × Int) => Q (aC [(true, uE), (false, (.int .i64))] [(.p .f .n), .n] (r.1, (r.2, ()))))) : aH Tryz.prog 66 (aJ mZ x) Q := m8.told [(.p .f .n), .n] (rt := [(true, uE), (false, (.int .i64))]) hI0 JI Tryz.func66 (by kernel_rfl) (by kernel_rfl) (Nat.le_of_ble_eq_true rfl) h.it (by kernel_rfl)
noncomputable def oD : Tb Tryz.prog := m8.add 66 mZ IM
structure iW (a0 : List Int) (a1 a2 : Int) (Q : ((List Int) × Bool) -> Prop) : Prop where
 it : if ((a0.length : Int) != 4) = true then Q (([] : List Int), false) else ck ((0 : Int) <= 2 /\ 2 < (a0.length : Int)) (ck ((0 : Int) <= 3 /\ 3 < (a0.length : Int)) (dA (a0.getD 2 0) (a0.getD 3 0) a1 a2 0 (fun (r1 : Int × Int) => ck ((0 : Int) <= 0 /\ 0 < (a0.length : Int)) (ck ((0 : Int) <= 1 /\ 1 < (a0.length : Int)) (Q ([a0.getD 0 0, a0.getD 1 0, r1.1, r1.2], (decide (0 < r1.1)) && (decide (0 < r1.2))))))))
noncomputable def FE : Tab := fun n => none
noncomputable def tL : Code := (bod Tryz.f118).getD .skip
noncomputable def GN : Go.Mach.Ends := aN tL [6, 7] []
theorem DT : aI (oD.cfg tt none false 0) FE GN tL := by
 intro n E hn f c hs x k h
 cases hn
def jX : List Sh := [sZ (.int .i64), sI, sI]
theorem DU (x : aM jX) (Q : QT) (h : iW x.1 x.2.1 x.2.2.1 (fun (r : (List Int) × Bool) => Q (aC [(false, (.slc (.int .i64))), (false, .bool)] [.n, .n] (r.1, (r.2, ()))))) : aH Tryz.prog 118 (aJ jX x) Q := oD.told [.n, .n] (rt := [(false, (.slc (.int .i64))), (false, .bool)]) hI0 DT Tryz.func118 (by kernel_rfl) (by kernel_rfl) (Nat.le_of_ble_eq_true rfl) h.it (by kernel_rfl)
noncomputable def lM : Tb Tryz.prog := oD.add 118 jX DU
structure rV (a0 : Int) (Q : Int -> Prop) : Prop where
 it : ck ((0 : Int) <= (aD 0 (aL a0 5)) /\ (aD 0 (aL a0 5)) < ((6 : Nat) : Int)) (Q ([0, 0, 2, 2, 4, 4].getD ((aD 0 (aL a0 5)).toNat) 0))
noncomputable def MB : Tab := fun n => none
noncomputable def xB : Code := (bod Tryz.f120).getD .skip
noncomputable def JN : Go.Mach.Ends := aN xB [2] []
theorem JH : aI (lM.cfg tt none false 0) MB JN xB := by
 intro n E hn f c hs x k h
 cases hn
def mG : List Sh := [sI]
theorem I5 (x : aM mG) (Q : QT) (h : rV x.1 (fun (r : Int) => Q (aC [(false, (.int .i64))] [.n] (r, ())))) : aH Tryz.prog 120 (aJ mG x) Q := lM.told [.n] (rt := [(false, (.int .i64))]) hI0 JH Tryz.func120 (by kernel_rfl) (by kernel_rfl) (Nat.le_of_ble_eq_true rfl) h.it (by kernel_rfl)
noncomputable def oO : Tb Tryz.prog := lM.add 120 mG I5
def gT (x2 x3 x6 : Int) (x10 : List Int) (x15 : List aX) (K0 : (List Int) -> Prop) (s : Int × List Int) (nx : (Int × List Int) -> Prop) : Prop :=
 if (decide (s.1 < x6)) = true then ck ((0 : Int) <= s.1 /\ s.1 < (x15.length : Int)) (ck ((0 : Int) <= x2 /\ x2 < (s.2.length : Int)) (ck ((0 : Int) <= (IntKind.i64.wrap (x3 + ((x15.getD ((s.1).toNat) (0, (0, 0))).1))) /\ (IntKind.i64.wrap (x3 + ((x15.getD ((s.1).toNat) (0, (0, 0))).1))) < (x10.length : Int)) (ck ((0 : Int) <= x2 /\ x2 < (s.2.length : Int)) (nx (IntKind.i64.wrap (s.1 + 1), s.2.set ((x2).toNat) (IntKind.i32.wrap ((s.2.getD ((x2).toNat) 0) + (IntKind.i32.wrap (x10.getD ((IntKind.i64.wrap (x3 + ((x15.getD ((s.1).toNat) (0, (0, 0))).1))).toNat) 0))))))))) else K0 s.2
structure nY (x2 x3 x6 : Int) (x10 : List Int) (x15 : List aX) (K0 : (List Int) -> Prop) (s : Int × List Int) : Prop where
 it : Go.Mach.Loop (gT x2 x3 x6 x10 x15 K0) s
structure xC (x2 x3 x6 x7 : Int) (x10 : List Int) (x15 : List aX) (x16 : List Int) (K0 : (List Int) -> Prop) : Prop where
 it : nY x2 x3 x6 x10 x15 (fun (y7 : List Int) => K0 y7) (x7, x16)
def gU (x0 x1 x2 : Int) (x4 x6 x8 : List Int) (K0 : (List Int) -> Prop) (s : Int × List Int) (nx : (Int × List Int) -> Prop) : Prop :=
 if (decide (s.1 < x2)) = true then c8 x8 s.1 (fun (r5 : List Int) => ck ((0 : Int) <= 0 /\ 0 < (r5.length : Int)) (ck ((0 : Int) <= 1 /\ 1 < (x8.length : Int)) (ck ((0 : Int) <= 1 /\ 1 < (r5.length : Int)) (ck ((0 : Int) <= 2 /\ 2 < (x4.length : Int)) (ck ((0 : Int) <= 3 /\ 3 < (x4.length : Int)) (ck ((0 : Int) <= 2 /\ 2 < (x4.length : Int)) (ck ((0 : Int) <= 3 /\ 3 < (x4.length : Int)) (ck ((0 : Int) <= 2 /\ 2 < (r5.length : Int)) (ck ((0 : Int) <= 3 /\ 3 < (r5.length : Int)) (gK (x4.getD 2 0) (x4.getD 3 0) (r5.getD 2 0) (r5.getD 3 0) x0 x1 0 (fun (r6 : List aX) => xC s.1 (IntKind.i64.wrap ((IntKind.i64.wrap ((IntKind.i64.wrap ((IntKind.i64.wrap ((r5.getD 0 0) * (x8.getD 1 0))) + (r5.getD 1 0))) * (x4.getD 2 0))) * (x4.getD 3 0))) (r6.length : Int) 0 x6 r6 s.2 (fun (y7 : List Int) => nx (IntKind.i64.wrap (s.1 + 1), y7))))))))))))) else K0 s.2
structure xG (x0 x1 x2 : Int) (x4 x6 x8 : List Int) (K0 : (List Int) -> Prop) (s : Int × List Int) : Prop where
 it : Go.Mach.Loop (gU x0 x1 x2 x4 x6 x8 K0) s
structure oM (x0 x1 : Int) (x2 x4 x6 x9 : List Int) (K0 : (List Int) -> Prop) : Prop where
 it : xG x0 x1 (x9.length : Int) x2 x4 x6 (fun (y5 : List Int) => K0 y5) (0, x9)
structure s8 (a0 : aR) (a1 a2 : Int) (Q : (iE × Int) -> Prop) : Prop where
 it : b7 [a0] (fun (r1 : Bool) => if (!r1) = true then Q ((([] : List Int), (0, ([] : List Int))), 1) else iW a0.1 a1 a2 (fun (r2 : (List Int) × Bool) => if (!r2.2) = true then Q ((([] : List Int), (0, ([] : List Int))), 2) else rV a1 (fun (r3 : Int) => iP r2.1 (IntKind.i64.wrap (a0.2.1 - r3)) (fun (r4 : iE × Int) => if (r4.2 != 0) = true then Q (r4.1, r4.2) else oM a1 a2 a0.1 a0.2.2 r2.1 r4.1.2.2 (fun (y6 : List Int) => Q ((r4.1.1, (r4.1.2.1, y6)), 0))))))
noncomputable def O1 : Ent := ⟨[1, 2, 3, 6, 8, 10], [sI, sI, sC (.ptr 0 0), sC (.ptr 1 0), sC (.own 2), sC (.ptr 3 0)], [.box [lZ (.int .i64), lI, lZ (.int .i8)] false, .box [.cst (.pl (.slice none 0 0)), lI, .cst (.pl (.slice none 0 0))] false, .lst true (.int .i64) true, .box [lZ (.int .i64), lI, .cst (.own 4)] false, .lst true (.int .i32) false], fun x k => oM x.1.1 x.1.2.1 x.2.1.1 x.2.1.2.2.1 x.2.2.2.1 x.2.2.2.2.2.1 (fun (y7 : List Int) => k .ret ⟨[(6, .ptr 0 0), (7, vI 0)], [.box [vZ (.int .i64) x.2.2.2.2.1.1, vI x.2.2.2.2.1.2.1, .own 1] false, .lst true (.int .i32) y7 false]⟩)⟩
noncomputable def O2 : Ent := ⟨[1, 2, 3, 6, 8, 10, 49, 50], [sI, sI, sC (.ptr 0 0), sC (.ptr 1 0), sC (.own 2), sC (.ptr 3 0), sI, sI], [.box [lZ (.int .i64), lI, lZ (.int .i8)] false, .box [.cst (.pl (.slice none 0 0)), lI, .cst (.pl (.slice none 0 0))] false, .lst true (.int .i64) true, .box [lZ (.int .i64), lI, .cst (.own 4)] false, .lst true (.int .i32) false], fun x k => xG x.1.1 x.1.2.1 x.1.2.2.2.2.2.2.1 x.2.1.1 x.2.1.2.2.1 x.2.2.2.1 (fun (y8 : List Int) => k (.exit 0) ⟨[(6, .ptr 0 0), (10, .ptr 1 0)], [.box [.pl (.slice none 0 0), vI x.2.2.1.2.1, .pl (.slice none 0 0)] false, .box [vZ (.int .i64) x.2.2.2.2.1.1, vI x.2.2.2.2.1.2.1, .own 2] false, .lst true (.int .i32) y8 false]⟩) (x.1.2.2.2.2.2.2.2.1, x.2.2.2.2.2.1)⟩
noncomputable def OM : Ent := ⟨[1, 2, 3, 6, 8, 10, 12, 14, 49, 50, 93, 94, 95], [sI, sI, sC (.ptr 0 0), sC (.ptr 1 0), sC (.own 2), sC (.ptr 3 0), sI, sI, sI, sI, sC (.own 4), sI, sI], [.box [lZ (.int .i64), lI, lZ (.int .i8)] false, .box [.cst (.pl (.slice none 0 0)), lI, .cst (.pl (.slice none 0 0))] false, .lst true (.int .i64) true, .box [lZ (.int .i64), lI, .cst (.own 5)] false, .lst true bZ false, .lst true (.int .i32) false], fun x k => xC x.1.2.2.2.2.2.2.1 x.1.2.2.2.2.2.2.2.1 x.1.2.2.2.2.2.2.2.2.2.2.2.1 x.1.2.2.2.2.2.2.2.2.2.2.2.2.1 x.2.1.2.2.1 x.2.2.2.2.2.1 x.2.2.2.2.2.2.1 (fun (y9 : List Int) => k .normal ⟨[(1, vI x.1.1), (2, vI x.1.2.1), (3, .ptr 0 0), (6, .ptr 1 0), (8, .own 2), (10, .ptr 3 0), (49, vI x.1.2.2.2.2.2.2.2.2.1), (50, vI x.1.2.2.2.2.2.2.2.2.2.1)], [.box [vZ (.int .i64) x.2.1.1, vI x.2.1.2.1, vZ (.int .i8) x.2.1.2.2.1] false, .box [.pl (.slice none 0 0), vI x.2.2.1.2.1, .pl (.slice none 0 0)] false, .lst true (.int .i64) x.2.2.2.1 true, .box [vZ (.int .i64) x.2.2.2.2.1.1, vI x.2.2.2.2.1.2.1, .own 4] false, .lst true (.int .i32) y9 false]⟩)⟩
noncomputable def OW : Ent := ⟨[1, 2, 3, 6, 8, 10, 12, 14, 49, 50, 93, 94, 95], [sI, sI, sC (.ptr 0 0), sC (.ptr 1 0), sC (.own 2), sC (.ptr 3 0), sI, sI, sI, sI, sC (.own 4), sI, sI], [.box [lZ (.int .i64), lI, lZ (.int .i8)] false, .box [.cst (.pl (.slice none 0 0)), lI, .cst (.pl (.slice none 0 0))] false, .lst true (.int .i64) true, .box [lZ (.int .i64), lI, .cst (.own 5)] false, .lst true bZ false, .lst true (.int .i32) false], fun x k => nY x.1.2.2.2.2.2.2.1 x.1.2.2.2.2.2.2.2.1 x.1.2.2.2.2.2.2.2.2.2.2.2.1 x.2.1.2.2.1 x.2.2.2.2.2.1 (fun (y10 : List Int) => k (.exit 2) ⟨[(1, vI x.1.1), (2, vI x.1.2.1), (3, .ptr 0 0), (6, .ptr 1 0), (8, .own 2), (10, .ptr 3 0), (49, vI x.1.2.2.2.2.2.2.2.2.1), (50, vI x.1.2.2.2.2.2.2.2.2.2.1)], [.box [vZ (.int .i64) x.2.1.1, vI x.2.1.2.1, vZ (.int .i8) x.2.1.2.2.1] false, .box [.pl (.slice none 0 0), vI x.2.2.1.2.1, .pl (.slice none 0 0)] false, .lst true (.int .i64) x.2.2.2.1 true, .box [vZ (.int .i64) x.2.2.2.2.1.1, vI x.2.2.2.2.1.2.1, .own 4] false, .lst true (.int .i32) y10 false]⟩) (x.1.2.2.2.2.2.2.2.2.2.2.2.2.1, x.2.2.2.2.2.2.1)⟩
noncomputable def wT : Tab := fun n => match n with | 127 => some O1 | 1018 => some O2 | 521423 => some OM | 1042846 => some OW | _ => none
noncomputable def zB : Code := (bod Tryz.f67).getD .skip
noncomputable def O3 : Go.Mach.Ends := aN zB [6, 7] []
theorem ND : aI (oO.cfg tt none false 0) wT O3 zB := by
 intro n E hn f c hs x k h
 unfold wT at hn
 split at hn
 ·cases hn; exact bU hs (by kernel_rfl) (by kernel_rfl) h.it
 ·cases hn; exact aG rfl hs (by kernel_rfl) (fun y : Int × List Int => ⟨[(1, vI x.1.1), (2, vI x.1.2.1), (3, .ptr 0 0), (6, .ptr 1 0), (8, .own 2), (10, .ptr 3 0), (49, vI x.1.2.2.2.2.2.2.1), (50, vI y.1)], [.box [vZ (.int .i64) x.2.1.1, vI x.2.1.2.1, vZ (.int .i8) x.2.1.2.2.1] false, .box [.pl (.slice none 0 0), vI x.2.2.1.2.1, .pl (.slice none 0 0)] false, .lst true (.int .i64) x.2.2.2.1 true, .box [vZ (.int .i64) x.2.2.2.2.1.1, vI x.2.2.2.2.1.2.1, .own 4] false, .lst true (.int .i32) y.2 false]⟩) (x.1.2.2.2.2.2.2.2.1, x.2.2.2.2.2.1) (by kernel_rfl) (fun y X => by kernel_rfl) h.it
 ·cases hn; exact bU hs (by kernel_rfl) (by kernel_rfl) h.it
 ·cases hn; exact aG rfl hs (by kernel_rfl) (fun y : Int × List Int => ⟨[(1, vI x.1.1), (2, vI x.1.2.1), (3, .ptr 0 0), (6, .ptr 1 0), (8, .own 2), (10, .ptr 3 0), (12, vI x.1.2.2.2.2.2.2.1), (14, vI x.1.2.2.2.2.2.2.2.1), (49, vI x.1.2.2.2.2.2.2.2.2.1), (50, vI x.1.2.2.2.2.2.2.2.2.2.1), (93, .own 4), (94, vI x.1.2.2.2.2.2.2.2.2.2.2.2.1), (95, vI y.1)], [.box [vZ (.int .i64) x.2.1.1, vI x.2.1.2.1, vZ (.int .i8) x.2.1.2.2.1] false, .box [.pl (.slice none 0 0), vI x.2.2.1.2.1, .pl (.slice none 0 0)] false, .lst true (.int .i64) x.2.2.2.1 true, .box [vZ (.int .i64) x.2.2.2.2.1.1, vI x.2.2.2.2.1.2.1, .own 5] false, .lst true bZ x.2.2.2.2.2.1 false, .lst true (.int .i32) y.2 false]⟩) (x.1.2.2.2.2.2.2.2.2.2.2.2.2.1, x.2.2.2.2.2.2.1) (by kernel_rfl) (fun y X => by kernel_rfl) h.it
 ·cases hn
def o6 : List Sh := [.agg [lZ (.int .i64), lI, lZ (.int .i8)], sI, sI]
theorem KQ (x : aM o6) (Q : QT) (h : s8 (x.1.1, (x.1.2.1, x.1.2.2.1)) x.2.1 x.2.2.1 (fun (r : iE × Int) => Q (aC [(true, uE), (false, (.int .i64))] [(.p .f .n), .n] (r.1, (r.2, ()))))) : aH Tryz.prog 67 (aJ o6 x) Q := oO.told [(.p .f .n), .n] (rt := [(true, uE), (false, (.int .i64))]) hI0 ND Tryz.func67 (by kernel_rfl) (by kernel_rfl) (Nat.le_of_ble_eq_true rfl) h.it (by kernel_rfl)
noncomputable def qO : Tb Tryz.prog := oO.add 67 o6 KQ
def gR (x0 x1 x4 : Int) (x5 : List Int) (x7 : Int) (x8 : List Int) (K0 : (List Int) -> Prop) (s : Int × List Int) (nx : (Int × List Int) -> Prop) : Prop :=
 if (decide (s.1 < x1)) = true then ck ((0 : Int) <= s.1 /\ s.1 < (x5.length : Int)) (eY (IntKind.i64.wrap (x5.getD ((s.1).toNat) 0)) x4 x0 (fun (r4 : Int) => ck ((0 : Int) <= s.1 /\ s.1 < (x8.length : Int)) (eY (IntKind.i64.wrap (x8.getD ((s.1).toNat) 0)) x7 x0 (fun (r5 : Int) => ck ((0 : Int) <= s.1 /\ s.1 < (s.2.length : Int)) (nx (IntKind.i64.wrap (s.1 + 1), s.2.set ((s.1).toNat) (IntKind.i32.wrap (IntKind.i64.wrap (r4 + r5))))))))) else K0 s.2
structure oF (x0 x1 x4 : Int) (x5 : List Int) (x7 : Int) (x8 : List Int) (K0 : (List Int) -> Prop) (s : Int × List Int) : Prop where
 it : Go.Mach.Loop (gR x0 x1 x4 x5 x7 x8 K0) s
structure s4 (a0 a1 : aR) (Q : (iE × Int) -> Prop) : Prop where
 it : b7 [a0, a1] (fun (r1 : Bool) => if (!r1) = true then Q ((([] : List Int), (0, ([] : List Int))), 1) else aO a0.1 a1.1 (fun (r2 : Bool) => if (!r2) = true then Q ((([] : List Int), (0, ([] : List Int))), 2) else ck (a0.1.length * 8 <= 140737488355328) (iP a0.1 (aD (aL a0.2.1 a1.2.1) (IntKind.i64.wrap ((aD a0.2.1 a1.2.1) - 12))) (fun (r3 : iE × Int) => oF (aD (aL a0.2.1 a1.2.1) (IntKind.i64.wrap ((aD a0.2.1 a1.2.1) - 12))) (r3.1.2.2.length : Int) a0.2.1 a0.2.2 a1.2.1 a1.2.2 (fun (y6 : List Int) => Q ((r3.1.1, (r3.1.2.1, y6)), 0)) (0, r3.1.2.2)))))
noncomputable def OQ : Ent := ⟨[2, 3, 4, 6, 7, 45, 46], [sC (.ptr 0 0), sC (.ptr 1 0), sC (.ptr 2 0), sI, sC (.ptr 3 0), sI, sI], [.box [lZ (.int .i64), lI, lZ (.int .i8)] false, .box [lZ (.int .i64), lI, lZ (.int .i8)] false, .box [.cst (.pl (.slice none 0 0)), lI, .cst (.pl (.slice none 0 0))] false, .box [lZ (.int .i64), lI, .cst (.own 4)] false, .lst true (.int .i32) false], fun x k => oF x.1.2.2.2.1 x.1.2.2.2.2.2.1 x.2.1.2.1 x.2.1.2.2.1 x.2.2.1.2.1 x.2.2.1.2.2.1 (fun (y7 : List Int) => k (.exit 0) ⟨[(4, .ptr 0 0), (7, .ptr 1 0)], [.box [.pl (.slice none 0 0), vI x.2.2.2.1.2.1, .pl (.slice none 0 0)] false, .box [vZ (.int .i64) x.2.2.2.2.1.1, vI x.2.2.2.2.1.2.1, .own 2] false, .lst true (.int .i32) y7 false]⟩) (x.1.2.2.2.2.2.2.1, x.2.2.2.2.2.1)⟩
noncomputable def wV : Tab := fun n => match n with | 506 => some OQ | _ => none
noncomputable def yP : Code := (bod Tryz.f68).getD .skip
noncomputable def OI : Go.Mach.Ends := aN yP [4, 5] []
theorem LX : aI (qO.cfg tt none false 0) wV OI yP := by
 intro n E hn f c hs x k h
 unfold wV at hn
 split at hn
 ·cases hn; exact aG rfl hs (by kernel_rfl) (fun y : Int × List Int => ⟨[(2, .ptr 0 0), (3, .ptr 1 0), (4, .ptr 2 0), (6, vI x.1.2.2.2.1), (7, .ptr 3 0), (45, vI x.1.2.2.2.2.2.1), (46, vI y.1)], [.box [vZ (.int .i64) x.2.1.1, vI x.2.1.2.1, vZ (.int .i8) x.2.1.2.2.1] false, .box [vZ (.int .i64) x.2.2.1.1, vI x.2.2.1.2.1, vZ (.int .i8) x.2.2.1.2.2.1] false, .box [.pl (.slice none 0 0), vI x.2.2.2.1.2.1, .pl (.slice none 0 0)] false, .box [vZ (.int .i64) x.2.2.2.2.1.1, vI x.2.2.2.2.1.2.1, .own 4] false, .lst true (.int .i32) y.2 false]⟩) (x.1.2.2.2.2.2.2.1, x.2.2.2.2.2.1) (by kernel_rfl) (fun y X => by kernel_rfl) h.it
 ·cases hn
def oB : List Sh := [.agg [lZ (.int .i64), lI, lZ (.int .i8)], .agg [lZ (.int .i64), lI, lZ (.int .i8)]]
theorem LC (x : aM oB) (Q : QT) (h : s4 (x.1.1, (x.1.2.1, x.1.2.2.1)) (x.2.1.1, (x.2.1.2.1, x.2.1.2.2.1)) (fun (r : iE × Int) => Q (aC [(true, uE), (false, (.int .i64))] [(.p .f .n), .n] (r.1, (r.2, ()))))) : aH Tryz.prog 68 (aJ oB x) Q := qO.told [(.p .f .n), .n] (rt := [(true, uE), (false, (.int .i64))]) hI0 LX Tryz.func68 (by kernel_rfl) (by kernel_rfl) (Nat.le_of_ble_eq_true rfl) h.it (by kernel_rfl)
noncomputable def qD : Tb Tryz.prog := qO.add 68 oB LC
structure fL (x7 : Int) (K0 : Int -> Prop) : Prop where
 it : K0 (IntKind.i64.wrap (x7 + 1))
def gM (x2 x6 : Int) (x10 : List Int) (x15 : List aX) (K0 : Int -> Prop) (s : Int × Int) (nx : (Int × Int) -> Prop) : Prop :=
 if (decide (s.2 < x6)) = true then ck ((0 : Int) <= s.2 /\ s.2 < (x15.length : Int)) (jn (fun (v10 : Bool) => if v10 = true then fL s.2 (fun (y12 : Int) => nx ((IntKind.i64.wrap (x2 + ((x15.getD ((s.2).toNat) (0, (0, 0))).1))), y12)) else fL s.2 (fun (y13 : Int) => nx (s.1, y13))) (fun J11 => if (decide (s.1 < 0)) = true then J11 true else ck ((0 : Int) <= (IntKind.i64.wrap (x2 + ((x15.getD ((s.2).toNat) (0, (0, 0))).1))) /\ (IntKind.i64.wrap (x2 + ((x15.getD ((s.2).toNat) (0, (0, 0))).1))) < (x10.length : Int)) (ck ((0 : Int) <= s.1 /\ s.1 < (x10.length : Int)) (J11 (decide ((x10.getD ((s.1).toNat) 0) < (x10.getD ((IntKind.i64.wrap (x2 + ((x15.getD ((s.2).toNat) (0, (0, 0))).1))).toNat) 0))))))) else K0 s.1
structure oE (x2 x6 : Int) (x10 : List Int) (x15 : List aX) (K0 : Int -> Prop) (s : Int × Int) : Prop where
 it : Go.Mach.Loop (gM x2 x6 x10 x15 K0) s
structure wH (x2 x3 x6 x7 : Int) (x10 : List Int) (x15 : List aX) (K0 : Int -> Prop) : Prop where
 it : oE x2 x6 x10 x15 (fun (y10 : Int) => K0 y10) (x3, x7)
def gV (x0 x1 x2 : Int) (x4 x6 x8 : List Int) (K0 : ((List Int) × List Int) -> Prop) (s : Int × (List Int) × List Int) (nx : (Int × (List Int) × List Int) -> Prop) : Prop :=
 if (decide (s.1 < x2)) = true then c8 x8 s.1 (fun (r8 : List Int) => ck ((0 : Int) <= 0 /\ 0 < (r8.length : Int)) (ck ((0 : Int) <= 1 /\ 1 < (x8.length : Int)) (ck ((0 : Int) <= 1 /\ 1 < (r8.length : Int)) (ck ((0 : Int) <= 2 /\ 2 < (x4.length : Int)) (ck ((0 : Int) <= 3 /\ 3 < (x4.length : Int)) (ck ((0 : Int) <= 2 /\ 2 < (x4.length : Int)) (ck ((0 : Int) <= 3 /\ 3 < (x4.length : Int)) (ck ((0 : Int) <= 2 /\ 2 < (r8.length : Int)) (ck ((0 : Int) <= 3 /\ 3 < (r8.length : Int)) (gK (x4.getD 2 0) (x4.getD 3 0) (r8.getD 2 0) (r8.getD 3 0) x0 x1 0 (fun (r9 : List aX) => wH (IntKind.i64.wrap ((IntKind.i64.wrap ((IntKind.i64.wrap ((IntKind.i64.wrap ((r8.getD 0 0) * (x8.getD 1 0))) + (r8.getD 1 0))) * (x4.getD 2 0))) * (x4.getD 3 0))) (-1) (r9.length : Int) 0 x6 r9 (fun (y10 : Int) => ck ((0 : Int) <= y10 /\ y10 < (x6.length : Int)) (ck ((s.2.2.length + [x6.getD ((y10).toNat) 0].length) * 1 <= 140737488355328) (ck ((s.2.1.length + [y10].length) * 8 <= 140737488355328) (nx (IntKind.i64.wrap (s.1 + 1), s.2.1 ++ [y10], s.2.2 ++ [x6.getD ((y10).toNat) 0])))))))))))))))) else K0 (s.2.1, s.2.2)
structure n8 (x0 x1 x2 : Int) (x4 x6 x8 : List Int) (K0 : ((List Int) × List Int) -> Prop) (s : Int × (List Int) × List Int) : Prop where
 it : Go.Mach.Loop (gV x0 x1 x2 x4 x6 x8 K0) s
structure tG (a0 : aR) (a1 a2 : Int) (Q : (aR × (List Int) × Int) -> Prop) : Prop where
 it : b7 [a0] (fun (r1 : Bool) => if (!r1) = true then Q ((([] : List Int), (0, ([] : List Int))), ([] : List Int), 1) else iW a0.1 a1 a2 (fun (r2 : (List Int) × Bool) => if (!r2.2) = true then Q ((([] : List Int), (0, ([] : List Int))), ([] : List Int), 2) else dR r2.1 (fun (r3 : Int) => n8 a1 a2 r3 a0.1 a0.2.2 r2.1 (fun (y11 : (List Int) × List Int) => Q ((r2.1, (a0.2.1, y11.2)), y11.1, 0)) (0, ([] : List Int), ([] : List Int)))))
noncomputable def OT : Ent := ⟨[1, 2, 3, 6, 9, 11, 12, 40, 41], [sI, sI, sC (.ptr 0 0), sC (.ptr 1 0), sC (.own 2), sC (.ptr 3 0), sC (.pl (.slice none 0 0)), sI, sI], [.box [lZ (.int .i64), lI, lZ (.int .i8)] false, .box [.cst (.pl (.slice none 0 0)), lI, .cst (.pl (.slice none 0 0))] false, .lst true (.int .i64) false, .box [.cst (.own 2), lI, .cst (.pl (.slice none 0 0))] false], fun x k => n8 x.1.1 x.1.2.1 x.1.2.2.2.2.2.2.2.1 x.2.1.1 x.2.1.2.2.1 x.2.2.2.1 (fun (y12 : (List Int) × List Int) => k (.exit 0) ⟨[(6, .ptr 0 0), (11, .ptr 1 0), (12, .own 2)], [.box [.pl (.slice none 0 0), vI x.2.2.1.2.1, .pl (.slice none 0 0)] false, .box [.own 3, vI x.2.2.2.2.1.2.1, .own 4] false, .lst true (.int .i64) y12.1 false, .lst true (.int .i64) x.2.2.2.1 false, .lst true (.int .i8) y12.2 false]⟩) (x.1.2.2.2.2.2.2.2.2.1, ([] : List Int), ([] : List Int))⟩
noncomputable def O4 : Ent := ⟨[1, 2, 3, 6, 9, 11, 12, 15, 16, 40, 41, 84, 85, 86], [sI, sI, sC (.ptr 0 0), sC (.ptr 1 0), sC (.own 2), sC (.ptr 3 0), sC (.own 4), sI, sI, sI, sI, sC (.own 5), sI, sI], [.box [lZ (.int .i64), lI, lZ (.int .i8)] false, .box [.cst (.pl (.slice none 0 0)), lI, .cst (.pl (.slice none 0 0))] false, .lst true (.int .i64) false, .box [.cst (.own 2), lI, .cst (.own 6)] false, .lst true (.int .i64) false, .lst true bZ false, .lst true (.int .i8) false], fun x k => wH x.1.2.2.2.2.2.2.2.1 x.1.2.2.2.2.2.2.2.2.1 x.1.2.2.2.2.2.2.2.2.2.2.2.2.1 x.1.2.2.2.2.2.2.2.2.2.2.2.2.2.1 x.2.1.2.2.1 x.2.2.2.2.2.2.1 (fun (y13 : Int) => k .normal ⟨[(1, vI x.1.1), (2, vI x.1.2.1), (3, .ptr 0 0), (6, .ptr 1 0), (9, .own 2), (11, .ptr 3 0), (12, .own 4), (16, vI y13), (40, vI x.1.2.2.2.2.2.2.2.2.2.1), (41, vI x.1.2.2.2.2.2.2.2.2.2.2.1)], [.box [vZ (.int .i64) x.2.1.1, vI x.2.1.2.1, vZ (.int .i8) x.2.1.2.2.1] false, .box [.pl (.slice none 0 0), vI x.2.2.1.2.1, .pl (.slice none 0 0)] false, .lst true (.int .i64) x.2.2.2.1 false, .box [.own 2, vI x.2.2.2.2.1.2.1, .own 5] false, .lst true (.int .i64) x.2.2.2.2.2.1 false, .lst true (.int .i8) x.2.2.2.2.2.2.2.1 false]⟩)⟩
noncomputable def OD : Ent := ⟨[1, 2, 3, 6, 9, 11, 12, 15, 16, 40, 41, 84, 85, 86], [sI, sI, sC (.ptr 0 0), sC (.ptr 1 0), sC (.own 2), sC (.ptr 3 0), sC (.own 4), sI, sI, sI, sI, sC (.own 5), sI, sI], [.box [lZ (.int .i64), lI, lZ (.int .i8)] false, .box [.cst (.pl (.slice none 0 0)), lI, .cst (.pl (.slice none 0 0))] false, .lst true (.int .i64) false, .box [.cst (.own 2), lI, .cst (.own 6)] false, .lst true (.int .i64) false, .lst true bZ false, .lst true (.int .i8) false], fun x k => oE x.1.2.2.2.2.2.2.2.1 x.1.2.2.2.2.2.2.2.2.2.2.2.2.1 x.2.1.2.2.1 x.2.2.2.2.2.2.1 (fun (y14 : Int) => k (.exit 2) ⟨[(1, vI x.1.1), (2, vI x.1.2.1), (3, .ptr 0 0), (6, .ptr 1 0), (9, .own 2), (11, .ptr 3 0), (12, .own 4), (16, vI y14), (40, vI x.1.2.2.2.2.2.2.2.2.2.1), (41, vI x.1.2.2.2.2.2.2.2.2.2.2.1)], [.box [vZ (.int .i64) x.2.1.1, vI x.2.1.2.1, vZ (.int .i8) x.2.1.2.2.1] false, .box [.pl (.slice none 0 0), vI x.2.2.1.2.1, .pl (.slice none 0 0)] false, .lst true (.int .i64) x.2.2.2.1 false, .box [.own 2, vI x.2.2.2.2.1.2.1, .own 5] false, .lst true (.int .i64) x.2.2.2.2.2.1 false, .lst true (.int .i8) x.2.2.2.2.2.2.2.1 false]⟩) (x.1.2.2.2.2.2.2.2.2.1, x.1.2.2.2.2.2.2.2.2.2.2.2.2.2.1)⟩
noncomputable def OU : Ent := ⟨[1, 2, 3, 6, 9, 11, 12, 15, 16, 40, 41, 84, 85, 86], [sI, sI, sC (.ptr 0 0), sC (.ptr 1 0), sC (.own 2), sC (.ptr 3 0), sC (.own 4), sI, sI, sI, sI, sC (.own 5), sI, sI], [.box [lZ (.int .i64), lI, lZ (.int .i8)] false, .box [.cst (.pl (.slice none 0 0)), lI, .cst (.pl (.slice none 0 0))] false, .lst true (.int .i64) false, .box [.cst (.own 2), lI, .cst (.own 6)] false, .lst true (.int .i64) false, .lst true bZ false, .lst true (.int .i8) false], fun x k => fL x.1.2.2.2.2.2.2.2.2.2.2.2.2.2.1 (fun (y15 : Int) => k .normal ⟨[(1, vI x.1.1), (2, vI x.1.2.1), (3, .ptr 0 0), (6, .ptr 1 0), (9, .own 2), (11, .ptr 3 0), (12, .own 4), (15, vI x.1.2.2.2.2.2.2.2.1), (16, vI x.1.2.2.2.2.2.2.2.2.1), (40, vI x.1.2.2.2.2.2.2.2.2.2.1), (41, vI x.1.2.2.2.2.2.2.2.2.2.2.1), (84, .own 5), (85, vI x.1.2.2.2.2.2.2.2.2.2.2.2.2.1), (86, vI y15)], [.box [vZ (.int .i64) x.2.1.1, vI x.2.1.2.1, vZ (.int .i8) x.2.1.2.2.1] false, .box [.pl (.slice none 0 0), vI x.2.2.1.2.1, .pl (.slice none 0 0)] false, .lst true (.int .i64) x.2.2.2.1 false, .box [.own 2, vI x.2.2.2.2.1.2.1, .own 6] false, .lst true (.int .i64) x.2.2.2.2.2.1 false, .lst true bZ x.2.2.2.2.2.2.1 false, .lst true (.int .i8) x.2.2.2.2.2.2.2.1 false]⟩)⟩
noncomputable def xM : Tab := fun n => match n with | 1018 => some OT | 2085693 => some O4 | 4171386 => some OD | 66742183 => some OU | _ => none
noncomputable def yY : Code := (bod Tryz.f69).getD .skip
noncomputable def N7 : Go.Mach.Ends := aN yY [6, 7, 8] [(1018, [⟨11, some 2, false, (.int .i8)⟩, ⟨12, none, false, (.int .i64)⟩])]
theorem KM : aI (qD.cfg tt none false 0) xM N7 yY := by
 intro n E hn f c hs x k h
 unfold xM at hn
 split at hn
 ·cases hn; exact aG rfl hs (by kernel_rfl) (fun y : Int × (List Int) × List Int => ⟨[(1, vI x.1.1), (2, vI x.1.2.1), (3, .ptr 0 0), (6, .ptr 1 0), (9, .own 2), (11, .ptr 3 0), (12, .own 4), (40, vI x.1.2.2.2.2.2.2.2.1), (41, vI y.1)], [.box [vZ (.int .i64) x.2.1.1, vI x.2.1.2.1, vZ (.int .i8) x.2.1.2.2.1] false, .box [.pl (.slice none 0 0), vI x.2.2.1.2.1, .pl (.slice none 0 0)] false, .lst true (.int .i64) x.2.2.2.1 false, .box [.own 2, vI x.2.2.2.2.1.2.1, .own 5] false, .lst true (.int .i64) y.2.1 false, .lst true (.int .i8) y.2.2 false]⟩) (x.1.2.2.2.2.2.2.2.2.1, ([] : List Int), ([] : List Int)) (by kernel_rfl) (fun y X => by kernel_rfl) h.it
 ·cases hn; exact bU hs (by kernel_rfl) (by kernel_rfl) h.it
 ·cases hn; exact aG rfl hs (by kernel_rfl) (fun y : Int × Int => ⟨[(1, vI x.1.1), (2, vI x.1.2.1), (3, .ptr 0 0), (6, .ptr 1 0), (9, .own 2), (11, .ptr 3 0), (12, .own 4), (15, vI x.1.2.2.2.2.2.2.2.1), (16, vI y.1), (40, vI x.1.2.2.2.2.2.2.2.2.2.1), (41, vI x.1.2.2.2.2.2.2.2.2.2.2.1), (84, .own 5), (85, vI x.1.2.2.2.2.2.2.2.2.2.2.2.2.1), (86, vI y.2)], [.box [vZ (.int .i64) x.2.1.1, vI x.2.1.2.1, vZ (.int .i8) x.2.1.2.2.1] false, .box [.pl (.slice none 0 0), vI x.2.2.1.2.1, .pl (.slice none 0 0)] false, .lst true (.int .i64) x.2.2.2.1 false, .box [.own 2, vI x.2.2.2.2.1.2.1, .own 6] false, .lst true (.int .i64) x.2.2.2.2.2.1 false, .lst true bZ x.2.2.2.2.2.2.1 false, .lst true (.int .i8) x.2.2.2.2.2.2.2.1 false]⟩) (x.1.2.2.2.2.2.2.2.2.1, x.1.2.2.2.2.2.2.2.2.2.2.2.2.2.1) (by kernel_rfl) (fun y X => by kernel_rfl) h.it
 ·cases hn; exact bU hs (by kernel_rfl) (by kernel_rfl) h.it
 ·cases hn
def oQ : List Sh := [.agg [lZ (.int .i64), lI, lZ (.int .i8)], sI, sI]
theorem JQ (x : aM oQ) (Q : QT) (h : tG (x.1.1, (x.1.2.1, x.1.2.2.1)) x.2.1 x.2.2.1 (fun (r : aR × (List Int) × Int) => Q (aC [(true, c9), (false, (.slc (.int .i64))), (false, (.int .i64))] [.n, .n, .n] (r.1, (r.2.1, (r.2.2, ())))))) : aH Tryz.prog 69 (aJ oQ x) Q := qD.told [.n, .n, .n] (rt := [(true, c9), (false, (.slc (.int .i64))), (false, (.int .i64))]) hI0 KM Tryz.func69 (by kernel_rfl) (by kernel_rfl) (Nat.le_of_ble_eq_true rfl) h.it (by kernel_rfl)
noncomputable def qF : Tb Tryz.prog := qD.add 69 oQ JQ
structure iN (x0 : Int) (x10 : List Int) (K0 : Unit -> Prop) : Prop where
 it : ck ((x10.length + [x0].length) * 1 <= 140737488355328) (K0 ())
def dM (x0 : List Int) (x1 : Int) (x5 : List Int) (K0 : (List Int) -> Prop) (s : Int × List Int) (nx : (Int × List Int) -> Prop) : Prop :=
 if (decide (s.1 < x1)) = true then ck ((0 : Int) <= s.1 /\ s.1 < (x0.length : Int)) (ck ((0 : Int) <= s.1 /\ s.1 < (x5.length : Int)) (if (decide ((x5.getD ((s.1).toNat) 0) <= 0)) = true then iN 0 s.2 (fun (y5 : Unit) => nx (IntKind.i64.wrap (s.1 + 1), s.2 ++ [0])) else iN (x0.getD ((s.1).toNat) 0) s.2 (fun (y6 : Unit) => nx (IntKind.i64.wrap (s.1 + 1), s.2 ++ [(x0.getD ((s.1).toNat) 0)])))) else K0 s.2
structure qI (x0 : List Int) (x1 : Int) (x5 : List Int) (K0 : (List Int) -> Prop) (s : Int × List Int) : Prop where
 it : Go.Mach.Loop (dM x0 x1 x5 K0) s
structure tK (a0 a1 : aR) (Q : (aR × Int) -> Prop) : Prop where
 it : b7 [a0, a1] (fun (r1 : Bool) => if (!r1) = true then Q ((([] : List Int), (0, ([] : List Int))), 1) else aO a0.1 a1.1 (fun (r2 : Bool) => if (!r2) = true then Q ((([] : List Int), (0, ([] : List Int))), 2) else ck (a0.1.length * 8 <= 140737488355328) (qI a0.2.2 (a0.2.2.length : Int) a1.2.2 (fun (y7 : List Int) => Q ((a0.1, (a0.2.1, y7)), 0)) (0, ([] : List Int)))))
noncomputable def DG : Ent := ⟨[3, 4, 6, 29, 30, 31], [sC (.ptr 0 0), sC (.ptr 1 0), sC (.ptr 2 0), sZ (.int .i8), sI, sI], [.box [lZ (.int .i64), lI, lZ (.int .i8)] false, .box [.cst (.pl (.slice none 0 0)), lI, .cst (.pl (.slice none 0 0))] false, .box [.cst (.own 3), lI, .cst (.pl (.slice none 0 0))] false, .lst true (.int .i64) false], fun x k => qI x.1.2.2.2.1 x.1.2.2.2.2.1 x.2.1.2.2.1 (fun (y8 : List Int) => k (.exit 0) ⟨[(4, .ptr 0 0), (6, .ptr 1 0)], [.box [.pl (.slice none 0 0), vI x.2.2.1.2.1, .pl (.slice none 0 0)] false, .box [.own 2, vI x.2.2.2.1.2.1, .own 3] false, .lst true (.int .i64) x.2.2.2.2.1 false, .lst true (.int .i8) y8 false]⟩) (x.1.2.2.2.2.2.1, ([] : List Int))⟩
noncomputable def CC : Ent := ⟨[3, 4, 6, 8, 29, 30, 31], [sC (.ptr 0 0), sC (.ptr 1 0), sC (.ptr 2 0), .lf (.int .i8), sZ (.int .i8), sI, sI], [.box [lZ (.int .i64), lI, lZ (.int .i8)] false, .box [.cst (.pl (.slice none 0 0)), lI, .cst (.pl (.slice none 0 0))] false, .box [.cst (.own 3), lI, .cst (.own 4)] false, .lst true (.int .i64) false, .lst true (.int .i8) false], fun x k => iN x.1.2.2.2.1 x.2.2.2.2.2.1 (fun (y9 : Unit) => k .normal ⟨[(3, .ptr 0 0), (4, .ptr 1 0), (6, .ptr 2 0), (29, vZ (.int .i8) x.1.2.2.2.2.1), (30, vI x.1.2.2.2.2.2.1), (31, vI x.1.2.2.2.2.2.2.1)], [.box [vZ (.int .i64) x.2.1.1, vI x.2.1.2.1, vZ (.int .i8) x.2.1.2.2.1] false, .box [.pl (.slice none 0 0), vI x.2.2.1.2.1, .pl (.slice none 0 0)] false, .box [.own 3, vI x.2.2.2.1.2.1, .own 4] false, .lst true (.int .i64) x.2.2.2.2.1 false, .lst true (.int .i8) (x.2.2.2.2.2.1 ++ [x.1.2.2.2.1]) false]⟩)⟩
noncomputable def pW : Tab := fun n => match n with | 250 => some DG | 32051 => some CC | _ => none
noncomputable def rE : Code := (bod Tryz.f121).getD .skip
noncomputable def CY : Go.Mach.Ends := aN rE [4, 5] [(250, [⟨6, some 2, false, (.int .i8)⟩])]
theorem BD : aI (qF.cfg tt none false 0) pW CY rE := by
 intro n E hn f c hs x k h
 unfold pW at hn
 split at hn
 ·cases hn; exact aG rfl hs (by kernel_rfl) (fun y : Int × List Int => ⟨[(3, .ptr 0 0), (4, .ptr 1 0), (6, .ptr 2 0), (29, vZ (.int .i8) x.1.2.2.2.1), (30, vI x.1.2.2.2.2.1), (31, vI y.1)], [.box [vZ (.int .i64) x.2.1.1, vI x.2.1.2.1, vZ (.int .i8) x.2.1.2.2.1] false, .box [.pl (.slice none 0 0), vI x.2.2.1.2.1, .pl (.slice none 0 0)] false, .box [.own 3, vI x.2.2.2.1.2.1, .own 4] false, .lst true (.int .i64) x.2.2.2.2.1 false, .lst true (.int .i8) y.2 false]⟩) (x.1.2.2.2.2.2.1, ([] : List Int)) (by kernel_rfl) (fun y X => by kernel_rfl) h.it
 ·cases hn; exact bU hs (by kernel_rfl) (by kernel_rfl) h.it
 ·cases hn
def iQ : List Sh := [.agg [lZ (.int .i64), lI, lZ (.int .i8)], .agg [lZ (.int .i64), lI, lZ (.int .i8)]]
theorem BB (x : aM iQ) (Q : QT) (h : tK (x.1.1, (x.1.2.1, x.1.2.2.1)) (x.2.1.1, (x.2.1.2.1, x.2.1.2.2.1)) (fun (r : aR × Int) => Q (aC [(true, c9), (false, (.int .i64))] [.n, .n] (r.1, (r.2, ()))))) : aH Tryz.prog 121 (aJ iQ x) Q := qF.told [.n, .n] (rt := [(true, c9), (false, (.int .i64))]) hI0 BD Tryz.func121 (by kernel_rfl) (by kernel_rfl) (Nat.le_of_ble_eq_true rfl) h.it (by kernel_rfl)
noncomputable def jF : Tb Tryz.prog := qF.add 121 iQ BB
structure rG (a0 : aR) (Q : (aR × Int) -> Prop) : Prop where
 it : tK a0 a0 (fun (r1 : aR × Int) => Q (r1.1, r1.2))
noncomputable def M3 : Tab := fun n => none
noncomputable def wJ : Code := (bod Tryz.f70).getD .skip
noncomputable def LQ : Go.Mach.Ends := aN wJ [2, 3] []
theorem GY : aI (jF.cfg tt none false 0) M3 LQ wJ := by
 intro n E hn f c hs x k h
 cases hn
def nL : List Sh := [.agg [lZ (.int .i64), lI, lZ (.int .i8)]]
theorem HL (x : aM nL) (Q : QT) (h : rG (x.1.1, (x.1.2.1, x.1.2.2.1)) (fun (r : aR × Int) => Q (aC [(true, c9), (false, (.int .i64))] [.n, .n] (r.1, (r.2, ()))))) : aH Tryz.prog 70 (aJ nL x) Q := jF.told [.n, .n] (rt := [(true, c9), (false, (.int .i64))]) hI0 GY Tryz.func70 (by kernel_rfl) (by kernel_rfl) (Nat.le_of_ble_eq_true rfl) h.it (by kernel_rfl)
noncomputable def o5 : Tb Tryz.prog := jF.add 70 nL HL
structure rQ (a0 : aR) (Q : (aR × Int) -> Prop) : Prop where
 it : b7 [a0] (fun (r1 : Bool) => if (!r1) = true then Q ((([] : List Int), (0, ([] : List Int))), 1) else ck ((0 : Int) <= 0 /\ 0 < (a0.1.length : Int)) (ck ((0 : Int) <= 0 /\ 0 < (a0.1.length : Int)) (ck ((a0.1.getD 0 0) ≠ (0 : Int)) (bK [a0.1.getD 0 0, IntKind.i64.wrap (((a0.2.2.length : Int)).tdiv (a0.1.getD 0 0))] (fun (r2 : Bool) => if (!r2) = true then Q ((([] : List Int), (0, ([] : List Int))), 1) else ck (a0.2.2.length * 1 <= 140737488355328) (Q (([a0.1.getD 0 0, IntKind.i64.wrap (((a0.2.2.length : Int)).tdiv (a0.1.getD 0 0))], a0.2), 0)))))))
noncomputable def KA : Tab := fun n => none
noncomputable def wR : Code := (bod Tryz.f71).getD .skip
noncomputable def M4 : Go.Mach.Ends := aN wR [2, 3] []
theorem G9 : aI (o5.cfg tt none false 0) KA M4 wR := by
 intro n E hn f c hs x k h
 cases hn
def mU : List Sh := [.agg [lZ (.int .i64), lI, lZ (.int .i8)]]
theorem JJ (x : aM mU) (Q : QT) (h : rQ (x.1.1, (x.1.2.1, x.1.2.2.1)) (fun (r : aR × Int) => Q (aC [(true, c9), (false, (.int .i64))] [.n, .n] (r.1, (r.2, ()))))) : aH Tryz.prog 71 (aJ mU x) Q := o5.told [.n, .n] (rt := [(true, c9), (false, (.int .i64))]) hI0 G9 Tryz.func71 (by kernel_rfl) (by kernel_rfl) (Nat.le_of_ble_eq_true rfl) h.it (by kernel_rfl)
noncomputable def oS : Tb Tryz.prog := o5.add 71 mU JJ
structure jU (a0 : iE) (Q : Bool -> Prop) : Prop where
 it : bK a0.1 (fun (r1 : Bool) => jn (fun (v2 : Bool) => Q ((v2 && (decide ((-128) <= a0.2.1))) && (decide (a0.2.1 <= 128)))) (fun J3 => if r1 = true then dR a0.1 (fun (r4 : Int) => J3 ((a0.2.2.length : Int) == r4)) else J3 false))
noncomputable def IW : Tab := fun n => none
noncomputable def vW : Code := (bod Tryz.f72).getD .skip
noncomputable def I7 : Go.Mach.Ends := aN vW [2] []
theorem GT : aI (oS.cfg tt none false 0) IW I7 vW := by
 intro n E hn f c hs x k h
 cases hn
def lN : List Sh := [.agg [lZ (.int .i64), lI, lZ (.int .i32)]]
theorem F9 (x : aM lN) (Q : QT) (h : jU (x.1.1, (x.1.2.1, x.1.2.2.1)) (fun (r : Bool) => Q (aC [(false, .bool)] [.n] (r, ())))) : aH Tryz.prog 72 (aJ lN x) Q := oS.told [.n] (rt := [(false, .bool)]) hI0 GT Tryz.func72 (by kernel_rfl) (by kernel_rfl) (Nat.le_of_ble_eq_true rfl) h.it (by kernel_rfl)
noncomputable def nG : Tb Tryz.prog := oS.add 72 lN F9
def gO  (K0 : Int -> Prop) (s : Int × Int) (nx : (Int × Int) -> Prop) : Prop :=
 if (decide (0 < s.2)) = true then ck ((0 : Int) <= 1) (nx (IntKind.i64.wrap (s.1 + 1), (s.2).fdiv (2 ^ (min ((1 : Int)).toNat (IntKind.i64).bits)))) else K0 s.1
structure oL  (K0 : Int -> Prop) (s : Int × Int) : Prop where
 it : Go.Mach.Loop (gO K0) s
structure tE (a0 : Int) (Q : Int -> Prop) : Prop where
 it : gZ a0 0 (fun (r1 : Int × Int) => oL (fun (y2 : Int) => Q y2) (0, aD r1.1 (IntKind.i64.wrap (0 - r1.1))))
noncomputable def OR : Ent := ⟨[3, 4], [sI, sI], [], fun x k => oL (fun (y3 : Int) => k (.exit 0) ⟨[(3, vI y3)], []⟩) (x.1.1, x.1.2.1)⟩
noncomputable def wG : Tab := fun n => match n with | 122 => some OR | _ => none
noncomputable def zA : Code := (bod Tryz.f122).getD .skip
noncomputable def OL : Go.Mach.Ends := aN zA [2] []
theorem KT : aI (nG.cfg tt none false 0) wG OL zA := by
 intro n E hn f c hs x k h
 unfold wG at hn
 split at hn
 ·cases hn; exact aG rfl hs (by kernel_rfl) (fun y : Int × Int => ⟨[(3, vI y.1), (4, vI y.2)], []⟩) (x.1.1, x.1.2.1) (by kernel_rfl) (fun y X => by kernel_rfl) h.it
 ·cases hn
def oC : List Sh := [sI]
theorem NC (x : aM oC) (Q : QT) (h : tE x.1 (fun (r : Int) => Q (aC [(false, (.int .i64))] [.n] (r, ())))) : aH Tryz.prog 122 (aJ oC x) Q := nG.told [.n] (rt := [(false, (.int .i64))]) hI0 KT Tryz.func122 (by kernel_rfl) (by kernel_rfl) (Nat.le_of_ble_eq_true rfl) h.it (by kernel_rfl)
noncomputable def pT : Tb Tryz.prog := nG.add 122 oC NC
def gB (x1 : List Int) (x2 : Int) (K0 : Int -> Prop) (s : Int × Int) (nx : (Int × Int) -> Prop) : Prop :=
 if (decide (s.2 < x2)) = true then ck ((0 : Int) <= s.2 /\ s.2 < (x1.length : Int)) (tE (IntKind.i64.wrap (x1.getD ((s.2).toNat) 0)) (fun (r2 : Int) => nx (aD s.1 r2, IntKind.i64.wrap (s.2 + 1)))) else K0 s.1
structure u7 (x1 : List Int) (x2 : Int) (K0 : Int -> Prop) (s : Int × Int) : Prop where
 it : Go.Mach.Loop (gB x1 x2 K0) s
structure rM (a0 : iE) (Q : Int -> Prop) : Prop where
 it : jU a0 (fun (r1 : Bool) => if (!r1) = true then Q 0 else u7 a0.2.2 (a0.2.2.length : Int) (fun (y3 : Int) => Q y3) (0, 0))
noncomputable def ML : Ent := ⟨[3, 10, 11, 12], [sI, sZ (.int .i32), sI, sI], [], fun x k => u7 x.1.2.1 x.1.2.2.1 (fun (y4 : Int) => k (.exit 0) ⟨[(3, vI y4)], []⟩) (x.1.1, x.1.2.2.2.1)⟩
noncomputable def vX : Tab := fun n => match n with | 122 => some ML | _ => none
noncomputable def wF : Code := (bod Tryz.f73).getD .skip
noncomputable def M0 : Go.Mach.Ends := aN wF [2] []
theorem I6 : aI (pT.cfg tt none false 0) vX M0 wF := by
 intro n E hn f c hs x k h
 unfold vX at hn
 split at hn
 ·cases hn; exact aG rfl hs (by kernel_rfl) (fun y : Int × Int => ⟨[(3, vI y.1), (10, vZ (.int .i32) x.1.2.1), (11, vI x.1.2.2.1), (12, vI y.2)], []⟩) (x.1.1, x.1.2.2.2.1) (by kernel_rfl) (fun y X => by kernel_rfl) h.it
 ·cases hn
def mS : List Sh := [.agg [lZ (.int .i64), lI, lZ (.int .i32)]]
theorem IC (x : aM mS) (Q : QT) (h : rM (x.1.1, (x.1.2.1, x.1.2.2.1)) (fun (r : Int) => Q (aC [(false, (.int .i64))] [.n] (r, ())))) : aH Tryz.prog 73 (aJ mS x) Q := pT.told [.n] (rt := [(false, (.int .i64))]) hI0 I6 Tryz.func73 (by kernel_rfl) (by kernel_rfl) (Nat.le_of_ble_eq_true rfl) h.it (by kernel_rfl)
noncomputable def oU : Tb Tryz.prog := pT.add 73 mS IC
structure jT (a0 : Int) (Q : Int -> Prop) : Prop where
 it : ck ((0 : Int) <= 30) (ck ((0 : Int) <= 27) (ck ((0 : Int) <= 31) (Q (IntKind.u64.wrap ((BitVec.ofInt (IntKind.u64).bits (IntKind.u64.wrap ((IntKind.u64.wrap ((BitVec.ofInt (IntKind.u64).bits (IntKind.u64.wrap ((IntKind.u64.wrap ((BitVec.ofInt (IntKind.u64).bits (IntKind.u64.wrap (a0 + 11400714819323198485)) ^^^ BitVec.ofInt (IntKind.u64).bits ((IntKind.u64.wrap (a0 + 11400714819323198485)).fdiv (2 ^ (min ((30 : Int)).toNat (IntKind.u64).bits)))).toNat : Nat)) * 13787848793156543929)) ^^^ BitVec.ofInt (IntKind.u64).bits ((IntKind.u64.wrap ((IntKind.u64.wrap ((BitVec.ofInt (IntKind.u64).bits (IntKind.u64.wrap (a0 + 11400714819323198485)) ^^^ BitVec.ofInt (IntKind.u64).bits ((IntKind.u64.wrap (a0 + 11400714819323198485)).fdiv (2 ^ (min ((30 : Int)).toNat (IntKind.u64).bits)))).toNat : Nat)) * 13787848793156543929)).fdiv (2 ^ (min ((27 : Int)).toNat (IntKind.u64).bits)))).toNat : Nat)) * 10723151780598845931)) ^^^ BitVec.ofInt (IntKind.u64).bits ((IntKind.u64.wrap ((IntKind.u64.wrap ((BitVec.ofInt (IntKind.u64).bits (IntKind.u64.wrap ((IntKind.u64.wrap ((BitVec.ofInt (IntKind.u64).bits (IntKind.u64.wrap (a0 + 11400714819323198485)) ^^^ BitVec.ofInt (IntKind.u64).bits ((IntKind.u64.wrap (a0 + 11400714819323198485)).fdiv (2 ^ (min ((30 : Int)).toNat (IntKind.u64).bits)))).toNat : Nat)) * 13787848793156543929)) ^^^ BitVec.ofInt (IntKind.u64).bits ((IntKind.u64.wrap ((IntKind.u64.wrap ((BitVec.ofInt (IntKind.u64).bits (IntKind.u64.wrap (a0 + 11400714819323198485)) ^^^ BitVec.ofInt (IntKind.u64).bits ((IntKind.u64.wrap (a0 + 11400714819323198485)).fdiv (2 ^ (min ((30 : Int)).toNat (IntKind.u64).bits)))).toNat : Nat)) * 13787848793156543929)).fdiv (2 ^ (min ((27 : Int)).toNat (IntKind.u64).bits)))).toNat : Nat)) * 10723151780598845931)).fdiv (2 ^ (min ((31 : Int)).toNat (IntKind.u64).bits)))).toNat : Nat)))))
noncomputable def PR : Tab := fun n => none
noncomputable def AY : Code := (bod Tryz.f125).getD .skip
noncomputable def PC : Go.Mach.Ends := aN AY [2] []
theorem O0 : aI (oU.cfg tt none false 0) PR PC AY := by
 intro n E hn f c hs x k h
 cases hn
def pP : List Sh := [.lf (.int .u64)]
theorem OZ (x : aM pP) (Q : QT) (h : jT x.1 (fun (r : Int) => Q (aC [(false, (.int .u64))] [.n] (r, ())))) : aH Tryz.prog 125 (aJ pP x) Q := oU.told [.n] (rt := [(false, (.int .u64))]) hI0 O0 Tryz.func125 (by kernel_rfl) (by kernel_rfl) (Nat.le_of_ble_eq_true rfl) h.it (by kernel_rfl)
noncomputable def rK : Tb Tryz.prog := oU.add 125 pP OZ
structure xY (a0 a1 a2 : Int) (Q : Int -> Prop) : Prop where
 it : jT a0 (fun (r1 : Int) => jT (IntKind.u64.wrap ((BitVec.ofInt (IntKind.u64).bits r1 ^^^ BitVec.ofInt (IntKind.u64).bits a1).toNat : Nat)) (fun (r2 : Int) => jT (IntKind.u64.wrap ((BitVec.ofInt (IntKind.u64).bits r2 ^^^ BitVec.ofInt (IntKind.u64).bits a2).toNat : Nat)) (fun (r3 : Int) => Q r3)))
noncomputable def R7 : Tab := fun n => none
noncomputable def CI : Code := (bod Tryz.f76).getD .skip
noncomputable def R4 : Go.Mach.Ends := aN CI [6] []
theorem O9 : aI (rK.cfg tt none false 0) R7 R4 CI := by
 intro n E hn f c hs x k h
 cases hn
def rT : List Sh := [.lf (.int .u64), .lf (.int .u64), .lf (.int .u64)]
theorem PP (x : aM rT) (Q : QT) (h : xY x.1 x.2.1 x.2.2.1 (fun (r : Int) => Q (aC [(false, (.int .u64))] [.n] (r, ())))) : aH Tryz.prog 76 (aJ rT x) Q := rK.told [.n] (rt := [(false, (.int .u64))]) hI0 O9 Tryz.func76 (by kernel_rfl) (by kernel_rfl) (Nat.le_of_ble_eq_true rfl) h.it (by kernel_rfl)
noncomputable def s7 : Tb Tryz.prog := rK.add 76 rT PP
structure qG (a0 a1 a2 : Int) (Q : Int -> Prop) : Prop where
 it : gZ a0 a1 (fun (r1 : Int × Int) => ck ((0 : Int) <= r1.2) (ck ((0 : Int) <= r1.2) (Q ((IntKind.i64.wrap (r1.1 + (IntKind.i64.wrap (IntKind.u64.wrap ((BitVec.ofInt (IntKind.u64).bits a2 &&& BitVec.ofInt (IntKind.u64).bits (IntKind.u64.wrap ((IntKind.u64.wrap (1 * 2 ^ (min (r1.2).toNat (IntKind.u64).bits))) - 1))).toNat : Nat))))).fdiv (2 ^ (min (r1.2).toNat (IntKind.i64).bits))))))
noncomputable def IZ : Tab := fun n => none
noncomputable def uM : Code := (bod Tryz.f75).getD .skip
noncomputable def IL : Go.Mach.Ends := aN uM [6] []
theorem F4 : aI (s7.cfg tt none false 0) IZ IL uM := by
 intro n E hn f c hs x k h
 cases hn
def k7 : List Sh := [sI, sI, .lf (.int .u64)]
theorem FZ (x : aM k7) (Q : QT) (h : qG x.1 x.2.1 x.2.2.1 (fun (r : Int) => Q (aC [(false, (.int .i64))] [.n] (r, ())))) : aH Tryz.prog 75 (aJ k7 x) Q := s7.told [.n] (rt := [(false, (.int .i64))]) hI0 F4 Tryz.func75 (by kernel_rfl) (by kernel_rfl) (Nat.le_of_ble_eq_true rfl) h.it (by kernel_rfl)
noncomputable def nF : Tb Tryz.prog := s7.add 75 k7 FZ
structure rU (a0 a1 : Int) (Q : Int -> Prop) : Prop where
 it : aY a1 1 32 (fun (r1 : Int) => ck ((0 : Int) <= (IntKind.u64.wrap (IntKind.i64.wrap (r1 - 1)))) (aY a0 (IntKind.i64.wrap (0 - (IntKind.i64.wrap ((IntKind.i64.wrap (1 * 2 ^ (min (IntKind.u64.wrap (IntKind.i64.wrap (r1 - 1))).toNat (IntKind.i64).bits))) - 1)))) (IntKind.i64.wrap ((IntKind.i64.wrap (1 * 2 ^ (min (IntKind.u64.wrap (IntKind.i64.wrap (r1 - 1))).toNat (IntKind.i64).bits))) - 1)) (fun (r2 : Int) => Q r2)))
noncomputable def M9 : Tab := fun n => none
noncomputable def wW : Code := (bod Tryz.f74).getD .skip
noncomputable def KC : Go.Mach.Ends := aN wW [4] []
theorem HO : aI (nF.cfg tt none false 0) M9 KC wW := by
 intro n E hn f c hs x k h
 cases hn
def nH : List Sh := [sI, sI]
theorem IK (x : aM nH) (Q : QT) (h : rU x.1 x.2.1 (fun (r : Int) => Q (aC [(false, (.int .i64))] [.n] (r, ())))) : aH Tryz.prog 74 (aJ nH x) Q := nF.told [.n] (rt := [(false, (.int .i64))]) hI0 HO Tryz.func74 (by kernel_rfl) (by kernel_rfl) (Nat.le_of_ble_eq_true rfl) h.it (by kernel_rfl)
noncomputable def oX : Tb Tryz.prog := nF.add 74 nH IK
def f6 (x0 x1 x2 x3 : Int) (x4 : List Int) (x5 : Int) (K0 : (List Int) -> Prop) (s : Int × List Int) (nx : (Int × List Int) -> Prop) : Prop :=
 if (decide (s.1 < x5)) = true then ck ((0 : Int) <= s.1 /\ s.1 < (x4.length : Int)) (xY x1 x2 (IntKind.u64.wrap s.1) (fun (r6 : Int) => qG (IntKind.i64.wrap (x4.getD ((s.1).toNat) 0)) x3 r6 (fun (r7 : Int) => rU r7 x0 (fun (r8 : Int) => ck ((s.2.length + [IntKind.i8.wrap r8].length) * 1 <= 140737488355328) (nx (IntKind.i64.wrap (s.1 + 1), s.2 ++ [IntKind.i8.wrap r8])))))) else K0 s.2
structure vV (x0 x1 x2 x3 : Int) (x4 : List Int) (x5 : Int) (K0 : (List Int) -> Prop) (s : Int × List Int) : Prop where
 it : Go.Mach.Loop (f6 x0 x1 x2 x3 x4 x5 K0) s
structure bD (a0 : iE) (a1 a2 a3 : Int) (Q : (aR × Int) -> Prop) : Prop where
 it : jU a0 (fun (r1 : Bool) => if (((!r1) || (decide (a1 < 2))) || (decide (8 < a1))) = true then Q ((([] : List Int), (0, ([] : List Int))), 1) else rM a0 (fun (r2 : Int) => ck (a0.1.length * 8 <= 140737488355328) (if ((decide ((IntKind.i64.wrap (a0.2.1 + (aD 0 (IntKind.i64.wrap (r2 - (IntKind.i64.wrap (a1 - 1))))))) < (-64))) || (decide (64 < (IntKind.i64.wrap (a0.2.1 + (aD 0 (IntKind.i64.wrap (r2 - (IntKind.i64.wrap (a1 - 1)))))))))) = true then Q ((([] : List Int), (0, ([] : List Int))), 3) else vV a1 a2 a3 (aD 0 (IntKind.i64.wrap (r2 - (IntKind.i64.wrap (a1 - 1))))) a0.2.2 (a0.2.2.length : Int) (fun (y9 : List Int) => Q ((a0.1, ((IntKind.i64.wrap (a0.2.1 + (aD 0 (IntKind.i64.wrap (r2 - (IntKind.i64.wrap (a1 - 1))))))), y9)), 0)) (0, ([] : List Int)))))
noncomputable def JZ : Ent := ⟨[1, 2, 3, 8, 10, 11, 50, 51, 52], [sI, .lf (.int .u64), .lf (.int .u64), sC (.ptr 0 0), sI, sC (.ptr 1 0), sZ (.int .i32), sI, sI], [.box [.cst (.pl (.slice none 0 0)), lI, .cst (.pl (.slice none 0 0))] false, .box [.cst (.own 2), lI, .cst (.pl (.slice none 0 0))] false, .lst true (.int .i64) false], fun x k => vV x.1.1 x.1.2.1 x.1.2.2.1 x.1.2.2.2.2.1 x.1.2.2.2.2.2.2.1 x.1.2.2.2.2.2.2.2.1 (fun (y10 : List Int) => k (.exit 0) ⟨[(8, .ptr 0 0), (11, .ptr 1 0)], [.box [.pl (.slice none 0 0), vI x.2.1.2.1, .pl (.slice none 0 0)] false, .box [.own 2, vI x.2.2.1.2.1, .own 3] false, .lst true (.int .i64) x.2.2.2.1 false, .lst true (.int .i8) y10 false]⟩) (x.1.2.2.2.2.2.2.2.2.1, ([] : List Int))⟩
noncomputable def u4 : Tab := fun n => match n with | 506 => some JZ | _ => none
noncomputable def wN : Code := (bod Tryz.f35).getD .skip
noncomputable def LP : Go.Mach.Ends := aN wN [8, 9] [(506, [⟨11, some 2, false, (.int .i8)⟩])]
theorem HG : aI (oX.cfg tt none false 0) u4 LP wN := by
 intro n E hn f c hs x k h
 unfold u4 at hn
 split at hn
 ·cases hn; exact aG rfl hs (by kernel_rfl) (fun y : Int × List Int => ⟨[(1, vI x.1.1), (2, vK .u64 x.1.2.1), (3, vK .u64 x.1.2.2.1), (8, .ptr 0 0), (10, vI x.1.2.2.2.2.1), (11, .ptr 1 0), (50, vZ (.int .i32) x.1.2.2.2.2.2.2.1), (51, vI x.1.2.2.2.2.2.2.2.1), (52, vI y.1)], [.box [.pl (.slice none 0 0), vI x.2.1.2.1, .pl (.slice none 0 0)] false, .box [.own 2, vI x.2.2.1.2.1, .own 3] false, .lst true (.int .i64) x.2.2.2.1 false, .lst true (.int .i8) y.2 false]⟩) (x.1.2.2.2.2.2.2.2.2.1, ([] : List Int)) (by kernel_rfl) (fun y X => by kernel_rfl) h.it
 ·cases hn
def nC : List Sh := [.agg [lZ (.int .i64), lI, lZ (.int .i32)], sI, .lf (.int .u64), .lf (.int .u64)]
theorem G2 (x : aM nC) (Q : QT) (h : bD (x.1.1, (x.1.2.1, x.1.2.2.1)) x.2.1 x.2.2.1 x.2.2.2.1 (fun (r : aR × Int) => Q (aC [(true, c9), (false, (.int .i64))] [.n, .n] (r.1, (r.2, ()))))) : aH Tryz.prog 35 (aJ nC x) Q := oX.told [.n, .n] (rt := [(true, c9), (false, (.int .i64))]) hI0 HG Tryz.func35 (by kernel_rfl) (by kernel_rfl) (Nat.le_of_ble_eq_true rfl) h.it (by kernel_rfl)
noncomputable def oV : Tb Tryz.prog := oX.add 35 nC G2
structure g9 (a0 : Int) (Q : Bool -> Prop) : Prop where
 it : Q ((decide (0 <= a0)) && (decide (a0 <= 1000000)))
noncomputable def D5 : Tab := fun n => none
noncomputable def sK : Code := (bod Tryz.f31).getD .skip
noncomputable def D2 : Go.Mach.Ends := aN sK [2] []
theorem DK : aI (oV.cfg tt none false 0) D5 D2 sK := by
 intro n E hn f c hs x k h
 cases hn
def jI : List Sh := [sI]
theorem C5 (x : aM jI) (Q : QT) (h : g9 x.1 (fun (r : Bool) => Q (aC [(false, .bool)] [.n] (r, ())))) : aH Tryz.prog 31 (aJ jI x) Q := oV.told [.n] (rt := [(false, .bool)]) hI0 DK Tryz.func31 (by kernel_rfl) (by kernel_rfl) (Nat.le_of_ble_eq_true rfl) h.it (by kernel_rfl)
noncomputable def j7 : Tb Tryz.prog := oV.add 31 jI C5
structure aV (a0 a1 a2 : Int) (Q : Int -> Prop) : Prop where
 it : g9 a0 (fun (r1 : Bool) => if (((((!r1) || (decide (a1 < 0))) || (decide (12 < a1))) || (decide (a2 < 0))) || (decide (15 < a2))) = true then Q 0 else Q (IntKind.u64.wrap ((IntKind.u64.wrap ((IntKind.u64.wrap ((IntKind.u64.wrap a0) * 1024)) + (IntKind.u64.wrap ((IntKind.u64.wrap a1) * 16)))) + (IntKind.u64.wrap a2))))
noncomputable def FP : Tab := fun n => none
noncomputable def tH : Code := (bod Tryz.f36).getD .skip
noncomputable def E5 : Go.Mach.Ends := aN tH [6] []
theorem D8 : aI (j7.cfg tt none false 0) FP E5 tH := by
 intro n E hn f c hs x k h
 cases hn
def kC : List Sh := [sI, sI, sI]
theorem EC (x : aM kC) (Q : QT) (h : aV x.1 x.2.1 x.2.2.1 (fun (r : Int) => Q (aC [(false, (.int .u64))] [.n] (r, ())))) : aH Tryz.prog 36 (aJ kC x) Q := j7.told [.n] (rt := [(false, (.int .u64))]) hI0 D8 Tryz.func36 (by kernel_rfl) (by kernel_rfl) (Nat.le_of_ble_eq_true rfl) h.it (by kernel_rfl)
noncomputable def cG : Tb Tryz.prog := j7.add 36 kC EC
structure aQ  (K0 : Unit -> Prop) : Prop where
 it : K0 ()
noncomputable def kK : Ent := ⟨[6, 8, 11, 12, 118, 120, 121, 127, 130, 131, 133, 134, 135, 136, 171, 172, 173], [sC (.ptr 0 0), sC (.ptr 1 0), sC (.ptr 2 0), sI, sZ xS, .lf (.int .u64), sI, sC (.ptr 3 0), sC (.ptr 4 0), sI, sC (.undef), sC (.undef), sC (.undef), sC (.undef), sZ mF, sI, sI], [.box [.cst (.pl (.slice none 0 0)), lI, .cst (.pl (.slice none 0 0))] false, .box [.cst (.pl (.slice none 0 0)), lI, .cst (.pl (.slice none 0 0))] false, .box [lZ (.int .i64), lI, .cst (.own 5)] false, .box [.cst (.pl (.slice none 0 0)), .cst (.pl (.slice none 0 0))] false, .box [.cst (.own 6), .cst (.own 7)] false, .lst true (.int .i32) false, .lst false c9 false, .lst true (.slc (.int .i64)) false], fun x k => aQ (fun (yi23 : Unit) => k .ret ⟨[(6, .ptr 0 0), (7, .pl (.slice none 0 0)), (8, .ptr 1 0), (9, vI x.1.2.2.2.1), (118, vZ xS x.1.2.2.2.2.1), (120, vK .u64 x.1.2.2.2.2.2.1), (121, vI x.1.2.2.2.2.2.2.1), (127, .ptr 2 0), (130, .ptr 3 0), (131, vI x.1.2.2.2.2.2.2.2.2.2.1), (133, .undef), (134, .undef), (135, .undef), (136, .undef), (171, vZ mF x.1.2.2.2.2.2.2.2.2.2.2.2.2.2.2.1), (172, vI x.1.2.2.2.2.2.2.2.2.2.2.2.2.2.2.2.1), (173, vI x.1.2.2.2.2.2.2.2.2.2.2.2.2.2.2.2.2.1)], [.box [.pl (.slice none 0 0), vI 0, .pl (.slice none 0 0)] false, .box [vZ (.int .i64) x.2.2.2.1.1, vI x.2.2.2.1.2.1, .own 4] false, .box [.pl (.slice none 0 0), .pl (.slice none 0 0)] false, .box [.own 5, .own 6] false, .lst true (.int .i32) x.2.2.2.2.2.2.1 false, .lst false c9 x.2.2.2.2.2.2.2.1 false, .lst true (.slc (.int .i64)) x.2.2.2.2.2.2.2.2.1 false]⟩)⟩
noncomputable def bG : Tab := fun n => match n with | 63 => some kK | _ => none
noncomputable def bJ : Code := (bod Tryz.f34).getD .skip
noncomputable def cA : Go.Mach.Ends := aN bJ [6, 7, 8, 9, 118, 120, 121, 127, 130, 131, 133, 134, 135, 136, 171, 172, 173] []
theorem kE : aI (cG.cfg tt none false 0) bG cA bJ := by
 intro n E hn f c hs x k h
 unfold bG at hn
 split at hn
 ·cases hn; exact bU hs (by kernel_rfl) (by kernel_rfl) h.it
 ·cases hn
noncomputable def dZ : Inl := ⟨fun g => g == 34, fun _ args s k => QP (cG.cfg tt none false 0) bG cA Tryz.f34 bJ args s k⟩
theorem kB : gC Tryz.prog dZ := aBn (G1 := (cG.cfg tt none false 0)) (ct := bG) (en := cA) (F := 34) (fn := Tryz.f34) (cd := bJ) Tryz.func34 (by kernel_rfl) (by kernel_rfl) kE cG.ok hI0
def d8 (x0 : List JD) (x1 x2 : Int) (x3 : List zM) (x4 : Int) (K0 : ((List aR) × List (List Int)) -> Prop) (K1 : (Int × Int × List aR) -> Prop) (s : Int × (List aR) × List (List Int)) (nx : (Int × (List aR) × List (List Int)) -> Prop) : Prop :=
 if (decide (s.1 < x4)) = true then ck ((0 : Int) <= s.1 /\ s.1 < (x3.length : Int)) (ck ((0 : Int) <= s.1 /\ s.1 < (x0.length : Int)) (ck ((0 : Int) <= (IntKind.i64.wrap ((s.2.1.length : Int) - 1)) /\ (IntKind.i64.wrap ((s.2.1.length : Int) - 1)) < (s.2.1.length : Int)) (if (((x3.getD ((s.1).toNat) (0, (0, (0, (0, (0, (0, false))))))).1) == 1) = true then pS (s.2.1.getD ((IntKind.i64.wrap ((s.2.1.length : Int) - 1)).toNat) ([], (0, []))) ((x0.getD ((s.1).toNat) (([], (0, [])), ([], ([], (0, []))))).1) (((x0.getD ((s.1).toNat) (([], (0, [])), ([], ([], (0, []))))).2).2) (fun (ri12 : iE × Int) => aQ (fun (yi13 : Unit) => if ((ri12.2 == 0) && (((0 : Nat) : Int) == 0)) = true then aV x2 (IntKind.i64.wrap (s.1 + 1)) 0 (fun (r11 : Int) => bD ri12.1 8 x1 r11 (fun (r12 : aR × Int) => if (r12.2 != 0) = true then K1 (IntKind.i64.wrap (s.1 + 1), r12.2, ([] : List aR)) else ck ((s.2.1.length + [r12.1].length) * 56 <= 140737488355328) (ck ((s.2.2.length + [([] : List Int)].length) * 24 <= 140737488355328) (nx (IntKind.i64.wrap (s.1 + 1), s.2.1 ++ [r12.1], s.2.2 ++ [([] : List Int)]))))) else if (ri12.2 != 0) = true then K1 (IntKind.i64.wrap (s.1 + 1), ri12.2, ([] : List aR)) else ck ((s.2.1.length + [(([] : List Int), (0, ([] : List Int)))].length) * 56 <= 140737488355328) (ck ((s.2.2.length + [([] : List Int)].length) * 24 <= 140737488355328) (nx (IntKind.i64.wrap (s.1 + 1), s.2.1 ++ [(([] : List Int), (0, ([] : List Int)))], s.2.2 ++ [([] : List Int)]))))) else if (((x3.getD ((s.1).toNat) (0, (0, (0, (0, (0, (0, false))))))).1) == 2) = true then rI (s.2.1.getD ((IntKind.i64.wrap ((s.2.1.length : Int) - 1)).toNat) ([], (0, []))) ((x0.getD ((s.1).toNat) (([], (0, [])), ([], ([], (0, []))))).1) (((x0.getD ((s.1).toNat) (([], (0, [])), ([], ([], (0, []))))).2).2) (((((x3.getD ((s.1).toNat) (0, (0, (0, (0, (0, (0, false))))))).2).2).2).1) ((((((x3.getD ((s.1).toNat) (0, (0, (0, (0, (0, (0, false))))))).2).2).2).2).1) (fun (ri14 : iE × Int) => aQ (fun (yi15 : Unit) => if ((ri14.2 == 0) && (((0 : Nat) : Int) == 0)) = true then aV x2 (IntKind.i64.wrap (s.1 + 1)) 0 (fun (r13 : Int) => bD ri14.1 8 x1 r13 (fun (r14 : aR × Int) => if (r14.2 != 0) = true then K1 (IntKind.i64.wrap (s.1 + 1), r14.2, ([] : List aR)) else ck ((s.2.1.length + [r14.1].length) * 56 <= 140737488355328) (ck ((s.2.2.length + [([] : List Int)].length) * 24 <= 140737488355328) (nx (IntKind.i64.wrap (s.1 + 1), s.2.1 ++ [r14.1], s.2.2 ++ [([] : List Int)]))))) else if (ri14.2 != 0) = true then K1 (IntKind.i64.wrap (s.1 + 1), ri14.2, ([] : List aR)) else ck ((s.2.1.length + [(([] : List Int), (0, ([] : List Int)))].length) * 56 <= 140737488355328) (ck ((s.2.2.length + [([] : List Int)].length) * 24 <= 140737488355328) (nx (IntKind.i64.wrap (s.1 + 1), s.2.1 ++ [(([] : List Int), (0, ([] : List Int)))], s.2.2 ++ [([] : List Int)]))))) else if (((x3.getD ((s.1).toNat) (0, (0, (0, (0, (0, (0, false))))))).1) == 4) = true then s8 (s.2.1.getD ((IntKind.i64.wrap ((s.2.1.length : Int) - 1)).toNat) ([], (0, []))) ((((x3.getD ((s.1).toNat) (0, (0, (0, (0, (0, (0, false))))))).2).2).1) (((((x3.getD ((s.1).toNat) (0, (0, (0, (0, (0, (0, false))))))).2).2).2).1) (fun (ri16 : iE × Int) => aQ (fun (yi17 : Unit) => if ((ri16.2 == 0) && (((0 : Nat) : Int) == 0)) = true then aV x2 (IntKind.i64.wrap (s.1 + 1)) 0 (fun (r15 : Int) => bD ri16.1 8 x1 r15 (fun (r16 : aR × Int) => if (r16.2 != 0) = true then K1 (IntKind.i64.wrap (s.1 + 1), r16.2, ([] : List aR)) else ck ((s.2.1.length + [r16.1].length) * 56 <= 140737488355328) (ck ((s.2.2.length + [([] : List Int)].length) * 24 <= 140737488355328) (nx (IntKind.i64.wrap (s.1 + 1), s.2.1 ++ [r16.1], s.2.2 ++ [([] : List Int)]))))) else if (ri16.2 != 0) = true then K1 (IntKind.i64.wrap (s.1 + 1), ri16.2, ([] : List aR)) else ck ((s.2.1.length + [(([] : List Int), (0, ([] : List Int)))].length) * 56 <= 140737488355328) (ck ((s.2.2.length + [([] : List Int)].length) * 24 <= 140737488355328) (nx (IntKind.i64.wrap (s.1 + 1), s.2.1 ++ [(([] : List Int), (0, ([] : List Int)))], s.2.2 ++ [([] : List Int)]))))) else if (((x3.getD ((s.1).toNat) (0, (0, (0, (0, (0, (0, false))))))).1) == 7) = true then ck ((0 : Int) <= (((((((x3.getD ((s.1).toNat) (0, (0, (0, (0, (0, (0, false))))))).2).2).2).2).2).1) /\ (((((((x3.getD ((s.1).toNat) (0, (0, (0, (0, (0, (0, false))))))).2).2).2).2).2).1) < (s.2.1.length : Int)) (s4 (s.2.1.getD ((IntKind.i64.wrap ((s.2.1.length : Int) - 1)).toNat) ([], (0, []))) (s.2.1.getD ((((((((x3.getD ((s.1).toNat) (0, (0, (0, (0, (0, (0, false))))))).2).2).2).2).2).1).toNat) ([], (0, []))) (fun (ri18 : iE × Int) => aQ (fun (yi19 : Unit) => if ((ri18.2 == 0) && (((0 : Nat) : Int) == 0)) = true then aV x2 (IntKind.i64.wrap (s.1 + 1)) 0 (fun (r17 : Int) => bD ri18.1 8 x1 r17 (fun (r18 : aR × Int) => if (r18.2 != 0) = true then K1 (IntKind.i64.wrap (s.1 + 1), r18.2, ([] : List aR)) else ck ((s.2.1.length + [r18.1].length) * 56 <= 140737488355328) (ck ((s.2.2.length + [([] : List Int)].length) * 24 <= 140737488355328) (nx (IntKind.i64.wrap (s.1 + 1), s.2.1 ++ [r18.1], s.2.2 ++ [([] : List Int)]))))) else if (ri18.2 != 0) = true then K1 (IntKind.i64.wrap (s.1 + 1), ri18.2, ([] : List aR)) else ck ((s.2.1.length + [(([] : List Int), (0, ([] : List Int)))].length) * 56 <= 140737488355328) (ck ((s.2.2.length + [([] : List Int)].length) * 24 <= 140737488355328) (nx (IntKind.i64.wrap (s.1 + 1), s.2.1 ++ [(([] : List Int), (0, ([] : List Int)))], s.2.2 ++ [([] : List Int)])))))) else if (((x3.getD ((s.1).toNat) (0, (0, (0, (0, (0, (0, false))))))).1) == 3) = true then tG (s.2.1.getD ((IntKind.i64.wrap ((s.2.1.length : Int) - 1)).toNat) ([], (0, []))) ((((x3.getD ((s.1).toNat) (0, (0, (0, (0, (0, (0, false))))))).2).2).1) (((((x3.getD ((s.1).toNat) (0, (0, (0, (0, (0, (0, false))))))).2).2).2).1) (fun (ri20 : aR × (List Int) × Int) => if ((ri20.2.2 == 0) && ((ri20.1.1.length : Int) == 0)) = true then aV x2 (IntKind.i64.wrap (s.1 + 1)) 0 (fun (r19 : Int) => bD (([] : List Int), (0, ([] : List Int))) 8 x1 r19 (fun (r20 : aR × Int) => if (r20.2 != 0) = true then K1 (IntKind.i64.wrap (s.1 + 1), r20.2, ([] : List aR)) else ck ((s.2.1.length + [r20.1].length) * 56 <= 140737488355328) (ck ((s.2.2.length + [ri20.2.1].length) * 24 <= 140737488355328) (nx (IntKind.i64.wrap (s.1 + 1), s.2.1 ++ [r20.1], s.2.2 ++ [ri20.2.1]))))) else if (ri20.2.2 != 0) = true then K1 (IntKind.i64.wrap (s.1 + 1), ri20.2.2, ([] : List aR)) else ck ((s.2.1.length + [ri20.1].length) * 56 <= 140737488355328) (ck ((s.2.2.length + [ri20.2.1].length) * 24 <= 140737488355328) (nx (IntKind.i64.wrap (s.1 + 1), s.2.1 ++ [ri20.1], s.2.2 ++ [ri20.2.1])))) else if (((x3.getD ((s.1).toNat) (0, (0, (0, (0, (0, (0, false))))))).1) == 5) = true then rG (s.2.1.getD ((IntKind.i64.wrap ((s.2.1.length : Int) - 1)).toNat) ([], (0, []))) (fun (ri21 : aR × Int) => if ((ri21.2 == 0) && ((ri21.1.1.length : Int) == 0)) = true then aV x2 (IntKind.i64.wrap (s.1 + 1)) 0 (fun (r21 : Int) => bD (([] : List Int), (0, ([] : List Int))) 8 x1 r21 (fun (r22 : aR × Int) => if (r22.2 != 0) = true then K1 (IntKind.i64.wrap (s.1 + 1), r22.2, ([] : List aR)) else ck ((s.2.1.length + [r22.1].length) * 56 <= 140737488355328) (ck ((s.2.2.length + [([] : List Int)].length) * 24 <= 140737488355328) (nx (IntKind.i64.wrap (s.1 + 1), s.2.1 ++ [r22.1], s.2.2 ++ [([] : List Int)]))))) else if (ri21.2 != 0) = true then K1 (IntKind.i64.wrap (s.1 + 1), ri21.2, ([] : List aR)) else ck ((s.2.1.length + [ri21.1].length) * 56 <= 140737488355328) (ck ((s.2.2.length + [([] : List Int)].length) * 24 <= 140737488355328) (nx (IntKind.i64.wrap (s.1 + 1), s.2.1 ++ [ri21.1], s.2.2 ++ [([] : List Int)])))) else rQ (s.2.1.getD ((IntKind.i64.wrap ((s.2.1.length : Int) - 1)).toNat) ([], (0, []))) (fun (ri22 : aR × Int) => if ((ri22.2 == 0) && ((ri22.1.1.length : Int) == 0)) = true then aV x2 (IntKind.i64.wrap (s.1 + 1)) 0 (fun (r23 : Int) => bD (([] : List Int), (0, ([] : List Int))) 8 x1 r23 (fun (r24 : aR × Int) => if (r24.2 != 0) = true then K1 (IntKind.i64.wrap (s.1 + 1), r24.2, ([] : List aR)) else ck ((s.2.1.length + [r24.1].length) * 56 <= 140737488355328) (ck ((s.2.2.length + [([] : List Int)].length) * 24 <= 140737488355328) (nx (IntKind.i64.wrap (s.1 + 1), s.2.1 ++ [r24.1], s.2.2 ++ [([] : List Int)]))))) else if (ri22.2 != 0) = true then K1 (IntKind.i64.wrap (s.1 + 1), ri22.2, ([] : List aR)) else ck ((s.2.1.length + [ri22.1].length) * 56 <= 140737488355328) (ck ((s.2.2.length + [([] : List Int)].length) * 24 <= 140737488355328) (nx (IntKind.i64.wrap (s.1 + 1), s.2.1 ++ [ri22.1], s.2.2 ++ [([] : List Int)]))))))) else K0 (s.2.1, s.2.2)
structure i6 (x0 : List JD) (x1 x2 : Int) (x3 : List zM) (x4 : Int) (K0 : ((List aR) × List (List Int)) -> Prop) (K1 : (Int × Int × List aR) -> Prop) (s : Int × (List aR) × List (List Int)) : Prop where
 it : Go.Mach.Loop (d8 x0 x1 x2 x3 x4 K0 K1) s
structure iB (a0 : VC) (a1 : List JD) (a2 : aR) (a3 a4 : Int) (Q : (aH7 × Int × Int) -> Prop) : Prop where
 it : g9 a4 (fun (r1 : Bool) => jn (fun (v2 : Bool) => jn (fun (v5 : Bool) => if v5 = true then Q ((([] : List aR), ([] : List (List Int))), 0, 1) else jn (fun (v8 : Bool) => if v8 = true then Q ((([] : List aR), ([] : List (List Int))), 0, 2) else i6 a1 a3 a4 a0.2 (a0.2.length : Int) (fun (y25 : (List aR) × List (List Int)) => Q (y25, 0, 0)) (fun (y26 : Int × Int × List aR) => Q ((y26.2.2, ([] : List (List Int))), y26.1, y26.2.1)) (0, [a2], [([] : List Int)])) (fun J9 => if ((a2.1.length : Int) != 4) = true then J9 true else ck (a2.1 ≠ [] /\ (0 : Int) <= 1 /\ (1 : Int) <= (a2.1.length : Int) /\ (a2.1.length : Int) <= (a2.1.length : Int)) (aO ((a2.1.take ((a2.1.length : Int)).toNat).drop ((1 : Int)).toNat) ([a0.1.1, a0.1.2.1, a0.1.2.2] : List Int) (fun (r10 : Bool) => J9 (!r10))))) (fun J6 => if v2 = true then J6 true else mO a2 (fun (r7 : Bool) => J6 (!r7)))) (fun J3 => if (!r1) = true then J3 true else kA a0 a1 (fun (r4 : Bool) => J3 (!r4))))
noncomputable def D7 : Ent := ⟨[1, 3, 4, 10, 13, 54, 55, 56], [sZ xS, .lf (.int .u64), sI, sC (.ptr 0 0), sC (.ptr 1 0), sZ mF, sI, sI], [.box [.cst (.pl (.slice none 0 0)), .cst (.pl (.slice none 0 0))] false, .box [.cst (.own 2), .cst (.own 3)] false, .lst false c9 false, .lst true (.slc (.int .i64)) false], fun x k => i6 x.1.1 x.1.2.1 x.1.2.2.1 x.1.2.2.2.2.2.1 x.1.2.2.2.2.2.2.1 (fun (y27 : (List aR) × List (List Int)) => k (.exit 0) ⟨[(10, .ptr 0 0), (13, .ptr 1 0)], [.box [.pl (.slice none 0 0), .pl (.slice none 0 0)] false, .box [.own 2, .own 3] false, .lst false c9 y27.1 false, .lst true (.slc (.int .i64)) y27.2 false]⟩) (fun (y28 : Int × Int × List aR) => k .ret ⟨[(10, .ptr 0 0), (11, vI y28.1), (12, vI y28.2.1)], [.box [vT c9 y28.2.2, .pl (.slice none 0 0)] false]⟩) (x.1.2.2.2.2.2.2.2.1, x.2.2.2.1, x.2.2.2.2.1)⟩
noncomputable def q6 : Tab := fun n => match n with | 250 => some D7 | _ => none
noncomputable def sH : Code := (bod Tryz.f11).getD .skip
noncomputable def DP : Go.Mach.Ends := aN sH [10, 11, 12] [(53, [⟨10, some 0, true, c9⟩]), (117, [⟨10, some 0, true, c9⟩]), (127, [⟨10, some 0, true, c9⟩]), (1025653, [⟨10, some 0, true, c9⟩])]
theorem DM : aI (cG.cfg tt (some dZ) false 0) q6 DP sH := by
 intro n E hn f c hs x k h
 unfold q6 at hn
 split at hn
 ·cases hn; exact aG rfl hs (by kernel_rfl) (fun y : Int × (List aR) × List (List Int) => ⟨[(1, vZ xS x.1.1), (3, vK .u64 x.1.2.1), (4, vI x.1.2.2.1), (10, .ptr 0 0), (13, .ptr 1 0), (54, vZ mF x.1.2.2.2.2.2.1), (55, vI x.1.2.2.2.2.2.2.1), (56, vI y.1)], [.box [.pl (.slice none 0 0), .pl (.slice none 0 0)] false, .box [.own 2, .own 3] false, .lst false c9 y.2.1 false, .lst true (.slc (.int .i64)) y.2.2 false]⟩) (x.1.2.2.2.2.2.2.2.1, x.2.2.2.1, x.2.2.2.2.1) (by kernel_rfl) (fun y X => by kernel_rfl) h.it
 ·cases hn
def i7 : List Sh := [.agg [lI, lI, lI, lZ mF], sZ xS, .agg [lZ (.int .i64), lI, lZ (.int .i8)], .lf (.int .u64), sI]
theorem BW (x : aM i7) (Q : QT) (h : iB ((x.1.1, (x.1.2.1, x.1.2.2.1)), x.1.2.2.2.1) x.2.1 (x.2.2.1.1, (x.2.2.1.2.1, x.2.2.1.2.2.1)) x.2.2.2.1 x.2.2.2.2.1 (fun (r : aH7 × Int × Int) => Q (aC [(true, aJ3), (false, (.int .i64)), (false, (.int .i64))] [(.p .f .n), .n, .n] (r.1, (r.2.1, (r.2.2, ())))))) : aH Tryz.prog 11 (aJ i7 x) Q := cG.told [(.p .f .n), .n, .n] (rt := [(true, aJ3), (false, (.int .i64)), (false, (.int .i64))]) (hI1 kB) DM Tryz.func11 (by kernel_rfl) (by kernel_rfl) (Nat.le_of_ble_eq_true rfl) h.it (by kernel_rfl)
noncomputable def j0 : Tb Tryz.prog := cG.add 11 i7 BW
def f7 (x0 : Int) (x2 : List aR) (x3 : List (List Int)) (x4 : List aR) (x5 : List (List Int)) (K0 K1 : Unit -> Prop) (s : Int) (nx : Int -> Prop) : Prop :=
 if (decide (s < x0)) = true then ck ((0 : Int) <= s /\ s < (x2.length : Int)) (ck ((0 : Int) <= s /\ s < (x4.length : Int)) (rH (x2.getD ((s).toNat) ([], (0, []))) (x4.getD ((s).toNat) ([], (0, []))) (fun (r1 : Bool) => jn (fun (v2 : Bool) => if v2 = true then K1 () else nx (IntKind.i64.wrap (s + 1))) (fun J3 => if (!r1) = true then J3 true else ck ((0 : Int) <= s /\ s < (x3.length : Int)) (ck ((0 : Int) <= s /\ s < (x5.length : Int)) (aO (x3.getD ((s).toNat) []) (x5.getD ((s).toNat) []) (fun (r4 : Bool) => J3 (!r4)))))))) else K0 ()
structure vU (x0 : Int) (x2 : List aR) (x3 : List (List Int)) (x4 : List aR) (x5 : List (List Int)) (K0 K1 : Unit -> Prop) (s : Int) : Prop where
 it : Go.Mach.Loop (f7 x0 x2 x3 x4 x5 K0 K1) s
structure kN (a0 a1 : aH7) (Q : Bool -> Prop) : Prop where
 it : if (((a0.1.length : Int) != (a1.1.length : Int)) || ((a0.2.length : Int) != (a1.2.length : Int))) = true then Q false else vU (a0.1.length : Int) a0.1 a0.2 a1.1 a1.2 (fun (y5 : Unit) => Q true) (fun (y6 : Unit) => Q false) 0
noncomputable def LK : Ent := ⟨[2, 3, 24, 25], [sC (.ptr 0 0), sC (.ptr 1 0), sI, sI], [.box [lZ c9, lZ (.slc (.int .i64))] false, .box [lZ c9, lZ (.slc (.int .i64))] false], fun x k => vU x.1.2.2.1 x.2.1.1 x.2.1.2.1 x.2.2.1.1 x.2.2.1.2.1 (fun (y7 : Unit) => k (.exit 0) ⟨[], []⟩) (fun (y8 : Unit) => k .ret ⟨[(4, vB false)], []⟩) x.1.2.2.2.1⟩
noncomputable def uH : Tab := fun n => match n with | 58 => some LK | _ => none
noncomputable def xJ : Code := (bod Tryz.f12).getD .skip
noncomputable def LZ : Go.Mach.Ends := aN xJ [4] []
theorem HZ : aI (j0.cfg tt none false 0) uH LZ xJ := by
 intro n E hn f c hs x k h
 unfold uH at hn
 split at hn
 ·cases hn; exact aG rfl hs (by kernel_rfl) (fun y : Int => ⟨[(2, .ptr 0 0), (3, .ptr 1 0), (24, vI x.1.2.2.1), (25, vI y)], [.box [vZ c9 x.2.1.1, vZ (.slc (.int .i64)) x.2.1.2.1] false, .box [vZ c9 x.2.2.1.1, vZ (.slc (.int .i64)) x.2.2.1.2.1] false]⟩) x.1.2.2.2.1 (by kernel_rfl) (fun y X => by kernel_rfl) h.it
 ·cases hn
def nB : List Sh := [.agg [lZ c9, lZ (.slc (.int .i64))], .agg [lZ c9, lZ (.slc (.int .i64))]]
theorem IP (x : aM nB) (Q : QT) (h : kN (x.1.1, x.1.2.1) (x.2.1.1, x.2.1.2.1) (fun (r : Bool) => Q (aC [(false, .bool)] [.n] (r, ())))) : aH Tryz.prog 12 (aJ nB x) Q := j0.told [.n] (rt := [(false, .bool)]) hI0 HZ Tryz.func12 (by kernel_rfl) (by kernel_rfl) (Nat.le_of_ble_eq_true rfl) h.it (by kernel_rfl)
noncomputable def wI : Tb Tryz.prog := j0.add 12 nB IP
def cJ (x4 : List JD) (x5 : Int) (K0 : Int -> Prop) (s : Int × Int) (nx : (Int × Int) -> Prop) : Prop :=
 if (decide (s.2 < x5)) = true then ck ((0 : Int) <= s.2 /\ s.2 < (x4.length : Int)) (nx (IntKind.i64.wrap (s.1 + (IntKind.i64.wrap ((IntKind.i64.wrap ((((((x4.getD ((s.2).toNat) (([], (0, [])), ([], ([], (0, []))))).1).2).2).length : Int) + ((((x4.getD ((s.2).toNat) (([], (0, [])), ([], ([], (0, []))))).2).1).length : Int))) + ((((((x4.getD ((s.2).toNat) (([], (0, [])), ([], ([], (0, []))))).2).2).2).2).length : Int)))), IntKind.i64.wrap (s.2 + 1))) else K0 s.1
structure jN (x4 : List JD) (x5 : Int) (K0 : Int -> Prop) (s : Int × Int) : Prop where
 it : Go.Mach.Loop (cJ x4 x5 K0) s
structure lU (a0 : VC) (a1 : List JD) (a2 : aR) (a3 a4 : Int) (Q : Bool -> Prop) : Prop where
 it : if (((decide (40 < (a0.2.length : Int))) || (decide (300 < (a2.2.2.length : Int)))) || (decide (12 < (a1.length : Int)))) = true then cY (fun (r1 : Bool) => Q r1) else jN a1 (a1.length : Int) (fun (y2 : Int) => if (decide (600 < y2)) = true then cY (fun (r3 : Bool) => Q r3) else zH a0 a1 a2 a3 a4 (fun (r4 : aH7 × Int × Int) => iB a0 a1 a2 a3 a4 (fun (r5 : aH7 × Int × Int) => kN r4.1 r5.1 (fun (r6 : Bool) => jn (fun (v7 : Bool) => Q v7) (fun J8 => if ((r6 && (r4.2.1 == r5.2.1)) && (r4.2.2 == r5.2.2)) = true then cY (fun (r9 : Bool) => J8 r9) else J8 false))))) (0, 0)
noncomputable def u5 : Ent := ⟨[1, 3, 4, 5, 7, 11, 36, 37, 38], [sZ xS, .lf (.int .u64), sI, sC (.ptr 0 0), sC (.ptr 1 0), sI, sZ xS, sI, sI], [.box [lI, lI, lI, lZ mF] false, .box [lZ (.int .i64), lI, lZ (.int .i8)] false], fun x k => jN x.1.2.2.2.2.2.2.1 x.1.2.2.2.2.2.2.2.1 (fun (y10 : Int) => k (.exit 0) ⟨[(1, vZ xS x.1.1), (3, vK .u64 x.1.2.1), (4, vI x.1.2.2.1), (5, .ptr 0 0), (7, .ptr 1 0), (11, vI y10)], [.box [vI x.2.1.1, vI x.2.1.2.1, vI x.2.1.2.2.1, vZ mF x.2.1.2.2.2.1] false, .box [vZ (.int .i64) x.2.2.1.1, vI x.2.2.1.2.1, vZ (.int .i8) x.2.2.1.2.2.1] false]⟩) (x.1.2.2.2.2.2.1, x.1.2.2.2.2.2.2.2.2.1)⟩
noncomputable def jR : Tab := fun n => match n with | 122 => some u5 | _ => none
noncomputable def kJ : Code := (bod Tryz.f3).getD .skip
noncomputable def vP : Go.Mach.Ends := aN kJ [10] []
theorem uF : aI (wI.cfg tt none false 0) jR vP kJ := by
 intro n E hn f c hs x k h
 unfold jR at hn
 split at hn
 ·cases hn; exact aG rfl hs (by kernel_rfl) (fun y : Int × Int => ⟨[(1, vZ xS x.1.1), (3, vK .u64 x.1.2.1), (4, vI x.1.2.2.1), (5, .ptr 0 0), (7, .ptr 1 0), (11, vI y.1), (36, vZ xS x.1.2.2.2.2.2.2.1), (37, vI x.1.2.2.2.2.2.2.2.1), (38, vI y.2)], [.box [vI x.2.1.1, vI x.2.1.2.1, vI x.2.1.2.2.1, vZ mF x.2.1.2.2.2.1] false, .box [vZ (.int .i64) x.2.2.1.1, vI x.2.2.1.2.1, vZ (.int .i8) x.2.2.1.2.2.1] false]⟩) (x.1.2.2.2.2.2.1, x.1.2.2.2.2.2.2.2.2.1) (by kernel_rfl) (fun y X => by kernel_rfl) h.it
 ·cases hn
def jQ : List Sh := [.agg [lI, lI, lI, lZ mF], sZ xS, .agg [lZ (.int .i64), lI, lZ (.int .i8)], .lf (.int .u64), sI]
theorem uB (x : aM jQ) (Q : QT) (h : lU ((x.1.1, (x.1.2.1, x.1.2.2.1)), x.1.2.2.2.1) x.2.1 (x.2.2.1.1, (x.2.2.1.2.1, x.2.2.1.2.2.1)) x.2.2.2.1 x.2.2.2.2.1 (fun (r : Bool) => Q (aC [(false, .bool)] [.n] (r, ())))) : aH Tryz.prog 3 (aJ jQ x) Q := wI.told [.n] (rt := [(false, .bool)]) hI0 uF Tryz.func3 (by kernel_rfl) (by kernel_rfl) (Nat.le_of_ble_eq_true rfl) h.it (by kernel_rfl)
end Go.Proofs.YtcfpfefadlnmcaaGreat

namespace Go.Proofs.YtcfpfefadlnmcaaGreat
open Go.Mach Go.RowKit
set_option maxRecDepth 100000
set_option linter.unusedVariables false
set_option linter.unusedSimpArgs false
theorem aMe {l : List Int} {K0 K1 : Unit -> Prop} (hl : l.length <= 1000000) (h : if -128 ∈ l then K1 () else K0 ()) : iX l (l.length : Int) K0 K1 0 := by
 refine ⟨?_⟩
 refine Loop.range (B := gS l (l.length : Int) K0 K1) l.length (fun i => (i : Int)) (fun i => ∀ j, j < i -> l.getD j 0 ≠ -128) (fun j hj => absurd hj (by omega)) ?_ ?_
 ·intro i hi hI X hX
  unfold gS
  rw [if_pos (decide_eq_true (show (i : Int) < (l.length : Int) by omega))]
  refine ⟨by omega, ?_⟩
  rw [Int.toNat_natCast]
  have hget : l.getD i 0 = l[i] := by rw [List.getD_eq_getElem?_getD, List.getElem?_eq_getElem hi]; rfl
  by_cases hv : l.getD i 0 = -128
  ·rw [if_pos (by rw [hv]; rfl)]
   rw [if_pos (by rw [<- hv, hget]; exact List.getElem_mem hi)] at h
   exact h
  ·rw [if_neg (by simpa using hv), aA _ (by omega) (by omega)]
   refine hX fun j hj => ?_
   by_cases hji : j = i
   ·subst hji; exact hv
   ·exact hI j (by omega)
 ·intro hI X
  unfold gS
  rw [if_neg (by simp)]
  rw [if_neg] at h
  ·exact h
  ·intro hm
   obtain ⟨j, hj, e⟩ := List.getElem_of_mem hm
   apply hI j hj
   rw [List.getD_eq_getElem?_getD, List.getElem?_eq_getElem hj, <- e]; rfl
theorem aLd (e : Int) : XM e 64 = !(decide (e < -64) || decide (64 < e)) := by
 unfold XM
 rw [aA (0 - 64) (by omega) (by omega), Bool.eq_iff_iff]
 simp only [Bool.and_eq_true, decide_eq_true_eq, Bool.not_eq_true', Bool.or_eq_false_iff, decide_eq_false_iff_not]
 omega
theorem aJc {a : T3} {Q : Bool -> Prop} (h : Q (aW a)) : mO a Q := by
  refine ⟨?_⟩
  refine qR ?_
  unfold aW at h
  have key : ∀ v : Bool, v = !(decide (0 < szF a.1) && ((a.2.2.length : Int) == szF a.1)) -> (if ((v || decide (a.2.1 < -64)) || decide (64 < a.2.1)) = true then Q false else iX a.2.2 (a.2.2.length : Int) (fun _ => Q true) (fun _ => Q false) 0) := by
    intro v hv
    rw [aLd] at h
    have hle := Q3 a.1
    by_cases hc : ((v || decide (a.2.1 < -64)) || decide (64 < a.2.1)) = true
    · rw [if_pos hc]
      have : (((decide (0 < szF a.1) && ((a.2.2.length : Int) == szF a.1)) && !(decide (a.2.1 < -64) || decide (64 < a.2.1))) && !decide (-128 ∈ a.2.2)) = false := by
        rw [Bool.or_assoc] at hc
        cases hv2 : v with
        | true =>
          rw [hv2] at hv
          cases hq : (decide (0 < szF a.1) && ((a.2.2.length : Int) == szF a.1)) with
          | true => rw [hq] at hv; cases hv
          | false => rfl
        | false =>
          rw [hv2, Bool.false_or] at hc
          rw [hc]; simp
      rw [this] at h; exact h
    · rw [if_neg hc]
      simp only [Bool.or_eq_true, not_or] at hc
      have hv0 : v = false := by simpa using hc.1.1
      rw [hv0] at hv
      have hv' : (decide (0 < szF a.1) && ((a.2.2.length : Int) == szF a.1)) = true := by
        cases hq : (decide (0 < szF a.1) && ((a.2.2.length : Int) == szF a.1)) with
        | true => rfl
        | false => rw [hq] at hv; cases hv
      have hlen : a.2.2.length <= 1000000 := by
        simp only [Bool.and_eq_true, decide_eq_true_eq, beq_iff_eq] at hv'
        omega
      refine aMe hlen ?_
      have e1 : decide (a.2.1 < -64) = false := by simpa using hc.1.2
      have e2 : decide (64 < a.2.1) = false := by simpa using hc.2
      rw [hv', e1, e2] at h
      by_cases hm : -128 ∈ a.2.2
      · rw [if_pos hm]; simpa [hm] using h
      · rw [if_neg hm]; simpa [hm] using h
  show (if (!decide (0 < szF a.1)) = true then _ else _)
  by_cases hp : 0 < szF a.1
  · rw [if_neg (by simp [hp])]
    refine RQ ?_
    exact key _ (by rw [decide_eq_true hp]; unfold bne; rw [Bool.true_and])
  · rw [if_pos (by simp [hp])]
    exact key true (by rw [decide_eq_false hp]; rfl)
theorem Q1 {l : List T3} {Q : Bool -> Prop} (hl : l.length <= 1000000) (h : Q (l.all aW)) : b7 l Q := by
  refine ⟨?_⟩
  refine ⟨?_⟩
  refine Loop.range (B := gP l (l.length : Int) _ _) l.length (fun i => (i : Int)) (fun i => (l.take i).all aW = true) rfl ?_ ?_
  · intro i hi hI X hX
    unfold gP
    rw [if_pos (decide_eq_true (show (i : Int) < (l.length : Int) by omega))]
    refine ⟨by omega, aJc ?_⟩
    simp only [Int.toNat_natCast]
    cases hm : aW (l.getD i ([], 0, [])) with
    | true =>
      rw [if_neg (by simp [hm]), aA _ (by omega) (by omega)]
      exact hX (by rw [aBY (d := ([], 0, [])) hi, hI, hm]; rfl)
    | false =>
      rw [if_pos (by simp [hm])]
      rw [aJY hi hm] at h
      exact h
  · intro hI X
    unfold gP
    rw [if_neg (by simp)]
    rw [List.take_length] at hI
    rw [hI] at h
    exact h
theorem aMu {n : Int} {Q : Bool -> Prop} (h : Q (tU n)) : rL n Q := by
 refine ⟨?_⟩
 unfold tU at h
 show (if (decide (0 <= n) && decide (n <= 1023)) = true then _ else _)
 by_cases h1 : (decide (0 <= n) && decide (n <= 1023)) = true
 ·rw [if_pos h1]
  rw [h1] at h
  simp only [Bool.and_eq_true, decide_eq_true_eq] at h1
  refine ⟨by omega, ?_⟩
  rw [Int.mul_one, aA n (by omega) (by omega)]
  rw [show (2 : Int) ^ min ((14 : Int)).toNat (IntKind.i64).bits = 16384 by decide, aA (n * 16384) (by omega) (by omega), aA _ (by omega) (by omega)]
  exact h
 ·rw [if_neg h1]
  have e : (decide (0 <= n) && decide (n <= 1023)) = false := by simpa using h1
  rw [e] at h
  exact h
theorem aJg {d : List Int} {e n : Int} {Q : T3 × Int -> Prop} (h : Q (i3 d e n)) : kO d e n Q := by
  refine ⟨?_⟩
  refine aMu ?_
  unfold i3 at h
  by_cases h1 : (!tU n) = true
  · rw [if_pos h1] at h ⊢; exact h
  · rw [if_neg h1] at h ⊢
    refine ⟨?_⟩
    by_cases h2 : (decide (e < -128) || decide (128 < e)) = true
    · rw [if_pos h2] at h ⊢; exact h
    · rw [if_neg h2] at h ⊢
      refine qR ?_
      by_cases h3 : (!decide (0 < szF d)) = true
      · rw [if_pos h3] at h ⊢; exact h
      · rw [if_neg h3] at h ⊢
        have := Q3 d
        have := L3 d
        refine RQ ⟨⟨by omega, by omega⟩, h⟩
theorem aJj {a b c : Int} {Q : Int -> Prop} (h : Q (alF a b c)) : eY a b c Q := by
  refine ⟨?_⟩
  refine ⟨?_⟩
  refine ⟨?_⟩
  refine ⟨?_⟩
  refine ⟨?_⟩
  refine ⟨?_⟩
  unfold alF at h
  simp only at h
  have hb := L7 b (-1000) 1000 (by omega)
  have hc := L7 c (-1000) 1000 (by omega)
  have hv := aCW a
  show (if decide (aD (-1000) (aL b 1000) < aD (-1000) (aL c 1000)) = true then _ else _)
  generalize aD (-1000) (aL b 1000) = x at *
  generalize aD (-1000) (aL c 1000) = y at *
  show (if decide (x < y) = true then ck _ (Q ((qT a).fdiv _)) else if decide (20 < IntKind.i64.wrap (x - y)) = true then (if ((qT a) == 0) = true then Q 0 else aY (qT a) (-1) 1 (fun r4 => cI r4 (IntKind.i64.wrap (y + 20)) y (fun y7 => Q y7))) else cI (qT a) x y _)
  generalize qT a = v at *
  have n63 : ∀ (p q : Int), -1000 <= q -> q <= p -> p <= q + 20 -> q <= 1000 -> ∀ K : Int -> Prop, K (aD (-1048576) (aL (aD (-1048576) (aL v 1048576) * 2 ^ (p - q).toNat) 1048576)) -> cI v p q K := by
    intro p q h1 h2 h3 h4 K hK
    refine ⟨?_⟩
    refine ⟨?_⟩
    rw [aA (p - q) (by omega) (by omega), kT (p - q) (by omega) (by omega)]
    refine ⟨by omega, ⟨?_⟩⟩
    have hm := L7 v (-1048576) 1048576 (by omega)
    have hp := V2 (p - q).toNat 20 (by omega)
    have := E4 (aD (-1048576) (aL v 1048576)) (2 ^ (p - q).toNat) 1048576 1048576 hm.1 hm.2 (by omega) hp.2 (by omega)
    rw [show min (p - q).toNat (IntKind.i64).bits = (p - q).toNat from Nat.min_eq_left (by show _ <= 64; omega)]
    rw [aA (aD (-1048576) (aL v 1048576) * 2 ^ (p - q).toNat) (by omega) (by omega)]
    exact hK
  have n63' : ∀ (u : Int), -1 <= u -> u <= 1 -> ∀ K : Int -> Prop, K (aD (-1048576) (aL (u * 1048576) 1048576)) -> cI u (IntKind.i64.wrap (y + 20)) y K := by
    intro u h1 h2 K hK
    refine ⟨?_⟩
    refine ⟨?_⟩
    rw [aA (y + 20) (by omega) (by omega), show y + 20 - y = 20 by omega, aA 20 (by omega) (by omega), kT 20 (by omega) (by omega)]
    refine ⟨by omega, ⟨?_⟩⟩
    have hu : aD (-1048576) (aL u 1048576) = u := by unfold aD aL; split <;> split <;> omega
    rw [hu, show (2 : Int) ^ min ((20 : Int)).toNat (IntKind.i64).bits = 1048576 by decide]
    rw [aA (u * 1048576) (by omega) (by omega)]
    exact hK
  by_cases h1 : x - y < 0
  · rw [if_pos h1] at h
    rw [if_pos (decide_eq_true (by omega)), aA (y - x) (by omega) (by omega)]
    have hs : 0 <= aL (y - x) 62 /\ aL (y - x) 62 <= 62 := by unfold aL; split <;> omega
    rw [kT _ (by omega) (by omega)]
    refine ⟨hs.1, ?_⟩
    rw [show min (aL (y - x) 62).toNat (IntKind.i64).bits = (aL (y - x) 62).toNat from Nat.min_eq_left (by show _ <= 64; omega)]
    rw [show (0 : Int) - (x - y) = y - x by omega] at h
    exact h
  · rw [if_neg h1] at h
    rw [if_neg (by simp; omega), aA (x - y) (by omega) (by omega)]
    by_cases h2 : 20 < x - y
    · rw [if_pos h2] at h
      rw [if_pos (decide_eq_true h2)]
      by_cases h3 : v = 0
      · rw [if_pos (by rw [h3]; rfl)]
        rw [if_neg (by omega), if_neg (by omega)] at h
        exact h
      · rw [if_neg (by simpa using h3)]
        refine ⟨?_⟩
        have hu := L7 v (-1) 1 (by omega)
        refine n63' (aD (-1) (aL v 1)) hu.1 hu.2 _ ?_
        by_cases h4 : 0 < v
        · rw [if_pos h4] at h
          have : aD (-1) (aL v 1) = 1 := by unfold aD aL; split <;> split <;> omega
          rw [this]
          exact h
        · rw [if_neg h4, if_pos (by omega)] at h
          have : aD (-1) (aL v 1) = -1 := by unfold aD aL; split <;> split <;> omega
          rw [this]
          exact h
    · rw [if_neg h2] at h
      rw [if_neg (by simp; omega)]
      exact n63 x y (by omega) (by omega) (by omega) (by omega) _ h
theorem aMm {rows cols r c k s p : Int} {i K : Nat} {acc : List (Int × Int × Int)} {K0 : List (Int × Int × Int) -> Prop} (hr : 0 <= r /\ r <= 100) (hc : 0 <= c /\ c <= 100) (hs : 0 <= s /\ s <= 4) (hp : 0 <= p /\ p <= 5) (hi : i <= 5) (hK : K <= 5) (hrows : 0 <= rows /\ rows <= 16) (hcols : 0 <= cols /\ cols <= 16) (ha : acc.length <= 100000)
    (h : K0 (acc ++ n7 rows cols (s * r - p) (s * c - p) i K)) : lH rows cols r c s p i K K0 (0, acc) := by
  refine ⟨?_⟩
  have m1 : 0 <= s * r := Int.mul_nonneg hs.1 hr.1
  have m2 : s * r <= 4 * 100 := Int.mul_le_mul hs.2 hr.2 hr.1 (by omega)
  have m3 : 0 <= s * c := Int.mul_nonneg hs.1 hc.1
  have m4 : s * c <= 4 * 100 := Int.mul_le_mul hs.2 hc.2 hc.1 (by omega)
  have eg : ((0 : Int), acc) = (fun j : Nat => ((j : Int), acc ++ n7 rows cols (s * r - p) (s * c - p) i j)) 0 := by simp [n7]
  rw [eg]
  refine Loop.range (B := fG rows cols r c s p i K K0) (f := fun j : Nat => ((j : Int), acc ++ n7 rows cols (s * r - p) (s * c - p) i j)) K (fun _ => True) trivial ?_ ?_
  · intro j hj _ X hX
    have hX := hX trivial
    unfold fG
    rw [if_pos (decide_eq_true (show (j : Int) < (K : Int) by omega))]
    dsimp only at hX ⊢
    have e1 : IntKind.i64.wrap (IntKind.i64.wrap (IntKind.i64.wrap (r * s) - p) + (i : Int)) = s * r - p + i := by
      rw [Int.mul_comm r s, aA (s * r) (by omega) (by omega), aA (s * r - p) (by omega) (by omega), aA _ (by omega) (by omega)]
    have e2 : IntKind.i64.wrap (IntKind.i64.wrap (IntKind.i64.wrap (c * s) - p) + (j : Int)) = s * c - p + j := by
      rw [Int.mul_comm c s, aA (s * c) (by omega) (by omega), aA (s * c - p) (by omega) (by omega), aA _ (by omega) (by omega)]
    rw [e1, e2]
    have hlen := JS (rows := rows) (cols := cols) (cr := s * r - p) (cc := s * c - p) (i := i) j
    rw [PN, <- List.append_assoc] at hX
    unfold uT at hX
    by_cases hin : (inP (s * r - p + i) 0 (rows - 1) && inP (s * c - p + j) 0 (cols - 1)) = true
    · rw [if_pos hin] at hX
      simp only [Bool.and_eq_true] at hin
      have b1 : 0 <= s * r - p + i /\ s * r - p + i <= rows - 1 := by simpa [inP] using hin.1
      have b2 : 0 <= s * c - p + j /\ s * c - p + j <= cols - 1 := by simpa [inP] using hin.2
      have m5 : 0 <= (s * r - p + i) * cols := Int.mul_nonneg b1.1 hcols.1
      have m6 : (s * r - p + i) * cols <= 16 * 16 := Int.mul_le_mul (by omega) hcols.2 hcols.1 (by omega)
      rw [if_pos (by simp; omega)]
      refine ⟨by simp only [List.length_append, List.length_singleton]; omega, ⟨?_⟩⟩
      rw [aA ((j : Int) + 1) (by omega) (by omega), aA ((s * r - p + i) * cols) (by omega) (by omega), aA ((s * r - p + i) * cols + (s * c - p + j)) (by omega) (by omega)]
      exact hX
    · rw [if_neg hin, List.append_nil] at hX
      rw [if_neg (by
        intro hh
        apply hin
        simp only [Bool.and_eq_true, decide_eq_true_eq] at hh
        rw [WX (by omega) (by omega), WX (by omega) (by omega)]; rfl)]
      refine ⟨?_⟩
      rw [aA ((j : Int) + 1) (by omega) (by omega)]
      exact hX
  · intro _ X
    unfold fG
    rw [if_neg (by simp)]
    exact h
theorem YG {rows cols r c k s p : Int} {Q : List (Int × Int × Int) -> Prop} (h : Q (dG rows cols r c k s p)) : gK rows cols r c k s p Q := by
  refine ⟨?_⟩
  obtain ⟨m1, m2, m3⟩ := pZ rows k s p
  obtain ⟨n1, n2, n3⟩ := pZ cols k s p
  refine AX (b := decide (r < 0) || decide (c < 0)) (c := decide (bW rows k s p <= r)) (fun _ P hp => aAu hp) (fun v1 e1 => ?_) rfl
  refine AX (c := decide (bW cols k s p <= c)) (fun _ P hp => aAu hp) (fun v4 e4 => ?_) rfl
  have hv : v4 = aEo rows cols r c k s p := by
    rw [e4, e1, Bool.eq_iff_iff]
    unfold aEo inP
    simp only [Bool.or_eq_true, decide_eq_true_eq, Bool.not_eq_true', Bool.and_eq_false_iff, decide_eq_false_iff_not]
    omega
  unfold dG at h
  rw [<- hv] at h
  cases hv4 : v4 with
  | true => rw [hv4, if_pos rfl] at h; rw [if_pos rfl]; exact h
  | false =>
    rw [hv4, if_neg (by simp)] at h
    rw [if_neg (by simp)]
    rw [hv4, e1] at e4
    have e4 := e4.symm
    simp only [Bool.or_eq_false_iff, decide_eq_false_iff_not] at e4
    obtain ⟨b1, b2, b3, b4, b5, _⟩ := yF (n := rows) (k := k) (s := s) (p := p) (by omega)
    obtain ⟨c1, _⟩ := yF (n := cols) (k := k) (s := s) (p := p) (by omega)
    obtain ⟨K, rfl⟩ := Int.eq_ofNat_of_zero_le (show 0 <= k by omega)
    rw [Int.toNat_natCast] at h
    refine ⟨?_⟩
    refine Loop.range (B := fB rows cols r c K s p K _) (f := fun i : Nat => ((i : Int), RZ rows cols (s * r - p) (s * c - p) K i)) K (fun _ => True) trivial ?_ ?_
    · intro i hi _ X hX
      have hX := hX trivial
      unfold fB
      rw [if_pos (decide_eq_true (show (i : Int) < (K : Int) by omega))]
      dsimp only at hX ⊢
      have hl := UT (rows := rows) (cols := cols) (cr := s * r - p) (cc := s * c - p) (k := K) i
      have hm : i * K <= 5 * 5 := Nat.mul_le_mul (by omega) (by omega)
      refine aMm (k := K) (by omega) (by omega) (by omega) (by omega) (by omega) (by omega) (by omega) (by omega) (by omega) ?_
      rw [aA ((i : Int) + 1) (by omega) (by omega)]
      rw [YV] at hX
      exact hX
    · intro _ X
      unfold fB
      rw [if_neg (by simp)]
      exact h
theorem aO7 {l : List Int} {K0 : Int -> Prop} (hl : l.length <= 4) (hd : ∀ d ∈ l, 1 <= d) (hp : bQ l <= 8192) (h : K0 (bQ l)) : j4 l (l.length : Int) K0 (1, 0) := by
 refine ⟨?_⟩
 refine Loop.rangeI (B := eI l (l.length : Int) K0) l.length (fun i st => st.2 = (i : Int) /\ 1 <= st.1 /\ st.1 * bQ (l.drop i) = bQ l) ⟨rfl, by show (1 : Int) <= 1; omega, by show 1 * bQ (l.drop 0) = _; rw [Int.one_mul, List.drop_zero]⟩ ?_ ?_
 ·rintro i hi ⟨acc, i'⟩ ⟨e1, e2, e3⟩ X hX
  simp only at e1 e2 e3
  subst e1
  unfold eI
  rw [if_pos (decide_eq_true (show (i : Int) < (l.length : Int) by omega))]
  dsimp only
  refine ⟨by omega, ?_⟩
  rw [Int.toNat_natCast]
  have hg : l.drop i = l.getD i 0 :: l.drop (i + 1) := RJ hi
  rw [hg] at e3
  have h1 := hd (l.getD i 0) (C8 hi)
  have h2 := BP (l := l.drop (i + 1)) fun d hdd => hd d (List.mem_of_mem_drop hdd)
  have e4 : acc * l.getD i 0 * bQ (l.drop (i + 1)) = bQ l := by rw [Int.mul_assoc]; exact e3
  have h3 := aBo e2 h1
  have h4 : acc * l.getD i 0 <= acc * l.getD i 0 * bQ (l.drop (i + 1)) := by
   have := Int.mul_le_mul_of_nonneg_left (c := acc * l.getD i 0) h2 (by omega)
   omega
  rw [aA (acc * l.getD i 0) (by omega) (by omega), aA ((i : Int) + 1) (by omega) (by omega)]
  exact hX _ ⟨by simp, h3, e4⟩
 ·rintro ⟨acc, i'⟩ ⟨e1, e2, e3⟩ X
  simp only at e1 e2 e3
  subst e1
  unfold eI
  rw [if_neg (by simp)]
  rw [List.drop_length] at e3
  have : acc = bQ l := by simpa [bQ] using e3
  dsimp only
  rw [this]
  exact h
def stF (d : List Int) : List Int := tab d.length fun i => bQ (d.drop (i + 1))
theorem aJ6 {l : List Int} (hd : ∀ d ∈ l, 1 <= d) : ∀ i, bQ (l.drop i) <= bQ l := by
  intro i
  induction i with
  | zero => rw [List.drop_zero]; exact Int.le_refl _
  | succ i ih =>
    rcases Nat.lt_or_ge i l.length with h | h
    · have hg : l.drop i = l.getD i 0 :: l.drop (i + 1) := RJ h
      rw [hg] at ih
      have h1 := hd (l.getD i 0) (C8 h)
      have h2 := BP (l := l.drop (i + 1)) fun d hdd => hd d (List.mem_of_mem_drop hdd)
      have h3 : bQ (l.drop (i + 1)) <= l.getD i 0 * bQ (l.drop (i + 1)) := by
        have := Int.mul_le_mul_of_nonneg_right h1 (show 0 <= bQ (l.drop (i + 1)) by omega)
        omega
      exact Int.le_trans h3 ih
    · rw [List.drop_eq_nil_of_le (by omega)]
      exact BP hd
theorem aJA {d : List Int} {Q : List Int -> Prop} (hs : 0 < szF d) (h : Q (stF d)) : n6 d Q := by
  obtain ⟨h1, h2, h3, h4⟩ := RM hs
  refine ⟨?_⟩
  refine qR ?_
  rw [if_neg (by simp [hs])]
  refine ⟨?_⟩
  refine Loop.range (B := eS d (d.length : Int) _) (f := fun i : Nat => ((i : Int), tab i fun i => bQ (d.drop (i + 1)))) d.length (fun _ => True) trivial ?_ ?_
  · intro i hi _ X hX
    have hX := hX trivial
    unfold eS
    rw [if_pos (decide_eq_true (show (i : Int) < (d.length : Int) by omega))]
    dsimp only at hX ⊢
    have ei : IntKind.i64.wrap ((i : Int) + 1) = ((i + 1 : Nat) : Int) := by rw [aA _ (by omega) (by omega)]; omega
    rw [ei]
    refine ⟨⟨?_, by omega, by omega, by omega⟩, ?_⟩
    · intro e; rw [e] at h1; simp at h1
    · simp only [Int.toNat_natCast, List.take_length]
      have hb := aJ6 (fun x hx => (h2 x hx).1) (i + 1)
      refine aO7 (by rw [List.length_drop]; omega) (fun x hx => (h2 x (List.mem_of_mem_drop hx)).1) (by omega) ?_
      refine ⟨by simp; omega, ?_⟩
      have : tab (i + 1) (fun i => bQ (d.drop (i + 1))) = tab i (fun i => bQ (d.drop (i + 1))) ++ [bQ (d.drop (i + 1))] := by
        unfold tab; rw [List.range_succ, List.map_append]; rfl
      rw [this] at hX
      exact hX
  · intro _ X
    unfold eS
    rw [if_neg (by simp)]
    exact h
theorem aP0 {n O P R : Nat} : stF [(n : Int), O, P, R] = [((O * P * R : Nat) : Int), ((P * R : Nat) : Int), (R : Int), 1] := by
 have e1 : bQ [(O : Int), P, R] = ((O * P * R : Nat) : Int) := by simp only [bQ, Int.natCast_mul, Int.mul_one, Int.mul_assoc]
 have e2 : bQ [(P : Int), R] = ((P * R : Nat) : Int) := by simp only [bQ, Int.natCast_mul, Int.mul_one]
 have e3 : bQ [(R : Int)] = (R : Int) := by simp only [bQ, Int.mul_one]
 show [bQ [(O : Int), P, R], bQ [(P : Int), R], bQ [(R : Int)], bQ []] = _
 rw [e1, e2, e3]
 rfl
theorem dm {a b q r : Nat} (hr : r < b) (e : a = q * b + r) : (a : Int).tdiv (b : Int) = (q : Int) /\ (a : Int).tmod (b : Int) = (r : Int) := by
 subst e
 rw [Int.tdiv_eq_ediv_of_nonneg (by omega), Int.tmod_eq_emod_of_nonneg (by omega), <- Int.natCast_ediv, <- Int.natCast_emod, GF hr, GO hr]
 exact ⟨rfl, rfl⟩
theorem aEm {n O P R m o p q : Nat} {Q : List Int -> Prop} (hs : 0 < szF [(n : Int), O, P, R]) (hm : m < n) (ho : o < O) (hp : p < P) (hq : q < R) (h : Q [(m : Int), o, p, q]) :
    c8 [(n : Int), O, P, R] ((ix4 O P R m o p q : Nat) : Int) Q := by
  obtain ⟨a, b, c, d, e1, e2, e3, e4, b1, b2, b3, b4, s5, s6⟩ := aMi hs
  have e1 : a = n := by omega
  have e2 : b = O := by omega
  have e3 : c = P := by omega
  have e4 : d = R := by omega
  subst e1 e2 e3 e4
  have hlt := aB1 hm ho hp hq
  have r3 : p * d + q < c * d := l0 hp hq
  have r2 : o * (c * d) + (p * d + q) < b * c * d := by rw [Nat.mul_assoc]; exact l0 ho r3
  have ei : ix4 b c d m o p q = m * (b * c * d) + (o * (c * d) + (p * d + q)) := by
    unfold ix4
    simp only [Nat.add_mul, Nat.mul_assoc, Nat.add_assoc]
  obtain ⟨t0, u0⟩ := dm r2 ei
  obtain ⟨t1, u1⟩ := dm (a := o * (c * d) + (p * d + q)) r3 rfl
  obtain ⟨t2, u2⟩ := dm (a := p * d + q) hq rfl
  have k1 : m <= ix4 b c d m o p q := by rw [ei]; have : m <= m * (b * c * d) := Nat.le_mul_of_pos_right _ (by omega); omega
  have k2 : o <= o * (c * d) := Nat.le_mul_of_pos_right _ (by omega)
  have k3 : p <= p * d := Nat.le_mul_of_pos_right _ (by omega)
  have k0 : ix4 b c d m o p q <= 8192 := by omega
  refine ⟨?_⟩
  refine AX (b := decide (((ix4 b c d m o p q : Nat) : Int) < 0)) (c := decide (szF [(a : Int), b, c, d] <= ((ix4 b c d m o p q : Nat) : Int))) (fun _ P hp => RQ hp) (fun v1 e1 => ?_) rfl
  have hv : v1 = false := by
    rw [e1, s6]
    simp only [Bool.or_eq_false_iff, decide_eq_false_iff_not]
    omega
  rw [hv, if_neg (by simp)]
  refine aJA hs ?_
  rw [aP0]
  refine ⟨?_⟩
  refine Loop.range (B := jG 4 [((b * c * d : Nat) : Int), ((c * d : Nat) : Int), (d : Int), 1] _) (f := fun i : Nat => match i with
    | 0 => (((ix4 b c d m o p q : Nat) : Int), 0, [])
    | 1 => (((o * (c * d) + (p * d + q) : Nat) : Int), 1, [(m : Int)])
    | 2 => (((p * d + q : Nat) : Int), 2, [(m : Int), o])
    | 3 => ((q : Int), 3, [(m : Int), o, p])
    | _ => (0, 4, [(m : Int), o, p, q])) 4 (fun _ => True) trivial ?_ ?_
  · intro i hi _ X hX
    have hX := hX trivial
    unfold jG
    match i, hi, hX with
    | 0, _, hX =>
      refine ⟨by simp, by show ((b * c * d : Nat) : Int) ≠ 0; omega, by simp, by show ((b * c * d : Nat) : Int) ≠ 0; omega, ?_⟩
      show X (((ix4 b c d m o p q : Nat) : Int).tmod ((b * c * d : Nat) : Int), IntKind.i64.wrap (0 + 1), [] ++ [IntKind.i64.wrap (((ix4 b c d m o p q : Nat) : Int).tdiv ((b * c * d : Nat) : Int))])
      rw [t0, u0, aA (m : Int) (by omega) (by omega)]
      exact hX
    | 1, _, hX =>
      refine ⟨by simp, by show ((c * d : Nat) : Int) ≠ 0; omega, by simp, by show ((c * d : Nat) : Int) ≠ 0; omega, ?_⟩
      show X (((o * (c * d) + (p * d + q) : Nat) : Int).tmod ((c * d : Nat) : Int), IntKind.i64.wrap (1 + 1), [(m : Int)] ++ [IntKind.i64.wrap (((o * (c * d) + (p * d + q) : Nat) : Int).tdiv ((c * d : Nat) : Int))])
      rw [t1, u1, aA (o : Int) (by omega) (by omega)]
      exact hX
    | 2, _, hX =>
      refine ⟨by simp, by show (d : Int) ≠ 0; omega, by simp, by show (d : Int) ≠ 0; omega, ?_⟩
      show X (((p * d + q : Nat) : Int).tmod (d : Int), IntKind.i64.wrap (2 + 1), [(m : Int), o] ++ [IntKind.i64.wrap (((p * d + q : Nat) : Int).tdiv (d : Int))])
      rw [t2, u2, aA (p : Int) (by omega) (by omega)]
      exact hX
    | 3, _, hX =>
      refine ⟨by simp, by show (1 : Int) ≠ 0; omega, by simp, by show (1 : Int) ≠ 0; omega, ?_⟩
      show X ((q : Int).tmod 1, IntKind.i64.wrap (3 + 1), [(m : Int), o, p] ++ [IntKind.i64.wrap ((q : Int).tdiv 1)])
      rw [Int.tmod_one, Int.tdiv_one, aA (q : Int) (by omega) (by omega)]
      exact hX
  · intro _ X
    exact h
end Go.Proofs.YtcfpfefadlnmcaaGreat

namespace Go.Proofs.YtcfpfefadlnmcaaGreat
open Go.Mach Go.RowKit
set_option maxRecDepth 100000
set_option linter.unusedVariables false
set_option linter.unusedSimpArgs false
theorem aGh {l : List T3} (h : ∀ t ∈ l, aW t = true /\ (t.1.length : Int) = 4) : B9 l = 0 := by
 unfold B9
 rw [if_pos (List.all_eq_true.2 fun t ht => (h t ht).1), if_pos (List.all_eq_true.2 fun t ht => by simpa using (h t ht).2)]
theorem aKf {d : List Int} {e n : Int} (h : (i3 d e n).2 ≠ 0) : (i3 d e n).1 = Z3 := by
  unfold i3 at h ⊢
  split
  · rfl
  · split
    · rfl
    · split
      · rfl
      · rename_i g1 g2 g3
        rw [if_neg g1, if_neg g2, if_neg g3] at h
        exact absurd rfl h
theorem ix5 {m C j H V a : Nat} (h : (m * C + j) * (H * V) + a <= 100000000) (hp : 1 <= H) (hv : 1 <= V) : IntKind.i64.wrap (IntKind.i64.wrap (IntKind.i64.wrap (IntKind.i64.wrap (IntKind.i64.wrap ((m : Int) * C) + (j : Int)) * H) * V) + (a : Int)) = (((m * C + j) * (H * V) + a : Nat) : Int) := by
 have e : (m * C + j) * (H * V) = (m * C + j) * H * V := by rw [Nat.mul_assoc]
 have g1 : m * C + j <= (m * C + j) * H := Nat.le_mul_of_pos_right _ hp
 have g2 : (m * C + j) * H <= (m * C + j) * H * V := Nat.le_mul_of_pos_right _ hv
 rw [ix (r := m) (n := C) (i := j) (by omega), U5 (r := m * C + j) (n := H) (by omega), ix (r := (m * C + j) * H) (n := V) (i := a) (by omega), e]
theorem aP3 {C H V K m o n O : Nat} {p0 q0 : Int} {xd wd : List Int} {a r q : Nat} {t : Int} {K0 : Int -> Prop} (hx : xd.length = n * C * (H * V)) (hw : wd.length = O * C * K * K) (bx : n * C * (H * V) <= 8192) (bw : O * C * K * K <= 8192) (ax : All8 xd) (aw : All8 wd) (hm : m < n) (ho : o < O) (ha : a < H * V) (hr : r < K) (hq : q < K) (hC : C <= 8192) (hH : 1 <= H) (hV : 1 <= V)
  (h : K0 (IntKind.i64.wrap (t + cE (fun c => LJ xd wd C (H * V) K m o c ((a : Int), (r : Int), (q : Int))) C))) : mE C H V K C xd wd [(m : Int), o, p0, q0] a r q K0 (IntKind.i64.wrap t, 0) := by
 refine ⟨?_⟩
 have eg : (IntKind.i64.wrap t, (0 : Int)) = (fun i : Nat => (IntKind.i64.wrap (t + cE (fun c => LJ xd wd C (H * V) K m o c ((a : Int), (r : Int), (q : Int))) i), (i : Int))) 0 := by simp [cE]
 rw [eg]
 refine Loop.range (B := f5 C H V K C xd wd [(m : Int), o, p0, q0] a r q K0) (f := fun i : Nat => (IntKind.i64.wrap (t + cE (fun c => LJ xd wd C (H * V) K m o c ((a : Int), (r : Int), (q : Int))) i), (i : Int))) C (fun _ => True) trivial ?_ ?_
 ·intro c hc _ X hX
  have hX := hX trivial
  unfold f5
  rw [if_pos (decide_eq_true (show (c : Int) < (C : Int) by omega))]
  dsimp only at hX ⊢
  simp only [List.getD_cons_zero, List.getD_cons_succ]
  have g1 : (m * C + c) * (H * V) + a < n * C * (H * V) := l0 (l0 hm hc) ha
  have g2 : ((o * C + c) * K + r) * K + q < O * C * K * K := l0 (l0 (l0 ho hc) hr) hq
  have g5 : (o * C + c) * K + r <= ((o * C + c) * K + r) * K := Nat.le_mul_of_pos_right _ (by omega)
  have g7 : o * C + c <= (o * C + c) * K := Nat.le_mul_of_pos_right _ (by omega)
  have ef : LJ xd wd C (H * V) K m o c ((a : Int), (r : Int), (q : Int)) = xd.getD ((m * C + c) * (H * V) + a) 0 * wd.getD (((o * C + c) * K + r) * K + q) 0 := by
   unfold LJ; simp only [Int.toNat_natCast]
  simp only [cE, ef] at hX
  rw [ix5 (by omega) hH hV, ix (r := o) (n := C) (i := c) (by omega), ix (r := o * C + c) (n := K) (i := r) (by omega), ix (r := (o * C + c) * K + r) (n := K) (i := q) (by omega)]
  refine ⟨by simp, by omega, by simp, by omega, ?_⟩
  simp only [Int.toNat_natCast]
  have b1 := ax.at_ ((m * C + c) * (H * V) + a)
  have b2 := aw.at_ (((o * C + c) * K + r) * K + q)
  have b3 := aK6 b1 b2
  rw [aA (xd.getD ((m * C + c) * (H * V) + a) 0) (by omega) (by omega), aA (wd.getD (((o * C + c) * K + r) * K + q) 0) (by omega) (by omega), aA (_ * _) (by omega) (by omega), aA ((c : Int) + 1) (by omega) (by omega), aEp, Int.add_assoc]
  exact hX
 ·intro _ X
  unfold f5
  rw [if_neg (by simp)]
  exact h
theorem aPk {C H V K m o n O : Nat} {p0 q0 : Int} {xd wd : List Int} {l : List (Int × Int × Int)} {t : Int} {K0 : Int -> Prop} (hx : xd.length = n * C * (H * V)) (hw : wd.length = O * C * K * K) (bx : n * C * (H * V) <= 8192) (bw : O * C * K * K <= 8192) (ax : All8 xd) (aw : All8 wd) (hm : m < n) (ho : o < O) (hl : InP K (H * V) l) (hll : l.length <= 1000000) (hC : C <= 8192) (hH : 1 <= H) (hV : 1 <= V)
  (h : K0 (IntKind.i64.wrap (t + cE (fun c => WA l (LJ xd wd C (H * V) K m o c)) C))) : nK C H V K (l.length : Int) xd wd [(m : Int), o, p0, q0] l K0 (IntKind.i64.wrap t, 0) := by
 refine ⟨?_⟩
 rw [<- aJ2 l (fun z c => LJ xd wd C (H * V) K m o c z), RK l _ (0, 0, 0)] at h
 have eg : (IntKind.i64.wrap t, (0 : Int)) = (fun i : Nat => (IntKind.i64.wrap (t + cE (fun i => cE (fun c => LJ xd wd C (H * V) K m o c (l.getD i (0, 0, 0))) C) i), (i : Int))) 0 := by simp [cE]
 rw [eg]
 refine Loop.range (B := f8 C H V K (l.length : Int) xd wd [(m : Int), o, p0, q0] l K0) (f := fun i : Nat => (IntKind.i64.wrap (t + cE (fun i => cE (fun c => LJ xd wd C (H * V) K m o c (l.getD i (0, 0, 0))) C) i), (i : Int))) l.length (fun _ => True) trivial ?_ ?_
 ·intro i hi _ X hX
  have hX := hX trivial
  unfold f8
  rw [if_pos (decide_eq_true (show (i : Int) < (l.length : Int) by omega))]
  dsimp only at hX ⊢
  refine ⟨by omega, ?_⟩
  rw [Int.toNat_natCast]
  obtain ⟨a, r, q, ez, ha, hr, hq⟩ := hl (l.getD i (0, 0, 0)) (by rw [List.getD_eq_getElem?_getD, List.getElem?_eq_getElem hi]; exact List.getElem_mem hi)
  simp only [cE] at hX
  rw [ez] at hX
  rw [ez]
  refine aP3 hx hw bx bw ax aw hm ho ha hr hq hC hH hV ?_
  rw [aA ((i : Int) + 1) (by omega) (by omega), Int.add_assoc]
  exact hX
 ·intro _ X
  unfold f8
  rw [if_neg (by simp)]
  exact h
theorem aOs {n C O K H V P Q : Nat} {s p : Int} {xd wd bd : List Int} {be e : Int} (g : FwdIn n C O K H V P Q xd wd bd) (hs : 0 < szF [(n : Int), O, P, Q]) (hH : 1 <= H) (hV : 1 <= V) {L : List Int} {K0 : List Int -> Prop} (hL : L.length = n * O * P * Q)
    (h : K0 (aH3 n O P Q (pC H V C K s p xd wd bd be e))) :
    nI s p C H V K ((n * O * P * Q : Nat) : Int) xd wd be bd [(n : Int), O, P, Q] e K0 (0, L) := by
  have hbo := g.bo
  have hKK : K * K <= 5 * 5 := Nat.mul_le_mul g.hK g.hK
  refine ⟨?_⟩
  refine Loop.rangeI (B := gA s p C H V K ((n * O * P * Q : Nat) : Int) xd wd be bd [(n : Int), O, P, Q] e K0) (n * O * P * Q) (fun i st => st.1 = (i : Int) /\ Fill n O P Q (pC H V C K s p xd wd bd be e) (fun m o y x => ix4 O P Q m o y x < i) st.2) ⟨rfl, hL, fun _ _ _ _ _ _ _ _ hc => absurd hc (by omega)⟩ ?_ ?_
  · rintro i hi ⟨i', M⟩ ⟨e1, hM⟩ X hX
    simp only at e1 hM
    subst e1
    obtain ⟨m, o, y, x, hm, ho, hy, hx, ei⟩ := WY hi
    unfold gA
    rw [if_pos (decide_eq_true (show (i : Int) < ((n * O * P * Q : Nat) : Int) by omega))]
    dsimp only
    rw [aA ((i : Int) + 1) (by omega) (by omega)]
    have key : ∀ Q' : List Int -> Prop, Q' [(m : Int), o, y, x] -> c8 [(n : Int), O, P, Q] (i : Int) Q' := by
      intro Q' hQ'
      rw [ei]
      exact aEm hs hm ho hy hx hQ'
    refine key _ ?_
    simp only [List.getD_cons_zero, List.getD_cons_succ]
    have b8 := g.ab.at_ o
    refine ⟨by simp, ⟨by omega, by rw [g.hb]; omega⟩, ?_⟩
    rw [Int.toNat_natCast, aA (bd.getD o 0) (by omega) (by omega)]
    refine aJj ⟨by simp, by simp, YG ?_⟩
    have ba := V8 (b := be) (c := e) b8
    have hwl := QE (rows := H) (cols := V) (r := y) (c := x) (s := s) (p := p) (K := K)
    have e0 : (alF (bd.getD o 0) be e, (0 : Int)) = (IntKind.i64.wrap (alF (bd.getD o 0) be e), (0 : Int)) := by rw [aA _ (by omega) (by omega)]
    rw [e0]
    refine aPk g.hx g.hw g.bx g.bw g.ax g.aw hm ho TG (by omega) g.le.1 hH hV ?_
    refine ⟨by rw [hM.len]; omega, ?_⟩
    rw [Int.toNat_natCast, aJy]
    refine hX _ ⟨by simp, ?_⟩
    have hset := hM.set (C' := fun m' o' y' x' => ix4 O P Q m' o' y' x' < i + 1) hm ho hy hx (v := IntKind.i32.wrap (alF (bd.getD o 0) be e + cE (fun c => WA (dG H V y x K s p) (LJ xd wd C (H * V) K m o c)) C)) rfl fun m' o' y' x' hm' ho' hy' hx' hc => ?_
    · rw [<- ei] at hset
      exact hset
    · rcases Nat.lt_or_ge (ix4 O P Q m' o' y' x') i with c5 | c5
      · exact .inl c5
      · refine .inr ?_
        have : ix4 O P Q m' o' y' x' = ix4 O P Q m o y x := by omega
        exact aJb ho' hy' hx' ho hy hx this
  · rintro ⟨i', M⟩ ⟨e1, hM⟩ X
    simp only at e1 hM
    subst e1
    unfold gA
    rw [if_neg (by simp)]
    rw [hM.all fun _ _ _ _ h1 h2 h3 h4 => aB1 h1 h2 h3 h4]
    exact h
theorem aOc {a b c : T3} : [a, b, c].all aW = (aW a && (aW b && aW c)) := by simp [List.all_cons]
theorem aLC {a b : T3} : [a, b].all aW = (aW a && aW b) := by simp [List.all_cons]
theorem aIv {x w : T3} (h : ([x, w].all aW) = false) : B9 [x, w] = 1 := by
 unfold B9; rw [h]; rfl
theorem aIo {x w : T3} (h : ([x, w].all aW) = true) (hl : ¬ ((x.1.length : Int) = 4 /\ (w.1.length : Int) = 4)) : B9 [x, w] = 2 := by
 unfold B9
 rw [if_pos h, if_neg]
 intro g
 apply hl
 simp only [List.all_cons, List.all_nil, Bool.and_true, Bool.and_eq_true, beq_iff_eq] at g
 exact g
theorem aJN {x w b : T3} {s p : Int} (h : ([x, w, b].all aW) = false) : Q9 x w b s p = (Z3, 1) := by
  have hE : UV x w b s p = 1 := by
    unfold UV
    rw [aOc] at h
    cases hb : aW b with
    | false => rfl
    | true =>
      rw [hb, Bool.and_true] at h
      rw [aIv (by rw [aLC]; exact h)]
      rfl
  unfold Q9
  rw [hE]; rfl
theorem aBF {x w b : T3} {s p : Int} (h : ([x, w, b].all aW) = true) (hl : ¬ ((x.1.length : Int) = 4 /\ (w.1.length : Int) = 4) \/ ES x w b s p = true) : Q9 x w b s p = (Z3, 2) := by
  rw [aOc] at h
  simp only [Bool.and_eq_true] at h
  have hE : UV x w b s p = 2 := by
    unfold UV
    rw [h.2.2]
    simp only [Bool.not_true, Bool.false_eq_true, if_false]
    by_cases h2 : (x.1.length : Int) = 4 /\ (w.1.length : Int) = 4
    · rw [aGh (fun t ht => by
        rcases List.mem_cons.1 ht with e | e
        · subst e; exact ⟨h.1, h2.1⟩
        · rcases List.mem_singleton.1 e with rfl
          exact ⟨h.2.1, h2.2⟩)]
      rcases hl with hl | hl
      · exact absurd h2 hl
      · rw [hl]; rfl
    · rw [aIo (by rw [aLC, h.1, h.2.1]; rfl) h2]; rfl
  unfold Q9
  rw [hE]; rfl
theorem aMg {x w b : T3} {s p : Int} {Q : T3 × Int -> Prop} (ax : All8 x.2.2) (aw : All8 w.2.2) (ab : All8 b.2.2) (hq : Q (Q9 x w b s p)) : rI x w b s p Q := by
  refine ⟨?_⟩
  refine Q1 (by simp) ?_
  show (if (!([x, w, b].all aW)) = true then _ else _)
  cases hm : [x, w, b].all aW with
  | false => rw [aJN hm] at hq; exact hq
  | true =>
    rw [if_neg (by simp)]
    refine AX (b := (((x.1.length : Int) != 4) || ((w.1.length : Int) != 4)) || ((b.1.length : Int) != 1)) (c := x.1.getD 1 0 != w.1.getD 1 0) (fun hb P hp => ?_) (fun v2 e2 => ?_) rfl
    · simp only [Bool.or_eq_false_iff, aCM] at hb
      exact ⟨by omega, by omega, hp⟩
    · refine AX (c := w.1.getD 2 0 != w.1.getD 3 0) (fun hb P hp => ?_) (fun v4 e4 => ?_) rfl
      · rw [e2] at hb
        simp only [Bool.or_eq_false_iff, aCM] at hb
        exact ⟨by omega, by omega, hp⟩
      · refine AX (c := b.1.getD 0 0 != w.1.getD 0 0) (fun hb P hp => ?_) (fun v6 e6 => ?_) rfl
        · rw [e4, e2] at hb
          simp only [Bool.or_eq_false_iff, aCM] at hb
          exact ⟨by omega, by omega, hp⟩
        · cases v6 with
          | true =>
            rw [if_pos rfl]
            rw [aBF hm] at hq
            · exact hq
            · by_cases g1 : (x.1.length : Int) = 4 /\ (w.1.length : Int) = 4
              · right
                rw [e4, e2] at e6
                have e6 := e6.symm
                simp only [Bool.or_eq_true, bne_iff_ne, ne_eq] at e6
                unfold ES
                simp only [Bool.or_eq_true, bne_iff_ne, ne_eq]
                have : x.1.getD 1 0 = w.1.getD 1 0 ↔ w.1.getD 1 0 = x.1.getD 1 0 := eq_comm
                have : w.1.getD 2 0 = w.1.getD 3 0 ↔ w.1.getD 3 0 = w.1.getD 2 0 := eq_comm
                grind
              · left; exact g1
          | false =>
            rw [if_neg (by simp)]
            rw [e4, e2] at e6
            have e6 := e6.symm
            simp only [Bool.or_eq_false_iff, aCM] at e6
            obtain ⟨⟨⟨⟨⟨l1, l2⟩, l3⟩, c1⟩, c2⟩, c3⟩ := e6
            have hm2 := hm
            rw [aOc] at hm2
            simp only [Bool.and_eq_true] at hm2
            refine ⟨by omega, by omega, by omega, by omega, by omega, by omega, QV ?_⟩
            show (if ((bW (x.1.getD 2 0) (w.1.getD 2 0) s p == 0) || (bW (x.1.getD 3 0) (w.1.getD 2 0) s p == 0)) = true then _ else _)
            have r1 := pZ (x.1.getD 2 0) (w.1.getD 2 0) s p
            have r2 := pZ (x.1.getD 3 0) (w.1.getD 2 0) s p
            by_cases hz : ((bW (x.1.getD 2 0) (w.1.getD 2 0) s p == 0) || (bW (x.1.getD 3 0) (w.1.getD 2 0) s p == 0)) = true
            · rw [if_pos hz]
              rw [aBF hm] at hq
              · exact hq
              · right
                unfold ES
                simp only [Bool.or_eq_true, beq_iff_eq] at hz
                simp only [Bool.or_eq_true, Bool.not_eq_true', Bool.and_eq_false_iff, decide_eq_false_iff_not, bne_iff_ne, ne_eq]
                left; left; left; left
                omega
            · rw [if_neg hz]
              simp only [Bool.or_eq_true, beq_iff_eq, not_or] at hz
              obtain ⟨n, C, H, V, ex, x1, x2, x3, x4, x5, x6, x7, x8⟩ := aMT hm2.1 l1
              obtain ⟨O, C', K, K', ew, w1, w2, w3, w4, w5, w6, w7, w8⟩ := aMT hm2.2.1 l2
              obtain ⟨O', eb, b1, b2, b3⟩ := aPV hm2.2.2 l3
              simp only [ex, ew, eb, List.getD_cons_zero, List.getD_cons_succ] at c1 c2 c3 hz r1 r2 ⊢
              have ec : C' = C := by omega
              have ek : K' = K := by omega
              have eo : O' = O := by omega
              subst ec ek eo
              obtain ⟨a1, a2, a3, a4, a5, a6⟩ := yF (n := H) (k := K') (s := s) (p := p) (by omega)
              obtain ⟨d1, d2, d3, d4, d5, d6⟩ := yF (n := V) (k := K') (s := s) (p := p) (by omega)
              obtain ⟨P, eP, hP⟩ := EI (n := H) (k := K') (s := s) (p := p)
              obtain ⟨R, eR, hR⟩ := EI (n := V) (k := K') (s := s) (p := p)
              have k0 : C' <= n * C' := Nat.le_mul_of_pos_left _ (by omega)
              have k0' : n * C' <= n * C' * H := Nat.le_mul_of_pos_right _ (by omega)
              have k0'' : n * C' * H <= n * C' * H * V := Nat.le_mul_of_pos_right _ (by omega)
              have k1 : C' * K' <= 8192 * 5 := Nat.mul_le_mul (by omega) (by omega)
              have k2 : C' * K' * K' <= 8192 * 5 * 5 := Nat.mul_le_mul k1 (by omega)
              have k3 : H * V <= 16 * 16 := Nat.mul_le_mul (by omega) (by omega)
              rw [eP, eR, U5 (r := C') (n := K') (by omega), U5 (r := C' * K') (n := K') (by omega), aA (x.2.1 + w.2.1) (by omega) (by omega)]
              refine aJg ?_
              have hE : UV x w b s p = (i3 [(n : Int), (O' : Int), (P : Int), (R : Int)] (x.2.1 + w.2.1) ((C' * K' * K' : Nat) : Int)).2 := by
                unfold UV
                rw [hm2.2.2, aGh (fun t ht => by
                  rcases List.mem_cons.1 ht with e | e
                  · subst e; exact ⟨hm2.1, l1⟩
                  · rcases List.mem_singleton.1 e with rfl
                    exact ⟨hm2.2.1, l2⟩)]
                have hb : ES x w b s p = false := by
                  unfold ES
                  simp only [ex, ew, eb, List.getD_cons_zero, List.getD_cons_succ, eP, eR]
                  simp
                  omega
                rw [hb]
                simp only [Bool.not_true, Bool.false_eq_true, if_false, bne_self_eq_false]
                unfold Q8 aMO
                simp only [ex, ew, List.getD_cons_zero, List.getD_cons_succ, eP, eR, Int.natCast_mul]
              unfold Q9 at hq
              rw [hE] at hq
              by_cases h9 : (i3 [(n : Int), (O' : Int), (P : Int), (R : Int)] (x.2.1 + w.2.1) ((C' * K' * K' : Nat) : Int)).2 = 0
              · obtain ⟨f1, f2, f3, f4⟩ := aIS h9
                rw [f4] at hq ⊢
                simp only [bne_self_eq_false, Bool.false_eq_true, if_false] at hq ⊢
                obtain ⟨n', m', p', q', e1, e2, e3, e4, _, _, _, _, s5, s6⟩ := aMi f3
                have t1 : n' = n := by omega
                have t2 : m' = O' := by omega
                have t3 : p' = P := by omega
                have t4 : q' = R := by omega
                subst t1 t2 t3 t4
                have g : FwdIn n' C' m' K' H V p' q' x.2.2 w.2.2 b.2.2 := ⟨by rw [x6]; exact Nat.mul_assoc _ _ _, w6, by rw [<- Nat.mul_assoc]; exact x5, w5, ax, aw, ab, b3, by omega, by omega, by omega, by omega, by omega, s5⟩
                refine ⟨?_⟩
                rw [List.length_replicate]
                rw [s6, Int.toNat_natCast]
                refine aOs g f3 (by omega) (by omega) (by simp) ?_
                unfold Q8 aC6 at hq
                simp only [ex, ew, List.getD_cons_zero, List.getD_cons_succ, eP, eR, Int.toNat_natCast] at hq
                exact hq
              · rw [if_pos (by simpa using h9)]
                rw [if_pos (by simpa using h9)] at hq
                rw [aKf h9]
                exact hq
open Go.Mach Go.RowKit
set_option maxRecDepth 100000
set_option linter.unusedVariables false
set_option linter.unusedSimpArgs false
open Go.Mach Go.RowKit
set_option maxRecDepth 100000
set_option linter.unusedVariables false
set_option linter.unusedSimpArgs false
section
variable {n O C K P Q H V : Nat} {gd xd : List Int}
end
end Go.Proofs.YtcfpfefadlnmcaaGreat
namespace Go.Proofs.YtcfpfefadlnmcaaGreat
end Go.Proofs.YtcfpfefadlnmcaaGreat
namespace Go.Proofs.YtcfpfefadlnmcaaGreat
end Go.Proofs.YtcfpfefadlnmcaaGreat

namespace Go.Proofs.YtcfpfefadlnmcaaGreat
open Go.Mach
set_option maxRecDepth 100000
set_option linter.unusedVariables false
set_option linter.unusedSimpArgs false
def aNL (d : List Int) (e : Int) : T3 × Int :=
 if (decide (e < -128) || decide (128 < e)) = true then (Z3, 3) else if (!decide (0 < szF d)) = true then (Z3, 1) else ((d, (e, List.replicate (szF d).toNat 0)), 0)
theorem aL2 {d : List Int} {e : Int} {Q : T3 × Int -> Prop} (h : Q (aNL d e)) : iP d e Q := by
 refine ⟨?_⟩
 unfold aNL at h
 by_cases h2 : (decide (e < -128) || decide (128 < e)) = true
 ·rw [if_pos h2] at h ⊢; exact h
 ·rw [if_neg h2] at h ⊢
  refine qR ?_
  by_cases h3 : (!decide (0 < szF d)) = true
  ·rw [if_pos h3] at h ⊢; exact h
  ·rw [if_neg h3] at h ⊢
   have := Q3 d
   have := L3 d
   refine RQ ⟨⟨by omega, by omega⟩, h⟩
theorem aJp {d : List Int} {e : Int} (h2 : -128 <= e /\ e <= 128) (h3 : 0 < szF d) : aNL d e = ((d, (e, List.replicate (szF d).toNat 0)), 0) := by
 unfold aNL
 rw [if_neg (by simp; omega), if_neg (by simp [h3])]
theorem aBs {n i : Nat} {f : Nat -> Int} (hi : i < n) : (tab i f ++ List.replicate (n - i) 0).set i (f i) = tab (i + 1) f ++ List.replicate (n - (i + 1)) 0 := by
 have hl : (tab i f).length = i := by simp [tab]
 rw [List.set_append_right _ _ (by omega), hl, Nat.sub_self, show n - i = (n - (i + 1)) + 1 by omega, List.replicate_succ, List.set_cons_zero, WJ, List.append_assoc]
 rfl
theorem aCt {n i : Nat} {f : Nat -> Int} (hi : i <= n) : (tab i f ++ List.replicate (n - i) 0).length = n := by
 simp [tab]; omega
theorem aMd {n i : Nat} {f : Nat -> Int} (hi : i < n) : (tab i f ++ List.replicate (n - i) 0).getD i 0 = 0 := by
 have hl : (tab i f).length = i := by simp [tab]
 rw [List.getD_eq_getElem?_getD, List.getElem?_append_right (by omega), hl, Nat.sub_self, show n - i = (n - (i + 1)) + 1 by omega]
 rfl
theorem aMD {a b : T3} (ha : aW a = true) (hb : aW b = true) : -128 <= aD2 a b /\ aD2 a b <= 128 := by
 obtain ⟨_, _, e1, _⟩ := dY.1 ha
 obtain ⟨_, _, e2, _⟩ := dY.1 hb
 have h1 : ∀ p q : Int, -128 <= p -> p <= 128 -> -128 <= q -> q <= 128 -> -128 <= aD p q /\ aD p q <= 128 := by
  intro p q _ _ _ _; unfold aD; split <;> omega
 have h2 : -64 <= aD a.2.1 b.2.1 /\ aD a.2.1 b.2.1 <= 64 := by unfold aD; split <;> omega
 have h3 : -64 <= aL a.2.1 b.2.1 /\ aL a.2.1 b.2.1 <= 64 := by unfold aL; split <;> omega
 unfold aD2
 rw [aA _ (by omega) (by omega)]
 exact h1 _ _ (by omega) (by omega) (by omega) (by omega)
theorem aNb {a b : T3} {n : Nat} {K0 : List Int -> Prop} (hn : n <= 8192) (h1 : a.2.2.length = n) (h2 : b.2.2.length = n) (h : K0 (tab n (nP a b))) : oF (aD2 a b) (n : Int) a.2.1 a.2.2 b.2.1 b.2.2 K0 (0, List.replicate n 0) := by
 refine ⟨?_⟩
 have e0 : ((0 : Int), List.replicate n (0 : Int)) = (fun i : Nat => ((i : Int), tab i (nP a b) ++ List.replicate (n - i) 0)) 0 := by simp [tab]
 rw [e0]
 refine Loop.range (B := gR (aD2 a b) (n : Int) a.2.1 a.2.2 b.2.1 b.2.2 K0) n (fun i : Nat => ((i : Int), tab i (nP a b) ++ List.replicate (n - i) 0)) (fun _ => True) trivial ?_ ?_
 ·intro i hi _ X hX
  have hX := hX trivial
  unfold gR
  rw [if_pos (decide_eq_true (show (i : Int) < (n : Int) by omega))]
  dsimp only at hX ⊢
  refine ⟨by omega, ?_⟩
  rw [Int.toNat_natCast]
  refine aJj ⟨by omega, aJj ⟨by rw [aCt (by omega)]; omega, ?_⟩⟩
  rw [aA ((i : Int) + 1) (by omega) (by omega)]
  rw [<- aBs hi] at hX
  exact hX
 ·intro _ X
  unfold gR
  rw [if_neg (by simp)]
  simpa using h
theorem aOI {a b : T3} {Q : T3 × Int -> Prop} (h : Q (addF a b)) : s4 a b Q := by
  refine ⟨Q1 (by simp) ?_⟩
  unfold addF at h
  rw [aLC]
  by_cases hm : aW a = true /\ aW b = true
  · rw [if_pos hm] at h
    obtain ⟨hm, hn⟩ := hm
    rw [hm, hn, if_neg (by simp)]
    obtain ⟨h1, h2, _⟩ := dT hm
    obtain ⟨k1, k2, _⟩ := dT hn
    obtain ⟨q0, q1, _⟩ := dY.1 hm
    have q2 := (dY.1 hn).2.1
    refine KY (by omega) ?_
    by_cases he : a.1 = b.1
    · rw [if_pos he] at h
      rw [decide_eq_true he, if_neg (by simp)]
      rw [<- he] at q2
      have hr := aMD hm hn
      refine ⟨by omega, aL2 ?_⟩
      have hE : aD (aL a.2.1 b.2.1) (IntKind.i64.wrap (aD a.2.1 b.2.1 - 12)) = aD2 a b := rfl
      rw [hE, aJp hr q0]
      dsimp only
      rw [List.length_replicate]
      refine aNb (by omega) (by omega) (by omega) ?_
      have e : tab (szF a.1).toNat (nP a b) = (List.range a.2.2.length).map (nP a b) := by
        unfold tab
        rw [show (szF a.1).toNat = a.2.2.length by omega]
      rw [e]
      exact h
    · rw [if_neg he] at h
      rw [decide_eq_false he, if_pos (by rfl)]
      exact h
  · rw [if_neg hm] at h
    have e : (aW a && aW b) = false := by
      rw [Bool.eq_false_iff]; intro e; simp only [Bool.and_eq_true] at e; exact hm e
    rw [e, if_pos (by rfl)]
    exact h
theorem aMb {t : T3} {Q : T3 × Int -> Prop} (h : Q (II t)) : rG t Q := by
  refine ⟨⟨Q1 (by simp) ?_⟩⟩
  unfold II at h
  rw [aLC]
  cases hm : aW t with
  | false =>
    rw [if_neg (by rw [hm]; simp)] at h
    rw [if_pos (by simp)]
    exact h
  | true =>
    rw [if_pos hm] at h
    rw [if_neg (by simp)]
    obtain ⟨h1, h2, _⟩ := dT hm
    refine KY (by omega) ?_
    rw [decide_eq_true rfl, if_neg (by simp)]
    refine ⟨by omega, ⟨?_⟩⟩
    refine Loop.range (B := dM t.2.2 (t.2.2.length : Int) t.2.2 _) t.2.2.length (fun i => ((i : Int), (t.2.2.take i).map (aD 0))) (fun _ => True) trivial ?_ ?_
    · intro i hi _ X hX
      unfold dM
      dsimp only
      rw [if_pos (decide_eq_true (show (i : Int) < (t.2.2.length : Int) by omega))]
      refine ⟨by omega, by omega, ?_⟩
      rw [Int.toNat_natCast, aA ((i : Int) + 1) (by omega) (by omega)]
      have e : (t.2.2.take (i + 1)).map (aD 0) = (t.2.2.take i).map (aD 0) ++ [aD 0 (t.2.2.getD i 0)] := by
        rw [IX hi 0, List.map_append]; rfl
      have hX := hX trivial
      rw [e] at hX
      by_cases hz : t.2.2.getD i 0 <= 0
      · rw [if_pos (decide_eq_true hz)]
        have : aD 0 (t.2.2.getD i 0) = 0 := by unfold aD; split <;> omega
        rw [this] at hX
        exact ⟨by simp; omega, hX⟩
      · rw [if_neg (by simpa using hz)]
        have : aD 0 (t.2.2.getD i 0) = t.2.2.getD i 0 := by unfold aD; split <;> omega
        rw [this] at hX
        exact ⟨by simp; omega, hX⟩
    · intro _ X
      unfold dM
      dsimp only
      rw [if_neg (by simp), List.take_length]
      exact h
theorem aNI {t : T3} {Q : T3 × Int -> Prop} (h : Q (EP t)) : rQ t Q := by
  refine ⟨Q1 (by simp) ?_⟩
  have e1 : [t].all aW = aW t := by simp
  rw [e1]
  unfold EP at h
  cases hm : aW t with
  | false =>
    rw [if_neg (by rw [hm]; simp)] at h
    rw [if_pos (by rfl)]
    exact h
  | true =>
    rw [if_pos hm] at h
    rw [if_neg (by simp)]
    obtain ⟨h1, h2, h3, h4, h5⟩ := dT hm
    obtain ⟨q0, q1, _⟩ := dY.1 hm
    obtain ⟨w1, w2, w3, w4⟩ := RM q0
    rw [q1]
    refine ⟨by omega, by omega, by omega, qR ?_⟩
    unfold XJ at h
    by_cases hs : 0 < szF [t.1.getD 0 0, IntKind.i64.wrap ((szF t.1).tdiv (t.1.getD 0 0))]
    · rw [if_pos ⟨hm, hs⟩] at h
      rw [decide_eq_true hs, if_neg (by simp)]
      have key : szF [t.1.getD 0 0, IntKind.i64.wrap ((szF t.1).tdiv (t.1.getD 0 0))] = (t.2.2.length : Int) := by
        have hp : szF t.1 = t.1.getD 0 0 * bQ (t.1.drop 1) := by
          rw [w3]
          cases hA : t.1 with
          | nil => rw [hA] at w1; simp at w1
          | cons d r => rfl
        have hpos : 1 <= bQ (t.1.drop 1) := BP fun d hd => (w2 d (List.mem_of_mem_drop hd)).1
        have hdiv : (szF t.1).tdiv (t.1.getD 0 0) = bQ (t.1.drop 1) := by
          rw [hp]; exact Int.mul_tdiv_cancel_left _ (by omega)
        have hle : bQ (t.1.drop 1) <= t.1.getD 0 0 * bQ (t.1.drop 1) := by
          have := Int.mul_le_mul_of_nonneg_right h4 (show 0 <= bQ (t.1.drop 1) by omega)
          omega
        have hw : IntKind.i64.wrap ((szF t.1).tdiv (t.1.getD 0 0)) = bQ (t.1.drop 1) := by
          rw [hdiv, aA _ (by omega) (by omega)]
        rw [hw] at hs ⊢
        rw [(aLs _ _ hs).2.2.2.2.2, q1, hp]
      rw [if_pos key] at h
      exact ⟨by omega, h⟩
    · rw [if_neg (fun hh => hs hh.2)] at h
      rw [decide_eq_false hs, if_pos (by rfl)]
      exact h
def UU (d : List Int) (k s : Int) : List Int × Bool :=
 if ((d.length : Int) != 4) = true then ([], false) else ([d.getD 0 0, d.getD 1 0, bW (d.getD 2 0) k s 0, bW (d.getD 3 0) k s 0], decide (0 < bW (d.getD 2 0) k s 0) && decide (0 < bW (d.getD 3 0) k s 0))
theorem aFK {d : List Int} {k s : Int} {Q : List Int × Bool -> Prop} (h : Q (UU d k s)) : iW d k s Q := by
 refine ⟨?_⟩
 unfold UU at h
 by_cases h1 : ((d.length : Int) != 4) = true
 ·rw [if_pos h1] at h ⊢; exact h
 ·rw [if_neg h1] at h ⊢
  have : d.length = 4 := by simp at h1; omega
  refine ⟨by omega, by omega, QV ⟨by omega, by omega, h⟩⟩
theorem aMp {k : Int} {Q : Int -> Prop} (hk : 1 <= k /\ k <= 5) (h : Q (aEf k)) : rV k Q := by
 rcases (by omega : k = 1 \/ k = 2 \/ k = 3 \/ k = 4 \/ k = 5) with e | e | e | e | e <;> subst e
 ·exact ⟨by decide, h⟩
 ·exact ⟨by decide, h⟩
 ·exact ⟨by decide, h⟩
 ·exact ⟨by decide, h⟩
 ·exact ⟨by decide, h⟩
section
variable {N H V P Q : Nat} {k s : Int} {X : List Int}
theorem PoolIn.small (g : PoolIn N H V P Q k s X) : P <= H /\ Q <= V := by
 have p1 := g.p1
 have q1 := g.q1
 have hs := g.hs
 have hk := g.hk
 have a := RW (r := (P : Int) - 1) g.hP p1 ⟨by omega, by omega⟩
 have b := RW (r := (Q : Int) - 1) g.hQ q1 ⟨by omega, by omega⟩
 have a1 : (P : Int) - 1 <= s * ((P : Int) - 1) := by
  have := Int.mul_le_mul_of_nonneg_right hs.1 (show 0 <= (P : Int) - 1 by omega)
  omega
 have b1 : (Q : Int) - 1 <= s * ((Q : Int) - 1) := by
  have := Int.mul_le_mul_of_nonneg_right hs.1 (show 0 <= (Q : Int) - 1 by omega)
  omega
 omega
theorem aNS {n m i p q : Nat} (hp : p < P) (hq : q < Q) : ix4 m P Q n i p q = (n * m + i) * (P * Q) + (p * Q + q) := by
 unfold ix4
 rw [Nat.add_mul, Nat.mul_assoc ((n * m + i)) P Q, Nat.add_assoc]
theorem aOJ {w : List (Int × Int × Int)} {B a : Nat} {L : List Int} {K0 : List Int -> Prop} (ha : a < L.length) (h0 : L.getD a 0 = 0) (hw : w.length <= 1000000) (hx : X.length <= 8192) (hr : ∀ z ∈ w, 0 <= z.1 /\ (B : Int) + z.1 < (X.length : Int))
    (h : K0 (L.set a (aCl X (w.map fun z => (B : Int) + z.1)))) : nY (a : Int) (B : Int) (w.length : Int) X w K0 (0, L) := by
  refine ⟨?_⟩
  have e0 : ((0 : Int), L) = (fun i : Nat => ((i : Int), L.set a (IntKind.i32.wrap (cE (fun j => X.getD ((B : Int) + (w.getD j (0, 0, 0)).1).toNat 0) i)))) 0 := by
    have : L.set a 0 = L := aFx (by simp) fun i hi => by
      rw [aBb ha]
      split
      · rename_i e; rw [<- e]; exact h0.symm
      · rfl
    show ((0 : Int), L) = (0, L.set a (IntKind.i32.wrap 0))
    rw [show IntKind.i32.wrap 0 = 0 from rfl, this]
  rw [e0]
  refine Loop.range (B := gT (a : Int) (B : Int) (w.length : Int) X w K0) w.length (fun i : Nat => ((i : Int), L.set a (IntKind.i32.wrap (cE (fun j => X.getD ((B : Int) + (w.getD j (0, 0, 0)).1).toNat 0) i)))) (fun _ => True) trivial ?_ ?_
  · intro i hi _ Y hY
    have hY := hY trivial
    unfold gT
    rw [if_pos (decide_eq_true (show (i : Int) < (w.length : Int) by omega))]
    dsimp only at hY ⊢
    have hm := hr (w.getD i (0, 0, 0)) (by rw [List.getD_eq_getElem?_getD, List.getElem?_eq_getElem hi]; exact List.getElem_mem hi)
    simp only [Int.toNat_natCast, List.length_set]
    rw [aA ((B : Int) + (w.getD i (0, 0, 0)).1) (by omega) (by omega), aA ((i : Int) + 1) (by omega) (by omega)]
    refine ⟨by omega, by omega, by omega, by omega, ?_⟩
    rw [aBb ha, if_pos rfl, List.set_set, aEa, aEd]
    exact hY
  · intro _ Y
    unfold gT
    rw [if_neg (by simp)]
    unfold aCl at h
    rw [RK _ _ 0] at h
    rw [List.length_map] at h
    have e : cE (fun i => X.getD ((w.map fun z => (B : Int) + z.1).getD i 0).toNat 0) w.length = cE (fun j => X.getD ((B : Int) + (w.getD j (0, 0, 0)).1).toNat 0) w.length := QA fun i hi => by
      have : (w.map fun z => (B : Int) + z.1).getD i 0 = (B : Int) + (w.getD i (0, 0, 0)).1 := by
        rw [List.getD_eq_getElem?_getD, List.getD_eq_getElem?_getD, List.getElem?_map, List.getElem?_eq_getElem hi]; rfl
      rw [this]
    rw [e] at h
    exact h
theorem aO1 {w : List (Int × Int × Int)} {B : Nat} {K0 : Int -> Prop} (hne : w ≠ []) (hw : w.length <= 1000000) (hx : X.length <= 8192) (hr : ∀ z ∈ w, 0 <= z.1 /\ (B : Int) + z.1 < (X.length : Int))
    (h : K0 (AS X (w.map fun z => (B : Int) + z.1))) : oE (B : Int) (w.length : Int) X w K0 (-1, 0) := by
  refine ⟨?_⟩
  have hpos := List.length_pos_iff.2 hne
  have hget : ∀ i, i < w.length -> (w.map fun z => (B : Int) + z.1).getD i 0 = (B : Int) + (w.getD i (0, 0, 0)).1 := fun i hi => by
    rw [List.getD_eq_getElem?_getD, List.getD_eq_getElem?_getD, List.getElem?_map, List.getElem?_eq_getElem hi]; rfl
  have hlm : (w.map fun z => (B : Int) + z.1).length = w.length := List.length_map _
  have hall : ∀ a ∈ (w.map fun z => (B : Int) + z.1), 0 <= a /\ a < (X.length : Int) := fun a ha => by
    obtain ⟨z, hz, rfl⟩ := List.mem_map.1 ha
    have := hr z hz
    omega
  unfold AS at h
  generalize (w.map fun z => (B : Int) + z.1) = l at h hget hlm hall
  refine Loop.rangeI (B := gM (B : Int) (w.length : Int) X w K0) w.length (fun i st => st.2 = (i : Int) /\ (i = 0 -> st.1 = -1) /\ (0 < i -> st.1 = jY X (l.getD 0 0) (l.take i) /\ 0 <= st.1 /\ st.1 < (X.length : Int))) ⟨rfl, fun _ => rfl, fun e => absurd e (by omega)⟩ ?_ ?_
  · rintro i hi ⟨b, i'⟩ ⟨e1, e2, e3⟩ Y hY
    dsimp only at e1 e2 e3
    subst e1
    unfold gM
    rw [if_pos (decide_eq_true (show (i : Int) < (w.length : Int) by omega))]
    dsimp only
    have hm := hr (w.getD i (0, 0, 0)) (by rw [List.getD_eq_getElem?_getD, List.getElem?_eq_getElem hi]; exact List.getElem_mem hi)
    simp only [Int.toNat_natCast]
    have hla := hall (l.getD i 0) (C8 (by omega))
    have hst : jY X (l.getD 0 0) (l.take (i + 1)) = if decide (X.getD (jY X (l.getD 0 0) (l.take i)).toNat 0 < X.getD (l.getD i 0).toNat 0) = true then l.getD i 0 else jY X (l.getD 0 0) (l.take i) := by
      rw [IX (by omega) 0]
      unfold jY
      rw [List.foldl_append]
      rfl
    have key : ∀ a : Int, a = l.getD i 0 -> ck ((0 : Int) <= (i : Int) /\ (i : Int) < (w.length : Int)) (jn (fun (v10 : Bool) => if v10 = true then fL (i : Int) (fun y12 => Y (a, y12)) else fL (i : Int) (fun y13 => Y (b, y13))) (fun J11 => if (decide (b < 0)) = true then J11 true else ck ((0 : Int) <= a /\ a < (X.length : Int)) (ck ((0 : Int) <= b /\ b < (X.length : Int)) (J11 (decide (X.getD b.toNat 0 < X.getD a.toNat 0)))))) := by
      rintro a rfl
      refine ⟨by omega, ?_⟩
      unfold jn
      dsimp only
      by_cases hz : i = 0
      · subst hz
        rw [e2 rfl, if_pos (by decide), if_pos rfl]
        refine ⟨?_⟩
        rw [aA (((0 : Nat) : Int) + 1) (by omega) (by omega)]
        refine hY _ ⟨by simp, fun e => absurd e (by omega), fun _ => ⟨?_, hla.1, hla.2⟩⟩
        rw [hst]
        show l.getD 0 0 = if decide (X.getD (l.getD 0 0).toNat 0 < X.getD (l.getD 0 0).toNat 0) = true then l.getD 0 0 else l.getD 0 0
        split <;> rfl
      · obtain ⟨e4, e5, e6⟩ := e3 (by omega)
        rw [if_neg (by simp; omega)]
        refine ⟨by omega, by omega, ?_⟩
        rw [<- e4] at hst
        by_cases hc : decide (X.getD b.toNat 0 < X.getD (l.getD i 0).toNat 0) = true
        · rw [if_pos hc] at hst ⊢
          refine ⟨?_⟩
          rw [aA ((i : Int) + 1) (by omega) (by omega)]
          exact hY _ ⟨by simp, fun e => absurd e (by omega), fun _ => ⟨hst.symm, hla.1, hla.2⟩⟩
        · rw [if_neg hc] at hst ⊢
          refine ⟨?_⟩
          rw [aA ((i : Int) + 1) (by omega) (by omega)]
          exact hY _ ⟨by simp, fun e => absurd e (by omega), fun _ => ⟨hst.symm, e5, e6⟩⟩
    exact key _ (by rw [aA ((B : Int) + (w.getD i (0, 0, 0)).1) (by omega) (by omega), <- hget i hi])
  · rintro ⟨b, i'⟩ ⟨e1, e2, e3⟩ Y
    dsimp only at e1 e2 e3
    subst e1
    unfold gM
    rw [if_neg (by simp)]
    have := (e3 hpos).1
    rw [<- hlm, List.take_length] at this
    dsimp only
    rw [this]
    exact h
end
theorem aJi {n m H V P Q : Nat} {k s : Int} {X : List Int} (g : PoolIn (n * m) H V P Q k s X) (hn : 1 <= n /\ n <= 4096) (hm : 1 <= m /\ m <= 4096) {t : Nat} (ht : t < n * m * (P * Q)) :
    ∃ a i p q : Nat, a < n /\ i < m /\ p < P /\ q < Q /\ (∀ Q' : List Int -> Prop, Q' [(a : Int), i, p, q] -> c8 [(n : Int), m, P, Q] (t : Int) Q') /\
      IntKind.i64.wrap (IntKind.i64.wrap (IntKind.i64.wrap (IntKind.i64.wrap ((a : Int) * m) + (i : Int)) * H) * V) = (((a * m + i) * H * V : Nat) : Int) /\
      (dG H V p q k s 0).length <= 1000000 /\ dG H V p q k s 0 ≠ [] /\ (∀ z ∈ dG H V p q k s 0, 0 <= z.1 /\ (((a * m + i) * H * V : Nat) : Int) + z.1 < (X.length : Int)) /\
      pF H V k s P Q t = (dG H V p q k s 0).map fun z => (((a * m + i) * H * V : Nat) : Int) + z.1 := by
  obtain ⟨l1, l2, l3⟩ := g.le
  obtain ⟨s1, s2⟩ := g.small
  have p1 := g.p1
  have q1 := g.q1
  have hx := g.hx
  have bx := g.bx
  have hPQ : P * Q <= H * V := Nat.mul_le_mul s1 s2
  have hsz : n * m * P * Q <= 8192 := by
    have := Nat.mul_le_mul_left (n * m) hPQ
    rw [Nat.mul_assoc (n * m) P Q]
    omega
  have hs : 0 < szF [(n : Int), m, P, Q] := by
    rw [aAw hn hm (by omega) (by omega) hsz]
    have h1 : 1 <= n * m := Nat.mul_pos hn.1 hm.1
    have h2 : 1 <= n * m * P := Nat.mul_pos h1 p1
    have h3 : 1 <= n * m * P * Q := Nat.mul_pos h2 q1
    omega
  have ht' : t < n * m * P * Q := by rw [Nat.mul_assoc (n * m) P Q]; exact ht
  obtain ⟨a, i, p, q, ha, hi, hp, hq, et⟩ := WY ht'
  have h7 := l0 (r := a) (R := n) (n := m) (i := i) ha hi
  have h8 := l0 (r := p) (R := P) (n := Q) (i := q) hp hq
  obtain ⟨_, c3, c4, c5, c6⟩ := g.cell h7 h8
  rw [GF hq, GO hq] at c3 c4 c5 c6
  have e9 : (a * m + i) * H * V = (a * m + i) * (H * V) := Nat.mul_assoc _ _ _
  have h10 : (a * m + i) * (H * V) <= n * m * (H * V) := Nat.mul_le_mul_right _ (by omega)
  have g1 : (a * m + i) * H <= (a * m + i) * H * V := Nat.le_mul_of_pos_right _ g.hV.1
  refine ⟨a, i, p, q, ha, hi, hp, hq, fun Q' hQ' => ?_, ?_, by omega, c5, fun z hz => ?_, ?_⟩
  · rw [et]
    exact aEm hs ha hi hp hq hQ'
  · rw [ix (r := a) (n := m) (i := i) (by omega), U5 (r := a * m + i) (n := H) (by omega), U5 (r := (a * m + i) * H) (n := V) (by omega)]
  · have := c4 z hz
    have h11 := l0 (r := a * m + i) (R := n * m) (n := H * V) (i := z.1.toNat) h7 (by omega)
    rw [hx]
    omega
  · rw [et, aNS hp hq]
    exact c6
theorem aNa {n m H V P Q : Nat} {k s : Int} {X : List Int} (g : PoolIn (n * m) H V P Q k s X) (hn : 1 <= n /\ n <= 4096) (hm : 1 <= m /\ m <= 4096) {K0 : List Int -> Prop} (h : K0 (tab (n * m * (P * Q)) fun t => aCl X (pF H V k s P Q t))) :
  oM k s [(n : Int), m, H, V] X [(n : Int), m, P, Q] (List.replicate (n * m * (P * Q)) 0) K0 := by
 have hx := g.hx
 have bx := g.bx
 obtain ⟨s1, s2⟩ := g.small
 have hsz : n * m * (P * Q) <= n * m * (H * V) := Nat.mul_le_mul_left _ (Nat.mul_le_mul s1 s2)
 refine ⟨⟨?_⟩⟩
 rw [List.length_replicate]
 generalize hF : (fun t => aCl X (pF H V k s P Q t)) = F at h
 generalize hT : n * m * (P * Q) = T at h hsz
 have e0 : ((0 : Int), List.replicate T (0 : Int)) = (fun i : Nat => ((i : Int), tab i F ++ List.replicate (T - i) 0)) 0 := by simp [tab]
 rw [e0]
 refine Loop.range (B := gU k s (T : Int) [(n : Int), m, H, V] X [(n : Int), m, P, Q] _) T (fun i : Nat => ((i : Int), tab i F ++ List.replicate (T - i) 0)) (fun _ => True) trivial ?_ ?_
 ·intro t ht _ Y hY
  have hY := hY trivial
  unfold gU
  rw [if_pos (decide_eq_true (show (t : Int) < (T : Int) by omega))]
  dsimp only at hY ⊢
  obtain ⟨a, i, p, q, ha, hi, hp, hq, hat, hw, wl, wn, wr, wc⟩ := aJi g hn hm (t := t) (by omega)
  refine hat _ ?_
  simp only [List.getD_cons_zero, List.getD_cons_succ]
  refine ⟨by simp, by simp, by simp, by simp, by simp, by simp, by simp, by simp, by simp, YG ⟨?_⟩⟩
  rw [hw]
  refine aOJ (by rw [aCt (by omega)]; exact ht) (aMd ht) wl (by omega) wr ?_
  rw [aA ((t : Int) + 1) (by omega) (by omega)]
  rw [<- aBs ht] at hY
  have eF : F t = aCl X ((dG H V p q k s 0).map fun z => (((a * m + i) * H * V : Nat) : Int) + z.1) := by rw [<- hF, <- wc]
  rw [eF] at hY
  exact hY
 ·intro _ Y
  unfold gU
  rw [if_neg (by simp)]
  simpa using h
theorem aMw {n m H V P Q : Nat} {k s : Int} {X : List Int} (g : PoolIn (n * m) H V P Q k s X) (hn : 1 <= n /\ n <= 4096) (hm : 1 <= m /\ m <= 4096) {K0 : List Int × List Int -> Prop} {F : Nat -> Int} (hF : F = fun t => AS X (pF H V k s P Q t)) (h : K0 (tab (n * m * (P * Q)) F, (tab (n * m * (P * Q)) F).map fun a => X.getD a.toNat 0)) :
  n8 k s ((n * m * (P * Q) : Nat) : Int) [(n : Int), m, H, V] X [(n : Int), m, P, Q] K0 (0, [], []) := by
 have hx := g.hx
 have bx := g.bx
 obtain ⟨s1, s2⟩ := g.small
 have hsz : n * m * (P * Q) <= n * m * (H * V) := Nat.mul_le_mul_left _ (Nat.mul_le_mul s1 s2)
 refine ⟨?_⟩
 generalize hT : n * m * (P * Q) = T at h hsz
 have e0 : ((0 : Int), ([] : List Int), ([] : List Int)) = (fun i : Nat => ((i : Int), tab i F, (tab i F).map fun a => X.getD a.toNat 0)) 0 := by simp [tab]
 rw [e0]
 refine Loop.range (B := gV k s (T : Int) [(n : Int), m, H, V] X [(n : Int), m, P, Q] K0) T (fun i : Nat => ((i : Int), tab i F, (tab i F).map fun a => X.getD a.toNat 0)) (fun _ => True) trivial ?_ ?_
 ·intro t ht _ Y hY
  have hY := hY trivial
  unfold gV
  rw [if_pos (decide_eq_true (show (t : Int) < (T : Int) by omega))]
  dsimp only at hY ⊢
  obtain ⟨a, i, p, q, ha, hi, hp, hq, hat, hw, wl, wn, wr, wc⟩ := aJi g hn hm (t := t) (by omega)
  refine hat _ ?_
  simp only [List.getD_cons_zero, List.getD_cons_succ]
  refine ⟨by simp, by simp, by simp, by simp, by simp, by simp, by simp, by simp, by simp, YG ⟨?_⟩⟩
  rw [hw]
  refine aO1 wn wl (by omega) wr ?_
  rw [<- wc]
  have hb : AS X (pF H V k s P Q t) ∈ pF H V k s P Q t := YS (by rw [wc]; simpa using wn)
  have hb2 : 0 <= AS X (pF H V k s P Q t) /\ AS X (pF H V k s P Q t) < (X.length : Int) := by
   rw [wc] at hb
   obtain ⟨z, hz, ez⟩ := List.mem_map.1 hb
   have := wr z hz
   rw [wc, <- ez]
   omega
  have hlt : (tab t F).length = t := by simp [tab]
  refine ⟨hb2, by simp [hlt]; omega, by simp [hlt]; omega, ?_⟩
  rw [aA ((t : Int) + 1) (by omega) (by omega)]
  rw [WJ, List.map_append] at hY
  have eF : F t = AS X (pF H V k s P Q t) := by rw [hF]
  rw [eF] at hY
  exact hY
 ·intro _ Y
  unfold gV
  rw [if_neg (by simp)]
  exact h
theorem aJu {x : T3} {k s : Int} (h : aW x = false) : plE x k s = 1 := by unfold plE; rw [if_neg (by rw [h]; simp)]
theorem WN {x : T3} {k s : Int} (h : aW x = true) : plE x k s = if (UU x.1 k s).2 = true then 0 else 2 := by
 unfold plE UU
 rw [if_pos h]
 by_cases h1 : ((x.1.length : Int) != 4) = true
 ·rw [if_pos h1, if_pos h1]; rfl
 ·rw [if_neg h1, if_neg h1]
theorem aEw {x : T3} {k s : Int} (h : (UU x.1 k s).2 = true) : (UU x.1 k s).1 = plD x k s := by
 unfold UU at h ⊢
 by_cases h1 : ((x.1.length : Int) != 4) = true
 ·rw [if_pos h1] at h; cases h
 ·rw [if_neg h1]; rfl
theorem aOY {x : T3} {k s : Int} {Q : T3 × List Int × Int -> Prop} (h : Q (VP x k s)) : tG x k s Q := by
  refine ⟨Q1 (by simp) ?_⟩
  have e1 : [x].all aW = aW x := by simp
  rw [e1]
  unfold VP at h
  cases hm : aW x with
  | false =>
    rw [aJu hm] at h
    rw [if_pos (by rfl)]
    exact h
  | true =>
    rw [if_neg (by simp)]
    refine aFK ?_
    cases hp : (UU x.1 k s).2 with
    | false =>
      rw [WN hm, hp] at h
      rw [if_pos (by rfl)]
      exact h
    | true =>
      have e : plE x k s = 0 := by rw [WN hm, hp]; rfl
      rw [e, if_neg (by simp)] at h
      rw [if_neg (by simp), aEw hp]
      obtain ⟨N, H, V, P, R, n, m, ex, eN, g, _, hb⟩ := aIU e
      unfold ZQ plN plA plD at h
      unfold plD
      rw [ex] at h ⊢
      simp only [List.getD_cons_succ, List.getD_cons_zero] at h ⊢
      rw [g.hP, g.hQ] at h ⊢
      subst eN
      have en : ((n : Int) * (m : Int)).toNat = n * m := by rw [<- Int.natCast_mul]; exact Int.toNat_natCast _
      rw [en] at h
      simp only [Int.toNat_natCast] at h
      refine RQ ?_
      obtain ⟨s1, s2⟩ := g.small
      have bx := g.bx
      obtain ⟨l1, l2, l3⟩ := g.le
      have p1 := g.p1
      have q1 := g.q1
      have hsz : n * m * P * R <= 8192 := by
        have := Nat.mul_le_mul_left (n * m) (Nat.mul_le_mul s1 s2)
        rw [Nat.mul_assoc (n * m) P R]
        omega
      rw [aAw ⟨hb.1, hb.2.1⟩ ⟨hb.2.2.1, hb.2.2.2⟩ (by omega) (by omega) hsz, Nat.mul_assoc (n * m) P R]
      exact aMw g ⟨hb.1, hb.2.1⟩ ⟨hb.2.2.1, hb.2.2.2⟩ rfl h
theorem aOR {x : T3} {k s : Int} {Q : T3 × Int -> Prop} (h : Q (aJW x k s)) : s8 x k s Q := by
  refine ⟨Q1 (by simp) ?_⟩
  have e1 : [x].all aW = aW x := by simp
  rw [e1]
  unfold aJW at h
  cases hm : aW x with
  | false =>
    rw [aJu hm] at h
    rw [if_pos (by rfl)]
    exact h
  | true =>
    rw [if_neg (by simp)]
    refine aFK ?_
    cases hp : (UU x.1 k s).2 with
    | false =>
      rw [WN hm, hp] at h
      rw [if_pos (by rfl)]
      exact h
    | true =>
      have e : plE x k s = 0 := by rw [WN hm, hp]; rfl
      rw [e, if_neg (by simp)] at h
      rw [if_neg (by simp), aEw hp]
      obtain ⟨N, H, V, P, R, n, m, ex, eN, g, _, hb⟩ := aIU e
      obtain ⟨_, _, xe, _⟩ := dY.1 hm
      have hk := g.hk
      unfold plN plA plD at h
      unfold plD
      rw [ex] at h ⊢
      simp only [List.getD_cons_succ, List.getD_cons_zero] at h ⊢
      rw [g.hP, g.hQ] at h ⊢
      subst eN
      have en : ((n : Int) * (m : Int)).toNat = n * m := by rw [<- Int.natCast_mul]; exact Int.toNat_natCast _
      rw [en] at h
      simp only [Int.toNat_natCast] at h
      refine aMp hk (aL2 ?_)
      obtain ⟨s1, s2⟩ := g.small
      have bx := g.bx
      obtain ⟨l1, l2, l3⟩ := g.le
      have p1 := g.p1
      have q1 := g.q1
      have hsz : n * m * P * R <= 8192 := by
        have := Nat.mul_le_mul_left (n * m) (Nat.mul_le_mul s1 s2)
        rw [Nat.mul_assoc (n * m) P R]
        omega
      have hz := aAw ⟨hb.1, hb.2.1⟩ ⟨hb.2.2.1, hb.2.2.2⟩ (show 1 <= P /\ P <= 4096 by omega) (show 1 <= R /\ R <= 4096 by omega) hsz
      have h1 : 1 <= n * m * P * R := Nat.mul_pos (Nat.mul_pos (Nat.mul_pos hb.1 hb.2.2.1) p1) q1
      have hle : 0 <= aEf k /\ aEf k <= 4 := by
        rcases (by omega : k = 1 \/ k = 2 \/ k = 3 \/ k = 4 \/ k = 5) with e | e | e | e | e <;> subst e <;> decide
      have hex : -128 <= IntKind.i64.wrap (x.2.1 - aEf k) /\ IntKind.i64.wrap (x.2.1 - aEf k) <= 128 := by
        rw [aA _ (by omega) (by omega)]; omega
      rw [aJp hex (by rw [hz]; omega), if_neg (by simp), hz, Int.toNat_natCast, Nat.mul_assoc (n * m) P R]
      exact aNa g ⟨hb.1, hb.2.1⟩ ⟨hb.2.2.1, hb.2.2.2⟩ h
end Go.Proofs.YtcfpfefadlnmcaaGreat
