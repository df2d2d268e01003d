/- Part of the proof. No condition. -/
import Derived.Test.YtcfpfefadlnmcaaGreatZ33
import Derived.Test.YtcfpfefadlnmcaaGreatProg
import Derived.KernelRfl
import Derived.Test.YtcfpfefadlnmcaaGreatYVJoin
import GoSem.Core.Float
import Derived.Laws.ComplexArith
import Derived.Test.YtcfpfefadlnmcaaGreatYVArg
namespace Go.Proofs.YtcfpfefadlnmcaaGreat
open Go.Mach
set_option maxRecDepth 100000
set_option linter.unusedVariables false
def qH (x1 : List Int) (x2 : Int) (K0 K1 : Unit -> Prop) (s : Int × Int) (nx : (Int × Int) -> Prop) : Prop :=
 if (decide (s.2 < x2)) = true then ck ((0 : Int) <= s.2 /\ s.2 < (x1.length : Int)) (jn (fun (v1 : Bool) => if v1 = true then K1 () else nx (IntKind.i64.wrap (s.1 * (x1.getD ((s.2).toNat) 0)), IntKind.i64.wrap (s.2 + 1))) (fun J2 => if ((decide ((x1.getD ((s.2).toNat) 0) < 1)) || (decide (4096 < (x1.getD ((s.2).toNat) 0)))) = true then J2 true else ck ((x1.getD ((s.2).toNat) 0) ≠ (0 : Int)) (J2 (decide ((IntKind.i64.wrap (((8192 : Int)).tdiv (x1.getD ((s.2).toNat) 0))) < s.1))))) else K0 ()
structure sF (x1 : List Int) (x2 : Int) (K0 K1 : Unit -> Prop) (s : Int × Int) : Prop where
 it : Go.Mach.Loop (qH x1 x2 K0 K1) s
structure bK (a0 : List Int) (Q : Bool -> Prop) : Prop where
 it : if ((decide ((a0.length : Int) < 1)) || (decide (4 < (a0.length : Int)))) = true then Q false else sF a0 (a0.length : Int) (fun (y3 : Unit) => Q true) (fun (y4 : Unit) => Q false) (1, 0)
noncomputable def FF : Ent := ⟨[3, 14, 15, 16], [sI, sZ (.int .i64), sI, sI], [], fun x k => sF x.1.2.1 x.1.2.2.1 (fun (y5 : Unit) => k (.exit 0) ⟨[], []⟩) (fun (y6 : Unit) => k .ret ⟨[(2, vB false)], []⟩) (x.1.1, x.1.2.2.2.1)⟩
noncomputable def rY : Tab := fun n => match n with | 122 => some FF | _ => none
noncomputable def t8 : Code := (bod Tryz.f47).getD .skip
noncomputable def GL : Go.Mach.Ends := aN t8 [2] []
theorem D0 : aI (m9.cfg tt none false 0) rY GL t8 := by
 intro n E hn f c hs x k h
 unfold rY at hn
 split at hn
 ·cases hn; exact aG rfl hs (by kernel_rfl) (fun y : Int × Int => ⟨[(3, vI y.1), (14, vZ (.int .i64) x.1.2.1), (15, vI x.1.2.2.1), (16, vI y.2)], []⟩) (x.1.1, x.1.2.2.2.1) (by kernel_rfl) (fun y X => by kernel_rfl) h.it
 ·cases hn
def kF : List Sh := [sZ (.int .i64)]
theorem DR (x : aM kF) (Q : QT) (h : bK x.1 (fun (r : Bool) => Q (aC [(false, .bool)] [.n] (r, ())))) : aH Tryz.prog 47 (aJ kF x) Q := m9.told [.n] (rt := [(false, .bool)]) hI0 D0 Tryz.func47 (by kernel_rfl) (by kernel_rfl) (Nat.le_of_ble_eq_true rfl) h.it (by kernel_rfl)
noncomputable def kX : Tb Tryz.prog := m9.add 47 kF DR
def tR (x1 : List Int) (x2 : Int) (K0 : Int -> Prop) (s : Int × Int) (nx : (Int × Int) -> Prop) : Prop :=
 if (decide (s.2 < x2)) = true then ck ((0 : Int) <= s.2 /\ s.2 < (x1.length : Int)) (nx (IntKind.i64.wrap (s.1 * (x1.getD ((s.2).toNat) 0)), IntKind.i64.wrap (s.2 + 1))) else K0 s.1
structure xH (x1 : List Int) (x2 : Int) (K0 : Int -> Prop) (s : Int × Int) : Prop where
 it : Go.Mach.Loop (tR x1 x2 K0) s
structure dR (a0 : List Int) (Q : Int -> Prop) : Prop where
 it : bK a0 (fun (r1 : Bool) => if (!r1) = true then Q 0 else xH a0 (a0.length : Int) (fun (y2 : Int) => Q y2) (1, 0))
noncomputable def OO : Ent := ⟨[3, 9, 10, 11], [sI, sZ (.int .i64), sI, sI], [], fun x k => xH x.1.2.1 x.1.2.2.1 (fun (y3 : Int) => k (.exit 0) ⟨[(3, vI y3)], []⟩) (x.1.1, x.1.2.2.2.1)⟩
noncomputable def wP : Tab := fun n => match n with | 122 => some OO | _ => none
noncomputable def yR : Code := (bod Tryz.f40).getD .skip
noncomputable def OS : Go.Mach.Ends := aN yR [2] []
theorem LS : aI (kX.cfg tt none false 0) wP OS yR := by
 intro n E hn f c hs x k h
 unfold wP at hn
 split at hn
 ·cases hn; exact aG rfl hs (by kernel_rfl) (fun y : Int × Int => ⟨[(3, vI y.1), (9, vZ (.int .i64) x.1.2.1), (10, vI x.1.2.2.1), (11, vI y.2)], []⟩) (x.1.1, x.1.2.2.2.1) (by kernel_rfl) (fun y X => by kernel_rfl) h.it
 ·cases hn
def oW : List Sh := [sZ (.int .i64)]
theorem JP (x : aM oW) (Q : QT) (h : dR x.1 (fun (r : Int) => Q (aC [(false, (.int .i64))] [.n] (r, ())))) : aH Tryz.prog 40 (aJ oW x) Q := kX.told [.n] (rt := [(false, (.int .i64))]) hI0 LS Tryz.func40 (by kernel_rfl) (by kernel_rfl) (Nat.le_of_ble_eq_true rfl) h.it (by kernel_rfl)
noncomputable def qP : Tb Tryz.prog := kX.add 40 oW JP
structure bB (a0 a1 a2 : Int) (Q : Bool -> Prop) : Prop where
 it : Q ((decide (a1 <= a0)) && (decide (a0 <= a2)))
noncomputable def P6 : Tab := fun n => none
noncomputable def A0 : Code := (bod Tryz.f127).getD .skip
noncomputable def QQ : Go.Mach.Ends := aN A0 [6] []
theorem OB : aI (qP.cfg tt none false 0) P6 QQ A0 := by
 intro n E hn f c hs x k h
 cases hn
def pO : List Sh := [sI, sI, sI]
theorem OV (x : aM pO) (Q : QT) (h : bB x.1 x.2.1 x.2.2.1 (fun (r : Bool) => Q (aC [(false, .bool)] [.n] (r, ())))) : aH Tryz.prog 127 (aJ pO x) Q := qP.told [.n] (rt := [(false, .bool)]) hI0 OB Tryz.func127 (by kernel_rfl) (by kernel_rfl) (Nat.le_of_ble_eq_true rfl) h.it (by kernel_rfl)
noncomputable def rX : Tb Tryz.prog := qP.add 127 pO OV
structure qM (a0 : aX) (Q : Bool -> Prop) : Prop where
 it : bB a0.1 1 8 (fun (r1 : Bool) => jn (fun (v2 : Bool) => jn (fun (v5 : Bool) => Q v5) (fun J6 => if v2 = true then bB a0.2.2 1 16 (fun (r7 : Bool) => J6 r7) else J6 false)) (fun J3 => if r1 = true then bB a0.2.1 1 16 (fun (r4 : Bool) => J3 r4) else J3 false))
noncomputable def HN : Tab := fun n => none
noncomputable def uO : Code := (bod Tryz.f126).getD .skip
noncomputable def IR : Go.Mach.Ends := aN uO [2] []
theorem FR : aI (rX.cfg tt none false 0) HN IR uO := by
 intro n E hn f c hs x k h
 cases hn
def lL : List Sh := [.agg [lI, lI, lI]]
theorem FV (x : aM lL) (Q : QT) (h : qM (x.1.1, (x.1.2.1, x.1.2.2.1)) (fun (r : Bool) => Q (aC [(false, .bool)] [.n] (r, ())))) : aH Tryz.prog 126 (aJ lL x) Q := rX.told [.n] (rt := [(false, .bool)]) hI0 FR Tryz.func126 (by kernel_rfl) (by kernel_rfl) (Nat.le_of_ble_eq_true rfl) h.it (by kernel_rfl)
noncomputable def mH : Tb Tryz.prog := rX.add 126 lL FV
structure cD  (K0 : Unit -> Prop) : Prop where
 it : K0 ()
structure iJ (x0 : Int) (x1 : Bool) (x2 : Int) (x3 : Bool) (x9 x16 : Int) (K0 : (Bool × Int) -> Prop) (K1 : Unit -> Prop) : Prop where
 it : if x3 = true then K0 (x1, x16) else if (x2 == 7) = true then bB x9 0 (IntKind.i64.wrap (x0 - 1)) (fun (r18 : Bool) => K0 (r18, x9)) else K1 ()
structure eL (x0 : Int) (x1 : Bool) (x2 : Int) (x3 : Bool) (x6 x7 x9 x13 x14 x16 : Int) (K0 : (Bool × Int × Int × Int) -> Prop) (K1 : Unit -> Prop) : Prop where
 it : if x3 = true then bB x6 1 5 (fun (r14 : Bool) => jn (fun (v15 : Bool) => K0 (v15, x6, x7, x16)) (fun J16 => if r14 = true then bB x7 1 4 (fun (r17 : Bool) => J16 r17) else J16 false)) else if (x2 == 5) = true then iJ x0 x1 x2 (x2 == 5) x9 x16 (fun (y18 : Bool × Int) => K0 (y18.1, x13, x14, y18.2)) (fun (y19 : Unit) => K1 ()) else iJ x0 x1 x2 (x2 == 6) x9 x16 (fun (y20 : Bool × Int) => K0 (y20.1, x13, x14, y20.2)) (fun (y21 : Unit) => K1 ())
structure lG (a0 : zM) (a1 : Int) (Q : Bool -> Prop) : Prop where
 it : if (a0.1 == 1) = true then bB a0.2.1 1 4096 (fun (r1 : Bool) => cD (fun (y2 : Unit) => Q (r1 && ((a0.1 == a0.1) && ((a0.2.1 == a0.2.1) && ((a0.2.2.1 == 0) && ((a0.2.2.2.1 == 0) && ((a0.2.2.2.2.1 == 0) && ((a0.2.2.2.2.2.1 == 0) && ((a0.2.2.2.2.2.2 == a0.2.2.2.2.2.2) && (true))))))))))) else if (a0.1 == 2) = true then bB a0.2.1 1 8 (fun (r3 : Bool) => jn (fun (v4 : Bool) => jn (fun (v7 : Bool) => jn (fun (v10 : Bool) => cD (fun (y13 : Unit) => Q (v10 && ((a0.1 == a0.1) && ((a0.2.1 == a0.2.1) && ((a0.2.2.1 == a0.2.2.1) && ((a0.2.2.2.1 == a0.2.2.2.1) && ((a0.2.2.2.2.1 == a0.2.2.2.2.1) && ((a0.2.2.2.2.2.1 == 0) && ((a0.2.2.2.2.2.2 == a0.2.2.2.2.2.2) && (true))))))))))) (fun J11 => if v7 = true then bB a0.2.2.2.2.1 0 (IntKind.i64.wrap (a0.2.2.1 - 1)) (fun (r12 : Bool) => J11 r12) else J11 false)) (fun J8 => if v4 = true then bB a0.2.2.2.1 1 4 (fun (r9 : Bool) => J8 r9) else J8 false)) (fun J5 => if r3 = true then bB a0.2.2.1 1 5 (fun (r6 : Bool) => J5 r6) else J5 false)) else if (a0.1 == 3) = true then eL a1 true a0.1 (a0.1 == 3) a0.2.2.1 a0.2.2.2.1 a0.2.2.2.2.2.1 0 0 0 (fun (y22 : Bool × Int × Int × Int) => cD (fun (y23 : Unit) => Q (y22.1 && ((a0.1 == a0.1) && ((a0.2.1 == 0) && ((a0.2.2.1 == y22.2.1) && ((a0.2.2.2.1 == y22.2.2.1) && ((a0.2.2.2.2.1 == 0) && ((a0.2.2.2.2.2.1 == y22.2.2.2) && ((a0.2.2.2.2.2.2 == false) && (true))))))))))) (fun (y24 : Unit) => Q false) else eL a1 true a0.1 (a0.1 == 4) a0.2.2.1 a0.2.2.2.1 a0.2.2.2.2.2.1 0 0 0 (fun (y25 : Bool × Int × Int × Int) => cD (fun (y26 : Unit) => Q (y25.1 && ((a0.1 == a0.1) && ((a0.2.1 == 0) && ((a0.2.2.1 == y25.2.1) && ((a0.2.2.2.1 == y25.2.2.1) && ((a0.2.2.2.2.1 == 0) && ((a0.2.2.2.2.2.1 == y25.2.2.2) && ((a0.2.2.2.2.2.2 == false) && (true))))))))))) (fun (y27 : Unit) => Q false)
noncomputable def B3 : Ent := ⟨[2, 5, 6], [sC (.ptr 0 0), sC (.ptr 1 0), sB], [.box [lI, lI, lI, lI, lI, lI, lB] false, .box [lI, lI, lI, lI, lI, lI, lB] false], fun x k => cD (fun (y28 : Unit) => k .ret ⟨[(4, vB (x.1.2.2.1 && ((x.2.1.1 == x.2.2.1.1) && ((x.2.1.2.1 == x.2.2.1.2.1) && ((x.2.1.2.2.1 == x.2.2.1.2.2.1) && ((x.2.1.2.2.2.1 == x.2.2.1.2.2.2.1) && ((x.2.1.2.2.2.2.1 == x.2.2.1.2.2.2.2.1) && ((x.2.1.2.2.2.2.2.1 == x.2.2.1.2.2.2.2.2.1) && ((x.2.1.2.2.2.2.2.2.1 == x.2.2.1.2.2.2.2.2.2.1) && (true))))))))))], []⟩)⟩
noncomputable def DE : Ent := ⟨[1, 2, 5, 6, 11, 61], [sI, sC (.ptr 0 0), sC (.ptr 1 0), sB, sI, sB], [.box [lI, lI, lI, lI, lI, lI, lB] false, .box [lI, lI, lI, lI, lI, lI, lB] false], fun x k => eL x.1.1 x.1.2.2.2.1 x.1.2.2.2.2.1 x.1.2.2.2.2.2.1 x.2.1.2.2.1 x.2.1.2.2.2.1 x.2.1.2.2.2.2.2.1 x.2.2.1.2.2.1 x.2.2.1.2.2.2.1 x.2.2.1.2.2.2.2.2.1 (fun (y29 : Bool × Int × Int × Int) => k .normal ⟨[(2, .ptr 0 0), (5, .ptr 1 0), (6, vB y29.1)], [.box [vI x.2.1.1, vI x.2.1.2.1, vI x.2.1.2.2.1, vI x.2.1.2.2.2.1, vI x.2.1.2.2.2.2.1, vI x.2.1.2.2.2.2.2.1, vB x.2.1.2.2.2.2.2.2.1] false, .box [vI x.2.2.1.1, vI x.2.2.1.2.1, vI y29.2.1, vI y29.2.2.1, vI x.2.2.1.2.2.2.2.1, vI y29.2.2.2, vB x.2.2.1.2.2.2.2.2.2.1] false]⟩) (fun (y30 : Unit) => k .ret ⟨[(4, vB false)], []⟩)⟩
noncomputable def C2 : Ent := ⟨[1, 2, 5, 6, 11, 78], [sI, sC (.ptr 0 0), sC (.ptr 1 0), sB, sI, sB], [.box [lI, lI, lI, lI, lI, lI, lB] false, .box [lI, lI, lI, lI, lI, lI, lB] false], fun x k => iJ x.1.1 x.1.2.2.2.1 x.1.2.2.2.2.1 x.1.2.2.2.2.2.1 x.2.1.2.2.2.2.2.1 x.2.2.1.2.2.2.2.2.1 (fun (y31 : Bool × Int) => k .normal ⟨[(2, .ptr 0 0), (5, .ptr 1 0), (6, vB y31.1)], [.box [vI x.2.1.1, vI x.2.1.2.1, vI x.2.1.2.2.1, vI x.2.1.2.2.2.1, vI x.2.1.2.2.2.2.1, vI x.2.1.2.2.2.2.2.1, vB x.2.1.2.2.2.2.2.2.1] false, .box [vI x.2.2.1.1, vI x.2.2.1.2.1, vI x.2.2.1.2.2.1, vI x.2.2.1.2.2.2.1, vI x.2.2.1.2.2.2.2.1, vI y31.2, vB x.2.2.1.2.2.2.2.2.2.1] false]⟩) (fun (y32 : Unit) => k .ret ⟨[(4, vB false)], []⟩)⟩
noncomputable def qL : Tab := fun n => match n with | 31 => some B3 | 3935 => some DE | 15743 => some C2 | _ => none
noncomputable def q9 : Code := (bod Tryz.f128).getD .skip
noncomputable def BU : Go.Mach.Ends := aN q9 [4] []
theorem BL : aI (mH.cfg tt none false 0) qL BU q9 := by
 intro n E hn f c hs x k h
 unfold qL at hn
 split at hn
 ·cases hn; exact bU hs (by kernel_rfl) (by kernel_rfl) h.it
 ·cases hn; exact bU hs (by kernel_rfl) (by kernel_rfl) h.it
 ·cases hn; exact bU hs (by kernel_rfl) (by kernel_rfl) h.it
 ·cases hn
def iS : List Sh := [.agg [lI, lI, lI, lI, lI, lI, lB], sI]
theorem A5 (x : aM iS) (Q : QT) (h : lG (x.1.1, (x.1.2.1, (x.1.2.2.1, (x.1.2.2.2.1, (x.1.2.2.2.2.1, (x.1.2.2.2.2.2.1, x.1.2.2.2.2.2.2.1)))))) x.2.1 (fun (r : Bool) => Q (aC [(false, .bool)] [.n] (r, ())))) : aH Tryz.prog 128 (aJ iS x) Q := mH.told [.n] (rt := [(false, .bool)]) hI0 BL Tryz.func128 (by kernel_rfl) (by kernel_rfl) (Nat.le_of_ble_eq_true rfl) h.it (by kernel_rfl)
noncomputable def jA : Tb Tryz.prog := mH.add 128 iS A5
def dL (x0 : List zM) (x1 : Int) (K0 K1 : Unit -> Prop) (s : Int) (nx : Int -> Prop) : Prop :=
 if (decide (s < x1)) = true then ck ((0 : Int) <= s /\ s < (x0.length : Int)) (lG (x0.getD ((s).toNat) (0, (0, (0, (0, (0, (0, false))))))) s (fun (r5 : Bool) => if (!r5) = true then K1 () else nx (IntKind.i64.wrap (s + 1)))) else K0 ()
structure qA (x0 : List zM) (x1 : Int) (K0 K1 : Unit -> Prop) (s : Int) : Prop where
 it : Go.Mach.Loop (dL x0 x1 K0 K1) s
structure lO (a0 : VC) (Q : Bool -> Prop) : Prop where
 it : qM a0.1 (fun (r1 : Bool) => jn (fun (v2 : Bool) => if v2 = true then Q false else qA a0.2 (a0.2.length : Int) (fun (y6 : Unit) => Q true) (fun (y7 : Unit) => Q false) 0) (fun J3 => if (!r1) = true then J3 true else bB (a0.2.length : Int) 1 12 (fun (r4 : Bool) => J3 (!r4))))
noncomputable def CB : Ent := ⟨[17, 18, 19], [sZ mF, sI, sI], [], fun x k => qA x.1.1 x.1.2.1 (fun (y8 : Unit) => k (.exit 0) ⟨[], []⟩) (fun (y9 : Unit) => k .ret ⟨[(2, vB false)], []⟩) x.1.2.2.1⟩
noncomputable def p9 : Tab := fun n => match n with | 58 => some CB | _ => none
noncomputable def q7 : Code := (bod Tryz.f77).getD .skip
noncomputable def CD : Go.Mach.Ends := aN q7 [2] []
theorem A9 : aI (jA.cfg tt none false 0) p9 CD q7 := by
 intro n E hn f c hs x k h
 unfold p9 at hn
 split at hn
 ·cases hn; exact aG rfl hs (by kernel_rfl) (fun y : Int => ⟨[(17, vZ mF x.1.1), (18, vI x.1.2.1), (19, vI y)], []⟩) x.1.2.2.1 (by kernel_rfl) (fun y X => by kernel_rfl) h.it
 ·cases hn
def iL : List Sh := [.agg [lI, lI, lI, lZ mF]]
theorem BG (x : aM iL) (Q : QT) (h : lO ((x.1.1, (x.1.2.1, x.1.2.2.1)), x.1.2.2.2.1) (fun (r : Bool) => Q (aC [(false, .bool)] [.n] (r, ())))) : aH Tryz.prog 77 (aJ iL x) Q := jA.told [.n] (rt := [(false, .bool)]) hI0 A9 Tryz.func77 (by kernel_rfl) (by kernel_rfl) (Nat.le_of_ble_eq_true rfl) h.it (by kernel_rfl)
noncomputable def jE : Tb Tryz.prog := jA.add 77 iL BG
structure eX (a0 a1 a2 a3 : Int) (Q : Int -> Prop) : Prop where
 it : if (((((((((decide (a0 < 1)) || (decide (16 < a0))) || (decide (a1 < 1))) || (decide (5 < a1))) || (decide (a2 < 1))) || (decide (4 < a2))) || (decide (a3 < 0))) || (decide (a1 <= a3))) || (decide ((IntKind.i64.wrap (a0 + (IntKind.i64.wrap (2 * a3)))) < a1))) = true then Q 0 else ck (a2 ≠ (0 : Int)) (Q (IntKind.i64.wrap ((IntKind.i64.wrap ((IntKind.i64.wrap ((IntKind.i64.wrap (a0 + (IntKind.i64.wrap (2 * a3)))) - a1)).tdiv a2)) + 1)))
noncomputable def PA : Tab := fun n => none
noncomputable def AR : Code := (bod Tryz.f174).getD .skip
noncomputable def Q6 : Go.Mach.Ends := aN AR [8] []
theorem N9 : aI (jE.cfg tt none false 0) PA Q6 AR := by
 intro n E hn f c hs x k h
 cases hn
def qE : List Sh := [sI, sI, sI, sI]
theorem ON (x : aM qE) (Q : QT) (h : eX x.1 x.2.1 x.2.2.1 x.2.2.2.1 (fun (r : Int) => Q (aC [(false, (.int .i64))] [.n] (r, ())))) : aH Tryz.prog 174 (aJ qE x) Q := jE.told [.n] (rt := [(false, (.int .i64))]) hI0 N9 Tryz.func174 (by kernel_rfl) (by kernel_rfl) (Nat.le_of_ble_eq_true rfl) h.it (by kernel_rfl)
noncomputable def rJ : Tb Tryz.prog := jE.add 174 qE ON
structure dA (a0 a1 a2 a3 a4 : Int) (Q : (Int × Int) -> Prop) : Prop where
 it : eX a0 a2 a3 a4 (fun (r1 : Int) => eX a1 a2 a3 a4 (fun (r2 : Int) => Q (r1, r2)))
noncomputable def I8 : Tab := fun n => none
noncomputable def vL : Code := (bod Tryz.f115).getD .skip
noncomputable def I2 : Go.Mach.Ends := aN vL [10, 11] []
theorem F7 : aI (rJ.cfg tt none false 0) I8 I2 vL := by
 intro n E hn f c hs x k h
 cases hn
def kV : List Sh := [sI, sI, sI, sI, sI]
theorem E7 (x : aM kV) (Q : QT) (h : dA x.1 x.2.1 x.2.2.1 x.2.2.2.1 x.2.2.2.2.1 (fun (r : Int × Int) => Q (aC [(false, (.int .i64)), (false, (.int .i64))] [.n, .n] (r.1, (r.2, ()))))) : aH Tryz.prog 115 (aJ kV x) Q := rJ.told [.n, .n] (rt := [(false, (.int .i64)), (false, (.int .i64))]) hI0 F7 Tryz.func115 (by kernel_rfl) (by kernel_rfl) (Nat.le_of_ble_eq_true rfl) h.it (by kernel_rfl)
noncomputable def nD : Tb Tryz.prog := rJ.add 115 kV E7
def d7 (x0 x1 : List Int) (x2 : Int) (K0 K1 : Unit -> Prop) (s : Int) (nx : Int -> Prop) : Prop :=
 if (decide (s < x2)) = true then ck ((0 : Int) <= s /\ s < (x0.length : Int)) (ck ((0 : Int) <= s /\ s < (x1.length : Int)) (if ((x0.getD ((s).toNat) 0) != (x1.getD ((s).toNat) 0)) = true then K1 () else nx (IntKind.i64.wrap (s + 1)))) else K0 ()
structure rA (x0 x1 : List Int) (x2 : Int) (K0 K1 : Unit -> Prop) (s : Int) : Prop where
 it : Go.Mach.Loop (d7 x0 x1 x2 K0 K1) s
structure aO (a0 a1 : List Int) (Q : Bool -> Prop) : Prop where
 it : if ((a0.length : Int) != (a1.length : Int)) = true then Q false else rA a0 a1 (a0.length : Int) (fun (y1 : Unit) => Q true) (fun (y2 : Unit) => Q false) 0
noncomputable def DW : Ent := ⟨[0, 1, 12, 13], [sZ (.int .i64), sZ (.int .i64), sI, sI], [], fun x k => rA x.1.1 x.1.2.1 x.1.2.2.1 (fun (y3 : Unit) => k (.exit 0) ⟨[], []⟩) (fun (y4 : Unit) => k .ret ⟨[(4, vB false)], []⟩) x.1.2.2.2.1⟩
noncomputable def q5 : Tab := fun n => match n with | 58 => some DW | _ => none
noncomputable def sQ : Code := (bod Tryz.f20).getD .skip
noncomputable def DY : Go.Mach.Ends := aN sQ [4] []
theorem C3 : aI (nD.cfg tt none false 0) q5 DY sQ := by
 intro n E hn f c hs x k h
 unfold q5 at hn
 split at hn
 ·cases hn; exact aG rfl hs (by kernel_rfl) (fun y : Int => ⟨[(0, vZ (.int .i64) x.1.1), (1, vZ (.int .i64) x.1.2.1), (12, vI x.1.2.2.1), (13, vI y)], []⟩) x.1.2.2.2.1 (by kernel_rfl) (fun y X => by kernel_rfl) h.it
 ·cases hn
def jB : List Sh := [sZ (.int .i64), sZ (.int .i64)]
theorem DA (x : aM jB) (Q : QT) (h : aO x.1 x.2.1 (fun (r : Bool) => Q (aC [(false, .bool)] [.n] (r, ())))) : aH Tryz.prog 20 (aJ jB x) Q := nD.told [.n] (rt := [(false, .bool)]) hI0 C3 Tryz.func20 (by kernel_rfl) (by kernel_rfl) (Nat.le_of_ble_eq_true rfl) h.it (by kernel_rfl)
noncomputable def jW : Tb Tryz.prog := nD.add 20 jB DA
structure bV (x0 x1 : Int) (K0 : Bool -> Prop) : Prop where
 it : K0 ((decide (0 < x0)) && (decide (0 < x1)))
def fD (x1 : List Int) (x2 : Int) (K0 : Int -> Prop) (s : Int × Int) (nx : (Int × Int) -> Prop) : Prop :=
 if (decide (s.2 < x2)) = true then ck ((0 : Int) <= s.2 /\ s.2 < (x1.length : Int)) (nx (IntKind.i64.wrap (s.1 * (x1.getD ((s.2).toNat) 0)), IntKind.i64.wrap (s.2 + 1))) else K0 s.1
structure dS (x1 : List Int) (x2 : Int) (K0 : Int -> Prop) (s : Int × Int) : Prop where
 it : Go.Mach.Loop (fD x1 x2 K0) s
structure p7 (a0 : zM) (a1 : List Int) (a2 : List (List Int)) (Q : ((List Int) × Bool) -> Prop) : Prop where
 it : if (a0.1 == 1) = true then Q ([a0.2.1], (a1.length : Int) == 1) else if (a0.1 == 2) = true then if (a0.1 == 2) = true then if ((a1.length : Int) != 3) = true then Q (([] : List Int), false) else ck ((0 : Int) <= 1 /\ 1 < (a1.length : Int)) (ck ((0 : Int) <= 2 /\ 2 < (a1.length : Int)) (dA (a1.getD 1 0) (a1.getD 2 0) a0.2.2.1 a0.2.2.2.1 a0.2.2.2.2.1 (fun (r1 : Int × Int) => ck ((0 : Int) <= 0 /\ 0 < (a1.length : Int)) (if (a0.1 == 2) = true then bV r1.1 r1.2 (fun (y2 : Bool) => Q ([a0.2.1, r1.1, r1.2], y2)) else bV r1.1 r1.2 (fun (y3 : Bool) => Q ([(a1.getD 0 0), r1.1, r1.2], y3)))))) else if (a0.1 == 6) = true then dS a1 (a1.length : Int) (fun (y4 : Int) => Q ([y4], true)) (1, 0) else if (a0.1 == 7) = true then ck (a1.length * 8 <= 140737488355328) (ck ((0 : Int) <= a0.2.2.2.2.2.1 /\ a0.2.2.2.2.2.1 < (a2.length : Int)) (aO a1 (a2.getD ((a0.2.2.2.2.2.1).toNat) []) (fun (r5 : Bool) => Q (a1, r5)))) else ck (a1.length * 8 <= 140737488355328) (Q (a1, true)) else if (a0.1 == 3) = true then if (a0.1 == 3) = true then if ((a1.length : Int) != 3) = true then Q (([] : List Int), false) else ck ((0 : Int) <= 1 /\ 1 < (a1.length : Int)) (ck ((0 : Int) <= 2 /\ 2 < (a1.length : Int)) (dA (a1.getD 1 0) (a1.getD 2 0) a0.2.2.1 a0.2.2.2.1 a0.2.2.2.2.1 (fun (r6 : Int × Int) => ck ((0 : Int) <= 0 /\ 0 < (a1.length : Int)) (if (a0.1 == 2) = true then bV r6.1 r6.2 (fun (y7 : Bool) => Q ([a0.2.1, r6.1, r6.2], y7)) else bV r6.1 r6.2 (fun (y8 : Bool) => Q ([(a1.getD 0 0), r6.1, r6.2], y8)))))) else if (a0.1 == 6) = true then dS a1 (a1.length : Int) (fun (y9 : Int) => Q ([y9], true)) (1, 0) else if (a0.1 == 7) = true then ck (a1.length * 8 <= 140737488355328) (ck ((0 : Int) <= a0.2.2.2.2.2.1 /\ a0.2.2.2.2.2.1 < (a2.length : Int)) (aO a1 (a2.getD ((a0.2.2.2.2.2.1).toNat) []) (fun (r10 : Bool) => Q (a1, r10)))) else ck (a1.length * 8 <= 140737488355328) (Q (a1, true)) else if (a0.1 == 4) = true then if ((a1.length : Int) != 3) = true then Q (([] : List Int), false) else ck ((0 : Int) <= 1 /\ 1 < (a1.length : Int)) (ck ((0 : Int) <= 2 /\ 2 < (a1.length : Int)) (dA (a1.getD 1 0) (a1.getD 2 0) a0.2.2.1 a0.2.2.2.1 a0.2.2.2.2.1 (fun (r11 : Int × Int) => ck ((0 : Int) <= 0 /\ 0 < (a1.length : Int)) (if (a0.1 == 2) = true then bV r11.1 r11.2 (fun (y12 : Bool) => Q ([a0.2.1, r11.1, r11.2], y12)) else bV r11.1 r11.2 (fun (y13 : Bool) => Q ([(a1.getD 0 0), r11.1, r11.2], y13)))))) else if (a0.1 == 6) = true then dS a1 (a1.length : Int) (fun (y14 : Int) => Q ([y14], true)) (1, 0) else if (a0.1 == 7) = true then ck (a1.length * 8 <= 140737488355328) (ck ((0 : Int) <= a0.2.2.2.2.2.1 /\ a0.2.2.2.2.2.1 < (a2.length : Int)) (aO a1 (a2.getD ((a0.2.2.2.2.2.1).toNat) []) (fun (r15 : Bool) => Q (a1, r15)))) else ck (a1.length * 8 <= 140737488355328) (Q (a1, true))
noncomputable def JC : Ent := ⟨[8, 9, 10], [sI, sI, sI], [], fun x k => bV x.1.1 x.1.2.1 (fun (y16 : Bool) => k .ret ⟨[(6, .own 0), (7, vB y16)], [.lst true (.int .i64) [x.1.2.2.1, x.1.1, x.1.2.1] false]⟩)⟩
noncomputable def IA : Ent := ⟨[11, 67, 68, 69], [sI, sZ (.int .i64), sI, sI], [], fun x k => dS x.1.2.1 x.1.2.2.1 (fun (y17 : Int) => k (.exit 1) ⟨[(11, vI y17)], []⟩) (x.1.1, x.1.2.2.2.1)⟩
noncomputable def uA : Tab := fun n => match n with | 6895 => some JC | 27626 => some IA | _ => none
noncomputable def uS : Code := (bod Tryz.f78).getD .skip
noncomputable def G7 : Go.Mach.Ends := aN uS [6, 7] []
theorem FU : aI (jW.cfg tt none false 0) uA G7 uS := by
 intro n E hn f c hs x k h
 unfold uA at hn
 split at hn
 ·cases hn; exact bU hs (by kernel_rfl) (by kernel_rfl) h.it
 ·cases hn; exact aG rfl hs (by kernel_rfl) (fun y : Int × Int => ⟨[(11, vI y.1), (67, vZ (.int .i64) x.1.2.1), (68, vI x.1.2.2.1), (69, vI y.2)], []⟩) (x.1.1, x.1.2.2.2.1) (by kernel_rfl) (fun y X => by kernel_rfl) h.it
 ·cases hn
def kQ : List Sh := [.agg [lI, lI, lI, lI, lI, lI, lB], sZ (.int .i64), sZ (.slc (.int .i64))]
theorem E9 (x : aM kQ) (Q : QT) (h : p7 (x.1.1, (x.1.2.1, (x.1.2.2.1, (x.1.2.2.2.1, (x.1.2.2.2.2.1, (x.1.2.2.2.2.2.1, x.1.2.2.2.2.2.2.1)))))) x.2.1 x.2.2.1 (fun (r : (List Int) × Bool) => Q (aC [(false, (.slc (.int .i64))), (false, .bool)] [.n, .n] (r.1, (r.2, ()))))) : aH Tryz.prog 78 (aJ kQ x) Q := jW.told [.n, .n] (rt := [(false, (.slc (.int .i64))), (false, .bool)]) hI0 FU Tryz.func78 (by kernel_rfl) (by kernel_rfl) (Nat.le_of_ble_eq_true rfl) h.it (by kernel_rfl)
noncomputable def mL : Tb Tryz.prog := jW.add 78 kQ E9
def eM (x0 : List zM) (x1 : Int) (K0 : (List (List Int)) -> Prop) (K1 : (Int × Int) -> Prop) (s : Int × List (List Int)) (nx : (Int × List (List Int)) -> Prop) : Prop :=
 if (decide (s.1 < x1)) = true then ck ((0 : Int) <= s.1 /\ s.1 < (x0.length : Int)) (ck ((0 : Int) <= s.1 /\ s.1 < (s.2.length : Int)) (p7 (x0.getD ((s.1).toNat) (0, (0, (0, (0, (0, (0, false))))))) (s.2.getD ((s.1).toNat) []) s.2 (fun (r2 : (List Int) × Bool) => if (!r2.2) = true then K1 (IntKind.i64.wrap (s.1 + 1), 2) else bK r2.1 (fun (r3 : Bool) => if (!r3) = true then K1 (IntKind.i64.wrap (s.1 + 1), 1) else ck ((s.2.length + [r2.1].length) * 24 <= 140737488355328) (nx (IntKind.i64.wrap (s.1 + 1), s.2 ++ [r2.1])))))) else K0 s.2
structure sL (x0 : List zM) (x1 : Int) (K0 : (List (List Int)) -> Prop) (K1 : (Int × Int) -> Prop) (s : Int × List (List Int)) : Prop where
 it : Go.Mach.Loop (eM x0 x1 K0 K1) s
structure iY (a0 : VC) (Q : ((List (List Int)) × Int × Int) -> Prop) : Prop where
 it : lO a0 (fun (r1 : Bool) => if (!r1) = true then Q (([] : List (List Int)), 0, 1) else sL a0.2 (a0.2.length : Int) (fun (y4 : List (List Int)) => Q (y4, 0, 0)) (fun (y5 : Int × Int) => Q (([] : List (List Int)), y5.1, y5.2)) (0, [[a0.1.1, a0.1.2.1, a0.1.2.2]]))
noncomputable def GC : Ent := ⟨[5, 25, 26, 27], [sC (.own 0), sZ mF, sI, sI], [.lst true (.slc (.int .i64)) false], fun x k => sL x.1.2.1 x.1.2.2.1 (fun (y6 : List (List Int)) => k (.exit 0) ⟨[(5, .own 0)], [.lst true (.slc (.int .i64)) y6 false]⟩) (fun (y7 : Int × Int) => k .ret ⟨[(2, .pl (.slice none 0 0)), (3, vI y7.1), (4, vI y7.2)], []⟩) (x.1.2.2.2.1, x.2.1)⟩
noncomputable def sO : Tab := fun n => match n with | 122 => some GC | _ => none
noncomputable def tS : Code := (bod Tryz.f39).getD .skip
noncomputable def FC : Go.Mach.Ends := aN tS [2, 3, 4] []
theorem EB : aI (mL.cfg tt none false 0) sO FC tS := by
 intro n E hn f c hs x k h
 unfold sO at hn
 split at hn
 ·cases hn; exact aG rfl hs (by kernel_rfl) (fun y : Int × List (List Int) => ⟨[(5, .own 0), (25, vZ mF x.1.2.1), (26, vI x.1.2.2.1), (27, vI y.1)], [.lst true (.slc (.int .i64)) y.2 false]⟩) (x.1.2.2.2.1, x.2.1) (by kernel_rfl) (fun y X => by kernel_rfl) h.it
 ·cases hn
def j6 : List Sh := [.agg [lI, lI, lI, lZ mF]]
theorem DX (x : aM j6) (Q : QT) (h : iY ((x.1.1, (x.1.2.1, x.1.2.2.1)), x.1.2.2.2.1) (fun (r : (List (List Int)) × Int × Int) => Q (aC [(false, (.slc (.slc (.int .i64)))), (false, (.int .i64)), (false, (.int .i64))] [.n, .n, .n] (r.1, (r.2.1, (r.2.2, ())))))) : aH Tryz.prog 39 (aJ j6 x) Q := mL.told [.n, .n, .n] (rt := [(false, (.slc (.slc (.int .i64)))), (false, (.int .i64)), (false, (.int .i64))]) hI0 EB Tryz.func39 (by kernel_rfl) (by kernel_rfl) (Nat.le_of_ble_eq_true rfl) h.it (by kernel_rfl)
noncomputable def lK : Tb Tryz.prog := mL.add 39 j6 DX
structure rO (a0 : zM) (a1 : List Int) (Q : ((List Int) × Int) -> Prop) : Prop where
 it : if (a0.1 == 1) = true then ck ((0 : Int) <= 0 /\ 0 < (a1.length : Int)) (Q ([a0.2.1, a1.getD 0 0], a0.2.1)) else if (a0.1 == 2) = true then ck ((0 : Int) <= 0 /\ 0 < (a1.length : Int)) (Q ([a0.2.1, a1.getD 0 0, a0.2.2.1, a0.2.2.1], a0.2.1)) else Q (([] : List Int), 0)
noncomputable def KK : Tab := fun n => none
noncomputable def xA : Code := (bod Tryz.f46).getD .skip
noncomputable def M8 : Go.Mach.Ends := aN xA [4, 5] []
theorem IJ : aI (lK.cfg tt none false 0) KK M8 xA := by
 intro n E hn f c hs x k h
 cases hn
def mV : List Sh := [.agg [lI, lI, lI, lI, lI, lI, lB], sZ (.int .i64)]
theorem HI (x : aM mV) (Q : QT) (h : rO (x.1.1, (x.1.2.1, (x.1.2.2.1, (x.1.2.2.2.1, (x.1.2.2.2.2.1, (x.1.2.2.2.2.2.1, x.1.2.2.2.2.2.2.1)))))) x.2.1 (fun (r : (List Int) × Int) => Q (aC [(false, (.slc (.int .i64))), (false, (.int .i64))] [.n, .n] (r.1, (r.2, ()))))) : aH Tryz.prog 46 (aJ mV x) Q := lK.told [.n, .n] (rt := [(false, (.slc (.int .i64))), (false, (.int .i64))]) hI0 IJ Tryz.func46 (by kernel_rfl) (by kernel_rfl) (Nat.le_of_ble_eq_true rfl) h.it (by kernel_rfl)
noncomputable def oZ : Tb Tryz.prog := lK.add 46 mV HI
structure rR (a0 : VC) (a1 : Int) (Q : ((List Int) × Int) -> Prop) : Prop where
 it : iY a0 (fun (r1 : (List (List Int)) × Int × Int) => if (((r1.2.2 != 0) || (decide (a1 < 1))) || (decide ((a0.2.length : Int) < a1))) = true then Q (([] : List Int), 0) else ck ((0 : Int) <= (IntKind.i64.wrap (a1 - 1)) /\ (IntKind.i64.wrap (a1 - 1)) < (a0.2.length : Int)) (ck ((0 : Int) <= (IntKind.i64.wrap (a1 - 1)) /\ (IntKind.i64.wrap (a1 - 1)) < (r1.1.length : Int)) (rO (a0.2.getD ((IntKind.i64.wrap (a1 - 1)).toNat) (0, (0, (0, (0, (0, (0, false))))))) (r1.1.getD ((IntKind.i64.wrap (a1 - 1)).toNat) []) (fun (r2 : (List Int) × Int) => bK r2.1 (fun (r3 : Bool) => if (!r3) = true then Q (([] : List Int), 0) else Q (r2.1, r2.2))))))
noncomputable def JU : Tab := fun n => none
noncomputable def w9 : Code := (bod Tryz.f19).getD .skip
noncomputable def MR : Go.Mach.Ends := aN w9 [4, 5] []
theorem HM : aI (oZ.cfg tt none false 0) JU MR w9 := by
 intro n E hn f c hs x k h
 cases hn
def nM : List Sh := [.agg [lI, lI, lI, lZ mF], sI]
theorem HC (x : aM nM) (Q : QT) (h : rR ((x.1.1, (x.1.2.1, x.1.2.2.1)), x.1.2.2.2.1) x.2.1 (fun (r : (List Int) × Int) => Q (aC [(false, (.slc (.int .i64))), (false, (.int .i64))] [.n, .n] (r.1, (r.2, ()))))) : aH Tryz.prog 19 (aJ nM x) Q := oZ.told [.n, .n] (rt := [(false, (.slc (.int .i64))), (false, (.int .i64))]) hI0 HM Tryz.func19 (by kernel_rfl) (by kernel_rfl) (Nat.le_of_ble_eq_true rfl) h.it (by kernel_rfl)
noncomputable def nX : Tb Tryz.prog := oZ.add 19 nM HC
def fX (x0 : Int) (x4 x7 : List Int) (K0 K1 : Unit -> Prop) (s : Int) (nx : Int -> Prop) : Prop :=
 if (decide (s < x0)) = true then ck ((0 : Int) <= s /\ s < (x4.length : Int)) (ck ((0 : Int) <= s /\ s < (x7.length : Int)) (if ((x4.getD ((s).toNat) 0) != (x7.getD ((s).toNat) 0)) = true then K1 () else nx (IntKind.i64.wrap (s + 1)))) else K0 ()
structure uU (x0 : Int) (x4 x7 : List Int) (K0 K1 : Unit -> Prop) (s : Int) : Prop where
 it : Go.Mach.Loop (fX x0 x4 x7 K0 K1) s
structure rH (a0 a1 : aR) (Q : Bool -> Prop) : Prop where
 it : aO a0.1 a1.1 (fun (r1 : Bool) => if (((!r1) || (a0.2.1 != a1.2.1)) || ((a0.2.2.length : Int) != (a1.2.2.length : Int))) = true then Q false else uU (a0.2.2.length : Int) a0.2.2 a1.2.2 (fun (y2 : Unit) => Q true) (fun (y3 : Unit) => Q false) 0)
noncomputable def KH : Ent := ⟨[2, 3, 30, 31], [sC (.ptr 0 0), sC (.ptr 1 0), sI, sI], [.box [lZ (.int .i64), lI, lZ (.int .i8)] false, .box [lZ (.int .i64), lI, lZ (.int .i8)] false], fun x k => uU x.1.2.2.1 x.2.1.2.2.1 x.2.2.1.2.2.1 (fun (y4 : Unit) => k (.exit 0) ⟨[], []⟩) (fun (y5 : Unit) => k .ret ⟨[(4, vB false)], []⟩) x.1.2.2.2.1⟩
noncomputable def vA : Tab := fun n => match n with | 58 => some KH | _ => none
noncomputable def xD : Code := (bod Tryz.f37).getD .skip
noncomputable def MX : Go.Mach.Ends := aN xD [4] []
theorem I4 : aI (nX.cfg tt none false 0) vA MX xD := by
 intro n E hn f c hs x k h
 unfold vA at hn
 split at hn
 ·cases hn; exact aG rfl hs (by kernel_rfl) (fun y : Int => ⟨[(2, .ptr 0 0), (3, .ptr 1 0), (30, vI x.1.2.2.1), (31, vI y)], [.box [vZ (.int .i64) x.2.1.1, vI x.2.1.2.1, vZ (.int .i8) x.2.1.2.2.1] false, .box [vZ (.int .i64) x.2.2.1.1, vI x.2.2.1.2.1, vZ (.int .i8) x.2.2.1.2.2.1] false]⟩) x.1.2.2.2.1 (by kernel_rfl) (fun y X => by kernel_rfl) h.it
 ·cases hn
def l9 : List Sh := [.agg [lZ (.int .i64), lI, lZ (.int .i8)], .agg [lZ (.int .i64), lI, lZ (.int .i8)]]
theorem GX (x : aM l9) (Q : QT) (h : rH (x.1.1, (x.1.2.1, x.1.2.2.1)) (x.2.1.1, (x.2.1.2.1, x.2.1.2.2.1)) (fun (r : Bool) => Q (aC [(false, .bool)] [.n] (r, ())))) : aH Tryz.prog 37 (aJ l9 x) Q := nX.told [.n] (rt := [(false, .bool)]) hI0 I4 Tryz.func37 (by kernel_rfl) (by kernel_rfl) (Nat.le_of_ble_eq_true rfl) h.it (by kernel_rfl)
noncomputable def oH : Tb Tryz.prog := nX.add 37 l9 GX
end Go.Proofs.YtcfpfefadlnmcaaGreat

namespace Go.Mach
set_option linter.unusedVariables false
set_option linter.unusedSimpArgs false
theorem aEp (a b : Int) : IntKind.i64.wrap (IntKind.i64.wrap a + b) = IntKind.i64.wrap (a + b) := by
 simp only [IntKind.wrap, IntKind.bits, IntKind.signed]; simp; omega
theorem aEa (a b : Int) : IntKind.i32.wrap (IntKind.i32.wrap a + b) = IntKind.i32.wrap (a + b) := by
 simp only [IntKind.wrap, IntKind.bits, IntKind.signed]; simp; omega
theorem aEd (a b : Int) : IntKind.i32.wrap (a + IntKind.i32.wrap b) = IntKind.i32.wrap (a + b) := by
 simp only [IntKind.wrap, IntKind.bits, IntKind.signed]; simp; omega
theorem aJy (a : Int) : IntKind.i32.wrap (IntKind.i64.wrap a) = IntKind.i32.wrap a := by
 simp only [IntKind.wrap, IntKind.bits, IntKind.signed]; simp; omega
def cE (g : Nat -> Int) : Nat -> Int
 | 0 => 0
 | n + 1 => cE g n + g n
theorem QA {f g : Nat -> Int} {n : Nat} (h : ∀ i, i < n -> f i = g i) : cE f n = cE g n := by
 induction n with
 | zero => rfl
 | succ n ih => simp only [cE]; rw [ih fun i hi => h i (by omega), h n (by omega)]
theorem aJ5 {f : Nat -> Int} {n : Nat} (h : ∀ i, i < n -> f i = 0) : cE f n = 0 := by
 induction n with
 | zero => rfl
 | succ n ih => simp only [cE]; rw [ih fun i hi => h i (by omega), h n (by omega)]; rfl
theorem aKq (f g : Nat -> Int) (n : Nat) : cE (fun i => f i + g i) n = cE f n + cE g n := by
 induction n with
 | zero => rfl
 | succ n ih => simp only [cE]; rw [ih]; omega
theorem aHF (g : Nat -> Int) (B : Int) (n : Nat) (h : ∀ i, i < n -> -B <= g i /\ g i <= B) : -(B * n) <= cE g n /\ cE g n <= B * n := by
  induction n with
  | zero => simp [cE]
  | succ n ih =>
    have h1 := ih fun i hi => h i (by omega)
    have h2 := h n (by omega)
    have e : B * ((n + 1 : Nat) : Int) = B * n + B := by rw [Int.natCast_add, Int.mul_add]; simp
    simp only [cE]
    omega
theorem aKh (f : Nat -> Int) (n m : Nat) : cE f (n + m) = cE f n + cE (fun i => f (n + i)) m := by
 induction m with
 | zero => simp [cE]
 | succ m ih => rw [<- Nat.add_assoc]; simp only [cE]; rw [ih]; omega
def WA {α : Type} (l : List α) (f : α -> Int) : Int := (l.map f).sum
theorem YW {α : Type} (a : α) (l : List α) (f : α -> Int) : WA (a :: l) f = f a + WA l f := by simp [WA]
theorem aJ2 {α : Type} (l : List α) (f : α -> Nat -> Int) (n : Nat) : WA l (fun a => cE (f a) n) = cE (fun i => WA l (fun a => f a i)) n := by
 induction l with
 | nil => exact (aJ5 fun _ _ => rfl).symm
 | cons a l ih => rw [YW, ih, <- aKq]; exact QA fun i _ => (YW a l (fun a => f a i)).symm
theorem RK {α : Type} (l : List α) (f : α -> Int) (d : α) : WA l f = cE (fun i => f (l.getD i d)) l.length := by
  induction l with
  | nil => rfl
  | cons a l ih =>
    rw [YW, ih, List.length_cons, Nat.add_comm, aKh]
    simp only [cE, List.getD_cons_zero, Int.zero_add]
    congr 1
    exact QA fun i _ => by rw [Nat.add_comm, List.getD_cons_succ]
def tab (n : Nat) (f : Nat -> Int) : List Int := (List.range n).map f
@[simp] theorem tab_len (n : Nat) (f : Nat -> Int) : (tab n f).length = n := by simp [tab]
theorem aN3 {n : Nat} {f : Nat -> Int} {y : Int} (h : y ∈ tab n f) : ∃ i, i < n /\ f i = y := by
 unfold tab at h
 simpa only [List.mem_map, List.mem_range] using h
theorem aHa {n i : Nat} (f : Nat -> Int) (h : i < n) : (tab n f).getD i 0 = f i := by
 unfold tab
 rw [List.getD_eq_getElem?_getD, List.getElem?_map, List.getElem?_range h]; rfl
theorem aFx {l m : List Int} (hl : l.length = m.length) (h : ∀ i, i < l.length -> l.getD i 0 = m.getD i 0) : l = m := by
 refine List.ext_getElem hl fun i h1 h2 => ?_
 have := h i h1
 rwa [List.getD_eq_getElem?_getD, List.getElem?_eq_getElem h1, List.getD_eq_getElem?_getD, List.getElem?_eq_getElem h2] at this
theorem aBb {α : Type} {l : List α} {i j : Nat} {v d : α} (hi : i < l.length) : (l.set i v).getD j d = if i = j then v else l.getD j d := by
 rw [List.getD_eq_getElem?_getD, List.getElem?_set]
 by_cases h : i = j
 ·subst h; rw [if_pos rfl, if_pos rfl, if_pos hi]; rfl
 ·rw [if_neg h, if_neg h, List.getD_eq_getElem?_getD]
theorem C8 {l : List Int} {i : Nat} (h : i < l.length) : l.getD i 0 ∈ l := by
 rw [List.getD_eq_getElem?_getD, List.getElem?_eq_getElem h]; exact List.getElem_mem h
theorem aBY {α : Type} {l : List α} {p : α -> Bool} {i : Nat} {d : α} (hi : i < l.length) : (l.take (i + 1)).all p = ((l.take i).all p && p (l.getD i d)) := by
 rw [List.take_add_one, List.all_append, List.getD_eq_getElem?_getD, List.getElem?_eq_getElem hi]
 simp
theorem aJY {α : Type} {l : List α} {p : α -> Bool} {i : Nat} {d : α} (hi : i < l.length) (h : p (l.getD i d) = false) : l.all p = false := by
 rw [List.all_eq_false]
 refine ⟨l[i], List.getElem_mem hi, ?_⟩
 rw [List.getD_eq_getElem?_getD, List.getElem?_eq_getElem hi] at h
 simp only [Option.getD_some] at h
 rw [h]; simp
theorem l0 {r R n i : Nat} (h1 : r < R) (h2 : i < n) : r * n + i < R * n := by
 have : (r + 1) * n <= R * n := Nat.mul_le_mul_right n h1
 rw [Nat.add_mul, Nat.one_mul] at this
 omega
theorem GF {r n i : Nat} (h : i < n) : (r * n + i) / n = r := by
 rw [Nat.mul_comm, Nat.mul_add_div (by omega), Nat.div_eq_of_lt h]; rfl
theorem GO {r n i : Nat} (h : i < n) : (r * n + i) % n = i := by
 rw [Nat.mul_comm, Nat.mul_add_mod, Nat.mod_eq_of_lt h]
theorem aJF {r n i r' i' : Nat} (h : i < n) (h' : i' < n) (e : r * n + i = r' * n + i') : r = r' /\ i = i' := by
 have h1 := GF (r := r) h
 have h2 := GO (r := r) h
 rw [e] at h1 h2
 rw [GF h'] at h1
 rw [GO h'] at h2
 exact ⟨h1.symm, h2.symm⟩
def ix4 (O P Q m o p q : Nat) : Nat := ((m * O + o) * P + p) * Q + q
theorem aB1 {n O P Q m o p q : Nat} (hm : m < n) (ho : o < O) (hp : p < P) (hq : q < Q) : ix4 O P Q m o p q < n * O * P * Q := l0 (l0 (l0 hm ho) hp) hq
theorem aJb {O P Q m o p q m' o' p' q' : Nat} (ho : o < O) (hp : p < P) (hq : q < Q) (ho' : o' < O) (hp' : p' < P) (hq' : q' < Q) (e : ix4 O P Q m o p q = ix4 O P Q m' o' p' q') : m = m' /\ o = o' /\ p = p' /\ q = q' := by
 obtain ⟨e1, e2⟩ := aJF hq hq' e
 obtain ⟨e3, e4⟩ := aJF hp hp' e1
 obtain ⟨e5, e6⟩ := aJF ho ho' e3
 exact ⟨e5, e6, e4, e2⟩
theorem V5 {n k t : Nat} (h : t < n * k) : t / k < n /\ t % k < k /\ t = t / k * k + t % k := by
 have hk : 0 < k := by
  rcases Nat.eq_zero_or_pos k with e | e
  ·rw [e, Nat.mul_zero] at h; omega
  ·exact e
 refine ⟨by rw [Nat.div_lt_iff_lt_mul hk]; exact h, Nat.mod_lt _ hk, ?_⟩
 rw [Nat.mul_comm]; exact (Nat.div_add_mod t k).symm
theorem WY {n O P Q t : Nat} (h : t < n * O * P * Q) : ∃ m o p q, m < n /\ o < O /\ p < P /\ q < Q /\ t = ix4 O P Q m o p q := by
 obtain ⟨a1, a2, a3⟩ := V5 h
 obtain ⟨b1, b2, b3⟩ := V5 a1
 obtain ⟨c1, c2, c3⟩ := V5 b1
 exact ⟨_, _, _, _, c1, c2, b2, a2, by unfold ix4; rw [<- c3, <- b3, <- a3]⟩
def aH3 (n O P Q : Nat) (cell : Nat -> Nat -> Nat -> Nat -> Int) : List Int := tab (n * O * P * Q) fun t => cell (t / Q / P / O) (t / Q / P % O) (t / Q % P) (t % Q)
theorem aLA (n O P Q : Nat) (cell : Nat -> Nat -> Nat -> Nat -> Int) : (aH3 n O P Q cell).length = n * O * P * Q := by simp [aH3]
theorem aMU {n O P Q m o p q : Nat} {cell : Nat -> Nat -> Nat -> Nat -> Int} (hm : m < n) (ho : o < O) (hp : p < P) (hq : q < Q) : (aH3 n O P Q cell).getD (ix4 O P Q m o p q) 0 = cell m o p q := by
 unfold aH3
 rw [aHa _ (aB1 hm ho hp hq)]
 unfold ix4
 rw [GF hq, GF hp, GF ho, GO hq, GO hp, GO ho]
structure Fill (n O P Q : Nat) (cell : Nat -> Nat -> Nat -> Nat -> Int) (C : Nat -> Nat -> Nat -> Nat -> Prop) (L : List Int) : Prop where
 len : L.length = n * O * P * Q
 tell : ∀ m o p q, m < n -> o < O -> p < P -> q < Q -> C m o p q -> L.getD (ix4 O P Q m o p q) 0 = cell m o p q
theorem Fill.mono {n O P Q : Nat} {cell : Nat -> Nat -> Nat -> Nat -> Int} {C C' : Nat -> Nat -> Nat -> Nat -> Prop} {L : List Int} (h : Fill n O P Q cell C L) (hc : ∀ m o p q, m < n -> o < O -> p < P -> q < Q -> C' m o p q -> C m o p q) : Fill n O P Q cell C' L :=
 ⟨h.len, fun m o p q hm ho hp hq hC => h.tell m o p q hm ho hp hq (hc m o p q hm ho hp hq hC)⟩
theorem Fill.set {n O P Q : Nat} {cell : Nat -> Nat -> Nat -> Nat -> Int} {C C' : Nat -> Nat -> Nat -> Nat -> Prop} {L : List Int} (h : Fill n O P Q cell C L) {m0 o0 p0 q0 : Nat} (hm : m0 < n) (ho : o0 < O) (hp : p0 < P) (hq : q0 < Q)
  {v : Int} (hv : v = cell m0 o0 p0 q0) (hc : ∀ m o p q, m < n -> o < O -> p < P -> q < Q -> C' m o p q -> C m o p q \/ (m = m0 /\ o = o0 /\ p = p0 /\ q = q0)) : Fill n O P Q cell C' (L.set (ix4 O P Q m0 o0 p0 q0) v) := by
 have hlt := aB1 hm ho hp hq
 refine ⟨by rw [List.length_set]; exact h.len, fun m o p q hm' ho' hp' hq' hC => ?_⟩
 rw [aBb (by rw [h.len]; exact hlt)]
 by_cases e : ix4 O P Q m0 o0 p0 q0 = ix4 O P Q m o p q
 ·rw [if_pos e]
  obtain ⟨e1, e2, e3, e4⟩ := aJb ho hp hq ho' hp' hq' e
  rw [hv, e1, e2, e3, e4]
 ·rw [if_neg e]
  rcases hc m o p q hm' ho' hp' hq' hC with g | ⟨rfl, rfl, rfl, rfl⟩
  ·exact h.tell m o p q hm' ho' hp' hq' g
  ·exact absurd rfl e
theorem aKm {n O P Q : Nat} {L M : List Int} (hl : L.length = n * O * P * Q) (hm : M.length = n * O * P * Q) (h : ∀ m o p q, m < n -> o < O -> p < P -> q < Q -> L.getD (ix4 O P Q m o p q) 0 = M.getD (ix4 O P Q m o p q) 0) : L = M := by
 refine aFx (by omega) fun t ht => ?_
 obtain ⟨m, o, p, q, h1, h2, h3, h4, rfl⟩ := WY (hl ▸ ht)
 exact h m o p q h1 h2 h3 h4
theorem Fill.all {n O P Q : Nat} {cell : Nat -> Nat -> Nat -> Nat -> Int} {C : Nat -> Nat -> Nat -> Nat -> Prop} {L : List Int} (h : Fill n O P Q cell C L) (hC : ∀ m o p q, m < n -> o < O -> p < P -> q < Q -> C m o p q) : L = aH3 n O P Q cell :=
 aKm h.len (aLA _ _ _ _ _) fun m o p q hm ho hp hq => by rw [aMU hm ho hp hq, h.tell m o p q hm ho hp hq (hC m o p q hm ho hp hq)]
theorem Loop.rangeI {S : Type} {B : S -> (S -> Prop) -> Prop} (n : Nat) (I : Nat -> S -> Prop) {s0 : S} (h0 : I 0 s0) (step : ∀ i, i < n -> ∀ s, I i s -> ∀ X, (∀ s', I (i + 1) s' -> X s') -> B s X) (last : ∀ s, I n s -> ∀ X, B s X) : Loop B s0 := by
 refine Loop.inv (n := n) (fun m s => ∃ i, i + m = n /\ I i s) ⟨0, by omega, h0⟩ ?_
 rintro m s X ⟨i, hi, hI⟩ hX
 by_cases h : i < n
 ·exact step i h s hI X fun s' hI' => hX (m - 1) s' (by omega) ⟨i + 1, by omega, hI'⟩
 ·have : i = n := by omega
  subst this
  exact last s hI X
theorem Loop.all {α : Type} {B : Int -> (Int -> Prop) -> Prop} (l : List α) (p : α -> Bool) {K0 K1 : Prop}
    (step : ∀ i (h : i < l.length) X, (p l[i] = true -> X ((i + 1 : Nat) : Int)) -> (p l[i] = false -> K1) -> B (i : Int) X) (last : K0 -> ∀ X, B (l.length : Int) X)
    (h : if l.all p = true then K0 else K1) : Loop B 0 := by
  refine Loop.range (B := B) (f := fun i : Nat => (i : Int)) l.length (fun i => ∀ j (hj : j < i) (hl : j < l.length), p l[j] = true) (fun j hj => absurd hj (by omega)) ?_ ?_
  · intro i hi hI X hX
    refine step i hi X (fun hp => hX fun j hj hl => ?_) (fun hp => ?_)
    · by_cases e : j = i
      · subst e; exact hp
      · exact hI j (by omega) hl
    · have : ¬ l.all p = true := by
        rw [List.all_eq_true]
        intro ha
        have := ha _ (List.getElem_mem hi)
        rw [hp] at this; cases this
      rwa [if_neg this] at h
  · intro hI X
    refine last ?_ X
    have : l.all p = true := by
      rw [List.all_eq_true]
      intro a ha
      obtain ⟨j, hj, rfl⟩ := List.getElem_of_mem ha
      exact hI j hj hj
    rwa [if_pos this] at h
end Go.Mach

namespace Go.Fl
open Ieee
set_option maxRecDepth 100000
set_option linter.unusedVariables false
set_option linter.unusedSimpArgs false
def sg (s : Bool) (m : Nat) : Int := if s = true then -(m : Int) else (m : Int)
def sX (d : Datum) (n : Int) : Prop := ∃ s m e, d = .number s m e /\ sg s m * 2 ^ e.toNat = n * 2 ^ (-e).toNat
def BK (x : Nat) (n : Int) : Prop := sX (double.read x) n
theorem pw (a : Nat) : ((2 ^ a : Nat) : Int) = 2 ^ a := by rw [Int.natCast_pow]; rfl
theorem aOm (s : Bool) (m : Nat) : (sg s m).natAbs = m := by
 unfold sg; split <;> omega
theorem aEy (n : Int) : sg (decide (n < 0)) n.natAbs = n := by
 unfold sg
 by_cases h : n < 0
 ·rw [decide_eq_true h, if_pos rfl]; omega
 ·rw [decide_eq_false h, if_neg (by simp)]; omega
theorem aBW {s : Bool} {m : Nat} {e n : Int} (h : sg s m * 2 ^ e.toNat = n * 2 ^ (-e).toNat) : m * 2 ^ e.toNat = n.natAbs * 2 ^ (-e).toNat := by
 have := congrArg Int.natAbs h
 rw [Int.natAbs_mul, Int.natAbs_mul, aOm, <- pw, <- pw, Int.natAbs_natCast, Int.natAbs_natCast] at this
 exact this
theorem aBp (m p : Nat) (hm : m ≠ 0) : (m * 2 ^ p).log2 = m.log2 + p := by
 have hp : 0 < 2 ^ p := Nat.pow_pos (by omega)
 rw [Nat.log2_eq_iff (Nat.mul_ne_zero hm (by omega))]
 have h1 := Nat.log2_self_le hm
 have h2 := @Nat.lt_log2_self m
 constructor
 ·rw [Nat.pow_add]; exact Nat.mul_le_mul_right _ h1
 ·rw [show m.log2 + p + 1 = (m.log2 + 1) + p by omega, Nat.pow_add]; exact Nat.mul_lt_mul_of_pos_right h2 hp
theorem aKQ {neg : Bool} {K M : Nat} (hK : K <= 52) (h1 : 2 ^ 52 <= M) (h2 : M < 2 ^ 53) : double.read (double.word neg ((K + 1022) * 2 ^ 52 + M)) = .number neg M ((K : Int) - 52) := by
  have hr1 : (K + 1022) * 2 ^ 52 + M < 2 ^ 63 := by omega
  have e1 : double.word neg ((K + 1022) * 2 ^ 52 + M) % double.signWeight = (K + 1022) * 2 ^ 52 + M := by
    unfold Format.word
    show _ % 2 ^ 63 = _
    cases neg with
    | true => rw [if_pos rfl]; show (2 ^ 63 + _) % 2 ^ 63 = _; omega
    | false => rw [if_neg (by simp)]; omega
  have e2 : (double.word neg ((K + 1022) * 2 ^ 52 + M) / double.signWeight % 2 == 1) = neg := by
    unfold Format.word
    show (_ / 2 ^ 63 % 2 == 1) = _
    cases neg with
    | true =>
      rw [if_pos rfl]
      show ((2 ^ 63 + _) / 2 ^ 63 % 2 == 1) = true
      rw [show (2 ^ 63 + ((K + 1022) * 2 ^ 52 + M)) / 2 ^ 63 = 1 by omega]
      rfl
    | false =>
      rw [if_neg (by simp), show ((K + 1022) * 2 ^ 52 + M) / 2 ^ 63 = 0 by omega]
      rfl
  have e3 : double.binade = 2 ^ 52 := rfl
  have e4 : double.infRung = 2047 * 2 ^ 52 := by decide
  have e5 : double.leastPlace = -1074 := by decide
  unfold Format.read
  rw [e1, e2, e3, e4, e5]
  simp only
  rw [if_neg (by omega), if_pos (by omega)]
  have d1 : ((K + 1022) * 2 ^ 52 + M) / 2 ^ 52 = K + 1023 := by omega
  have d2 : ((K + 1022) * 2 ^ 52 + M) % 2 ^ 52 = M - 2 ^ 52 := by omega
  rw [d1, d2, show 2 ^ 52 + (M - 2 ^ 52) = M by omega, show (-1074 : Int) + ((K + 1023 - 1 : Nat) : Int) = (K : Int) - 52 by omega]
theorem YI {neg : Bool} {low drop : Nat} {way : Toward} : way.cut neg (low * 2 ^ drop) drop = low := by
 unfold Toward.cut
 by_cases h0 : low = 0
 ·subst h0
  rw [Nat.zero_mul]
  have hg : 0 < 1 <<< min drop (Nat.log2 0 + 2) := by rw [Nat.shiftLeft_eq, Nat.one_mul]; exact Nat.pow_pos (by omega)
  generalize 1 <<< min drop (Nat.log2 0 + 2) = g at hg
  simp only [Nat.zero_div, Nat.zero_mod]
  cases way <;> simp <;> omega
 ·have hp : 0 < 2 ^ drop := Nat.pow_pos (by omega)
  have hl : min drop ((low * 2 ^ drop).log2 + 2) = drop := by
   rw [aBp low drop h0]; omega
  rw [hl, Nat.shiftLeft_eq, Nat.one_mul]
  simp only [Nat.mul_div_cancel _ hp, Nat.mul_mod_left]
  cases way <;> simp <;> omega
theorem LV {d : Datum} {n : Int} (h : sX d n) (hn : n.natAbs < 2 ^ 53) : BK (double.write d) n := by
  obtain ⟨s, m, e, rfl, he⟩ := h
  have ha := aBW he
  have hpe : 0 < 2 ^ e.toNat := Nat.pow_pos (by omega)
  have hpe' : 0 < 2 ^ (-e).toNat := Nat.pow_pos (by omega)
  unfold BK
  show sX (double.read (double.nearest s m e)) n
  unfold Format.nearest
  by_cases hm : m = 0
  · rw [if_pos hm]
    subst hm
    have hn0 : n = 0 := by
      rw [Nat.zero_mul] at ha
      have : n.natAbs = 0 := (Nat.mul_eq_zero.1 ha.symm).resolve_right (by omega)
      omega
    subst hn0
    have : double.read (double.word s 0) = .number s 0 (-1074) := by cases s <;> decide +kernel
    rw [this]
    refine ⟨s, 0, -1074, rfl, ?_⟩
    rw [show sg s 0 = 0 by cases s <;> rfl, Int.zero_mul, Int.zero_mul]
  · rw [if_neg hm]
    have hn0 : n.natAbs ≠ 0 := by
      intro h0
      rw [h0, Nat.zero_mul] at ha
      exact hm ((Nat.mul_eq_zero.1 ha).resolve_right (by omega))
    obtain ⟨N, hN⟩ : ∃ N, n.natAbs = N := ⟨_, rfl⟩
    rw [hN] at ha hn hn0
    obtain ⟨K, hKe⟩ : ∃ K, N.log2 = K := ⟨_, rfl⟩
    have hK : K <= 52 := by
      have := (Nat.log2_lt hn0).2 hn
      omega
    have hlog : (m.log2 : Int) + e = K := by
      have := congrArg Nat.log2 ha
      rw [aBp m _ hm, aBp N _ hn0] at this
      omega
    have hf : (double.fractionBits : Int) = 52 := rfl
    have e5 : double.leastPlace = -1074 := by decide
    have hlast : max (e + m.log2 - double.fractionBits) double.leastPlace = (K : Int) - 52 := by
      rw [hf, e5]; omega
    simp only
    rw [hlast]
    have hkept : Toward.even.cut s (m <<< (e - ((K : Int) - 52)).toNat) ((K : Int) - 52 - e).toNat = N * 2 ^ (52 - K) := by
      rw [Nat.shiftLeft_eq]
      by_cases hc : (K : Int) - 52 <= e
      · rw [show ((K : Int) - 52 - e).toNat = 0 by omega]
        have e1 : m * 2 ^ (e - ((K : Int) - 52)).toNat = N * 2 ^ (52 - K) := by
          have hp : 0 < 2 ^ (-e).toNat := hpe'
          apply Nat.eq_of_mul_eq_mul_right hp
          rw [Nat.mul_assoc, Nat.mul_assoc, <- Nat.pow_add, Nat.mul_comm (2 ^ (52 - K)), <- Nat.mul_assoc, <- ha, Nat.mul_assoc, <- Nat.pow_add]
          congr 2
          omega
        rw [e1]
        have := @YI s (N * 2 ^ (52 - K)) 0 .even
        rw [Nat.pow_zero, Nat.mul_one] at this
        exact this
      · rw [show (e - ((K : Int) - 52)).toNat = 0 by omega, Nat.pow_zero, Nat.mul_one]
        have e1 : m = N * 2 ^ (52 - K) * 2 ^ ((K : Int) - 52 - e).toNat := by
          have h0 : e.toNat = 0 := by omega
          rw [h0, Nat.pow_zero, Nat.mul_one] at ha
          rw [ha, Nat.mul_assoc, <- Nat.pow_add]
          congr 2
          omega
        rw [e1]
        exact YI
    rw [hkept, e5, show ((K : Int) - 52 - -1074).toNat = K + 1022 by omega]
    have b1 : 2 ^ 52 <= N * 2 ^ (52 - K) := by
      have := Nat.mul_le_mul_right (2 ^ (52 - K)) (Nat.log2_self_le hn0)
      rw [hKe, <- Nat.pow_add, show K + (52 - K) = 52 by omega] at this
      exact this
    have b2 : N * 2 ^ (52 - K) < 2 ^ 53 := by
      have := Nat.mul_lt_mul_of_pos_right (@Nat.lt_log2_self N) (show 0 < 2 ^ (52 - K) from Nat.pow_pos (by omega))
      rw [hKe, <- Nat.pow_add, show K + 1 + (52 - K) = 53 by omega] at this
      exact this
    have hmin : min ((K + 1022) * double.binade + N * 2 ^ (52 - K)) double.infRung = (K + 1022) * 2 ^ 52 + N * 2 ^ (52 - K) := by
      rw [show double.binade = 2 ^ 52 from rfl, show double.infRung = 2047 * 2 ^ 52 by decide]
      generalize N * 2 ^ (52 - K) = M at b1 b2 ⊢
      exact Nat.min_eq_left (by omega)
    rw [hmin, aKQ hK b1 b2]
    refine ⟨s, _, _, rfl, ?_⟩
    have hs : sg s (N * 2 ^ (52 - K)) = n * 2 ^ (52 - K) := by
      have hp : (0 : Int) < 2 ^ e.toNat := Int.pow_pos (by omega)
      have hp' : (0 : Int) < 2 ^ (-e).toNat := Int.pow_pos (by omega)
      unfold sg at he ⊢
      rw [Int.natCast_mul, pw]
      cases s with
      | true =>
        rw [if_pos rfl] at he ⊢
        have hneg : n < 0 := by
          have h1 : (-(m : Int)) * 2 ^ e.toNat < 0 := Int.mul_neg_of_neg_of_pos (by omega) hp
          rw [he] at h1
          rcases Int.lt_or_le n 0 with h | h
          · exact h
          · have := Int.mul_nonneg h (Int.le_of_lt hp'); omega
        rw [<- Int.neg_mul, show -(N : Int) = n by omega]
      | false =>
        rw [if_neg (by simp)] at he ⊢
        have hpos : 0 <= n := by
          have h1 : 0 <= (m : Int) * 2 ^ e.toNat := Int.mul_nonneg (by omega) (Int.le_of_lt hp)
          rw [he] at h1
          rcases Int.lt_or_le n 0 with h | h
          · have := Int.mul_neg_of_neg_of_pos h hp'; omega
          · exact h
        rw [show (N : Int) = n by omega]
    rw [hs, show ((K : Int) - 52).toNat = 0 by omega, show (-((K : Int) - 52)).toNat = 52 - K by omega, Int.pow_zero, Int.mul_one]
theorem aIL {s : Bool} {m : Nat} {e n : Int} (he : sg s m * 2 ^ e.toNat = n * 2 ^ (-e).toNat) : sg s n.natAbs = n := by
  have hp : (0 : Int) < 2 ^ e.toNat := Int.pow_pos (by omega)
  have hp' : (0 : Int) < 2 ^ (-e).toNat := Int.pow_pos (by omega)
  unfold sg at he ⊢
  cases s with
  | true =>
    rw [if_pos rfl] at he ⊢
    have h1 : (-(m : Int)) * 2 ^ e.toNat <= 0 := Int.mul_nonpos_of_nonpos_of_nonneg (by omega) (Int.le_of_lt hp)
    rw [he] at h1
    rcases Int.lt_or_le 0 n with h | h
    · have := Int.mul_pos h hp'; omega
    · omega
  | false =>
    rw [if_neg (by simp)] at he ⊢
    have h1 : 0 <= (m : Int) * 2 ^ e.toNat := Int.mul_nonneg (by omega) (Int.le_of_lt hp)
    rw [he] at h1
    rcases Int.lt_or_le n 0 with h | h
    · have := Int.mul_neg_of_neg_of_pos h hp'; omega
    · omega
theorem JL (s : Bool) (m up : Nat) : signed s m up = sg s m * 2 ^ up := by
 unfold signed sg
 rw [Nat.shiftLeft_eq, Int.natCast_mul, pw]
 cases s <;> simp [Int.neg_mul]
theorem shift {S a i base : Int} (h : S * 2 ^ i.toNat = a * 2 ^ (-i).toNat) (hb : base <= i) : S * 2 ^ (i - base).toNat * 2 ^ base.toNat = a * 2 ^ (-base).toNat := by
 rw [Int.mul_assoc, <- Int.pow_add]
 by_cases h0 : 0 <= base
 ·rw [show (-base).toNat = 0 by omega, show (i - base).toNat + base.toNat = i.toNat by omega, h, show (-i).toNat = 0 by omega]
 ·rw [show base.toNat = 0 by omega, Nat.add_zero]
  by_cases h1 : 0 <= i
  ·rw [show (i - base).toNat = i.toNat + (-base).toNat by omega, Int.pow_add, <- Int.mul_assoc, h, show (-i).toNat = 0 by omega, Int.pow_zero, Int.mul_one]
  ·rw [show i.toNat = 0 by omega, Int.pow_zero, Int.mul_one] at h
   rw [h, Int.mul_assoc, <- Int.pow_add, show (-i).toNat + (i - base).toNat = (-base).toNat by omega]
theorem aI4 (n : Int) : sX (.number (decide (n < 0)) n.natAbs 0) n := ⟨_, _, _, rfl, by rw [aEy]; rfl⟩
theorem aJB {d : Datum} {n : Int} (h : sX d n) : sX d.opposite (-n) := by
 obtain ⟨s, m, e, rfl, he⟩ := h
 refine ⟨!s, m, e, rfl, ?_⟩
 have : sg (!s) m = -sg s m := by cases s <;> simp [sg]
 rw [this, Int.neg_mul, Int.neg_mul, he]
theorem aDG {d d' : Datum} {a b : Int} (h : sX d a) (h' : sX d' b) : ∃ r, d.sum d' = some r /\ sX r (a + b) := by
 obtain ⟨s, m, i, rfl, h1⟩ := h
 obtain ⟨t, n, j, rfl, h2⟩ := h'
 refine ⟨_, rfl, _, _, _, rfl, ?_⟩
 rw [JL, JL]
 have k1 := shift h1 (show min i j <= i by omega)
 have k2 := shift h2 (show min i j <= j by omega)
 generalize min i j = base at k1 k2 ⊢
 have hs : ∀ x : Int, sg (if x = 0 then s && t else decide (x < 0)) x.natAbs = x := by
  intro x
  by_cases h0 : x = 0
  ·subst h0; simp [sg]
  ·rw [if_neg h0]; exact aEy x
 rw [hs, Int.add_mul, k1, k2, <- Int.add_mul]
theorem aDT {d d' : Datum} {a b : Int} (h : sX d a) (h' : sX d' b) : ∃ r, d.product d' = some r /\ sX r (a * b) := by
 obtain ⟨s, m, i, rfl, h1⟩ := h
 obtain ⟨t, n, j, rfl, h2⟩ := h'
 refine ⟨_, rfl, _, _, _, rfl, ?_⟩
 have hs : sg (s ^^ t) (m * n) = sg s m * sg t n := by
  unfold sg
  rw [Int.natCast_mul]
  cases s <;> cases t <;> simp [Int.neg_mul, Int.mul_neg]
 rw [hs]
 generalize sg s m = S at h1 ⊢
 generalize sg t n = T at h2 ⊢
 have hp : (2 : Int) ^ ((-i).toNat + (-j).toNat) ≠ 0 := Int.ne_of_gt (Int.pow_pos (by omega))
 apply Int.eq_of_mul_eq_mul_right hp
 have e1 : S * T * 2 ^ (i.toNat + j.toNat) = a * b * 2 ^ ((-i).toNat + (-j).toNat) := by
  rw [Int.pow_add, Int.pow_add]
  calc S * T * (2 ^ i.toNat * 2 ^ j.toNat) = (S * 2 ^ i.toNat) * (T * 2 ^ j.toNat) := by ac_rfl
   _ = (a * 2 ^ (-i).toNat) * (b * 2 ^ (-j).toNat) := by rw [h1, h2]
   _ = a * b * (2 ^ (-i).toNat * 2 ^ (-j).toNat) := by ac_rfl
 rw [Int.mul_assoc, <- Int.pow_add, show (i + j).toNat + ((-i).toNat + (-j).toNat) = (i.toNat + j.toNat) + (-(i + j)).toNat by omega, Int.pow_add, <- Int.mul_assoc, e1]
 ac_rfl
theorem aGP {d d' : Datum} {a b : Int} (h : sX d a) (h' : sX d' b) : d.order d' = some (compare a b) := by
 obtain ⟨s, m, i, rfl, h1⟩ := h
 obtain ⟨t, n, j, rfl, h2⟩ := h'
 show some (compare (signed s m (i - min i j).toNat) (signed t n (j - min i j).toNat)) = _
 rw [JL, JL]
 have k1 := shift h1 (show min i j <= i by omega)
 have k2 := shift h2 (show min i j <= j by omega)
 generalize min i j = base at k1 k2 ⊢
 generalize sg s m * 2 ^ (i - base).toNat = x at k1 ⊢
 generalize sg t n * 2 ^ (j - base).toNat = y at k2 ⊢
 have hp : (0 : Int) < 2 ^ base.toNat := Int.pow_pos (by omega)
 have hp' : (0 : Int) < 2 ^ (-base).toNat := Int.pow_pos (by omega)
 have hlt : x < y ↔ a < b := by
  constructor
  ·intro h
   have := Int.mul_lt_mul_of_pos_right h hp
   rw [k1, k2] at this
   exact Int.lt_of_mul_lt_mul_right this (Int.le_of_lt hp')
  ·intro h
   have := Int.mul_lt_mul_of_pos_right h hp'
   rw [<- k1, <- k2] at this
   exact Int.lt_of_mul_lt_mul_right this (Int.le_of_lt hp)
 have heq : x = y ↔ a = b := by
  constructor
  ·intro h
   rw [h, k2] at k1
   exact (Int.eq_of_mul_eq_mul_right (Int.ne_of_gt hp') k1).symm
  ·intro h
   rw [h, <- k2] at k1
   exact Int.eq_of_mul_eq_mul_right (Int.ne_of_gt hp) k1
 congr 1
 show compareOfLessAndEq x y = compareOfLessAndEq a b
 unfold compareOfLessAndEq
 simp only [hlt, heq]
theorem aG4 {d : Datum} {n : Int} (h : sX d n) : d.toInt .zero = some n := by
 obtain ⟨s, m, e, rfl, he⟩ := h
 show some (signed s (Toward.zero.cut s (m <<< e.toNat) (-e).toNat) 0) = _
 rw [Nat.shiftLeft_eq, aBW he, YI, JL, Int.pow_zero, Int.mul_one, aIL he]
theorem aC3 {n : Int} (hn : n.natAbs < 2 ^ 53) : BK (FloatKind.f64.nearest n) n := LV (aI4 n) hn
theorem aBa {x y : Nat} {a b : Int} (h : BK x a) (h' : BK y b) (hn : (a + b).natAbs < 2 ^ 53) : ∃ r, double.add x y = some r /\ BK r (a + b) := by
 obtain ⟨d, h1, h2⟩ := aDG h h'
 exact ⟨_, by unfold Format.add; rw [h1]; rfl, LV h2 hn⟩
theorem aC1 {x y : Nat} {a b : Int} (h : BK x a) (h' : BK y b) (hn : (a - b).natAbs < 2 ^ 53) : ∃ r, double.sub x y = some r /\ BK r (a - b) := by
 obtain ⟨d, h1, h2⟩ := aDG h (aJB h')
 exact ⟨_, by unfold Format.sub; rw [h1]; rfl, LV (by rw [Int.sub_eq_add_neg]; exact h2) hn⟩
theorem VG {x y : Nat} {a b : Int} (h : BK x a) (h' : BK y b) (hn : (a * b).natAbs < 2 ^ 53) : ∃ r, double.mul x y = some r /\ BK r (a * b) := by
 obtain ⟨d, h1, h2⟩ := aDT h h'
 exact ⟨_, by unfold Format.mul; rw [h1]; rfl, LV h2 hn⟩
theorem aI7 {x y : Nat} {a b : Int} (h : BK x a) (h' : BK y b) : double.order x y = some (compare a b) := aGP h h'
theorem aIg {x : Nat} {a : Int} (h : BK x a) : (double.read x).toInt .zero = some a := aG4 h
def NV (z : Nat × Nat) (a b : Int) : Prop := BK z.1 a /\ BK z.2 b
theorem aKo {x y : Nat × Nat} {a b c d : Int} (h : NV x a b) (h' : NV y c d) (h1 : (a + c).natAbs < 2 ^ 53) (h2 : (b + d).natAbs < 2 ^ 53) : ∃ r, cSumBits .add .f64 x.1 x.2 y.1 y.2 = some r /\ NV r (a + c) (b + d) := by
 obtain ⟨u, u1, u2⟩ := aBa h.1 h'.1 h1
 obtain ⟨v, v1, v2⟩ := aBa h.2 h'.2 h2
 refine ⟨(u, v), ?_, u2, v2⟩
 have e1 : floatBits .add .f64 x.1 y.1 = some u := u1
 have e2 : floatBits .add .f64 x.2 y.2 = some v := v1
 unfold cSumBits
 rw [e1, e2]
 rfl
theorem aKx {x y : Nat × Nat} {a b c d : Int} (h : NV x a b) (h' : NV y c d) (h1 : (a - c).natAbs < 2 ^ 53) (h2 : (b - d).natAbs < 2 ^ 53) : ∃ r, cSumBits .sub .f64 x.1 x.2 y.1 y.2 = some r /\ NV r (a - c) (b - d) := by
 obtain ⟨u, u1, u2⟩ := aC1 h.1 h'.1 h1
 obtain ⟨v, v1, v2⟩ := aC1 h.2 h'.2 h2
 refine ⟨(u, v), ?_, u2, v2⟩
 have e1 : floatBits .sub .f64 x.1 y.1 = some u := u1
 have e2 : floatBits .sub .f64 x.2 y.2 = some v := v1
 unfold cSumBits
 rw [e1, e2]
 rfl
theorem aKn {x y : Nat × Nat} {a b c d : Int} (h : NV x a b) (h' : NV y c d) (h1 : (a * c).natAbs < 2 ^ 52) (h2 : (b * d).natAbs < 2 ^ 52) (h3 : (a * d).natAbs < 2 ^ 52) (h4 : (b * c).natAbs < 2 ^ 52) :
  ∃ r, cMulBits x.1 x.2 y.1 y.2 = some r /\ NV r (a * c - b * d) (a * d + b * c) := by
 obtain ⟨p, p1, p2⟩ := VG h.1 h'.1 (by omega)
 obtain ⟨q, q1, q2⟩ := VG h.2 h'.2 (by omega)
 obtain ⟨u, u1, u2⟩ := aC1 p2 q2 (by omega)
 obtain ⟨s, s1, s2⟩ := VG h.1 h'.2 (by omega)
 obtain ⟨t, t1, t2⟩ := VG h.2 h'.1 (by omega)
 obtain ⟨v, v1, v2⟩ := aBa s2 t2 (by omega)
 refine ⟨(u, v), ?_, u2, v2⟩
 have e1 : floatBits .mul .f64 x.1 y.1 = some p := p1
 have e2 : floatBits .mul .f64 x.2 y.2 = some q := q1
 have e3 : floatBits .sub .f64 p q = some u := u1
 have e4 : floatBits .mul .f64 x.1 y.2 = some s := s1
 have e5 : floatBits .mul .f64 x.2 y.1 = some t := t1
 have e6 : floatBits .add .f64 s t = some v := v1
 unfold cMulBits
 simp only [e1, e2, e3, e4, e5, e6, Option.bind_some]
theorem TW {n : Int} (hn : n.natAbs < 2 ^ 53) : BK (floatOfInt .f64 n) n := aC3 hn
theorem aGn {x : Nat} {n : Int} (h : BK x n) (h1 : -9223372036854775808 <= n) (h2 : n <= 9223372036854775807) : floatToIntVal .f64 x .i64 = some n := by
  unfold floatToIntVal
  have : (FloatKind.f64.decode x).toInt .zero = some n := aIg h
  rw [this]
  simp only
  rw [if_pos ⟨by show IntKind.i64.min <= n; have : IntKind.i64.min = -9223372036854775808 := by decide
                 omega, by show n <= IntKind.i64.max; have : IntKind.i64.max = 9223372036854775807 := by decide
                           omega⟩]
theorem CU {x y : Nat} {a b : Int} (h : BK x a) (h' : BK y b) : FloatKind.f64.format.order x y = some (compare a b) := aI7 h h'
end Go.Fl

namespace Go.Proofs.YtcfpfefadlnmcaaGreat
open Go.Mach Go.RowKit
set_option maxRecDepth 100000
set_option linter.unusedVariables false
set_option linter.unusedSimpArgs false
def uI : Int -> List Int -> Int
 | acc, [] => acc
 | acc, d :: r => if ((decide (d < 1) || decide (4096 < d)) || decide (8192 < IntKind.i64.wrap (acc * d))) = true then 0 else uI (IntKind.i64.wrap (acc * d)) r
def szF (l : List Int) : Int := if (decide ((l.length : Int) < 1) || decide (4 < (l.length : Int))) = true then 0 else uI 1 l
theorem aJr : ∀ (l : List Int) (acc : Int), acc <= 8192 -> uI acc l <= 8192
  | [], acc, h => h
  | d :: r, acc, h => by
    unfold uI
    split
    · omega
    · rename_i hn
      simp only [Bool.or_eq_true, decide_eq_true_eq, not_or] at hn
      exact aJr r _ (by omega)
theorem Q3 (l : List Int) : szF l <= 8192 := by
 unfold szF
 split
 ·omega
 ·exact aJr l 1 (by omega)
theorem YQ {a : List Int} {Q : Int -> Prop} (h : Q (szF a)) : pX a Q := by
  refine ⟨?_⟩
  unfold szF at h
  by_cases e : (decide ((a.length : Int) < 1) || decide (4 < (a.length : Int))) = true
  · rw [if_pos e] at h ⊢; exact h
  · rw [if_neg e] at h ⊢
    simp only [Bool.or_eq_true, decide_eq_true_eq, not_or] at e
    obtain ⟨z, hzz⟩ : ∃ z, uI 1 a = z := ⟨_, rfl⟩
    rw [hzz] at h
    refine ⟨?_⟩
    refine Loop.inv (n := a.length) (fun m s => ∃ i : Nat, i + m = a.length /\ s.2 = (i : Int) /\ uI s.1 (a.drop i) = z) ⟨0, by omega, rfl, hzz⟩ ?_
    rintro m ⟨acc, i'⟩ X ⟨i, hi, he, hz⟩ hX
    simp only at he hz
    subst he
    unfold NJ
    by_cases hlt : i < a.length
    · have hd : a.drop i = a.getD i 0 :: a.drop (i + 1) := by
        rw [List.drop_eq_getElem_cons hlt, List.getD_eq_getElem?_getD, List.getElem?_eq_getElem hlt]; rfl
      rw [hd] at hz
      rw [if_pos (by simpa using hlt)]
      refine ⟨by simp only []; omega, ?_⟩
      simp only [Int.toNat_natCast]
      unfold uI at hz
      split
      · rename_i hc
        rw [if_pos hc] at hz
        rw [<- hz] at h; exact h
      · rename_i hc
        rw [if_neg hc] at hz
        refine hX (m - 1) _ (by omega) ⟨i + 1, by omega, ?_, hz⟩
        show IntKind.i64.wrap ((i : Int) + 1) = _
        rw [aA _ (by omega) (by omega)]; rfl
    · have hil : i = a.length := by omega
      subst hil
      rw [if_neg (by simp)]
      rw [List.drop_length] at hz
      unfold uI at hz
      show Q acc
      rw [hz]; exact h
theorem aBI {a : List Int} {Q : Bool -> Prop} (h : Q (decide (0 < szF a))) : lC a Q := by
 refine ⟨?_⟩
 exact YQ h
open Go.Mach Go.RowKit Go.Fl
set_option maxRecDepth 100000
set_option linter.unusedVariables false
set_option linter.unusedSimpArgs false
def inP (a lo hi : Int) : Bool := decide (lo <= a) && decide (a <= hi)
theorem Y3 {a lo hi : Int} {Q : Bool -> Prop} (h : Q (inP a lo hi)) : yX a lo hi Q := ⟨h⟩
theorem WX {a lo hi : Int} (h1 : lo <= a) (h2 : a <= hi) : inP a lo hi = true := by
 unfold inP
 rw [decide_eq_true h1, decide_eq_true h2]
 rfl
theorem aMh {r c : Int} {Q : Nat × Nat -> Prop} (h1 : -1000 <= r /\ r <= 1000) (h2 : -1000 <= c /\ c <= 1000) (h : ∀ z, NV z r c -> Q z) : HX r c Q := by
 refine ⟨?_⟩
 refine Y3 ?_
 rw [WX h1.1 h1.2]
 simp only [jn, Bool.not_true, Bool.false_eq_true, if_false]
 refine Y3 ?_
 rw [WX h2.1 h2.2]
 simp only [Bool.not_true, Bool.false_eq_true, if_false]
 exact h _ ⟨TW (by omega), TW (by omega)⟩
theorem aN8 : BK 13875379345695965184 (-1000) := by
 have : FloatKind.f64.nearest (-1000) = 13875379345695965184 := by decide +kernel
 rw [<- this]
 exact aC3 (by decide)
theorem aNO : BK 4652007308841189376 1000 := by
 have : FloatKind.f64.nearest 1000 = 4652007308841189376 := by decide +kernel
 rw [<- this]
 exact aC3 (by decide)
theorem aO6 (a b : Int) : ((some (compare a b) == some Ordering.gt) || (some (compare a b) == some Ordering.eq)) = decide (b <= a) := by
 show ((some (compareOfLessAndEq a b) == some Ordering.gt) || (some (compareOfLessAndEq a b) == some Ordering.eq)) = decide (b <= a)
 unfold compareOfLessAndEq
 by_cases h1 : a < b
 ·rw [if_pos h1, decide_eq_false (by omega)]; rfl
 ·rw [if_neg h1]
  by_cases h2 : a = b
  ·rw [if_pos h2, decide_eq_true (by omega)]; rfl
  ·rw [if_neg h2, decide_eq_true (by omega)]; rfl
theorem aOf (a b : Int) : ((some (compare a b) == some Ordering.lt) || (some (compare a b) == some Ordering.eq)) = decide (a <= b) := by
 show ((some (compareOfLessAndEq a b) == some Ordering.lt) || (some (compareOfLessAndEq a b) == some Ordering.eq)) = decide (a <= b)
 unfold compareOfLessAndEq
 by_cases h1 : a < b
 ·rw [if_pos h1, decide_eq_true (by omega)]; rfl
 ·rw [if_neg h1]
  by_cases h2 : a = b
  ·rw [if_pos h2, decide_eq_true (by omega)]; rfl
  ·rw [if_neg h2, decide_eq_false (by omega)]; rfl
theorem aOj (a : Int) : (some (compare a a) == some Ordering.eq) = true := by
 show (some (compareOfLessAndEq a a) == some Ordering.eq) = true
 unfold compareOfLessAndEq
 rw [if_neg (by omega), if_pos rfl]
 rfl
theorem aJs {x : Nat} {n : Int} {Q : Int × Bool -> Prop} (hw : BK x n) (h : Q (if inP n (-1000) 1000 = true then (n, true) else (0, false))) : EU x Q := by
 refine ⟨?_⟩
 rw [CU hw aN8, CU hw aNO, aO6, aOf]
 by_cases hi : inP n (-1000) 1000 = true
 ·rw [if_pos hi] at h
  unfold inP at hi
  rw [hi, if_neg (by simp)]
  simp only [Bool.and_eq_true, decide_eq_true_eq] at hi
  refine ⟨n, aGn hw (by omega) (by omega), ?_⟩
  show Q (n, FloatKind.f64.format.order (floatOfInt .f64 n) x == some Ordering.eq)
  rw [CU (TW (by omega)) hw, aOj]
  exact h
 ·rw [if_neg hi] at h
  unfold inP at hi
  have hi2 : (decide (-1000 <= n) && decide (n <= 1000)) = false := by simpa using hi
  rw [hi2, if_pos (by rfl)]
  exact h
theorem aPi {z : Nat × Nat} {r c : Int} {Q : Int × Int × Bool -> Prop} (hz : NV z r c) (h : Q (if (inP r (-1000) 1000 && inP c (-1000) 1000) = true then (r, c, true) else (0, 0, false))) : aCE z Q := by
 refine ⟨?_⟩
 refine aJs hz.1 (aJs hz.2 ?_)
 cases h1 : inP r (-1000) 1000 <;> cases h2 : inP c (-1000) 1000 <;> rw [h1, h2] at h <;> exact h
open Go.Mach Go.RowKit Go.Fl
set_option maxRecDepth 100000
set_option linter.unusedVariables false
set_option linter.unusedSimpArgs false
def uT (rows cols cr cc : Int) (i j : Nat) : List (Int × Int × Int) :=
 if (inP (cr + i) 0 (rows - 1) && inP (cc + j) 0 (cols - 1)) = true then [((cr + i) * cols + (cc + j), (i : Int), (j : Int))] else []
def n7 (rows cols cr cc : Int) (i k : Nat) : List (Int × Int × Int) := (List.range k).flatMap (uT rows cols cr cc i)
theorem aHV (rows cols cr cc : Int) (i j : Nat) : (uT rows cols cr cc i j).length <= 1 := by
 unfold uT; split <;> simp
theorem PN {rows cols cr cc : Int} {i k : Nat} : n7 rows cols cr cc i (k + 1) = n7 rows cols cr cc i k ++ uT rows cols cr cc i k := by
 unfold n7
 rw [List.range_succ, List.flatMap_append]
 simp
theorem JS {rows cols cr cc : Int} {i : Nat} : ∀ k, (n7 rows cols cr cc i k).length <= k
  | 0 => by simp [n7]
  | k + 1 => by
    rw [PN, List.length_append]
    have := JS (rows := rows) (cols := cols) (cr := cr) (cc := cc) (i := i) k
    have := aHV rows cols cr cc i k
    omega
theorem aOE {z : Nat × Nat} {rows cols cr cc : Int} {i k : Nat} {acc : List (Int × Int × Int)} {K0 : List (Int × Int × Int) -> Prop} (hz : NV z cr cc) (hr : 0 <= rows /\ rows <= 1000) (hc : 0 <= cols /\ cols <= 1000) (hcr : -100000 <= cr /\ cr <= 100000) (hcc : -100000 <= cc /\ cc <= 100000) (hi : i <= 1000) (hk : k <= 1000) (ha : acc.length <= 1000000)
    (h : K0 (acc ++ n7 rows cols cr cc i k)) : oK z (i : Int) (k : Int) rows cols K0 (0, acc) := by
  refine ⟨?_⟩
  have eg : ((0 : Int), acc) = (fun j : Nat => ((j : Int), acc ++ n7 rows cols cr cc i j)) 0 := by simp [n7]
  rw [eg]
  refine Loop.range (B := gW z (i : Int) (k : Int) rows cols K0) (f := fun j : Nat => ((j : Int), acc ++ n7 rows cols cr cc i j)) k (fun _ => True) trivial ?_ ?_
  · intro j hj _ X hX
    have hX := hX trivial
    unfold gW
    rw [if_pos (decide_eq_true (show (j : Int) < (k : Int) by omega))]
    dsimp only at hX ⊢
    refine aMh (by omega) (by omega) fun u hu => ?_
    obtain ⟨r, e, hrr⟩ := aKo hz hu (by omega) (by omega)
    refine ⟨r, e, aPi (z := r) hrr ?_⟩
    have hlen := JS (rows := rows) (cols := cols) (cr := cr) (cc := cc) (i := i) j
    have e1 : IntKind.i64.wrap (rows - 1) = rows - 1 := aA _ (by omega) (by omega)
    have e2 : IntKind.i64.wrap (cols - 1) = cols - 1 := aA _ (by omega) (by omega)
    rw [PN, <- List.append_assoc] at hX
    by_cases hin : (inP (cr + i) 0 (rows - 1) && inP (cc + j) 0 (cols - 1)) = true
    · have ew : uT rows cols cr cc i j = [((cr + i) * cols + (cc + j), (i : Int), (j : Int))] := by unfold uT; rw [if_pos hin]
      simp only [Bool.and_eq_true] at hin
      have b1 : 0 <= cr + i /\ cr + i <= rows - 1 := by simpa [inP] using hin.1
      have b2 : 0 <= cc + j /\ cc + j <= cols - 1 := by simpa [inP] using hin.2
      have m1 : 0 <= (cr + i) * cols := Int.mul_nonneg b1.1 hc.1
      have m2 : (cr + i) * cols <= 1000 * 1000 := Int.mul_le_mul (by omega) hc.2 hc.1 (by omega)
      rw [WX (by omega) (by omega), WX (by omega) (by omega), if_pos (by rfl)]
      simp only [jn, if_true]
      refine Y3 ?_
      rw [e1, hin.1]
      simp only [if_true]
      refine Y3 ?_
      rw [e2, hin.2]
      simp only [if_true]
      refine ⟨?_, ⟨?_⟩⟩
      · simp only [List.length_append, List.length_singleton]; omega
      · skip
        rw [aA ((j : Int) + 1) (by omega) (by omega), aA ((cr + i) * cols) (by omega) (by omega), aA ((cr + i) * cols + (cc + j)) (by omega) (by omega)]
        rw [ew] at hX
        exact hX
    · have ew : uT rows cols cr cc i j = [] := by unfold uT; rw [if_neg hin]
      rw [ew, List.append_nil] at hX
      have skip : iV (j : Int) (fun (y28 : Int) => X (y28, acc ++ n7 rows cols cr cc i j)) := by
        refine ⟨?_⟩
        rw [aA ((j : Int) + 1) (by omega) (by omega)]
        exact hX
      by_cases hb : (inP (cr + i) (-1000) 1000 && inP (cc + j) (-1000) 1000) = true
      · rw [if_pos hb]
        simp only [jn, if_true]
        refine Y3 ?_
        rw [e1]
        cases h1 : inP (cr + i) 0 (rows - 1) with
        | false => simp only [Bool.false_eq_true, if_false]; exact skip
        | true =>
          simp only [if_true]
          refine Y3 ?_
          rw [e2]
          cases h2 : inP (cc + j) 0 (cols - 1) with
          | false => simp only [Bool.false_eq_true, if_false]; exact skip
          | true => rw [h1, h2] at hin; exact absurd rfl hin
      · rw [if_neg hb]
        simp only [jn, Bool.false_eq_true, if_false]
        exact skip
  · intro _ X
    unfold gW
    rw [if_neg (by simp)]
    exact h
def RZ (rows cols cr cc : Int) (k : Nat) (m : Nat) : List (Int × Int × Int) := (List.range m).flatMap fun i => n7 rows cols cr cc i k
theorem YV {rows cols cr cc : Int} {k m : Nat} : RZ rows cols cr cc k (m + 1) = RZ rows cols cr cc k m ++ n7 rows cols cr cc m k := by
 unfold RZ
 rw [List.range_succ, List.flatMap_append]
 simp
theorem UT {rows cols cr cc : Int} {k : Nat} : ∀ m, (RZ rows cols cr cc k m).length <= m * k
  | 0 => by simp [RZ]
  | m + 1 => by
    rw [YV, List.length_append, Nat.succ_mul]
    have := UT (rows := rows) (cols := cols) (cr := cr) (cc := cc) (k := k) m
    have := JS (rows := rows) (cols := cols) (cr := cr) (cc := cc) (i := m) k
    omega
theorem aMN {rows cols stride pad r c : Int} {k : Nat} {Q : List (Int × Int × Int) -> Prop} (hr : 0 <= rows /\ rows <= 1000) (hc : 0 <= cols /\ cols <= 1000) (hs : 0 <= stride /\ stride <= 100) (hp : 0 <= pad /\ pad <= 100) (h1 : 0 <= r /\ r <= 900) (h2 : 0 <= c /\ c <= 900) (hk : k <= 900)
  (h : Q (RZ rows cols (stride * r - pad) (stride * c - pad) k k)) : sV (rows, cols, (k : Int), stride, pad) r c Q := by
 have m1 : 0 <= stride * r := Int.mul_nonneg hs.1 h1.1
 have m2 : stride * r <= 100 * 900 := Int.mul_le_mul hs.2 h1.2 h1.1 (by omega)
 have m3 : 0 <= stride * c := Int.mul_nonneg hs.1 h2.1
 have m4 : stride * c <= 100 * 900 := Int.mul_le_mul hs.2 h2.2 h2.1 (by omega)
 refine ⟨?_⟩
 dsimp only
 refine aMh (by show -1000 <= stride /\ stride <= 1000; omega) (by omega) fun u hu => ?_
 refine aMh (by omega) (by omega) fun v hv => ?_
 obtain ⟨p, e1, hpw⟩ := aKn hu hv (by omega) (by rw [Int.zero_mul]; decide) (by omega) (by rw [Int.zero_mul]; decide)
 refine ⟨p, e1, ?_⟩
 refine aMh (by show -1000 <= pad /\ pad <= 1000; omega) (by show -1000 <= pad /\ pad <= 1000; omega) fun q hq => ?_
 rw [Int.zero_mul, Int.zero_mul, Int.sub_zero, Int.add_zero] at hpw
 obtain ⟨z, e2, hz⟩ := aKx hpw hq (by omega) (by omega)
 refine ⟨z, e2, ⟨?_⟩⟩
 show Go.Mach.Loop (dV z (k : Int) rows cols (k : Int) (fun y => Q y)) (0, [])
 have eg : ((0 : Int), ([] : List (Int × Int × Int))) = (fun i : Nat => ((i : Int), RZ rows cols (stride * r - pad) (stride * c - pad) k i)) 0 := by simp [RZ]
 rw [eg]
 refine Loop.range (B := dV z (k : Int) rows cols (k : Int) (fun y => Q y)) (f := fun i : Nat => ((i : Int), RZ rows cols (stride * r - pad) (stride * c - pad) k i)) k (fun _ => True) trivial ?_ ?_
 ·intro i hi _ X hX
  have hX := hX trivial
  unfold dV
  rw [if_pos (decide_eq_true (show (i : Int) < (k : Int) by omega))]
  dsimp only at hX ⊢
  have hl := UT (rows := rows) (cols := cols) (cr := stride * r - pad) (cc := stride * c - pad) (k := k) i
  have hm : i * k <= 900 * 900 := Nat.mul_le_mul (by omega) hk
  refine aOE (z := z) hz hr hc (by omega) (by omega) (by omega) (by omega) (by omega) ?_
  rw [aA ((i : Int) + 1) (by omega) (by omega)]
  rw [YV] at hX
  exact hX
 ·intro _ X
  unfold dV
  rw [if_neg (by simp)]
  exact h
open Go.Mach Go.RowKit Go.Fl
set_option maxRecDepth 100000
set_option linter.unusedVariables false
set_option linter.unusedSimpArgs false
theorem aLD {b c : Bool} {Q K : Bool -> Prop} {G : (Bool -> Prop) -> Prop} (hG : ∀ P : Bool -> Prop, P c -> G P) (hK : ∀ v, v = (b || c) -> K v) (hQ : Q = K) : jn (fun v => Q v) (fun J => if b = true then J true else G J) := by
 subst hQ
 cases b with
 | true => exact hK _ rfl
 | false => show (if false = true then Q true else G (fun v => Q v)); rw [if_neg (by simp)]; exact hG _ (hK _ (by simp))
theorem aJz {a lo hi : Int} {Q : Bool -> Prop} (h : Q (inP a lo hi)) : HY a lo hi Q := ⟨h⟩
def yD (n k s p : Int) : Bool := (((!inP n 1 16 || !inP k 1 5) || !inP s 1 4) || !inP p 0 (k - 1)) || decide (n + 2 * p < k)
def bW (n k s p : Int) : Int := if yD n k s p = true then 0 else (n + 2 * p - k) / s + 1
theorem ZX {n k s p : Int} {Q : Int -> Prop} (h : Q (bW n k s p)) : nU n k s p Q := by
  refine ⟨?_⟩
  refine aJz ?_
  refine aLD (b := !inP n 1 16) (c := !inP k 1 5) (fun P hp => aJz hp) (fun v2 e2 => ?_) rfl
  refine aLD (c := !inP s 1 4) (fun P hp => aJz hp) (fun v5 e5 => ?_) rfl
  refine aLD (c := !inP p 0 (IntKind.i64.wrap (k - 1))) (fun P hp => aJz hp) (fun v8 e8 => ?_) rfl
  have e8' : v8 = (((!inP n 1 16 || !inP k 1 5) || !inP s 1 4) || !inP p 0 (IntKind.i64.wrap (k - 1))) := by rw [e8, e5, e2]
  by_cases hc : ((!inP n 1 16 || !inP k 1 5) || !inP s 1 4) = true
  · have hv : v8 = true := by rw [e8', hc]; rfl
    have hb : yD n k s p = true := by unfold yD; rw [hc]; rfl
    unfold bW at h
    rw [if_pos hb] at h
    rw [hv, if_pos (by rfl)]
    exact h
  · have hc' : ((!inP n 1 16 || !inP k 1 5) || !inP s 1 4) = false := by simpa using hc
    simp only [Bool.or_eq_false_iff, Bool.not_eq_false'] at hc'
    have b1 : 1 <= n /\ n <= 16 := by simpa [inP] using hc'.1.1
    have b2 : 1 <= k /\ k <= 5 := by simpa [inP] using hc'.1.2
    have b3 : 1 <= s /\ s <= 4 := by simpa [inP] using hc'.2
    rw [aA (k - 1) (by omega) (by omega)] at e8'
    cases hv : v8 with
    | true =>
      have hb : yD n k s p = true := by unfold yD; rw [<- e8', hv]; rfl
      unfold bW at h
      rw [if_pos hb] at h
      rw [if_pos (by rfl)]
      exact h
    | false =>
      have hp : inP p 0 (k - 1) = true := by
        rw [hv] at e8'
        have := e8'.symm
        simp only [Bool.or_eq_false_iff, Bool.not_eq_false'] at this
        exact this.2
      have b4 : 0 <= p /\ p <= k - 1 := by simpa [inP] using hp
      rw [aA (2 * p) (by omega) (by omega), aA (n + 2 * p) (by omega) (by omega)]
      have hbe : yD n k s p = decide (n + 2 * p < k) := by unfold yD; rw [<- e8', hv, Bool.false_or]
      unfold bW at h
      rw [hbe] at h
      rw [Bool.false_or]
      by_cases hl : decide (n + 2 * p < k) = true
      · rw [if_pos hl] at h ⊢; exact h
      · rw [if_neg hl] at h ⊢
        have hl2 : ¬ (n + 2 * p < k) := by simpa using hl
        have d0 : 0 <= (n + 2 * p - k) / s := Int.ediv_nonneg (by omega) (by omega)
        have d1 : (n + 2 * p - k) / s <= n + 2 * p - k := Int.ediv_le_self _ (by omega)
        refine ⟨by omega, ?_⟩
        rw [aA (n + 2 * p - k) (by omega) (by omega), Int.tdiv_eq_ediv_of_nonneg (by omega), aA ((n + 2 * p - k) / s) (by omega) (by omega), aA _ (by omega) (by omega)]
        exact h
theorem MI {n k s p : Int} (h : yD n k s p = false) : (1 <= n /\ n <= 16) /\ (1 <= k /\ k <= 5) /\ (1 <= s /\ s <= 4) /\ (0 <= p /\ p <= k - 1) /\ k <= n + 2 * p := by
 unfold yD at h
 simp only [Bool.or_eq_false_iff, Bool.not_eq_false', decide_eq_false_iff_not] at h
 obtain ⟨⟨⟨⟨h1, h2⟩, h3⟩, h4⟩, h5⟩ := h
 exact ⟨by simpa [inP] using h1, by simpa [inP] using h2, by simpa [inP] using h3, by simpa [inP] using h4, by omega⟩
theorem pZ (n k s p : Int) : 0 <= bW n k s p /\ bW n k s p <= 25 /\ (1 <= bW n k s p -> yD n k s p = false) := by
  unfold bW
  cases hb : yD n k s p with
  | true => rw [if_pos rfl]; exact ⟨by omega, by omega, fun h => by omega⟩
  | false =>
    rw [if_neg (by simp)]
    obtain ⟨b1, b2, b3, b4, b5⟩ := MI hb
    have d0 : 0 <= (n + 2 * p - k) / s := Int.ediv_nonneg (by omega) (by omega)
    have d1 : (n + 2 * p - k) / s <= n + 2 * p - k := Int.ediv_le_self _ (by omega)
    exact ⟨by omega, by omega, fun _ => rfl⟩
def aEo (rows cols r c k s p : Int) : Bool := ((decide (bW rows k s p < 1) || decide (bW cols k s p < 1)) || !inP r 0 (bW rows k s p - 1)) || !inP c 0 (bW cols k s p - 1)
def dG (rows cols r c k s p : Int) : List (Int × Int × Int) := if aEo rows cols r c k s p = true then [] else RZ rows cols (s * r - p) (s * c - p) k.toNat k.toNat
theorem aBD {rows cols r c k s p : Int} {Q : List (Int × Int × Int) -> Prop} (h : Q (dG rows cols r c k s p)) : uX rows cols r c k s p Q := by
  refine ⟨?_⟩
  refine ⟨?_⟩
  refine ZX (ZX ?_)
  obtain ⟨m1, m2, m3⟩ := pZ rows k s p
  obtain ⟨n1, n2, n3⟩ := pZ cols k s p
  unfold dG aEo at h
  dsimp only
  rw [aA (bW rows k s p - 1) (by omega) (by omega), aA (bW cols k s p - 1) (by omega) (by omega)]
  refine aLD (b := decide (bW rows k s p < 1) || decide (bW cols k s p < 1)) (c := !inP r 0 (bW rows k s p - 1)) (fun P hp => Y3 hp) (fun v2 e2 => ?_) rfl
  refine aLD (c := !inP c 0 (bW cols k s p - 1)) (fun P hp => Y3 hp) (fun v5 e5 => ?_) rfl
  rw [<- e2, <- e5] at h
  cases hv : v5 with
  | true => rw [hv, if_pos rfl] at h; rw [if_pos (by rfl)]; exact h
  | false =>
    rw [hv, if_neg (by simp)] at h
    rw [if_neg (by simp)]
    rw [hv, e2] at e5
    have := e5.symm
    simp only [Bool.or_eq_false_iff, Bool.not_eq_false', decide_eq_false_iff_not] at this
    obtain ⟨⟨⟨g1, g2⟩, g3⟩, g4⟩ := this
    obtain ⟨b1, b2, b3, b4, b5⟩ := MI (m3 (by omega))
    obtain ⟨c1, _⟩ := MI (n3 (by omega))
    have r1 : 0 <= r /\ r <= bW rows k s p - 1 := by simpa [inP] using g3
    have r2 : 0 <= c /\ c <= bW cols k s p - 1 := by simpa [inP] using g4
    have hk : ((k.toNat : Nat) : Int) = k := by omega
    have := aMN (rows := rows) (cols := cols) (stride := s) (pad := p) (r := r) (c := c) (k := k.toNat) (Q := fun r8 => Q r8) (by omega) (by omega) (by omega) (by omega) (by omega) (by omega) (by omega) h
    rw [hk] at this
    exact this
end Go.Proofs.YtcfpfefadlnmcaaGreat
namespace Go.Proofs.YtcfpfefadlnmcaaGreat
end Go.Proofs.YtcfpfefadlnmcaaGreat
namespace Go.Proofs.YtcfpfefadlnmcaaGreat
end Go.Proofs.YtcfpfefadlnmcaaGreat
namespace Go.Proofs.YtcfpfefadlnmcaaGreat
end Go.Proofs.YtcfpfefadlnmcaaGreat

namespace Go.Proofs.YtcfpfefadlnmcaaGreat
open Go.Mach Go.RowKit
set_option maxRecDepth 100000
set_option linter.unusedVariables false
set_option linter.unusedSimpArgs false
abbrev T3 := List Int × Int × List Int
abbrev Z3 : T3 := ([], 0, [])
theorem SO {b c : Bool} {Q K : Bool -> Prop} {G : (Bool -> Prop) -> Prop} (hG : (b = true -> ∀ P : Bool -> Prop, P c -> G P)) (hK : ∀ v, v = (b && c) -> K v) (hQ : Q = K) : jn (fun v => Q v) (fun J => if b = true then G J else J false) := by
 subst hQ
 cases b with
 | true => show (if true = true then G (fun v => Q v) else Q false); rw [if_pos rfl]; exact hG rfl _ (hK _ (by simp))
 | false => exact hK _ rfl
theorem AX {b c : Bool} {Q K : Bool -> Prop} {G : (Bool -> Prop) -> Prop} (hG : b = false -> ∀ P : Bool -> Prop, P c -> G P) (hK : ∀ v, v = (b || c) -> K v) (hQ : Q = K) : jn (fun v => Q v) (fun J => if b = true then J true else G J) := by
 subst hQ
 cases b with
 | true => exact hK _ rfl
 | false => show (if false = true then Q true else G (fun v => Q v)); rw [if_neg (by simp)]; exact hG rfl _ (hK _ (by simp))
theorem E4 (a b A B : Int) (h1 : -A <= a) (h2 : a <= A) (h3 : 0 <= b) (h4 : b <= B) (hA : 0 <= A) : -(A * B) <= a * b /\ a * b <= A * B := by
 have e1 : a * b <= A * b := Int.mul_le_mul_of_nonneg_right h2 h3
 have e2 : A * b <= A * B := Int.mul_le_mul_of_nonneg_left h4 hA
 have e3 : -A * b <= a * b := Int.mul_le_mul_of_nonneg_right h1 h3
 have e4 : -A * b = -(A * b) := Int.neg_mul A b
 omega
theorem aK6 {a b : Int} (h : -128 <= a /\ a <= 127) (k : -128 <= b /\ b <= 127) : -16384 <= a * b /\ a * b <= 16384 := by
 rcases Int.le_total 0 b with hb | hb
 ·have := E4 a b 128 128 (by omega) (by omega) hb (by omega) (by omega)
  omega
 ·have := E4 a (-b) 128 128 (by omega) (by omega) (by omega) (by omega) (by omega)
  rw [Int.mul_neg] at this
  omega
def All8 (l : List Int) : Prop := ∀ y ∈ l, -128 <= y /\ y <= 127
theorem All8.at_ {l : List Int} (h : All8 l) (i : Nat) : -128 <= l.getD i 0 /\ l.getD i 0 <= 127 := by
 rw [List.getD_eq_getElem?_getD]
 cases hq : l[i]? with
 | none => simp
 | some y => exact h y (List.mem_of_getElem? hq)
theorem ix {r n i : Nat} (h : r * n + i <= 100000000) : IntKind.i64.wrap (IntKind.i64.wrap ((r : Int) * (n : Int)) + (i : Int)) = ((r * n + i : Nat) : Int) := by
 have e : (r : Int) * (n : Int) = ((r * n : Nat) : Int) := by rw [Int.natCast_mul]
 have h1 : r * n <= 100000000 := by omega
 rw [e, aA ((r * n : Nat) : Int) (by omega) (by omega), aA _ (by omega) (by omega), Int.natCast_add]
theorem U5 {r n : Nat} (h : r * n <= 100000000) : IntKind.i64.wrap ((r : Int) * (n : Int)) = ((r * n : Nat) : Int) := by
 have e : (r : Int) * (n : Int) = ((r * n : Nat) : Int) := by rw [Int.natCast_mul]
 rw [e, aA ((r * n : Nat) : Int) (by omega) (by omega)]
theorem aHt {l : List Int} {v : Int} {Q : Bool -> Prop} (hl : l.length <= 1000000000000) (h : Q (decide (v ∈ l))) : i5 l v Q := by
 refine ⟨?_⟩
 refine ⟨?_⟩
 refine ⟨?_⟩
 refine Loop.range (B := eE l v (l.length : Int) (fun _ => Q (decide ((0 : Int) <= -1))) (fun y => Q (decide (0 <= y)))) (f := fun i : Nat => (i : Int)) l.length (fun i => ∀ j, j < i -> v ≠ l.getD j 0) (fun j hj => absurd hj (by omega)) ?_ ?_
 ·intro i hi hI X hX
  unfold eE
  rw [if_pos (by simpa using hi)]
  refine ⟨by omega, ?_⟩
  simp only [Int.toNat_natCast]
  by_cases hv : v = l.getD i 0
  ·rw [if_pos (by simpa using hv)]
   have : decide (v ∈ l) = true := by rw [decide_eq_true_eq, hv]; exact C8 hi
   rw [this] at h
   rw [decide_eq_true (by omega : (0 : Int) <= (i : Int))]
   exact h
  ·rw [if_neg (by simpa using hv), aA _ (by omega) (by omega)]
   refine hX fun j hj => ?_
   by_cases hji : j = i
   ·subst hji; exact hv
   ·exact hI j (by omega)
 ·intro hI X
  unfold eE
  rw [if_neg (by simp)]
  have : decide (v ∈ l) = false := by
   simp only [decide_eq_false_iff_not]
   intro hm
   obtain ⟨j, hj, e⟩ := List.getElem_of_mem hm
   apply hI j hj
   rw [List.getD_eq_getElem?_getD, List.getElem?_eq_getElem hj, <- e]; rfl
  rw [this] at h
  exact h
def XM (a b : Int) : Bool := (decide ((IntKind.i64.wrap (0 - b)) <= a)) && (decide (a <= b))
theorem aLr {a b : Int} {Q : Bool -> Prop} (h : Q (XM a b)) : CJ a b Q := ⟨h⟩
def aW (a : T3) : Bool := ((decide (0 < szF a.1) && ((a.2.2.length : Int) == szF a.1)) && XM a.2.1 64) && !decide (-128 ∈ a.2.2)
theorem tD {a : T3} {Q : Bool -> Prop} (h : Q (aW a)) : cF a Q := by
 refine ⟨?_⟩
 refine aBI ?_
 refine SO (b := decide (0 < szF a.1)) (c := (a.2.2.length : Int) == szF a.1) (fun _ P hp => YQ hp) (fun v2 e2 => ?_) rfl
 refine SO (c := XM a.2.1 64) (fun _ P hp => aLr hp) (fun v3 e3 => ?_) rfl
 refine SO (c := !decide (-128 ∈ a.2.2)) (fun h3 P hp => aHt (Q := fun r => P (!r)) ?_ hp) (fun v4 e4 => ?_) rfl
 ·rw [e3, e2] at h3
  simp only [Bool.and_eq_true, beq_iff_eq] at h3
  have := Q3 a.1
  omega
 ·rw [e4, e3, e2]
  exact h
theorem aHZ {a : Int} {b : Int} (h1 : 0 <= b) (h2 : b <= 1000) : XM a b = true ↔ -b <= a /\ a <= b := by
 unfold XM
 rw [aA (0 - b) (by omega) (by omega)]
 simp only [Bool.and_eq_true, decide_eq_true_eq]
 omega
theorem dY {a : T3} : aW a = true ↔ 0 < szF a.1 /\ (a.2.2.length : Int) = szF a.1 /\ (-64 <= a.2.1 /\ a.2.1 <= 64) /\ -128 ∉ a.2.2 := by
 unfold aW
 rw [Bool.and_eq_true, Bool.and_eq_true, Bool.and_eq_true, aHZ (by omega) (by omega)]
 simp only [decide_eq_true_eq, beq_iff_eq, Bool.not_eq_true', decide_eq_false_iff_not]
 constructor
 ·rintro ⟨⟨⟨h1, h2⟩, h3⟩, h4⟩; exact ⟨h1, h2, h3, h4⟩
 ·rintro ⟨h1, h2, h3, h4⟩; exact ⟨⟨⟨h1, h2⟩, h3⟩, h4⟩
def bQ : List Int -> Int
 | [] => 1
 | d :: r => d * bQ r
theorem aIG : ∀ (l : List Int) (acc : Int), 1 <= acc -> acc <= 8192 -> 0 < uI acc l -> (∀ d ∈ l, 1 <= d /\ d <= 4096) /\ uI acc l = acc * bQ l
  | [], acc, h, _, _ => ⟨by simp, by simp [uI, bQ]⟩
  | d :: r, acc, h, h2, h3 => by
    unfold uI at h3 ⊢
    split at h3
    · omega
    · rename_i hn
      rw [if_neg hn]
      simp only [Bool.or_eq_true, decide_eq_true_eq, not_or] at hn
      have hb := E4 acc d 8192 4096 (by omega) (by omega) (by omega) (by omega) (by omega)
      have hw : IntKind.i64.wrap (acc * d) = acc * d := aA _ (by omega) (by omega)
      rw [hw] at h3 hn ⊢
      have hp : 1 <= acc * d := by
        have := Int.mul_pos (show 0 < acc by omega) (show 0 < d by omega)
        omega
      obtain ⟨g1, g2⟩ := aIG r (acc * d) hp (by omega) h3
      refine ⟨fun x hx => ?_, by rw [g2]; show _ = acc * (d * bQ r); rw [Int.mul_assoc]⟩
      rcases List.mem_cons.1 hx with e | e
      · subst e; omega
      · exact g1 x e
theorem RM {l : List Int} (h : 0 < szF l) : (1 <= l.length /\ l.length <= 4) /\ (∀ d ∈ l, 1 <= d /\ d <= 4096) /\ szF l = bQ l /\ bQ l <= 8192 := by
 have hle := Q3 l
 unfold szF at h hle ⊢
 split at h
 ·omega
 ·rename_i hn
  rw [if_neg hn] at hle ⊢
  simp only [Bool.or_eq_true, decide_eq_true_eq, not_or] at hn
  obtain ⟨g1, g2⟩ := aIG l 1 (by omega) (by omega) h
  rw [Int.one_mul] at g2
  exact ⟨by omega, g1, g2, by omega⟩
theorem BP : ∀ {l : List Int}, (∀ d ∈ l, 1 <= d) -> 1 <= bQ l
  | [], _ => by simp [bQ]
  | d :: r, h => by
    have h1 := h d (by simp)
    have h2 := BP (l := r) fun x hx => h x (by simp [hx])
    have := Int.mul_pos (show 0 < d by omega) (show 0 < bQ r by omega)
    unfold bQ; omega
theorem aKI : ∀ (l : List Int) (acc : Int), 1 <= acc -> (∀ d ∈ l, 1 <= d /\ d <= 4096) -> acc * bQ l <= 8192 -> uI acc l = acc * bQ l
  | [], acc, h, _, _ => by simp [uI, bQ]
  | d :: r, acc, h, hd, h2 => by
    have h1 := hd d (by simp)
    have hr : ∀ x ∈ r, 1 <= x /\ x <= 4096 := fun x hx => hd x (by simp [hx])
    have hp := BP (l := r) fun x hx => (hr x hx).1
    have e : acc * bQ (d :: r) = acc * d * bQ r := by show acc * (d * bQ r) = _; rw [Int.mul_assoc]
    rw [e] at h2 ⊢
    have h0 : 1 <= acc * d := by
      have := Int.mul_pos (show 0 < acc by omega) (show 0 < d by omega)
      omega
    have h3 : acc * d <= acc * d * bQ r := by
      have := Int.mul_le_mul_of_nonneg_left (c := acc * d) hp (by omega)
      omega
    have hw : IntKind.i64.wrap (acc * d) = acc * d := aA _ (by omega) (by omega)
    unfold uI
    rw [hw, if_neg (by simp; omega)]
    exact aKI r (acc * d) h0 hr h2
theorem aIl {l : List Int} (h1 : 1 <= l.length /\ l.length <= 4) (hd : ∀ d ∈ l, 1 <= d /\ d <= 4096) (h2 : bQ l <= 8192) : szF l = bQ l := by
 unfold szF
 rw [if_neg (by simp; omega), aKI l 1 (by omega) hd (by omega), Int.one_mul]
theorem L3 (l : List Int) : 0 <= szF l := by
  rcases Int.lt_or_le (szF l) 0 with h | h
  · exfalso
    have key : ∀ (l : List Int) (acc : Int), 1 <= acc -> acc <= 8192 -> 0 <= uI acc l := by
      intro l
      induction l with
      | nil => intro acc h _; unfold uI; omega
      | cons d r ih =>
        intro acc h h2
        unfold uI
        split
        · omega
        · rename_i hn
          simp only [Bool.or_eq_true, decide_eq_true_eq, not_or] at hn
          have hb := E4 acc d 8192 4096 (by omega) (by omega) (by omega) (by omega) (by omega)
          have hw : IntKind.i64.wrap (acc * d) = acc * d := aA _ (by omega) (by omega)
          rw [hw] at hn ⊢
          have := Int.mul_pos (show 0 < acc by omega) (show 0 < d by omega)
          exact ih _ (by omega) (by omega)
    have := key l 1 (by omega) (by omega)
    unfold szF at h
    split at h <;> omega
  · exact h
theorem aMi {a b c d : Int} (h : 0 < szF [a, b, c, d]) : ∃ n m p q : Nat, a = n /\ b = m /\ c = p /\ d = q /\ 1 <= n /\ 1 <= m /\ 1 <= p /\ 1 <= q /\ n * m * p * q <= 8192 /\ szF [a, b, c, d] = ((n * m * p * q : Nat) : Int) := by
 obtain ⟨_, h2, h3, h4⟩ := RM h
 have ha := h2 a (by simp)
 have hb := h2 b (by simp)
 have hc := h2 c (by simp)
 have hd := h2 d (by simp)
 obtain ⟨n, rfl⟩ := Int.eq_ofNat_of_zero_le (show 0 <= a by omega)
 obtain ⟨m, rfl⟩ := Int.eq_ofNat_of_zero_le (show 0 <= b by omega)
 obtain ⟨p, rfl⟩ := Int.eq_ofNat_of_zero_le (show 0 <= c by omega)
 obtain ⟨q, rfl⟩ := Int.eq_ofNat_of_zero_le (show 0 <= d by omega)
 have e : bQ [(n : Int), m, p, q] = ((n * m * p * q : Nat) : Int) := by
  simp only [bQ, Int.natCast_mul, Int.mul_one, Int.mul_assoc]
 rw [h3]
 rw [e] at h4 ⊢
 exact ⟨n, m, p, q, rfl, rfl, rfl, rfl, by omega, by omega, by omega, by omega, by omega, rfl⟩
theorem aAw {n m p q : Nat} (h1 : 1 <= n /\ n <= 4096) (h2 : 1 <= m /\ m <= 4096) (h3 : 1 <= p /\ p <= 4096) (h4 : 1 <= q /\ q <= 4096) (h : n * m * p * q <= 8192) : szF [(n : Int), m, p, q] = ((n * m * p * q : Nat) : Int) := by
 have e : bQ [(n : Int), m, p, q] = ((n * m * p * q : Nat) : Int) := by
  simp only [bQ, Int.natCast_mul, Int.mul_one, Int.mul_assoc]
 rw [aIl (by simp) _ (by rw [e]; omega), e]
 intro d hd
 simp only [List.mem_cons, List.not_mem_nil, or_false] at hd
 omega
theorem aPO {c : Int} (h : 0 < szF [c]) : 1 <= c /\ c <= 4096 /\ szF [c] = c := by
 obtain ⟨_, h2, h3, h4⟩ := RM h
 have := h2 c (by simp)
 have e : bQ [c] = c := by simp [bQ]
 rw [h3, e]
 omega
theorem aMq {c : Int} (h1 : 1 <= c) (h2 : c <= 4096) : szF [c] = c := by
 have e : bQ [c] = c := by simp [bQ]
 rw [aIl (by simp) _ (by rw [e]; omega), e]
 intro d hd
 simp only [List.mem_cons, List.not_mem_nil, or_false] at hd
 omega
def qT (a : Int) : Int := aD (-4611686018427387904) (aL a 4611686018427387904)
theorem aJt {a b c : Int} {Q : Int -> Prop} (h : Q (aD b (aL a c))) : gL a b c Q := ⟨h⟩
theorem aFg {a b c : Int} {Q : Int -> Prop} (h : Q (aD b (aL a c))) : fA a b c Q := ⟨h⟩
theorem aKD {a : Int} {Q : Int -> Prop} (h : Q (qT a)) : tY a Q := ⟨⟨h⟩⟩
theorem aNF {a : Int} (h1 : -4611686018427387904 <= a) (h2 : a <= 4611686018427387904) : qT a = a := by
 unfold qT aD aL
 split <;> split <;> omega
def alF (a b c : Int) : Int :=
 let r1 := qT a
 let by_ := aD (-1000) (aL b 1000) - aD (-1000) (aL c 1000)
 if by_ < 0 then r1.fdiv (2 ^ (aL (0 - by_) 62).toNat)
 else if 20 < by_ then (if 0 < r1 then 1048576 else if r1 < 0 then -1048576 else 0)
 else aD (-1048576) (aL (aD (-1048576) (aL r1 1048576) * 2 ^ by_.toNat) 1048576)
theorem L7 (a lo hi : Int) (h : lo <= hi) : lo <= aD lo (aL a hi) /\ aD lo (aL a hi) <= hi := by
 unfold aD aL
 split <;> split <;> omega
theorem V2 (a b : Nat) (h : a <= b) : (1 : Int) <= 2 ^ a /\ (2 : Int) ^ a <= 2 ^ b := by
 have h1 : (2 : Nat) ^ a <= 2 ^ b := Nat.pow_le_pow_right (by omega) h
 have h2 : 0 < (2 : Nat) ^ a := Nat.pow_pos (by omega)
 have e : ∀ n : Nat, ((2 ^ n : Nat) : Int) = 2 ^ n := fun n => by rw [Int.natCast_pow]; rfl
 rw [<- e, <- e]
 omega
theorem aLS {a L U p : Int} (hp : 1 <= p) (hL : L <= 0) (hU : 0 <= U) (h1 : L <= a) (h2 : a <= U) : L <= a.fdiv p /\ a.fdiv p <= U := by
 rw [Int.fdiv_eq_ediv_of_nonneg _ (by omega)]
 constructor
 ·rw [Int.le_ediv_iff_mul_le (by omega)]
  have : L * p <= L * 1 := Int.mul_le_mul_of_nonpos_left hL hp
  omega
 ·have := Int.ediv_le_ediv (c := p) (by omega) h2
  have := Int.ediv_le_self (a := U) p hU
  omega
theorem V8 {a b c : Int} (h : -128 <= a /\ a <= 127) : -1048576 <= alF a b c /\ alF a b c <= 1048576 := by
 unfold alF
 rw [aNF (by omega) (by omega)]
 simp only
 generalize aD (-1000) (aL b 1000) - aD (-1000) (aL c 1000) = y
 split
 ·have := aLS (p := 2 ^ (aL (0 - y) 62).toNat) (V2 _ _ (Nat.le_refl _)).1 (by omega) (by omega) h.1 h.2
  omega
 ·split
  ·split
   ·omega
   ·split <;> omega
  ·exact L7 _ _ _ (by omega)
theorem aMv {a b c : Int} {Q : Int -> Prop} (h : Q (alF a b c)) : tJ a b c Q := by
  refine ⟨?_⟩
  refine aKD (aJt (aJt ?_))
  unfold alF at h
  simp only at h
  have hb := L7 b (-1000) 1000 (by omega)
  have hc := L7 c (-1000) 1000 (by omega)
  generalize aD (-1000) (aL b 1000) = x at *
  generalize aD (-1000) (aL c 1000) = y at *
  rw [aA (x - y) (by omega) (by omega)]
  by_cases h1 : x - y < 0
  · rw [if_pos h1] at h
    rw [if_pos (by simpa using h1), aA (0 - (x - y)) (by omega) (by omega)]
    have hs : 0 <= aL (0 - (x - y)) 62 /\ aL (0 - (x - y)) 62 <= 62 := by unfold aL; split <;> omega
    refine ⟨hs.1, ?_⟩
    rw [show min (aL (0 - (x - y)) 62).toNat (IntKind.i64).bits = (aL (0 - (x - y)) 62).toNat from Nat.min_eq_left (by show _ <= 64; omega)]
    exact h
  · rw [if_neg h1] at h
    rw [if_neg (by simpa using h1)]
    by_cases h2 : 20 < x - y
    · rw [if_pos h2] at h
      by_cases h3 : 0 < qT a
      · rw [if_pos h3] at h
        rw [if_pos (by simp [h2, h3])]
        exact h
      · rw [if_neg h3] at h
        rw [if_neg (by simp; omega)]
        by_cases h4 : qT a < 0
        · rw [if_pos h4] at h
          rw [if_pos (by simp [h2, h4])]
          exact h
        · rw [if_neg h4] at h
          rw [if_neg (by simp; omega), if_pos (by simp [h2])]
          exact h
    · rw [if_neg h2] at h
      rw [if_neg (by simp; omega), if_neg (by simp; omega), if_neg (by simp; omega)]
      refine aFg ⟨by omega, aFg ?_⟩
      have hm := L7 (qT a) (-1048576) 1048576 (by omega)
      have hp := V2 (x - y).toNat 20 (by omega)
      have := E4 (aD (-1048576) (aL (qT a) 1048576)) (2 ^ (x - y).toNat) 1048576 1048576 hm.1 hm.2 (by omega) hp.2 (by omega)
      rw [show min (x - y).toNat (IntKind.i64).bits = (x - y).toNat from Nat.min_eq_left (by show _ <= 64; omega)]
      rw [aA _ (by omega) (by omega)]
      exact h
def tU (n : Int) : Bool := (decide (0 <= n) && decide (n <= 1023)) && decide (n * 16384 + 1048576 < 16777216)
theorem aLV {n : Int} {Q : Bool -> Prop} (h : Q (tU n)) : KL n Q := by
 refine ⟨?_⟩
 unfold tU at h
 by_cases h1 : 0 <= n /\ n <= 1023
 ·rw [aA (n * 16384) (by omega) (by omega), aA _ (by omega) (by omega)]
  exact h
 ·have e : (decide (0 <= n) && decide (n <= 1023)) = false := by simp; omega
  rw [e] at h ⊢
  exact h
theorem aKU {n : Int} : tU n = true ↔ 0 <= n /\ n <= 959 := by
 unfold tU
 simp only [Bool.and_eq_true, decide_eq_true_eq]
 omega
def i3 (d : List Int) (e n : Int) : T3 × Int :=
 if (!tU n) = true then (Z3, 3)
 else if (decide (e < -128) || decide (128 < e)) = true then (Z3, 3)
 else if (!decide (0 < szF d)) = true then (Z3, 1)
 else ((d, (e, List.replicate (szF d).toNat 0)), 0)
theorem aNN {n e : Int} {d : List Int} {Q : T3 × Int -> Prop} (h : Q (i3 d e n)) : TF n e d Q := by
  refine ⟨?_⟩
  refine aLV ?_
  unfold i3 at h
  by_cases h1 : (!tU n) = true
  · rw [if_pos h1] at h; rw [if_pos (by rw [h1]; rfl)]; exact h
  · rw [if_neg h1] at h
    by_cases h2 : (decide (e < -128) || decide (128 < e)) = true
    · rw [if_pos h2] at h
      rw [if_pos (by simp only [Bool.or_eq_true, decide_eq_true_eq] at h2 ⊢; rcases h2 with h2 | h2 <;> simp [h2])]
      exact h
    · rw [if_neg h2] at h
      rw [if_neg (by simp only [Bool.or_eq_true, decide_eq_true_eq, not_or] at h1 h2 ⊢; exact ⟨⟨h1, h2.2⟩, h2.1⟩)]
      refine aBI ?_
      by_cases h3 : (!decide (0 < szF d)) = true
      · rw [if_pos h3] at h ⊢; exact h
      · rw [if_neg h3] at h ⊢
        have := Q3 d
        have := L3 d
        exact YQ ⟨⟨by omega, by omega⟩, h⟩
theorem aIS {d : List Int} {e n : Int} (h : (i3 d e n).2 = 0) : tU n = true /\ (-128 <= e /\ e <= 128) /\ 0 < szF d /\ i3 d e n = ((d, (e, List.replicate (szF d).toNat 0)), 0) := by
  unfold i3 at h ⊢
  split at h
  · cases h
  · split at h
    · cases h
    · split at h
      · cases h
      · rename_i h1 h2 h3
        rw [if_neg h1, if_neg h2, if_neg h3]
        simp at h1 h2 h3
        exact ⟨h1, by omega, by omega, rfl⟩
def B9 (l : List T3) : Int := if l.all aW = true then (if l.all (fun t => (t.1.length : Int) == 4) = true then 0 else 2) else 1
theorem aOl {l : List T3} {Q : Int -> Prop} (hl : l.length <= 1000000) (h : Q (B9 l)) : aBS l Q := by
  refine ⟨?_⟩
  unfold B9 at h
  refine ⟨?_⟩
  refine Loop.all (B := yN l (l.length : Int) _ _) l aW (K0 := Q (if l.all (fun t => (t.1.length : Int) == 4) = true then 0 else 2)) (K1 := Q 1) ?_ ?_ ?_
  · intro i hi X hX hK
    unfold yN
    rw [if_pos (by simpa using hi)]
    refine ⟨by omega, tD ?_⟩
    simp only [Int.toNat_natCast]
    have hg : l.getD i ([], 0, []) = l[i] := by rw [List.getD_eq_getElem?_getD, List.getElem?_eq_getElem hi]; rfl
    rw [hg]
    by_cases hm : aW l[i] = true
    · rw [if_neg (by simp [hm]), aA _ (by omega) (by omega)]
      exact hX hm
    · have hm : aW l[i] = false := by simpa using hm
      rw [if_pos (by simp [hm])]
      exact hK hm
  · intro hK X
    unfold yN
    rw [if_neg (by simp)]
    refine ⟨?_⟩
    refine Loop.all (B := yL l (l.length : Int) _ _) l (fun t => (t.1.length : Int) == 4) (K0 := Q 0) (K1 := Q 2) ?_ ?_ ?_
    · intro i hi X hX hK
      unfold yL
      rw [if_pos (by simpa using hi)]
      refine ⟨by omega, ?_⟩
      simp only [Int.toNat_natCast]
      have hg : l.getD i ([], 0, []) = l[i] := by rw [List.getD_eq_getElem?_getD, List.getElem?_eq_getElem hi]; rfl
      rw [hg]
      unfold bne
      by_cases hm : ((l[i].1.length : Int) == 4) = true
      · rw [if_neg (by simp [hm]), aA _ (by omega) (by omega)]
        exact hX hm
      · have hm : ((l[i].1.length : Int) == 4) = false := by simpa using hm
        rw [if_pos (by simp [hm])]
        exact hK hm
    · intro hK X
      unfold yL
      rw [if_neg (by simp)]
      exact hK
    · split <;> rename_i hh <;> simp only [hh] at hK <;> simpa using hK
  · split <;> rename_i hh <;> simp only [hh] at h <;> simpa using h
theorem aOg {a b k s p : Int} {Q : ((Int × Int × Int × Int × Int × Int × Int) × Bool) -> Prop} (h : Q ((a, (b, (k, (s, (p, (bW a k s p, bW b k s p)))))), (decide (0 < bW a k s p)) && (decide (0 < bW b k s p)))) : W3 a b k s p Q := by
 refine ⟨?_⟩
 exact ZX (ZX h)
end Go.Proofs.YtcfpfefadlnmcaaGreat

namespace Go.Proofs.YtcfpfefadlnmcaaGreat
open Go.Mach Go.RowKit
set_option maxRecDepth 100000
set_option linter.unusedVariables false
set_option linter.unusedSimpArgs false
theorem aLv (x : Int) : 0 <= IntKind.u8.wrap x /\ IntKind.u8.wrap x < 256 := by
 simp only [IntKind.wrap, IntKind.bits, IntKind.signed]
 simp
 omega
def shF (a : Int) : Int := aD 0 (aL a 62)
theorem U3 (a : Int) : 0 <= shF a /\ shF a <= 62 := by
 unfold shF aD aL
 split <;> split <;> omega
def b32 (a : Int) : Int := aD 1 (aL a 32)
theorem aG2 (a : Int) : 1 <= b32 a /\ b32 a <= 32 := by
 unfold b32 aD aL
 split <;> split <;> omega
def aCJ (a : Int) : Int := IntKind.i64.wrap ((IntKind.i64.wrap (1 * 2 ^ (min (IntKind.i64.wrap (b32 a - 1)).toNat (IntKind.i64).bits))) - 1)
def clF (a b : Int) : Int := aD (IntKind.i64.wrap (0 - aCJ b)) (aL (qT a) (aCJ b))
theorem aMa {a : Int} {Q : Int -> Prop} (h : Q (shF a)) : PG a Q := ⟨aJt h⟩
theorem aN4 {a b : Int} {Q : Int -> Prop} (h : Q (clF a b)) : PL a b Q := by
 refine ⟨aJt ⟨?_, aKD (aFg h)⟩⟩
 have := aG2 b
 show 0 <= IntKind.i64.wrap (b32 b - 1)
 rw [aA _ (by omega) (by omega)]
 omega
theorem aCW (a : Int) : -4611686018427387904 <= qT a /\ qT a <= 4611686018427387904 := by
 unfold qT aD aL
 split <;> split <;> omega
def chF (a s r : Int) : Int := (IntKind.i64.wrap (qT a + (IntKind.i64.wrap (IntKind.u64.wrap ((BitVec.ofInt (IntKind.u64).bits r &&& BitVec.ofInt (IntKind.u64).bits (IntKind.u64.wrap ((IntKind.u64.wrap (1 * 2 ^ (min (shF s).toNat (IntKind.u64).bits))) - 1))).toNat : Nat))))).fdiv (2 ^ (min (shF s).toNat (IntKind.i64).bits))
theorem aM5 {a s r : Int} {Q : Int -> Prop} (h : Q (chF a s r)) : LD a s r Q := ⟨aMa (aKD ⟨(U3 s).1, (U3 s).1, h⟩)⟩
theorem aLf {a r : Int} : chF a 0 r = qT a := by
 have e : BitVec.ofInt (IntKind.u64).bits (IntKind.u64.wrap ((IntKind.u64.wrap (1 * 2 ^ (min (shF 0).toNat (IntKind.u64).bits))) - 1)) = 0#(IntKind.u64).bits := by decide +kernel
 have e2 : (2 : Int) ^ (min (shF 0).toNat (IntKind.i64).bits) = 1 := by decide +kernel
 unfold chF
 rw [e, e2, BitVec.and_zero]
 have h := aCW a
 have e3 : IntKind.i64.wrap (IntKind.u64.wrap ((0#(IntKind.u64).bits).toNat : Nat)) = 0 := by decide +kernel
 rw [e3, Int.add_zero, aA _ (by omega) (by omega), Int.fdiv_one]
def l31 (x n : Int) : Int := IntKind.i64.wrap (n + (IntKind.i64.wrap ((lV.data.toList.getD (IntKind.u8.wrap x).toNat 0).toNat : Nat)))
def l15 (x n : Int) : Int := if 256 <= x then l31 (x.fdiv (2 ^ (min ((8 : Int)).toNat (IntKind.u64).bits))) (IntKind.i64.wrap (n + 8)) else l31 x n
def l7 (x n : Int) : Int := if 65536 <= x then l15 (x.fdiv (2 ^ (min ((16 : Int)).toNat (IntKind.u64).bits))) (IntKind.i64.wrap (n + 16)) else l15 x n
def aLk (x : Int) : Int := if 4294967296 <= x then l7 (x.fdiv (2 ^ (min ((32 : Int)).toNat (IntKind.u64).bits))) 32 else l7 x 0
theorem aOb : ∀ i : Fin 256, (lV.data.toList.getD i.1 0).toNat <= 8 := by decide +kernel
theorem aNY : lV.size = 256 := by decide +kernel
theorem aNq {x n : Int} {K : Int -> Prop} (h : K (l31 x n)) : mW x n K := by
 refine ⟨⟨?_, h⟩⟩
 rw [aNY]
 exact ⟨(aLv x).1, (aLv x).2⟩
theorem aNs {x n : Int} {K : Int -> Prop} (h : K (l15 x n)) : l8 x n K := by
 refine ⟨?_⟩
 unfold l15 at h
 by_cases e : 256 <= x
 ·rw [if_pos e] at h
  rw [if_pos (by simpa using e)]
  exact ⟨by decide, aNq h⟩
 ·rw [if_neg e] at h
  rw [if_neg (by simpa using e)]
  exact aNq h
theorem aOy {x n : Int} {K : Int -> Prop} (h : K (l7 x n)) : mB x n K := by
 refine ⟨?_⟩
 unfold l7 at h
 by_cases e : 65536 <= x
 ·rw [if_pos e] at h
  rw [if_pos (by simpa using e)]
  exact ⟨by decide, aNs h⟩
 ·rw [if_neg e] at h
  rw [if_neg (by simpa using e)]
  exact aNs h
theorem aPC {x : Int} {K : Int -> Prop} (h : K (aLk x)) : z8 x K := by
 refine ⟨?_⟩
 unfold aLk at h
 by_cases e : 4294967296 <= x
 ·rw [if_pos e] at h
  rw [if_pos (by simpa using e)]
  exact ⟨by decide, aOy h⟩
 ·rw [if_neg e] at h
  rw [if_neg (by simpa using e)]
  exact aOy h
def aM0 (a : Int) : Int := aLk (IntKind.u64.wrap (aD (qT a) (IntKind.i64.wrap (0 - qT a))))
theorem aOP {a : Int} {Q : Int -> Prop} (h : Q (aM0 a)) : TT a Q := ⟨aKD (aPC (K := Q) h)⟩
theorem aJ1 (a : Int) : ∃ v, ∀ Q : Int -> Prop, Q v -> HA a Q := ⟨_, fun Q h => ⟨⟨by decide, by decide, by decide, h⟩⟩⟩
theorem aNh (a b c : Int) : ∃ v, ∀ Q : Int -> Prop, Q v -> aBB a b c Q := by
 obtain ⟨v1, h1⟩ := aJ1 a
 obtain ⟨v2, h2⟩ := aJ1 (IntKind.u64.wrap ((BitVec.ofInt (IntKind.u64).bits v1 ^^^ BitVec.ofInt (IntKind.u64).bits b).toNat : Nat))
 obtain ⟨v3, h3⟩ := aJ1 (IntKind.u64.wrap ((BitVec.ofInt (IntKind.u64).bits v2 ^^^ BitVec.ofInt (IntKind.u64).bits c).toNat : Nat))
 exact ⟨v3, fun Q h => ⟨h1 _ (h2 _ (h3 _ h))⟩⟩
noncomputable def atF (a b c : Int) : Int := Classical.choose (aNh a b c)
theorem aPH {a b c : Int} {Q : Int -> Prop} (h : Q (atF a b c)) : aBB a b c Q := Classical.choose_spec (aNh a b c) Q h
def iU (a : List Int × Int × List Int) : Bool := (decide (0 < szF a.1) && ((a.2.2.length : Int) == szF a.1)) && XM a.2.1 128
theorem aIC {a : List Int × Int × List Int} {Q : Bool -> Prop} (h : Q (iU a)) : yO a Q := by
  refine ⟨aBI ?_⟩
  unfold jn
  dsimp only
  unfold iU at h
  cases hb : decide (0 < szF a.1) with
  | true =>
    rw [hb] at h
    rw [if_pos rfl]
    refine YQ ?_
    cases hc : ((a.2.2.length : Int) == szF a.1) with
    | true =>
      rw [hc] at h
      rw [if_pos rfl]
      exact aLr h
    | false =>
      rw [hc] at h
      rw [if_neg (by simp)]
      exact h
  | false =>
    rw [hb] at h
    rw [if_neg (by simp), if_neg (by simp)]
    exact h
theorem yQ {a : List Int × Int × List Int} (h : iU a = true) : 0 < szF a.1 /\ (a.2.2.length : Int) = szF a.1 /\ a.1 ≠ [] /\ a.1.length <= 4 /\ a.2.2.length <= 8192 := by
 unfold iU at h
 simp only [Bool.and_eq_true, decide_eq_true_eq, beq_iff_eq] at h
 obtain ⟨⟨h1, h2⟩, _⟩ := h
 have h3 := Q3 a.1
 refine ⟨h1, h2, ?_, ?_, by omega⟩
 ·intro e; rw [e] at h1; exact absurd h1 (by decide)
 ·unfold szF at h1
  split at h1
  ·omega
  ·rename_i hn
   simp only [Bool.or_eq_true, decide_eq_true_eq, not_or] at hn
   omega
def aFC (l : List Int) : Int := l.foldl (fun m x => aD m (aM0 (IntKind.i64.wrap x))) 0
theorem aCI (l : List Int) (i : Nat) (h : i < l.length) : aFC (l.take (i + 1)) = aD (aFC (l.take i)) (aM0 (IntKind.i64.wrap (l.getD i 0))) := by
 unfold aFC
 rw [List.take_add_one, List.foldl_append, List.getD_eq_getElem?_getD, List.getElem?_eq_getElem h]
 rfl
def aBZ (a : List Int × Int × List Int) : Int := if iU a = true then aFC a.2.2 else 0
theorem aNG {a : List Int × Int × List Int} {Q : Int -> Prop} (h : Q (aBZ a)) : NA a Q := by
  refine ⟨aIC (a := a) ?_⟩
  unfold aBZ at h
  cases hm : iU a with
  | false =>
    rw [hm] at h
    exact h
  | true =>
    rw [hm, if_pos rfl] at h
    rw [if_neg (by simp)]
    obtain ⟨_, _, _, _, hlen⟩ := yQ hm
    refine ⟨?_⟩
    refine Loop.range (B := pD a.2.2 (a.2.2.length : Int) fun y => Q y) a.2.2.length (fun i => (aFC (a.2.2.take i), (i : Int))) (fun _ => True) trivial ?_ ?_
    · intro i hi _ X hX
      unfold pD
      rw [if_pos (by simpa using hi)]
      refine ⟨by simp only []; omega, aOP ?_⟩
      have := hX trivial
      rw [aCI _ _ hi] at this
      simp only [Int.toNat_natCast]
      rw [aA ((i : Int) + 1) (by omega) (by omega)]
      exact this
    · intro _ X
      unfold pD
      rw [if_neg (by simp)]
      simp only [List.take_length]
      exact h
theorem EY {a : List Int} {Q : List Int -> Prop} (h1 : a.length <= 17592186044416) (h : Q a) : bF a Q := by
 refine ⟨fun e => (by rw [e] at h; exact h), ?_, h⟩
 simp only [List.length_nil]
 omega
theorem aB8 {a : List Int} {Q : List Int -> Prop} (h1 : a.length <= 140737488355328) (h : Q a) : g0 a Q := by
 refine ⟨fun e => (by rw [e] at h; exact h), ?_, h⟩
 simp only [List.length_nil]
 omega
noncomputable def aEn (b s t sh : Int) (l : List Int) (i : Nat) : Int := IntKind.i8.wrap (clF (chF (IntKind.i64.wrap (l.getD i 0)) sh (atF s t (IntKind.u64.wrap (i : Int)))) b)
noncomputable def aCP (b s t sh : Int) (l : List Int) : List Int := (List.range l.length).map (aEn b s t sh l)
def oN (a : List Int × Int × List Int) (b : Int) : Int := aD 0 (IntKind.i64.wrap (aBZ a - (IntKind.i64.wrap (b - 1))))
noncomputable def pQ (a : List Int × Int × List Int) (b s t : Int) : (List Int × Int × List Int) × Int :=
 if ((!(iU a) || (decide (b < 2))) || (decide (8 < b))) = true then (([], 0, []), 1)
 else if (!(XM (IntKind.i64.wrap (a.2.1 + oN a b)) 64)) = true then (([], 0, []), 3)
 else ((a.1, IntKind.i64.wrap (a.2.1 + oN a b), aCP b s t (oN a b) a.2.2), 0)
theorem aJl {a : List Int × Int × List Int} {b s t : Int} {Q : ((List Int × Int × List Int) × Int) -> Prop} (h : Q (pQ a b s t)) : JY a b s t Q := by
  refine ⟨?_⟩
  refine aIC (a := a) ?_
  unfold pQ at h
  by_cases e : ((!(iU a) || (decide (b < 2))) || (decide (8 < b))) = true
  · rw [if_pos e] at h ⊢; exact h
  · rw [if_neg e] at h ⊢
    have hm : iU a = true := by
      cases hm : iU a with
      | true => rfl
      | false => exfalso; apply e; rw [hm]; rfl
    obtain ⟨_, _, h3, h4, hlen⟩ := yQ hm
    refine aNG (a := a) (EY (by omega) (aLr ?_))
    show (if (!(XM (IntKind.i64.wrap (a.2.1 + oN a b)) 64)) = true then _ else _)
    by_cases e2 : (!(XM (IntKind.i64.wrap (a.2.1 + oN a b)) 64)) = true
    · rw [if_pos e2] at h ⊢; exact h
    · rw [if_neg e2] at h ⊢
      refine ⟨?_⟩
      refine Loop.range (B := pH b s t (oN a b) a.2.2 (a.2.2.length : Int) _) (f := fun i => ((i : Int), (List.range i).map (aEn b s t (oN a b) a.2.2))) a.2.2.length (fun _ => True) trivial ?_ ?_
      · intro i hi _ X hX
        unfold pH
        rw [if_pos (by simpa using hi)]
        refine ⟨by simp only []; omega, aPH (aM5 (aN4 ⟨?_, ?_⟩))⟩
        · simp only [List.length_map, List.length_range, List.length_singleton]
          omega
        · have := hX trivial
          simp only [List.range_succ, List.map_append, List.map_cons, List.map_nil] at this
          simp only [Int.toNat_natCast]
          rw [aA ((i : Int) + 1) (by omega) (by omega)]
          exact this
      · intro _ X
        unfold pH
        rw [if_neg (by simp)]
        exact h
end Go.Proofs.YtcfpfefadlnmcaaGreat

namespace Go.Proofs.YtcfpfefadlnmcaaGreat
open Go.Mach Go.RowKit
set_option maxRecDepth 100000
set_option linter.unusedVariables false
set_option linter.unusedSimpArgs false
theorem aFA {a b : List Int} {Q : Bool -> Prop} (hl : a.length <= 1000000000000000) (h : Q (decide (a = b))) : gG a b Q := by
  refine ⟨?_⟩
  by_cases e : a.length = b.length
  · rw [if_neg (by simp [e])]
    refine ⟨?_⟩
    refine Loop.range (B := fE a b (a.length : Int) (fun _ => Q true) (fun _ => Q false)) a.length (fun i => (i : Int)) (fun i => ∀ j, j < i -> a.getD j 0 = b.getD j 0) (fun j hj => absurd hj (by omega)) ?_ ?_
    · intro i hi hI X hX
      unfold fE
      rw [if_pos (decide_eq_true (show (i : Int) < (a.length : Int) by omega))]
      refine ⟨by omega, by omega, ?_⟩
      simp only [Int.toNat_natCast]
      by_cases hd : a.getD i 0 = b.getD i 0
      · rw [if_neg (by simpa using hd), aA _ (by omega) (by omega)]
        refine hX fun j hj => ?_
        by_cases hji : j = i
        · subst hji; exact hd
        · exact hI j (by omega)
      · rw [if_pos (by simpa using hd)]
        have : decide (a = b) = false := by
          simp only [decide_eq_false_iff_not]
          intro hab; exact hd (by rw [hab])
        rw [this] at h; exact h
    · intro hI X
      unfold fE
      rw [if_neg (by simp)]
      have : decide (a = b) = true := by
        simp only [decide_eq_true_eq]
        refine List.ext_getElem e fun i h1 h2 => ?_
        have := hI i h1
        rw [List.getD_eq_getElem?_getD, List.getD_eq_getElem?_getD, List.getElem?_eq_getElem h1, List.getElem?_eq_getElem h2] at this
        exact this
      rw [this] at h; exact h
  · rw [if_pos (by simp; omega)]
    have : decide (a = b) = false := by
      simp only [decide_eq_false_iff_not]
      intro hab; exact e (by rw [hab])
    rw [this] at h; exact h
theorem aCC {a b : List Int} {Q : Bool -> Prop} (hl : a.length <= 1000000000000000) (h : Q (decide (a = b))) : kH a b Q := ⟨aFA hl h⟩
theorem dT {a : T3} (h : aW a = true) : a.1.length <= 4 /\ a.2.2.length <= 8192 /\ 1 <= a.1.length /\ 1 <= a.1.getD 0 0 /\ a.1.getD 0 0 <= 4096 := by
 obtain ⟨h1, h2, _⟩ := dY.1 h
 obtain ⟨h3, h4, _⟩ := RM h1
 have h5 := Q3 a.1
 refine ⟨h3.2, by omega, h3.1, ?_⟩
 match hA : a.1 with
 | [] => rw [hA] at h3; simp at h3
 | x :: l => exact h4 x (by rw [hA]; simp)
def XJ (t : T3) (d : List Int) : T3 × Int :=
 if aW t = true /\ 0 < szF d then (if szF d = (t.2.2.length : Int) then ((d, t.2.1, t.2.2), 0) else (([], 0, []), 2)) else (([], 0, []), 1)
theorem aNJ {t : T3} {d : List Int} {Q : T3 × Int -> Prop} (hd : d.length <= 17592186044416) (h : Q (XJ t d)) : TE t d Q := by
  refine ⟨tD ?_⟩
  unfold jn
  dsimp only
  unfold XJ at h
  cases hm : aW t with
  | false =>
    rw [if_neg (by rw [hm]; simp)] at h
    rw [if_pos (by rfl), if_pos (by rfl)]
    exact h
  | true =>
    rw [if_neg (by simp)]
    refine aBI ?_
    by_cases hs : 0 < szF d
    · rw [if_pos ⟨hm, hs⟩] at h
      rw [decide_eq_true hs, if_neg (by simp)]
      refine YQ ?_
      by_cases he : szF d = (t.2.2.length : Int)
      · rw [if_pos he] at h
        rw [if_neg (by simp [he])]
        refine EY hd (aB8 ?_ h)
        have := (dT hm).2.1
        omega
      · rw [if_neg he] at h
        rw [if_pos (by simpa using he)]
        exact h
    · rw [if_neg (fun hh => hs hh.2)] at h
      rw [decide_eq_false hs, if_pos (by rfl)]
      exact h
def EP (t : T3) : T3 × Int := if aW t = true then XJ t [t.1.getD 0 0, IntKind.i64.wrap ((szF t.1).tdiv (t.1.getD 0 0))] else (([], 0, []), 1)
theorem aMB {t : T3} {Q : T3 × Int -> Prop} (h : Q (EP t)) : YA t Q := by
  refine ⟨tD ?_⟩
  unfold EP at h
  cases hm : aW t with
  | false =>
    rw [if_neg (by rw [hm]; simp)] at h
    rw [if_pos (by rfl)]
    exact h
  | true =>
    rw [if_pos hm] at h
    rw [if_neg (by simp)]
    obtain ⟨h1, h2, h3, h4, h5⟩ := dT hm
    refine ⟨by omega, YQ ⟨by omega, ⟨by omega, aNJ (by simp) ?_⟩⟩⟩
    exact h
def II (t : T3) : T3 × Int := if aW t = true then ((t.1, t.2.1, t.2.2.map (aD 0)), 0) else (([], 0, []), 1)
theorem aOX {t : T3} {Q : T3 × Int -> Prop} (h : Q (II t)) : XA t Q := by
  refine ⟨tD ?_⟩
  unfold II at h
  cases hm : aW t with
  | false =>
    rw [if_neg (by rw [hm]; simp)] at h
    rw [if_pos (by rfl)]
    exact h
  | true =>
    rw [if_pos hm] at h
    rw [if_neg (by simp)]
    obtain ⟨h1, h2, _⟩ := dT hm
    refine ⟨EY (by omega) ⟨?_⟩⟩
    try dsimp only
    refine Loop.range (B := d9 t.1 t.2.1 t.2.2 (t.2.2.length : Int) _) t.2.2.length (fun i => ((i : Int), (t.2.2.take i).map (aD 0))) (fun _ => True) trivial ?_ ?_
    · intro i hi _ X hX
      unfold d9
      dsimp only
      rw [if_pos (decide_eq_true (show (i : Int) < (t.2.2.length : Int) by omega))]
      refine ⟨⟨by omega, ?_⟩⟩
      rw [Int.toNat_natCast]
      refine ⟨by simp; omega, ?_⟩
      rw [aA _ (by omega) (by omega)]
      have e : (t.2.2.take i).map (aD 0) ++ [aD 0 (t.2.2.getD i 0)] = (t.2.2.take (i + 1)).map (aD 0) := by
        rw [List.take_add_one, List.getD_eq_getElem?_getD, List.getElem?_eq_getElem hi, List.map_append]
        rfl
      rw [e]
      exact hX trivial
    · intro _ X
      unfold d9
      dsimp only
      rw [if_neg (by simp), List.take_length]
      exact h
def aD2 (a b : T3) : Int := aD (aL a.2.1 b.2.1) (IntKind.i64.wrap (aD a.2.1 b.2.1 - 12))
def nP (a b : T3) (i : Nat) : Int := IntKind.i32.wrap (IntKind.i64.wrap (alF (IntKind.i64.wrap (a.2.2.getD i 0)) a.2.1 (aD2 a b) + alF (IntKind.i64.wrap (b.2.2.getD i 0)) b.2.1 (aD2 a b)))
def addF (a b : T3) : T3 × Int :=
 if aW a = true /\ aW b = true then (if a.1 = b.1 then ((a.1, aD2 a b, (List.range a.2.2.length).map (nP a b)), 0) else (([], 0, []), 2)) else (([], 0, []), 1)
theorem aOn {a b : T3} {Q : T3 × Int -> Prop} (h : Q (addF a b)) : aGM a b Q := by
  refine ⟨tD ?_⟩
  unfold jn
  dsimp only
  unfold addF at h
  cases hm : aW a with
  | false =>
    rw [if_neg (by rw [hm]; simp)] at h
    rw [if_pos (by rfl), if_pos (by rfl)]
    exact h
  | true =>
    rw [if_neg (by simp)]
    refine tD ?_
    cases hn : aW b with
    | false =>
      rw [if_neg (by rw [hn]; simp)] at h
      rw [if_pos (by rfl)]
      exact h
    | true =>
      rw [if_pos ⟨hm, hn⟩] at h
      rw [if_neg (by simp)]
      obtain ⟨h1, h2, _⟩ := dT hm
      obtain ⟨k1, k2, _⟩ := dT hn
      refine aCC (by omega) ?_
      by_cases he : a.1 = b.1
      · rw [if_pos he] at h
        rw [decide_eq_true he, if_neg (by simp)]
        have hlen : a.2.2.length = b.2.2.length := by
          have q1 := (dY.1 hm).2.1
          have q2 := (dY.1 hn).2.1
          rw [he] at q1
          omega
        refine EY (by omega) ⟨?_⟩
        refine Loop.range (B := A6 (a.2.2.length : Int) a.2.1 a.2.2 b.2.1 b.2.2 (aD2 a b) _) a.2.2.length (fun i => ((i : Int), (List.range i).map (nP a b))) (fun _ => True) trivial ?_ ?_
        · intro i hi _ X hX
          unfold A6
          dsimp only
          rw [if_pos (decide_eq_true (show (i : Int) < (a.2.2.length : Int) by omega))]
          refine ⟨by omega, ?_⟩
          rw [Int.toNat_natCast]
          refine aMv ⟨by omega, aMv ⟨by simp; omega, ?_⟩⟩
          rw [aA ((i : Int) + 1) (by omega) (by omega)]
          have e : (List.range i).map (nP a b) ++ [nP a b i] = (List.range (i + 1)).map (nP a b) := by
            rw [List.range_succ, List.map_append]; rfl
          have := hX trivial
          rw [<- e] at this
          exact this
        · intro _ X
          unfold A6
          dsimp only
          rw [if_neg (by simp)]
          exact h
      · rw [if_neg he] at h
        rw [decide_eq_false he, if_pos (by rfl)]
        exact h
end Go.Proofs.YtcfpfefadlnmcaaGreat

namespace Go.Proofs.YtcfpfefadlnmcaaGreat
open Go.Mach Go.RowKit
set_option maxRecDepth 100000
set_option linter.unusedVariables false
set_option linter.unusedSimpArgs false
abbrev Lay := Int × Int × Int × Int × Int × Int × Bool
abbrev Mdl := (Int × Int × Int) × List Lay
abbrev dX : Lay := (0, 0, 0, 0, 0, 0, false)
theorem SL {a lo hi : Int} {Q : Bool -> Prop} (h : Q (inP a lo hi)) : nR a lo hi Q := ⟨h⟩
def qV (a : Int × Int × Int) : Bool := (inP a.1 1 8 && inP a.2.1 1 16) && inP a.2.2 1 16
theorem aLK {a : Int × Int × Int} {Q : Bool -> Prop} (h : Q (qV a)) : LW a Q := by
  refine ⟨SL ?_⟩
  unfold jn
  dsimp only
  unfold qV at h
  cases h1 : inP a.1 1 8 with
  | false => rw [h1] at h; rw [if_neg (by simp), if_neg (by simp)]; exact h
  | true =>
    rw [h1] at h
    rw [if_pos rfl]
    refine SL ?_
    cases h2 : inP a.2.1 1 16 with
    | false => rw [h2] at h; rw [if_neg (by simp)]; exact h
    | true => rw [h2] at h; rw [if_pos rfl]; exact SL h
def aIb (x : Lay) : Bool := inP x.2.2.1 1 5 && inP x.2.2.2.1 1 4
theorem aMA {x : Lay} {Q : Bool -> Prop} (h : Q (aIb x)) : BF x Q := by
 refine ⟨SL ?_⟩
 unfold jn
 dsimp only
 unfold aIb at h
 cases h1 : inP x.2.2.1 1 5 with
 | false => rw [h1] at h; rw [if_neg (by simp)]; exact h
 | true => rw [h1] at h; rw [if_pos rfl]; exact SL h
def rB (x : Lay) (n : Int) : Bool :=
 if x.1 = 1 then inP x.2.1 1 4096 && ((x.2.2.1 == 0) && ((x.2.2.2.1 == 0) && ((x.2.2.2.2.1 == 0) && (x.2.2.2.2.2.1 == 0))))
 else if x.1 = 2 then ((inP x.2.1 1 8 && aIb x) && inP x.2.2.2.2.1 0 (IntKind.i64.wrap (x.2.2.1 - 1))) && (x.2.2.2.2.2.1 == 0)
 else if x.1 = 3 \/ x.1 = 4 then aIb x && ((x.2.1 == 0) && ((x.2.2.2.2.1 == 0) && ((x.2.2.2.2.2.1 == 0) && (x.2.2.2.2.2.2 == false))))
 else if x.1 = 5 \/ x.1 = 6 then (x.2.1 == 0) && ((x.2.2.1 == 0) && ((x.2.2.2.1 == 0) && ((x.2.2.2.2.1 == 0) && ((x.2.2.2.2.2.1 == 0) && (x.2.2.2.2.2.2 == false)))))
 else if x.1 = 7 then inP x.2.2.2.2.2.1 0 (IntKind.i64.wrap (n - 1)) && ((x.2.1 == 0) && ((x.2.2.1 == 0) && ((x.2.2.2.1 == 0) && ((x.2.2.2.2.1 == 0) && (x.2.2.2.2.2.2 == false)))))
 else false
theorem aDk {K : Unit -> Prop} (h : K ()) : qU K := ⟨h⟩
theorem aOG {x : Lay} {n : Int} {Q : Bool -> Prop} (h : Q (rB x n)) : YR x n Q := by
  obtain ⟨kd, ou, k, st, pd, fr, fz⟩ := x
  refine ⟨?_⟩
  dsimp only
  unfold rB at h
  dsimp only at h
  by_cases h1 : kd = 1
  · rw [if_pos h1] at h
    rw [if_pos (by simpa using h1)]
    refine SL (aDk ?_)
    refine cast (congrArg Q ?_) h
    simp
  rw [if_neg h1] at h
  rw [if_neg (by simpa using h1)]
  by_cases h2 : kd = 2
  · rw [if_pos h2] at h
    rw [if_pos (by simpa using h2)]
    refine SL ?_
    unfold jn
    dsimp only
    cases e1 : inP ou 1 8 with
    | false =>
      rw [e1] at h
      rw [if_neg (by simp), if_neg (by simp)]
      refine aDk (cast (congrArg Q ?_) h)
      simp
    | true =>
      rw [e1] at h
      rw [if_pos rfl]
      refine aMA ?_
      cases e2 : aIb (kd, ou, k, st, pd, fr, fz) with
      | false =>
        rw [e2] at h
        rw [if_neg (by simp)]
        refine aDk (cast (congrArg Q ?_) h)
        simp
      | true =>
        rw [e2] at h
        rw [if_pos rfl]
        refine SL (aDk (cast (congrArg Q ?_) h))
        simp
  rw [if_neg h2] at h
  rw [if_neg (by simpa using h2)]
  have fin : ∀ {b : Bool} {k' st' fr' : Int}, (b && ((kd == kd) && ((ou == 0) && ((k == k') && ((st == st') && ((pd == 0) && ((fr == fr') && ((fz == false) && (true)))))))))
      = (b && ((ou == 0) && ((k == k') && ((st == st') && ((pd == 0) && ((fr == fr') && (fz == false))))))) := by
    intro b k' st' fr'
    simp
  by_cases h3 : kd = 3
  · rw [if_pos (.inl h3)] at h
    rw [if_pos (by simpa using h3)]
    refine ⟨?_⟩
    rw [if_pos (by simpa using h3)]
    refine aMA (aDk (cast (congrArg Q ?_) h))
    rw [fin]
    simp
  rw [if_neg (by simpa using h3)]
  refine ⟨?_⟩
  by_cases h4 : kd = 4
  · rw [if_pos (.inr h4)] at h
    rw [if_pos (by simpa using h4)]
    refine aMA (aDk (cast (congrArg Q ?_) h))
    rw [fin]
    simp
  rw [if_neg (by omega)] at h
  rw [if_neg (by simpa using h4)]
  by_cases h5 : kd = 5
  · rw [if_pos (.inl h5)] at h
    rw [if_pos (by simpa using h5)]
    refine ⟨?_⟩
    rw [if_pos (by simpa using h5)]
    refine aDk (cast (congrArg Q ?_) h)
    rw [fin]
    simp
  rw [if_neg (by simpa using h5)]
  refine ⟨?_⟩
  by_cases h6 : kd = 6
  · rw [if_pos (.inr h6)] at h
    rw [if_pos (by simpa using h6)]
    refine aDk (cast (congrArg Q ?_) h)
    rw [fin]
    simp
  rw [if_neg (by omega)] at h
  rw [if_neg (by simpa using h6)]
  by_cases h7 : kd = 7
  · rw [if_pos h7] at h
    rw [if_pos (by simpa using h7)]
    refine SL (aDk (cast (congrArg Q ?_) h))
    rw [fin]
    simp
  · rw [if_neg h7] at h
    rw [if_neg (by simpa using h7)]
    refine aDk (cast (congrArg Q ?_) h)
    simp
def SV (l : List Lay) : Bool := (List.range l.length).all fun i => rB (l.getD i dX) i
def tO (m : Mdl) : Bool := (qV m.1 && inP (m.2.length : Int) 1 12) && SV m.2
theorem aOU {m : Mdl} {Q : Bool -> Prop} (hl : m.2.length <= 10000000000000) (h : Q (tO m)) : WU m Q := by
  refine ⟨aLK ?_⟩
  unfold jn
  dsimp only
  unfold tO at h
  cases h1 : qV m.1 with
  | false =>
    rw [h1] at h
    rw [if_pos (by rfl), if_pos rfl]
    exact h
  | true =>
    rw [h1] at h
    rw [if_neg (by simp)]
    refine SL ?_
    cases h2 : inP (m.2.length : Int) 1 12 with
    | false =>
      rw [h2] at h
      rw [if_pos (by rfl)]
      exact h
    | true =>
      rw [h2] at h
      rw [if_neg (by simp)]
      simp only [Bool.true_and] at h
      refine ⟨?_⟩
      refine Loop.range (B := vH m.2 (m.2.length : Int) (fun _ => Q true) (fun _ => Q false)) m.2.length (fun i => (i : Int)) (fun i => ∀ j, j < i -> rB (m.2.getD j dX) j = true) (fun j hj => absurd hj (by omega)) ?_ ?_
      · intro i hi hI X hX
        unfold vH
        rw [if_pos (decide_eq_true (show (i : Int) < (m.2.length : Int) by omega))]
        refine ⟨by omega, aOG ?_⟩
        simp only [Int.toNat_natCast]
        show if (!rB (m.2.getD i dX) i) = true then _ else _
        cases hb : rB (m.2.getD i dX) i with
        | true =>
          rw [if_neg (by simp), aA _ (by omega) (by omega)]
          refine hX fun j hj => ?_
          by_cases hji : j = i
          · subst hji; exact hb
          · exact hI j (by omega)
        | false =>
          rw [if_pos (by rfl)]
          have : SV m.2 = false := by
            unfold SV
            rw [List.all_eq_false]
            exact ⟨i, List.mem_range.2 hi, by rw [hb]; simp⟩
          rw [this] at h
          exact h
      · intro hI X
        unfold vH
        rw [if_neg (by simp)]
        have : SV m.2 = true := by
          unfold SV
          rw [List.all_eq_true]
          intro j hj
          exact hI j (List.mem_range.1 hj)
        rw [this] at h
        exact h
theorem nT {m : Mdl} (h : tO m = true) : ((1 <= m.1.1 /\ m.1.1 <= 8) /\ (1 <= m.1.2.1 /\ m.1.2.1 <= 16) /\ (1 <= m.1.2.2 /\ m.1.2.2 <= 16)) /\ (1 <= m.2.length /\ m.2.length <= 12) /\ ∀ i, i < m.2.length -> rB (m.2.getD i dX) i = true := by
 unfold tO qV inP at h
 simp only [Bool.and_eq_true, decide_eq_true_eq] at h
 refine ⟨⟨h.1.1.1.1, h.1.1.1.2, h.1.1.2⟩, by omega, fun i hi => ?_⟩
 have := h.2
 unfold SV at this
 rw [List.all_eq_true] at this
 exact this i (List.mem_range.2 hi)
def yZ (l : List Int) : Int := l.foldl (fun a x => IntKind.i64.wrap (a * x)) 1
theorem YM {l : List Int} {Q : Int -> Prop} (hl : l.length <= 10000000000000) (h : Q (yZ l)) : nV l Q := by
 refine ⟨⟨?_⟩⟩
 refine Loop.range (B := mD l (l.length : Int) _) l.length (fun i => (yZ (l.take i), (i : Int))) (fun _ => True) trivial ?_ ?_
 ·intro i hi _ X hX
  unfold mD
  dsimp only
  rw [if_pos (decide_eq_true (show (i : Int) < (l.length : Int) by omega))]
  refine ⟨by omega, ?_⟩
  rw [Int.toNat_natCast, aA ((i : Int) + 1) (by omega) (by omega)]
  have e : yZ (l.take (i + 1)) = IntKind.i64.wrap (yZ (l.take i) * l.getD i 0) := by
   unfold yZ
   rw [List.take_add_one, List.foldl_append, List.getD_eq_getElem?_getD, List.getElem?_eq_getElem hi]
   rfl
  rw [<- e]
  exact hX trivial
 ·intro _ X
  unfold mD
  dsimp only
  rw [if_neg (by simp), List.take_length]
  exact h
def kP (d : List Int) (c : Int) (x : Lay) : List Int :=
 if d.length = 3 then (if bW (d.getD 1 0) x.2.2.1 x.2.2.2.1 x.2.2.2.2.1 = 0 \/ bW (d.getD 2 0) x.2.2.1 x.2.2.2.1 x.2.2.2.2.1 = 0 then [] else [c, bW (d.getD 1 0) x.2.2.1 x.2.2.2.1 x.2.2.2.2.1, bW (d.getD 2 0) x.2.2.1 x.2.2.2.1 x.2.2.2.2.1]) else []
theorem aLq {d : List Int} {c : Int} {x : Lay} {Q : List Int -> Prop} (h : Q (kP d c x)) : qS d c x Q := by
 refine ⟨?_⟩
 unfold kP at h
 by_cases h3 : d.length = 3
 ·rw [if_pos h3] at h
  rw [if_neg (by simp [h3])]
  refine ⟨by omega, ZX ⟨by omega, ZX ?_⟩⟩
  by_cases hz : bW (d.getD 1 0) x.2.2.1 x.2.2.2.1 x.2.2.2.2.1 = 0 \/ bW (d.getD 2 0) x.2.2.1 x.2.2.2.1 x.2.2.2.2.1 = 0
  ·rw [if_pos hz] at h
   rw [if_pos (by simpa using hz)]
   exact h
  ·rw [if_neg hz] at h
   rw [if_neg (by simpa using hz)]
   exact ⟨by simp, h⟩
 ·rw [if_neg h3] at h
  rw [if_pos (by simp; omega)]
  exact h
def iM (x : Lay) (l : List (List Int)) (d : List Int) : List Int :=
 if x.1 = 1 then (if d.length = 1 then [x.2.1] else [])
 else if x.1 = 2 then kP d x.2.1 x
 else if x.1 = 3 \/ x.1 = 4 then kP d (d.getD 0 0) x
 else if x.1 = 5 then d
 else if x.1 = 6 then [yZ d]
 else if x.1 = 7 then (if l.getD x.2.2.2.2.2.1.toNat [] = d then d else [])
 else []
theorem aNP {x : Lay} {l : List (List Int)} {Q : List Int -> Prop} (hl : l ≠ []) (hn : l.length <= 1000000) (hd : (l.getD (l.length - 1) []) ≠ []) (hb : ∀ d ∈ l, d.length <= 1000000) (hx : x.1 = 7 -> 0 <= x.2.2.2.2.2.1 /\ x.2.2.2.2.2.1 < (l.length : Int))
    (h : Q (iM x l (l.getD (l.length - 1) []))) : QS x l Q := by
  have hlen : 1 <= l.length := List.length_pos_iff.2 hl
  have hw : IntKind.i64.wrap ((l.length : Int) - 1) = ((l.length - 1 : Nat) : Int) := by rw [aA _ (by omega) (by omega)]; omega
  have hdb : (l.getD (l.length - 1) []).length <= 1000000 := by
    rw [List.getD_eq_getElem?_getD, List.getElem?_eq_getElem (by omega)]
    exact hb _ (List.getElem_mem _)
  refine ⟨?_⟩
  rw [hw]
  simp only [Int.toNat_natCast]
  refine ⟨by omega, ?_⟩
  obtain ⟨d, hde⟩ : ∃ d, l.getD (l.length - 1) [] = d := ⟨_, rfl⟩
  simp only [hde] at h hd hdb ⊢
  have hd0 : 0 < (d.length : Int) := by have := List.length_pos_iff.2 hd; omega
  have pl : ∀ c, Q (kP d c x) -> qS d c x (fun r => nz r (Q []) (ck (r ≠ []) (Q r))) := by
    intro c hq
    refine aLq ⟨fun e => ?_, fun e => ⟨e, hq⟩⟩
    rw [e] at hq; exact hq
  unfold iM at h
  by_cases h1 : x.1 = 1
  · rw [if_pos h1] at h
    rw [if_pos (by simpa using h1)]
    by_cases h11 : d.length = 1
    · rw [if_pos h11] at h
      rw [if_pos (by simp [h11])]
      exact ⟨by simp, h⟩
    · rw [if_neg h11] at h
      rw [if_neg (by simp; omega)]
      exact h
  rw [if_neg h1] at h
  rw [if_neg (by simpa using h1)]
  by_cases h2 : x.1 = 2
  · rw [if_pos h2] at h
    rw [if_pos (by simpa using h2)]
    exact pl _ h
  rw [if_neg h2] at h
  rw [if_neg (by simpa using h2)]
  by_cases h3 : x.1 = 3
  · rw [if_pos (.inl h3)] at h
    rw [if_pos (by simpa using h3), if_pos (by simpa using h3)]
    exact ⟨by omega, pl _ h⟩
  rw [if_neg (by simpa using h3)]
  by_cases h4 : x.1 = 4
  · rw [if_pos (.inr h4)] at h
    rw [if_pos (by simpa using h4)]
    exact ⟨by omega, pl _ h⟩
  rw [if_neg (by omega)] at h
  rw [if_neg (by simpa using h4)]
  by_cases h5 : x.1 = 5
  · rw [if_pos h5] at h
    rw [if_pos (by simpa using h5)]
    exact EY (by omega) ⟨hd, h⟩
  rw [if_neg h5] at h
  rw [if_neg (by simpa using h5)]
  by_cases h6 : x.1 = 6
  · rw [if_pos h6] at h
    rw [if_pos (by simpa using h6)]
    exact YM (by omega) ⟨by simp, h⟩
  rw [if_neg h6] at h
  rw [if_neg (by simpa using h6)]
  by_cases h7 : x.1 = 7
  · rw [if_pos h7] at h
    rw [if_pos (by simpa using h7)]
    obtain ⟨f1, f2⟩ := hx h7
    refine ⟨⟨f1, f2⟩, aFA ?_ ?_⟩
    · rw [List.getD_eq_getElem?_getD, List.getElem?_eq_getElem (by omega)]
      have := hb _ (List.getElem_mem (l := l) (n := x.2.2.2.2.2.1.toNat) (by omega))
      simp only [Option.getD_some]
      omega
    · by_cases he : l.getD x.2.2.2.2.2.1.toNat [] = d
      · rw [if_pos he] at h
        rw [decide_eq_true he, if_pos rfl]
        exact EY (by omega) ⟨hd, h⟩
      · rw [if_neg he] at h
        rw [decide_eq_false he, if_neg (by simp)]
        exact h
  · rw [if_neg h7] at h
    rw [if_neg (by simpa using h7)]
    exact h
end Go.Proofs.YtcfpfefadlnmcaaGreat

namespace Go.Proofs.YtcfpfefadlnmcaaGreat
open Go.Mach Go.RowKit
set_option maxRecDepth 100000
set_option linter.unusedVariables false
set_option linter.unusedSimpArgs false
abbrev Prm := T3 × List Int × T3
abbrev rS : Prm := (([], 0, []), [], ([], 0, []))
def gY : List Lay -> Int -> List (List Int) -> List (List Int) × Int × Int
  | [], _, l => (l, 0, 0)
  | x :: r, i, l =>
    if iM x l (l.getD (l.length - 1) []) = [] then ([], i + 1, 2)
    else if 8192 < yZ (iM x l (l.getD (l.length - 1) [])) then ([], i + 1, 1)
    else gY r (i + 1) (l ++ [iM x l (l.getD (l.length - 1) [])])
def inL (m : Mdl) : List Int := [m.1.1, m.1.2.1, m.1.2.2]
def bX (m : Mdl) : List (List Int) × Int × Int :=
 if tO m = true then (if 8192 < yZ (inL m) then ([], 0, 1) else gY m.2 0 [inL m]) else ([], 0, 1)
theorem ZK (d : List Int) (c : Int) (x : Lay) : (kP d c x).length <= 3 := by
 unfold kP
 split
 ·split <;> simp
 ·simp
theorem aDH {x : Lay} {l : List (List Int)} {d : List Int} (hd : d.length <= 3) : (iM x l d).length <= 3 := by
 unfold iM
 split
 ·split <;> simp
 split
 ·exact ZK _ _ _
 split
 ·exact ZK _ _ _
 split
 ·exact hd
 split
 ·simp
 split
 ·split
  ·exact hd
  ·simp
 ·simp
theorem KO {x : Lay} {n : Int} (h : rB x n = true) (h7 : x.1 = 7) : 0 <= x.2.2.2.2.2.1 /\ x.2.2.2.2.2.1 <= IntKind.i64.wrap (n - 1) := by
 unfold rB at h
 rw [if_neg (by omega), if_neg (by omega), if_neg (by omega), if_neg (by omega), if_pos h7] at h
 unfold inP at h
 simp only [Bool.and_eq_true, decide_eq_true_eq] at h
 exact h.1
structure ShOk (l : List (List Int)) (n : Nat) : Prop where
 len : l.length = n
 ne : ∀ d ∈ l, d ≠ [] /\ d.length <= 3
theorem ShOk.last {l : List (List Int)} {n : Nat} (h : ShOk l n) (hn : 0 < n) : l.getD (l.length - 1) [] ∈ l := by
 have := h.len
 rw [List.getD_eq_getElem?_getD, List.getElem?_eq_getElem (by omega)]
 exact List.getElem_mem _
theorem ShOk.at_ {l : List (List Int)} {n : Nat} (h : ShOk l n) {i : Nat} (hi : i < n) : l.getD i [] ≠ [] /\ (l.getD i []).length <= 3 := by
 have := h.len
 rw [List.getD_eq_getElem?_getD, List.getElem?_eq_getElem (by omega)]
 exact h.ne _ (List.getElem_mem _)
theorem ShOk.push {l : List (List Int)} {n : Nat} (h : ShOk l n) (hn : 0 < n) {x : Lay} (hg : iM x l (l.getD (l.length - 1) []) ≠ []) : ShOk (l ++ [iM x l (l.getD (l.length - 1) [])]) (n + 1) where
 len := by simp [h.len]
 ne := fun d hd => by
  rcases List.mem_append.1 hd with hd | hd
  ·exact h.ne d hd
  ·rw [List.mem_singleton] at hd
   subst hd
   exact ⟨hg, aDH (h.ne _ (h.last hn)).2⟩
theorem aH5 {m : Mdl} {Q : List (List Int) × Int × Int -> Prop} (hl : m.2.length <= 10000000000000) (h : Q (bX m)) : BE m Q := by
  refine ⟨aOU hl ?_⟩
  unfold bX at h
  show if (!tO m) = true then _ else _
  by_cases hm : tO m = true
  rotate_left
  · rw [if_neg hm] at h
    rw [if_pos (by simp [hm])]
    exact h
  rw [if_pos hm] at h
  rw [if_neg (by simp [hm])]
  obtain ⟨hin, hlen, hlay⟩ := nT hm
  refine ⟨by simp, YM (by simp) ?_⟩
  show if decide (8192 < yZ (inL m)) = true then _ else _
  by_cases hp : 8192 < yZ (inL m)
  · rw [if_pos hp] at h
    rw [if_pos (decide_eq_true hp)]
    exact h
  rw [if_neg hp] at h
  rw [if_neg (by simpa using hp)]
  refine ⟨?_⟩
  obtain ⟨z, hz⟩ : ∃ z, gY m.2 0 [inL m] = z := ⟨_, rfl⟩
  rw [hz] at h
  refine Loop.rangeI (B := pL m.2 (m.2.length : Int) _ _) m.2.length (fun i s => s.1 = (i : Int) /\ ShOk s.2 (i + 1) /\ gY (m.2.drop i) i s.2 = z) ⟨rfl, ⟨rfl, fun d hd => ?_⟩, hz⟩ ?_ ?_
  · rw [List.mem_singleton] at hd
    subst hd
    exact ⟨by simp, by simp⟩
  · rintro i hi ⟨s1, l⟩ ⟨rfl, hsh, hgo⟩ X hX
    dsimp only at hsh hgo
    unfold pL
    dsimp only
    rw [if_pos (decide_eq_true (show (i : Int) < (m.2.length : Int) by omega))]
    refine ⟨by omega, ?_⟩
    simp only [Int.toNat_natCast]
    have hdrop : m.2.drop i = m.2.getD i dX :: m.2.drop (i + 1) := by
      rw [List.drop_eq_getElem_cons hi, List.getD_eq_getElem?_getD, List.getElem?_eq_getElem hi]; rfl
    rw [hdrop] at hgo
    have hne : l ≠ [] := by intro e; have := hsh.len; rw [e] at this; simp at this
    have hL := hsh.last (by omega)
    refine aNP hne (by rw [hsh.len]; omega) (hsh.ne _ hL).1 (fun d hd => by have := (hsh.ne d hd).2; omega) (fun h7 => ?_) ?_
    · have := KO (hlay i hi) h7
      rw [hsh.len]
      rw [aA _ (by omega) (by omega)] at this
      show 0 <= (m.2.getD i dX).2.2.2.2.2.1 /\ (m.2.getD i dX).2.2.2.2.2.1 < _
      omega
    unfold gY at hgo
    show nz (iM (m.2.getD i dX) l (l.getD (l.length - 1) [])) _ _
    generalize hg : iM (m.2.getD i dX) l (l.getD (l.length - 1) []) = g at hgo ⊢
    refine ⟨fun e => ?_, fun e => ⟨fun e2 => absurd e2 e, ?_⟩⟩
    · rw [if_pos e] at hgo
      subst hgo
      rw [aA _ (by omega) (by omega)]
      exact h
    · rw [if_neg e] at hgo
      have hg3 : g.length <= 3 := by rw [<- hg]; exact aDH (hsh.ne _ hL).2
      refine YM (by omega) ?_
      by_cases hq : 8192 < yZ g
      · rw [if_pos hq] at hgo
        subst hgo
        rw [if_pos (decide_eq_true hq), aA _ (by omega) (by omega)]
        exact h
      · rw [if_neg hq] at hgo
        rw [if_neg (by simpa using hq)]
        refine ⟨by rw [hsh.len]; simp; omega, ?_⟩
        refine hX _ ⟨by dsimp only; rw [aA _ (by omega) (by omega)]; omega, ?_, by dsimp only; exact_mod_cast hgo⟩
        dsimp only
        have := hsh.push (by omega) (x := m.2.getD i dX) (by rw [hg]; exact e)
        rwa [hg] at this
  · rintro ⟨s1, l⟩ ⟨rfl, hsh, hgo⟩ X
    unfold pL
    dsimp only at hgo ⊢
    rw [if_neg (by simp)]
    rw [List.drop_length] at hgo
    unfold gY at hgo
    subst hgo
    exact h
theorem ZW : ∀ (r : List Lay) (i : Int) (l : List (List Int)) (n : Nat), ShOk l n -> 0 < n -> (gY r i l).2.2 = 0 -> ShOk (gY r i l).1 (n + r.length)
  | [], i, l, n, h, _, _ => h
  | x :: r, i, l, n, h, hn, h0 => by
    unfold gY at h0 ⊢
    split at h0
    · cases h0
    · rename_i hg
      rw [if_neg hg]
      split at h0
      · cases h0
      · rename_i hp
        rw [if_neg hp]
        have := ZW r (i + 1) _ (n + 1) (h.push hn hg) (by omega) h0
        rw [List.length_cons, show n + (r.length + 1) = n + 1 + r.length by omega]
        exact this
theorem DL {m : Mdl} (h : (bX m).2.2 = 0) : tO m = true /\ ShOk (bX m).1 (m.2.length + 1) := by
 unfold bX at h ⊢
 split at h
 ·rename_i hm
  rw [if_pos hm]
  split at h
  ·cases h
  ·rename_i hp
   rw [if_neg hp]
   have := ZW m.2 0 [inL m] 1 ⟨rfl, fun d hd => by rw [List.mem_singleton] at hd; subst hd; exact ⟨by simp [inL], by simp [inL]⟩⟩ (by omega) h
   rw [Nat.add_comm]
   exact ⟨hm, this⟩
 ·cases h
def ofF (x : Lay) (d : List Int) : List Int × Int :=
 if x.1 = 1 then ([x.2.1, d.getD 0 0], x.2.1) else if x.1 = 2 then ([x.2.1, d.getD 0 0, x.2.2.1, x.2.2.1], x.2.1) else ([], 0)
def AV (m : Mdl) (i : Int) : List Int × Int :=
 if (((bX m).2.2 != 0) || decide (i < 1) || decide ((m.2.length : Int) < i)) = true then ([], 0)
 else if 0 < szF (ofF (m.2.getD (i - 1).toNat dX) ((bX m).1.getD (i - 1).toNat [])).1 then ofF (m.2.getD (i - 1).toNat dX) ((bX m).1.getD (i - 1).toNat []) else ([], 0)
theorem aKA : szF [] = 0 := rfl
theorem aOk {m : Mdl} {i : Int} {Q : List Int × Int -> Prop} (hl : m.2.length <= 10000000000000) (hd : (AV m i).1 = [] -> Q (AV m i)) (h : (AV m i).1 ≠ [] -> Q (AV m i)) : QU m i Q := by
 have h : Q (AV m i) := by
  by_cases e : (AV m i).1 = []
  ·exact hd e
  ·exact h e
 clear hd
 refine ⟨aH5 hl ?_⟩
 unfold AV at h
 by_cases h1 : (((bX m).2.2 != 0) || decide (i < 1) || decide ((m.2.length : Int) < i)) = true
 ·rw [if_pos h1] at h
  rw [if_pos h1]
  exact h
 rw [if_neg h1] at h
 rw [if_neg h1]
 simp only [Bool.or_eq_true, bne_iff_ne, decide_eq_true_eq, not_or, ne_eq, Decidable.not_not] at h1
 obtain ⟨hm, hok⟩ := DL h1.1.1
 have hw : IntKind.i64.wrap (i - 1) = i - 1 := aA _ (by omega) (by omega)
 rw [hw]
 have hol := hok.len
 have hat := hok.at_ (i := (i - 1).toNat) (by omega)
 refine ⟨by omega, by show _ /\ _ < ((bX m).1.length : Int); omega, ?_⟩
 show W4 (m.2.getD (i - 1).toNat dX) ((bX m).1.getD (i - 1).toNat []) _
 generalize m.2.getD (i - 1).toNat dX = x at h ⊢
 generalize (bX m).1.getD (i - 1).toNat [] = d at h hat ⊢
 have hd0 : 0 < (d.length : Int) := by have := List.length_pos_iff.2 hat.1; omega
 have fin : ∀ r : List Int × Int, r.1 ≠ [] -> r.1.length <= 4 -> Q (if 0 < szF r.1 then r else ([], 0)) -> nz r.1 (lC [] fun r3 => if (!r3) = true then Q ([], 0) else Q ([], r.2)) (lC r.1 fun r3 => if (!r3) = true then Q ([], 0) else ck (r.1 ≠ []) (Q (r.1, r.2))) := by
  intro r hr hr4 hq
  refine ⟨fun e => absurd e hr, fun e => aBI ?_⟩
  by_cases hs : 0 < szF r.1
  ·rw [if_pos hs] at hq
   rw [decide_eq_true hs, if_neg (by simp)]
   exact ⟨hr, hq⟩
  ·rw [if_neg hs] at hq
   rw [decide_eq_false hs, if_pos (by rfl)]
   exact hq
 refine ⟨?_⟩
 unfold ofF at h
 by_cases k1 : x.1 = 1
 ·simp only [if_pos k1] at h
  rw [if_pos (by simpa using k1)]
  exact ⟨by omega, by simp, fin ([x.2.1, d.getD 0 0], x.2.1) (by simp) (by simp) h⟩
 simp only [if_neg k1] at h
 rw [if_neg (by simpa using k1)]
 by_cases k2 : x.1 = 2
 ·simp only [if_pos k2] at h
  rw [if_pos (by simpa using k2)]
  exact ⟨by omega, by simp, fin ([x.2.1, d.getD 0 0, x.2.2.1, x.2.2.1], x.2.1) (by simp) (by simp) h⟩
 ·simp only [if_neg k2] at h
  rw [if_neg (by simpa using k2)]
  refine ⟨fun _ => aBI ?_, fun e => absurd rfl e⟩
  rw [aKA, if_pos (by rfl)]
  rw [aKA, if_neg (by omega)] at h
  exact h
end Go.Proofs.YtcfpfefadlnmcaaGreat

namespace Go.Proofs.YtcfpfefadlnmcaaGreat
open Go.Mach Go.RowKit
set_option maxRecDepth 100000
set_option linter.unusedVariables false
set_option linter.unusedSimpArgs false
def oT (a : Int) : Bool := decide (a < -1048576) || decide (1048576 < a)
theorem aNB {a : Int} {Q : Bool -> Prop} (h : Q (oT a)) : M7 a Q := ⟨h⟩
theorem aJC {l : List Int} {Q : Bool -> Prop} (hl : l.length <= 10000000000000) (h : Q (l.any oT)) : aP l Q := by
  refine ⟨⟨⟨?_⟩⟩⟩
  refine Loop.range (B := bC l (l.length : Int) _ _) l.length (fun i => (i : Int)) (fun i => ∀ j, j < i -> oT (l.getD j 0) = false) (fun j hj => absurd hj (by omega)) ?_ ?_
  · intro i hi hI X hX
    unfold bC
    rw [if_pos (decide_eq_true (show (i : Int) < (l.length : Int) by omega))]
    refine ⟨by omega, aNB ?_⟩
    simp only [Int.toNat_natCast]
    cases hb : oT (l.getD i 0) with
    | true =>
      rw [if_pos rfl]
      have : l.any oT = true := by
        rw [List.any_eq_true]
        refine ⟨l[i], List.getElem_mem _, ?_⟩
        rw [List.getD_eq_getElem?_getD, List.getElem?_eq_getElem hi] at hb
        exact hb
      rw [this] at h
      rw [decide_eq_true (show (0 : Int) <= (i : Int) by omega)]
      exact h
    | false =>
      rw [if_neg (by simp), aA _ (by omega) (by omega)]
      refine hX fun j hj => ?_
      by_cases hji : j = i
      · subst hji; exact hb
      · exact hI j (by omega)
  · intro hI X
    unfold bC
    rw [if_neg (by simp)]
    have : l.any oT = false := by
      rw [List.any_eq_false]
      intro x hx
      obtain ⟨j, hj, rfl⟩ := List.mem_iff_getElem.1 hx
      have := hI j hj
      rw [List.getD_eq_getElem?_getD, List.getElem?_eq_getElem hj] at this
      simpa using this
    rw [this] at h
    exact h
def ZD (p : Prm) : Bool :=
 (((IntKind.i64.wrap ((IntKind.i64.wrap ((IntKind.i64.wrap ((IntKind.i64.wrap ((p.1.1.length : Int) + (p.1.2.2.length : Int))) + (p.2.1.length : Int))) + (p.2.2.1.length : Int))) + (p.2.2.2.2.length : Int))) == 0) && (p.1.2.1 == 0)) && (p.2.2.2.1 == 0)
def okP (x : Lay) (dn : List Int × Int) (p : Prm) : Bool :=
 if dn.1 = [] then (ZD p && !(x.1 == 1)) && !(x.1 == 2)
 else ((((aW p.1 && aW p.2.2) && decide (p.1.1 = dn.1)) && decide (p.2.2.1 = [dn.2])) && ((p.2.1.length : Int) == (p.1.2.2.length : Int))) && !(p.2.1.any oT)
def U0 (m : Mdl) (l : List Prm) : Bool := (List.range l.length).all fun i => okP (m.2.getD i dX) (AV m ((i : Int) + 1)) (l.getD i rS)
def N3 (m : Mdl) (l : List Prm) : Bool := (((bX m).2.2 == 0) && ((l.length : Int) == (m.2.length : Int))) && U0 m l
theorem aOz {x : Lay} {dn : List Int × Int} {p : Prm} {s : Int} {A B : Prop} (hA : okP x dn p = true -> A) (hB : okP x dn p = false -> B) {nx : Int -> Prop} (hn : nx (IntKind.i64.wrap (s + 1)) = A) {K1 : Unit -> Prop} (hK : K1 () = B) :
    nz dn.1 (pR p (fun (r3 : Bool) => if (((!r3) || (x.1 == 1)) || (x.1 == 2)) = true then K1 () else eH s (fun y4 => nx y4)))
      (nq dn.1 (pR p (fun (r3 : Bool) => if (((!r3) || (x.1 == 1)) || (x.1 == 2)) = true then K1 () else eH s (fun y4 => nx y4)))
        (cF p.1 (fun (r7 : Bool) => jn (fun (v8 : Bool) => jn (fun (v11 : Bool) => jn (fun (v14 : Bool) => jn (fun (v17 : Bool) => if v17 = true then K1 () else eH s (fun y20 => nx y20)) (fun J18 => if (v14 || ((p.2.1.length : Int) != (p.1.2.2.length : Int))) = true then J18 true else aP p.2.1 (fun (r19 : Bool) => J18 r19))) (fun J15 => if v11 = true then J15 true else kH p.2.2.1 [dn.2] (fun (r16 : Bool) => J15 (!r16)))) (fun J12 => if v8 = true then J12 true else kH p.1.1 dn.1 (fun (r13 : Bool) => J12 (!r13)))) (fun J9 => if (!r7) = true then J9 true else cF p.2.2 (fun (r10 : Bool) => J9 (!r10)))))) := by
  subst hn hK
  unfold okP at hA hB
  refine ⟨fun e => ?_, fun e => ⟨fun e2 => absurd e2 e, tD ?_⟩⟩
  · rw [if_pos e] at hA hB
    refine ⟨?_⟩
    show if (((!ZD p) || (x.1 == 1)) || (x.1 == 2)) = true then K1 () else _
    cases h1 : ((ZD p && !(x.1 == 1)) && !(x.1 == 2)) with
    | true =>
      have := hA h1
      rw [if_neg (by simpa [and_assoc] using h1)]
      exact ⟨this⟩
    | false =>
      rw [if_pos]
      · exact hB h1
      · revert h1
        cases ZD p <;> cases (x.1 == 1) <;> cases (x.1 == 2) <;> simp
  · rw [if_neg e] at hA hB
    unfold jn
    dsimp only
    have no : (((((aW p.1 && aW p.2.2) && decide (p.1.1 = dn.1)) && decide (p.2.2.1 = [dn.2])) && ((p.2.1.length : Int) == (p.1.2.2.length : Int))) && !(p.2.1.any oT)) = false -> K1 () := hB
    cases m1 : aW p.1 with
    | false =>
      rw [m1] at no
      simp only [Bool.not_false, Bool.true_or, if_true]
      exact no (by simp)
    | true =>
      rw [if_neg (by simp)]
      refine tD ?_
      cases m2 : aW p.2.2 with
      | false =>
        rw [m2] at no
        simp only [Bool.not_false, Bool.true_or, if_true]
        exact no (by simp)
      | true =>
        rw [if_neg (by simp)]
        obtain ⟨l1, l2, _⟩ := dT m1
        obtain ⟨k1, k2, _⟩ := dT m2
        refine aCC (by omega) ?_
        by_cases e1 : p.1.1 = dn.1
        rotate_left
        · rw [decide_eq_false e1]
          simp only [Bool.not_false, Bool.true_or, if_true]
          exact no (by simp [e1])
        rw [decide_eq_true e1, if_neg (by simp)]
        refine aCC (by omega) ?_
        by_cases e2 : p.2.2.1 = [dn.2]
        rotate_left
        · rw [decide_eq_false e2]
          simp only [Bool.not_false, Bool.true_or, if_true]
          exact no (by simp [e2])
        rw [decide_eq_true e2]
        by_cases e3 : p.2.1.length = p.1.2.2.length
        rotate_left
        · rw [if_pos (by simp; omega), if_pos rfl]
          refine no ?_
          have : ((p.2.1.length : Int) == (p.1.2.2.length : Int)) = false := by simp; omega
          rw [this]
          simp
        rw [if_neg (by simp [e3])]
        refine aJC (by omega) ?_
        cases hg : p.2.1.any oT with
        | true =>
          rw [if_pos rfl]
          exact no (by rw [hg]; simp)
        | false =>
          rw [if_neg (by simp)]
          refine ⟨hA ?_⟩
          rw [m1, m2, decide_eq_true e1, decide_eq_true e2, hg]
          simp [e3]
theorem aMG {m : Mdl} {l : List Prm} {Q : Bool -> Prop} (hl : m.2.length <= 10000000000000) (h : Q (N3 m l)) : TO m l Q := by
  refine ⟨aH5 hl ?_⟩
  unfold N3 at h
  show if (((bX m).2.2 != 0) || ((l.length : Int) != (m.2.length : Int))) = true then Q false else _
  by_cases h1 : (bX m).2.2 = 0 /\ l.length = m.2.length
  rotate_left
  · have e : (((bX m).2.2 == 0) && ((l.length : Int) == (m.2.length : Int))) = false := by
      rw [Bool.eq_false_iff]
      intro hh
      simp only [Bool.and_eq_true, beq_iff_eq] at hh
      exact h1 ⟨hh.1, by omega⟩
    rw [e] at h
    rw [if_pos]
    · exact h
    · simp only [Bool.or_eq_true, bne_iff_ne, ne_eq]
      by_cases e1 : (bX m).2.2 = 0
      · right; intro e2; exact h1 ⟨e1, by omega⟩
      · exact .inl e1
  have e : (((bX m).2.2 == 0) && ((l.length : Int) == (m.2.length : Int))) = true := by simp [h1.1, h1.2]
  rw [e, Bool.true_and] at h
  rw [if_neg (by simp [h1.1, h1.2])]
  obtain ⟨hm, hok⟩ := DL h1.1
  have hlen := (nT hm).2.1
  refine ⟨?_⟩
  refine Loop.range (B := sS l (l.length : Int) m.1.1 m.1.2.1 m.1.2.2 m.2 (fun _ => Q true) (fun _ => Q false)) l.length (fun i => (i : Int)) (fun i => ∀ j, j < i -> okP (m.2.getD j dX) (AV m ((j : Int) + 1)) (l.getD j rS) = true) (fun j hj => absurd hj (by omega)) ?_ ?_
  · intro i hi hI X hX
    unfold sS
    rw [if_pos (decide_eq_true (show (i : Int) < (l.length : Int) by omega))]
    simp only [Int.toNat_natCast]
    have hw : IntKind.i64.wrap ((i : Int) + 1) = (i : Int) + 1 := aA _ (by omega) (by omega)
    refine ⟨by omega, ?_⟩
    have hq : ∀ d : List Int × Int, d = AV m ((i : Int) + 1) -> nz d.1 (ck ((0 : Int) <= (i : Int) /\ (i : Int) < (m.2.length : Int)) (pR (l.getD i rS) (fun (r3 : Bool) => if (((!r3) || ((m.2.getD i dX).1 == 1)) || ((m.2.getD i dX).1 == 2)) = true then Q false else eH (i : Int) (fun y4 => X y4))))
      (nq d.1 (ck ((0 : Int) <= (i : Int) /\ (i : Int) < (m.2.length : Int)) (pR (l.getD i rS) (fun (r3 : Bool) => if (((!r3) || ((m.2.getD i dX).1 == 1)) || ((m.2.getD i dX).1 == 2)) = true then Q false else eH (i : Int) (fun y4 => X y4))))
        (cF (l.getD i rS).1 (fun (r7 : Bool) => jn (fun (v8 : Bool) => jn (fun (v11 : Bool) => jn (fun (v14 : Bool) => jn (fun (v17 : Bool) => if v17 = true then Q false else eH (i : Int) (fun y20 => X y20)) (fun J18 => if (v14 || (((l.getD i rS).2.1.length : Int) != ((l.getD i rS).1.2.2.length : Int))) = true then J18 true else aP (l.getD i rS).2.1 (fun (r19 : Bool) => J18 r19))) (fun J15 => if v11 = true then J15 true else kH (l.getD i rS).2.2.1 [d.2] (fun (r16 : Bool) => J15 (!r16)))) (fun J12 => if v8 = true then J12 true else kH (l.getD i rS).1.1 d.1 (fun (r13 : Bool) => J12 (!r13)))) (fun J9 => if (!r7) = true then J9 true else cF (l.getD i rS).2.2 (fun (r10 : Bool) => J9 (!r10)))))) := by
      intro d hd
      have key := aOz (x := m.2.getD i dX) (dn := d) (p := l.getD i rS) (s := (i : Int)) (A := X (IntKind.i64.wrap ((i : Int) + 1))) (B := Q false) (nx := X) (K1 := fun _ => Q false) (fun hk => by
        rw [hw]
        refine hX fun j hj => ?_
        by_cases hji : j = i
        · subst hji; rw [<- hd]; exact hk
        · exact hI j (by omega)) (fun hk => by
        have : U0 m l = false := by
          unfold U0
          rw [List.all_eq_false]
          exact ⟨i, List.mem_range.2 hi, by rw [<- hd, hk]; simp⟩
        rw [this] at h
        exact h) rfl rfl
      exact ⟨fun e => ⟨by omega, key.1 e⟩, fun e => ⟨fun e2 => absurd e2 e, (key.2 e).2⟩⟩
    rw [hw]
    exact aOk hl (fun _ => hq _ rfl) (fun _ => hq _ rfl)
  · intro hI X
    unfold sS
    rw [if_neg (by simp)]
    have : U0 m l = true := by
      unfold U0
      rw [List.all_eq_true]
      intro j hj
      exact hI j (List.mem_range.1 hj)
    rw [this] at h
    exact h
theorem aIJ {a lo hi : Int} {Q : Bool -> Prop} (h : Q (inP a lo hi)) : yG a lo hi Q := ⟨h⟩
def EA (a b c : Int) : Int := if ((inP a 0 1000000 && inP b 0 12) && inP c 0 15) = true then a * 1024 + b * 16 + c else 0
theorem aKK {a b c : Int} {Q : Int -> Prop} (h : Q (EA a b c)) : uY a b c Q := by
  refine ⟨aIJ ?_⟩
  unfold jn
  dsimp only
  unfold EA at h
  cases h1 : inP a 0 1000000 with
  | false =>
    rw [h1] at h
    simp only [Bool.not_false, if_true]
    exact h
  | true =>
    rw [h1] at h
    rw [if_neg (by simp)]
    refine aIJ ?_
    cases h2 : inP b 0 12 with
    | false =>
      rw [h2] at h
      simp only [Bool.not_false, if_true]
      exact h
    | true =>
      rw [h2] at h
      rw [if_neg (by simp)]
      refine aIJ ?_
      cases h3 : inP c 0 15 with
      | false =>
        rw [h3] at h
        rw [if_pos (by rfl)]
        exact h
      | true =>
        rw [h3, if_pos (by rfl)] at h
        rw [if_neg (by simp)]
        unfold inP at h1 h2 h3
        simp only [Bool.and_eq_true, decide_eq_true_eq] at h1 h2 h3
        rw [aA (a * 1024) (by omega) (by omega), aA (b * 16) (by omega) (by omega), aA (a * 1024 + b * 16) (by omega) (by omega), aA _ (by omega) (by omega)]
        have : IntKind.u64.wrap (a * 1024 + b * 16 + c) = a * 1024 + b * 16 + c := by
          simp only [IntKind.wrap, IntKind.bits, IntKind.signed]
          simp
          omega
        rw [this]
        exact h
end Go.Proofs.YtcfpfefadlnmcaaGreat

namespace Go.Proofs.YtcfpfefadlnmcaaGreat
open Go.Mach Go.RowKit
set_option maxRecDepth 100000
set_option linter.unusedVariables false
set_option linter.unusedSimpArgs false
def InP (K plane : Nat) (l : List (Int × Int × Int)) : Prop := ∀ z ∈ l, ∃ a r c : Nat, z = ((a : Int), (r : Int), (c : Int)) /\ a < plane /\ r < K /\ c < K
theorem aLe {rows cols cr cc : Int} {k m : Nat} {z : Int × Int × Int} (h : z ∈ RZ rows cols cr cc k m) : ∃ i j : Nat, i < m /\ j < k /\ (0 <= cr + i /\ cr + i <= rows - 1) /\ (0 <= cc + j /\ cc + j <= cols - 1) /\ z = ((cr + i) * cols + (cc + j), (i : Int), (j : Int)) := by
 unfold RZ n7 at h
 simp only [List.mem_flatMap, List.mem_range] at h
 obtain ⟨i, hi, j, hj, hz⟩ := h
 unfold uT at hz
 split at hz
 ·rename_i hin
  simp only [Bool.and_eq_true] at hin
  refine ⟨i, j, hi, hj, by simpa [inP] using hin.1, by simpa [inP] using hin.2, by simpa using hz⟩
 ·simp at hz
theorem aMo {rows cols : Nat} {cr cc : Int} {k m K : Nat} (hm : m <= K) (hk : k <= K) : InP K (rows * cols) (RZ rows cols cr cc k m) := by
 intro z hz
 obtain ⟨i, j, hi, hj, h1, h2, rfl⟩ := aLe hz
 obtain ⟨y, hy⟩ := Int.eq_ofNat_of_zero_le h1.1
 obtain ⟨x, hx⟩ := Int.eq_ofNat_of_zero_le h2.1
 refine ⟨y * cols + x, i, j, ?_, l0 (by omega) (by omega), by omega, by omega⟩
 rw [hy, hx, Int.natCast_add, Int.natCast_mul]
theorem TG {rows cols K : Nat} {r c s p : Int} : InP K (rows * cols) (dG rows cols r c K s p) := by
 unfold dG
 split
 ·intro z hz; simp at hz
 ·rw [Int.toNat_natCast]; exact aMo (Nat.le_refl _) (Nat.le_refl _)
theorem QE {rows cols r c s p : Int} {K : Nat} : (dG rows cols r c K s p).length <= K * K := by
 unfold dG
 split
 ·simp
 ·rw [Int.toNat_natCast]; exact UT K
def LJ (xd wd : List Int) (C plane K m o c : Nat) (z : Int × Int × Int) : Int := xd.getD ((m * C + c) * plane + z.1.toNat) 0 * wd.getD (((o * C + c) * K + z.2.1.toNat) * K + z.2.2.toNat) 0
theorem aPa {C K plane m o c n O : Nat} {xd wd : List Int} {l : List (Int × Int × Int)} {t : Int} {K0 : Int -> Prop} (hx : xd.length = n * C * plane) (hw : wd.length = O * C * K * K) (bx : n * C * plane <= 8192) (bw : O * C * K * K <= 8192) (ax : All8 xd) (aw : All8 wd) (hm : m < n) (ho : o < O) (hc : c < C) (hl : InP K plane l) (hll : l.length <= 1000000)
  (h : K0 (IntKind.i64.wrap (t + WA l (LJ xd wd C plane K m o c)))) : zS C K plane m o c (l.length : Int) xd wd l K0 (IntKind.i64.wrap t, 0) := by
 refine ⟨?_⟩
 have eg : (IntKind.i64.wrap t, (0 : Int)) = (fun i : Nat => (IntKind.i64.wrap (t + cE (fun i => LJ xd wd C plane K m o c (l.getD i (0, 0, 0))) i), (i : Int))) 0 := by simp [cE]
 rw [eg]
 refine Loop.range (B := pJ C K plane m o c (l.length : Int) xd wd l K0) (f := fun i : Nat => (IntKind.i64.wrap (t + cE (fun i => LJ xd wd C plane K m o c (l.getD i (0, 0, 0))) i), (i : Int))) l.length (fun _ => True) trivial ?_ ?_
 ·intro i hi _ X hX
  have hX := hX trivial
  unfold pJ
  rw [if_pos (decide_eq_true (show (i : Int) < (l.length : Int) by omega))]
  dsimp only at hX ⊢
  refine ⟨by omega, ?_⟩
  rw [Int.toNat_natCast]
  obtain ⟨a, r, q, ez, ha, hr, hq⟩ := hl (l.getD i (0, 0, 0)) (by rw [List.getD_eq_getElem?_getD, List.getElem?_eq_getElem hi]; exact List.getElem_mem hi)
  have g1 : (m * C + c) * plane + a < n * C * plane := l0 (l0 hm hc) ha
  have g2 : ((o * C + c) * K + r) * K + q < O * C * K * K := l0 (l0 (l0 ho hc) hr) hq
  have g3 : m * C + c < n * C := l0 hm hc
  have g4 : n * C <= n * C * plane := Nat.le_mul_of_pos_right _ (by omega)
  have g5 : (o * C + c) * K + r < O * C * K := l0 (l0 ho hc) hr
  have g6 : O * C * K <= O * C * K * K := Nat.le_mul_of_pos_right _ (by omega)
  have g7 : o * C + c < O * C := l0 ho hc
  have g8 : O * C <= O * C * K := Nat.le_mul_of_pos_right _ (by omega)
  have ef : LJ xd wd C plane K m o c (l.getD i (0, 0, 0)) = xd.getD ((m * C + c) * plane + a) 0 * wd.getD (((o * C + c) * K + r) * K + q) 0 := by
   unfold LJ; rw [ez]; simp only [Int.toNat_natCast]
  simp only [cE, ef] at hX
  rw [ez]
  dsimp only
  rw [ix (r := m) (n := C) (i := c) (by omega), ix (r := m * C + c) (n := plane) (i := a) (by omega), ix (r := o) (n := C) (i := c) (by omega), ix (r := o * C + c) (n := K) (i := r) (by omega), ix (r := (o * C + c) * K + r) (n := K) (i := q) (by omega)]
  refine ⟨by omega, by omega, ?_⟩
  simp only [Int.toNat_natCast]
  have b1 := ax.at_ ((m * C + c) * plane + a)
  have b2 := aw.at_ (((o * C + c) * K + r) * K + q)
  have b3 := aK6 b1 b2
  rw [aA (xd.getD ((m * C + c) * plane + a) 0) (by omega) (by omega), aA (wd.getD (((o * C + c) * K + r) * K + q) 0) (by omega) (by omega), aA (_ * _) (by omega) (by omega), aA ((i : Int) + 1) (by omega) (by omega), aEp, Int.add_assoc]
  exact hX
 ·intro _ X
  unfold pJ
  rw [if_neg (by simp)]
  rw [RK l _ (0, 0, 0)] at h
  exact h
theorem aP6 {C K plane m o n O : Nat} {xd wd : List Int} {l : List (Int × Int × Int)} {t : Int} {K0 : Int -> Prop} (hx : xd.length = n * C * plane) (hw : wd.length = O * C * K * K) (bx : n * C * plane <= 8192) (bw : O * C * K * K <= 8192) (ax : All8 xd) (aw : All8 wd) (hm : m < n) (ho : o < O) (hl : InP K plane l) (hll : l.length <= 1000000) (hC : C <= 10000)
  (h : K0 (IntKind.i64.wrap (t + cE (fun c => WA l (LJ xd wd C plane K m o c)) C))) : AF C K plane m o C xd wd l K0 (IntKind.i64.wrap t, 0) := by
 refine ⟨?_⟩
 have eg : (IntKind.i64.wrap t, (0 : Int)) = (fun i : Nat => (IntKind.i64.wrap (t + cE (fun c => WA l (LJ xd wd C plane K m o c)) i), (i : Int))) 0 := by simp [cE]
 rw [eg]
 refine Loop.range (B := pG C K plane m o C xd wd l K0) (f := fun i : Nat => (IntKind.i64.wrap (t + cE (fun c => WA l (LJ xd wd C plane K m o c)) i), (i : Int))) C (fun _ => True) trivial ?_ ?_
 ·intro c hc _ X hX
  have hX := hX trivial
  unfold pG
  rw [if_pos (decide_eq_true (show (c : Int) < (C : Int) by omega))]
  dsimp only at hX ⊢
  refine aPa hx hw bx bw ax aw hm ho hc hl hll ?_
  rw [aA ((c : Int) + 1) (by omega) (by omega), Int.add_assoc]
  exact hX
 ·intro _ X
  unfold pG
  rw [if_neg (by simp)]
  exact h
section
variable {n C O K H V P Q : Nat} {s p : Int} {xd wd bd : List Int} {be e : Int}
def pC (H V C K : Nat) (s p : Int) (xd wd bd : List Int) (be e : Int) (m o y x : Nat) : Int := IntKind.i32.wrap (alF (bd.getD o 0) be e + cE (fun c => WA (dG H V y x K s p) (LJ xd wd C (H * V) K m o c)) C)
structure FwdIn (n C O K H V P Q : Nat) (xd wd bd : List Int) : Prop where
 hx : xd.length = n * C * (H * V)
 hw : wd.length = O * C * K * K
 bx : n * C * (H * V) <= 8192
 bw : O * C * K * K <= 8192
 ax : All8 xd
 aw : All8 wd
 ab : All8 bd
 hb : bd.length = O
 hK : K <= 5
 hC : 1 <= C
 hn : 1 <= n
 hO : 1 <= O
 h0 : 1 <= K
 bo : n * O * P * Q <= 8192
theorem FwdIn.le {n C O K H V P Q : Nat} {xd wd bd : List Int} (g : FwdIn n C O K H V P Q xd wd bd) : C <= 8192 /\ O <= 8192 := by
 have h1 := g.bw
 have h2 := g.h0
 have h3 := g.hO
 have h4 := g.hC
 have h5 : O * C <= O * C * K := Nat.le_mul_of_pos_right _ h2
 have h6 : O * C * K <= O * C * K * K := Nat.le_mul_of_pos_right _ h2
 have h7 : C <= O * C := Nat.le_mul_of_pos_left _ h3
 have h8 : O <= O * C := Nat.le_mul_of_pos_right _ h4
 omega
theorem aP4 (g : FwdIn n C O K H V P Q xd wd bd) {C0 : Nat -> Nat -> Nat -> Nat -> Prop} {L : List Int} {m y x : Nat} {K0 : List Int -> Prop} (hm : m < n) (hy : y < P) (hx : x < Q) (hL : Fill n O P Q (pC H V C K s p xd wd bd be e) C0 L)
  (h : ∀ L', Fill n O P Q (pC H V C K s p xd wd bd be e) (fun m' o' y' x' => C0 m' o' y' x' \/ (m' = m /\ y' = y /\ x' = x)) L' -> K0 L') :
  zV C O K ((H * V : Nat) : Int) y x m O xd wd be bd P Q e (dG H V y x K s p) K0 (0, L) := by
 refine ⟨?_⟩
 have hle := g.le
 have hbo := g.bo
 refine Loop.rangeI (B := pM C O K ((H * V : Nat) : Int) y x m O xd wd be bd P Q e (dG H V y x K s p) K0) O (fun i st => st.1 = (i : Int) /\ Fill n O P Q (pC H V C K s p xd wd bd be e) (fun m' o' y' x' => C0 m' o' y' x' \/ (m' = m /\ y' = y /\ x' = x /\ o' < i)) st.2) ⟨rfl, hL.mono fun m' o' y' x' _ _ _ _ hc => hc.elim id fun h => absurd h.2.2.2 (by omega)⟩ ?_ ?_
 ·rintro o ho ⟨o', M⟩ ⟨e1, hM⟩ X hX
  simp only at e1 hM
  subst e1
  unfold pM
  rw [if_pos (decide_eq_true (show (o : Int) < (O : Int) by omega))]
  dsimp only
  refine ⟨by rw [g.hb]; omega, ?_⟩
  rw [Int.toNat_natCast]
  have bb := g.ab.at_ o
  rw [aA (bd.getD o 0) (by omega) (by omega)]
  refine aMv ?_
  have ba := V8 (b := be) (c := e) bb
  have hK := g.hK
  have hKK : K * K <= 5 * 5 := Nat.mul_le_mul hK hK
  have hwl := QE (rows := H) (cols := V) (r := y) (c := x) (s := s) (p := p) (K := K)
  have e0 : (alF (bd.getD o 0) be e, (0 : Int)) = (IntKind.i64.wrap (alF (bd.getD o 0) be e), (0 : Int)) := by rw [aA _ (by omega) (by omega)]
  rw [e0]
  refine aP6 g.hx g.hw g.bx g.bw g.ax g.aw hm ho TG (by omega) (by omega) ?_
  have g1 := aB1 (P := P) (Q := Q) hm ho hy hx
  unfold ix4 at g1
  have g2 : m * O + o <= (m * O + o) * P := Nat.le_mul_of_pos_right _ (by omega)
  have g3 : (m * O + o) * P + y <= ((m * O + o) * P + y) * Q := Nat.le_mul_of_pos_right _ (by omega)
  rw [ix (r := m) (n := O) (i := o) (by omega), ix (r := m * O + o) (n := P) (i := y) (by omega), ix (r := (m * O + o) * P + y) (n := Q) (i := x) (by omega)]
  refine ⟨by rw [hM.len]; omega, ?_⟩
  rw [Int.toNat_natCast, aA ((o : Int) + 1) (by omega) (by omega), aJy]
  refine hX _ ⟨by simp, ?_⟩
  refine hM.set hm ho hy hx rfl fun m' o' y' x' _ _ _ _ hc => ?_
  rcases hc with hc | ⟨c1, c2, c3, c4⟩
  ·exact .inl (.inl hc)
  ·rcases Nat.lt_or_ge o' o with c5 | c5
   ·exact .inl (.inr ⟨c1, c2, c3, c5⟩)
   ·exact .inr ⟨c1, by omega, c2, c3⟩
 ·rintro ⟨o', M⟩ ⟨e1, hM⟩ X
  simp only at e1 hM
  subst e1
  unfold pM
  rw [if_neg (by simp)]
  exact h _ (hM.mono fun m' o' y' x' _ h2 _ _ hc => hc.elim .inl fun ⟨a, b, c⟩ => .inr ⟨a, b, c, h2⟩)
theorem aPe (g : FwdIn n C O K H V P Q xd wd bd) {C0 : Nat -> Nat -> Nat -> Nat -> Prop} {L : List Int} {y x : Nat} {K0 : List Int -> Prop} (hn : n <= 8192) (hy : y < P) (hx : x < Q) (hL : Fill n O P Q (pC H V C K s p xd wd bd be e) C0 L)
  (h : ∀ L', Fill n O P Q (pC H V C K s p xd wd bd be e) (fun m' o' y' x' => C0 m' o' y' x' \/ (y' = y /\ x' = x)) L' -> K0 L') :
  AP C O K ((H * V : Nat) : Int) y x n xd wd be bd P Q e (dG H V y x K s p) K0 (0, L) := by
 refine ⟨?_⟩
 refine Loop.rangeI (B := o8 C O K ((H * V : Nat) : Int) y x n xd wd be bd P Q e (dG H V y x K s p) K0) n (fun i st => st.1 = (i : Int) /\ Fill n O P Q (pC H V C K s p xd wd bd be e) (fun m' o' y' x' => C0 m' o' y' x' \/ (y' = y /\ x' = x /\ m' < i)) st.2) ⟨rfl, hL.mono fun m' o' y' x' _ _ _ _ hc => hc.elim id fun h => absurd h.2.2 (by omega)⟩ ?_ ?_
 ·rintro m hm ⟨m', M⟩ ⟨e1, hM⟩ X hX
  simp only at e1 hM
  subst e1
  unfold o8
  rw [if_pos (decide_eq_true (show (m : Int) < (n : Int) by omega))]
  refine aP4 g hm hy hx hM fun L' hL' => ?_
  dsimp only
  rw [aA ((m : Int) + 1) (by omega) (by omega)]
  refine hX _ ⟨by simp, hL'.mono fun m' o' y' x' _ _ _ _ hc => ?_⟩
  rcases hc with hc | ⟨c1, c2, c3⟩
  ·exact .inl (.inl hc)
  ·rcases Nat.lt_or_ge m' m with c5 | c5
   ·exact .inl (.inr ⟨c1, c2, c5⟩)
   ·exact .inr ⟨by omega, c1, c2⟩
 ·rintro ⟨m', M⟩ ⟨e1, hM⟩ X
  simp only at e1 hM
  subst e1
  unfold o8
  rw [if_neg (by simp)]
  exact h _ (hM.mono fun m' o' y' x' h2 _ _ _ hc => hc.elim .inl fun ⟨a, b⟩ => .inr ⟨a, b, h2⟩)
theorem aP8 (g : FwdIn n C O K H V P Q xd wd bd) {C0 : Nat -> Nat -> Nat -> Nat -> Prop} {L : List Int} {y : Nat} {K0 : List Int -> Prop} (hn : n <= 8192) (hQ : Q <= 8192) (hy : y < P) (hL : Fill n O P Q (pC H V C K s p xd wd bd be e) C0 L)
  (h : ∀ L', Fill n O P Q (pC H V C K s p xd wd bd be e) (fun m' o' y' x' => C0 m' o' y' x' \/ y' = y) L' -> K0 L') :
  z9 n C O K ((H * V : Nat) : Int) y Q xd wd be bd H V K s p P Q e K0 (0, L) := by
 refine ⟨?_⟩
 refine Loop.rangeI (B := o9 n C O K ((H * V : Nat) : Int) y Q xd wd be bd H V K s p P Q e K0) Q (fun i st => st.1 = (i : Int) /\ Fill n O P Q (pC H V C K s p xd wd bd be e) (fun m' o' y' x' => C0 m' o' y' x' \/ (y' = y /\ x' < i)) st.2) ⟨rfl, hL.mono fun m' o' y' x' _ _ _ _ hc => hc.elim id fun h => absurd h.2 (by omega)⟩ ?_ ?_
 ·rintro x hx ⟨x', M⟩ ⟨e1, hM⟩ X hX
  simp only at e1 hM
  subst e1
  unfold o9
  rw [if_pos (decide_eq_true (show (x : Int) < (Q : Int) by omega))]
  refine ⟨?_⟩
  refine aBD ?_
  refine aPe g hn hy hx hM fun L' hL' => ?_
  dsimp only
  rw [aA ((x : Int) + 1) (by omega) (by omega)]
  refine hX _ ⟨by simp, hL'.mono fun m' o' y' x' _ _ _ _ hc => ?_⟩
  rcases hc with hc | ⟨c1, c2⟩
  ·exact .inl (.inl hc)
  ·rcases Nat.lt_or_ge x' x with c5 | c5
   ·exact .inl (.inr ⟨c1, c5⟩)
   ·exact .inr ⟨c1, by omega⟩
 ·rintro ⟨x', M⟩ ⟨e1, hM⟩ X
  simp only at e1 hM
  subst e1
  unfold o9
  rw [if_neg (by simp)]
  exact h _ (hM.mono fun m' o' y' x' _ _ _ h2 hc => hc.elim .inl fun a => .inr ⟨a, h2⟩)
theorem aP7 (g : FwdIn n C O K H V P Q xd wd bd) {L : List Int} {K0 : List Int -> Prop} (hn : n <= 8192) (hQ : Q <= 8192) (hP : P <= 8192) (hL : L.length = n * O * P * Q)
  (h : K0 (aH3 n O P Q (pC H V C K s p xd wd bd be e))) :
  AJ n C O K ((H * V : Nat) : Int) P xd wd be bd H V K s p P Q e K0 (0, L) := by
 refine ⟨?_⟩
 refine Loop.rangeI (B := pE n C O K ((H * V : Nat) : Int) P xd wd be bd H V K s p P Q e K0) P (fun i st => st.1 = (i : Int) /\ Fill n O P Q (pC H V C K s p xd wd bd be e) (fun m' o' y' x' => y' < i) st.2) ⟨rfl, hL, fun m' o' y' x' _ _ _ _ hc => absurd hc (by omega)⟩ ?_ ?_
 ·rintro y hy ⟨y', M⟩ ⟨e1, hM⟩ X hX
  simp only at e1 hM
  subst e1
  unfold pE
  rw [if_pos (decide_eq_true (show (y : Int) < (P : Int) by omega))]
  refine aP8 g hn hQ hy hM fun L' hL' => ?_
  dsimp only
  rw [aA ((y : Int) + 1) (by omega) (by omega)]
  refine hX _ ⟨by simp, hL'.mono fun m' o' y' x' _ _ _ _ hc => ?_⟩
  rcases Nat.lt_or_ge y' y with c5 | c5
  ·exact .inl c5
  ·exact .inr (by omega)
 ·rintro ⟨y', M⟩ ⟨e1, hM⟩ X
  simp only at e1 hM
  subst e1
  unfold pE
  rw [if_neg (by simp)]
  rw [hM.all fun _ _ y' _ _ _ hy _ => hy]
  exact h
end
open Go.Mach Go.RowKit
set_option maxRecDepth 100000
set_option linter.unusedVariables false
set_option linter.unusedSimpArgs false
theorem aP1 {l : List Int} (h : (l.length : Int) = 4) : ∃ a b c d, l = [a, b, c, d] := by
 match l, h with
 | [a, b, c, d], _ => exact ⟨a, b, c, d, rfl⟩
 | [], h => simp at h
 | [_], h => simp at h
 | [_, _], h => simp at h
 | [_, _, _], h => simp at h
 | _ :: _ :: _ :: _ :: _ :: r, h => simp at h; omega
theorem len1 {l : List Int} (h : (l.length : Int) = 1) : ∃ a, l = [a] := by
 match l, h with
 | [a], _ => exact ⟨a, rfl⟩
 | [], h => simp at h
 | _ :: _ :: r, h => simp at h; omega
theorem aI8 {l : List T3} (h : B9 l = 0) : ∀ t ∈ l, aW t = true /\ (t.1.length : Int) = 4 := by
 unfold B9 at h
 split at h
 ·split at h
  ·rename_i h1 h2
   intro t ht
   exact ⟨List.all_eq_true.1 h1 t ht, by have := List.all_eq_true.1 h2 t ht; simpa using this⟩
  ·cases h
 ·cases h
theorem aMT {t : T3} (h : aW t = true) (hl : (t.1.length : Int) = 4) : ∃ n m p q : Nat, t.1 = [(n : Int), (m : Int), (p : Int), (q : Int)] /\ 1 <= n /\ 1 <= m /\ 1 <= p /\ 1 <= q /\ n * m * p * q <= 8192 /\ t.2.2.length = n * m * p * q /\ -64 <= t.2.1 /\ t.2.1 <= 64 := by
 obtain ⟨h1, h2, h3, h4⟩ := dY.1 h
 obtain ⟨a, b, c, d, e⟩ := aP1 hl
 rw [e] at h1 h2
 obtain ⟨n, m, p, q, rfl, rfl, rfl, rfl, g1, g2, g3, g4, g5, g6⟩ := aMi h1
 rw [g6] at h2
 exact ⟨n, m, p, q, e, g1, g2, g3, g4, g5, by omega, h3.1, h3.2⟩
theorem aPV {t : T3} (h : aW t = true) (hl : (t.1.length : Int) = 1) : ∃ n : Nat, t.1 = [(n : Int)] /\ 1 <= n /\ n <= 4096 /\ t.2.2.length = n := by
 obtain ⟨h1, h2, h3, h4⟩ := dY.1 h
 obtain ⟨a, e⟩ := len1 hl
 rw [e] at h1 h2
 obtain ⟨g1, g2, g3⟩ := aPO h1
 obtain ⟨n, rfl⟩ := Int.eq_ofNat_of_zero_le (show 0 <= a by omega)
 rw [g3] at h2
 exact ⟨n, e, by omega, by omega, by omega⟩
theorem yF {n k s p : Int} (h : 0 < bW n k s p) : (1 <= n /\ n <= 16) /\ (1 <= k /\ k <= 5) /\ (1 <= s /\ s <= 4) /\ (0 <= p /\ p <= k - 1) /\ k <= n + 2 * p /\ bW n k s p = (n + 2 * p - k) / s + 1 := by
 have hb := (pZ n k s p).2.2 (by omega)
 obtain ⟨b1, b2, b3, b4, b5⟩ := MI hb
 refine ⟨b1, b2, b3, b4, b5, ?_⟩
 unfold bW
 rw [hb, if_neg (by simp)]
theorem EI {n k s p : Int} : ∃ P : Nat, bW n k s p = P /\ P <= 25 := by
 obtain ⟨h1, h2, _⟩ := pZ n k s p
 obtain ⟨P, e⟩ := Int.eq_ofNat_of_zero_le h1
 exact ⟨P, e, by omega⟩
def ES (x w b : T3) (s p : Int) : Bool :=
 (((!(decide (0 < bW (x.1.getD 2 0) (w.1.getD 2 0) s p) && decide (0 < bW (x.1.getD 3 0) (w.1.getD 2 0) s p)) || (w.1.getD 1 0 != x.1.getD 1 0)) || (w.1.getD 3 0 != w.1.getD 2 0)) || ((b.1.length : Int) != 1)) || (b.1.getD 0 0 != w.1.getD 0 0)
def Q8 (x w : T3) (s p : Int) : List Int := [x.1.getD 0 0, w.1.getD 0 0, bW (x.1.getD 2 0) (w.1.getD 2 0) s p, bW (x.1.getD 3 0) (w.1.getD 2 0) s p]
def aMO (x w : T3) : Int := x.1.getD 1 0 * w.1.getD 2 0 * w.1.getD 2 0
def UV (x w b : T3) (s p : Int) : Int :=
 if (!aW b) = true then 1
 else if (B9 [x, w] != 0) = true then B9 [x, w]
 else if ES x w b s p = true then 2
 else (i3 (Q8 x w s p) (x.2.1 + w.2.1) (aMO x w)).2
def aC6 (x w b : T3) (s p : Int) : List Int :=
  aH3 (x.1.getD 0 0).toNat (w.1.getD 0 0).toNat (bW (x.1.getD 2 0) (w.1.getD 2 0) s p).toNat (bW (x.1.getD 3 0) (w.1.getD 2 0) s p).toNat
    (pC (x.1.getD 2 0).toNat (x.1.getD 3 0).toNat (x.1.getD 1 0).toNat (w.1.getD 2 0).toNat s p x.2.2 w.2.2 b.2.2 b.2.1 (x.2.1 + w.2.1))
def Q9 (x w b : T3) (s p : Int) : T3 × Int := if (UV x w b s p != 0) = true then (Z3, UV x w b s p) else ((Q8 x w s p, (x.2.1 + w.2.1, aC6 x w b s p)), 0)
theorem aCM {a b : Int} : (a != b) = false ↔ a = b := by simp
theorem aNv {x w b : T3} {s p : Int} {Q : T3 × Int -> Prop} (ax : All8 x.2.2) (aw : All8 w.2.2) (ab : All8 b.2.2) (hq : Q (Q9 x w b s p)) : MD x w b s p Q := by
  refine ⟨?_⟩
  refine tD ?_
  unfold Q9 UV at hq
  by_cases h1 : (!aW b) = true
  · rw [if_pos h1]
    simp only [h1, if_true] at hq
    exact hq
  · rw [if_neg h1]
    simp only [h1, Bool.false_eq_true, if_false] at hq
    refine aOl (by simp) ?_
    show (if (B9 [x, w] != 0) = true then _ else _)
    by_cases h2 : (B9 [x, w] != 0) = true
    · rw [if_pos h2]
      simp only [h2, if_true] at hq
      exact hq
    · rw [if_neg h2]
      simp only [h2, Bool.false_eq_true, if_false] at hq
      have hz : B9 [x, w] = 0 := by simpa using h2
      have hzz := aI8 hz
      obtain ⟨mx, lx⟩ := hzz x (by simp)
      obtain ⟨mw, lw⟩ := hzz w (by simp)
      obtain ⟨n, C, H, V, ex, x1, x2, x3, x4, x5, x6, x7, x8⟩ := aMT mx lx
      obtain ⟨O, C', K, K', ew, w1, w2, w3, w4, w5, w6, w7, w8⟩ := aMT mw lw
      refine ⟨by omega, by omega, by omega, by omega, by omega, by omega, aOg ?_⟩
      refine AX (b := !(decide (0 < bW (x.1.getD 2 0) (w.1.getD 2 0) s p) && decide (0 < bW (x.1.getD 3 0) (w.1.getD 2 0) s p))) (c := w.1.getD 1 0 != x.1.getD 1 0) (fun _ P hp => ⟨by omega, hp⟩) (fun v4 e4 => ?_) rfl
      refine AX (c := w.1.getD 3 0 != w.1.getD 2 0) (fun _ P hp => ⟨by omega, hp⟩) (fun v6 e6 => ?_) rfl
      refine AX (b := v6 || ((b.1.length : Int) != 1)) (c := b.1.getD 0 0 != w.1.getD 0 0) (fun hb P hp => ⟨by simp only [Bool.or_eq_false_iff, aCM] at hb; omega, hp⟩) (fun v8 e8 => ?_) rfl
      have hv : v8 = ES x w b s p := by rw [e8, e6, e4]; rfl
      rw [<- hv] at hq
      cases v8 with
      | true => exact hq
      | false =>
        rw [if_neg (by simp)]
        simp only [Bool.false_eq_true, if_false] at hq
        have hv2 := hv.symm
        unfold ES at hv2
        simp only [Bool.or_eq_false_iff, aCM, Bool.not_eq_false', Bool.and_eq_true, decide_eq_true_eq] at hv2
        obtain ⟨⟨⟨⟨⟨o1, o2⟩, c1⟩, c2⟩, c3⟩, c4⟩ := hv2
        obtain ⟨O', eb, b1, b2, b3⟩ := aPV (by simpa using h1) c3
        simp only [ex, ew, eb, List.getD_cons_zero, List.getD_cons_succ] at o1 o2 c1 c2 c4
        have ec : C' = C := by omega
        have ek : K' = K := by omega
        have eo : O' = O := by omega
        subst ec ek eo
        obtain ⟨a1, a2, a3, a4, a5, a6⟩ := yF o1
        obtain ⟨d1, d2, d3, d4, d5, d6⟩ := yF o2
        obtain ⟨P, eP, hP⟩ := EI (n := H) (k := K') (s := s) (p := p)
        obtain ⟨R, eR, hR⟩ := EI (n := V) (k := K') (s := s) (p := p)
        have hC : C' <= 8192 := by
          have : C' <= n * C' := Nat.le_mul_of_pos_left _ (by omega)
          have : n * C' <= n * C' * H := Nat.le_mul_of_pos_right _ (by omega)
          have : n * C' * H <= n * C' * H * V := Nat.le_mul_of_pos_right _ (by omega)
          omega
        have hn : n <= 8192 := by
          have : n <= n * C' := Nat.le_mul_of_pos_right _ (by omega)
          have : n * C' <= n * C' * H := Nat.le_mul_of_pos_right _ (by omega)
          have : n * C' * H <= n * C' * H * V := Nat.le_mul_of_pos_right _ (by omega)
          omega
        have k1 : C' * K' <= 8192 * 5 := Nat.mul_le_mul hC (by omega)
        have k2 : C' * K' * K' <= 8192 * 5 * 5 := Nat.mul_le_mul k1 (by omega)
        have k3 : H * V <= 16 * 16 := Nat.mul_le_mul (by omega) (by omega)
        unfold aMO Q8 aC6 at hq
        simp only [ex, ew, List.getD_cons_zero, List.getD_cons_succ, eP, eR] at hq ⊢
        refine ⟨?_⟩
        rw [U5 (r := C') (n := K') (by omega), U5 (r := C' * K') (n := K') (by omega), aA (x.2.1 + w.2.1) (by omega) (by omega)]
        rw [<- Int.natCast_mul, <- Int.natCast_mul] at hq
        refine aNN ?_
        by_cases h9 : (i3 [(n : Int), (O' : Int), (P : Int), (R : Int)] (x.2.1 + w.2.1) ((C' * K' * K' : Nat) : Int)).2 = 0
        · obtain ⟨f1, f2, f3, f4⟩ := aIS h9
          rw [f4] at hq ⊢
          simp only [bne_self_eq_false, Bool.false_eq_true, if_false] at hq ⊢
          obtain ⟨n', m', p', q', e1, e2, e3, e4, _, _, _, _, s5, s6⟩ := aMi f3
          have e1 : n' = n := by omega
          have e2 : m' = O' := by omega
          have e3 : p' = P := by omega
          have e4 : q' = R := by omega
          subst e1 e2 e3 e4
          rw [s6]
          have g : FwdIn n' C' m' K' H V p' q' x.2.2 w.2.2 b.2.2 := ⟨by rw [x6]; exact Nat.mul_assoc _ _ _, w6, by rw [<- Nat.mul_assoc]; exact x5, by omega, ax, aw, ab, b3, by omega, by omega, by omega, by omega, by omega, s5⟩
          rw [U5 (r := H) (n := V) (by omega)]
          refine aP7 g (by omega) (by omega) (by omega) ?_ ?_
          · rw [Int.toNat_natCast]; simp
          · simp only [Int.toNat_natCast] at hq
            exact hq
        · rw [if_pos (by simpa using h9)]
          rw [if_pos (by simpa using h9)] at hq
          have : (i3 [(n : Int), (O' : Int), (P : Int), (R : Int)] (x.2.1 + w.2.1) ((C' * K' * K' : Nat) : Int)).1 = Z3 := by
            unfold i3 at h9 ⊢
            split
            · rfl
            · split
              · rfl
              · split
                · rfl
                · rename_i g1 g2 g3
                  rw [if_neg g1, if_neg g2, if_neg g3] at h9
                  exact absurd rfl h9
          dsimp only
          rw [this]
          exact hq
end Go.Proofs.YtcfpfefadlnmcaaGreat
namespace Go.Proofs.YtcfpfefadlnmcaaGreat
end Go.Proofs.YtcfpfefadlnmcaaGreat

namespace Go.Proofs.YtcfpfefadlnmcaaGreat
open Go.Mach Go.RowKit
set_option maxRecDepth 100000
set_option linter.unusedVariables false
set_option linter.unusedSimpArgs false
theorem aLs (r c : Int) (h : 0 < szF [r, c]) : 1 <= r /\ r <= 4096 /\ 1 <= c /\ c <= 4096 /\ r * c <= 8192 /\ szF [r, c] = r * c := by
 have e : szF [r, c] = if ((decide (r < 1) || decide (4096 < r)) || decide (8192 < IntKind.i64.wrap (1 * r))) = true then 0 else if ((decide (c < 1) || decide (4096 < c)) || decide (8192 < IntKind.i64.wrap (IntKind.i64.wrap (1 * r) * c))) = true then 0 else IntKind.i64.wrap (IntKind.i64.wrap (1 * r) * c) := rfl
 rw [e] at h ⊢
 by_cases h1 : ((decide (r < 1) || decide (4096 < r)) || decide (8192 < IntKind.i64.wrap (1 * r))) = true
 ·rw [if_pos h1] at h; omega
 ·rw [if_neg h1] at h ⊢
  simp only [Bool.or_eq_true, decide_eq_true_eq, not_or] at h1
  rw [Int.one_mul, aA r (by omega) (by omega)] at h h1 ⊢
  by_cases h2 : ((decide (c < 1) || decide (4096 < c)) || decide (8192 < IntKind.i64.wrap (r * c))) = true
  ·rw [if_pos h2] at h; omega
  ·rw [if_neg h2] at h ⊢
   simp only [Bool.or_eq_true, decide_eq_true_eq, not_or] at h2
   have := E4 r c 4096 4096 (by omega) (by omega) (by omega) (by omega) (by omega)
   rw [aA (r * c) (by omega) (by omega)] at h2 h ⊢
   omega
def A1 (R C : Nat) (f : Nat -> Nat -> Int) : List Int := (List.range R).flatMap fun r => (List.range C).map (f r)
theorem TC (R C : Nat) (f : Nat -> Nat -> Int) : A1 (R + 1) C f = A1 R C f ++ (List.range C).map (f R) := by
 unfold A1
 rw [List.range_succ, List.flatMap_append]
 simp
theorem YC (R C : Nat) (f : Nat -> Nat -> Int) : (A1 R C f).length = R * C := by
 induction R with
 | zero => simp [A1]
 | succ R ih => rw [TC, List.length_append, ih]; simp [Nat.add_mul]
theorem aK4 {R C : Nat} {f : Nat -> Nat -> Int} {r c : Nat} (hr : r < R) (hc : c < C) : (A1 R C f).getD (r * C + c) 0 = f r c := by
  induction R with
  | zero => omega
  | succ R ih =>
    rw [TC, List.getD_eq_getElem?_getD]
    have hl := YC R C f
    by_cases h : r < R
    · have := l0 (R := R) h hc
      rw [List.getElem?_append_left (by omega), <- List.getD_eq_getElem?_getD]
      exact ih h
    · have : r = R := by omega
      subst this
      rw [List.getElem?_append_right (by omega), hl, show r * C + c - r * C = c by omega, List.getElem?_map, List.getElem?_range hc]
      rfl
theorem aOC {p C : Nat} (hC : 0 < C) : p = p / C * C + p % C /\ p % C < C := ⟨by rw [Nat.mul_comm]; exact (Nat.div_add_mod p C).symm, Nat.mod_lt _ hC⟩
theorem aK5 {R C : Nat} {f : Nat -> Nat -> Int} {l : List Int} (hl : l.length = R * C) (h : ∀ r, r < R -> ∀ c, c < C -> l.getD (r * C + c) 0 = f r c) : l = A1 R C f := by
 refine List.ext_getElem (by rw [hl, YC]) fun p h1 h2 => ?_
 have hC : 0 < C := by
  rcases Nat.eq_zero_or_pos C with e | e
  ·rw [hl, e] at h1; omega
  ·exact e
 obtain ⟨e, hm⟩ := aOC (p := p) hC
 have hr : p / C < R := by
  rw [Nat.div_lt_iff_lt_mul hC, <- hl]; exact h1
 have k1 := h _ hr _ hm
 have k2 := aK4 (f := f) hr hm
 rw [<- e, List.getD_eq_getElem?_getD, List.getElem?_eq_getElem h1] at k1
 rw [<- e, List.getD_eq_getElem?_getD, List.getElem?_eq_getElem h2] at k2
 simp only [Option.getD_some] at k1 k2
 rw [k1, k2]
def N4 (n : Int) (l : List T3) : Int := if l.all aW = true then (if l.all (fun t => (t.1.length : Int) == n) = true then 0 else 2) else 1
theorem aO0 {n : Int} {l : List T3} {Q : Int -> Prop} (hl : l.length <= 1000000) (h : Q (N4 n l)) : YH n l Q := by
  refine ⟨?_⟩
  refine ⟨?_⟩
  refine Loop.range (B := uP l (l.length : Int) _ _) l.length (fun i => (i : Int)) (fun i => (l.take i).all aW = true) rfl ?_ ?_
  · intro i hi hI X hX
    unfold uP
    rw [if_pos (by simpa using hi)]
    refine ⟨by omega, tD ?_⟩
    simp only [Int.toNat_natCast]
    cases hm : aW (l.getD i ([], 0, [])) with
    | true =>
      rw [if_neg (by simp [hm])]
      rw [aA _ (by omega) (by omega)]
      exact hX (by rw [aBY (d := ([], 0, [])) hi, hI, hm]; rfl)
    | false =>
      rw [if_pos (by simp [hm])]
      unfold N4 at h
      rw [if_neg (by rw [aJY hi hm]; simp)] at h
      exact h
  · intro hI X
    unfold uP
    rw [if_neg (by simp)]
    rw [List.take_length] at hI
    unfold N4 at h
    rw [if_pos hI] at h
    refine ⟨?_⟩
    refine Loop.range (B := u9 n l (l.length : Int) _ _) l.length (fun i => (i : Int)) (fun i => (l.take i).all (fun t => (t.1.length : Int) == n) = true) rfl ?_ ?_
    · intro i hi hJ X hX
      unfold u9
      rw [if_pos (by simpa using hi)]
      refine ⟨by omega, ?_⟩
      simp only [Int.toNat_natCast]
      cases hm : (((l.getD i ([], 0, [])).1.length : Int) == n) with
      | true =>
        rw [if_neg (by unfold bne; rw [hm]; simp)]
        rw [aA _ (by omega) (by omega)]
        exact hX (by rw [aBY (d := ([], 0, [])) hi, hJ, hm]; rfl)
      | false =>
        rw [if_pos (by unfold bne; rw [hm]; rfl)]
        rw [if_neg (by rw [aJY (d := ([], 0, [])) hi hm]; simp)] at h
        exact h
    · intro hJ X
      unfold u9
      rw [if_neg (by simp)]
      rw [List.take_length] at hJ
      rw [if_pos hJ] at h
      exact h
def NX (s : Int) (g : Nat -> Int) : Nat -> Int
 | 0 => s
 | n + 1 => NX s g n + g n
theorem aHl (s : Int) (g : Nat -> Int) (n : Nat) : NX s g n = s + cE g n := by
 induction n with
 | zero => simp [NX, cE]
 | succ n ih => simp only [NX, cE]; rw [ih, Int.add_assoc]
theorem aGk {s : Int} {g : Nat -> Int} {n : Nat} (hs : -1048576 <= s /\ s <= 1048576) (hn : n <= 1000000) (h : ∀ i, -16384 <= g i /\ g i <= 16384) : -17432576000 <= NX s g n /\ NX s g n <= 17432576000 := by
 have := aHF g 16384 n fun i _ => h i
 rw [aHl]
 omega
theorem aKd {s : Int} {g : Nat -> Int} {n : Nat} (hs : -1048576 <= s /\ s <= 1048576) (hn : n <= 959) (h : ∀ i, -16384 <= g i /\ g i <= 16384) : -16760832 <= NX s g n /\ NX s g n <= 16760832 := by
 have := aHF g 16384 n fun i _ => h i
 rw [aHl]
 omega
theorem mac {s a b : Int} (hs : -17432576000 <= s /\ s <= 17432576000) (ha : -128 <= a /\ a <= 127) (hb : -128 <= b /\ b <= 127) : IntKind.i64.wrap (s + IntKind.i64.wrap (IntKind.i64.wrap a * IntKind.i64.wrap b)) = s + a * b := by
 have := aK6 ha hb
 rw [aA a (by omega) (by omega), aA b (by omega) (by omega), aA (a * b) (by omega) (by omega), aA _ (by omega) (by omega)]
def fwC (n : Nat) (e be : Int) (b x w : List Int) (r o : Nat) : Int := NX (alF (b.getD o 0) be e) (fun i => x.getD (r * n + i) 0 * w.getD (o * n + i) 0) n
theorem aPM {r o n : Nat} {bd b xd x wd w : List Int} {be e xe we : Int} (ho : o < b.length) (hx : r * n + n <= x.length) (hw : o * n + n <= w.length) (lx : x.length <= 8192) (lw : w.length <= 8192) (hn : n <= 959) (bx : All8 x) (bw : All8 w) (bb : All8 b) {Q : Int -> Prop} (h : Q (fwC n e be b x w r o)) : sT (r : Int) (o : Int) bd be b e (n : Int) xd xe x wd we w Q := by
 refine ⟨?_⟩
 refine ⟨by omega, ?_⟩
 have hb := bb.at_ o
 simp only [Int.toNat_natCast]
 rw [aA (b.getD o 0) (by omega) (by omega)]
 refine aMv ⟨?_⟩
 refine Loop.range (B := jO (r : Int) (o : Int) (n : Int) x w (n : Int) _) (f := fun i => (NX (alF (b.getD o 0) be e) (fun i => x.getD (r * n + i) 0 * w.getD (o * n + i) 0) i, (i : Int))) n (fun _ => True) trivial ?_ ?_
 ·intro i hi _ X hX
  unfold jO
  rw [if_pos (by simpa using hi)]
  dsimp only
  have hs := aGk (s := alF (b.getD o 0) be e) (g := fun i => x.getD (r * n + i) 0 * w.getD (o * n + i) 0) (n := i) (V8 (bb.at_ o)) (by omega) (fun i => aK6 (bx.at_ _) (bw.at_ _))
  rw [ix (r := r) (n := n) (i := i) (by omega)]
  rw [ix (r := o) (n := n) (i := i) (by omega)]
  refine ⟨⟨by omega, by omega⟩, ⟨by omega, by omega⟩, ?_⟩
  simp only [Int.toNat_natCast]
  rw [mac hs (bx.at_ _) (bw.at_ _), aA ((i : Int) + 1) (by omega) (by omega)]
  exact hX trivial
 ·intro _ X
  unfold jO
  rw [if_neg (by simp)]
  exact h
theorem aLg {n : Nat} {e be : Int} {b x w : List Int} {r o : Nat} (hn : n <= 959) (bx : All8 x) (bw : All8 w) (bb : All8 b) : -16760832 <= fwC n e be b x w r o /\ fwC n e be b x w r o <= 16760832 := aKd (V8 (bb.at_ o)) hn (fun i => aK6 (bx.at_ _) (bw.at_ _))
def SQ (R C n e : Int) (f : Nat -> Nat -> Int) : T3 × Int :=
 if ((!tU n || decide (128 < e)) || decide (e < -128)) = true then (Z3, 3)
 else if (!decide (0 < szF [R, C])) = true then (Z3, 1)
 else (([R, C], (e, A1 R.toNat C.toNat f)), 0)
theorem aHb {b bd x xd w wd : List Int} {be e2 n2 xe we : Int} {R C n e : Int} {f : Nat -> Nat -> Int} {Q : T3 × Int -> Prop}
    (hc : tU n = true -> 0 < szF [R, C] -> ∀ r q : Nat, r < R.toNat -> q < C.toNat -> -2147483648 <= f r q /\ f r q <= 2147483647 /\ ∀ K : Int -> Prop, K (f r q) -> sT (r : Int) (q : Int) bd be b e2 n2 xd xe x wd we w K)
    (h : Q (SQ R C n e f)) : eB R C n e bd be b e2 n2 xd xe x wd we w Q := by
  refine ⟨?_⟩
  refine aLV ?_
  unfold SQ at h
  by_cases h1 : ((!tU n || decide (128 < e)) || decide (e < -128)) = true
  · rw [if_pos h1] at h ⊢; exact h
  · rw [if_neg h1] at h ⊢
    refine aBI ?_
    by_cases h2 : (!decide (0 < szF [R, C])) = true
    · rw [if_pos h2] at h ⊢; exact h
    · rw [if_neg h2] at h ⊢
      have hfit : tU n = true := by
        simp only [Bool.or_eq_true, not_or] at h1
        have := h1.1.1
        cases hq : tU n with
        | true => rfl
        | false => rw [hq] at this; exact absurd rfl this
      have hsz : 0 < szF [R, C] := by simpa using h2
      have hc := hc hfit hsz
      obtain ⟨k1, k2, k3, k4, k5, _⟩ := aLs R C hsz
      obtain ⟨R, rfl⟩ := Int.eq_ofNat_of_zero_le (show 0 <= R by omega)
      obtain ⟨C, rfl⟩ := Int.eq_ofNat_of_zero_le (show 0 <= C by omega)
      have hRC : R * C <= 8192 := by rw [<- Int.natCast_mul] at k5; omega
      simp only [Int.toNat_natCast] at hc h
      refine ⟨?_⟩
      refine Loop.range (B := cU (C : Int) bd be b e2 n2 xd xe x wd we w (R : Int) _) (f := fun r => ((r : Int), A1 r C f)) R (fun _ => True) trivial ?_ ?_
      · intro r hr _ X hX
        unfold cU
        rw [if_pos (by simpa using hr)]
        refine ⟨?_⟩
        dsimp only
        have hl := YC r C f
        have hrc : (r + 1) * C <= R * C := Nat.mul_le_mul_right C hr
        rw [Nat.add_mul, Nat.one_mul] at hrc
        rw [show (0, A1 r C f) = ((fun q : Nat => ((q : Int), A1 r C f ++ (List.range q).map (f r))) 0) by simp]
        refine Loop.range (f := fun q => ((q : Int), A1 r C f ++ (List.range q).map (f r))) C (fun _ => True) trivial ?_ ?_
        · intro q hcc _ Y hY
          unfold eV
          rw [if_pos (by simpa using hcc)]
          obtain ⟨m1, m2, m3⟩ := hc r q hr hcc
          refine m3 _ ?_
          refine ⟨?_, ?_⟩
          · simp only [List.length_append, List.length_map, List.length_range, List.length_singleton, hl]
            omega
          · have := hY trivial
            simp only [List.range_succ, List.map_append, List.map_cons, List.map_nil, <- List.append_assoc] at this
            rw [aHh _ m1 m2, aA ((q : Int) + 1) (by omega) (by omega)]
            exact this
        · intro _ Y
          unfold eV
          rw [if_neg (by simp)]
          have := hX trivial
          simp only [TC] at this
          dsimp only
          rw [aA ((r : Int) + 1) (by omega) (by omega)]
          exact this
      · intro _ X
        unfold cU
        rw [if_neg (by simp)]
        exact h
theorem aHi {a : T3} (h : aW a = true) : (0 < szF a.1 /\ (a.2.2.length : Int) = szF a.1) /\ -64 <= a.2.1 /\ a.2.1 <= 64 /\ -128 ∉ a.2.2 := by
 obtain ⟨h1, h2, h3, h4⟩ := dY.1 h
 exact ⟨⟨h1, h2⟩, h3.1, h3.2, h4⟩
theorem aHJ {n : Int} (h : tU n = true) : 0 <= n /\ n <= 959 := aKU.1 h
theorem aMn {t : T3} (h : aW t = true) (h2 : t.1.length = 2) : ∃ R C : Nat, t.1 = [(R : Int), (C : Int)] /\ 1 <= R /\ R <= 4096 /\ 1 <= C /\ C <= 4096 /\ R * C <= 8192 /\ t.2.2.length = R * C /\ -64 <= t.2.1 /\ t.2.1 <= 64 := by
  obtain ⟨m1, m2, m3, _⟩ := aHi h
  obtain ⟨l1, l2⟩ := m1
  obtain ⟨d, e, v⟩ := t
  match d, h2 with
  | [r, c], _ =>
    obtain ⟨k1, k2, k3, k4, k5, k6⟩ := aLs r c l1
    obtain ⟨R, rfl⟩ := Int.eq_ofNat_of_zero_le (show 0 <= r by omega)
    obtain ⟨C, rfl⟩ := Int.eq_ofNat_of_zero_le (show 0 <= c by omega)
    simp only at l2
    have l2' : (v.length : Int) = ((R * C : Nat) : Int) := by rw [l2, k6, Int.natCast_mul]
    rw [<- Int.natCast_mul] at k5
    exact ⟨R, C, rfl, by omega, by omega, by omega, by omega, by omega, by show v.length = _; omega, m2, m3⟩
theorem aPZ {t : T3} (h : aW t = true) (h2 : t.1.length = 1) : ∃ C : Nat, t.1 = [(C : Int)] /\ 1 <= C /\ C <= 4096 /\ t.2.2.length = C := by
  obtain ⟨m1, m2, m3, _⟩ := aHi h
  obtain ⟨l1, l2⟩ := m1
  obtain ⟨d, e, v⟩ := t
  match d, h2 with
  | [c], _ =>
    obtain ⟨k1, k2, k3⟩ := aPO l1
    obtain ⟨C, rfl⟩ := Int.eq_ofNat_of_zero_le (show 0 <= c by omega)
    simp only at l2
    exact ⟨C, rfl, by omega, by omega, by show v.length = _; omega⟩
theorem aOK {n : Int} {x w : T3} (h : N4 n [x, w] = 0) : aW x = true /\ aW w = true /\ (x.1.length : Int) = n /\ (w.1.length : Int) = n := by
 unfold N4 at h
 split at h
 ·rename_i h1
  split at h
  ·rename_i h2
   simp only [List.all_cons, List.all_nil, Bool.and_true, Bool.and_eq_true, beq_iff_eq] at h1 h2
   exact ⟨h1.1, h1.2, h2.1, h2.2⟩
  ·omega
 ·omega
def aGt (x w b : T3) : T3 × Int :=
 if (!aW b) = true then (Z3, 1)
 else if (N4 2 [x, w] != 0) = true then (Z3, N4 2 [x, w])
 else if (((w.1.getD 1 0 != x.1.getD 1 0) || ((b.1.length : Int) != 1)) || (b.1.getD 0 0 != w.1.getD 0 0)) = true then (Z3, 2)
 else SQ (x.1.getD 0 0) (w.1.getD 0 0) (x.1.getD 1 0) (x.2.1 + w.2.1) (fwC (x.1.getD 1 0).toNat (x.2.1 + w.2.1) b.2.1 b.2.2 x.2.2 w.2.2)
theorem aNn {x w b : T3} {Q : T3 × Int -> Prop} (bx : All8 x.2.2) (bw : All8 w.2.2) (bb : All8 b.2.2) (h : Q (aGt x w b)) : FI x w b Q := by
  refine ⟨?_⟩
  refine tD ?_
  unfold aGt at h
  by_cases h1 : (!aW b) = true
  · rw [if_pos h1] at h
    rw [if_pos h1]; exact h
  · rw [if_neg h1] at h
    rw [if_neg h1]
    refine aO0 (by simp) ?_
    by_cases h2 : (N4 2 [x, w] != 0) = true
    · rw [if_pos h2] at h ⊢; exact h
    · rw [if_neg h2] at h ⊢
      obtain ⟨mx, mw, lx, lw⟩ := aOK (by simpa using h2)
      have mb : aW b = true := by simpa using h1
      obtain ⟨R, n, ex, x1, x2, x3, x4, x5, x6, x7, x8⟩ := aMn mx (by omega)
      obtain ⟨C, m, ew, w1, w2, w3, w4, w5, w6, w7, w8⟩ := aMn mw (by omega)
      rw [ex, ew] at h ⊢
      refine ⟨by simp, by simp, by simp, by simp, ?_⟩
      have key : ∀ v : Bool, (((((m : Int) != (n : Int)) || ((b.1.length : Int) != 1)) || (b.1.getD 0 0 != (C : Int))) = v) -> (if v = true then Q (Z3, 2) else eB (R : Int) (C : Int) (n : Int) (IntKind.i64.wrap (x.2.1 + w.2.1)) b.1 b.2.1 b.2.2 (IntKind.i64.wrap (x.2.1 + w.2.1)) (n : Int) [(R : Int), (n : Int)] x.2.1 x.2.2 [(C : Int), (m : Int)] w.2.1 w.2.2 (fun r5 => Q ((r5.1.1, (r5.1.2.1, r5.1.2.2)), r5.2))) := by
        intro v hv
        cases v with
        | true =>
          rw [if_pos rfl]
          rw [if_pos (by simpa using hv)] at h
          exact h
        | false =>
          rw [if_neg (by simp)]
          rw [if_neg (by show ¬ _ = true; rw [show ((((([(C : Int), (m : Int)].getD 1 0) != ([(R : Int), (n : Int)].getD 1 0)) || ((b.1.length : Int) != 1)) || (b.1.getD 0 0 != [(C : Int), (m : Int)].getD 0 0))) = false from hv]; simp)] at h
          simp only [Bool.or_eq_false_iff, bne_eq_false_iff_eq] at hv
          obtain ⟨⟨h3, h4⟩, h5⟩ := hv
          obtain ⟨D, eb, b1, b2, b3⟩ := aPZ mb (by omega)
          have hD : D = C := by
            have : (D : Int) = (C : Int) := by rw [eb] at h5; simpa using h5
            omega
          have hmn : m = n := by omega
          subst hD; subst hmn
          rw [aA (x.2.1 + w.2.1) (by omega) (by omega)]
          refine aHb (f := fwC m (x.2.1 + w.2.1) b.2.1 b.2.2 x.2.2 w.2.2) ?_ h
          intro hfit hsz r c hr hcc
          have hn := aHJ hfit
          have := aLg (n := m) (e := x.2.1 + w.2.1) (be := b.2.1) (r := r) (o := c) (by omega) bx bw bb
          refine ⟨by omega, by omega, fun K hK => ?_⟩
          simp only [Int.toNat_natCast] at hr hcc
          have k1 : (r + 1) * m <= R * m := Nat.mul_le_mul_right m hr
          have k2 : (c + 1) * m <= D * m := Nat.mul_le_mul_right m hcc
          rw [Nat.add_mul, Nat.one_mul] at k1 k2
          exact aPM (by omega) (by omega) (by omega) (by omega) (by omega) (by omega) bx bw bb hK
      show (if (((m : Int) != (n : Int)) || ((b.1.length : Int) != 1)) = true then _ else _)
      by_cases h3 : (((m : Int) != (n : Int)) || ((b.1.length : Int) != 1)) = true
      · rw [if_pos h3]
        exact key true (by rw [h3]; rfl)
      · rw [if_neg h3]
        have h4 : b.1.length = 1 := by
          simp only [Bool.or_eq_true, not_or, bne_iff_ne, ne_eq, Classical.not_not] at h3
          omega
        refine ⟨⟨by omega, by omega⟩, key _ ?_⟩
        have h3' : (((m : Int) != (n : Int)) || ((b.1.length : Int) != 1)) = false := by simpa using h3
        rw [h3']
        rfl
end Go.Proofs.YtcfpfefadlnmcaaGreat
