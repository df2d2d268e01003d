/- Part of the proof. No condition. -/
import Derived.Test.YtbenbhdagmnapaaZ35
import Derived.Test.YtbenbhdagmnapaaProg
import Derived.KernelRfl
import Derived.Test.YtbenbhdagmnapaaYVJoin
import GoSem.Core.Float
import Derived.Laws.ComplexArith
import Derived.Test.YtbenbhdagmnapaaZ34
import Derived.Test.YtbenbhdagmnapaaYVArg
namespace Go.Proofs.Ytbenbhdagmnapaa
open Go.Mach
set_option maxRecDepth 100000
set_option linter.unusedVariables false
def n8 (x1 : List Int) (x2 : Int) (K0 : Unit -> Prop) (K1 : Unit -> Prop) (s : Int × Int) (nx : (Int × Int) -> Prop) : Prop :=
 if (decide (s.2 < x2)) = true then ck ((0 : Int) <= s.2 /\ s.2 < (x1.length : Int)) (jn (fun (v1 : Bool) => if v1 = true then K1 () else nx (IntKind.i64.wrap (s.1 * (x1.getD ((s.2).toNat) 0)), IntKind.i64.wrap (s.2 + 1))) (fun J2 => if ((decide ((x1.getD ((s.2).toNat) 0) < 1)) || (decide (4096 < (x1.getD ((s.2).toNat) 0)))) = true then J2 true else ck ((x1.getD ((s.2).toNat) 0) ≠ (0 : Int)) (J2 (decide ((IntKind.i64.wrap (((8192 : Int)).tdiv (x1.getD ((s.2).toNat) 0))) < s.1))))) else K0 ()
structure rI (x1 : List Int) (x2 : Int) (K0 : Unit -> Prop) (K1 : Unit -> Prop) (s : Int × Int) : Prop where
 it : Go.Mach.Loop (n8 x1 x2 K0 K1) s
def sY (a0 : List Int) (Q : Bool -> Prop) : Prop :=
 if ((decide ((a0.length : Int) < 1)) || (decide (4 < (a0.length : Int)))) = true then Q false else rI a0 (a0.length : Int) (fun (y3 : Unit) => Q true) (fun (y4 : Unit) => Q false) (1, 0)
structure c8 (a0 : List Int) (Q : Bool -> Prop) : Prop where
 it : sY a0 Q
noncomputable def FM : Ent := ⟨[3, 14, 15, 16], [.lf (.int .i64), .lf (.fz false (.int .i64)), .lf (.int .i64), .lf (.int .i64)], [], fun x k => rI x.1.2.1 x.1.2.2.1 (fun (y5 : Unit) => k (.exit 0) ⟨[], []⟩) (fun (y6 : Unit) => k .ret ⟨[(2, .pl (.bool false))], []⟩) (x.1.1, x.1.2.2.2.1)⟩
noncomputable def jZ : Tab := fun n => match n with | 122 => some FM | _ => none
noncomputable def rP : Go.Mach.Ends := fun n => match n with | 2 => some ([], [0]) | 12 => some ([], [0, 13]) | 14 => some ([], [0, 3]) | 27 => some ([], [0]) | 52 => some ([], [2]) | 53 => some ([], [2]) | 60 => some ([], [3, 14, 15, 16]) | 62 => some ([], [2]) | 63 => some ([], [2]) | 122 => some ([], [3, 14, 15, 16]) | 488 => some ([], [3, 14, 15, 16, 17]) | 1956 => some ([], [3, 14, 15, 16]) | 1957 => some ([], []) | 1959 => some ([], [3, 14, 15, 16]) | 7832 => some ([], [3, 5, 14, 15, 16]) | 15667 => some ([], [3, 14, 15, 16]) | 31332 => some ([], [3, 5, 14, 15, 16, 31]) | 62667 => some ([], [3, 5, 14, 15, 16]) | 125332 => some ([], [2]) | 125333 => some ([], [2]) | _ => none
noncomputable def sM : Code := Try.f24.body.getD .skip
theorem DY : aL wX jZ rP sM := by
 intro n E hn f c hs x k h
 unfold jZ at hn
 split at hn
 ·cases hn; exact aK hs (by kernel_rfl) (fun y : Int × Int => ⟨[(3, .pl (.int .i64 y.1)), (14, .fz false (.int .i64) x.1.2.1), (15, .pl (.int .i64 x.1.2.2.1)), (16, .pl (.int .i64 y.2))], []⟩) (x.1.1, x.1.2.2.2.1) (by kernel_rfl) (fun y X => by kernel_rfl) h.it
 ·cases hn
def dA : List Sh := [.lf (.fz false (.int .i64))]
def kT (x : aI dA) (Q : List (Bool × List VV) -> Prop) : Prop := c8 x.1 (fun (r : Bool) => Q (aH [(false, .bool)] [.n] (r, ())))
theorem DU (x : aI dA) (Q : List (Bool × List VV) -> Prop) (h : kT x Q) : aD Try.prog 24 (aM dA x) Q :=
 aC [.n] (G := wX) (ct := jZ) (en := rP) (fn := Try.f24) (cd := sM) (rt := [(false, .bool)]) Try.func24 (by kernel_rfl) (by kernel_rfl) (Nat.le_of_ble_eq_true rfl) DY qX (aG rfl) h.it (by kernel_rfl)
noncomputable def mB : FuncId -> List VV -> (List (Bool × List VV) -> Prop) -> Prop := fun f args Q => if f = 24 then unA dA args (fun x => kT x Q) else nL f args Q
theorem pW : ∀ f args Q, mB f args Q -> aD Try.prog f args Q := aE qX (f0 := 24) dA (fun x Q => kT x Q) DU
noncomputable def uK : Cfg := ⟨Try.prog, tt, mB, fun _ _ _ => False, none, false⟩
def sT (x1 : List Int) (x2 : Int) (K0 : Int -> Prop) (s : Int × Int) (nx : (Int × Int) -> Prop) : Prop :=
 if (decide (s.2 < x2)) = true then ck ((0 : Int) <= s.2 /\ s.2 < (x1.length : Int)) (nx (IntKind.i64.wrap (s.1 * (x1.getD ((s.2).toNat) 0)), IntKind.i64.wrap (s.2 + 1))) else K0 s.1
structure wV (x1 : List Int) (x2 : Int) (K0 : Int -> Prop) (s : Int × Int) : Prop where
 it : Go.Mach.Loop (sT x1 x2 K0) s
def yS (a0 : List Int) (Q : Int -> Prop) : Prop :=
 c8 a0 (fun (r1 : Bool) => if (!r1) = true then Q 0 else wV a0 (a0.length : Int) (fun (y2 : Int) => Q y2) (1, 0))
structure fL (a0 : List Int) (Q : Int -> Prop) : Prop where
 it : yS a0 Q
noncomputable def MW : Ent := ⟨[3, 9, 10, 11], [.lf (.int .i64), .lf (.fz false (.int .i64)), .lf (.int .i64), .lf (.int .i64)], [], fun x k => wV x.1.2.1 x.1.2.2.1 (fun (y3 : Int) => k (.exit 0) ⟨[(3, .pl (.int .i64 y3))], []⟩) (x.1.1, x.1.2.2.2.1)⟩
noncomputable def nD : Tab := fun n => match n with | 122 => some MW | _ => none
noncomputable def wZ : Go.Mach.Ends := fun n => match n with | 2 => some ([], [0]) | 12 => some ([], [0, 8]) | 14 => some ([], [0, 3]) | 27 => some ([], [0]) | 52 => some ([], [2]) | 53 => some ([], [2]) | 60 => some ([], [3, 9, 10, 11]) | 62 => some ([], [2]) | 63 => some ([], [2]) | 122 => some ([], [3, 9, 10, 11]) | 488 => some ([], [3, 9, 10, 11, 12]) | 1956 => some ([], [3, 9, 10, 11]) | 1957 => some ([], [3]) | 1959 => some ([], [3, 9, 10, 11]) | 7832 => some ([], [3, 5, 9, 10, 11]) | 7833 => some ([], [3, 9, 10, 11]) | _ => none
noncomputable def zG : Code := Try.f14.body.getD .skip
theorem KA : aL uK nD wZ zG := by
 intro n E hn f c hs x k h
 unfold nD at hn
 split at hn
 ·cases hn; exact aK hs (by kernel_rfl) (fun y : Int × Int => ⟨[(3, .pl (.int .i64 y.1)), (9, .fz false (.int .i64) x.1.2.1), (10, .pl (.int .i64 x.1.2.2.1)), (11, .pl (.int .i64 y.2))], []⟩) (x.1.1, x.1.2.2.2.1) (by kernel_rfl) (fun y X => by kernel_rfl) h.it
 ·cases hn
def fG : List Sh := [.lf (.fz false (.int .i64))]
def oS (x : aI fG) (Q : List (Bool × List VV) -> Prop) : Prop := fL x.1 (fun (r : Int) => Q (aH [(false, (.int .i64))] [.n] (r, ())))
theorem I8 (x : aI fG) (Q : List (Bool × List VV) -> Prop) (h : oS x Q) : aD Try.prog 14 (aM fG x) Q :=
 aC [.n] (G := uK) (ct := nD) (en := wZ) (fn := Try.f14) (cd := zG) (rt := [(false, (.int .i64))]) Try.func14 (by kernel_rfl) (by kernel_rfl) (Nat.le_of_ble_eq_true rfl) KA pW (aG rfl) h.it (by kernel_rfl)
noncomputable def qF : FuncId -> List VV -> (List (Bool × List VV) -> Prop) -> Prop := fun f args Q => if f = 14 then unA fG args (fun x => oS x Q) else mB f args Q
theorem vG : ∀ f args Q, qF f args Q -> aD Try.prog f args Q := aE pW (f0 := 14) fG (fun x Q => oS x Q) I8
noncomputable def BA : Cfg := ⟨Try.prog, tt, qF, fun _ _ _ => False, none, false⟩
def QO (a0 : Int) (a1 : Int) (a2 : Int) (Q : Bool -> Prop) : Prop :=
 Q ((decide (a1 <= a0)) && (decide (a0 <= a2)))
structure aU (a0 : Int) (a1 : Int) (a2 : Int) (Q : Bool -> Prop) : Prop where
 it : QO a0 a1 a2 Q
noncomputable def zI : Tab := fun n => none
noncomputable def yX : Go.Mach.Ends := fun n => match n with | 2 => some ([], [0, 1, 2]) | 6 => some ([], [6]) | 7 => some ([], [6]) | _ => none
noncomputable def A1 : Code := Try.f45.body.getD .skip
theorem MM : aL BA zI yX A1 := by
 intro n E hn f c hs x k h
 cases hn
def gS : List Sh := [.lf (.int .i64), .lf (.int .i64), .lf (.int .i64)]
def qA (x : aI gS) (Q : List (Bool × List VV) -> Prop) : Prop := aU x.1 x.2.1 x.2.2.1 (fun (r : Bool) => Q (aH [(false, .bool)] [.n] (r, ())))
theorem MO (x : aI gS) (Q : List (Bool × List VV) -> Prop) (h : qA x Q) : aD Try.prog 45 (aM gS x) Q :=
 aC [.n] (G := BA) (ct := zI) (en := yX) (fn := Try.f45) (cd := A1) (rt := [(false, .bool)]) Try.func45 (by kernel_rfl) (by kernel_rfl) (Nat.le_of_ble_eq_true rfl) MM vG (aG rfl) h.it (by kernel_rfl)
noncomputable def sF : FuncId -> List VV -> (List (Bool × List VV) -> Prop) -> Prop := fun f args Q => if f = 45 then unA gS args (fun x => qA x Q) else qF f args Q
theorem xB : ∀ f args Q, sF f args Q -> aD Try.prog f args Q := aE vG (f0 := 45) gS (fun x Q => qA x Q) MO
noncomputable def BZ : Cfg := ⟨Try.prog, tt, sF, fun _ _ _ => False, none, false⟩
def IF (a0 : Int × Int × Int) (Q : Bool -> Prop) : Prop :=
 aU a0.1 1 8 (fun (r1 : Bool) => jn (fun (v2 : Bool) => jn (fun (v5 : Bool) => Q v5) (fun J6 => if v2 = true then aU a0.2.2 1 16 (fun (r7 : Bool) => J6 r7) else J6 false)) (fun J3 => if r1 = true then aU a0.2.1 1 16 (fun (r4 : Bool) => J3 r4) else J3 false))
structure oO (a0 : Int × Int × Int) (Q : Bool -> Prop) : Prop where
 it : IF a0 Q
noncomputable def sL : Tab := fun n => none
noncomputable def tH : Go.Mach.Ends := fun n => match n with | 2 => some ([], [1]) | 6 => some ([], [2]) | 7 => some ([], [2]) | _ => none
noncomputable def vL : Code := Try.f44.body.getD .skip
theorem FQ : aL BZ sL tH vL := by
 intro n E hn f c hs x k h
 cases hn
def dI : List Sh := [.agg [.int .i64, .int .i64, .int .i64]]
def mC (x : aI dI) (Q : List (Bool × List VV) -> Prop) : Prop := oO (x.1.1, (x.1.2.1, x.1.2.2.1)) (fun (r : Bool) => Q (aH [(false, .bool)] [.n] (r, ())))
theorem FK (x : aI dI) (Q : List (Bool × List VV) -> Prop) (h : mC x Q) : aD Try.prog 44 (aM dI x) Q :=
 aC [.n] (G := BZ) (ct := sL) (en := tH) (fn := Try.f44) (cd := vL) (rt := [(false, .bool)]) Try.func44 (by kernel_rfl) (by kernel_rfl) (Nat.le_of_ble_eq_true rfl) FQ xB (aG rfl) h.it (by kernel_rfl)
noncomputable def nJ : FuncId -> List VV -> (List (Bool × List VV) -> Prop) -> Prop := fun f args Q => if f = 44 then unA dI args (fun x => mC x Q) else sF f args Q
theorem qS : ∀ f args Q, nJ f args Q -> aD Try.prog f args Q := aE xB (f0 := 44) dI (fun x Q => mC x Q) FK
noncomputable def wO : Cfg := ⟨Try.prog, tt, nJ, fun _ _ _ => False, none, false⟩
def AK  (K0 : Unit -> Prop) : Prop :=
 K0 ()
structure bN  (K0 : Unit -> Prop) : Prop where
 it : AK K0
def dE (x0 : Int) (x1 : Bool) (x2 : Int) (x3 : Bool) (x9 : Int) (x16 : Int) (K0 : (Bool × Int) -> Prop) (K1 : Unit -> Prop) : Prop :=
 if x3 = true then K0 (x1, x16) else if (x2 == 7) = true then aU x9 0 (IntKind.i64.wrap (x0 - 1)) (fun (r18 : Bool) => K0 (r18, x9)) else K1 ()
structure iW (x0 : Int) (x1 : Bool) (x2 : Int) (x3 : Bool) (x9 : Int) (x16 : Int) (K0 : (Bool × Int) -> Prop) (K1 : Unit -> Prop) : Prop where
 it : dE x0 x1 x2 x3 x9 x16 K0 K1
def g9 (x0 : Int) (x1 : Bool) (x2 : Int) (x3 : Bool) (x6 : Int) (x7 : Int) (x9 : Int) (x13 : Int) (x14 : Int) (x16 : Int) (K0 : (Bool × Int × Int × Int) -> Prop) (K1 : Unit -> Prop) : Prop :=
 if x3 = true then aU x6 1 5 (fun (r14 : Bool) => jn (fun (v15 : Bool) => K0 (v15, x6, x7, x16)) (fun J16 => if r14 = true then aU x7 1 4 (fun (r17 : Bool) => J16 r17) else J16 false)) else if (x2 == 5) = true then iW x0 x1 x2 (x2 == 5) x9 x16 (fun (y18 : Bool × Int) => K0 (y18.1, x13, x14, y18.2)) (fun (y19 : Unit) => K1 ()) else iW x0 x1 x2 (x2 == 6) x9 x16 (fun (y20 : Bool × Int) => K0 (y20.1, x13, x14, y20.2)) (fun (y21 : Unit) => K1 ())
structure eJ (x0 : Int) (x1 : Bool) (x2 : Int) (x3 : Bool) (x6 : Int) (x7 : Int) (x9 : Int) (x13 : Int) (x14 : Int) (x16 : Int) (K0 : (Bool × Int × Int × Int) -> Prop) (K1 : Unit -> Prop) : Prop where
 it : g9 x0 x1 x2 x3 x6 x7 x9 x13 x14 x16 K0 K1
def pP (a0 : Int × Int × Int × Int × Int × Int × Bool) (a1 : Int) (Q : Bool -> Prop) : Prop :=
 if (a0.1 == 1) = true then aU a0.2.1 1 4096 (fun (r1 : Bool) => bN (fun (y2 : Unit) => Q (r1 && ((a0.1 == a0.1) && ((a0.2.1 == a0.2.1) && ((a0.2.2.1 == 0) && ((a0.2.2.2.1 == 0) && ((a0.2.2.2.2.1 == 0) && ((a0.2.2.2.2.2.1 == 0) && ((a0.2.2.2.2.2.2 == a0.2.2.2.2.2.2) && (true))))))))))) else if (a0.1 == 2) = true then aU a0.2.1 1 8 (fun (r3 : Bool) => jn (fun (v4 : Bool) => jn (fun (v7 : Bool) => jn (fun (v10 : Bool) => bN (fun (y13 : Unit) => Q (v10 && ((a0.1 == a0.1) && ((a0.2.1 == a0.2.1) && ((a0.2.2.1 == a0.2.2.1) && ((a0.2.2.2.1 == a0.2.2.2.1) && ((a0.2.2.2.2.1 == a0.2.2.2.2.1) && ((a0.2.2.2.2.2.1 == 0) && ((a0.2.2.2.2.2.2 == a0.2.2.2.2.2.2) && (true))))))))))) (fun J11 => if v7 = true then aU a0.2.2.2.2.1 0 (IntKind.i64.wrap (a0.2.2.1 - 1)) (fun (r12 : Bool) => J11 r12) else J11 false)) (fun J8 => if v4 = true then aU a0.2.2.2.1 1 4 (fun (r9 : Bool) => J8 r9) else J8 false)) (fun J5 => if r3 = true then aU a0.2.2.1 1 5 (fun (r6 : Bool) => J5 r6) else J5 false)) else if (a0.1 == 3) = true then eJ a1 true a0.1 (a0.1 == 3) a0.2.2.1 a0.2.2.2.1 a0.2.2.2.2.2.1 0 0 0 (fun (y22 : Bool × Int × Int × Int) => bN (fun (y23 : Unit) => Q (y22.1 && ((a0.1 == a0.1) && ((a0.2.1 == 0) && ((a0.2.2.1 == y22.2.1) && ((a0.2.2.2.1 == y22.2.2.1) && ((a0.2.2.2.2.1 == 0) && ((a0.2.2.2.2.2.1 == y22.2.2.2) && ((a0.2.2.2.2.2.2 == false) && (true))))))))))) (fun (y24 : Unit) => Q false) else eJ a1 true a0.1 (a0.1 == 4) a0.2.2.1 a0.2.2.2.1 a0.2.2.2.2.2.1 0 0 0 (fun (y25 : Bool × Int × Int × Int) => bN (fun (y26 : Unit) => Q (y25.1 && ((a0.1 == a0.1) && ((a0.2.1 == 0) && ((a0.2.2.1 == y25.2.1) && ((a0.2.2.2.1 == y25.2.2.1) && ((a0.2.2.2.2.1 == 0) && ((a0.2.2.2.2.2.1 == y25.2.2.2) && ((a0.2.2.2.2.2.2 == false) && (true))))))))))) (fun (y27 : Unit) => Q false)
structure kQ (a0 : Int × Int × Int × Int × Int × Int × Bool) (a1 : Int) (Q : Bool -> Prop) : Prop where
 it : pP a0 a1 Q
noncomputable def CZ : Ent := ⟨[2, 5, 6], [.lf (.cst (.ptr 0 0)), .lf (.cst (.ptr 1 0)), .lf (.bool)], [.box [.int .i64, .int .i64, .int .i64, .int .i64, .int .i64, .int .i64, .bool] false, .box [.int .i64, .int .i64, .int .i64, .int .i64, .int .i64, .int .i64, .bool] false], fun x k => bN (fun (y28 : Unit) => k .ret ⟨[(4, .pl (.bool (x.1.2.2.1 && ((x.2.1.1 == x.2.2.1.1) && ((x.2.1.2.1 == x.2.2.1.2.1) && ((x.2.1.2.2.1 == x.2.2.1.2.2.1) && ((x.2.1.2.2.2.1 == x.2.2.1.2.2.2.1) && ((x.2.1.2.2.2.2.1 == x.2.2.1.2.2.2.2.1) && ((x.2.1.2.2.2.2.2.1 == x.2.2.1.2.2.2.2.2.1) && ((x.2.1.2.2.2.2.2.2.1 == x.2.2.1.2.2.2.2.2.2.1) && (true)))))))))))], []⟩)⟩
noncomputable def CS : Ent := ⟨[1, 2, 5, 6, 11, 61], [.lf (.int .i64), .lf (.cst (.ptr 0 0)), .lf (.cst (.ptr 1 0)), .lf (.bool), .lf (.int .i64), .lf (.bool)], [.box [.int .i64, .int .i64, .int .i64, .int .i64, .int .i64, .int .i64, .bool] false, .box [.int .i64, .int .i64, .int .i64, .int .i64, .int .i64, .int .i64, .bool] false], fun x k => eJ x.1.1 x.1.2.2.2.1 x.1.2.2.2.2.1 x.1.2.2.2.2.2.1 x.2.1.2.2.1 x.2.1.2.2.2.1 x.2.1.2.2.2.2.2.1 x.2.2.1.2.2.1 x.2.2.1.2.2.2.1 x.2.2.1.2.2.2.2.2.1 (fun (y29 : Bool × Int × Int × Int) => k .normal ⟨[(2, .ptr 0 0), (5, .ptr 1 0), (6, .pl (.bool y29.1))], [.box [.pl (.int .i64 x.2.1.1), .pl (.int .i64 x.2.1.2.1), .pl (.int .i64 x.2.1.2.2.1), .pl (.int .i64 x.2.1.2.2.2.1), .pl (.int .i64 x.2.1.2.2.2.2.1), .pl (.int .i64 x.2.1.2.2.2.2.2.1), .pl (.bool x.2.1.2.2.2.2.2.2.1)] false, .box [.pl (.int .i64 x.2.2.1.1), .pl (.int .i64 x.2.2.1.2.1), .pl (.int .i64 y29.2.1), .pl (.int .i64 y29.2.2.1), .pl (.int .i64 x.2.2.1.2.2.2.2.1), .pl (.int .i64 y29.2.2.2), .pl (.bool x.2.2.1.2.2.2.2.2.2.1)] false]⟩) (fun (y30 : Unit) => k .ret ⟨[(4, .pl (.bool false))], []⟩)⟩
noncomputable def B8 : Ent := ⟨[1, 2, 5, 6, 11, 78], [.lf (.int .i64), .lf (.cst (.ptr 0 0)), .lf (.cst (.ptr 1 0)), .lf (.bool), .lf (.int .i64), .lf (.bool)], [.box [.int .i64, .int .i64, .int .i64, .int .i64, .int .i64, .int .i64, .bool] false, .box [.int .i64, .int .i64, .int .i64, .int .i64, .int .i64, .int .i64, .bool] false], fun x k => iW x.1.1 x.1.2.2.2.1 x.1.2.2.2.2.1 x.1.2.2.2.2.2.1 x.2.1.2.2.2.2.2.1 x.2.2.1.2.2.2.2.2.1 (fun (y31 : Bool × Int) => k .normal ⟨[(2, .ptr 0 0), (5, .ptr 1 0), (6, .pl (.bool y31.1))], [.box [.pl (.int .i64 x.2.1.1), .pl (.int .i64 x.2.1.2.1), .pl (.int .i64 x.2.1.2.2.1), .pl (.int .i64 x.2.1.2.2.2.1), .pl (.int .i64 x.2.1.2.2.2.2.1), .pl (.int .i64 x.2.1.2.2.2.2.2.1), .pl (.bool x.2.1.2.2.2.2.2.2.1)] false, .box [.pl (.int .i64 x.2.2.1.1), .pl (.int .i64 x.2.2.1.2.1), .pl (.int .i64 x.2.2.1.2.2.1), .pl (.int .i64 x.2.2.1.2.2.2.1), .pl (.int .i64 x.2.2.1.2.2.2.2.1), .pl (.int .i64 y31.2), .pl (.bool x.2.2.1.2.2.2.2.2.2.1)] false]⟩) (fun (y32 : Unit) => k .ret ⟨[(4, .pl (.bool false))], []⟩)⟩
noncomputable def iR : Tab := fun n => match n with | 31 => some CZ | 3935 => some CS | 15743 => some B8 | _ => none
noncomputable def oB : Go.Mach.Ends := fun n => match n with | 2 => some ([], [1, 2]) | 6 => some ([], [1, 2, 5]) | 14 => some ([], [1, 2, 5, 6]) | 60 => some ([], [1, 2, 5, 6, 11]) | 62 => some ([], [4]) | 63 => some ([], [4]) | 244 => some ([], [1, 2, 5, 6, 11, 12]) | 980 => some ([], [2, 5]) | 981 => some ([], [2, 5, 6]) | 982 => some ([], [1, 2, 5, 6, 11, 23]) | 3932 => some ([], [2, 5]) | 3933 => some ([], [2, 5, 6]) | 7868 => some ([], [1, 2, 5, 6, 11, 61]) | 15738 => some ([], [1, 2, 5, 6, 11, 61]) | 15739 => some ([], [1, 2, 5, 6, 11, 61]) | 15740 => some ([], [2, 5]) | 15741 => some ([], [2, 5, 6]) | 31484 => some ([], [1, 2, 5, 6, 11, 78]) | 31486 => some ([], [2, 5, 6]) | 62970 => some ([], [1, 2, 5, 6, 11, 78]) | 62971 => some ([], [1, 2, 5, 6, 11, 78]) | 62974 => some ([], [1, 2, 5, 81]) | 251900 => some ([], [1, 2, 5]) | 251901 => some ([], [2, 5, 6]) | 251902 => some ([], [4]) | 251903 => some ([], [4]) | _ => none
noncomputable def pR : Code := Try.f46.body.getD .skip
theorem BO : aL wO iR oB pR := by
 intro n E hn f c hs x k h
 unfold iR at hn
 split at hn
 ·cases hn; exact bS hs (by kernel_rfl) (by kernel_rfl) h.it
 ·cases hn; exact bS hs (by kernel_rfl) (by kernel_rfl) h.it
 ·cases hn; exact bS hs (by kernel_rfl) (by kernel_rfl) h.it
 ·cases hn
def cM : List Sh := [.agg [.int .i64, .int .i64, .int .i64, .int .i64, .int .i64, .int .i64, .bool], .lf (.int .i64)]
def jD (x : aI cM) (Q : List (Bool × List VV) -> Prop) : Prop := kQ (x.1.1, (x.1.2.1, (x.1.2.2.1, (x.1.2.2.2.1, (x.1.2.2.2.2.1, (x.1.2.2.2.2.2.1, x.1.2.2.2.2.2.2.1)))))) x.2.1 (fun (r : Bool) => Q (aH [(false, .bool)] [.n] (r, ())))
theorem BL (x : aI cM) (Q : List (Bool × List VV) -> Prop) (h : jD x Q) : aD Try.prog 46 (aM cM x) Q :=
 aC [.n] (G := wO) (ct := iR) (en := oB) (fn := Try.f46) (cd := pR) (rt := [(false, .bool)]) Try.func46 (by kernel_rfl) (by kernel_rfl) (Nat.le_of_ble_eq_true rfl) BO qS (aG rfl) h.it (by kernel_rfl)
noncomputable def j6 : FuncId -> List VV -> (List (Bool × List VV) -> Prop) -> Prop := fun f args Q => if f = 46 then unA cM args (fun x => jD x Q) else nJ f args Q
theorem nX : ∀ f args Q, j6 f args Q -> aD Try.prog f args Q := aE qS (f0 := 46) cM (fun x Q => jD x Q) BL
noncomputable def rG : Cfg := ⟨Try.prog, tt, j6, fun _ _ _ => False, none, false⟩
def dF (x0 : List (Int × Int × Int × Int × Int × Int × Bool)) (x1 : Int) (K0 : Unit -> Prop) (K1 : Unit -> Prop) (s : Int) (nx : Int -> Prop) : Prop :=
 if (decide (s < x1)) = true then ck ((0 : Int) <= s /\ s < (x0.length : Int)) (kQ ((x0.getD ((s).toNat) (0, (0, (0, (0, (0, (0, false))))))).1, (((x0.getD ((s).toNat) (0, (0, (0, (0, (0, (0, false))))))).2).1, ((((x0.getD ((s).toNat) (0, (0, (0, (0, (0, (0, false))))))).2).2).1, (((((x0.getD ((s).toNat) (0, (0, (0, (0, (0, (0, false))))))).2).2).2).1, ((((((x0.getD ((s).toNat) (0, (0, (0, (0, (0, (0, false))))))).2).2).2).2).1, (((((((x0.getD ((s).toNat) (0, (0, (0, (0, (0, (0, false))))))).2).2).2).2).2).1, ((((((x0.getD ((s).toNat) (0, (0, (0, (0, (0, (0, false))))))).2).2).2).2).2).2)))))) s (fun (r5 : Bool) => if (!r5) = true then K1 () else nx (IntKind.i64.wrap (s + 1)))) else K0 ()
structure oK (x0 : List (Int × Int × Int × Int × Int × Int × Bool)) (x1 : Int) (K0 : Unit -> Prop) (K1 : Unit -> Prop) (s : Int) : Prop where
 it : Go.Mach.Loop (dF x0 x1 K0 K1) s
def DT (a0 : (Int × Int × Int) × List (Int × Int × Int × Int × Int × Int × Bool)) (Q : Bool -> Prop) : Prop :=
 oO (a0.1.1, (a0.1.2.1, a0.1.2.2)) (fun (r1 : Bool) => jn (fun (v2 : Bool) => if v2 = true then Q false else oK a0.2 (a0.2.length : Int) (fun (y6 : Unit) => Q true) (fun (y7 : Unit) => Q false) 0) (fun J3 => if (!r1) = true then J3 true else aU (a0.2.length : Int) 1 12 (fun (r4 : Bool) => J3 (!r4))))
structure kR (a0 : (Int × Int × Int) × List (Int × Int × Int × Int × Int × Int × Bool)) (Q : Bool -> Prop) : Prop where
 it : DT a0 Q
noncomputable def CV : Ent := ⟨[17, 18, 19], [.lf (.fz false (.pair (.int .i64) (.pair (.int .i64) (.pair (.int .i64) (.pair (.int .i64) (.pair (.int .i64) (.pair (.int .i64) .bool))))))), .lf (.int .i64), .lf (.int .i64)], [], fun x k => oK x.1.1 x.1.2.1 (fun (y8 : Unit) => k (.exit 0) ⟨[], []⟩) (fun (y9 : Unit) => k .ret ⟨[(2, .pl (.bool false))], []⟩) x.1.2.2.1⟩
noncomputable def iU : Tab := fun n => match n with | 58 => some CV | _ => none
noncomputable def pD : Go.Mach.Ends := fun n => match n with | 2 => some ([], [1]) | 12 => some ([], [1, 15]) | 27 => some ([], [1]) | 28 => some ([], [17, 18, 19]) | 30 => some ([], [2]) | 31 => some ([], [2]) | 52 => some ([], [2]) | 53 => some ([], [2]) | 58 => some ([], [17, 18, 19]) | 232 => some ([], [17, 18, 19, 20]) | 932 => some ([], [17, 18, 19]) | 933 => some ([], []) | 935 => some ([], [17, 18, 19]) | 3736 => some ([], [3, 4, 17, 18, 19]) | 7474 => some ([], [17, 18, 19, 27]) | 14951 => some ([], [17, 18, 19]) | 29900 => some ([], [2]) | 29901 => some ([], [2]) | _ => none
noncomputable def p5 : Code := Try.f25.body.getD .skip
theorem BJ : aL rG iU pD p5 := by
 intro n E hn f c hs x k h
 unfold iU at hn
 split at hn
 ·cases hn; exact aK hs (by kernel_rfl) (fun y : Int => ⟨[(17, .fz false (.pair (.int .i64) (.pair (.int .i64) (.pair (.int .i64) (.pair (.int .i64) (.pair (.int .i64) (.pair (.int .i64) .bool)))))) x.1.1), (18, .pl (.int .i64 x.1.2.1)), (19, .pl (.int .i64 y))], []⟩) x.1.2.2.1 (by kernel_rfl) (fun y X => by kernel_rfl) h.it
 ·cases hn
def cN : List Sh := [.agg [.int .i64, .int .i64, .int .i64, .fz false (.pair (.int .i64) (.pair (.int .i64) (.pair (.int .i64) (.pair (.int .i64) (.pair (.int .i64) (.pair (.int .i64) .bool))))))]]
def i7 (x : aI cN) (Q : List (Bool × List VV) -> Prop) : Prop := kR ((x.1.1, (x.1.2.1, x.1.2.2.1)), x.1.2.2.2.1) (fun (r : Bool) => Q (aH [(false, .bool)] [.n] (r, ())))
theorem BG (x : aI cN) (Q : List (Bool × List VV) -> Prop) (h : i7 x Q) : aD Try.prog 25 (aM cN x) Q :=
 aC [.n] (G := rG) (ct := iU) (en := pD) (fn := Try.f25) (cd := p5) (rt := [(false, .bool)]) Try.func25 (by kernel_rfl) (by kernel_rfl) (Nat.le_of_ble_eq_true rfl) BJ nX (aG rfl) h.it (by kernel_rfl)
noncomputable def j5 : FuncId -> List VV -> (List (Bool × List VV) -> Prop) -> Prop := fun f args Q => if f = 25 then unA cN args (fun x => i7 x Q) else j6 f args Q
theorem nU : ∀ f args Q, j5 f args Q -> aD Try.prog f args Q := aE nX (f0 := 25) cN (fun x Q => i7 x Q) BG
noncomputable def qW : Cfg := ⟨Try.prog, tt, j5, fun _ _ _ => False, none, false⟩
def qD (a0 : Int) (a1 : Int) (a2 : Int) (a3 : Int) (Q : Int -> Prop) : Prop :=
 if (((((((((decide (a0 < 1)) || (decide (16 < a0))) || (decide (a1 < 1))) || (decide (5 < a1))) || (decide (a2 < 1))) || (decide (4 < a2))) || (decide (a3 < 0))) || (decide (a1 <= a3))) || (decide ((IntKind.i64.wrap (a0 + (IntKind.i64.wrap (2 * a3)))) < a1))) = true then Q 0 else ck (a2 ≠ (0 : Int)) (Q (IntKind.i64.wrap ((IntKind.i64.wrap ((IntKind.i64.wrap ((IntKind.i64.wrap (a0 + (IntKind.i64.wrap (2 * a3)))) - a1)).tdiv a2)) + 1)))
structure jK (a0 : Int) (a1 : Int) (a2 : Int) (a3 : Int) (Q : Int -> Prop) : Prop where
 it : qD a0 a1 a2 a3 Q
noncomputable def zT : Tab := fun n => none
noncomputable def yM : Go.Mach.Ends := fun n => match n with | 2 => some ([], [0, 1, 2, 3]) | 12 => some ([], [0, 1, 2, 3, 47]) | 14 => some ([], [8]) | 15 => some ([], [8]) | 27 => some ([], [0, 1, 2, 3]) | 52 => some ([], [8]) | 53 => some ([], [8]) | _ => none
noncomputable def A6 : Code := Try.f71.body.getD .skip
theorem MU : aL qW zT yM A6 := by
 intro n E hn f c hs x k h
 cases hn
def gR : List Sh := [.lf (.int .i64), .lf (.int .i64), .lf (.int .i64), .lf (.int .i64)]
def qL (x : aI gR) (Q : List (Bool × List VV) -> Prop) : Prop := jK x.1 x.2.1 x.2.2.1 x.2.2.2.1 (fun (r : Int) => Q (aH [(false, (.int .i64))] [.n] (r, ())))
theorem M0 (x : aI gR) (Q : List (Bool × List VV) -> Prop) (h : qL x Q) : aD Try.prog 71 (aM gR x) Q :=
 aC [.n] (G := qW) (ct := zT) (en := yM) (fn := Try.f71) (cd := A6) (rt := [(false, (.int .i64))]) Try.func71 (by kernel_rfl) (by kernel_rfl) (Nat.le_of_ble_eq_true rfl) MU nU (aG rfl) h.it (by kernel_rfl)
noncomputable def sH : FuncId -> List VV -> (List (Bool × List VV) -> Prop) -> Prop := fun f args Q => if f = 71 then unA gR args (fun x => qL x Q) else j5 f args Q
theorem wP : ∀ f args Q, sH f args Q -> aD Try.prog f args Q := aE nU (f0 := 71) gR (fun x Q => qL x Q) M0
noncomputable def CO : Cfg := ⟨Try.prog, tt, sH, fun _ _ _ => False, none, false⟩
def KG (a0 : Int) (a1 : Int) (a2 : Int) (a3 : Int) (a4 : Int) (Q : (Int × Int) -> Prop) : Prop :=
 jK a0 a2 a3 a4 (fun (r1 : Int) => jK a1 a2 a3 a4 (fun (r2 : Int) => Q (r1, r2)))
structure gL (a0 : Int) (a1 : Int) (a2 : Int) (a3 : Int) (a4 : Int) (Q : (Int × Int) -> Prop) : Prop where
 it : KG a0 a1 a2 a3 a4 Q
noncomputable def tC : Tab := fun n => none
noncomputable def sQ : Go.Mach.Ends := fun n => match n with | 2 => some ([], [0, 1, 2, 3, 4]) | 6 => some ([], [10, 11]) | 7 => some ([], [10, 11]) | _ => none
noncomputable def uN : Code := Try.f47.body.getD .skip
theorem E1 : aL CO tC sQ uN := by
 intro n E hn f c hs x k h
 cases hn
def dP : List Sh := [.lf (.int .i64), .lf (.int .i64), .lf (.int .i64), .lf (.int .i64), .lf (.int .i64)]
def lU (x : aI dP) (Q : List (Bool × List VV) -> Prop) : Prop := gL x.1 x.2.1 x.2.2.1 x.2.2.2.1 x.2.2.2.2.1 (fun (r : Int × Int) => Q (aH [(false, (.int .i64)), (false, (.int .i64))] [.n, .n] (r.1, (r.2, ()))))
theorem FR (x : aI dP) (Q : List (Bool × List VV) -> Prop) (h : lU x Q) : aD Try.prog 47 (aM dP x) Q :=
 aC [.n, .n] (G := CO) (ct := tC) (en := sQ) (fn := Try.f47) (cd := uN) (rt := [(false, (.int .i64)), (false, (.int .i64))]) Try.func47 (by kernel_rfl) (by kernel_rfl) (Nat.le_of_ble_eq_true rfl) E1 wP (aG rfl) h.it (by kernel_rfl)
noncomputable def m9 : FuncId -> List VV -> (List (Bool × List VV) -> Prop) -> Prop := fun f args Q => if f = 47 then unA dP args (fun x => lU x Q) else sH f args Q
theorem rN : ∀ f args Q, m9 f args Q -> aD Try.prog f args Q := aE wP (f0 := 47) dP (fun x Q => lU x Q) FR
noncomputable def wG : Cfg := ⟨Try.prog, tt, m9, fun _ _ _ => False, none, false⟩
def dV (x0 : List Int) (x1 : List Int) (x2 : Int) (K0 : Unit -> Prop) (K1 : Unit -> Prop) (s : Int) (nx : Int -> Prop) : Prop :=
 if (decide (s < x2)) = true then ck ((0 : Int) <= s /\ s < (x0.length : Int)) (ck ((0 : Int) <= s /\ s < (x1.length : Int)) (if ((x0.getD ((s).toNat) 0) != (x1.getD ((s).toNat) 0)) = true then K1 () else nx (IntKind.i64.wrap (s + 1)))) else K0 ()
structure pS (x0 : List Int) (x1 : List Int) (x2 : Int) (K0 : Unit -> Prop) (K1 : Unit -> Prop) (s : Int) : Prop where
 it : Go.Mach.Loop (dV x0 x1 x2 K0 K1) s
def rK (a0 : List Int) (a1 : List Int) (Q : Bool -> Prop) : Prop :=
 if ((a0.length : Int) != (a1.length : Int)) = true then Q false else pS a0 a1 (a0.length : Int) (fun (y1 : Unit) => Q true) (fun (y2 : Unit) => Q false) 0
structure cQ (a0 : List Int) (a1 : List Int) (Q : Bool -> Prop) : Prop where
 it : rK a0 a1 Q
noncomputable def DW : Ent := ⟨[0, 1, 12, 13], [.lf (.fz false (.int .i64)), .lf (.fz false (.int .i64)), .lf (.int .i64), .lf (.int .i64)], [], fun x k => pS x.1.1 x.1.2.1 x.1.2.2.1 (fun (y3 : Unit) => k (.exit 0) ⟨[], []⟩) (fun (y4 : Unit) => k .ret ⟨[(4, .pl (.bool false))], []⟩) x.1.2.2.2.1⟩
noncomputable def jC : Tab := fun n => match n with | 58 => some DW | _ => none
noncomputable def pY : Go.Mach.Ends := fun n => match n with | 2 => some ([], [0, 1]) | 12 => some ([], [0, 1, 10]) | 27 => some ([], [0, 1]) | 28 => some ([], [0, 1, 12, 13]) | 30 => some ([], [4]) | 31 => some ([], [4]) | 52 => some ([], [4]) | 53 => some ([], [4]) | 58 => some ([], [0, 1, 12, 13]) | 232 => some ([], [0, 1, 12, 13, 14]) | 932 => some ([], [0, 1, 12, 13]) | 933 => some ([], []) | 935 => some ([], [0, 1, 12, 13]) | 3736 => some ([], [0, 1, 5, 12, 13]) | 7474 => some ([], [0, 1, 12, 13, 24]) | 14951 => some ([], [0, 1, 12, 13]) | 29900 => some ([], [4]) | 29901 => some ([], [4]) | _ => none
noncomputable def rE : Code := Try.f23.body.getD .skip
theorem CU : aL wG jC pY rE := by
 intro n E hn f c hs x k h
 unfold jC at hn
 split at hn
 ·cases hn; exact aK hs (by kernel_rfl) (fun y : Int => ⟨[(0, .fz false (.int .i64) x.1.1), (1, .fz false (.int .i64) x.1.2.1), (12, .pl (.int .i64 x.1.2.2.1)), (13, .pl (.int .i64 y))], []⟩) x.1.2.2.2.1 (by kernel_rfl) (fun y X => by kernel_rfl) h.it
 ·cases hn
def cV : List Sh := [.lf (.fz false (.int .i64)), .lf (.fz false (.int .i64))]
def jV (x : aI cV) (Q : List (Bool × List VV) -> Prop) : Prop := cQ x.1 x.2.1 (fun (r : Bool) => Q (aH [(false, .bool)] [.n] (r, ())))
theorem B9 (x : aI cV) (Q : List (Bool × List VV) -> Prop) (h : jV x Q) : aD Try.prog 23 (aM cV x) Q :=
 aC [.n] (G := wG) (ct := jC) (en := pY) (fn := Try.f23) (cd := rE) (rt := [(false, .bool)]) Try.func23 (by kernel_rfl) (by kernel_rfl) (Nat.le_of_ble_eq_true rfl) CU rN (aG rfl) h.it (by kernel_rfl)
noncomputable def kX : FuncId -> List VV -> (List (Bool × List VV) -> Prop) -> Prop := fun f args Q => if f = 23 then unA cV args (fun x => jV x Q) else m9 f args Q
theorem oP : ∀ f args Q, kX f args Q -> aD Try.prog f args Q := aE rN (f0 := 23) cV (fun x Q => jV x Q) B9
noncomputable def tM : Cfg := ⟨Try.prog, tt, kX, fun _ _ _ => False, none, false⟩
def pX (x0 : Int) (x1 : Int) (K0 : Bool -> Prop) : Prop :=
 K0 ((decide (0 < x0)) && (decide (0 < x1)))
structure bG (x0 : Int) (x1 : Int) (K0 : Bool -> Prop) : Prop where
 it : pX x0 x1 K0
def fD (x1 : List Int) (x2 : Int) (K0 : Int -> Prop) (s : Int × Int) (nx : (Int × Int) -> Prop) : Prop :=
 if (decide (s.2 < x2)) = true then ck ((0 : Int) <= s.2 /\ s.2 < (x1.length : Int)) (nx (IntKind.i64.wrap (s.1 * (x1.getD ((s.2).toNat) 0)), IntKind.i64.wrap (s.2 + 1))) else K0 s.1
structure dS (x1 : List Int) (x2 : Int) (K0 : Int -> Prop) (s : Int × Int) : Prop where
 it : Go.Mach.Loop (fD x1 x2 K0) s
def uW (a0 : Int × Int × Int × Int × Int × Int × Bool) (a1 : List Int) (a2 : List (List Int)) (Q : ((List Int) × Bool) -> Prop) : Prop :=
 if (a0.1 == 1) = true then Q ([a0.2.1], (a1.length : Int) == 1) else if (a0.1 == 2) = true then if (a0.1 == 2) = true then if ((a1.length : Int) != 3) = true then Q (([] : List Int), false) else ck ((0 : Int) <= 1 /\ 1 < (a1.length : Int)) (ck ((0 : Int) <= 2 /\ 2 < (a1.length : Int)) (gL (a1.getD 1 0) (a1.getD 2 0) a0.2.2.1 a0.2.2.2.1 a0.2.2.2.2.1 (fun (r1 : Int × Int) => ck ((0 : Int) <= 0 /\ 0 < (a1.length : Int)) (if (a0.1 == 2) = true then bG r1.1 r1.2 (fun (y2 : Bool) => Q ([a0.2.1, r1.1, r1.2], y2)) else bG r1.1 r1.2 (fun (y3 : Bool) => Q ([(a1.getD 0 0), r1.1, r1.2], y3)))))) else if (a0.1 == 6) = true then dS a1 (a1.length : Int) (fun (y4 : Int) => Q ([y4], true)) (1, 0) else if (a0.1 == 7) = true then ck (a1.length * 8 <= 140737488355328) (ck ((0 : Int) <= a0.2.2.2.2.2.1 /\ a0.2.2.2.2.2.1 < (a2.length : Int)) (cQ a1 (a2.getD ((a0.2.2.2.2.2.1).toNat) []) (fun (r5 : Bool) => Q (a1, r5)))) else ck (a1.length * 8 <= 140737488355328) (Q (a1, true)) else if (a0.1 == 3) = true then if (a0.1 == 3) = true then if ((a1.length : Int) != 3) = true then Q (([] : List Int), false) else ck ((0 : Int) <= 1 /\ 1 < (a1.length : Int)) (ck ((0 : Int) <= 2 /\ 2 < (a1.length : Int)) (gL (a1.getD 1 0) (a1.getD 2 0) a0.2.2.1 a0.2.2.2.1 a0.2.2.2.2.1 (fun (r6 : Int × Int) => ck ((0 : Int) <= 0 /\ 0 < (a1.length : Int)) (if (a0.1 == 2) = true then bG r6.1 r6.2 (fun (y7 : Bool) => Q ([a0.2.1, r6.1, r6.2], y7)) else bG r6.1 r6.2 (fun (y8 : Bool) => Q ([(a1.getD 0 0), r6.1, r6.2], y8)))))) else if (a0.1 == 6) = true then dS a1 (a1.length : Int) (fun (y9 : Int) => Q ([y9], true)) (1, 0) else if (a0.1 == 7) = true then ck (a1.length * 8 <= 140737488355328) (ck ((0 : Int) <= a0.2.2.2.2.2.1 /\ a0.2.2.2.2.2.1 < (a2.length : Int)) (cQ a1 (a2.getD ((a0.2.2.2.2.2.1).toNat) []) (fun (r10 : Bool) => Q (a1, r10)))) else ck (a1.length * 8 <= 140737488355328) (Q (a1, true)) else if (a0.1 == 4) = true then if ((a1.length : Int) != 3) = true then Q (([] : List Int), false) else ck ((0 : Int) <= 1 /\ 1 < (a1.length : Int)) (ck ((0 : Int) <= 2 /\ 2 < (a1.length : Int)) (gL (a1.getD 1 0) (a1.getD 2 0) a0.2.2.1 a0.2.2.2.1 a0.2.2.2.2.1 (fun (r11 : Int × Int) => ck ((0 : Int) <= 0 /\ 0 < (a1.length : Int)) (if (a0.1 == 2) = true then bG r11.1 r11.2 (fun (y12 : Bool) => Q ([a0.2.1, r11.1, r11.2], y12)) else bG r11.1 r11.2 (fun (y13 : Bool) => Q ([(a1.getD 0 0), r11.1, r11.2], y13)))))) else if (a0.1 == 6) = true then dS a1 (a1.length : Int) (fun (y14 : Int) => Q ([y14], true)) (1, 0) else if (a0.1 == 7) = true then ck (a1.length * 8 <= 140737488355328) (ck ((0 : Int) <= a0.2.2.2.2.2.1 /\ a0.2.2.2.2.2.1 < (a2.length : Int)) (cQ a1 (a2.getD ((a0.2.2.2.2.2.1).toNat) []) (fun (r15 : Bool) => Q (a1, r15)))) else ck (a1.length * 8 <= 140737488355328) (Q (a1, true))
structure oH (a0 : Int × Int × Int × Int × Int × Int × Bool) (a1 : List Int) (a2 : List (List Int)) (Q : ((List Int) × Bool) -> Prop) : Prop where
 it : uW a0 a1 a2 Q
noncomputable def GQ : Ent := ⟨[8, 9, 10], [.lf (.int .i64), .lf (.int .i64), .lf (.int .i64)], [], fun x k => bG x.1.1 x.1.2.1 (fun (y16 : Bool) => k .ret ⟨[(6, .own 0), (7, .pl (.bool y16))], [.lst true (.int .i64) [x.1.2.2.1, x.1.1, x.1.2.1] false]⟩)⟩
noncomputable def GI : Ent := ⟨[11, 67, 68, 69], [.lf (.int .i64), .lf (.fz false (.int .i64)), .lf (.int .i64), .lf (.int .i64)], [], fun x k => dS x.1.2.1 x.1.2.2.1 (fun (y17 : Int) => k (.exit 1) ⟨[(11, .pl (.int .i64 y17))], []⟩) (x.1.1, x.1.2.2.2.1)⟩
noncomputable def kI : Tab := fun n => match n with | 6895 => some GQ | 27626 => some GI | _ => none
noncomputable def s7 : Go.Mach.Ends := fun n => match n with | 2 => some ([], [1, 2, 3]) | 12 => some ([], [1, 2, 3, 15]) | 14 => some ([], [6, 7]) | 15 => some ([], [6, 7]) | 52 => some ([], [1, 2, 3, 15, 16]) | 212 => some ([], [6, 7]) | 213 => some ([], [6, 7]) | 428 => some ([], [1, 2, 3, 15, 24]) | 858 => some ([], [1, 2, 3, 15, 24]) | 862 => some ([], [1, 2, 3, 15, 65]) | 1718 => some ([], [1, 2, 3, 15, 24]) | 1720 => some ([], [1, 3, 30]) | 1722 => some ([], [1, 3, 8, 9]) | 3438 => some ([], [1, 2, 3, 15, 24]) | 3439 => some ([], [1, 2, 3, 15, 24]) | 3443 => some ([], [1, 3]) | 3446 => some ([], [3, 8, 9, 10]) | 3452 => some ([], [1, 11]) | 3454 => some ([], [1, 2, 3, 79]) | 6884 => some ([], [6, 7]) | 6885 => some ([], [6, 7]) | 6911 => some ([], [1]) | 13788 => some ([], [3, 8, 9, 10, 52]) | 13790 => some ([], [6, 7]) | 13791 => some ([], [6, 7]) | 13812 => some ([], [11, 67, 68, 69]) | 13814 => some ([], [6, 7]) | 13815 => some ([], [6, 7]) | 13820 => some ([], [6, 7]) | 13821 => some ([], [6, 7]) | 27578 => some ([], [8, 9, 10]) | 27579 => some ([], [8, 9, 10]) | 27626 => some ([], [11, 67, 68, 69]) | 110504 => some ([], [11, 67, 68, 69, 70]) | 442020 => some ([], [11, 67, 68, 69]) | 442021 => some ([], [11]) | 442023 => some ([], [11, 67, 68, 69]) | 1768088 => some ([], [11, 13, 67, 68, 69]) | 1768089 => some ([], [11, 67, 68, 69]) | _ => none
noncomputable def vI : Code := Try.f26.body.getD .skip
theorem F9 : aL tM kI s7 vI := by
 intro n E hn f c hs x k h
 unfold kI at hn
 split at hn
 ·cases hn; exact bS hs (by kernel_rfl) (by kernel_rfl) h.it
 ·cases hn; exact aK hs (by kernel_rfl) (fun y : Int × Int => ⟨[(11, .pl (.int .i64 y.1)), (67, .fz false (.int .i64) x.1.2.1), (68, .pl (.int .i64 x.1.2.2.1)), (69, .pl (.int .i64 y.2))], []⟩) (x.1.1, x.1.2.2.2.1) (by kernel_rfl) (fun y X => by kernel_rfl) h.it
 ·cases hn
def dR : List Sh := [.agg [.int .i64, .int .i64, .int .i64, .int .i64, .int .i64, .int .i64, .bool], .lf (.fz false (.int .i64)), .lf (.fz false (.slc (.int .i64)))]
def l8 (x : aI dR) (Q : List (Bool × List VV) -> Prop) : Prop := oH (x.1.1, (x.1.2.1, (x.1.2.2.1, (x.1.2.2.2.1, (x.1.2.2.2.2.1, (x.1.2.2.2.2.2.1, x.1.2.2.2.2.2.2.1)))))) x.2.1 x.2.2.1 (fun (r : (List Int) × Bool) => Q (aH [(false, (.slc (.int .i64))), (false, .bool)] [.n, .n] (r.1, (r.2, ()))))
theorem EX (x : aI dR) (Q : List (Bool × List VV) -> Prop) (h : l8 x Q) : aD Try.prog 26 (aM dR x) Q :=
 aC [.n, .n] (G := tM) (ct := kI) (en := s7) (fn := Try.f26) (cd := vI) (rt := [(false, (.slc (.int .i64))), (false, .bool)]) Try.func26 (by kernel_rfl) (by kernel_rfl) (Nat.le_of_ble_eq_true rfl) F9 oP (aG rfl) h.it (by kernel_rfl)
noncomputable def nG : FuncId -> List VV -> (List (Bool × List VV) -> Prop) -> Prop := fun f args Q => if f = 26 then unA dR args (fun x => l8 x Q) else kX f args Q
theorem qU : ∀ f args Q, nG f args Q -> aD Try.prog f args Q := aE oP (f0 := 26) dR (fun x Q => l8 x Q) EX
noncomputable def wN : Cfg := ⟨Try.prog, tt, nG, fun _ _ _ => False, none, false⟩
def eU (x0 : List (Int × Int × Int × Int × Int × Int × Bool)) (x1 : Int) (K0 : (List (List Int)) -> Prop) (K1 : (Int × Int) -> Prop) (s : Int × List (List Int)) (nx : (Int × List (List Int)) -> Prop) : Prop :=
 if (decide (s.1 < x1)) = true then ck ((0 : Int) <= s.1 /\ s.1 < (x0.length : Int)) (ck ((0 : Int) <= s.1 /\ s.1 < (s.2.length : Int)) (oH ((x0.getD ((s.1).toNat) (0, (0, (0, (0, (0, (0, false))))))).1, (((x0.getD ((s.1).toNat) (0, (0, (0, (0, (0, (0, false))))))).2).1, ((((x0.getD ((s.1).toNat) (0, (0, (0, (0, (0, (0, false))))))).2).2).1, (((((x0.getD ((s.1).toNat) (0, (0, (0, (0, (0, (0, false))))))).2).2).2).1, ((((((x0.getD ((s.1).toNat) (0, (0, (0, (0, (0, (0, false))))))).2).2).2).2).1, (((((((x0.getD ((s.1).toNat) (0, (0, (0, (0, (0, (0, false))))))).2).2).2).2).2).1, ((((((x0.getD ((s.1).toNat) (0, (0, (0, (0, (0, (0, false))))))).2).2).2).2).2).2)))))) (s.2.getD ((s.1).toNat) []) s.2 (fun (r2 : (List Int) × Bool) => if (!r2.2) = true then K1 (IntKind.i64.wrap (s.1 + 1), 2) else c8 r2.1 (fun (r3 : Bool) => if (!r3) = true then K1 (IntKind.i64.wrap (s.1 + 1), 1) else ck ((s.2.length + [r2.1].length) * 24 <= 140737488355328) (nx (IntKind.i64.wrap (s.1 + 1), s.2 ++ [r2.1])))))) else K0 s.2
structure rB (x0 : List (Int × Int × Int × Int × Int × Int × Bool)) (x1 : Int) (K0 : (List (List Int)) -> Prop) (K1 : (Int × Int) -> Prop) (s : Int × List (List Int)) : Prop where
 it : Go.Mach.Loop (eU x0 x1 K0 K1) s
def HG (a0 : (Int × Int × Int) × List (Int × Int × Int × Int × Int × Int × Bool)) (Q : ((List (List Int)) × Int × Int) -> Prop) : Prop :=
 kR ((a0.1.1, (a0.1.2.1, a0.1.2.2)), a0.2) (fun (r1 : Bool) => if (!r1) = true then Q (([] : List (List Int)), 0, 1) else rB a0.2 (a0.2.length : Int) (fun (y4 : List (List Int)) => Q (y4, 0, 0)) (fun (y5 : Int × Int) => Q (([] : List (List Int)), y5.1, y5.2)) (0, [[a0.1.1, a0.1.2.1, a0.1.2.2]]))
structure fH (a0 : (Int × Int × Int) × List (Int × Int × Int × Int × Int × Int × Bool)) (Q : ((List (List Int)) × Int × Int) -> Prop) : Prop where
 it : HG a0 Q
noncomputable def FU : Ent := ⟨[5, 25, 26, 27], [.lf (.cst (.own 0)), .lf (.fz false (.pair (.int .i64) (.pair (.int .i64) (.pair (.int .i64) (.pair (.int .i64) (.pair (.int .i64) (.pair (.int .i64) .bool))))))), .lf (.int .i64), .lf (.int .i64)], [.lst true (.slc (.int .i64)) false], fun x k => rB x.1.2.1 x.1.2.2.1 (fun (y6 : List (List Int)) => k (.exit 0) ⟨[(5, .own 0)], [.lst true (.slc (.int .i64)) y6 false]⟩) (fun (y7 : Int × Int) => k .ret ⟨[(2, .pl (.slice none 0 0)), (3, .pl (.int .i64 y7.1)), (4, .pl (.int .i64 y7.2))], []⟩) (x.1.2.2.2.1, x.2.1)⟩
noncomputable def j0 : Tab := fun n => match n with | 122 => some FU | _ => none
noncomputable def rH : Go.Mach.Ends := fun n => match n with | 2 => some ([], [1]) | 12 => some ([], [1, 12]) | 14 => some ([], [1, 5]) | 27 => some ([], [1]) | 52 => some ([], [2, 3, 4]) | 53 => some ([], [2, 3, 4]) | 60 => some ([], [5, 25, 26, 27]) | 62 => some ([], [2, 3, 4]) | 63 => some ([], [2, 3, 4]) | 122 => some ([], [5, 25, 26, 27]) | 488 => some ([], [5, 25, 26, 27, 28]) | 1956 => some ([], [5, 25, 26, 27]) | 1957 => some ([], [5]) | 1959 => some ([], [5, 25, 26, 27]) | 7832 => some ([], [5, 6, 7, 25, 26, 27]) | 15666 => some ([], [5, 6, 8, 9, 25, 26, 27]) | 62668 => some ([], [5, 6, 8, 25, 26, 27, 43]) | 62671 => some ([], [5, 25, 26, 27]) | 125339 => some ([], [5, 6, 8, 25, 26, 27]) | 125340 => some ([], [5, 6, 8, 25, 26, 27, 48]) | 250676 => some ([], [2, 3, 4]) | 250677 => some ([], [2, 3, 4]) | 250683 => some ([], [5, 8, 25, 26, 27]) | 501364 => some ([], [2, 3, 4]) | 501365 => some ([], [2, 3, 4]) | _ => none
noncomputable def sX : Code := Try.f12.body.getD .skip
theorem DX : aL wN j0 rH sX := by
 intro n E hn f c hs x k h
 unfold j0 at hn
 split at hn
 ·cases hn; exact aK hs (by kernel_rfl) (fun y : Int × List (List Int) => ⟨[(5, .own 0), (25, .fz false (.pair (.int .i64) (.pair (.int .i64) (.pair (.int .i64) (.pair (.int .i64) (.pair (.int .i64) (.pair (.int .i64) .bool)))))) x.1.2.1), (26, .pl (.int .i64 x.1.2.2.1)), (27, .pl (.int .i64 y.1))], [.lst true (.slc (.int .i64)) y.2 false]⟩) (x.1.2.2.2.1, x.2.1) (by kernel_rfl) (fun y X => by kernel_rfl) h.it
 ·cases hn
def dC : List Sh := [.agg [.int .i64, .int .i64, .int .i64, .fz false (.pair (.int .i64) (.pair (.int .i64) (.pair (.int .i64) (.pair (.int .i64) (.pair (.int .i64) (.pair (.int .i64) .bool))))))]]
def kP (x : aI dC) (Q : List (Bool × List VV) -> Prop) : Prop := fH ((x.1.1, (x.1.2.1, x.1.2.2.1)), x.1.2.2.2.1) (fun (r : (List (List Int)) × Int × Int) => Q (aH [(false, (.slc (.slc (.int .i64)))), (false, (.int .i64)), (false, (.int .i64))] [.n, .n, .n] (r.1, (r.2.1, (r.2.2, ())))))
theorem DR (x : aI dC) (Q : List (Bool × List VV) -> Prop) (h : kP x Q) : aD Try.prog 12 (aM dC x) Q :=
 aC [.n, .n, .n] (G := wN) (ct := j0) (en := rH) (fn := Try.f12) (cd := sX) (rt := [(false, (.slc (.slc (.int .i64)))), (false, (.int .i64)), (false, (.int .i64))]) Try.func12 (by kernel_rfl) (by kernel_rfl) (Nat.le_of_ble_eq_true rfl) DX qU (aG rfl) h.it (by kernel_rfl)
noncomputable def lT : FuncId -> List VV -> (List (Bool × List VV) -> Prop) -> Prop := fun f args Q => if f = 12 then unA dC args (fun x => kP x Q) else nG f args Q
theorem pT : ∀ f args Q, lT f args Q -> aD Try.prog f args Q := aE qU (f0 := 12) dC (fun x Q => kP x Q) DR
noncomputable def t5 : Cfg := ⟨Try.prog, tt, lT, fun _ _ _ => False, none, false⟩
def wE (a0 : Int × Int × Int × Int × Int × Int × Bool) (a1 : List Int) (Q : ((List Int) × Int) -> Prop) : Prop :=
 if (a0.1 == 1) = true then ck ((0 : Int) <= 0 /\ 0 < (a1.length : Int)) (Q ([a0.2.1, a1.getD 0 0], a0.2.1)) else if (a0.1 == 2) = true then ck ((0 : Int) <= 0 /\ 0 < (a1.length : Int)) (Q ([a0.2.1, a1.getD 0 0, a0.2.2.1, a0.2.2.1], a0.2.1)) else Q (([] : List Int), 0)
structure kA (a0 : Int × Int × Int × Int × Int × Int × Bool) (a1 : List Int) (Q : ((List Int) × Int) -> Prop) : Prop where
 it : wE a0 a1 Q
noncomputable def uS : Tab := fun n => none
noncomputable def uO : Go.Mach.Ends := fun n => match n with | 2 => some ([], [1, 2]) | 12 => some ([], [1, 2, 7]) | 14 => some ([], [4, 5]) | 15 => some ([], [4, 5]) | 52 => some ([], [1, 2, 7, 8]) | 212 => some ([], [4, 5]) | 213 => some ([], [4, 5]) | 214 => some ([], [1, 2, 18]) | 431 => some ([], []) | 860 => some ([], [4, 5]) | 861 => some ([], [4, 5]) | _ => none
noncomputable def wU : Code := Try.f27.body.getD .skip
theorem GF : aL t5 uS uO wU := by
 intro n E hn f c hs x k h
 cases hn
def eI : List Sh := [.agg [.int .i64, .int .i64, .int .i64, .int .i64, .int .i64, .int .i64, .bool], .lf (.fz false (.int .i64))]
def nF (x : aI eI) (Q : List (Bool × List VV) -> Prop) : Prop := kA (x.1.1, (x.1.2.1, (x.1.2.2.1, (x.1.2.2.2.1, (x.1.2.2.2.2.1, (x.1.2.2.2.2.2.1, x.1.2.2.2.2.2.2.1)))))) x.2.1 (fun (r : (List Int) × Int) => Q (aH [(false, (.slc (.int .i64))), (false, (.int .i64))] [.n, .n] (r.1, (r.2, ()))))
theorem GA (x : aI eI) (Q : List (Bool × List VV) -> Prop) (h : nF x Q) : aD Try.prog 27 (aM eI x) Q :=
 aC [.n, .n] (G := t5) (ct := uS) (en := uO) (fn := Try.f27) (cd := wU) (rt := [(false, (.slc (.int .i64))), (false, (.int .i64))]) Try.func27 (by kernel_rfl) (by kernel_rfl) (Nat.le_of_ble_eq_true rfl) GF pT (aG rfl) h.it (by kernel_rfl)
noncomputable def o6 : FuncId -> List VV -> (List (Bool × List VV) -> Prop) -> Prop := fun f args Q => if f = 27 then unA eI args (fun x => nF x Q) else lT f args Q
theorem sO : ∀ f args Q, o6 f args Q -> aD Try.prog f args Q := aE pT (f0 := 27) eI (fun x Q => nF x Q) GA
noncomputable def zW : Cfg := ⟨Try.prog, tt, o6, fun _ _ _ => False, none, false⟩
def MJ (a0 : (Int × Int × Int) × List (Int × Int × Int × Int × Int × Int × Bool)) (a1 : Int) (Q : ((List Int) × Int) -> Prop) : Prop :=
 fH ((a0.1.1, (a0.1.2.1, a0.1.2.2)), a0.2) (fun (r1 : (List (List Int)) × Int × Int) => if (((r1.2.2 != 0) || (decide (a1 < 1))) || (decide ((a0.2.length : Int) < a1))) = true then Q (([] : List Int), 0) else ck ((0 : Int) <= (IntKind.i64.wrap (a1 - 1)) /\ (IntKind.i64.wrap (a1 - 1)) < (a0.2.length : Int)) (ck ((0 : Int) <= (IntKind.i64.wrap (a1 - 1)) /\ (IntKind.i64.wrap (a1 - 1)) < (r1.1.length : Int)) (kA ((a0.2.getD ((IntKind.i64.wrap (a1 - 1)).toNat) (0, (0, (0, (0, (0, (0, false))))))).1, (((a0.2.getD ((IntKind.i64.wrap (a1 - 1)).toNat) (0, (0, (0, (0, (0, (0, false))))))).2).1, ((((a0.2.getD ((IntKind.i64.wrap (a1 - 1)).toNat) (0, (0, (0, (0, (0, (0, false))))))).2).2).1, (((((a0.2.getD ((IntKind.i64.wrap (a1 - 1)).toNat) (0, (0, (0, (0, (0, (0, false))))))).2).2).2).1, ((((((a0.2.getD ((IntKind.i64.wrap (a1 - 1)).toNat) (0, (0, (0, (0, (0, (0, false))))))).2).2).2).2).1, (((((((a0.2.getD ((IntKind.i64.wrap (a1 - 1)).toNat) (0, (0, (0, (0, (0, (0, false))))))).2).2).2).2).2).1, ((((((a0.2.getD ((IntKind.i64.wrap (a1 - 1)).toNat) (0, (0, (0, (0, (0, (0, false))))))).2).2).2).2).2).2)))))) (r1.1.getD ((IntKind.i64.wrap (a1 - 1)).toNat) []) (fun (r2 : (List Int) × Int) => c8 r2.1 (fun (r3 : Bool) => if (!r3) = true then Q (([] : List Int), 0) else Q (r2.1, r2.2))))))
structure qM (a0 : (Int × Int × Int) × List (Int × Int × Int × Int × Int × Int × Bool)) (a1 : Int) (Q : ((List Int) × Int) -> Prop) : Prop where
 it : MJ a0 a1 Q
noncomputable def vP : Tab := fun n => none
noncomputable def vD : Go.Mach.Ends := fun n => match n with | 2 => some ([], [1, 2]) | 6 => some ([], [1, 2, 6, 8]) | 28 => some ([], [1, 2, 6, 29]) | 30 => some ([], [9, 10]) | 59 => some ([], [1, 2, 6]) | 116 => some ([], [4, 5]) | 117 => some ([], [4, 5]) | 124 => some ([], [9, 10, 47]) | 126 => some ([], [4, 5]) | 127 => some ([], [4, 5]) | 251 => some ([], [9, 10]) | 500 => some ([], [4, 5]) | 501 => some ([], [4, 5]) | _ => none
noncomputable def wY : Code := Try.f13.body.getD .skip
theorem GX : aL zW vP vD wY := by
 intro n E hn f c hs x k h
 cases hn
def eC : List Sh := [.agg [.int .i64, .int .i64, .int .i64, .fz false (.pair (.int .i64) (.pair (.int .i64) (.pair (.int .i64) (.pair (.int .i64) (.pair (.int .i64) (.pair (.int .i64) .bool))))))], .lf (.int .i64)]
def m6 (x : aI eC) (Q : List (Bool × List VV) -> Prop) : Prop := qM ((x.1.1, (x.1.2.1, x.1.2.2.1)), x.1.2.2.2.1) x.2.1 (fun (r : (List Int) × Int) => Q (aH [(false, (.slc (.int .i64))), (false, (.int .i64))] [.n, .n] (r.1, (r.2, ()))))
theorem HR (x : aI eC) (Q : List (Bool × List VV) -> Prop) (h : m6 x Q) : aD Try.prog 13 (aM eC x) Q :=
 aC [.n, .n] (G := zW) (ct := vP) (en := vD) (fn := Try.f13) (cd := wY) (rt := [(false, (.slc (.int .i64))), (false, (.int .i64))]) Try.func13 (by kernel_rfl) (by kernel_rfl) (Nat.le_of_ble_eq_true rfl) GX sO (aG rfl) h.it (by kernel_rfl)
noncomputable def oC : FuncId -> List VV -> (List (Bool × List VV) -> Prop) -> Prop := fun f args Q => if f = 13 then unA eC args (fun x => m6 x Q) else o6 f args Q
theorem sP : ∀ f args Q, oC f args Q -> aD Try.prog f args Q := aE sO (f0 := 13) eC (fun x Q => m6 x Q) HR
noncomputable def zK : Cfg := ⟨Try.prog, tt, oC, fun _ _ _ => False, none, false⟩
def QK (a0 : Int) (Q : Int -> Prop) : Prop :=
 ck ((0 : Int) <= 30) (ck ((0 : Int) <= 27) (ck ((0 : Int) <= 31) (Q (IntKind.u64.wrap ((BitVec.ofInt (IntKind.u64).bits (IntKind.u64.wrap ((IntKind.u64.wrap ((BitVec.ofInt (IntKind.u64).bits (IntKind.u64.wrap ((IntKind.u64.wrap ((BitVec.ofInt (IntKind.u64).bits (IntKind.u64.wrap (a0 + 11400714819323198485)) ^^^ BitVec.ofInt (IntKind.u64).bits ((IntKind.u64.wrap (a0 + 11400714819323198485)).fdiv (2 ^ (min ((30 : Int)).toNat (IntKind.u64).bits)))).toNat : Nat)) * 13787848793156543929)) ^^^ BitVec.ofInt (IntKind.u64).bits ((IntKind.u64.wrap ((IntKind.u64.wrap ((BitVec.ofInt (IntKind.u64).bits (IntKind.u64.wrap (a0 + 11400714819323198485)) ^^^ BitVec.ofInt (IntKind.u64).bits ((IntKind.u64.wrap (a0 + 11400714819323198485)).fdiv (2 ^ (min ((30 : Int)).toNat (IntKind.u64).bits)))).toNat : Nat)) * 13787848793156543929)).fdiv (2 ^ (min ((27 : Int)).toNat (IntKind.u64).bits)))).toNat : Nat)) * 10723151780598845931)) ^^^ BitVec.ofInt (IntKind.u64).bits ((IntKind.u64.wrap ((IntKind.u64.wrap ((BitVec.ofInt (IntKind.u64).bits (IntKind.u64.wrap ((IntKind.u64.wrap ((BitVec.ofInt (IntKind.u64).bits (IntKind.u64.wrap (a0 + 11400714819323198485)) ^^^ BitVec.ofInt (IntKind.u64).bits ((IntKind.u64.wrap (a0 + 11400714819323198485)).fdiv (2 ^ (min ((30 : Int)).toNat (IntKind.u64).bits)))).toNat : Nat)) * 13787848793156543929)) ^^^ BitVec.ofInt (IntKind.u64).bits ((IntKind.u64.wrap ((IntKind.u64.wrap ((BitVec.ofInt (IntKind.u64).bits (IntKind.u64.wrap (a0 + 11400714819323198485)) ^^^ BitVec.ofInt (IntKind.u64).bits ((IntKind.u64.wrap (a0 + 11400714819323198485)).fdiv (2 ^ (min ((30 : Int)).toNat (IntKind.u64).bits)))).toNat : Nat)) * 13787848793156543929)).fdiv (2 ^ (min ((27 : Int)).toNat (IntKind.u64).bits)))).toNat : Nat)) * 10723151780598845931)).fdiv (2 ^ (min ((31 : Int)).toNat (IntKind.u64).bits)))).toNat : Nat)))))
structure eO (a0 : Int) (Q : Int -> Prop) : Prop where
 it : QK a0 Q
noncomputable def zE : Tab := fun n => none
noncomputable def yW : Go.Mach.Ends := fun n => match n with | 2 => some ([], [0]) | 6 => some ([], [0]) | 14 => some ([], [0]) | 30 => some ([], [0]) | 62 => some ([], [2]) | 63 => some ([], [2]) | _ => none
noncomputable def A0 : Code := Try.f49.body.getD .skip
theorem MK : aL zK zE yW A0 := by
 intro n E hn f c hs x k h
 cases hn
def gM : List Sh := [.lf (.int .u64)]
def qC (x : aI gM) (Q : List (Bool × List VV) -> Prop) : Prop := eO x.1 (fun (r : Int) => Q (aH [(false, (.int .u64))] [.n] (r, ())))
theorem MP (x : aI gM) (Q : List (Bool × List VV) -> Prop) (h : qC x Q) : aD Try.prog 49 (aM gM x) Q :=
 aC [.n] (G := zK) (ct := zE) (en := yW) (fn := Try.f49) (cd := A0) (rt := [(false, (.int .u64))]) Try.func49 (by kernel_rfl) (by kernel_rfl) (Nat.le_of_ble_eq_true rfl) MK sP (aG rfl) h.it (by kernel_rfl)
noncomputable def sD : FuncId -> List VV -> (List (Bool × List VV) -> Prop) -> Prop := fun f args Q => if f = 49 then unA gM args (fun x => qC x Q) else oC f args Q
theorem wR : ∀ f args Q, sD f args Q -> aD Try.prog f args Q := aE sP (f0 := 49) gM (fun x Q => qC x Q) MP
noncomputable def CK : Cfg := ⟨Try.prog, tt, sD, fun _ _ _ => False, none, false⟩
def TS (a0 : Int) (a1 : Int) (a2 : Int) (Q : Int -> Prop) : Prop :=
 eO a0 (fun (r1 : Int) => eO (IntKind.u64.wrap ((BitVec.ofInt (IntKind.u64).bits r1 ^^^ BitVec.ofInt (IntKind.u64).bits a1).toNat : Nat)) (fun (r2 : Int) => eO (IntKind.u64.wrap ((BitVec.ofInt (IntKind.u64).bits r2 ^^^ BitVec.ofInt (IntKind.u64).bits a2).toNat : Nat)) (fun (r3 : Int) => Q r3)))
structure yA (a0 : Int) (a1 : Int) (a2 : Int) (Q : Int -> Prop) : Prop where
 it : TS a0 a1 a2 Q
noncomputable def A3 : Tab := fun n => none
noncomputable def AY : Go.Mach.Ends := fun n => match n with | 2 => some ([], [0, 1, 2]) | 6 => some ([], [6]) | 7 => some ([], [6]) | _ => none
noncomputable def DL : Code := Try.f48.body.getD .skip
theorem O7 : aL CK A3 AY DL := by
 intro n E hn f c hs x k h
 cases hn
def iC : List Sh := [.lf (.int .u64), .lf (.int .u64), .lf (.int .u64)]
def sI (x : aI iC) (Q : List (Bool × List VV) -> Prop) : Prop := yA x.1 x.2.1 x.2.2.1 (fun (r : Int) => Q (aH [(false, (.int .u64))] [.n] (r, ())))
theorem NG (x : aI iC) (Q : List (Bool × List VV) -> Prop) (h : sI x Q) : aD Try.prog 48 (aM iC x) Q :=
 aC [.n] (G := CK) (ct := A3) (en := AY) (fn := Try.f48) (cd := DL) (rt := [(false, (.int .u64))]) Try.func48 (by kernel_rfl) (by kernel_rfl) (Nat.le_of_ble_eq_true rfl) O7 wR (aG rfl) h.it (by kernel_rfl)
noncomputable def uJ : FuncId -> List VV -> (List (Bool × List VV) -> Prop) -> Prop := fun f args Q => if f = 48 then unA iC args (fun x => sI x Q) else sD f args Q
theorem zM : ∀ f args Q, uJ f args Q -> aD Try.prog f args Q := aE wR (f0 := 48) iC (fun x Q => sI x Q) NG
noncomputable def EE : Cfg := ⟨Try.prog, tt, uJ, fun _ _ _ => False, none, false⟩
def gH (x0 : Int) (x1 : Int) (K0 : Unit -> Prop) (K1 : Int -> Prop) (s : Int × Int) (nx : (Int × Int) -> Prop) : Prop :=
 if (decide (s.2 < 100)) = true then if (decide (x1 <= s.1)) = true then ck ((IntKind.u64.wrap x0) ≠ (0 : Int)) (K1 (IntKind.i64.wrap ((s.1).tmod (IntKind.u64.wrap x0)))) else eO s.1 (fun (r2 : Int) => nx (r2, IntKind.i64.wrap (s.2 + 1))) else K0 ()
structure u5 (x0 : Int) (x1 : Int) (K0 : Unit -> Prop) (K1 : Int -> Prop) (s : Int × Int) : Prop where
 it : Go.Mach.Loop (gH x0 x1 K0 K1) s
def w9 (a0 : Int) (a1 : Int) (a2 : Int) (a3 : Int) (Q : Int -> Prop) : Prop :=
 if ((decide (a3 < 1)) || (decide (2147483648 < a3))) = true then Q 0 else ck ((IntKind.u64.wrap a3) ≠ (0 : Int)) (ck ((IntKind.u64.wrap a3) ≠ (0 : Int)) (yA a0 a1 a2 (fun (r1 : Int) => u5 a3 ((IntKind.u64.wrap ((((18446744073709551615 : Int)).tmod (IntKind.u64.wrap a3)) + 1)).tmod (IntKind.u64.wrap a3)) (fun (y3 : Unit) => Q 0) (fun (y4 : Int) => Q y4) (r1, 0))))
structure qJ (a0 : Int) (a1 : Int) (a2 : Int) (a3 : Int) (Q : Int -> Prop) : Prop where
 it : w9 a0 a1 a2 a3 Q
noncomputable def JK : Ent := ⟨[3, 9, 10, 28], [.lf (.int .i64), .lf (.int .u64), .lf (.int .u64), .lf (.int .i64)], [], fun x k => u5 x.1.1 x.1.2.1 (fun (y5 : Unit) => k (.exit 0) ⟨[], []⟩) (fun (y6 : Int) => k .ret ⟨[(8, .pl (.int .i64 y6))], []⟩) (x.1.2.2.1, x.1.2.2.2.1)⟩
noncomputable def lX : Tab := fun n => match n with | 250 => some JK | _ => none
noncomputable def tX : Go.Mach.Ends := fun n => match n with | 2 => some ([], [0, 1, 2, 3]) | 12 => some ([], [0, 1, 2, 3, 16]) | 14 => some ([], [0, 1, 2, 3, 9]) | 27 => some ([], [0, 1, 2, 3]) | 30 => some ([], [3, 9, 10]) | 52 => some ([], [8]) | 53 => some ([], [8]) | 124 => some ([], [3, 9, 10, 28]) | 126 => some ([], [8]) | 127 => some ([], [8]) | 250 => some ([], [3, 9, 10, 28]) | 1000 => some ([], [3, 9, 10, 28, 29]) | 4004 => some ([], [3, 9, 10, 28]) | 4005 => some ([], []) | 4007 => some ([], [3, 9, 10, 28]) | 16025 => some ([], [3, 9, 10, 28]) | 32048 => some ([], [3, 9, 10, 28, 32]) | 64099 => some ([], [3, 9, 10, 28]) | 128196 => some ([], [8]) | 128197 => some ([], [8]) | _ => none
noncomputable def wK : Code := Try.f28.body.getD .skip
theorem HJ : aL EE lX tX wK := by
 intro n E hn f c hs x k h
 unfold lX at hn
 split at hn
 ·cases hn; exact aK hs (by kernel_rfl) (fun y : Int × Int => ⟨[(3, .pl (.int .i64 x.1.1)), (9, .pl (.int .u64 x.1.2.1)), (10, .pl (.int .u64 y.1)), (28, .pl (.int .i64 y.2))], []⟩) (x.1.2.2.1, x.1.2.2.2.1) (by kernel_rfl) (fun y X => by kernel_rfl) h.it
 ·cases hn
def eH : List Sh := [.lf (.int .u64), .lf (.int .u64), .lf (.int .u64), .lf (.int .i64)]
def nH (x : aI eH) (Q : List (Bool × List VV) -> Prop) : Prop := qJ x.1 x.2.1 x.2.2.1 x.2.2.2.1 (fun (r : Int) => Q (aH [(false, (.int .i64))] [.n] (r, ())))
theorem HL (x : aI eH) (Q : List (Bool × List VV) -> Prop) (h : nH x Q) : aD Try.prog 28 (aM eH x) Q :=
 aC [.n] (G := EE) (ct := lX) (en := tX) (fn := Try.f28) (cd := wK) (rt := [(false, (.int .i64))]) Try.func28 (by kernel_rfl) (by kernel_rfl) (Nat.le_of_ble_eq_true rfl) HJ zM (aG rfl) h.it (by kernel_rfl)
noncomputable def oV : FuncId -> List VV -> (List (Bool × List VV) -> Prop) -> Prop := fun f args Q => if f = 28 then unA eH args (fun x => nH x Q) else uJ f args Q
theorem tN : ∀ f args Q, oV f args Q -> aD Try.prog f args Q := aE zM (f0 := 28) eH (fun x Q => nH x Q) HL
noncomputable def yR : Cfg := ⟨Try.prog, tt, oV, fun _ _ _ => False, none, false⟩
def rC (x3 : Int) (K0 : Int -> Prop) : Prop :=
 K0 (IntKind.i64.wrap (x3 + 1))
structure iF (x3 : Int) (K0 : Int -> Prop) : Prop where
 it : rC x3 K0
def gI (x0 : Int) (x1 : Int) (x5 : Int) (K0 : (List Int) -> Prop) (s : Int × List Int) (nx : (Int × List Int) -> Prop) : Prop :=
 if (decide (s.1 < x5)) = true then qJ x0 (IntKind.u64.wrap (IntKind.i64.wrap (x1 + 1))) (IntKind.u64.wrap s.1) 63 (fun (r13 : Int) => ck ((s.2.length + [IntKind.i8.wrap (IntKind.i64.wrap (r13 - 31))].length) * 1 <= 140737488355328) (nx (IntKind.i64.wrap (s.1 + 1), s.2 ++ [IntKind.i8.wrap (IntKind.i64.wrap (r13 - 31))]))) else K0 s.2
structure uF (x0 : Int) (x1 : Int) (x5 : Int) (K0 : (List Int) -> Prop) (s : Int × List Int) : Prop where
 it : Go.Mach.Loop (gI x0 x1 x5 K0) s
def qY (x0 : Int) (x1 : Int) (x6 : List (((List Int) × Int × List Int) × (List Int) × (List Int) × Int × List Int)) (x7 : Int) (x8 : Int) (x9 : List Int) (x10 : List Int) (x11 : List Int) (x12 : List Int) (K0 : (List (((List Int) × Int × List Int) × (List Int) × (List Int) × Int × List Int)) -> Prop) : Prop :=
 uF x0 x1 (x10.length : Int) (fun (y13 : List Int) => ck ((x6.length + [((x9, (x7, y13)), (x10, (x11, (x8, x12))))].length) * 136 <= 140737488355328) (K0 (x6 ++ [((x9, (x7, y13)), (x10, (x11, (x8, x12))))]))) (0, ([] : List Int))
structure vE (x0 : Int) (x1 : Int) (x6 : List (((List Int) × Int × List Int) × (List Int) × (List Int) × Int × List Int)) (x7 : Int) (x8 : Int) (x9 : List Int) (x10 : List Int) (x11 : List Int) (x12 : List Int) (K0 : (List (((List Int) × Int × List Int) × (List Int) × (List Int) × Int × List Int)) -> Prop) : Prop where
 it : qY x0 x1 x6 x7 x8 x9 x10 x11 x12 K0
def gD (x0 : Int) (x1 : List (Int × Int × Int × Int × Int × Int × Bool)) (x2 : Int) (x4 : List (List Int)) (K0 : (List (((List Int) × Int × List Int) × (List Int) × (List Int) × Int × List Int)) -> Prop) (K1 : Unit -> Prop) (s : Int × List (((List Int) × Int × List Int) × (List Int) × (List Int) × Int × List Int)) (nx : (Int × List (((List Int) × Int × List Int) × (List Int) × (List Int) × Int × List Int)) -> Prop) : Prop :=
 if (decide (s.1 < x2)) = true then ck ((0 : Int) <= s.1 /\ s.1 < (x1.length : Int)) (ck ((0 : Int) <= s.1 /\ s.1 < (x4.length : Int)) (kA ((x1.getD ((s.1).toNat) (0, (0, (0, (0, (0, (0, false))))))).1, (((x1.getD ((s.1).toNat) (0, (0, (0, (0, (0, (0, false))))))).2).1, ((((x1.getD ((s.1).toNat) (0, (0, (0, (0, (0, (0, false))))))).2).2).1, (((((x1.getD ((s.1).toNat) (0, (0, (0, (0, (0, (0, false))))))).2).2).2).1, ((((((x1.getD ((s.1).toNat) (0, (0, (0, (0, (0, (0, false))))))).2).2).2).2).1, (((((((x1.getD ((s.1).toNat) (0, (0, (0, (0, (0, (0, false))))))).2).2).2).2).2).1, ((((((x1.getD ((s.1).toNat) (0, (0, (0, (0, (0, (0, false))))))).2).2).2).2).2).2)))))) (x4.getD ((s.1).toNat) []) (fun (r9 : (List Int) × Int) => if ((r9.1.length : Int) == 0) = true then ck ((s.2.length + [((([] : List Int), (0, ([] : List Int))), (([] : List Int), (([] : List Int), (0, ([] : List Int)))))].length) * 136 <= 140737488355328) (iF s.1 (fun (y10 : Int) => nx (y10, (s.2 ++ [((([] : List Int), (0, ([] : List Int))), (([] : List Int), (([] : List Int), (0, ([] : List Int)))))])))) else c8 r9.1 (fun (r11 : Bool) => if (!r11) = true then K1 () else ck ((0 : Int) <= r9.2 /\ (1 : Nat) * r9.2 <= 70368744177664) (fL r9.1 (fun (r12 : Int) => ck ((0 : Int) <= r12 /\ (4 : Nat) * r12 <= 70368744177664) (vE x0 s.1 s.2 (-7) (-7) r9.1 (List.replicate (r12).toNat (0 : Int)) [r9.2] (List.replicate (r9.2).toNat (0 : Int)) (fun (y13 : List (((List Int) × Int × List Int) × (List Int) × (List Int) × Int × List Int)) => iF s.1 (fun (y14 : Int) => nx (y14, y13)))))))))) else K0 s.2
structure vA (x0 : Int) (x1 : List (Int × Int × Int × Int × Int × Int × Bool)) (x2 : Int) (x4 : List (List Int)) (K0 : (List (((List Int) × Int × List Int) × (List Int) × (List Int) × Int × List Int)) -> Prop) (K1 : Unit -> Prop) (s : Int × List (((List Int) × Int × List Int) × (List Int) × (List Int) × Int × List Int)) : Prop where
 it : Go.Mach.Loop (gD x0 x1 x2 x4 K0 K1) s
def MT (a0 : (Int × Int × Int) × List (Int × Int × Int × Int × Int × Int × Bool)) (a1 : Int) (Q : ((List (((List Int) × Int × List Int) × (List Int) × (List Int) × Int × List Int)) × Int) -> Prop) : Prop :=
 fH ((a0.1.1, (a0.1.2.1, a0.1.2.2)), a0.2) (fun (r1 : (List (List Int)) × Int × Int) => if (r1.2.2 != 0) = true then Q (([] : List (((List Int) × Int × List Int) × (List Int) × (List Int) × Int × List Int)), r1.2.2) else vA a1 a0.2 (a0.2.length : Int) r1.1 (fun (y15 : List (((List Int) × Int × List Int) × (List Int) × (List Int) × Int × List Int)) => Q (y15, 0)) (fun (y16 : Unit) => Q (([] : List (((List Int) × Int × List Int) × (List Int) × (List Int) × Int × List Int)), 1)) (0, ([] : List (((List Int) × Int × List Int) × (List Int) × (List Int) × Int × List Int))))
structure qI (a0 : (Int × Int × Int) × List (Int × Int × Int × Int × Int × Int × Bool)) (a1 : Int) (Q : ((List (((List Int) × Int × List Int) × (List Int) × (List Int) × Int × List Int)) × Int) -> Prop) : Prop where
 it : MT a0 a1 Q
noncomputable def I9 : Ent := ⟨[1, 6, 9, 26, 27, 28], [.lf (.int .u64), .lf (.cst (.own 0)), .lf (.cst (.pl (.slice none 0 0))), .lf (.fz false (.pair (.int .i64) (.pair (.int .i64) (.pair (.int .i64) (.pair (.int .i64) (.pair (.int .i64) (.pair (.int .i64) .bool))))))), .lf (.int .i64), .lf (.int .i64)], [.lst true (.slc (.int .i64)) false], fun x k => vA x.1.1 x.1.2.2.2.1 x.1.2.2.2.2.1 x.2.1 (fun (y17 : List (((List Int) × Int × List Int) × (List Int) × (List Int) × Int × List Int)) => k (.exit 0) ⟨[(9, .own 0)], [.lst true (.pair (.pair (.slc (.int .i64)) (.pair (.int .i64) (.slc (.int .i8)))) (.pair (.slc (.int .i32)) (.pair (.slc (.int .i64)) (.pair (.int .i64) (.slc (.int .i8)))))) y17 false]⟩) (fun (y18 : Unit) => k .ret ⟨[(4, .pl (.slice none 0 0)), (5, .pl (.int .i64 1))], []⟩) (x.1.2.2.2.2.2.1, ([] : List (((List Int) × Int × List Int) × (List Int) × (List Int) × Int × List Int)))⟩
noncomputable def I3 : Ent := ⟨[1, 6, 9, 26, 27, 28], [.lf (.int .u64), .lf (.cst (.own 0)), .lf (.cst (.own 1)), .lf (.fz false (.pair (.int .i64) (.pair (.int .i64) (.pair (.int .i64) (.pair (.int .i64) (.pair (.int .i64) (.pair (.int .i64) .bool))))))), .lf (.int .i64), .lf (.int .i64)], [.lst true (.slc (.int .i64)) false, .lst true (.pair (.pair (.slc (.int .i64)) (.pair (.int .i64) (.slc (.int .i8)))) (.pair (.slc (.int .i32)) (.pair (.slc (.int .i64)) (.pair (.int .i64) (.slc (.int .i8)))))) false], fun x k => iF x.1.2.2.2.2.2.1 (fun (y19 : Int) => k .normal ⟨[(1, .pl (.int .u64 x.1.1)), (6, .own 0), (9, .own 1), (26, .fz false (.pair (.int .i64) (.pair (.int .i64) (.pair (.int .i64) (.pair (.int .i64) (.pair (.int .i64) (.pair (.int .i64) .bool)))))) x.1.2.2.2.1), (27, .pl (.int .i64 x.1.2.2.2.2.1)), (28, .pl (.int .i64 y19))], [.lst true (.slc (.int .i64)) x.2.1 false, .lst true (.pair (.pair (.slc (.int .i64)) (.pair (.int .i64) (.slc (.int .i8)))) (.pair (.slc (.int .i32)) (.pair (.slc (.int .i64)) (.pair (.int .i64) (.slc (.int .i8)))))) x.2.2.1 false]⟩)⟩
noncomputable def KE : Ent := ⟨[1, 6, 9, 10, 14, 26, 27, 28], [.lf (.int .u64), .lf (.cst (.own 0)), .lf (.cst (.own 1)), .lf (.int .i64), .lf (.cst (.ptr 2 0)), .lf (.fz false (.pair (.int .i64) (.pair (.int .i64) (.pair (.int .i64) (.pair (.int .i64) (.pair (.int .i64) (.pair (.int .i64) .bool))))))), .lf (.int .i64), .lf (.int .i64)], [.lst true (.slc (.int .i64)) false, .lst true (.pair (.pair (.slc (.int .i64)) (.pair (.int .i64) (.slc (.int .i8)))) (.pair (.slc (.int .i32)) (.pair (.slc (.int .i64)) (.pair (.int .i64) (.slc (.int .i8)))))) false, .box [.cst (.own 3), .int .i64, .cst (.pl (.slice none 0 0)), .cst (.own 4), .cst (.own 5), .int .i64, .cst (.own 6)] false, .lst true (.int .i64) false, .lst true (.int .i32) false, .lst true (.int .i64) false, .lst true (.int .i8) false], fun x k => vE x.1.1 x.1.2.2.2.1 x.2.2.1 x.2.2.2.1.2.1 x.2.2.2.1.2.2.2.2.2.1 x.2.2.2.2.1 x.2.2.2.2.2.1 x.2.2.2.2.2.2.1 x.2.2.2.2.2.2.2.1 (fun (y20 : List (((List Int) × Int × List Int) × (List Int) × (List Int) × Int × List Int)) => k .normal ⟨[(1, .pl (.int .u64 x.1.1)), (6, .own 0), (9, .own 1), (26, .fz false (.pair (.int .i64) (.pair (.int .i64) (.pair (.int .i64) (.pair (.int .i64) (.pair (.int .i64) (.pair (.int .i64) .bool)))))) x.1.2.2.2.2.2.1), (27, .pl (.int .i64 x.1.2.2.2.2.2.2.1)), (28, .pl (.int .i64 x.1.2.2.2.2.2.2.2.1))], [.lst true (.slc (.int .i64)) x.2.1 false, .lst true (.pair (.pair (.slc (.int .i64)) (.pair (.int .i64) (.slc (.int .i8)))) (.pair (.slc (.int .i32)) (.pair (.slc (.int .i64)) (.pair (.int .i64) (.slc (.int .i8)))))) y20 false]⟩)⟩
noncomputable def I6 : Ent := ⟨[1, 6, 9, 10, 14, 26, 27, 28, 65, 66], [.lf (.int .u64), .lf (.cst (.own 0)), .lf (.cst (.own 1)), .lf (.int .i64), .lf (.cst (.ptr 2 0)), .lf (.fz false (.pair (.int .i64) (.pair (.int .i64) (.pair (.int .i64) (.pair (.int .i64) (.pair (.int .i64) (.pair (.int .i64) .bool))))))), .lf (.int .i64), .lf (.int .i64), .lf (.int .i64), .lf (.int .i64)], [.lst true (.slc (.int .i64)) false, .lst true (.pair (.pair (.slc (.int .i64)) (.pair (.int .i64) (.slc (.int .i8)))) (.pair (.slc (.int .i32)) (.pair (.slc (.int .i64)) (.pair (.int .i64) (.slc (.int .i8)))))) false, .box [.cst (.own 3), .int .i64, .cst (.pl (.slice none 0 0)), .cst (.own 4), .cst (.own 5), .int .i64, .cst (.own 6)] false, .lst true (.int .i64) false, .lst true (.int .i32) false, .lst true (.int .i64) false, .lst true (.int .i8) false], fun x k => uF x.1.1 x.1.2.2.2.1 x.1.2.2.2.2.2.2.2.2.1 (fun (y21 : List Int) => k (.exit 2) ⟨[(1, .pl (.int .u64 x.1.1)), (6, .own 0), (9, .own 1), (14, .ptr 2 0), (26, .fz false (.pair (.int .i64) (.pair (.int .i64) (.pair (.int .i64) (.pair (.int .i64) (.pair (.int .i64) (.pair (.int .i64) .bool)))))) x.1.2.2.2.2.2.1), (27, .pl (.int .i64 x.1.2.2.2.2.2.2.1)), (28, .pl (.int .i64 x.1.2.2.2.2.2.2.2.1))], [.lst true (.slc (.int .i64)) x.2.1 false, .lst true (.pair (.pair (.slc (.int .i64)) (.pair (.int .i64) (.slc (.int .i8)))) (.pair (.slc (.int .i32)) (.pair (.slc (.int .i64)) (.pair (.int .i64) (.slc (.int .i8)))))) x.2.2.1 false, .box [.own 3, .pl (.int .i64 x.2.2.2.1.2.1), .own 4, .own 5, .own 6, .pl (.int .i64 x.2.2.2.1.2.2.2.2.2.1), .own 7] false, .lst true (.int .i64) x.2.2.2.2.1 false, .lst true (.int .i8) y21 false, .lst true (.int .i32) x.2.2.2.2.2.1 false, .lst true (.int .i64) x.2.2.2.2.2.2.1 false, .lst true (.int .i8) x.2.2.2.2.2.2.2.1 false]⟩) (x.1.2.2.2.2.2.2.2.2.2.1, ([] : List Int))⟩
noncomputable def lY : Tab := fun n => match n with | 250 => some I9 | 4007 => some I3 | 256415 => some KE | 2051322 => some I6 | _ => none
noncomputable def uM : Go.Mach.Ends := fun n => match n with | 2 => some ([], [1, 2]) | 6 => some ([], [1, 2, 6, 8]) | 28 => some ([], [1, 2, 6, 8, 23]) | 30 => some ([], [1, 2, 6, 9]) | 59 => some ([], [1, 2, 6]) | 116 => some ([], [4, 5]) | 117 => some ([], [4, 5]) | 124 => some ([], [1, 6, 9, 26, 27, 28]) | 126 => some ([], [4, 5]) | 127 => some ([], [4, 5]) | 250 => some ([⟨9, none, false, (.pair (.pair (.slc (.int .i64)) (.pair (.int .i64) (.slc (.int .i8)))) (.pair (.slc (.int .i32)) (.pair (.slc (.int .i64)) (.pair (.int .i64) (.slc (.int .i8))))))⟩], [1, 6, 9, 26, 27, 28]) | 1000 => some ([], [1, 6, 9, 26, 27, 28, 29]) | 4004 => some ([], [1, 6, 9, 26, 27, 28]) | 4005 => some ([], [9]) | 4007 => some ([], [1, 6, 9, 26, 27, 28]) | 16024 => some ([], [1, 6, 9, 10, 11, 26, 27, 28]) | 32050 => some ([], [1, 6, 9, 10, 12, 13, 26, 27, 28]) | 128204 => some ([], [1, 6, 9, 10, 12, 13, 26, 27, 28, 44]) | 256411 => some ([], [1, 6, 9, 10, 12, 13, 26, 27, 28]) | 256412 => some ([], [1, 6, 9, 10, 12, 13, 26, 27, 28, 51]) | 256414 => some ([], [1, 6, 9, 10, 14, 26, 27, 28]) | 512820 => some ([], [1, 6, 9, 26, 27, 28]) | 512821 => some ([], [1, 6, 9, 26, 27, 28]) | 512827 => some ([], [1, 6, 9, 10, 12, 13, 26, 27, 28]) | 512831 => some ([], [1, 6, 9, 26, 27, 28]) | 1025652 => some ([], [4, 5]) | 1025653 => some ([], [4, 5]) | 1025660 => some ([], [1, 6, 9, 10, 14, 26, 27, 28, 65, 66]) | 2051322 => some ([⟨14, some 2, false, (.int .i8)⟩], [1, 6, 9, 10, 14, 26, 27, 28, 65, 66]) | 8205288 => some ([], [1, 6, 9, 10, 14, 26, 27, 28, 65, 66, 67]) | 32821156 => some ([], [1, 6, 9, 10, 14, 26, 27, 28, 65, 66]) | 32821157 => some ([], [1, 6, 9, 14, 26, 27, 28]) | 32821159 => some ([], [1, 6, 9, 10, 14, 26, 27, 28, 65, 66]) | 131284632 => some ([], [1, 6, 9, 10, 14, 15, 26, 27, 28, 65, 66]) | 131284633 => some ([], [1, 6, 9, 10, 14, 26, 27, 28, 65, 66]) | _ => none
noncomputable def wI : Code := Try.f15.body.getD .skip
theorem GO : aL yR lY uM wI := by
 intro n E hn f c hs x k h
 unfold lY at hn
 split at hn
 ·cases hn; exact aK hs (by kernel_rfl) (fun y : Int × List (((List Int) × Int × List Int) × (List Int) × (List Int) × Int × List Int) => ⟨[(1, .pl (.int .u64 x.1.1)), (6, .own 0), (9, .own 1), (26, .fz false (.pair (.int .i64) (.pair (.int .i64) (.pair (.int .i64) (.pair (.int .i64) (.pair (.int .i64) (.pair (.int .i64) .bool)))))) x.1.2.2.2.1), (27, .pl (.int .i64 x.1.2.2.2.2.1)), (28, .pl (.int .i64 y.1))], [.lst true (.slc (.int .i64)) x.2.1 false, .lst true (.pair (.pair (.slc (.int .i64)) (.pair (.int .i64) (.slc (.int .i8)))) (.pair (.slc (.int .i32)) (.pair (.slc (.int .i64)) (.pair (.int .i64) (.slc (.int .i8)))))) y.2 false]⟩) (x.1.2.2.2.2.2.1, ([] : List (((List Int) × Int × List Int) × (List Int) × (List Int) × Int × List Int))) (by kernel_rfl) (fun y X => by kernel_rfl) h.it
 ·cases hn; exact bS hs (by kernel_rfl) (by kernel_rfl) h.it
 ·cases hn; exact bS hs (by kernel_rfl) (by kernel_rfl) h.it
 ·cases hn; exact aK hs (by kernel_rfl) (fun y : Int × List Int => ⟨[(1, .pl (.int .u64 x.1.1)), (6, .own 0), (9, .own 1), (10, .pl (.int .i64 x.1.2.2.2.1)), (14, .ptr 2 0), (26, .fz false (.pair (.int .i64) (.pair (.int .i64) (.pair (.int .i64) (.pair (.int .i64) (.pair (.int .i64) (.pair (.int .i64) .bool)))))) x.1.2.2.2.2.2.1), (27, .pl (.int .i64 x.1.2.2.2.2.2.2.1)), (28, .pl (.int .i64 x.1.2.2.2.2.2.2.2.1)), (65, .pl (.int .i64 x.1.2.2.2.2.2.2.2.2.1)), (66, .pl (.int .i64 y.1))], [.lst true (.slc (.int .i64)) x.2.1 false, .lst true (.pair (.pair (.slc (.int .i64)) (.pair (.int .i64) (.slc (.int .i8)))) (.pair (.slc (.int .i32)) (.pair (.slc (.int .i64)) (.pair (.int .i64) (.slc (.int .i8)))))) x.2.2.1 false, .box [.own 3, .pl (.int .i64 x.2.2.2.1.2.1), .own 4, .own 5, .own 6, .pl (.int .i64 x.2.2.2.1.2.2.2.2.2.1), .own 7] false, .lst true (.int .i64) x.2.2.2.2.1 false, .lst true (.int .i8) y.2 false, .lst true (.int .i32) x.2.2.2.2.2.1 false, .lst true (.int .i64) x.2.2.2.2.2.2.1 false, .lst true (.int .i8) x.2.2.2.2.2.2.2.1 false]⟩) (x.1.2.2.2.2.2.2.2.2.2.1, ([] : List Int)) (by kernel_rfl) (fun y X => by kernel_rfl) h.it
 ·cases hn
def d8 : List Sh := [.agg [.int .i64, .int .i64, .int .i64, .fz false (.pair (.int .i64) (.pair (.int .i64) (.pair (.int .i64) (.pair (.int .i64) (.pair (.int .i64) (.pair (.int .i64) .bool))))))], .lf (.int .u64)]
def nI (x : aI d8) (Q : List (Bool × List VV) -> Prop) : Prop := qI ((x.1.1, (x.1.2.1, x.1.2.2.1)), x.1.2.2.2.1) x.2.1 (fun (r : (List (((List Int) × Int × List Int) × (List Int) × (List Int) × Int × List Int)) × Int) => Q (aH [(false, (.slc (.pair (.pair (.slc (.int .i64)) (.pair (.int .i64) (.slc (.int .i8)))) (.pair (.slc (.int .i32)) (.pair (.slc (.int .i64)) (.pair (.int .i64) (.slc (.int .i8)))))))), (false, (.int .i64))] [.n, .n] (r.1, (r.2, ()))))
theorem HZ (x : aI d8) (Q : List (Bool × List VV) -> Prop) (h : nI x Q) : aD Try.prog 15 (aM d8 x) Q :=
 aC [.n, .n] (G := yR) (ct := lY) (en := uM) (fn := Try.f15) (cd := wI) (rt := [(false, (.slc (.pair (.pair (.slc (.int .i64)) (.pair (.int .i64) (.slc (.int .i8)))) (.pair (.slc (.int .i32)) (.pair (.slc (.int .i64)) (.pair (.int .i64) (.slc (.int .i8)))))))), (false, (.int .i64))]) Try.func15 (by kernel_rfl) (by kernel_rfl) (Nat.le_of_ble_eq_true rfl) GO tN (aG rfl) h.it (by kernel_rfl)
noncomputable def oR : FuncId -> List VV -> (List (Bool × List VV) -> Prop) -> Prop := fun f args Q => if f = 15 then unA d8 args (fun x => nI x Q) else oV f args Q
theorem tD : ∀ f args Q, oR f args Q -> aD Try.prog f args Q := aE tN (f0 := 15) d8 (fun x Q => nI x Q) HZ
noncomputable def tV : Cfg := ⟨Try.prog, tt, oR, fun _ _ _ => False, none, true⟩
def E0 (x0 : Int) (x1 : List Int) (x2 : Int) (K0 : Int -> Prop) : Prop :=
 fL x1 (fun (r8 : Int) => K0 (IntKind.i64.wrap (x0 + (IntKind.i64.wrap (r8 + x2)))))
structure iI (x0 : Int) (x1 : List Int) (x2 : Int) (K0 : Int -> Prop) : Prop where
 it : E0 x0 x1 x2 K0
def gF (x1 : Int) (x3 : Int) (x4 : Int) (x5 : Int) (x6 : List (Int × Int × Int × Int × Int × Int × Bool)) (x13 : List (List Int)) (K0 : Int -> Prop) (K1 : Unit -> Prop) (s : Int × Int) (nx : (Int × Int) -> Prop) : Prop :=
 if (decide (s.2 < x1)) = true then ck ((0 : Int) <= s.2 /\ s.2 < (x13.length : Int)) (if (decide (0 < s.2)) = true then qM ((x3, (x4, x5)), x6) s.2 (fun (r2 : (List Int) × Int) => fL r2.1 (fun (r3 : Int) => jn (fun (v4 : Bool) => if v4 = true then K1 () else iI s.1 (x13.getD ((s.2).toNat) []) r3 (fun (y8 : Int) => nx (y8, IntKind.i64.wrap (s.2 + 1)))) (fun J5 => if ((r2.1.length : Int) == 0) = true then ck ((0 : Int) <= (IntKind.i64.wrap (s.2 - 1)) /\ (IntKind.i64.wrap (s.2 - 1)) < (x6.length : Int)) (jn (fun (v6 : Bool) => J5 v6) (fun J7 => if (((x6.getD ((IntKind.i64.wrap (s.2 - 1)).toNat) (0, (0, (0, (0, (0, (0, false))))))).1) == 1) = true then J7 true else ck ((0 : Int) <= (IntKind.i64.wrap (s.2 - 1)) /\ (IntKind.i64.wrap (s.2 - 1)) < (x6.length : Int)) (J7 (((x6.getD ((IntKind.i64.wrap (s.2 - 1)).toNat) (0, (0, (0, (0, (0, (0, false))))))).1) == 2)))) else J5 false))) else iI s.1 (x13.getD ((s.2).toNat) []) 0 (fun (y9 : Int) => nx (y9, IntKind.i64.wrap (s.2 + 1)))) else K0 s.1
structure uY (x1 : Int) (x3 : Int) (x4 : Int) (x5 : Int) (x6 : List (Int × Int × Int × Int × Int × Int × Bool)) (x13 : List (List Int)) (K0 : Int -> Prop) (K1 : Unit -> Prop) (s : Int × Int) : Prop where
 it : Go.Mach.Loop (gF x1 x3 x4 x5 x6 x13 K0 K1) s
def q6 (x0 : Int) (K0 : Int -> Prop) : Prop :=
 K0 (IntKind.i64.wrap (x0 + 1))
structure iD (x0 : Int) (K0 : Int -> Prop) : Prop where
 it : q6 x0 K0
def gB (x1 : Int) (x4 : Int) (K0 : (Int × (List Int) × (List Int) × List (((List Int) × Int × List Int) × (List Int) × (List Int) × Int × List Int)) -> Prop) (s : Int × Int × (List Int) × (List Int) × List (((List Int) × Int × List Int) × (List Int) × (List Int) × Int × List Int)) (nx : (Int × Int × (List Int) × (List Int) × List (((List Int) × Int × List Int) × (List Int) × (List Int) × Int × List Int)) -> Prop) : Prop :=
 if (decide (s.2.1 < x4)) = true then jn (fun (v12 : Bool) => if v12 = true then ck ((0 : Int) <= x1 /\ x1 < (s.2.2.2.2.length : Int)) (ck ((0 : Int) <= s.1 /\ s.1 < (s.2.2.1.length : Int)) (ck ((0 : Int) <= s.2.1 /\ s.2.1 < (((((s.2.2.2.2.getD ((x1).toNat) (([], (0, [])), ([], ([], (0, []))))).1).2).2).length : Int)) (∀ (m14 : List Int), Go.Mach.SE .i8 (s.2.2.1.getD ((s.1).toNat) 0) (.slc (.int .i8)) s.2.2.1 m14 -> (∀ (m15 : List Int), Go.Mach.SE .i8 (s.2.2.1.getD ((s.1).toNat) 0) (.slc (.int .i8)) s.2.2.2.1 m15 -> (∀ (m16 : List (((List Int) × Int × List Int) × (List Int) × (List Int) × Int × List Int)), Go.Mach.SE .i8 (s.2.2.1.getD ((s.1).toNat) 0) (.slc (.pair (.pair (.slc (.int .i64)) (.pair (.int .i64) (.slc (.int .i8)))) (.pair (.slc (.int .i32)) (.pair (.slc (.int .i64)) (.pair (.int .i64) (.slc (.int .i8))))))) s.2.2.2.2 m16 -> (iD s.1 (fun (y17 : Int) => nx (y17, IntKind.i64.wrap (s.2.1 + 1), m14, m15, m16)))))))) else iD s.1 (fun (y18 : Int) => nx (y18, IntKind.i64.wrap (s.2.1 + 1), s.2.2.1, s.2.2.2.1, s.2.2.2.2))) (fun J13 => if (decide (s.1 < (s.2.2.1.length : Int))) = true then ck ((0 : Int) <= s.1 /\ s.1 < (s.2.2.1.length : Int)) (J13 ((s.2.2.1.getD ((s.1).toNat) 0) != (-128))) else J13 false) else K0 (s.1, s.2.2.1, s.2.2.2.1, s.2.2.2.2)
structure l9 (x1 : Int) (x4 : Int) (K0 : (Int × (List Int) × (List Int) × List (((List Int) × Int × List Int) × (List Int) × (List Int) × Int × List Int)) -> Prop) (s : Int × Int × (List Int) × (List Int) × List (((List Int) × Int × List Int) × (List Int) × (List Int) × Int × List Int)) : Prop where
 it : Go.Mach.Loop (gB x1 x4 K0) s
def rD (x0 : Int) (K0 : Int -> Prop) : Prop :=
 K0 (IntKind.i64.wrap (x0 + 1))
structure iE (x0 : Int) (K0 : Int -> Prop) : Prop where
 it : rD x0 K0
def gG (x1 : Int) (x4 : Int) (K0 : (Int × (List Int) × (List Int) × List (((List Int) × Int × List Int) × (List Int) × (List Int) × Int × List Int)) -> Prop) (s : Int × Int × (List Int) × (List Int) × List (((List Int) × Int × List Int) × (List Int) × (List Int) × Int × List Int)) (nx : (Int × Int × (List Int) × (List Int) × List (((List Int) × Int × List Int) × (List Int) × (List Int) × Int × List Int)) -> Prop) : Prop :=
 if (decide (s.2.1 < x4)) = true then jn (fun (v20 : Bool) => if v20 = true then ck ((0 : Int) <= x1 /\ x1 < (s.2.2.2.2.length : Int)) (ck ((0 : Int) <= s.1 /\ s.1 < (s.2.2.1.length : Int)) (ck ((0 : Int) <= s.2.1 /\ s.2.1 < ((((((s.2.2.2.2.getD ((x1).toNat) (([], (0, [])), ([], ([], (0, []))))).2).2).2).2).length : Int)) (∀ (m22 : List Int), Go.Mach.SE .i8 (s.2.2.1.getD ((s.1).toNat) 0) (.slc (.int .i8)) s.2.2.1 m22 -> (∀ (m23 : List Int), Go.Mach.SE .i8 (s.2.2.1.getD ((s.1).toNat) 0) (.slc (.int .i8)) s.2.2.2.1 m23 -> (∀ (m24 : List (((List Int) × Int × List Int) × (List Int) × (List Int) × Int × List Int)), Go.Mach.SE .i8 (s.2.2.1.getD ((s.1).toNat) 0) (.slc (.pair (.pair (.slc (.int .i64)) (.pair (.int .i64) (.slc (.int .i8)))) (.pair (.slc (.int .i32)) (.pair (.slc (.int .i64)) (.pair (.int .i64) (.slc (.int .i8))))))) s.2.2.2.2 m24 -> (iE s.1 (fun (y25 : Int) => nx (y25, IntKind.i64.wrap (s.2.1 + 1), m22, m23, m24)))))))) else iE s.1 (fun (y26 : Int) => nx (y26, IntKind.i64.wrap (s.2.1 + 1), s.2.2.1, s.2.2.2.1, s.2.2.2.2))) (fun J21 => if (decide (s.1 < (s.2.2.1.length : Int))) = true then ck ((0 : Int) <= s.1 /\ s.1 < (s.2.2.1.length : Int)) (J21 ((s.2.2.1.getD ((s.1).toNat) 0) != (-128))) else J21 false) else K0 (s.1, s.2.2.1, s.2.2.2.1, s.2.2.2.2)
structure mG (x1 : Int) (x4 : Int) (K0 : (Int × (List Int) × (List Int) × List (((List Int) × Int × List Int) × (List Int) × (List Int) × Int × List Int)) -> Prop) (s : Int × Int × (List Int) × (List Int) × List (((List Int) × Int × List Int) × (List Int) × (List Int) × Int × List Int)) : Prop where
 it : Go.Mach.Loop (gG x1 x4 K0) s
def gK (x1 : Int) (K0 : ((List Int) × (List Int) × List (((List Int) × Int × List Int) × (List Int) × (List Int) × Int × List Int)) -> Prop) (s : Int × Int × (List Int) × (List Int) × List (((List Int) × Int × List Int) × (List Int) × (List Int) × Int × List Int)) (nx : (Int × Int × (List Int) × (List Int) × List (((List Int) × Int × List Int) × (List Int) × (List Int) × Int × List Int)) -> Prop) : Prop :=
 if (decide (s.2.1 < x1)) = true then ck ((0 : Int) <= s.2.1 /\ s.2.1 < (s.2.2.2.2.length : Int)) (l9 s.2.1 (((((s.2.2.2.2.getD ((s.2.1).toNat) (([], (0, [])), ([], ([], (0, []))))).1).2).2).length : Int) (fun (y12 : Int × (List Int) × (List Int) × List (((List Int) × Int × List Int) × (List Int) × (List Int) × Int × List Int)) => ck ((0 : Int) <= s.2.1 /\ s.2.1 < (y12.2.2.2.length : Int)) (mG s.2.1 ((((((y12.2.2.2.getD ((s.2.1).toNat) (([], (0, [])), ([], ([], (0, []))))).2).2).2).2).length : Int) (fun (y13 : Int × (List Int) × (List Int) × List (((List Int) × Int × List Int) × (List Int) × (List Int) × Int × List Int)) => nx (y13.1, IntKind.i64.wrap (s.2.1 + 1), y13.2.1, y13.2.2.1, y13.2.2.2)) (y12.1, 0, y12.2.1, y12.2.2.1, y12.2.2.2))) (s.1, 0, s.2.2.1, s.2.2.2.1, s.2.2.2.2)) else K0 (s.2.2.1, s.2.2.2.1, s.2.2.2.2)
structure lM (x1 : Int) (K0 : ((List Int) × (List Int) × List (((List Int) × Int × List Int) × (List Int) × (List Int) × Int × List Int)) -> Prop) (s : Int × Int × (List Int) × (List Int) × List (((List Int) × Int × List Int) × (List Int) × (List Int) × Int × List Int)) : Prop where
 it : Go.Mach.Loop (gK x1 K0) s
def j3 (x0 : Int) (x16 : List Int) (K0 : Unit -> Prop) : Prop :=
 ck ((x16.length + [x0].length) * 1 <= 140737488355328) (K0 ())
structure l4 (x0 : Int) (x16 : List Int) (K0 : Unit -> Prop) : Prop where
 it : j3 x0 x16 K0
def gC (x0 : Int) (x9 : List Int) (K0 : (List Int) -> Prop) (s : Int × List Int) (nx : (Int × List Int) -> Prop) : Prop :=
 if (decide (s.1 < x0)) = true then ck (90 ≠ (0 : Int)) (jn (fun (v20 : Bool) => if v20 = true then ck ((0 : Int) <= s.1 /\ s.1 < (x9.length : Int)) (l4 (x9.getD ((s.1).toNat) 0) s.2 (fun (y22 : Unit) => nx (IntKind.i64.wrap (s.1 + 1), s.2 ++ [(x9.getD ((s.1).toNat) 0)]))) else l4 (IntKind.i8.wrap ((IntKind.i64.wrap (s.1 * 7)).tmod 90)) s.2 (fun (y23 : Unit) => nx (IntKind.i64.wrap (s.1 + 1), s.2 ++ [(IntKind.i8.wrap ((IntKind.i64.wrap (s.1 * 7)).tmod 90))]))) (fun J21 => if (decide (s.1 < (x9.length : Int))) = true then ck ((0 : Int) <= s.1 /\ s.1 < (x9.length : Int)) (J21 ((x9.getD ((s.1).toNat) 0) != (-128))) else J21 false)) else K0 s.2
structure lW (x0 : Int) (x9 : List Int) (K0 : (List Int) -> Prop) (s : Int × List Int) : Prop where
 it : Go.Mach.Loop (gC x0 x9 K0) s
def MR (a0 : ((Int × Int × Int) × List (Int × Int × Int × Int × Int × Int × Bool)) × Int × (List Int) × Int × (List Int) × Int) (Q : ((List (((List Int) × Int × List Int) × (List Int) × (List Int) × Int × List Int)) × ((List Int) × Int × List Int) × Int) -> Prop) : Prop :=
 fH ((a0.1.1.1, (a0.1.1.2.1, a0.1.1.2.2)), a0.1.2) (fun (r1 : (List (List Int)) × Int × Int) => if (r1.2.2 != 0) = true then Q (([] : List (((List Int) × Int × List Int) × (List Int) × (List Int) × Int × List Int)), (([] : List Int), (0, ([] : List Int))), r1.2.2) else uY (r1.1.length : Int) a0.1.1.1 a0.1.1.2.1 a0.1.1.2.2 a0.1.2 r1.1 (fun (y10 : Int) => if (decide (700 < y10)) = true then Q (([] : List (((List Int) × Int × List Int) × (List Int) × (List Int) × Int × List Int)), (([] : List Int), (0, ([] : List Int))), 10) else qI ((a0.1.1.1, (a0.1.1.2.1, a0.1.1.2.2)), a0.1.2) a0.2.1 (fun (r11 : (List (((List Int) × Int × List Int) × (List Int) × (List Int) × Int × List Int)) × Int) => if (r11.2 != 0) = true then Q (([] : List (((List Int) × Int × List Int) × (List Int) × (List Int) × Int × List Int)), (([] : List Int), (0, ([] : List Int))), r11.2) else lM (r11.1.length : Int) (fun (y14 : (List Int) × (List Int) × List (((List Int) × Int × List Int) × (List Int) × (List Int) × Int × List Int)) => ck (3 ≠ (0 : Int)) (ck (20 ≠ (0 : Int)) (fL [IntKind.i64.wrap (1 + (IntKind.i64.wrap ((IntKind.u64.wrap a0.2.2.2.1).tmod 3))), a0.1.1.1, a0.1.1.2.1, a0.1.1.2.2] (fun (r15 : Int) => lW r15 y14.2.1 (fun (y24 : List Int) => Q (y14.2.2, ([IntKind.i64.wrap (1 + (IntKind.i64.wrap ((IntKind.u64.wrap a0.2.2.2.1).tmod 3))), a0.1.1.1, a0.1.1.2.1, a0.1.1.2.2], (((a0.2.2.2.2.2).tmod 20), y24)), 0)) (0, ([] : List Int)))))) (0, 0, a0.2.2.1, a0.2.2.2.2.1, r11.1))) (fun (y25 : Unit) => Q (([] : List (((List Int) × Int × List Int) × (List Int) × (List Int) × Int × List Int)), (([] : List Int), (0, ([] : List Int))), 1)) (0, 0))
structure qK (a0 : ((Int × Int × Int) × List (Int × Int × Int × Int × Int × Int × Bool)) × Int × (List Int) × Int × (List Int) × Int) (Q : ((List (((List Int) × Int × List Int) × (List Int) × (List Int) × Int × List Int)) × ((List Int) × Int × List Int) × Int) -> Prop) : Prop where
 it : MR a0 Q
noncomputable def JA : Ent := ⟨[1, 3, 8, 33, 34, 35], [.lf (.cst (.ptr 0 0)), .lf (.cst (.ptr 1 0)), .lf (.int .i64), .lf (.cst (.own 2)), .lf (.int .i64), .lf (.int .i64)], [.box [.int .i64, .int .i64, .int .i64, .fz false (.pair (.int .i64) (.pair (.int .i64) (.pair (.int .i64) (.pair (.int .i64) (.pair (.int .i64) (.pair (.int .i64) .bool)))))), .int .u64, .fz false (.int .i8), .int .i64, .fz false (.int .i8), .int .i64] false, .box [.cst (.pl (.slice none 0 0)), .int .i64, .cst (.pl (.slice none 0 0))] false, .lst true (.slc (.int .i64)) false], fun x k => uY x.1.2.2.2.2.1 x.2.1.1 x.2.1.2.1 x.2.1.2.2.1 x.2.1.2.2.2.1 x.2.2.2.1 (fun (y26 : Int) => k (.exit 0) ⟨[(1, .ptr 0 0), (3, .ptr 1 0), (8, .pl (.int .i64 y26))], [.box [.pl (.int .i64 x.2.1.1), .pl (.int .i64 x.2.1.2.1), .pl (.int .i64 x.2.1.2.2.1), .fz false (.pair (.int .i64) (.pair (.int .i64) (.pair (.int .i64) (.pair (.int .i64) (.pair (.int .i64) (.pair (.int .i64) .bool)))))) x.2.1.2.2.2.1, .pl (.int .u64 x.2.1.2.2.2.2.1), .fz false (.int .i8) x.2.1.2.2.2.2.2.1, .pl (.int .i64 x.2.1.2.2.2.2.2.2.1), .fz false (.int .i8) x.2.1.2.2.2.2.2.2.2.1, .pl (.int .i64 x.2.1.2.2.2.2.2.2.2.2.1)] false, .box [.pl (.slice none 0 0), .pl (.int .i64 x.2.2.1.2.1), .pl (.slice none 0 0)] false]⟩) (fun (y27 : Unit) => k .ret ⟨[(2, .pl (.slice none 0 0)), (3, .ptr 0 0), (4, .pl (.int .i64 1))], [.box [.pl (.slice none 0 0), .pl (.int .i64 0), .pl (.slice none 0 0)] false]⟩) (x.1.2.2.1, x.1.2.2.2.2.2.1)⟩
noncomputable def JC : Ent := ⟨[1, 3, 14, 15, 100, 101], [.lf (.cst (.ptr 0 0)), .lf (.cst (.ptr 1 0)), .lf (.cst (.own 2)), .lf (.int .i64), .lf (.int .i64), .lf (.int .i64)], [.box [.int .i64, .int .i64, .int .i64, .fz false (.pair (.int .i64) (.pair (.int .i64) (.pair (.int .i64) (.pair (.int .i64) (.pair (.int .i64) (.pair (.int .i64) .bool)))))), .int .u64, .fz false (.int .i8), .int .i64, .fz false (.int .i8), .int .i64] false, .box [.cst (.pl (.slice none 0 0)), .int .i64, .cst (.pl (.slice none 0 0))] false, .lst true (.pair (.pair (.slc (.int .i64)) (.pair (.int .i64) (.slc (.int .i8)))) (.pair (.slc (.int .i32)) (.pair (.slc (.int .i64)) (.pair (.int .i64) (.slc (.int .i8)))))) false], fun x k => lM x.1.2.2.2.2.1 (fun (y28 : (List Int) × (List Int) × List (((List Int) × Int × List Int) × (List Int) × (List Int) × Int × List Int)) => k (.exit 2) ⟨[(1, .ptr 0 0), (3, .ptr 1 0), (14, .own 2)], [.box [.pl (.int .i64 x.2.1.1), .pl (.int .i64 x.2.1.2.1), .pl (.int .i64 x.2.1.2.2.1), .fz false (.pair (.int .i64) (.pair (.int .i64) (.pair (.int .i64) (.pair (.int .i64) (.pair (.int .i64) (.pair (.int .i64) .bool)))))) x.2.1.2.2.2.1, .pl (.int .u64 x.2.1.2.2.2.2.1), .fz false (.int .i8) y28.1, .pl (.int .i64 x.2.1.2.2.2.2.2.2.1), .fz false (.int .i8) y28.2.1, .pl (.int .i64 x.2.1.2.2.2.2.2.2.2.2.1)] false, .box [.pl (.slice none 0 0), .pl (.int .i64 x.2.2.1.2.1), .pl (.slice none 0 0)] false, .lst true (.pair (.pair (.slc (.int .i64)) (.pair (.int .i64) (.slc (.int .i8)))) (.pair (.slc (.int .i32)) (.pair (.slc (.int .i64)) (.pair (.int .i64) (.slc (.int .i8)))))) y28.2.2 false]⟩) (x.1.2.2.2.1, x.1.2.2.2.2.2.1, x.2.1.2.2.2.2.2.1, x.2.1.2.2.2.2.2.2.2.1, x.2.2.2.1)⟩
noncomputable def IA : Ent := ⟨[1, 3, 14, 19, 208, 209], [.lf (.cst (.ptr 0 0)), .lf (.cst (.ptr 1 0)), .lf (.cst (.own 2)), .lf (.cst (.ptr 3 0)), .lf (.int .i64), .lf (.int .i64)], [.box [.int .i64, .int .i64, .int .i64, .fz false (.pair (.int .i64) (.pair (.int .i64) (.pair (.int .i64) (.pair (.int .i64) (.pair (.int .i64) (.pair (.int .i64) .bool)))))), .int .u64, .fz false (.int .i8), .int .i64, .fz false (.int .i8), .int .i64] false, .box [.cst (.pl (.slice none 0 0)), .int .i64, .cst (.pl (.slice none 0 0))] false, .lst true (.pair (.pair (.slc (.int .i64)) (.pair (.int .i64) (.slc (.int .i8)))) (.pair (.slc (.int .i32)) (.pair (.slc (.int .i64)) (.pair (.int .i64) (.slc (.int .i8)))))) false, .box [.cst (.own 4), .int .i64, .cst (.pl (.slice none 0 0))] false, .lst true (.int .i64) false], fun x k => lW x.1.2.2.2.2.1 x.2.1.2.2.2.2.2.2.2.1 (fun (y29 : List Int) => k (.exit 8) ⟨[(3, .ptr 0 0), (14, .own 1), (19, .ptr 2 0)], [.box [.pl (.slice none 0 0), .pl (.int .i64 x.2.2.1.2.1), .pl (.slice none 0 0)] false, .lst true (.pair (.pair (.slc (.int .i64)) (.pair (.int .i64) (.slc (.int .i8)))) (.pair (.slc (.int .i32)) (.pair (.slc (.int .i64)) (.pair (.int .i64) (.slc (.int .i8)))))) x.2.2.2.1 false, .box [.own 3, .pl (.int .i64 x.2.2.2.2.1.2.1), .own 4] false, .lst true (.int .i64) x.2.2.2.2.2.1 false, .lst true (.int .i8) y29 false]⟩) (x.1.2.2.2.2.2.1, ([] : List Int))⟩
noncomputable def IE : Ent := ⟨[1, 3, 8, 10, 11, 33, 34, 35], [.lf (.cst (.ptr 0 0)), .lf (.cst (.ptr 1 0)), .lf (.int .i64), .lf (.fz true (.int .i64)), .lf (.int .i64), .lf (.cst (.own 2)), .lf (.int .i64), .lf (.int .i64)], [.box [.int .i64, .int .i64, .int .i64, .fz false (.pair (.int .i64) (.pair (.int .i64) (.pair (.int .i64) (.pair (.int .i64) (.pair (.int .i64) (.pair (.int .i64) .bool)))))), .int .u64, .fz false (.int .i8), .int .i64, .fz false (.int .i8), .int .i64] false, .box [.cst (.pl (.slice none 0 0)), .int .i64, .cst (.pl (.slice none 0 0))] false, .lst true (.slc (.int .i64)) false], fun x k => iI x.1.2.2.1 x.1.2.2.2.1 x.1.2.2.2.2.1 (fun (y30 : Int) => k .normal ⟨[(1, .ptr 0 0), (3, .ptr 1 0), (8, .pl (.int .i64 y30)), (33, .own 2), (34, .pl (.int .i64 x.1.2.2.2.2.2.2.1)), (35, .pl (.int .i64 x.1.2.2.2.2.2.2.2.1))], [.box [.pl (.int .i64 x.2.1.1), .pl (.int .i64 x.2.1.2.1), .pl (.int .i64 x.2.1.2.2.1), .fz false (.pair (.int .i64) (.pair (.int .i64) (.pair (.int .i64) (.pair (.int .i64) (.pair (.int .i64) (.pair (.int .i64) .bool)))))) x.2.1.2.2.2.1, .pl (.int .u64 x.2.1.2.2.2.2.1), .fz false (.int .i8) x.2.1.2.2.2.2.2.1, .pl (.int .i64 x.2.1.2.2.2.2.2.2.1), .fz false (.int .i8) x.2.1.2.2.2.2.2.2.2.1, .pl (.int .i64 x.2.1.2.2.2.2.2.2.2.2.1)] false, .box [.pl (.slice none 0 0), .pl (.int .i64 x.2.2.1.2.1), .pl (.slice none 0 0)] false, .lst true (.slc (.int .i64)) x.2.2.2.1 false]⟩)⟩
noncomputable def KB : Ent := ⟨[1, 3, 14, 15, 16, 100, 101, 110, 111], [.lf (.cst (.ptr 0 0)), .lf (.cst (.ptr 1 0)), .lf (.cst (.own 2)), .lf (.int .i64), .lf (.int .i64), .lf (.int .i64), .lf (.int .i64), .lf (.int .i64), .lf (.int .i64)], [.box [.int .i64, .int .i64, .int .i64, .fz false (.pair (.int .i64) (.pair (.int .i64) (.pair (.int .i64) (.pair (.int .i64) (.pair (.int .i64) (.pair (.int .i64) .bool)))))), .int .u64, .fz false (.int .i8), .int .i64, .fz false (.int .i8), .int .i64] false, .box [.cst (.pl (.slice none 0 0)), .int .i64, .cst (.pl (.slice none 0 0))] false, .lst true (.pair (.pair (.slc (.int .i64)) (.pair (.int .i64) (.slc (.int .i8)))) (.pair (.slc (.int .i32)) (.pair (.slc (.int .i64)) (.pair (.int .i64) (.slc (.int .i8)))))) false], fun x k => l9 x.1.2.2.2.2.1 x.1.2.2.2.2.2.2.2.1 (fun (y31 : Int × (List Int) × (List Int) × List (((List Int) × Int × List Int) × (List Int) × (List Int) × Int × List Int)) => k (.exit 4) ⟨[(1, .ptr 0 0), (3, .ptr 1 0), (14, .own 2), (15, .pl (.int .i64 y31.1)), (16, .pl (.int .i64 x.1.2.2.2.2.1)), (100, .pl (.int .i64 x.1.2.2.2.2.2.1)), (101, .pl (.int .i64 x.1.2.2.2.2.2.2.1))], [.box [.pl (.int .i64 x.2.1.1), .pl (.int .i64 x.2.1.2.1), .pl (.int .i64 x.2.1.2.2.1), .fz false (.pair (.int .i64) (.pair (.int .i64) (.pair (.int .i64) (.pair (.int .i64) (.pair (.int .i64) (.pair (.int .i64) .bool)))))) x.2.1.2.2.2.1, .pl (.int .u64 x.2.1.2.2.2.2.1), .fz false (.int .i8) y31.2.1, .pl (.int .i64 x.2.1.2.2.2.2.2.2.1), .fz false (.int .i8) y31.2.2.1, .pl (.int .i64 x.2.1.2.2.2.2.2.2.2.2.1)] false, .box [.pl (.slice none 0 0), .pl (.int .i64 x.2.2.1.2.1), .pl (.slice none 0 0)] false, .lst true (.pair (.pair (.slc (.int .i64)) (.pair (.int .i64) (.slc (.int .i8)))) (.pair (.slc (.int .i32)) (.pair (.slc (.int .i64)) (.pair (.int .i64) (.slc (.int .i8)))))) y31.2.2.2 false]⟩) (x.1.2.2.2.1, x.1.2.2.2.2.2.2.2.2.1, x.2.1.2.2.2.2.2.1, x.2.1.2.2.2.2.2.2.2.1, x.2.2.2.1)⟩
noncomputable def KC : Ent := ⟨[1, 3, 14, 15, 16, 100, 101, 149, 150], [.lf (.cst (.ptr 0 0)), .lf (.cst (.ptr 1 0)), .lf (.cst (.own 2)), .lf (.int .i64), .lf (.int .i64), .lf (.int .i64), .lf (.int .i64), .lf (.int .i64), .lf (.int .i64)], [.box [.int .i64, .int .i64, .int .i64, .fz false (.pair (.int .i64) (.pair (.int .i64) (.pair (.int .i64) (.pair (.int .i64) (.pair (.int .i64) (.pair (.int .i64) .bool)))))), .int .u64, .fz false (.int .i8), .int .i64, .fz false (.int .i8), .int .i64] false, .box [.cst (.pl (.slice none 0 0)), .int .i64, .cst (.pl (.slice none 0 0))] false, .lst true (.pair (.pair (.slc (.int .i64)) (.pair (.int .i64) (.slc (.int .i8)))) (.pair (.slc (.int .i32)) (.pair (.slc (.int .i64)) (.pair (.int .i64) (.slc (.int .i8)))))) false], fun x k => mG x.1.2.2.2.2.1 x.1.2.2.2.2.2.2.2.1 (fun (y32 : Int × (List Int) × (List Int) × List (((List Int) × Int × List Int) × (List Int) × (List Int) × Int × List Int)) => k (.exit 6) ⟨[(1, .ptr 0 0), (3, .ptr 1 0), (14, .own 2), (15, .pl (.int .i64 y32.1)), (100, .pl (.int .i64 x.1.2.2.2.2.2.1)), (101, .pl (.int .i64 x.1.2.2.2.2.2.2.1))], [.box [.pl (.int .i64 x.2.1.1), .pl (.int .i64 x.2.1.2.1), .pl (.int .i64 x.2.1.2.2.1), .fz false (.pair (.int .i64) (.pair (.int .i64) (.pair (.int .i64) (.pair (.int .i64) (.pair (.int .i64) (.pair (.int .i64) .bool)))))) x.2.1.2.2.2.1, .pl (.int .u64 x.2.1.2.2.2.2.1), .fz false (.int .i8) y32.2.1, .pl (.int .i64 x.2.1.2.2.2.2.2.2.1), .fz false (.int .i8) y32.2.2.1, .pl (.int .i64 x.2.1.2.2.2.2.2.2.2.2.1)] false, .box [.pl (.slice none 0 0), .pl (.int .i64 x.2.2.1.2.1), .pl (.slice none 0 0)] false, .lst true (.pair (.pair (.slc (.int .i64)) (.pair (.int .i64) (.slc (.int .i8)))) (.pair (.slc (.int .i32)) (.pair (.slc (.int .i64)) (.pair (.int .i64) (.slc (.int .i8)))))) y32.2.2.2 false]⟩) (x.1.2.2.2.1, x.1.2.2.2.2.2.2.2.2.1, x.2.1.2.2.2.2.2.1, x.2.1.2.2.2.2.2.2.2.1, x.2.2.2.1)⟩
noncomputable def IZ : Ent := ⟨[1, 3, 14, 19, 21, 208, 209], [.lf (.cst (.ptr 0 0)), .lf (.cst (.ptr 1 0)), .lf (.cst (.own 2)), .lf (.cst (.ptr 3 0)), .lf (.int .i8), .lf (.int .i64), .lf (.int .i64)], [.box [.int .i64, .int .i64, .int .i64, .fz false (.pair (.int .i64) (.pair (.int .i64) (.pair (.int .i64) (.pair (.int .i64) (.pair (.int .i64) (.pair (.int .i64) .bool)))))), .int .u64, .fz false (.int .i8), .int .i64, .fz false (.int .i8), .int .i64] false, .box [.cst (.pl (.slice none 0 0)), .int .i64, .cst (.pl (.slice none 0 0))] false, .lst true (.pair (.pair (.slc (.int .i64)) (.pair (.int .i64) (.slc (.int .i8)))) (.pair (.slc (.int .i32)) (.pair (.slc (.int .i64)) (.pair (.int .i64) (.slc (.int .i8)))))) false, .box [.cst (.own 4), .int .i64, .cst (.own 5)] false, .lst true (.int .i64) false, .lst true (.int .i8) false], fun x k => l4 x.1.2.2.2.2.1 x.2.2.2.2.2.2.1 (fun (y33 : Unit) => k .normal ⟨[(1, .ptr 0 0), (3, .ptr 1 0), (14, .own 2), (19, .ptr 3 0), (208, .pl (.int .i64 x.1.2.2.2.2.2.1)), (209, .pl (.int .i64 x.1.2.2.2.2.2.2.1))], [.box [.pl (.int .i64 x.2.1.1), .pl (.int .i64 x.2.1.2.1), .pl (.int .i64 x.2.1.2.2.1), .fz false (.pair (.int .i64) (.pair (.int .i64) (.pair (.int .i64) (.pair (.int .i64) (.pair (.int .i64) (.pair (.int .i64) .bool)))))) x.2.1.2.2.2.1, .pl (.int .u64 x.2.1.2.2.2.2.1), .fz false (.int .i8) x.2.1.2.2.2.2.2.1, .pl (.int .i64 x.2.1.2.2.2.2.2.2.1), .fz false (.int .i8) x.2.1.2.2.2.2.2.2.2.1, .pl (.int .i64 x.2.1.2.2.2.2.2.2.2.2.1)] false, .box [.pl (.slice none 0 0), .pl (.int .i64 x.2.2.1.2.1), .pl (.slice none 0 0)] false, .lst true (.pair (.pair (.slc (.int .i64)) (.pair (.int .i64) (.slc (.int .i8)))) (.pair (.slc (.int .i32)) (.pair (.slc (.int .i64)) (.pair (.int .i64) (.slc (.int .i8)))))) x.2.2.2.1 false, .box [.own 4, .pl (.int .i64 x.2.2.2.2.1.2.1), .own 5] false, .lst true (.int .i64) x.2.2.2.2.2.1 false, .lst true (.int .i8) (x.2.2.2.2.2.2.1 ++ [x.1.2.2.2.2.1]) false]⟩)⟩
noncomputable def II : Ent := ⟨[1, 3, 14, 15, 16, 100, 101, 110, 111], [.lf (.cst (.ptr 0 0)), .lf (.cst (.ptr 1 0)), .lf (.cst (.own 2)), .lf (.int .i64), .lf (.int .i64), .lf (.int .i64), .lf (.int .i64), .lf (.int .i64), .lf (.int .i64)], [.box [.int .i64, .int .i64, .int .i64, .fz false (.pair (.int .i64) (.pair (.int .i64) (.pair (.int .i64) (.pair (.int .i64) (.pair (.int .i64) (.pair (.int .i64) .bool)))))), .int .u64, .fz false (.int .i8), .int .i64, .fz false (.int .i8), .int .i64] false, .box [.cst (.pl (.slice none 0 0)), .int .i64, .cst (.pl (.slice none 0 0))] false, .lst true (.pair (.pair (.slc (.int .i64)) (.pair (.int .i64) (.slc (.int .i8)))) (.pair (.slc (.int .i32)) (.pair (.slc (.int .i64)) (.pair (.int .i64) (.slc (.int .i8)))))) false], fun x k => iD x.1.2.2.2.1 (fun (y34 : Int) => k .normal ⟨[(1, .ptr 0 0), (3, .ptr 1 0), (14, .own 2), (15, .pl (.int .i64 y34)), (16, .pl (.int .i64 x.1.2.2.2.2.1)), (100, .pl (.int .i64 x.1.2.2.2.2.2.1)), (101, .pl (.int .i64 x.1.2.2.2.2.2.2.1)), (110, .pl (.int .i64 x.1.2.2.2.2.2.2.2.1)), (111, .pl (.int .i64 x.1.2.2.2.2.2.2.2.2.1))], [.box [.pl (.int .i64 x.2.1.1), .pl (.int .i64 x.2.1.2.1), .pl (.int .i64 x.2.1.2.2.1), .fz false (.pair (.int .i64) (.pair (.int .i64) (.pair (.int .i64) (.pair (.int .i64) (.pair (.int .i64) (.pair (.int .i64) .bool)))))) x.2.1.2.2.2.1, .pl (.int .u64 x.2.1.2.2.2.2.1), .fz false (.int .i8) x.2.1.2.2.2.2.2.1, .pl (.int .i64 x.2.1.2.2.2.2.2.2.1), .fz false (.int .i8) x.2.1.2.2.2.2.2.2.2.1, .pl (.int .i64 x.2.1.2.2.2.2.2.2.2.2.1)] false, .box [.pl (.slice none 0 0), .pl (.int .i64 x.2.2.1.2.1), .pl (.slice none 0 0)] false, .lst true (.pair (.pair (.slc (.int .i64)) (.pair (.int .i64) (.slc (.int .i8)))) (.pair (.slc (.int .i32)) (.pair (.slc (.int .i64)) (.pair (.int .i64) (.slc (.int .i8)))))) x.2.2.2.1 false]⟩)⟩
noncomputable def JZ : Ent := ⟨[1, 3, 14, 15, 16, 100, 101, 149, 150], [.lf (.cst (.ptr 0 0)), .lf (.cst (.ptr 1 0)), .lf (.cst (.own 2)), .lf (.int .i64), .lf (.int .i64), .lf (.int .i64), .lf (.int .i64), .lf (.int .i64), .lf (.int .i64)], [.box [.int .i64, .int .i64, .int .i64, .fz false (.pair (.int .i64) (.pair (.int .i64) (.pair (.int .i64) (.pair (.int .i64) (.pair (.int .i64) (.pair (.int .i64) .bool)))))), .int .u64, .fz false (.int .i8), .int .i64, .fz false (.int .i8), .int .i64] false, .box [.cst (.pl (.slice none 0 0)), .int .i64, .cst (.pl (.slice none 0 0))] false, .lst true (.pair (.pair (.slc (.int .i64)) (.pair (.int .i64) (.slc (.int .i8)))) (.pair (.slc (.int .i32)) (.pair (.slc (.int .i64)) (.pair (.int .i64) (.slc (.int .i8)))))) false], fun x k => iE x.1.2.2.2.1 (fun (y35 : Int) => k .normal ⟨[(1, .ptr 0 0), (3, .ptr 1 0), (14, .own 2), (15, .pl (.int .i64 y35)), (16, .pl (.int .i64 x.1.2.2.2.2.1)), (100, .pl (.int .i64 x.1.2.2.2.2.2.1)), (101, .pl (.int .i64 x.1.2.2.2.2.2.2.1)), (149, .pl (.int .i64 x.1.2.2.2.2.2.2.2.1)), (150, .pl (.int .i64 x.1.2.2.2.2.2.2.2.2.1))], [.box [.pl (.int .i64 x.2.1.1), .pl (.int .i64 x.2.1.2.1), .pl (.int .i64 x.2.1.2.2.1), .fz false (.pair (.int .i64) (.pair (.int .i64) (.pair (.int .i64) (.pair (.int .i64) (.pair (.int .i64) (.pair (.int .i64) .bool)))))) x.2.1.2.2.2.1, .pl (.int .u64 x.2.1.2.2.2.2.1), .fz false (.int .i8) x.2.1.2.2.2.2.2.1, .pl (.int .i64 x.2.1.2.2.2.2.2.2.1), .fz false (.int .i8) x.2.1.2.2.2.2.2.2.2.1, .pl (.int .i64 x.2.1.2.2.2.2.2.2.2.2.1)] false, .box [.pl (.slice none 0 0), .pl (.int .i64 x.2.2.1.2.1), .pl (.slice none 0 0)] false, .lst true (.pair (.pair (.slc (.int .i64)) (.pair (.int .i64) (.slc (.int .i8)))) (.pair (.slc (.int .i32)) (.pair (.slc (.int .i64)) (.pair (.int .i64) (.slc (.int .i8)))))) x.2.2.2.1 false]⟩)⟩
noncomputable def mD : Tab := fun n => match n with | 250 => some JA | 8186 => some JC | 32762 => some IA | 64103 => some IE | 4191434 => some KB | 4191438 => some KC | 8387175 => some IZ | 536503603 => some II | 536504115 => some JZ | _ => none
noncomputable def uH : Go.Mach.Ends := fun n => match n with | 2 => some ([], [1, 3]) | 6 => some ([], [1, 3, 5, 7]) | 28 => some ([], [1, 3, 5, 7, 30]) | 30 => some ([], [1, 3, 5, 8]) | 59 => some ([], [1, 3, 5]) | 116 => some ([], [2, 3, 4]) | 117 => some ([], [2, 3, 4]) | 124 => some ([], [1, 3, 8, 33, 34, 35]) | 250 => some ([], [1, 3, 8, 33, 34, 35]) | 252 => some ([], [1, 3, 85]) | 254 => some ([], [1, 3, 7, 14]) | 507 => some ([], [1, 3]) | 1000 => some ([], [1, 3, 8, 33, 34, 35, 36]) | 1012 => some ([], [2, 3, 4]) | 1013 => some ([], [2, 3, 4]) | 1020 => some ([], [1, 3, 7, 14, 96]) | 1022 => some ([], [1, 3, 14, 15]) | 2043 => some ([], [1, 3, 14]) | 4004 => some ([], [1, 3, 8, 33, 34, 35]) | 4005 => some ([], [1, 3, 8]) | 4007 => some ([], [1, 3, 8, 33, 34, 35]) | 4084 => some ([], [2, 3, 4]) | 4085 => some ([], [2, 3, 4]) | 4092 => some ([], [1, 3, 14, 15, 100, 101]) | 4094 => some ([], [1, 3, 14, 19]) | 8186 => some ([], [1, 3, 14, 15, 100, 101]) | 16024 => some ([], [1, 3, 8, 9, 10, 33, 34, 35]) | 16380 => some ([], [1, 3, 14, 19, 208, 209]) | 16382 => some ([], [2, 3, 4]) | 16383 => some ([], [2, 3, 4]) | 32050 => some ([], [1, 3, 8, 9, 10, 11, 33, 34, 35]) | 32744 => some ([], [1, 3, 14, 15, 100, 101, 102]) | 32762 => some ([⟨19, some 2, false, (.int .i8)⟩], [1, 3, 14, 19, 208, 209]) | 64103 => some ([], [1, 3, 8, 33, 34, 35]) | 128204 => some ([], [1, 3, 8, 9, 10, 11, 33, 34, 35, 41]) | 130980 => some ([], [1, 3, 14, 15, 100, 101]) | 130981 => some ([], [1, 3, 14]) | 130983 => some ([], [1, 3, 14, 15, 100, 101]) | 131048 => some ([], [1, 3, 14, 19, 208, 209, 210]) | 256411 => some ([], [1, 3, 8, 10, 11, 33, 34, 35]) | 512820 => some ([], [1, 3, 8, 9, 10, 12, 33, 34, 35]) | 523928 => some ([], [1, 3, 14, 15, 16, 100, 101]) | 524196 => some ([], [1, 3, 14, 19, 208, 209]) | 524197 => some ([], [3, 14, 19]) | 524199 => some ([], [1, 3, 14, 19, 208, 209]) | 1025642 => some ([], [1, 3, 8, 9, 10, 11, 12, 33, 34, 35]) | 2051286 => some ([], [1, 3, 8, 10, 11, 33, 34, 35, 75]) | 2095716 => some ([], [1, 3, 14, 15, 16, 100, 101, 110, 111]) | 2095718 => some ([], [1, 3, 14, 15, 16, 100, 101, 149, 150]) | 2096792 => some ([], [1, 3, 14, 19, 20, 208, 209]) | 4102575 => some ([], [1, 3, 8, 10, 11, 33, 34, 35]) | 4191434 => some ([], [1, 3, 14, 15, 16, 100, 101, 110, 111]) | 4191438 => some ([], [1, 3, 14, 15, 16, 100, 101, 149, 150]) | 4193586 => some ([], [1, 3, 14, 19, 20, 21, 208, 209]) | 8205148 => some ([], [2, 3, 4]) | 8205149 => some ([], [2, 3, 4]) | 8387175 => some ([], [1, 3, 14, 19, 208, 209]) | 16765736 => some ([], [1, 3, 14, 15, 16, 100, 101, 110, 111, 112]) | 16765752 => some ([], [1, 3, 14, 15, 16, 100, 101, 149, 150, 151]) | 16774348 => some ([], [1, 3, 14, 19, 20, 21, 208, 209, 228]) | 33548698 => some ([], [1, 3, 14, 19, 21, 208, 209]) | 33548699 => some ([], [1, 3, 14, 19, 21, 208, 209]) | 67062948 => some ([], [1, 3, 14, 15, 16, 100, 101, 110, 111]) | 67062949 => some ([], [1, 3, 14, 15, 16, 100, 101]) | 67062951 => some ([], [1, 3, 14, 15, 16, 100, 101, 110, 111]) | 67063012 => some ([], [1, 3, 14, 15, 16, 100, 101, 149, 150]) | 67063013 => some ([], [1, 3, 14, 15, 100, 101]) | 67063015 => some ([], [1, 3, 14, 15, 16, 100, 101, 149, 150]) | 268251800 => some ([], [1, 3, 14, 15, 16, 17, 100, 101, 110, 111]) | 268252056 => some ([], [1, 3, 14, 15, 16, 18, 100, 101, 149, 150]) | 536503603 => some ([], [1, 3, 14, 15, 16, 100, 101, 110, 111]) | 536504115 => some ([], [1, 3, 14, 15, 16, 100, 101, 149, 150]) | 1073007204 => some ([], [1, 3, 14, 15, 16, 17, 100, 101, 110, 111, 126]) | 1073008228 => some ([], [1, 3, 14, 15, 16, 18, 100, 101, 149, 150, 165]) | 2146014410 => some ([], [1, 3, 14, 15, 16, 100, 101, 110, 111]) | 2146014411 => some ([], [1, 3, 14, 15, 16, 100, 101, 110, 111]) | 2146016458 => some ([], [1, 3, 14, 15, 16, 100, 101, 149, 150]) | 2146016459 => some ([], [1, 3, 14, 15, 16, 100, 101, 149, 150]) | _ => none
noncomputable def wJ : Code := Try.f6.body.getD .skip
theorem GZ : aL tV mD uH wJ := by
 intro n E hn f c hs x k h
 unfold mD at hn
 split at hn
 ·cases hn; exact aK hs (by kernel_rfl) (fun y : Int × Int => ⟨[(1, .ptr 0 0), (3, .ptr 1 0), (8, .pl (.int .i64 y.1)), (33, .own 2), (34, .pl (.int .i64 x.1.2.2.2.2.1)), (35, .pl (.int .i64 y.2))], [.box [.pl (.int .i64 x.2.1.1), .pl (.int .i64 x.2.1.2.1), .pl (.int .i64 x.2.1.2.2.1), .fz false (.pair (.int .i64) (.pair (.int .i64) (.pair (.int .i64) (.pair (.int .i64) (.pair (.int .i64) (.pair (.int .i64) .bool)))))) x.2.1.2.2.2.1, .pl (.int .u64 x.2.1.2.2.2.2.1), .fz false (.int .i8) x.2.1.2.2.2.2.2.1, .pl (.int .i64 x.2.1.2.2.2.2.2.2.1), .fz false (.int .i8) x.2.1.2.2.2.2.2.2.2.1, .pl (.int .i64 x.2.1.2.2.2.2.2.2.2.2.1)] false, .box [.pl (.slice none 0 0), .pl (.int .i64 x.2.2.1.2.1), .pl (.slice none 0 0)] false, .lst true (.slc (.int .i64)) x.2.2.2.1 false]⟩) (x.1.2.2.1, x.1.2.2.2.2.2.1) (by kernel_rfl) (fun y X => by kernel_rfl) h.it
 ·cases hn; exact aK hs (by kernel_rfl) (fun y : Int × Int × (List Int) × (List Int) × List (((List Int) × Int × List Int) × (List Int) × (List Int) × Int × List Int) => ⟨[(1, .ptr 0 0), (3, .ptr 1 0), (14, .own 2), (15, .pl (.int .i64 y.1)), (100, .pl (.int .i64 x.1.2.2.2.2.1)), (101, .pl (.int .i64 y.2.1))], [.box [.pl (.int .i64 x.2.1.1), .pl (.int .i64 x.2.1.2.1), .pl (.int .i64 x.2.1.2.2.1), .fz false (.pair (.int .i64) (.pair (.int .i64) (.pair (.int .i64) (.pair (.int .i64) (.pair (.int .i64) (.pair (.int .i64) .bool)))))) x.2.1.2.2.2.1, .pl (.int .u64 x.2.1.2.2.2.2.1), .fz false (.int .i8) y.2.2.1, .pl (.int .i64 x.2.1.2.2.2.2.2.2.1), .fz false (.int .i8) y.2.2.2.1, .pl (.int .i64 x.2.1.2.2.2.2.2.2.2.2.1)] false, .box [.pl (.slice none 0 0), .pl (.int .i64 x.2.2.1.2.1), .pl (.slice none 0 0)] false, .lst true (.pair (.pair (.slc (.int .i64)) (.pair (.int .i64) (.slc (.int .i8)))) (.pair (.slc (.int .i32)) (.pair (.slc (.int .i64)) (.pair (.int .i64) (.slc (.int .i8)))))) y.2.2.2.2 false]⟩) (x.1.2.2.2.1, x.1.2.2.2.2.2.1, x.2.1.2.2.2.2.2.1, x.2.1.2.2.2.2.2.2.2.1, x.2.2.2.1) (by kernel_rfl) (fun y X => by kernel_rfl) h.it
 ·cases hn; exact aK hs (by kernel_rfl) (fun y : Int × List Int => ⟨[(1, .ptr 0 0), (3, .ptr 1 0), (14, .own 2), (19, .ptr 3 0), (208, .pl (.int .i64 x.1.2.2.2.2.1)), (209, .pl (.int .i64 y.1))], [.box [.pl (.int .i64 x.2.1.1), .pl (.int .i64 x.2.1.2.1), .pl (.int .i64 x.2.1.2.2.1), .fz false (.pair (.int .i64) (.pair (.int .i64) (.pair (.int .i64) (.pair (.int .i64) (.pair (.int .i64) (.pair (.int .i64) .bool)))))) x.2.1.2.2.2.1, .pl (.int .u64 x.2.1.2.2.2.2.1), .fz false (.int .i8) x.2.1.2.2.2.2.2.1, .pl (.int .i64 x.2.1.2.2.2.2.2.2.1), .fz false (.int .i8) x.2.1.2.2.2.2.2.2.2.1, .pl (.int .i64 x.2.1.2.2.2.2.2.2.2.2.1)] false, .box [.pl (.slice none 0 0), .pl (.int .i64 x.2.2.1.2.1), .pl (.slice none 0 0)] false, .lst true (.pair (.pair (.slc (.int .i64)) (.pair (.int .i64) (.slc (.int .i8)))) (.pair (.slc (.int .i32)) (.pair (.slc (.int .i64)) (.pair (.int .i64) (.slc (.int .i8)))))) x.2.2.2.1 false, .box [.own 4, .pl (.int .i64 x.2.2.2.2.1.2.1), .own 5] false, .lst true (.int .i64) x.2.2.2.2.2.1 false, .lst true (.int .i8) y.2 false]⟩) (x.1.2.2.2.2.2.1, ([] : List Int)) (by kernel_rfl) (fun y X => by kernel_rfl) h.it
 ·cases hn; exact bS hs (by kernel_rfl) (by kernel_rfl) h.it
 ·cases hn; exact aK hs (by kernel_rfl) (fun y : Int × Int × (List Int) × (List Int) × List (((List Int) × Int × List Int) × (List Int) × (List Int) × Int × List Int) => ⟨[(1, .ptr 0 0), (3, .ptr 1 0), (14, .own 2), (15, .pl (.int .i64 y.1)), (16, .pl (.int .i64 x.1.2.2.2.2.1)), (100, .pl (.int .i64 x.1.2.2.2.2.2.1)), (101, .pl (.int .i64 x.1.2.2.2.2.2.2.1)), (110, .pl (.int .i64 x.1.2.2.2.2.2.2.2.1)), (111, .pl (.int .i64 y.2.1))], [.box [.pl (.int .i64 x.2.1.1), .pl (.int .i64 x.2.1.2.1), .pl (.int .i64 x.2.1.2.2.1), .fz false (.pair (.int .i64) (.pair (.int .i64) (.pair (.int .i64) (.pair (.int .i64) (.pair (.int .i64) (.pair (.int .i64) .bool)))))) x.2.1.2.2.2.1, .pl (.int .u64 x.2.1.2.2.2.2.1), .fz false (.int .i8) y.2.2.1, .pl (.int .i64 x.2.1.2.2.2.2.2.2.1), .fz false (.int .i8) y.2.2.2.1, .pl (.int .i64 x.2.1.2.2.2.2.2.2.2.2.1)] false, .box [.pl (.slice none 0 0), .pl (.int .i64 x.2.2.1.2.1), .pl (.slice none 0 0)] false, .lst true (.pair (.pair (.slc (.int .i64)) (.pair (.int .i64) (.slc (.int .i8)))) (.pair (.slc (.int .i32)) (.pair (.slc (.int .i64)) (.pair (.int .i64) (.slc (.int .i8)))))) y.2.2.2.2 false]⟩) (x.1.2.2.2.1, x.1.2.2.2.2.2.2.2.2.1, x.2.1.2.2.2.2.2.1, x.2.1.2.2.2.2.2.2.2.1, x.2.2.2.1) (by kernel_rfl) (fun y X => by kernel_rfl) h.it
 ·cases hn; exact aK hs (by kernel_rfl) (fun y : Int × Int × (List Int) × (List Int) × List (((List Int) × Int × List Int) × (List Int) × (List Int) × Int × List Int) => ⟨[(1, .ptr 0 0), (3, .ptr 1 0), (14, .own 2), (15, .pl (.int .i64 y.1)), (16, .pl (.int .i64 x.1.2.2.2.2.1)), (100, .pl (.int .i64 x.1.2.2.2.2.2.1)), (101, .pl (.int .i64 x.1.2.2.2.2.2.2.1)), (149, .pl (.int .i64 x.1.2.2.2.2.2.2.2.1)), (150, .pl (.int .i64 y.2.1))], [.box [.pl (.int .i64 x.2.1.1), .pl (.int .i64 x.2.1.2.1), .pl (.int .i64 x.2.1.2.2.1), .fz false (.pair (.int .i64) (.pair (.int .i64) (.pair (.int .i64) (.pair (.int .i64) (.pair (.int .i64) (.pair (.int .i64) .bool)))))) x.2.1.2.2.2.1, .pl (.int .u64 x.2.1.2.2.2.2.1), .fz false (.int .i8) y.2.2.1, .pl (.int .i64 x.2.1.2.2.2.2.2.2.1), .fz false (.int .i8) y.2.2.2.1, .pl (.int .i64 x.2.1.2.2.2.2.2.2.2.2.1)] false, .box [.pl (.slice none 0 0), .pl (.int .i64 x.2.2.1.2.1), .pl (.slice none 0 0)] false, .lst true (.pair (.pair (.slc (.int .i64)) (.pair (.int .i64) (.slc (.int .i8)))) (.pair (.slc (.int .i32)) (.pair (.slc (.int .i64)) (.pair (.int .i64) (.slc (.int .i8)))))) y.2.2.2.2 false]⟩) (x.1.2.2.2.1, x.1.2.2.2.2.2.2.2.2.1, x.2.1.2.2.2.2.2.1, x.2.1.2.2.2.2.2.2.2.1, x.2.2.2.1) (by kernel_rfl) (fun y X => by kernel_rfl) h.it
 ·cases hn; exact bS hs (by kernel_rfl) (by kernel_rfl) h.it
 ·cases hn; exact bS hs (by kernel_rfl) (by kernel_rfl) h.it
 ·cases hn; exact bS hs (by kernel_rfl) (by kernel_rfl) h.it
 ·cases hn
def eL : List Sh := [.agg [.int .i64, .int .i64, .int .i64, .fz false (.pair (.int .i64) (.pair (.int .i64) (.pair (.int .i64) (.pair (.int .i64) (.pair (.int .i64) (.pair (.int .i64) .bool)))))), .int .u64, .fz false (.int .i8), .int .i64, .fz false (.int .i8), .int .i64]]
def nC (x : aI eL) (Q : List (Bool × List VV) -> Prop) : Prop := qK (((x.1.1, (x.1.2.1, x.1.2.2.1)), x.1.2.2.2.1), (x.1.2.2.2.2.1, (x.1.2.2.2.2.2.1, (x.1.2.2.2.2.2.2.1, (x.1.2.2.2.2.2.2.2.1, x.1.2.2.2.2.2.2.2.2.1))))) (fun (r : (List (((List Int) × Int × List Int) × (List Int) × (List Int) × Int × List Int)) × ((List Int) × Int × List Int) × Int) => Q (aH [(false, (.slc (.pair (.pair (.slc (.int .i64)) (.pair (.int .i64) (.slc (.int .i8)))) (.pair (.slc (.int .i32)) (.pair (.slc (.int .i64)) (.pair (.int .i64) (.slc (.int .i8)))))))), (true, (.pair (.slc (.int .i64)) (.pair (.int .i64) (.slc (.int .i8))))), (false, (.int .i64))] [.n, .n, .n] (r.1, (r.2.1, (r.2.2, ())))))
theorem GB (x : aI eL) (Q : List (Bool × List VV) -> Prop) (h : nC x Q) : aD Try.prog 6 (aM eL x) Q :=
 aC [.n, .n, .n] (G := tV) (ct := mD) (en := uH) (fn := Try.f6) (cd := wJ) (rt := [(false, (.slc (.pair (.pair (.slc (.int .i64)) (.pair (.int .i64) (.slc (.int .i8)))) (.pair (.slc (.int .i32)) (.pair (.slc (.int .i64)) (.pair (.int .i64) (.slc (.int .i8)))))))), (true, (.pair (.slc (.int .i64)) (.pair (.int .i64) (.slc (.int .i8))))), (false, (.int .i64))]) Try.func6 (by kernel_rfl) (by kernel_rfl) (Nat.le_of_ble_eq_true rfl) GZ tD (aG rfl) h.it (by kernel_rfl)
noncomputable def oM : FuncId -> List VV -> (List (Bool × List VV) -> Prop) -> Prop := fun f args Q => if f = 6 then unA eL args (fun x => nC x Q) else oR f args Q
theorem sN : ∀ f args Q, oM f args Q -> aD Try.prog f args Q := aE tD (f0 := 6) eL (fun x Q => nC x Q) GB
noncomputable def yN : Cfg := ⟨Try.prog, tt, oM, fun _ _ _ => False, none, false⟩
def gJ (x0 : Int) (x4 : List Int) (x7 : List Int) (K0 : Unit -> Prop) (K1 : Unit -> Prop) (s : Int) (nx : Int -> Prop) : Prop :=
 if (decide (s < x0)) = true then ck ((0 : Int) <= s /\ s < (x4.length : Int)) (ck ((0 : Int) <= s /\ s < (x7.length : Int)) (if ((x4.getD ((s).toNat) 0) != (x7.getD ((s).toNat) 0)) = true then K1 () else nx (IntKind.i64.wrap (s + 1)))) else K0 ()
structure u4 (x0 : Int) (x4 : List Int) (x7 : List Int) (K0 : Unit -> Prop) (K1 : Unit -> Prop) (s : Int) : Prop where
 it : Go.Mach.Loop (gJ x0 x4 x7 K0 K1) s
def wL (a0 : (List Int) × Int × List Int) (a1 : (List Int) × Int × List Int) (Q : Bool -> Prop) : Prop :=
 cQ a0.1 a1.1 (fun (r1 : Bool) => if (((!r1) || (a0.2.1 != a1.2.1)) || ((a0.2.2.length : Int) != (a1.2.2.length : Int))) = true then Q false else u4 (a0.2.2.length : Int) a0.2.2 a1.2.2 (fun (y2 : Unit) => Q true) (fun (y3 : Unit) => Q false) 0)
structure iB (a0 : (List Int) × Int × List Int) (a1 : (List Int) × Int × List Int) (Q : Bool -> Prop) : Prop where
 it : wL a0 a1 Q
noncomputable def JF : Ent := ⟨[2, 3, 30, 31], [.lf (.cst (.ptr 0 0)), .lf (.cst (.ptr 1 0)), .lf (.int .i64), .lf (.int .i64)], [.box [.fz false (.int .i64), .int .i64, .fz false (.int .i8)] false, .box [.fz false (.int .i64), .int .i64, .fz false (.int .i8)] false], fun x k => u4 x.1.2.2.1 x.2.1.2.2.1 x.2.2.1.2.2.1 (fun (y4 : Unit) => k (.exit 0) ⟨[], []⟩) (fun (y5 : Unit) => k .ret ⟨[(4, .pl (.bool false))], []⟩) x.1.2.2.2.1⟩
noncomputable def lV : Tab := fun n => match n with | 58 => some JF | _ => none
noncomputable def vS : Go.Mach.Ends := fun n => match n with | 2 => some ([], [2, 3]) | 12 => some ([], [2, 3, 27]) | 27 => some ([], [2, 3]) | 28 => some ([], [2, 3, 30, 31]) | 30 => some ([], [4]) | 31 => some ([], [4]) | 52 => some ([], [4]) | 53 => some ([], [4]) | 58 => some ([], [2, 3, 30, 31]) | 232 => some ([], [2, 3, 30, 31, 32]) | 932 => some ([], [2, 3, 30, 31]) | 933 => some ([], []) | 935 => some ([], [2, 3, 30, 31]) | 3736 => some ([], [2, 3, 5, 30, 31]) | 7474 => some ([], [2, 3, 30, 31, 44]) | 14951 => some ([], [2, 3, 30, 31]) | 29900 => some ([], [4]) | 29901 => some ([], [4]) | _ => none
noncomputable def wW : Code := Try.f8.body.getD .skip
theorem HF : aL yN lV vS wW := by
 intro n E hn f c hs x k h
 unfold lV at hn
 split at hn
 ·cases hn; exact aK hs (by kernel_rfl) (fun y : Int => ⟨[(2, .ptr 0 0), (3, .ptr 1 0), (30, .pl (.int .i64 x.1.2.2.1)), (31, .pl (.int .i64 y))], [.box [.fz false (.int .i64) x.2.1.1, .pl (.int .i64 x.2.1.2.1), .fz false (.int .i8) x.2.1.2.2.1] false, .box [.fz false (.int .i64) x.2.2.1.1, .pl (.int .i64 x.2.2.1.2.1), .fz false (.int .i8) x.2.2.1.2.2.1] false]⟩) x.1.2.2.2.1 (by kernel_rfl) (fun y X => by kernel_rfl) h.it
 ·cases hn
def d9 : List Sh := [.agg [.fz false (.int .i64), .int .i64, .fz false (.int .i8)], .agg [.fz false (.int .i64), .int .i64, .fz false (.int .i8)]]
def nE (x : aI d9) (Q : List (Bool × List VV) -> Prop) : Prop := iB (x.1.1, (x.1.2.1, x.1.2.2.1)) (x.2.1.1, (x.2.1.2.1, x.2.1.2.2.1)) (fun (r : Bool) => Q (aH [(false, .bool)] [.n] (r, ())))
theorem HW (x : aI d9) (Q : List (Bool × List VV) -> Prop) (h : nE x Q) : aD Try.prog 8 (aM d9 x) Q :=
 aC [.n] (G := yN) (ct := lV) (en := vS) (fn := Try.f8) (cd := wW) (rt := [(false, .bool)]) Try.func8 (by kernel_rfl) (by kernel_rfl) (Nat.le_of_ble_eq_true rfl) HF sN (aG rfl) h.it (by kernel_rfl)
noncomputable def zD : FuncId -> List VV -> (List (Bool × List VV) -> Prop) -> Prop := fun f args Q => if f = 8 then unA d9 args (fun x => nE x Q) else oM f args Q
theorem GH : ∀ f args Q, zD f args Q -> aD Try.prog f args Q := aE sN (f0 := 8) d9 (fun x Q => nE x Q) HW
noncomputable def yY : Cfg := ⟨Try.prog, tt, zD, fun _ _ _ => False, none, false⟩
end Go.Proofs.Ytbenbhdagmnapaa

namespace Go.Mach
set_option linter.unusedVariables false
set_option linter.unusedSimpArgs false
theorem aKp (a b : Int) : IntKind.i64.wrap (IntKind.i64.wrap a + b) = IntKind.i64.wrap (a + b) := by
 simp only [IntKind.wrap, IntKind.bits, IntKind.signed]; simp; omega
theorem aLA (a b : Int) : IntKind.i32.wrap (IntKind.i32.wrap a + b) = IntKind.i32.wrap (a + b) := by
 simp only [IntKind.wrap, IntKind.bits, IntKind.signed]; simp; omega
theorem aKa (a b : Int) : IntKind.i32.wrap (a + IntKind.i32.wrap b) = IntKind.i32.wrap (a + b) := by
 simp only [IntKind.wrap, IntKind.bits, IntKind.signed]; simp; omega
theorem aNI (a : Int) : IntKind.i32.wrap (IntKind.i64.wrap a) = IntKind.i32.wrap a := by
 simp only [IntKind.wrap, IntKind.bits, IntKind.signed]; simp; omega
def i6 (g : Nat -> Int) : Nat -> Int
 | 0 => 0
 | n + 1 => i6 g n + g n
theorem aIJ {f g : Nat -> Int} {n : Nat} (h : ∀ i, i < n -> f i = g i) : i6 f n = i6 g n := by
 induction n with
 | zero => rfl
 | succ n ih => simp only [i6]; rw [ih fun i hi => h i (by omega), h n (by omega)]
theorem aI3 (g : Nat -> Int) (B : Int) (n : Nat) (h : ∀ i, i < n -> -B <= g i /\ g i <= B) : -(B * n) <= i6 g n /\ i6 g n <= B * n := by
  induction n with
  | zero => simp [i6]
  | succ n ih =>
    have h1 := ih fun i hi => h i (by omega)
    have h2 := h n (by omega)
    have e : B * ((n + 1 : Nat) : Int) = B * n + B := by rw [Int.natCast_add, Int.mul_add]; simp
    simp only [i6]
    omega
theorem aK1 (f : Nat -> Int) (n m : Nat) : i6 f (n + m) = i6 f n + i6 (fun i => f (n + i)) m := by
 induction m with
 | zero => simp [i6]
 | succ m ih => rw [<- Nat.add_assoc]; simp only [i6]; rw [ih]; omega
def aEq {α : Type} (l : List α) (f : α -> Int) : Int := (l.map f).sum
theorem aK0 {α : Type} (a : α) (l : List α) (f : α -> Int) : aEq (a :: l) f = f a + aEq l f := by simp [aEq]
theorem aFc {α : Type} (l : List α) (f : α -> Int) (d : α) : aEq l f = i6 (fun i => f (l.getD i d)) l.length := by
  induction l with
  | nil => rfl
  | cons a l ih =>
    rw [aK0, ih, List.length_cons, Nat.add_comm, aK1]
    simp only [i6, List.getD_cons_zero, Int.zero_add]
    congr 1
    exact aIJ fun i _ => by rw [Nat.add_comm, List.getD_cons_succ]
def tab (n : Nat) (f : Nat -> Int) : List Int := (List.range n).map f
@[simp] theorem tab_len (n : Nat) (f : Nat -> Int) : (tab n f).length = n := by simp [tab]
theorem aMi {n : Nat} {f : Nat -> Int} {y : Int} (h : y ∈ tab n f) : ∃ i, i < n /\ f i = y := by
 unfold tab at h
 simpa only [List.mem_map, List.mem_range] using h
theorem aL1 {n i : Nat} (f : Nat -> Int) (h : i < n) : (tab n f).getD i 0 = f i := by
 unfold tab
 rw [List.getD_eq_getElem?_getD, List.getElem?_map, List.getElem?_range h]; rfl
theorem aKL {l m : List Int} (hl : l.length = m.length) (h : ∀ i, i < l.length -> l.getD i 0 = m.getD i 0) : l = m := by
 refine List.ext_getElem hl fun i h1 h2 => ?_
 have := h i h1
 rwa [List.getD_eq_getElem?_getD, List.getElem?_eq_getElem h1, List.getD_eq_getElem?_getD, List.getElem?_eq_getElem h2] at this
theorem aM2 {α : Type} {l : List α} {i j : Nat} {v d : α} (hi : i < l.length) : (l.set i v).getD j d = if i = j then v else l.getD j d := by
 rw [List.getD_eq_getElem?_getD, List.getElem?_set]
 by_cases h : i = j
 ·subst h; rw [if_pos rfl, if_pos rfl, if_pos hi]; rfl
 ·rw [if_neg h, if_neg h, List.getD_eq_getElem?_getD]
theorem V1 {l : List Int} {i : Nat} (h : i < l.length) : l.getD i 0 ∈ l := by
 rw [List.getD_eq_getElem?_getD, List.getElem?_eq_getElem h]; exact List.getElem_mem h
theorem aHi {α : Type} {l : List α} {p : α -> Bool} {i : Nat} {d : α} (hi : i < l.length) : (l.take (i + 1)).all p = ((l.take i).all p && p (l.getD i d)) := by
 rw [List.take_add_one, List.all_append, List.getD_eq_getElem?_getD, List.getElem?_eq_getElem hi]
 simp
theorem aMX {α : Type} {l : List α} {p : α -> Bool} {i : Nat} {d : α} (hi : i < l.length) (h : p (l.getD i d) = false) : l.all p = false := by
 rw [List.all_eq_false]
 refine ⟨l[i], List.getElem_mem hi, ?_⟩
 rw [List.getD_eq_getElem?_getD, List.getElem?_eq_getElem hi] at h
 simp only [Option.getD_some] at h
 rw [h]; simp
theorem D1 {r R n i : Nat} (h1 : r < R) (h2 : i < n) : r * n + i < R * n := by
 have : (r + 1) * n <= R * n := Nat.mul_le_mul_right n h1
 rw [Nat.add_mul, Nat.one_mul] at this
 omega
theorem YC {r n i : Nat} (h : i < n) : (r * n + i) / n = r := by
 rw [Nat.mul_comm, Nat.mul_add_div (by omega), Nat.div_eq_of_lt h]; rfl
theorem YZ {r n i : Nat} (h : i < n) : (r * n + i) % n = i := by
 rw [Nat.mul_comm, Nat.mul_add_mod, Nat.mod_eq_of_lt h]
theorem aJl {r n i r' i' : Nat} (h : i < n) (h' : i' < n) (e : r * n + i = r' * n + i') : r = r' /\ i = i' := by
 have h1 := YC (r := r) h
 have h2 := YZ (r := r) h
 rw [e] at h1 h2
 rw [YC h'] at h1
 rw [YZ h'] at h2
 exact ⟨h1.symm, h2.symm⟩
def ix4 (O P Q m o p q : Nat) : Nat := ((m * O + o) * P + p) * Q + q
theorem aJ1 {n O P Q m o p q : Nat} (hm : m < n) (ho : o < O) (hp : p < P) (hq : q < Q) : ix4 O P Q m o p q < n * O * P * Q := D1 (D1 (D1 hm ho) hp) hq
theorem aNT {O P Q m o p q m' o' p' q' : Nat} (ho : o < O) (hp : p < P) (hq : q < Q) (ho' : o' < O) (hp' : p' < P) (hq' : q' < Q) (e : ix4 O P Q m o p q = ix4 O P Q m' o' p' q') : m = m' /\ o = o' /\ p = p' /\ q = q' := by
 obtain ⟨e1, e2⟩ := aJl hq hq' e
 obtain ⟨e3, e4⟩ := aJl hp hp' e1
 obtain ⟨e5, e6⟩ := aJl ho ho' e3
 exact ⟨e5, e6, e4, e2⟩
theorem VW {n k t : Nat} (h : t < n * k) : t / k < n /\ t % k < k /\ t = t / k * k + t % k := by
 have hk : 0 < k := by
  rcases Nat.eq_zero_or_pos k with e | e
  ·rw [e, Nat.mul_zero] at h; omega
  ·exact e
 refine ⟨by rw [Nat.div_lt_iff_lt_mul hk]; exact h, Nat.mod_lt _ hk, ?_⟩
 rw [Nat.mul_comm]; exact (Nat.div_add_mod t k).symm
theorem aKi {n O P Q t : Nat} (h : t < n * O * P * Q) : ∃ m o p q, m < n /\ o < O /\ p < P /\ q < Q /\ t = ix4 O P Q m o p q := by
 obtain ⟨a1, a2, a3⟩ := VW h
 obtain ⟨b1, b2, b3⟩ := VW a1
 obtain ⟨c1, c2, c3⟩ := VW b1
 exact ⟨_, _, _, _, c1, c2, b2, a2, by unfold ix4; rw [<- c3, <- b3, <- a3]⟩
def aIo (n O P Q : Nat) (cell : Nat -> Nat -> Nat -> Nat -> Int) : List Int := tab (n * O * P * Q) fun t => cell (t / Q / P / O) (t / Q / P % O) (t / Q % P) (t % Q)
theorem aL3 (n O P Q : Nat) (cell : Nat -> Nat -> Nat -> Nat -> Int) : (aIo n O P Q cell).length = n * O * P * Q := by simp [aIo]
theorem aMH {n O P Q m o p q : Nat} {cell : Nat -> Nat -> Nat -> Nat -> Int} (hm : m < n) (ho : o < O) (hp : p < P) (hq : q < Q) : (aIo n O P Q cell).getD (ix4 O P Q m o p q) 0 = cell m o p q := by
 unfold aIo
 rw [aL1 _ (aJ1 hm ho hp hq)]
 unfold ix4
 rw [YC hq, YC hp, YC ho, YZ hq, YZ hp, YZ ho]
structure Fill (n O P Q : Nat) (cell : Nat -> Nat -> Nat -> Nat -> Int) (C : Nat -> Nat -> Nat -> Nat -> Prop) (L : List Int) : Prop where
 len : L.length = n * O * P * Q
 tell : ∀ m o p q, m < n -> o < O -> p < P -> q < Q -> C m o p q -> L.getD (ix4 O P Q m o p q) 0 = cell m o p q
theorem Fill.mono {n O P Q : Nat} {cell : Nat -> Nat -> Nat -> Nat -> Int} {C C' : Nat -> Nat -> Nat -> Nat -> Prop} {L : List Int} (h : Fill n O P Q cell C L) (hc : ∀ m o p q, m < n -> o < O -> p < P -> q < Q -> C' m o p q -> C m o p q) : Fill n O P Q cell C' L :=
 ⟨h.len, fun m o p q hm ho hp hq hC => h.tell m o p q hm ho hp hq (hc m o p q hm ho hp hq hC)⟩
theorem Fill.set {n O P Q : Nat} {cell : Nat -> Nat -> Nat -> Nat -> Int} {C C' : Nat -> Nat -> Nat -> Nat -> Prop} {L : List Int} (h : Fill n O P Q cell C L) {m0 o0 p0 q0 : Nat} (hm : m0 < n) (ho : o0 < O) (hp : p0 < P) (hq : q0 < Q)
  {v : Int} (hv : v = cell m0 o0 p0 q0) (hc : ∀ m o p q, m < n -> o < O -> p < P -> q < Q -> C' m o p q -> C m o p q \/ (m = m0 /\ o = o0 /\ p = p0 /\ q = q0)) : Fill n O P Q cell C' (L.set (ix4 O P Q m0 o0 p0 q0) v) := by
 have hlt := aJ1 hm ho hp hq
 refine ⟨by rw [List.length_set]; exact h.len, fun m o p q hm' ho' hp' hq' hC => ?_⟩
 rw [aM2 (by rw [h.len]; exact hlt)]
 by_cases e : ix4 O P Q m0 o0 p0 q0 = ix4 O P Q m o p q
 ·rw [if_pos e]
  obtain ⟨e1, e2, e3, e4⟩ := aNT ho hp hq ho' hp' hq' e
  rw [hv, e1, e2, e3, e4]
 ·rw [if_neg e]
  rcases hc m o p q hm' ho' hp' hq' hC with g | ⟨rfl, rfl, rfl, rfl⟩
  ·exact h.tell m o p q hm' ho' hp' hq' g
  ·exact absurd rfl e
theorem aKy {n O P Q : Nat} {L M : List Int} (hl : L.length = n * O * P * Q) (hm : M.length = n * O * P * Q) (h : ∀ m o p q, m < n -> o < O -> p < P -> q < Q -> L.getD (ix4 O P Q m o p q) 0 = M.getD (ix4 O P Q m o p q) 0) : L = M := by
 refine aKL (by omega) fun t ht => ?_
 obtain ⟨m, o, p, q, h1, h2, h3, h4, rfl⟩ := aKi (hl ▸ ht)
 exact h m o p q h1 h2 h3 h4
theorem Fill.all {n O P Q : Nat} {cell : Nat -> Nat -> Nat -> Nat -> Int} {C : Nat -> Nat -> Nat -> Nat -> Prop} {L : List Int} (h : Fill n O P Q cell C L) (hC : ∀ m o p q, m < n -> o < O -> p < P -> q < Q -> C m o p q) : L = aIo n O P Q cell :=
 aKy h.len (aL3 _ _ _ _ _) fun m o p q hm ho hp hq => by rw [aMH hm ho hp hq, h.tell m o p q hm ho hp hq (hC m o p q hm ho hp hq)]
theorem Loop.rangeI {S : Type} {B : S -> (S -> Prop) -> Prop} (n : Nat) (I : Nat -> S -> Prop) {s0 : S} (h0 : I 0 s0) (step : ∀ i, i < n -> ∀ s, I i s -> ∀ X, (∀ s', I (i + 1) s' -> X s') -> B s X) (last : ∀ s, I n s -> ∀ X, B s X) : Loop B s0 := by
 refine Loop.inv (n := n) (fun m s => ∃ i, i + m = n /\ I i s) ⟨0, by omega, h0⟩ ?_
 rintro m s X ⟨i, hi, hI⟩ hX
 by_cases h : i < n
 ·exact step i h s hI X fun s' hI' => hX (m - 1) s' (by omega) ⟨i + 1, by omega, hI'⟩
 ·have : i = n := by omega
  subst this
  exact last s hI X
theorem Loop.all {α : Type} {B : Int -> (Int -> Prop) -> Prop} (l : List α) (p : α -> Bool) {K0 K1 : Prop}
    (step : ∀ i (h : i < l.length) X, (p l[i] = true -> X ((i + 1 : Nat) : Int)) -> (p l[i] = false -> K1) -> B (i : Int) X) (last : K0 -> ∀ X, B (l.length : Int) X)
    (h : if l.all p = true then K0 else K1) : Loop B 0 := by
  refine Loop.range (B := B) (f := fun i : Nat => (i : Int)) l.length (fun i => ∀ j (hj : j < i) (hl : j < l.length), p l[j] = true) (fun j hj => absurd hj (by omega)) ?_ ?_
  · intro i hi hI X hX
    refine step i hi X (fun hp => hX fun j hj hl => ?_) (fun hp => ?_)
    · by_cases e : j = i
      · subst e; exact hp
      · exact hI j (by omega) hl
    · have : ¬ l.all p = true := by
        rw [List.all_eq_true]
        intro ha
        have := ha _ (List.getElem_mem hi)
        rw [hp] at this; cases this
      rwa [if_neg this] at h
  · intro hI X
    refine last ?_ X
    have : l.all p = true := by
      rw [List.all_eq_true]
      intro a ha
      obtain ⟨j, hj, rfl⟩ := List.getElem_of_mem ha
      exact hI j hj hj
    rwa [if_pos this] at h
end Go.Mach

namespace Go.Fl
open Ieee
set_option maxRecDepth 100000
set_option linter.unusedVariables false
set_option linter.unusedSimpArgs false
def sg (s : Bool) (m : Nat) : Int := if s = true then -(m : Int) else (m : Int)
def sJ (d : Datum) (n : Int) : Prop := ∃ s m e, d = .number s m e /\ sg s m * 2 ^ e.toNat = n * 2 ^ (-e).toNat
def BP (x : Nat) (n : Int) : Prop := sJ (double.read x) n
theorem pw (a : Nat) : ((2 ^ a : Nat) : Int) = 2 ^ a := by rw [Int.natCast_pow]; rfl
theorem aNl (s : Bool) (m : Nat) : (sg s m).natAbs = m := by
 unfold sg; split <;> omega
theorem aFZ (n : Int) : sg (decide (n < 0)) n.natAbs = n := by
 unfold sg
 by_cases h : n < 0
 ·rw [decide_eq_true h, if_pos rfl]; omega
 ·rw [decide_eq_false h, if_neg (by simp)]; omega
theorem aDx {s : Bool} {m : Nat} {e n : Int} (h : sg s m * 2 ^ e.toNat = n * 2 ^ (-e).toNat) : m * 2 ^ e.toNat = n.natAbs * 2 ^ (-e).toNat := by
 have := congrArg Int.natAbs h
 rw [Int.natAbs_mul, Int.natAbs_mul, aNl, <- pw, <- pw, Int.natAbs_natCast, Int.natAbs_natCast] at this
 exact this
theorem aC0 (m p : Nat) (hm : m ≠ 0) : (m * 2 ^ p).log2 = m.log2 + p := by
 have hp : 0 < 2 ^ p := Nat.pow_pos (by omega)
 rw [Nat.log2_eq_iff (Nat.mul_ne_zero hm (by omega))]
 have h1 := Nat.log2_self_le hm
 have h2 := @Nat.lt_log2_self m
 constructor
 ·rw [Nat.pow_add]; exact Nat.mul_le_mul_right _ h1
 ·rw [show m.log2 + p + 1 = (m.log2 + 1) + p by omega, Nat.pow_add]; exact Nat.mul_lt_mul_of_pos_right h2 hp
theorem aKl {neg : Bool} {K M : Nat} (hK : K <= 52) (h1 : 2 ^ 52 <= M) (h2 : M < 2 ^ 53) : double.read (double.word neg ((K + 1022) * 2 ^ 52 + M)) = .number neg M ((K : Int) - 52) := by
  have hr1 : (K + 1022) * 2 ^ 52 + M < 2 ^ 63 := by omega
  have e1 : double.word neg ((K + 1022) * 2 ^ 52 + M) % double.signWeight = (K + 1022) * 2 ^ 52 + M := by
    unfold Format.word
    show _ % 2 ^ 63 = _
    cases neg with
    | true => rw [if_pos rfl]; show (2 ^ 63 + _) % 2 ^ 63 = _; omega
    | false => rw [if_neg (by simp)]; omega
  have e2 : (double.word neg ((K + 1022) * 2 ^ 52 + M) / double.signWeight % 2 == 1) = neg := by
    unfold Format.word
    show (_ / 2 ^ 63 % 2 == 1) = _
    cases neg with
    | true =>
      rw [if_pos rfl]
      show ((2 ^ 63 + _) / 2 ^ 63 % 2 == 1) = true
      rw [show (2 ^ 63 + ((K + 1022) * 2 ^ 52 + M)) / 2 ^ 63 = 1 by omega]
      rfl
    | false =>
      rw [if_neg (by simp), show ((K + 1022) * 2 ^ 52 + M) / 2 ^ 63 = 0 by omega]
      rfl
  have e3 : double.binade = 2 ^ 52 := rfl
  have e4 : double.infRung = 2047 * 2 ^ 52 := by decide
  have e5 : double.leastPlace = -1074 := by decide
  unfold Format.read
  rw [e1, e2, e3, e4, e5]
  simp only
  rw [if_neg (by omega), if_pos (by omega)]
  have d1 : ((K + 1022) * 2 ^ 52 + M) / 2 ^ 52 = K + 1023 := by omega
  have d2 : ((K + 1022) * 2 ^ 52 + M) % 2 ^ 52 = M - 2 ^ 52 := by omega
  rw [d1, d2, show 2 ^ 52 + (M - 2 ^ 52) = M by omega, show (-1074 : Int) + ((K + 1023 - 1 : Nat) : Int) = (K : Int) - 52 by omega]
theorem YV {neg : Bool} {low drop : Nat} {way : Toward} : way.cut neg (low * 2 ^ drop) drop = low := by
 unfold Toward.cut
 by_cases h0 : low = 0
 ·subst h0
  rw [Nat.zero_mul]
  have hg : 0 < 1 <<< min drop (Nat.log2 0 + 2) := by rw [Nat.shiftLeft_eq, Nat.one_mul]; exact Nat.pow_pos (by omega)
  generalize 1 <<< min drop (Nat.log2 0 + 2) = g at hg
  simp only [Nat.zero_div, Nat.zero_mod]
  cases way <;> simp <;> omega
 ·have hp : 0 < 2 ^ drop := Nat.pow_pos (by omega)
  have hl : min drop ((low * 2 ^ drop).log2 + 2) = drop := by
   rw [aC0 low drop h0]; omega
  rw [hl, Nat.shiftLeft_eq, Nat.one_mul]
  simp only [Nat.mul_div_cancel _ hp, Nat.mul_mod_left]
  cases way <;> simp <;> omega
theorem IX {d : Datum} {n : Int} (h : sJ d n) (hn : n.natAbs < 2 ^ 53) : BP (double.write d) n := by
  obtain ⟨s, m, e, rfl, he⟩ := h
  have ha := aDx he
  have hpe : 0 < 2 ^ e.toNat := Nat.pow_pos (by omega)
  have hpe' : 0 < 2 ^ (-e).toNat := Nat.pow_pos (by omega)
  unfold BP
  show sJ (double.read (double.nearest s m e)) n
  unfold Format.nearest
  by_cases hm : m = 0
  · rw [if_pos hm]
    subst hm
    have hn0 : n = 0 := by
      rw [Nat.zero_mul] at ha
      have : n.natAbs = 0 := (Nat.mul_eq_zero.1 ha.symm).resolve_right (by omega)
      omega
    subst hn0
    have : double.read (double.word s 0) = .number s 0 (-1074) := by cases s <;> decide +kernel
    rw [this]
    refine ⟨s, 0, -1074, rfl, ?_⟩
    rw [show sg s 0 = 0 by cases s <;> rfl, Int.zero_mul, Int.zero_mul]
  · rw [if_neg hm]
    have hn0 : n.natAbs ≠ 0 := by
      intro h0
      rw [h0, Nat.zero_mul] at ha
      exact hm ((Nat.mul_eq_zero.1 ha).resolve_right (by omega))
    obtain ⟨N, hN⟩ : ∃ N, n.natAbs = N := ⟨_, rfl⟩
    rw [hN] at ha hn hn0
    obtain ⟨K, hKe⟩ : ∃ K, N.log2 = K := ⟨_, rfl⟩
    have hK : K <= 52 := by
      have := (Nat.log2_lt hn0).2 hn
      omega
    have hlog : (m.log2 : Int) + e = K := by
      have := congrArg Nat.log2 ha
      rw [aC0 m _ hm, aC0 N _ hn0] at this
      omega
    have hf : (double.fractionBits : Int) = 52 := rfl
    have e5 : double.leastPlace = -1074 := by decide
    have hlast : max (e + m.log2 - double.fractionBits) double.leastPlace = (K : Int) - 52 := by
      rw [hf, e5]; omega
    simp only
    rw [hlast]
    have hkept : Toward.even.cut s (m <<< (e - ((K : Int) - 52)).toNat) ((K : Int) - 52 - e).toNat = N * 2 ^ (52 - K) := by
      rw [Nat.shiftLeft_eq]
      by_cases hc : (K : Int) - 52 <= e
      · rw [show ((K : Int) - 52 - e).toNat = 0 by omega]
        have e1 : m * 2 ^ (e - ((K : Int) - 52)).toNat = N * 2 ^ (52 - K) := by
          have hp : 0 < 2 ^ (-e).toNat := hpe'
          apply Nat.eq_of_mul_eq_mul_right hp
          rw [Nat.mul_assoc, Nat.mul_assoc, <- Nat.pow_add, Nat.mul_comm (2 ^ (52 - K)), <- Nat.mul_assoc, <- ha, Nat.mul_assoc, <- Nat.pow_add]
          congr 2
          omega
        rw [e1]
        have := @YV s (N * 2 ^ (52 - K)) 0 .even
        rw [Nat.pow_zero, Nat.mul_one] at this
        exact this
      · rw [show (e - ((K : Int) - 52)).toNat = 0 by omega, Nat.pow_zero, Nat.mul_one]
        have e1 : m = N * 2 ^ (52 - K) * 2 ^ ((K : Int) - 52 - e).toNat := by
          have h0 : e.toNat = 0 := by omega
          rw [h0, Nat.pow_zero, Nat.mul_one] at ha
          rw [ha, Nat.mul_assoc, <- Nat.pow_add]
          congr 2
          omega
        rw [e1]
        exact YV
    rw [hkept, e5, show ((K : Int) - 52 - -1074).toNat = K + 1022 by omega]
    have b1 : 2 ^ 52 <= N * 2 ^ (52 - K) := by
      have := Nat.mul_le_mul_right (2 ^ (52 - K)) (Nat.log2_self_le hn0)
      rw [hKe, <- Nat.pow_add, show K + (52 - K) = 52 by omega] at this
      exact this
    have b2 : N * 2 ^ (52 - K) < 2 ^ 53 := by
      have := Nat.mul_lt_mul_of_pos_right (@Nat.lt_log2_self N) (show 0 < 2 ^ (52 - K) from Nat.pow_pos (by omega))
      rw [hKe, <- Nat.pow_add, show K + 1 + (52 - K) = 53 by omega] at this
      exact this
    have hmin : min ((K + 1022) * double.binade + N * 2 ^ (52 - K)) double.infRung = (K + 1022) * 2 ^ 52 + N * 2 ^ (52 - K) := by
      rw [show double.binade = 2 ^ 52 from rfl, show double.infRung = 2047 * 2 ^ 52 by decide]
      generalize N * 2 ^ (52 - K) = M at b1 b2 ⊢
      exact Nat.min_eq_left (by omega)
    rw [hmin, aKl hK b1 b2]
    refine ⟨s, _, _, rfl, ?_⟩
    have hs : sg s (N * 2 ^ (52 - K)) = n * 2 ^ (52 - K) := by
      have hp : (0 : Int) < 2 ^ e.toNat := Int.pow_pos (by omega)
      have hp' : (0 : Int) < 2 ^ (-e).toNat := Int.pow_pos (by omega)
      unfold sg at he ⊢
      rw [Int.natCast_mul, pw]
      cases s with
      | true =>
        rw [if_pos rfl] at he ⊢
        have hneg : n < 0 := by
          have h1 : (-(m : Int)) * 2 ^ e.toNat < 0 := Int.mul_neg_of_neg_of_pos (by omega) hp
          rw [he] at h1
          rcases Int.lt_or_le n 0 with h | h
          · exact h
          · have := Int.mul_nonneg h (Int.le_of_lt hp'); omega
        rw [<- Int.neg_mul, show -(N : Int) = n by omega]
      | false =>
        rw [if_neg (by simp)] at he ⊢
        have hpos : 0 <= n := by
          have h1 : 0 <= (m : Int) * 2 ^ e.toNat := Int.mul_nonneg (by omega) (Int.le_of_lt hp)
          rw [he] at h1
          rcases Int.lt_or_le n 0 with h | h
          · have := Int.mul_neg_of_neg_of_pos h hp'; omega
          · exact h
        rw [show (N : Int) = n by omega]
    rw [hs, show ((K : Int) - 52).toNat = 0 by omega, show (-((K : Int) - 52)).toNat = 52 - K by omega, Int.pow_zero, Int.mul_one]
theorem aHm {s : Bool} {m : Nat} {e n : Int} (he : sg s m * 2 ^ e.toNat = n * 2 ^ (-e).toNat) : sg s n.natAbs = n := by
  have hp : (0 : Int) < 2 ^ e.toNat := Int.pow_pos (by omega)
  have hp' : (0 : Int) < 2 ^ (-e).toNat := Int.pow_pos (by omega)
  unfold sg at he ⊢
  cases s with
  | true =>
    rw [if_pos rfl] at he ⊢
    have h1 : (-(m : Int)) * 2 ^ e.toNat <= 0 := Int.mul_nonpos_of_nonpos_of_nonneg (by omega) (Int.le_of_lt hp)
    rw [he] at h1
    rcases Int.lt_or_le 0 n with h | h
    · have := Int.mul_pos h hp'; omega
    · omega
  | false =>
    rw [if_neg (by simp)] at he ⊢
    have h1 : 0 <= (m : Int) * 2 ^ e.toNat := Int.mul_nonneg (by omega) (Int.le_of_lt hp)
    rw [he] at h1
    rcases Int.lt_or_le n 0 with h | h
    · have := Int.mul_neg_of_neg_of_pos h hp'; omega
    · omega
theorem HO (s : Bool) (m up : Nat) : signed s m up = sg s m * 2 ^ up := by
 unfold signed sg
 rw [Nat.shiftLeft_eq, Int.natCast_mul, pw]
 cases s <;> simp [Int.neg_mul]
theorem shift {S a i base : Int} (h : S * 2 ^ i.toNat = a * 2 ^ (-i).toNat) (hb : base <= i) : S * 2 ^ (i - base).toNat * 2 ^ base.toNat = a * 2 ^ (-base).toNat := by
 rw [Int.mul_assoc, <- Int.pow_add]
 by_cases h0 : 0 <= base
 ·rw [show (-base).toNat = 0 by omega, show (i - base).toNat + base.toNat = i.toNat by omega, h, show (-i).toNat = 0 by omega]
 ·rw [show base.toNat = 0 by omega, Nat.add_zero]
  by_cases h1 : 0 <= i
  ·rw [show (i - base).toNat = i.toNat + (-base).toNat by omega, Int.pow_add, <- Int.mul_assoc, h, show (-i).toNat = 0 by omega, Int.pow_zero, Int.mul_one]
  ·rw [show i.toNat = 0 by omega, Int.pow_zero, Int.mul_one] at h
   rw [h, Int.mul_assoc, <- Int.pow_add, show (-i).toNat + (i - base).toNat = (-base).toNat by omega]
theorem aJR (n : Int) : sJ (.number (decide (n < 0)) n.natAbs 0) n := ⟨_, _, _, rfl, by rw [aFZ]; rfl⟩
theorem aJ3 {d : Datum} {n : Int} (h : sJ d n) : sJ d.opposite (-n) := by
 obtain ⟨s, m, e, rfl, he⟩ := h
 refine ⟨!s, m, e, rfl, ?_⟩
 have : sg (!s) m = -sg s m := by cases s <;> simp [sg]
 rw [this, Int.neg_mul, Int.neg_mul, he]
theorem aDZ {d d' : Datum} {a b : Int} (h : sJ d a) (h' : sJ d' b) : ∃ r, d.sum d' = some r /\ sJ r (a + b) := by
 obtain ⟨s, m, i, rfl, h1⟩ := h
 obtain ⟨t, n, j, rfl, h2⟩ := h'
 refine ⟨_, rfl, _, _, _, rfl, ?_⟩
 rw [HO, HO]
 have k1 := shift h1 (show min i j <= i by omega)
 have k2 := shift h2 (show min i j <= j by omega)
 generalize min i j = base at k1 k2 ⊢
 have hs : ∀ x : Int, sg (if x = 0 then s && t else decide (x < 0)) x.natAbs = x := by
  intro x
  by_cases h0 : x = 0
  ·subst h0; simp [sg]
  ·rw [if_neg h0]; exact aFZ x
 rw [hs, Int.add_mul, k1, k2, <- Int.add_mul]
theorem aDV {d d' : Datum} {a b : Int} (h : sJ d a) (h' : sJ d' b) : ∃ r, d.product d' = some r /\ sJ r (a * b) := by
 obtain ⟨s, m, i, rfl, h1⟩ := h
 obtain ⟨t, n, j, rfl, h2⟩ := h'
 refine ⟨_, rfl, _, _, _, rfl, ?_⟩
 have hs : sg (s ^^ t) (m * n) = sg s m * sg t n := by
  unfold sg
  rw [Int.natCast_mul]
  cases s <;> cases t <;> simp [Int.neg_mul, Int.mul_neg]
 rw [hs]
 generalize sg s m = S at h1 ⊢
 generalize sg t n = T at h2 ⊢
 have hp : (2 : Int) ^ ((-i).toNat + (-j).toNat) ≠ 0 := Int.ne_of_gt (Int.pow_pos (by omega))
 apply Int.eq_of_mul_eq_mul_right hp
 have e1 : S * T * 2 ^ (i.toNat + j.toNat) = a * b * 2 ^ ((-i).toNat + (-j).toNat) := by
  rw [Int.pow_add, Int.pow_add]
  calc S * T * (2 ^ i.toNat * 2 ^ j.toNat) = (S * 2 ^ i.toNat) * (T * 2 ^ j.toNat) := by ac_rfl
   _ = (a * 2 ^ (-i).toNat) * (b * 2 ^ (-j).toNat) := by rw [h1, h2]
   _ = a * b * (2 ^ (-i).toNat * 2 ^ (-j).toNat) := by ac_rfl
 rw [Int.mul_assoc, <- Int.pow_add, show (i + j).toNat + ((-i).toNat + (-j).toNat) = (i.toNat + j.toNat) + (-(i + j)).toNat by omega, Int.pow_add, <- Int.mul_assoc, e1]
 ac_rfl
theorem aGV {d d' : Datum} {a b : Int} (h : sJ d a) (h' : sJ d' b) : d.order d' = some (compare a b) := by
 obtain ⟨s, m, i, rfl, h1⟩ := h
 obtain ⟨t, n, j, rfl, h2⟩ := h'
 show some (compare (signed s m (i - min i j).toNat) (signed t n (j - min i j).toNat)) = _
 rw [HO, HO]
 have k1 := shift h1 (show min i j <= i by omega)
 have k2 := shift h2 (show min i j <= j by omega)
 generalize min i j = base at k1 k2 ⊢
 generalize sg s m * 2 ^ (i - base).toNat = x at k1 ⊢
 generalize sg t n * 2 ^ (j - base).toNat = y at k2 ⊢
 have hp : (0 : Int) < 2 ^ base.toNat := Int.pow_pos (by omega)
 have hp' : (0 : Int) < 2 ^ (-base).toNat := Int.pow_pos (by omega)
 have hlt : x < y ↔ a < b := by
  constructor
  ·intro h
   have := Int.mul_lt_mul_of_pos_right h hp
   rw [k1, k2] at this
   exact Int.lt_of_mul_lt_mul_right this (Int.le_of_lt hp')
  ·intro h
   have := Int.mul_lt_mul_of_pos_right h hp'
   rw [<- k1, <- k2] at this
   exact Int.lt_of_mul_lt_mul_right this (Int.le_of_lt hp)
 have heq : x = y ↔ a = b := by
  constructor
  ·intro h
   rw [h, k2] at k1
   exact (Int.eq_of_mul_eq_mul_right (Int.ne_of_gt hp') k1).symm
  ·intro h
   rw [h, <- k2] at k1
   exact Int.eq_of_mul_eq_mul_right (Int.ne_of_gt hp) k1
 congr 1
 show compareOfLessAndEq x y = compareOfLessAndEq a b
 unfold compareOfLessAndEq
 simp only [hlt, heq]
theorem aGO {d : Datum} {n : Int} (h : sJ d n) : d.toInt .zero = some n := by
 obtain ⟨s, m, e, rfl, he⟩ := h
 show some (signed s (Toward.zero.cut s (m <<< e.toNat) (-e).toNat) 0) = _
 rw [Nat.shiftLeft_eq, aDx he, YV, HO, Int.pow_zero, Int.mul_one, aHm he]
theorem aDm {n : Int} (hn : n.natAbs < 2 ^ 53) : BP (FloatKind.f64.nearest n) n := IX (aJR n) hn
theorem aDz {x y : Nat} {a b : Int} (h : BP x a) (h' : BP y b) (hn : (a + b).natAbs < 2 ^ 53) : ∃ r, double.add x y = some r /\ BP r (a + b) := by
 obtain ⟨d, h1, h2⟩ := aDZ h h'
 exact ⟨_, by unfold Format.add; rw [h1]; rfl, IX h2 hn⟩
theorem aD6 {x y : Nat} {a b : Int} (h : BP x a) (h' : BP y b) (hn : (a - b).natAbs < 2 ^ 53) : ∃ r, double.sub x y = some r /\ BP r (a - b) := by
 obtain ⟨d, h1, h2⟩ := aDZ h (aJ3 h')
 exact ⟨_, by unfold Format.sub; rw [h1]; rfl, IX (by rw [Int.sub_eq_add_neg]; exact h2) hn⟩
theorem VQ {x y : Nat} {a b : Int} (h : BP x a) (h' : BP y b) (hn : (a * b).natAbs < 2 ^ 53) : ∃ r, double.mul x y = some r /\ BP r (a * b) := by
 obtain ⟨d, h1, h2⟩ := aDV h h'
 exact ⟨_, by unfold Format.mul; rw [h1]; rfl, IX h2 hn⟩
theorem aJA {x y : Nat} {a b : Int} (h : BP x a) (h' : BP y b) : double.order x y = some (compare a b) := aGV h h'
theorem aIp {x : Nat} {a : Int} (h : BP x a) : (double.read x).toInt .zero = some a := aGO h
def KW (z : Nat × Nat) (a b : Int) : Prop := BP z.1 a /\ BP z.2 b
theorem aKz {x y : Nat × Nat} {a b c d : Int} (h : KW x a b) (h' : KW y c d) (h1 : (a + c).natAbs < 2 ^ 53) (h2 : (b + d).natAbs < 2 ^ 53) : ∃ r, cSumBits .add .f64 x.1 x.2 y.1 y.2 = some r /\ KW r (a + c) (b + d) := by
 obtain ⟨u, u1, u2⟩ := aDz h.1 h'.1 h1
 obtain ⟨v, v1, v2⟩ := aDz h.2 h'.2 h2
 refine ⟨(u, v), ?_, u2, v2⟩
 have e1 : floatBits .add .f64 x.1 y.1 = some u := u1
 have e2 : floatBits .add .f64 x.2 y.2 = some v := v1
 unfold cSumBits
 rw [e1, e2]
 rfl
theorem aK7 {x y : Nat × Nat} {a b c d : Int} (h : KW x a b) (h' : KW y c d) (h1 : (a - c).natAbs < 2 ^ 53) (h2 : (b - d).natAbs < 2 ^ 53) : ∃ r, cSumBits .sub .f64 x.1 x.2 y.1 y.2 = some r /\ KW r (a - c) (b - d) := by
 obtain ⟨u, u1, u2⟩ := aD6 h.1 h'.1 h1
 obtain ⟨v, v1, v2⟩ := aD6 h.2 h'.2 h2
 refine ⟨(u, v), ?_, u2, v2⟩
 have e1 : floatBits .sub .f64 x.1 y.1 = some u := u1
 have e2 : floatBits .sub .f64 x.2 y.2 = some v := v1
 unfold cSumBits
 rw [e1, e2]
 rfl
theorem aKc {x y : Nat × Nat} {a b c d : Int} (h : KW x a b) (h' : KW y c d) (h1 : (a * c).natAbs < 2 ^ 52) (h2 : (b * d).natAbs < 2 ^ 52) (h3 : (a * d).natAbs < 2 ^ 52) (h4 : (b * c).natAbs < 2 ^ 52) :
  ∃ r, cMulBits x.1 x.2 y.1 y.2 = some r /\ KW r (a * c - b * d) (a * d + b * c) := by
 obtain ⟨p, p1, p2⟩ := VQ h.1 h'.1 (by omega)
 obtain ⟨q, q1, q2⟩ := VQ h.2 h'.2 (by omega)
 obtain ⟨u, u1, u2⟩ := aD6 p2 q2 (by omega)
 obtain ⟨s, s1, s2⟩ := VQ h.1 h'.2 (by omega)
 obtain ⟨t, t1, t2⟩ := VQ h.2 h'.1 (by omega)
 obtain ⟨v, v1, v2⟩ := aDz s2 t2 (by omega)
 refine ⟨(u, v), ?_, u2, v2⟩
 have e1 : floatBits .mul .f64 x.1 y.1 = some p := p1
 have e2 : floatBits .mul .f64 x.2 y.2 = some q := q1
 have e3 : floatBits .sub .f64 p q = some u := u1
 have e4 : floatBits .mul .f64 x.1 y.2 = some s := s1
 have e5 : floatBits .mul .f64 x.2 y.1 = some t := t1
 have e6 : floatBits .add .f64 s t = some v := v1
 unfold cMulBits
 simp only [e1, e2, e3, e4, e5, e6, Option.bind_some]
theorem TL {n : Int} (hn : n.natAbs < 2 ^ 53) : BP (floatOfInt .f64 n) n := aDm hn
theorem aI9 {x : Nat} {n : Int} (h : BP x n) (h1 : -9223372036854775808 <= n) (h2 : n <= 9223372036854775807) : floatToIntVal .f64 x .i64 = some n := by
  unfold floatToIntVal
  have : (FloatKind.f64.decode x).toInt .zero = some n := aIp h
  rw [this]
  simp only
  rw [if_pos ⟨by show IntKind.i64.min <= n; have : IntKind.i64.min = -9223372036854775808 := by decide
                 omega, by show n <= IntKind.i64.max; have : IntKind.i64.max = 9223372036854775807 := by decide
                           omega⟩]
theorem DG {x y : Nat} {a b : Int} (h : BP x a) (h' : BP y b) : FloatKind.f64.format.order x y = some (compare a b) := aJA h h'
end Go.Fl

namespace Go.Proofs.Ytbenbhdagmnapaa
open Go.Mach Go.RowKit
set_option maxRecDepth 100000
set_option linter.unusedVariables false
set_option linter.unusedSimpArgs false
def vK : Int -> List Int -> Int
 | acc, [] => acc
 | acc, d :: r => if ((decide (d < 1) || decide (4096 < d)) || decide (8192 < IntKind.i64.wrap (acc * d))) = true then 0 else vK (IntKind.i64.wrap (acc * d)) r
def szF (l : List Int) : Int := if (decide ((l.length : Int) < 1) || decide (4 < (l.length : Int))) = true then 0 else vK 1 l
theorem aJn : ∀ (l : List Int) (acc : Int), acc <= 8192 -> vK acc l <= 8192
  | [], acc, h => h
  | d :: r, acc, h => by
    unfold vK
    split
    · omega
    · rename_i hn
      simp only [Bool.or_eq_true, decide_eq_true_eq, not_or] at hn
      exact aJn r _ (by omega)
theorem TM (l : List Int) : szF l <= 8192 := by
 unfold szF
 split
 ·omega
 ·exact aJn l 1 (by omega)
theorem Y6 {a : List Int} {Q : Int -> Prop} (h : Q (szF a)) : oL a Q := by
  refine ⟨?_⟩
  unfold XA
  unfold szF at h
  by_cases e : (decide ((a.length : Int) < 1) || decide (4 < (a.length : Int))) = true
  · rw [if_pos e] at h ⊢; exact h
  · rw [if_neg e] at h ⊢
    simp only [Bool.or_eq_true, decide_eq_true_eq, not_or] at e
    obtain ⟨z, hzz⟩ : ∃ z, vK 1 a = z := ⟨_, rfl⟩
    rw [hzz] at h
    refine ⟨?_⟩
    refine Loop.inv (n := a.length) (fun m s => ∃ i : Nat, i + m = a.length /\ s.2 = (i : Int) /\ vK s.1 (a.drop i) = z) ⟨0, by omega, rfl, hzz⟩ ?_
    rintro m ⟨acc, i'⟩ X ⟨i, hi, he, hz⟩ hX
    simp only at he hz
    subst he
    unfold LC
    by_cases hlt : i < a.length
    · have hd : a.drop i = a.getD i 0 :: a.drop (i + 1) := by
        rw [List.drop_eq_getElem_cons hlt, List.getD_eq_getElem?_getD, List.getElem?_eq_getElem hlt]; rfl
      rw [hd] at hz
      rw [if_pos (by simpa using hlt)]
      refine ⟨by simp only []; omega, ?_⟩
      simp only [Int.toNat_natCast]
      unfold vK at hz
      split
      · rename_i hc
        rw [if_pos hc] at hz
        rw [<- hz] at h; exact h
      · rename_i hc
        rw [if_neg hc] at hz
        refine hX (m - 1) _ (by omega) ⟨i + 1, by omega, ?_, hz⟩
        show IntKind.i64.wrap ((i : Int) + 1) = _
        rw [aB _ (by omega) (by omega)]; rfl
    · have hil : i = a.length := by omega
      subst hil
      rw [if_neg (by simp)]
      rw [List.drop_length] at hz
      unfold vK at hz
      show Q acc
      rw [hz]; exact h
theorem aDp {a : List Int} {Q : Bool -> Prop} (h : Q (decide (0 < szF a))) : kJ a Q := by
 refine ⟨?_⟩
 unfold aA5
 exact Y6 h
open Go.Mach Go.RowKit Go.Fl
set_option maxRecDepth 100000
set_option linter.unusedVariables false
set_option linter.unusedSimpArgs false
def inP (a lo hi : Int) : Bool := decide (lo <= a) && decide (a <= hi)
theorem Z4 {a lo hi : Int} {Q : Bool -> Prop} (h : Q (inP a lo hi)) : z8 a lo hi Q := ⟨h⟩
theorem aGT {a lo hi : Int} (h1 : lo <= a) (h2 : a <= hi) : inP a lo hi = true := by
 unfold inP
 rw [decide_eq_true h1, decide_eq_true h2]
 rfl
theorem aMj {r c : Int} {Q : Nat × Nat -> Prop} (h1 : -1000 <= r /\ r <= 1000) (h2 : -1000 <= c /\ c <= 1000) (h : ∀ z, KW z r c -> Q z) : GL r c Q := by
 refine ⟨?_⟩
 unfold aCd
 refine Z4 ?_
 rw [aGT h1.1 h1.2]
 simp only [jn, Bool.not_true, Bool.false_eq_true, if_false]
 refine Z4 ?_
 rw [aGT h2.1 h2.2]
 simp only [Bool.not_true, Bool.false_eq_true, if_false]
 exact h _ ⟨TL (by omega), TL (by omega)⟩
theorem aNH : BP 13875379345695965184 (-1000) := by
 have : FloatKind.f64.nearest (-1000) = 13875379345695965184 := by decide +kernel
 rw [<- this]
 exact aDm (by decide)
theorem aNW : BP 4652007308841189376 1000 := by
 have : FloatKind.f64.nearest 1000 = 4652007308841189376 := by decide +kernel
 rw [<- this]
 exact aDm (by decide)
theorem aOJ (a b : Int) : ((some (compare a b) == some Ordering.gt) || (some (compare a b) == some Ordering.eq)) = decide (b <= a) := by
 show ((some (compareOfLessAndEq a b) == some Ordering.gt) || (some (compareOfLessAndEq a b) == some Ordering.eq)) = decide (b <= a)
 unfold compareOfLessAndEq
 by_cases h1 : a < b
 ·rw [if_pos h1, decide_eq_false (by omega)]; rfl
 ·rw [if_neg h1]
  by_cases h2 : a = b
  ·rw [if_pos h2, decide_eq_true (by omega)]; rfl
  ·rw [if_neg h2, decide_eq_true (by omega)]; rfl
theorem aNq (a b : Int) : ((some (compare a b) == some Ordering.lt) || (some (compare a b) == some Ordering.eq)) = decide (a <= b) := by
 show ((some (compareOfLessAndEq a b) == some Ordering.lt) || (some (compareOfLessAndEq a b) == some Ordering.eq)) = decide (a <= b)
 unfold compareOfLessAndEq
 by_cases h1 : a < b
 ·rw [if_pos h1, decide_eq_true (by omega)]; rfl
 ·rw [if_neg h1]
  by_cases h2 : a = b
  ·rw [if_pos h2, decide_eq_true (by omega)]; rfl
  ·rw [if_neg h2, decide_eq_false (by omega)]; rfl
theorem aO0 (a : Int) : (some (compare a a) == some Ordering.eq) = true := by
 show (some (compareOfLessAndEq a a) == some Ordering.eq) = true
 unfold compareOfLessAndEq
 rw [if_neg (by omega), if_pos rfl]
 rfl
theorem aKQ {x : Nat} {n : Int} {Q : Int × Bool -> Prop} (hw : BP x n) (h : Q (if inP n (-1000) 1000 = true then (n, true) else (0, false))) : EV x Q := by
 refine ⟨?_⟩
 unfold RS
 rw [DG hw aNH, DG hw aNW, aOJ, aNq]
 by_cases hi : inP n (-1000) 1000 = true
 ·rw [if_pos hi] at h
  unfold inP at hi
  rw [hi, if_neg (by simp)]
  simp only [Bool.and_eq_true, decide_eq_true_eq] at hi
  refine ⟨n, aI9 hw (by omega) (by omega), ?_⟩
  show Q (n, FloatKind.f64.format.order (floatOfInt .f64 n) x == some Ordering.eq)
  rw [DG (TL (by omega)) hw, aO0]
  exact h
 ·rw [if_neg hi] at h
  unfold inP at hi
  have hi2 : (decide (-1000 <= n) && decide (n <= 1000)) = false := by simpa using hi
  rw [hi2, if_pos (by rfl)]
  exact h
theorem aPZ {z : Nat × Nat} {r c : Int} {Q : Int × Int × Bool -> Prop} (hz : KW z r c) (h : Q (if (inP r (-1000) 1000 && inP c (-1000) 1000) = true then (r, c, true) else (0, 0, false))) : aDJ z Q := by
 refine ⟨?_⟩
 unfold aDA
 refine aKQ hz.1 (aKQ hz.2 ?_)
 cases h1 : inP r (-1000) 1000 <;> cases h2 : inP c (-1000) 1000 <;> rw [h1, h2] at h <;> exact h
open Go.Mach Go.RowKit Go.Fl
set_option maxRecDepth 100000
set_option linter.unusedVariables false
set_option linter.unusedSimpArgs false
def yG (rows cols cr cc : Int) (i j : Nat) : List (Int × Int × Int) :=
 if (inP (cr + i) 0 (rows - 1) && inP (cc + j) 0 (cols - 1)) = true then [((cr + i) * cols + (cc + j), (i : Int), (j : Int))] else []
def uG (rows cols cr cc : Int) (i k : Nat) : List (Int × Int × Int) := (List.range k).flatMap (yG rows cols cr cc i)
theorem aI8 (rows cols cr cc : Int) (i j : Nat) : (yG rows cols cr cc i j).length <= 1 := by
 unfold yG; split <;> simp
theorem aAu {rows cols cr cc : Int} {i k : Nat} : uG rows cols cr cc i (k + 1) = uG rows cols cr cc i k ++ yG rows cols cr cc i k := by
 unfold uG
 rw [List.range_succ, List.flatMap_append]
 simp
theorem T4 {rows cols cr cc : Int} {i : Nat} : ∀ k, (uG rows cols cr cc i k).length <= k
  | 0 => by simp [uG]
  | k + 1 => by
    rw [aAu, List.length_append]
    have := T4 (rows := rows) (cols := cols) (cr := cr) (cc := cc) (i := i) k
    have := aI8 rows cols cr cc i k
    omega
theorem aOL {z : Nat × Nat} {rows cols cr cc : Int} {i k : Nat} {acc : List (Int × Int × Int)} {K0 : (Nat × Nat) × List (Int × Int × Int) -> Prop} (hz : KW z cr cc) (hr : 0 <= rows /\ rows <= 1000) (hc : 0 <= cols /\ cols <= 1000) (hcr : -100000 <= cr /\ cr <= 100000) (hcc : -100000 <= cc /\ cc <= 100000) (hi : i <= 1000) (hk : k <= 1000) (ha : acc.length <= 1000000)
    (h : K0 ((z.1, z.2), acc ++ uG rows cols cr cc i k)) : nA (i : Int) (k : Int) rows cols K0 ((z.1, z.2), 0, acc) := by
  refine ⟨?_⟩
  have eg : ((z.1, z.2), (0 : Int), acc) = (fun j : Nat => ((z.1, z.2), (j : Int), acc ++ uG rows cols cr cc i j)) 0 := by simp [uG]
  rw [eg]
  refine Loop.range (B := gZ (i : Int) (k : Int) rows cols K0) (f := fun j : Nat => ((z.1, z.2), (j : Int), acc ++ uG rows cols cr cc i j)) k (fun _ => True) trivial ?_ ?_
  · intro j hj _ X hX
    have hX := hX trivial
    unfold gZ
    rw [if_pos (decide_eq_true (show (j : Int) < (k : Int) by omega))]
    dsimp only at hX ⊢
    refine aMj (by omega) (by omega) fun u hu => ?_
    obtain ⟨r, e, hrr⟩ := aKz hz hu (by omega) (by omega)
    refine ⟨r, e, aPZ (z := r) hrr ?_⟩
    have hlen := T4 (rows := rows) (cols := cols) (cr := cr) (cc := cc) (i := i) j
    have e1 : IntKind.i64.wrap (rows - 1) = rows - 1 := aB _ (by omega) (by omega)
    have e2 : IntKind.i64.wrap (cols - 1) = cols - 1 := aB _ (by omega) (by omega)
    rw [aAu, <- List.append_assoc] at hX
    by_cases hin : (inP (cr + i) 0 (rows - 1) && inP (cc + j) 0 (cols - 1)) = true
    · have ew : yG rows cols cr cc i j = [((cr + i) * cols + (cc + j), (i : Int), (j : Int))] := by unfold yG; rw [if_pos hin]
      simp only [Bool.and_eq_true] at hin
      have b1 : 0 <= cr + i /\ cr + i <= rows - 1 := by simpa [inP] using hin.1
      have b2 : 0 <= cc + j /\ cc + j <= cols - 1 := by simpa [inP] using hin.2
      have m1 : 0 <= (cr + i) * cols := Int.mul_nonneg b1.1 hc.1
      have m2 : (cr + i) * cols <= 1000 * 1000 := Int.mul_le_mul (by omega) hc.2 hc.1 (by omega)
      rw [aGT (by omega) (by omega), aGT (by omega) (by omega), if_pos (by rfl)]
      simp only [jn, if_true]
      refine Z4 ?_
      rw [e1, hin.1]
      simp only [if_true]
      refine Z4 ?_
      rw [e2, hin.2]
      simp only [if_true]
      refine ⟨?_, ⟨?_⟩⟩
      · simp only [List.length_append, List.length_singleton]; omega
      · unfold kK
        rw [aB ((j : Int) + 1) (by omega) (by omega), aB ((cr + i) * cols) (by omega) (by omega), aB ((cr + i) * cols + (cc + j)) (by omega) (by omega)]
        rw [ew] at hX
        exact hX
    · have ew : yG rows cols cr cc i j = [] := by unfold yG; rw [if_neg hin]
      rw [ew, List.append_nil] at hX
      have skip : iY (j : Int) (fun (y28 : Int) => X ((z.1, z.2), y28, acc ++ uG rows cols cr cc i j)) := by
        refine ⟨?_⟩
        unfold kK
        rw [aB ((j : Int) + 1) (by omega) (by omega)]
        exact hX
      by_cases hb : (inP (cr + i) (-1000) 1000 && inP (cc + j) (-1000) 1000) = true
      · rw [if_pos hb]
        simp only [jn, if_true]
        refine Z4 ?_
        rw [e1]
        cases h1 : inP (cr + i) 0 (rows - 1) with
        | false => simp only [Bool.false_eq_true, if_false]; exact skip
        | true =>
          simp only [if_true]
          refine Z4 ?_
          rw [e2]
          cases h2 : inP (cc + j) 0 (cols - 1) with
          | false => simp only [Bool.false_eq_true, if_false]; exact skip
          | true => rw [h1, h2] at hin; exact absurd rfl hin
      · rw [if_neg hb]
        simp only [jn, Bool.false_eq_true, if_false]
        exact skip
  · intro _ X
    unfold gZ
    rw [if_neg (by simp)]
    exact h
def S8 (rows cols cr cc : Int) (k : Nat) (m : Nat) : List (Int × Int × Int) := (List.range m).flatMap fun i => uG rows cols cr cc i k
theorem aFq {rows cols cr cc : Int} {k m : Nat} : S8 rows cols cr cc k (m + 1) = S8 rows cols cr cc k m ++ uG rows cols cr cc m k := by
 unfold S8
 rw [List.range_succ, List.flatMap_append]
 simp
theorem aDv {rows cols cr cc : Int} {k : Nat} : ∀ m, (S8 rows cols cr cc k m).length <= m * k
  | 0 => by simp [S8]
  | m + 1 => by
    rw [aFq, List.length_append, Nat.succ_mul]
    have := aDv (rows := rows) (cols := cols) (cr := cr) (cc := cc) (k := k) m
    have := T4 (rows := rows) (cols := cols) (cr := cr) (cc := cc) (i := m) k
    omega
theorem aLy {rows cols stride pad r c : Int} {k : Nat} {Q : List (Int × Int × Int) -> Prop} (hr : 0 <= rows /\ rows <= 1000) (hc : 0 <= cols /\ cols <= 1000) (hs : 0 <= stride /\ stride <= 100) (hp : 0 <= pad /\ pad <= 100) (h1 : 0 <= r /\ r <= 900) (h2 : 0 <= c /\ c <= 900) (hk : k <= 900)
  (h : Q (S8 rows cols (stride * r - pad) (stride * c - pad) k k)) : sG (rows, cols, (k : Int), stride, pad) r c Q := by
 have m1 : 0 <= stride * r := Int.mul_nonneg hs.1 h1.1
 have m2 : stride * r <= 100 * 900 := Int.mul_le_mul hs.2 h1.2 h1.1 (by omega)
 have m3 : 0 <= stride * c := Int.mul_nonneg hs.1 h2.1
 have m4 : stride * c <= 100 * 900 := Int.mul_le_mul hs.2 h2.2 h2.1 (by omega)
 refine ⟨?_⟩
 unfold zS
 dsimp only
 refine aMj (by show -1000 <= stride /\ stride <= 1000; omega) (by omega) fun u hu => ?_
 refine aMj (by omega) (by omega) fun v hv => ?_
 obtain ⟨p, e1, hpw⟩ := aKc hu hv (by omega) (by rw [Int.zero_mul]; decide) (by omega) (by rw [Int.zero_mul]; decide)
 refine ⟨p, e1, ?_⟩
 refine aMj (by show -1000 <= pad /\ pad <= 1000; omega) (by show -1000 <= pad /\ pad <= 1000; omega) fun q hq => ?_
 rw [Int.zero_mul, Int.zero_mul, Int.sub_zero, Int.add_zero] at hpw
 obtain ⟨z, e2, hz⟩ := aK7 hpw hq (by omega) (by omega)
 refine ⟨z, e2, ⟨?_⟩⟩
 show Go.Mach.Loop (dO (k : Int) rows cols (k : Int) (fun y => Q y)) ((z.1, z.2), 0, [])
 have eg : ((z.1, z.2), (0 : Int), ([] : List (Int × Int × Int))) = (fun i : Nat => ((z.1, z.2), (i : Int), S8 rows cols (stride * r - pad) (stride * c - pad) k i)) 0 := by simp [S8]
 rw [eg]
 refine Loop.range (B := dO (k : Int) rows cols (k : Int) (fun y => Q y)) (f := fun i : Nat => ((z.1, z.2), (i : Int), S8 rows cols (stride * r - pad) (stride * c - pad) k i)) k (fun _ => True) trivial ?_ ?_
 ·intro i hi _ X hX
  have hX := hX trivial
  unfold dO
  rw [if_pos (decide_eq_true (show (i : Int) < (k : Int) by omega))]
  dsimp only at hX ⊢
  have hl := aDv (rows := rows) (cols := cols) (cr := stride * r - pad) (cc := stride * c - pad) (k := k) i
  have hm : i * k <= 900 * 900 := Nat.mul_le_mul (by omega) hk
  refine aOL (z := z) hz hr hc (by omega) (by omega) (by omega) (by omega) (by omega) ?_
  rw [aB ((i : Int) + 1) (by omega) (by omega)]
  rw [aFq] at hX
  exact hX
 ·intro _ X
  unfold dO
  rw [if_neg (by simp)]
  exact h
open Go.Mach Go.RowKit Go.Fl
set_option maxRecDepth 100000
set_option linter.unusedVariables false
set_option linter.unusedSimpArgs false
theorem aL6 {b c : Bool} {Q K : Bool -> Prop} {G : (Bool -> Prop) -> Prop} (hG : ∀ P : Bool -> Prop, P c -> G P) (hK : ∀ v, v = (b || c) -> K v) (hQ : Q = K) : jn (fun v => Q v) (fun J => if b = true then J true else G J) := by
 subst hQ
 cases b with
 | true => exact hK _ rfl
 | false => show (if false = true then Q true else G (fun v => Q v)); rw [if_neg (by simp)]; exact hG _ (hK _ (by simp))
theorem aKA {a lo hi : Int} {Q : Bool -> Prop} (h : Q (inP a lo hi)) : G9 a lo hi Q := ⟨h⟩
def xQ (n k s p : Int) : Bool := (((!inP n 1 16 || !inP k 1 5) || !inP s 1 4) || !inP p 0 (k - 1)) || decide (n + 2 * p < k)
def bQ (n k s p : Int) : Int := if xQ n k s p = true then 0 else (n + 2 * p - k) / s + 1
theorem aAx {n k s p : Int} {Q : Int -> Prop} (h : Q (bQ n k s p)) : mZ n k s p Q := by
  refine ⟨?_⟩
  unfold aA1
  refine aKA ?_
  refine aL6 (b := !inP n 1 16) (c := !inP k 1 5) (fun P hp => aKA hp) (fun v2 e2 => ?_) rfl
  refine aL6 (c := !inP s 1 4) (fun P hp => aKA hp) (fun v5 e5 => ?_) rfl
  refine aL6 (c := !inP p 0 (IntKind.i64.wrap (k - 1))) (fun P hp => aKA hp) (fun v8 e8 => ?_) rfl
  have e8' : v8 = (((!inP n 1 16 || !inP k 1 5) || !inP s 1 4) || !inP p 0 (IntKind.i64.wrap (k - 1))) := by rw [e8, e5, e2]
  by_cases hc : ((!inP n 1 16 || !inP k 1 5) || !inP s 1 4) = true
  · have hv : v8 = true := by rw [e8', hc]; rfl
    have hb : xQ n k s p = true := by unfold xQ; rw [hc]; rfl
    unfold bQ at h
    rw [if_pos hb] at h
    rw [hv, if_pos (by rfl)]
    exact h
  · have hc' : ((!inP n 1 16 || !inP k 1 5) || !inP s 1 4) = false := by simpa using hc
    simp only [Bool.or_eq_false_iff, Bool.not_eq_false'] at hc'
    have b1 : 1 <= n /\ n <= 16 := by simpa [inP] using hc'.1.1
    have b2 : 1 <= k /\ k <= 5 := by simpa [inP] using hc'.1.2
    have b3 : 1 <= s /\ s <= 4 := by simpa [inP] using hc'.2
    rw [aB (k - 1) (by omega) (by omega)] at e8'
    cases hv : v8 with
    | true =>
      have hb : xQ n k s p = true := by unfold xQ; rw [<- e8', hv]; rfl
      unfold bQ at h
      rw [if_pos hb] at h
      rw [if_pos (by rfl)]
      exact h
    | false =>
      have hp : inP p 0 (k - 1) = true := by
        rw [hv] at e8'
        have := e8'.symm
        simp only [Bool.or_eq_false_iff, Bool.not_eq_false'] at this
        exact this.2
      have b4 : 0 <= p /\ p <= k - 1 := by simpa [inP] using hp
      rw [aB (2 * p) (by omega) (by omega), aB (n + 2 * p) (by omega) (by omega)]
      have hbe : xQ n k s p = decide (n + 2 * p < k) := by unfold xQ; rw [<- e8', hv, Bool.false_or]
      unfold bQ at h
      rw [hbe] at h
      rw [Bool.false_or]
      by_cases hl : decide (n + 2 * p < k) = true
      · rw [if_pos hl] at h ⊢; exact h
      · rw [if_neg hl] at h ⊢
        have hl2 : ¬ (n + 2 * p < k) := by simpa using hl
        have d0 : 0 <= (n + 2 * p - k) / s := Int.ediv_nonneg (by omega) (by omega)
        have d1 : (n + 2 * p - k) / s <= n + 2 * p - k := Int.ediv_le_self _ (by omega)
        refine ⟨by omega, ?_⟩
        rw [aB (n + 2 * p - k) (by omega) (by omega), Int.tdiv_eq_ediv_of_nonneg (by omega), aB ((n + 2 * p - k) / s) (by omega) (by omega), aB _ (by omega) (by omega)]
        exact h
theorem JU {n k s p : Int} (h : xQ n k s p = false) : (1 <= n /\ n <= 16) /\ (1 <= k /\ k <= 5) /\ (1 <= s /\ s <= 4) /\ (0 <= p /\ p <= k - 1) /\ k <= n + 2 * p := by
 unfold xQ at h
 simp only [Bool.or_eq_false_iff, Bool.not_eq_false', decide_eq_false_iff_not] at h
 obtain ⟨⟨⟨⟨h1, h2⟩, h3⟩, h4⟩, h5⟩ := h
 exact ⟨by simpa [inP] using h1, by simpa [inP] using h2, by simpa [inP] using h3, by simpa [inP] using h4, by omega⟩
theorem CH (n k s p : Int) : 0 <= bQ n k s p /\ bQ n k s p <= 25 /\ (1 <= bQ n k s p -> xQ n k s p = false) := by
  unfold bQ
  cases hb : xQ n k s p with
  | true => rw [if_pos rfl]; exact ⟨by omega, by omega, fun h => by omega⟩
  | false =>
    rw [if_neg (by simp)]
    obtain ⟨b1, b2, b3, b4, b5⟩ := JU hb
    have d0 : 0 <= (n + 2 * p - k) / s := Int.ediv_nonneg (by omega) (by omega)
    have d1 : (n + 2 * p - k) / s <= n + 2 * p - k := Int.ediv_le_self _ (by omega)
    exact ⟨by omega, by omega, fun _ => rfl⟩
def aJv (rows cols r c k s p : Int) : Bool := ((decide (bQ rows k s p < 1) || decide (bQ cols k s p < 1)) || !inP r 0 (bQ rows k s p - 1)) || !inP c 0 (bQ cols k s p - 1)
def i3 (rows cols r c k s p : Int) : List (Int × Int × Int) := if aJv rows cols r c k s p = true then [] else S8 rows cols (s * r - p) (s * c - p) k.toNat k.toNat
theorem aCj {rows cols r c k s p : Int} {Q : List (Int × Int × Int) -> Prop} (h : Q (i3 rows cols r c k s p)) : u7 rows cols r c k s p Q := by
  refine ⟨?_⟩
  unfold NF
  refine ⟨?_⟩
  unfold D3
  refine aAx (aAx ?_)
  obtain ⟨m1, m2, m3⟩ := CH rows k s p
  obtain ⟨n1, n2, n3⟩ := CH cols k s p
  unfold i3 aJv at h
  dsimp only
  rw [aB (bQ rows k s p - 1) (by omega) (by omega), aB (bQ cols k s p - 1) (by omega) (by omega)]
  refine aL6 (b := decide (bQ rows k s p < 1) || decide (bQ cols k s p < 1)) (c := !inP r 0 (bQ rows k s p - 1)) (fun P hp => Z4 hp) (fun v2 e2 => ?_) rfl
  refine aL6 (c := !inP c 0 (bQ cols k s p - 1)) (fun P hp => Z4 hp) (fun v5 e5 => ?_) rfl
  rw [<- e2, <- e5] at h
  cases hv : v5 with
  | true => rw [hv, if_pos rfl] at h; rw [if_pos (by rfl)]; exact h
  | false =>
    rw [hv, if_neg (by simp)] at h
    rw [if_neg (by simp)]
    rw [hv, e2] at e5
    have := e5.symm
    simp only [Bool.or_eq_false_iff, Bool.not_eq_false', decide_eq_false_iff_not] at this
    obtain ⟨⟨⟨g1, g2⟩, g3⟩, g4⟩ := this
    obtain ⟨b1, b2, b3, b4, b5⟩ := JU (m3 (by omega))
    obtain ⟨c1, _⟩ := JU (n3 (by omega))
    have r1 : 0 <= r /\ r <= bQ rows k s p - 1 := by simpa [inP] using g3
    have r2 : 0 <= c /\ c <= bQ cols k s p - 1 := by simpa [inP] using g4
    have hk : ((k.toNat : Nat) : Int) = k := by omega
    have := aLy (rows := rows) (cols := cols) (stride := s) (pad := p) (r := r) (c := c) (k := k.toNat) (Q := fun r8 => Q r8) (by omega) (by omega) (by omega) (by omega) (by omega) (by omega) (by omega) h
    rw [hk] at this
    exact this
end Go.Proofs.Ytbenbhdagmnapaa
namespace Go.Proofs.Ytbenbhdagmnapaa
end Go.Proofs.Ytbenbhdagmnapaa
namespace Go.Proofs.Ytbenbhdagmnapaa
end Go.Proofs.Ytbenbhdagmnapaa
namespace Go.Proofs.Ytbenbhdagmnapaa
end Go.Proofs.Ytbenbhdagmnapaa

namespace Go.Proofs.Ytbenbhdagmnapaa
open Go.Mach Go.RowKit
set_option maxRecDepth 100000
set_option linter.unusedVariables false
set_option linter.unusedSimpArgs false
abbrev T3 := List Int × Int × List Int
abbrev Z3 : T3 := ([], 0, [])
theorem HE {b c : Bool} {Q K : Bool -> Prop} {G : (Bool -> Prop) -> Prop} (hG : (b = true -> ∀ P : Bool -> Prop, P c -> G P)) (hK : ∀ v, v = (b && c) -> K v) (hQ : Q = K) : jn (fun v => Q v) (fun J => if b = true then G J else J false) := by
 subst hQ
 cases b with
 | true => show (if true = true then G (fun v => Q v) else Q false); rw [if_pos rfl]; exact hG rfl _ (hK _ (by simp))
 | false => exact hK _ rfl
theorem Z6 {b c : Bool} {Q K : Bool -> Prop} {G : (Bool -> Prop) -> Prop} (hG : b = false -> ∀ P : Bool -> Prop, P c -> G P) (hK : ∀ v, v = (b || c) -> K v) (hQ : Q = K) : jn (fun v => Q v) (fun J => if b = true then J true else G J) := by
 subst hQ
 cases b with
 | true => exact hK _ rfl
 | false => show (if false = true then Q true else G (fun v => Q v)); rw [if_neg (by simp)]; exact hG rfl _ (hK _ (by simp))
theorem JD (a b A B : Int) (h1 : -A <= a) (h2 : a <= A) (h3 : 0 <= b) (h4 : b <= B) (hA : 0 <= A) : -(A * B) <= a * b /\ a * b <= A * B := by
 have e1 : a * b <= A * b := Int.mul_le_mul_of_nonneg_right h2 h3
 have e2 : A * b <= A * B := Int.mul_le_mul_of_nonneg_left h4 hA
 have e3 : -A * b <= a * b := Int.mul_le_mul_of_nonneg_right h1 h3
 have e4 : -A * b = -(A * b) := Int.neg_mul A b
 omega
theorem aMe {a b : Int} (h : -128 <= a /\ a <= 127) (k : -128 <= b /\ b <= 127) : -16384 <= a * b /\ a * b <= 16384 := by
 rcases Int.le_total 0 b with hb | hb
 ·have := JD a b 128 128 (by omega) (by omega) hb (by omega) (by omega)
  omega
 ·have := JD a (-b) 128 128 (by omega) (by omega) (by omega) (by omega) (by omega)
  rw [Int.mul_neg] at this
  omega
def All8 (l : List Int) : Prop := ∀ y ∈ l, -128 <= y /\ y <= 127
theorem All8.at_ {l : List Int} (h : All8 l) (i : Nat) : -128 <= l.getD i 0 /\ l.getD i 0 <= 127 := by
 rw [List.getD_eq_getElem?_getD]
 cases hq : l[i]? with
 | none => simp
 | some y => exact h y (List.mem_of_getElem? hq)
theorem ix {r n i : Nat} (h : r * n + i <= 100000000) : IntKind.i64.wrap (IntKind.i64.wrap ((r : Int) * (n : Int)) + (i : Int)) = ((r * n + i : Nat) : Int) := by
 have e : (r : Int) * (n : Int) = ((r * n : Nat) : Int) := by rw [Int.natCast_mul]
 have h1 : r * n <= 100000000 := by omega
 rw [e, aB ((r * n : Nat) : Int) (by omega) (by omega), aB _ (by omega) (by omega), Int.natCast_add]
theorem aGu {r n : Nat} (h : r * n <= 100000000) : IntKind.i64.wrap ((r : Int) * (n : Int)) = ((r * n : Nat) : Int) := by
 have e : (r : Int) * (n : Int) = ((r * n : Nat) : Int) := by rw [Int.natCast_mul]
 rw [e, aB ((r * n : Nat) : Int) (by omega) (by omega)]
theorem aIc {l : List Int} {v : Int} {Q : Bool -> Prop} (hl : l.length <= 1000000000000) (h : Q (decide (v ∈ l))) : jE l v Q := by
 refine ⟨?_⟩
 unfold nR
 refine ⟨?_⟩
 unfold qQ
 refine ⟨?_⟩
 refine Loop.range (B := dT l v (l.length : Int) (fun _ => Q (decide ((0 : Int) <= -1))) (fun y => Q (decide (0 <= y)))) (f := fun i : Nat => (i : Int)) l.length (fun i => ∀ j, j < i -> v ≠ l.getD j 0) (fun j hj => absurd hj (by omega)) ?_ ?_
 ·intro i hi hI X hX
  unfold dT
  rw [if_pos (by simpa using hi)]
  refine ⟨by omega, ?_⟩
  simp only [Int.toNat_natCast]
  by_cases hv : v = l.getD i 0
  ·rw [if_pos (by simpa using hv)]
   have : decide (v ∈ l) = true := by rw [decide_eq_true_eq, hv]; exact V1 hi
   rw [this] at h
   rw [decide_eq_true (by omega : (0 : Int) <= (i : Int))]
   exact h
  ·rw [if_neg (by simpa using hv), aB _ (by omega) (by omega)]
   refine hX fun j hj => ?_
   by_cases hji : j = i
   ·subst hji; exact hv
   ·exact hI j (by omega)
 ·intro hI X
  unfold dT
  rw [if_neg (by simp)]
  have : decide (v ∈ l) = false := by
   simp only [decide_eq_false_iff_not]
   intro hm
   obtain ⟨j, hj, e⟩ := List.getElem_of_mem hm
   apply hI j hj
   rw [List.getD_eq_getElem?_getD, List.getElem?_eq_getElem hj, <- e]; rfl
  rw [this] at h
  exact h
def aEk (a b : Int) : Bool := (decide ((IntKind.i64.wrap (0 - b)) <= a)) && (decide (a <= b))
theorem aLL {a b : Int} {Q : Bool -> Prop} (h : Q (aEk a b)) : BX a b Q := ⟨h⟩
def fC (a : T3) : Bool := ((decide (0 < szF a.1) && ((a.2.2.length : Int) == szF a.1)) && aEk a.2.1 64) && !decide (-128 ∈ a.2.2)
theorem rY {a : T3} {Q : Bool -> Prop} (h : Q (fC a)) : bR a Q := by
 refine ⟨?_⟩
 unfold U3
 refine aDp ?_
 refine HE (b := decide (0 < szF a.1)) (c := (a.2.2.length : Int) == szF a.1) (fun _ P hp => Y6 hp) (fun v2 e2 => ?_) rfl
 refine HE (c := aEk a.2.1 64) (fun _ P hp => aLL hp) (fun v3 e3 => ?_) rfl
 refine HE (c := !decide (-128 ∈ a.2.2)) (fun h3 P hp => aIc (Q := fun r => P (!r)) ?_ hp) (fun v4 e4 => ?_) rfl
 ·rw [e3, e2] at h3
  simp only [Bool.and_eq_true, beq_iff_eq] at h3
  have := TM a.1
  omega
 ·rw [e4, e3, e2]
  exact h
theorem aHa {a : Int} {b : Int} (h1 : 0 <= b) (h2 : b <= 1000) : aEk a b = true ↔ -b <= a /\ a <= b := by
 unfold aEk
 rw [aB (0 - b) (by omega) (by omega)]
 simp only [Bool.and_eq_true, decide_eq_true_eq]
 omega
theorem jG {a : T3} : fC a = true ↔ 0 < szF a.1 /\ (a.2.2.length : Int) = szF a.1 /\ (-64 <= a.2.1 /\ a.2.1 <= 64) /\ -128 ∉ a.2.2 := by
 unfold fC
 rw [Bool.and_eq_true, Bool.and_eq_true, Bool.and_eq_true, aHa (by omega) (by omega)]
 simp only [decide_eq_true_eq, beq_iff_eq, Bool.not_eq_true', decide_eq_false_iff_not]
 constructor
 ·rintro ⟨⟨⟨h1, h2⟩, h3⟩, h4⟩; exact ⟨h1, h2, h3, h4⟩
 ·rintro ⟨h1, h2, h3, h4⟩; exact ⟨⟨⟨h1, h2⟩, h3⟩, h4⟩
def kL : List Int -> Int
 | [] => 1
 | d :: r => d * kL r
theorem aHo : ∀ (l : List Int) (acc : Int), 1 <= acc -> acc <= 8192 -> 0 < vK acc l -> (∀ d ∈ l, 1 <= d /\ d <= 4096) /\ vK acc l = acc * kL l
  | [], acc, h, _, _ => ⟨by simp, by simp [vK, kL]⟩
  | d :: r, acc, h, h2, h3 => by
    unfold vK at h3 ⊢
    split at h3
    · omega
    · rename_i hn
      rw [if_neg hn]
      simp only [Bool.or_eq_true, decide_eq_true_eq, not_or] at hn
      have hb := JD acc d 8192 4096 (by omega) (by omega) (by omega) (by omega) (by omega)
      have hw : IntKind.i64.wrap (acc * d) = acc * d := aB _ (by omega) (by omega)
      rw [hw] at h3 hn ⊢
      have hp : 1 <= acc * d := by
        have := Int.mul_pos (show 0 < acc by omega) (show 0 < d by omega)
        omega
      obtain ⟨g1, g2⟩ := aHo r (acc * d) hp (by omega) h3
      refine ⟨fun x hx => ?_, by rw [g2]; show _ = acc * (d * kL r); rw [Int.mul_assoc]⟩
      rcases List.mem_cons.1 hx with e | e
      · subst e; omega
      · exact g1 x e
theorem U2 {l : List Int} (h : 0 < szF l) : (1 <= l.length /\ l.length <= 4) /\ (∀ d ∈ l, 1 <= d /\ d <= 4096) /\ szF l = kL l /\ kL l <= 8192 := by
 have hle := TM l
 unfold szF at h hle ⊢
 split at h
 ·omega
 ·rename_i hn
  rw [if_neg hn] at hle ⊢
  simp only [Bool.or_eq_true, decide_eq_true_eq, not_or] at hn
  obtain ⟨g1, g2⟩ := aHo l 1 (by omega) (by omega) h
  rw [Int.one_mul] at g2
  exact ⟨by omega, g1, g2, by omega⟩
theorem aFm : ∀ {l : List Int}, (∀ d ∈ l, 1 <= d) -> 1 <= kL l
  | [], _ => by simp [kL]
  | d :: r, h => by
    have h1 := h d (by simp)
    have h2 := aFm (l := r) fun x hx => h x (by simp [hx])
    have := Int.mul_pos (show 0 < d by omega) (show 0 < kL r by omega)
    unfold kL; omega
theorem aKC : ∀ (l : List Int) (acc : Int), 1 <= acc -> (∀ d ∈ l, 1 <= d /\ d <= 4096) -> acc * kL l <= 8192 -> vK acc l = acc * kL l
  | [], acc, h, _, _ => by simp [vK, kL]
  | d :: r, acc, h, hd, h2 => by
    have h1 := hd d (by simp)
    have hr : ∀ x ∈ r, 1 <= x /\ x <= 4096 := fun x hx => hd x (by simp [hx])
    have hp := aFm (l := r) fun x hx => (hr x hx).1
    have e : acc * kL (d :: r) = acc * d * kL r := by show acc * (d * kL r) = _; rw [Int.mul_assoc]
    rw [e] at h2 ⊢
    have h0 : 1 <= acc * d := by
      have := Int.mul_pos (show 0 < acc by omega) (show 0 < d by omega)
      omega
    have h3 : acc * d <= acc * d * kL r := by
      have := Int.mul_le_mul_of_nonneg_left (c := acc * d) hp (by omega)
      omega
    have hw : IntKind.i64.wrap (acc * d) = acc * d := aB _ (by omega) (by omega)
    unfold vK
    rw [hw, if_neg (by simp; omega)]
    exact aKC r (acc * d) h0 hr h2
theorem aIt {l : List Int} (h1 : 1 <= l.length /\ l.length <= 4) (hd : ∀ d ∈ l, 1 <= d /\ d <= 4096) (h2 : kL l <= 8192) : szF l = kL l := by
 unfold szF
 rw [if_neg (by simp; omega), aKC l 1 (by omega) hd (by omega), Int.one_mul]
theorem UM (l : List Int) : 0 <= szF l := by
  rcases Int.lt_or_le (szF l) 0 with h | h
  · exfalso
    have key : ∀ (l : List Int) (acc : Int), 1 <= acc -> acc <= 8192 -> 0 <= vK acc l := by
      intro l
      induction l with
      | nil => intro acc h _; unfold vK; omega
      | cons d r ih =>
        intro acc h h2
        unfold vK
        split
        · omega
        · rename_i hn
          simp only [Bool.or_eq_true, decide_eq_true_eq, not_or] at hn
          have hb := JD acc d 8192 4096 (by omega) (by omega) (by omega) (by omega) (by omega)
          have hw : IntKind.i64.wrap (acc * d) = acc * d := aB _ (by omega) (by omega)
          rw [hw] at hn ⊢
          have := Int.mul_pos (show 0 < acc by omega) (show 0 < d by omega)
          exact ih _ (by omega) (by omega)
    have := key l 1 (by omega) (by omega)
    unfold szF at h
    split at h <;> omega
  · exact h
theorem aPA {a b c d : Int} (h : 0 < szF [a, b, c, d]) : ∃ n m p q : Nat, a = n /\ b = m /\ c = p /\ d = q /\ 1 <= n /\ 1 <= m /\ 1 <= p /\ 1 <= q /\ n * m * p * q <= 8192 /\ szF [a, b, c, d] = ((n * m * p * q : Nat) : Int) := by
 obtain ⟨_, h2, h3, h4⟩ := U2 h
 have ha := h2 a (by simp)
 have hb := h2 b (by simp)
 have hc := h2 c (by simp)
 have hd := h2 d (by simp)
 obtain ⟨n, rfl⟩ := Int.eq_ofNat_of_zero_le (show 0 <= a by omega)
 obtain ⟨m, rfl⟩ := Int.eq_ofNat_of_zero_le (show 0 <= b by omega)
 obtain ⟨p, rfl⟩ := Int.eq_ofNat_of_zero_le (show 0 <= c by omega)
 obtain ⟨q, rfl⟩ := Int.eq_ofNat_of_zero_le (show 0 <= d by omega)
 have e : kL [(n : Int), m, p, q] = ((n * m * p * q : Nat) : Int) := by
  simp only [kL, Int.natCast_mul, Int.mul_one, Int.mul_assoc]
 rw [h3]
 rw [e] at h4 ⊢
 exact ⟨n, m, p, q, rfl, rfl, rfl, rfl, by omega, by omega, by omega, by omega, by omega, rfl⟩
theorem aMb {n m p q : Nat} (h1 : 1 <= n /\ n <= 4096) (h2 : 1 <= m /\ m <= 4096) (h3 : 1 <= p /\ p <= 4096) (h4 : 1 <= q /\ q <= 4096) (h : n * m * p * q <= 8192) : szF [(n : Int), m, p, q] = ((n * m * p * q : Nat) : Int) := by
 have e : kL [(n : Int), m, p, q] = ((n * m * p * q : Nat) : Int) := by
  simp only [kL, Int.natCast_mul, Int.mul_one, Int.mul_assoc]
 rw [aIt (by simp) _ (by rw [e]; omega), e]
 intro d hd
 simp only [List.mem_cons, List.not_mem_nil, or_false] at hd
 omega
theorem aPB {c : Int} (h : 0 < szF [c]) : 1 <= c /\ c <= 4096 /\ szF [c] = c := by
 obtain ⟨_, h2, h3, h4⟩ := U2 h
 have := h2 c (by simp)
 have e : kL [c] = c := by simp [kL]
 rw [h3, e]
 omega
theorem aMc {c : Int} (h1 : 1 <= c) (h2 : c <= 4096) : szF [c] = c := by
 have e : kL [c] = c := by simp [kL]
 rw [aIt (by simp) _ (by rw [e]; omega), e]
 intro d hd
 simp only [List.mem_cons, List.not_mem_nil, or_false] at hd
 omega
def M1 (a : Int) : Int := aO (-4611686018427387904) (bF a 4611686018427387904)
theorem aKI {a b c : Int} {Q : Int -> Prop} (h : Q (aO b (bF a c))) : gX a b c Q := ⟨h⟩
theorem aG6 {a b c : Int} {Q : Int -> Prop} (h : Q (aO b (bF a c))) : eX a b c Q := ⟨h⟩
theorem aKN {a : Int} {Q : Int -> Prop} (h : Q (M1 a)) : s4 a Q := ⟨⟨h⟩⟩
theorem aNQ {a : Int} (h1 : -4611686018427387904 <= a) (h2 : a <= 4611686018427387904) : M1 a = a := by
 unfold M1 aO bF
 split <;> split <;> omega
def alF (a b c : Int) : Int :=
 let r1 := M1 a
 let by_ := aO (-1000) (bF b 1000) - aO (-1000) (bF c 1000)
 if by_ < 0 then r1.fdiv (2 ^ (bF (0 - by_) 62).toNat)
 else if 20 < by_ then (if 0 < r1 then 1048576 else if r1 < 0 then -1048576 else 0)
 else aO (-1048576) (bF (aO (-1048576) (bF r1 1048576) * 2 ^ by_.toNat) 1048576)
theorem aC1 (a lo hi : Int) (h : lo <= hi) : lo <= aO lo (bF a hi) /\ aO lo (bF a hi) <= hi := by
 unfold aO bF
 split <;> split <;> omega
theorem aKK (a b : Nat) (h : a <= b) : (1 : Int) <= 2 ^ a /\ (2 : Int) ^ a <= 2 ^ b := by
 have h1 : (2 : Nat) ^ a <= 2 ^ b := Nat.pow_le_pow_right (by omega) h
 have h2 : 0 < (2 : Nat) ^ a := Nat.pow_pos (by omega)
 have e : ∀ n : Nat, ((2 ^ n : Nat) : Int) = 2 ^ n := fun n => by rw [Int.natCast_pow]; rfl
 rw [<- e, <- e]
 omega
theorem aLu {a L U p : Int} (hp : 1 <= p) (hL : L <= 0) (hU : 0 <= U) (h1 : L <= a) (h2 : a <= U) : L <= a.fdiv p /\ a.fdiv p <= U := by
 rw [Int.fdiv_eq_ediv_of_nonneg _ (by omega)]
 constructor
 ·rw [Int.le_ediv_iff_mul_le (by omega)]
  have : L * p <= L * 1 := Int.mul_le_mul_of_nonpos_left hL hp
  omega
 ·have := Int.ediv_le_ediv (c := p) (by omega) h2
  have := Int.ediv_le_self (a := U) p hU
  omega
theorem aGn {a b c : Int} (h : -128 <= a /\ a <= 127) : -1048576 <= alF a b c /\ alF a b c <= 1048576 := by
 unfold alF
 rw [aNQ (by omega) (by omega)]
 simp only
 generalize aO (-1000) (bF b 1000) - aO (-1000) (bF c 1000) = y
 split
 ·have := aLu (p := 2 ^ (bF (0 - y) 62).toNat) (aKK _ _ (Nat.le_refl _)).1 (by omega) (by omega) h.1 h.2
  omega
 ·split
  ·split
   ·omega
   ·split <;> omega
  ·exact aC1 _ _ _ (by omega)
theorem aN1 {a b c : Int} {Q : Int -> Prop} (h : Q (alF a b c)) : sV a b c Q := by
  refine ⟨?_⟩
  unfold SW
  refine aKN (aKI (aKI ?_))
  unfold alF at h
  simp only at h
  have hb := aC1 b (-1000) 1000 (by omega)
  have hc := aC1 c (-1000) 1000 (by omega)
  generalize aO (-1000) (bF b 1000) = x at *
  generalize aO (-1000) (bF c 1000) = y at *
  rw [aB (x - y) (by omega) (by omega)]
  by_cases h1 : x - y < 0
  · rw [if_pos h1] at h
    rw [if_pos (by simpa using h1), aB (0 - (x - y)) (by omega) (by omega)]
    have hs : 0 <= bF (0 - (x - y)) 62 /\ bF (0 - (x - y)) 62 <= 62 := by unfold bF; split <;> omega
    refine ⟨hs.1, ?_⟩
    rw [show min (bF (0 - (x - y)) 62).toNat (IntKind.i64).bits = (bF (0 - (x - y)) 62).toNat from Nat.min_eq_left (by show _ <= 64; omega)]
    exact h
  · rw [if_neg h1] at h
    rw [if_neg (by simpa using h1)]
    by_cases h2 : 20 < x - y
    · rw [if_pos h2] at h
      by_cases h3 : 0 < M1 a
      · rw [if_pos h3] at h
        rw [if_pos (by simp [h2, h3])]
        exact h
      · rw [if_neg h3] at h
        rw [if_neg (by simp; omega)]
        by_cases h4 : M1 a < 0
        · rw [if_pos h4] at h
          rw [if_pos (by simp [h2, h4])]
          exact h
        · rw [if_neg h4] at h
          rw [if_neg (by simp; omega), if_pos (by simp [h2])]
          exact h
    · rw [if_neg h2] at h
      rw [if_neg (by simp; omega), if_neg (by simp; omega), if_neg (by simp; omega)]
      refine aG6 ⟨by omega, aG6 ?_⟩
      have hm := aC1 (M1 a) (-1048576) 1048576 (by omega)
      have hp := aKK (x - y).toNat 20 (by omega)
      have := JD (aO (-1048576) (bF (M1 a) 1048576)) (2 ^ (x - y).toNat) 1048576 1048576 hm.1 hm.2 (by omega) hp.2 (by omega)
      rw [show min (x - y).toNat (IntKind.i64).bits = (x - y).toNat from Nat.min_eq_left (by show _ <= 64; omega)]
      rw [aB _ (by omega) (by omega)]
      exact h
def GT (n : Int) : Bool := (decide (0 <= n) && decide (n <= 1023)) && decide (n * 16384 + 1048576 < 16777216)
theorem aMR {n : Int} {Q : Bool -> Prop} (h : Q (GT n)) : KO n Q := by
 refine ⟨?_⟩
 unfold VK
 unfold GT at h
 by_cases h1 : 0 <= n /\ n <= 1023
 ·rw [aB (n * 16384) (by omega) (by omega), aB _ (by omega) (by omega)]
  exact h
 ·have e : (decide (0 <= n) && decide (n <= 1023)) = false := by simp; omega
  rw [e] at h ⊢
  exact h
theorem aKu {n : Int} : GT n = true ↔ 0 <= n /\ n <= 959 := by
 unfold GT
 simp only [Bool.and_eq_true, decide_eq_true_eq]
 omega
def VM (d : List Int) (e n : Int) : T3 × Int :=
 if (!GT n) = true then (Z3, 3)
 else if (decide (e < -128) || decide (128 < e)) = true then (Z3, 3)
 else if (!decide (0 < szF d)) = true then (Z3, 1)
 else ((d, (e, List.replicate (szF d).toNat 0)), 0)
theorem aNZ {n e : Int} {d : List Int} {Q : T3 × Int -> Prop} (h : Q (VM d e n)) : TF n e d Q := by
  refine ⟨?_⟩
  unfold WR
  refine aMR ?_
  unfold VM at h
  by_cases h1 : (!GT n) = true
  · rw [if_pos h1] at h; rw [if_pos (by rw [h1]; rfl)]; exact h
  · rw [if_neg h1] at h
    by_cases h2 : (decide (e < -128) || decide (128 < e)) = true
    · rw [if_pos h2] at h
      rw [if_pos (by simp only [Bool.or_eq_true, decide_eq_true_eq] at h2 ⊢; rcases h2 with h2 | h2 <;> simp [h2])]
      exact h
    · rw [if_neg h2] at h
      rw [if_neg (by simp only [Bool.or_eq_true, decide_eq_true_eq, not_or] at h1 h2 ⊢; exact ⟨⟨h1, h2.2⟩, h2.1⟩)]
      refine aDp ?_
      by_cases h3 : (!decide (0 < szF d)) = true
      · rw [if_pos h3] at h ⊢; exact h
      · rw [if_neg h3] at h ⊢
        have := TM d
        have := UM d
        exact Y6 ⟨⟨by omega, by omega⟩, h⟩
theorem aMG {d : List Int} {e n : Int} (h : (VM d e n).2 = 0) : GT n = true /\ (-128 <= e /\ e <= 128) /\ 0 < szF d /\ VM d e n = ((d, (e, List.replicate (szF d).toNat 0)), 0) := by
  unfold VM at h ⊢
  split at h
  · cases h
  · split at h
    · cases h
    · split at h
      · cases h
      · rename_i h1 h2 h3
        rw [if_neg h1, if_neg h2, if_neg h3]
        simp at h1 h2 h3
        exact ⟨h1, by omega, by omega, rfl⟩
def UW (l : List T3) : Int := if l.all fC = true then (if l.all (fun t => (t.1.length : Int) == 4) = true then 0 else 2) else 1
theorem aNv {l : List T3} {Q : Int -> Prop} (hl : l.length <= 1000000) (h : Q (UW l)) : aDw l Q := by
  refine ⟨?_⟩
  unfold aCh
  unfold UW at h
  refine ⟨?_⟩
  refine Loop.all (B := yE l (l.length : Int) _ _) l fC (K0 := Q (if l.all (fun t => (t.1.length : Int) == 4) = true then 0 else 2)) (K1 := Q 1) ?_ ?_ ?_
  · intro i hi X hX hK
    unfold yE
    rw [if_pos (by simpa using hi)]
    refine ⟨by omega, rY ?_⟩
    simp only [Int.toNat_natCast]
    have hg : l.getD i ([], 0, []) = l[i] := by rw [List.getD_eq_getElem?_getD, List.getElem?_eq_getElem hi]; rfl
    rw [hg]
    by_cases hm : fC l[i] = true
    · rw [if_neg (by simp [hm]), aB _ (by omega) (by omega)]
      exact hX hm
    · have hm : fC l[i] = false := by simpa using hm
      rw [if_pos (by simp [hm])]
      exact hK hm
  · intro hK X
    unfold yE
    rw [if_neg (by simp)]
    refine ⟨?_⟩
    refine Loop.all (B := yB l (l.length : Int) _ _) l (fun t => (t.1.length : Int) == 4) (K0 := Q 0) (K1 := Q 2) ?_ ?_ ?_
    · intro i hi X hX hK
      unfold yB
      rw [if_pos (by simpa using hi)]
      refine ⟨by omega, ?_⟩
      simp only [Int.toNat_natCast]
      have hg : l.getD i ([], 0, []) = l[i] := by rw [List.getD_eq_getElem?_getD, List.getElem?_eq_getElem hi]; rfl
      rw [hg]
      unfold bne
      by_cases hm : ((l[i].1.length : Int) == 4) = true
      · rw [if_neg (by simp [hm]), aB _ (by omega) (by omega)]
        exact hX hm
      · have hm : ((l[i].1.length : Int) == 4) = false := by simpa using hm
        rw [if_pos (by simp [hm])]
        exact hK hm
    · intro hK X
      unfold yB
      rw [if_neg (by simp)]
      exact hK
    · split <;> rename_i hh <;> simp only [hh] at hK <;> simpa using hK
  · split <;> rename_i hh <;> simp only [hh] at h <;> simpa using h
theorem aO5 {a b k s p : Int} {Q : ((Int × Int × Int × Int × Int × Int × Int) × Bool) -> Prop} (h : Q ((a, (b, (k, (s, (p, (bQ a k s p, bQ b k s p)))))), (decide (0 < bQ a k s p)) && (decide (0 < bQ b k s p)))) : Y4 a b k s p Q := by
 refine ⟨?_⟩
 unfold ZZ
 exact aAx (aAx h)
end Go.Proofs.Ytbenbhdagmnapaa

namespace Go.Proofs.Ytbenbhdagmnapaa
open Go.Mach Go.RowKit
set_option maxRecDepth 100000
set_option linter.unusedVariables false
set_option linter.unusedSimpArgs false
theorem aL4 (x : Int) : 0 <= IntKind.u8.wrap x /\ IntKind.u8.wrap x < 256 := by
 simp only [IntKind.wrap, IntKind.bits, IntKind.signed]
 simp
 omega
def shF (a : Int) : Int := aO 0 (bF a 62)
theorem aJx (a : Int) : 0 <= shF a /\ shF a <= 62 := by
 unfold shF aO bF
 split <;> split <;> omega
def b32 (a : Int) : Int := aO 1 (bF a 32)
theorem aMz (a : Int) : 1 <= b32 a /\ b32 a <= 32 := by
 unfold b32 aO bF
 split <;> split <;> omega
def aO1 (a : Int) : Int := IntKind.i64.wrap ((IntKind.i64.wrap (1 * 2 ^ (min (IntKind.i64.wrap (b32 a - 1)).toNat (IntKind.i64).bits))) - 1)
def clF (a b : Int) : Int := aO (IntKind.i64.wrap (0 - aO1 b)) (bF (M1 a) (aO1 b))
theorem aNC {a : Int} {Q : Int -> Prop} (h : Q (shF a)) : M5 a Q := ⟨aKI h⟩
theorem aN4 {a b : Int} {Q : Int -> Prop} (h : Q (clF a b)) : PY a b Q := by
 refine ⟨aKI ⟨?_, aKN (aG6 h)⟩⟩
 have := aMz b
 show 0 <= IntKind.i64.wrap (b32 b - 1)
 rw [aB _ (by omega) (by omega)]
 omega
theorem aMI (a : Int) : -4611686018427387904 <= M1 a /\ M1 a <= 4611686018427387904 := by
 unfold M1 aO bF
 split <;> split <;> omega
def chF (a s r : Int) : Int := (IntKind.i64.wrap (M1 a + (IntKind.i64.wrap (IntKind.u64.wrap ((BitVec.ofInt (IntKind.u64).bits r &&& BitVec.ofInt (IntKind.u64).bits (IntKind.u64.wrap ((IntKind.u64.wrap (1 * 2 ^ (min (shF s).toNat (IntKind.u64).bits))) - 1))).toNat : Nat))))).fdiv (2 ^ (min (shF s).toNat (IntKind.i64).bits))
theorem aLM {a s r : Int} {Q : Int -> Prop} (h : Q (chF a s r)) : I2 a s r Q := ⟨aNC (aKN ⟨(aJx s).1, (aJx s).1, h⟩)⟩
theorem aMM {a r : Int} : chF a 0 r = M1 a := by
 have e : BitVec.ofInt (IntKind.u64).bits (IntKind.u64.wrap ((IntKind.u64.wrap (1 * 2 ^ (min (shF 0).toNat (IntKind.u64).bits))) - 1)) = 0#(IntKind.u64).bits := by decide +kernel
 have e2 : (2 : Int) ^ (min (shF 0).toNat (IntKind.i64).bits) = 1 := by decide +kernel
 unfold chF
 rw [e, e2, BitVec.and_zero]
 have h := aMI a
 have e3 : IntKind.i64.wrap (IntKind.u64.wrap ((0#(IntKind.u64).bits).toNat : Nat)) = 0 := by decide +kernel
 rw [e3, Int.add_zero, aB _ (by omega) (by omega), Int.fdiv_one]
def l31 (x n : Int) : Int := IntKind.i64.wrap (n + (IntKind.i64.wrap ((EN.data.toList.getD (IntKind.u8.wrap x).toNat 0).toNat : Nat)))
def l15 (x n : Int) : Int := if 256 <= x then l31 (x.fdiv (2 ^ (min ((8 : Int)).toNat (IntKind.u64).bits))) (IntKind.i64.wrap (n + 8)) else l31 x n
def l7 (x n : Int) : Int := if 65536 <= x then l15 (x.fdiv (2 ^ (min ((16 : Int)).toNat (IntKind.u64).bits))) (IntKind.i64.wrap (n + 16)) else l15 x n
def aNm (x : Int) : Int := if 4294967296 <= x then l7 (x.fdiv (2 ^ (min ((32 : Int)).toNat (IntKind.u64).bits))) 32 else l7 x 0
theorem aN2 : EN.size = 256 := by decide +kernel
theorem aNh {x n : Int} {K : Int -> Prop} (h : K (l31 x n)) : mF x n K := by
 refine ⟨⟨?_, h⟩⟩
 rw [aN2]
 exact ⟨(aL4 x).1, (aL4 x).2⟩
theorem aN9 {x n : Int} {K : Int -> Prop} (h : K (l15 x n)) : l0 x n K := by
 refine ⟨?_⟩
 unfold AA
 unfold l15 at h
 by_cases e : 256 <= x
 ·rw [if_pos e] at h
  rw [if_pos (by simpa using e)]
  exact ⟨by decide, aNh h⟩
 ·rw [if_neg e] at h
  rw [if_neg (by simpa using e)]
  exact aNh h
theorem aOp {x n : Int} {K : Int -> Prop} (h : K (l7 x n)) : lN x n K := by
 refine ⟨?_⟩
 unfold z9
 unfold l7 at h
 by_cases e : 65536 <= x
 ·rw [if_pos e] at h
  rw [if_pos (by simpa using e)]
  exact ⟨by decide, aN9 h⟩
 ·rw [if_neg e] at h
  rw [if_neg (by simpa using e)]
  exact aN9 h
theorem aOy {x : Int} {K : Int -> Prop} (h : K (aNm x)) : AR x K := by
 refine ⟨?_⟩
 unfold EI
 unfold aNm at h
 by_cases e : 4294967296 <= x
 ·rw [if_pos e] at h
  rw [if_pos (by simpa using e)]
  exact ⟨by decide, aOp h⟩
 ·rw [if_neg e] at h
  rw [if_neg (by simpa using e)]
  exact aOp h
def aOW (a : Int) : Int := aNm (IntKind.u64.wrap (aO (M1 a) (IntKind.i64.wrap (0 - M1 a))))
theorem aNs {a : Int} {Q : Int -> Prop} (h : Q (aOW a)) : TR a Q := ⟨aKN (aOy (K := Q) h)⟩
theorem aJW (a : Int) : ∃ v, ∀ Q : Int -> Prop, Q v -> PO a Q := ⟨_, fun Q h => ⟨⟨by decide, by decide, by decide, h⟩⟩⟩
theorem aNf (a b c : Int) : ∃ v, ∀ Q : Int -> Prop, Q v -> aBt a b c Q := by
 obtain ⟨v1, h1⟩ := aJW a
 obtain ⟨v2, h2⟩ := aJW (IntKind.u64.wrap ((BitVec.ofInt (IntKind.u64).bits v1 ^^^ BitVec.ofInt (IntKind.u64).bits b).toNat : Nat))
 obtain ⟨v3, h3⟩ := aJW (IntKind.u64.wrap ((BitVec.ofInt (IntKind.u64).bits v2 ^^^ BitVec.ofInt (IntKind.u64).bits c).toNat : Nat))
 exact ⟨v3, fun Q h => ⟨h1 _ (h2 _ (h3 _ h))⟩⟩
noncomputable def atF (a b c : Int) : Int := Classical.choose (aNf a b c)
theorem aPT {a b c : Int} {Q : Int -> Prop} (h : Q (atF a b c)) : aBt a b c Q := Classical.choose_spec (aNf a b c) Q h
def uE (a : List Int × Int × List Int) : Bool := (decide (0 < szF a.1) && ((a.2.2.length : Int) == szF a.1)) && aEk a.2.1 128
theorem aHU {a : List Int × Int × List Int} {Q : Bool -> Prop} (h : Q (uE a)) : yD a Q := by
  refine ⟨aDp ?_⟩
  unfold jn
  dsimp only
  unfold uE at h
  cases hb : decide (0 < szF a.1) with
  | true =>
    rw [hb] at h
    rw [if_pos rfl]
    refine Y6 ?_
    cases hc : ((a.2.2.length : Int) == szF a.1) with
    | true =>
      rw [hc] at h
      rw [if_pos rfl]
      exact aLL h
    | false =>
      rw [hc] at h
      rw [if_neg (by simp)]
      exact h
  | false =>
    rw [hb] at h
    rw [if_neg (by simp), if_neg (by simp)]
    exact h
theorem NX {a : List Int × Int × List Int} (h : uE a = true) : 0 < szF a.1 /\ (a.2.2.length : Int) = szF a.1 /\ a.1 ≠ [] /\ a.1.length <= 4 /\ a.2.2.length <= 8192 := by
 unfold uE at h
 simp only [Bool.and_eq_true, decide_eq_true_eq, beq_iff_eq] at h
 obtain ⟨⟨h1, h2⟩, _⟩ := h
 have h3 := TM a.1
 refine ⟨h1, h2, ?_, ?_, by omega⟩
 ·intro e; rw [e] at h1; exact absurd h1 (by decide)
 ·unfold szF at h1
  split at h1
  ·omega
  ·rename_i hn
   simp only [Bool.or_eq_true, decide_eq_true_eq, not_or] at hn
   omega
def aHZ (l : List Int) : Int := l.foldl (fun m x => aO m (aOW (IntKind.i64.wrap x))) 0
theorem aJL (l : List Int) (i : Nat) (h : i < l.length) : aHZ (l.take (i + 1)) = aO (aHZ (l.take i)) (aOW (IntKind.i64.wrap (l.getD i 0))) := by
 unfold aHZ
 rw [List.take_add_one, List.foldl_append, List.getD_eq_getElem?_getD, List.getElem?_eq_getElem h]
 rfl
def aJF (a : List Int × Int × List Int) : Int := if uE a = true then aHZ a.2.2 else 0
theorem aN7 {a : List Int × Int × List Int} {Q : Int -> Prop} (h : Q (aJF a)) : KM a Q := by
  refine ⟨aHU (a := a) ?_⟩
  unfold aJF at h
  cases hm : uE a with
  | false =>
    rw [hm] at h
    exact h
  | true =>
    rw [hm, if_pos rfl] at h
    rw [if_neg (by simp)]
    obtain ⟨_, _, _, _, hlen⟩ := NX hm
    refine ⟨?_⟩
    refine Loop.range (B := nW a.2.2 (a.2.2.length : Int) fun y => Q y) a.2.2.length (fun i => (aHZ (a.2.2.take i), (i : Int))) (fun _ => True) trivial ?_ ?_
    · intro i hi _ X hX
      unfold nW
      rw [if_pos (by simpa using hi)]
      refine ⟨by simp only []; omega, aNs ?_⟩
      have := hX trivial
      rw [aJL _ _ hi] at this
      simp only [Int.toNat_natCast]
      rw [aB ((i : Int) + 1) (by omega) (by omega)]
      exact this
    · intro _ X
      unfold nW
      rw [if_neg (by simp)]
      simp only [List.take_length]
      exact h
theorem EO {a : List Int} {Q : List Int -> Prop} (h1 : a.length <= 17592186044416) (h : Q a) : aW a Q := by
 refine ⟨fun e => (by rw [e] at h; exact h), ?_, h⟩
 simp only [List.length_nil]
 omega
theorem aCC {a : List Int} {Q : List Int -> Prop} (h1 : a.length <= 140737488355328) (h : Q a) : iH a Q := by
 refine ⟨fun e => (by rw [e] at h; exact h), ?_, h⟩
 simp only [List.length_nil]
 omega
noncomputable def aIV (b s t sh : Int) (l : List Int) (i : Nat) : Int := IntKind.i8.wrap (clF (chF (IntKind.i64.wrap (l.getD i 0)) sh (atF s t (IntKind.u64.wrap (i : Int)))) b)
noncomputable def aDU (b s t sh : Int) (l : List Int) : List Int := (List.range l.length).map (aIV b s t sh l)
def AF (a : List Int × Int × List Int) (b : Int) : Int := aO 0 (IntKind.i64.wrap (aJF a - (IntKind.i64.wrap (b - 1))))
noncomputable def BW (a : List Int × Int × List Int) (b s t : Int) : (List Int × Int × List Int) × Int :=
 if ((!(uE a) || (decide (b < 2))) || (decide (8 < b))) = true then (([], 0, []), 1)
 else if (!(aEk (IntKind.i64.wrap (a.2.1 + AF a b)) 64)) = true then (([], 0, []), 3)
 else ((a.1, IntKind.i64.wrap (a.2.1 + AF a b), aDU b s t (AF a b) a.2.2), 0)
theorem aJp {a : List Int × Int × List Int} {b s t : Int} {Q : ((List Int × Int × List Int) × Int) -> Prop} (h : Q (BW a b s t)) : JQ a b s t Q := by
  refine ⟨?_⟩
  unfold OO
  refine aHU (a := a) ?_
  unfold BW at h
  by_cases e : ((!(uE a) || (decide (b < 2))) || (decide (8 < b))) = true
  · rw [if_pos e] at h ⊢; exact h
  · rw [if_neg e] at h ⊢
    have hm : uE a = true := by
      cases hm : uE a with
      | true => rfl
      | false => exfalso; apply e; rw [hm]; rfl
    obtain ⟨_, _, h3, h4, hlen⟩ := NX hm
    refine aN7 (a := a) (EO (by omega) (aLL ?_))
    show (if (!(aEk (IntKind.i64.wrap (a.2.1 + AF a b)) 64)) = true then _ else _)
    by_cases e2 : (!(aEk (IntKind.i64.wrap (a.2.1 + AF a b)) 64)) = true
    · rw [if_pos e2] at h ⊢; exact h
    · rw [if_neg e2] at h ⊢
      refine ⟨?_⟩
      refine Loop.range (B := nN b s t (AF a b) a.2.2 (a.2.2.length : Int) _) (f := fun i => ((i : Int), (List.range i).map (aIV b s t (AF a b) a.2.2))) a.2.2.length (fun _ => True) trivial ?_ ?_
      · intro i hi _ X hX
        unfold nN
        rw [if_pos (by simpa using hi)]
        refine ⟨by simp only []; omega, aPT (aLM (aN4 ⟨?_, ?_⟩))⟩
        · simp only [List.length_map, List.length_range, List.length_singleton]
          omega
        · have := hX trivial
          simp only [List.range_succ, List.map_append, List.map_cons, List.map_nil] at this
          simp only [Int.toNat_natCast]
          rw [aB ((i : Int) + 1) (by omega) (by omega)]
          exact this
      · intro _ X
        unfold nN
        rw [if_neg (by simp)]
        exact h
end Go.Proofs.Ytbenbhdagmnapaa
