/- Part of the proof. No condition. -/
import Derived.Test.YtbenbhdagmnapaaZ35
import Derived.Test.YtbenbhdagmnapaaProg
import Derived.KernelRfl
import Derived.Test.YtbenbhdagmnapaaYVJoin
import GoSem.Core.Float
import Derived.Laws.ComplexArith
import Derived.Test.YtbenbhdagmnapaaZ34
import Derived.Test.YtbenbhdagmnapaaYVArg
namespace Go.Proofs.Ytbenbhdagmnapaa
open Go.Mach
set_option maxRecDepth 100000
set_option linter.unusedVariables false
def oM (x1 : List Int) (x2 : Int) (K0 : Unit -> Prop) (K1 : Unit -> Prop) (s : Int × Int) (nx : (Int × Int) -> Prop) : Prop :=
 if (decide (s.2 < x2)) = true then ck ((0 : Int) <= s.2 /\ s.2 < (x1.length : Int)) (jn (fun (v1 : Bool) => if v1 = true then K1 () else nx (IntKind.i64.wrap (s.1 * (x1.getD ((s.2).toNat) 0)), IntKind.i64.wrap (s.2 + 1))) (fun J2 => if ((decide ((x1.getD ((s.2).toNat) 0) < 1)) || (decide (4096 < (x1.getD ((s.2).toNat) 0)))) = true then J2 true else ck ((x1.getD ((s.2).toNat) 0) ≠ (0 : Int)) (J2 (decide ((IntKind.i64.wrap (((8192 : Int)).tdiv (x1.getD ((s.2).toNat) 0))) < s.1))))) else K0 ()
structure q7 (x1 : List Int) (x2 : Int) (K0 : Unit -> Prop) (K1 : Unit -> Prop) (s : Int × Int) : Prop where
 it : Go.Mach.Loop (oM x1 x2 K0 K1) s
def tI (a0 : List Int) (Q : Bool -> Prop) : Prop :=
 if ((decide ((a0.length : Int) < 1)) || (decide (4 < (a0.length : Int)))) = true then Q false else q7 a0 (a0.length : Int) (fun (y3 : Unit) => Q true) (fun (y4 : Unit) => Q false) (1, 0)
structure cD (a0 : List Int) (Q : Bool -> Prop) : Prop where
 it : tI a0 Q
noncomputable def F6 : Ent := ⟨[3, 14, 15, 16], [.lf (.int .i64), .lf (.fz false (.int .i64)), .lf (.int .i64), .lf (.int .i64)], [], fun x k => q7 x.1.2.1 x.1.2.2.1 (fun (y5 : Unit) => k (.exit 0) ⟨[], []⟩) (fun (y6 : Unit) => k .ret ⟨[(2, .pl (.bool false))], []⟩) (x.1.1, x.1.2.2.2.1)⟩
noncomputable def j4 : Tab := fun n => match n with | 122 => some F6 | _ => none
noncomputable def rH : Go.Mach.Ends := fun n => match n with | 2 => some ([], [0]) | 12 => some ([], [0, 13]) | 14 => some ([], [0, 3]) | 27 => some ([], [0]) | 52 => some ([], [2]) | 53 => some ([], [2]) | 60 => some ([], [3, 14, 15, 16]) | 62 => some ([], [2]) | 63 => some ([], [2]) | 122 => some ([], [3, 14, 15, 16]) | 488 => some ([], [3, 14, 15, 16, 17]) | 1956 => some ([], [3, 14, 15, 16]) | 1957 => some ([], []) | 1959 => some ([], [3, 14, 15, 16]) | 7832 => some ([], [3, 5, 14, 15, 16]) | 15667 => some ([], [3, 14, 15, 16]) | 31332 => some ([], [3, 5, 14, 15, 16, 31]) | 62667 => some ([], [3, 5, 14, 15, 16]) | 125332 => some ([], [2]) | 125333 => some ([], [2]) | _ => none
noncomputable def s4 : Code := Try.f24.body.getD .skip
theorem D0 : aL wF j4 rH s4 := by
 intro n E hn f c hs x k h
 unfold j4 at hn
 split at hn
 ·cases hn; exact aK hs (by kernel_rfl) (fun y : Int × Int => ⟨[(3, .pl (.int .i64 y.1)), (14, .fz false (.int .i64) x.1.2.1), (15, .pl (.int .i64 x.1.2.2.1)), (16, .pl (.int .i64 y.2))], []⟩) (x.1.1, x.1.2.2.2.1) (by kernel_rfl) (fun y X => by kernel_rfl) h.it
 ·cases hn
def dC : List Sh := [.lf (.fz false (.int .i64))]
def kK (x : aI dC) (Q : List (Bool × List VV) -> Prop) : Prop := cD x.1 (fun (r : Bool) => Q (aH [(false, .bool)] [.n] (r, ())))
theorem D5 (x : aI dC) (Q : List (Bool × List VV) -> Prop) (h : kK x Q) : aD Try.prog 24 (aM dC x) Q :=
 aC [.n] (G := wF) (ct := j4) (en := rH) (fn := Try.f24) (cd := s4) (rt := [(false, .bool)]) Try.func24 (by kernel_rfl) (by kernel_rfl) (Nat.le_of_ble_eq_true rfl) D0 rK (aG rfl) h.it (by kernel_rfl)
noncomputable def lR : FuncId -> List VV -> (List (Bool × List VV) -> Prop) -> Prop := fun f args Q => if f = 24 then unA dC args (fun x => kK x Q) else m9 f args Q
theorem pU : ∀ f args Q, lR f args Q -> aD Try.prog f args Q := aE rK (f0 := 24) dC (fun x Q => kK x Q) D5
noncomputable def vV : Cfg := ⟨Try.prog, tt, lR, fun _ _ _ => False, none, false⟩
def sY (x1 : List Int) (x2 : Int) (K0 : Int -> Prop) (s : Int × Int) (nx : (Int × Int) -> Prop) : Prop :=
 if (decide (s.2 < x2)) = true then ck ((0 : Int) <= s.2 /\ s.2 < (x1.length : Int)) (nx (IntKind.i64.wrap (s.1 * (x1.getD ((s.2).toNat) 0)), IntKind.i64.wrap (s.2 + 1))) else K0 s.1
structure wJ (x1 : List Int) (x2 : Int) (K0 : Int -> Prop) (s : Int × Int) : Prop where
 it : Go.Mach.Loop (sY x1 x2 K0) s
def zV (a0 : List Int) (Q : Int -> Prop) : Prop :=
 cD a0 (fun (r1 : Bool) => if (!r1) = true then Q 0 else wJ a0 (a0.length : Int) (fun (y2 : Int) => Q y2) (1, 0))
structure dI (a0 : List Int) (Q : Int -> Prop) : Prop where
 it : zV a0 Q
noncomputable def MY : Ent := ⟨[3, 9, 10, 11], [.lf (.int .i64), .lf (.fz false (.int .i64)), .lf (.int .i64), .lf (.int .i64)], [], fun x k => wJ x.1.2.1 x.1.2.2.1 (fun (y3 : Int) => k (.exit 0) ⟨[(3, .pl (.int .i64 y3))], []⟩) (x.1.1, x.1.2.2.2.1)⟩
noncomputable def mZ : Tab := fun n => match n with | 122 => some MY | _ => none
noncomputable def wZ : Go.Mach.Ends := fun n => match n with | 2 => some ([], [0]) | 12 => some ([], [0, 8]) | 14 => some ([], [0, 3]) | 27 => some ([], [0]) | 52 => some ([], [2]) | 53 => some ([], [2]) | 60 => some ([], [3, 9, 10, 11]) | 62 => some ([], [2]) | 63 => some ([], [2]) | 122 => some ([], [3, 9, 10, 11]) | 488 => some ([], [3, 9, 10, 11, 12]) | 1956 => some ([], [3, 9, 10, 11]) | 1957 => some ([], [3]) | 1959 => some ([], [3, 9, 10, 11]) | 7832 => some ([], [3, 5, 9, 10, 11]) | 7833 => some ([], [3, 9, 10, 11]) | _ => none
noncomputable def zE : Code := Try.f14.body.getD .skip
theorem I9 : aL vV mZ wZ zE := by
 intro n E hn f c hs x k h
 unfold mZ at hn
 split at hn
 ·cases hn; exact aK hs (by kernel_rfl) (fun y : Int × Int => ⟨[(3, .pl (.int .i64 y.1)), (9, .fz false (.int .i64) x.1.2.1), (10, .pl (.int .i64 x.1.2.2.1)), (11, .pl (.int .i64 y.2))], []⟩) (x.1.1, x.1.2.2.2.1) (by kernel_rfl) (fun y X => by kernel_rfl) h.it
 ·cases hn
def fH : List Sh := [.lf (.fz false (.int .i64))]
def oB (x : aI fH) (Q : List (Bool × List VV) -> Prop) : Prop := dI x.1 (fun (r : Int) => Q (aH [(false, (.int .i64))] [.n] (r, ())))
theorem KB (x : aI fH) (Q : List (Bool × List VV) -> Prop) (h : oB x Q) : aD Try.prog 14 (aM fH x) Q :=
 aC [.n] (G := vV) (ct := mZ) (en := wZ) (fn := Try.f14) (cd := zE) (rt := [(false, (.int .i64))]) Try.func14 (by kernel_rfl) (by kernel_rfl) (Nat.le_of_ble_eq_true rfl) I9 pU (aG rfl) h.it (by kernel_rfl)
noncomputable def qD : FuncId -> List VV -> (List (Bool × List VV) -> Prop) -> Prop := fun f args Q => if f = 14 then unA fH args (fun x => oB x Q) else lR f args Q
theorem vM : ∀ f args Q, qD f args Q -> aD Try.prog f args Q := aE pU (f0 := 14) fH (fun x Q => oB x Q) KB
noncomputable def A8 : Cfg := ⟨Try.prog, tt, qD, fun _ _ _ => False, none, false⟩
def QU (a0 : Int) (a1 : Int) (a2 : Int) (Q : Bool -> Prop) : Prop :=
 Q ((decide (a1 <= a0)) && (decide (a0 <= a2)))
structure aT (a0 : Int) (a1 : Int) (a2 : Int) (Q : Bool -> Prop) : Prop where
 it : QU a0 a1 a2 Q
noncomputable def zZ : Tab := fun n => none
noncomputable def yU : Go.Mach.Ends := fun n => match n with | 2 => some ([], [0, 1, 2]) | 6 => some ([], [6]) | 7 => some ([], [6]) | _ => none
noncomputable def BI : Code := Try.f45.body.getD .skip
theorem NC : aL A8 zZ yU BI := by
 intro n E hn f c hs x k h
 cases hn
def gV : List Sh := [.lf (.int .i64), .lf (.int .i64), .lf (.int .i64)]
def qL (x : aI gV) (Q : List (Bool × List VV) -> Prop) : Prop := aT x.1 x.2.1 x.2.2.1 (fun (r : Bool) => Q (aH [(false, .bool)] [.n] (r, ())))
theorem M6 (x : aI gV) (Q : List (Bool × List VV) -> Prop) (h : qL x Q) : aD Try.prog 45 (aM gV x) Q :=
 aC [.n] (G := A8) (ct := zZ) (en := yU) (fn := Try.f45) (cd := BI) (rt := [(false, .bool)]) Try.func45 (by kernel_rfl) (by kernel_rfl) (Nat.le_of_ble_eq_true rfl) NC vM (aG rfl) h.it (by kernel_rfl)
noncomputable def sM : FuncId -> List VV -> (List (Bool × List VV) -> Prop) -> Prop := fun f args Q => if f = 45 then unA gV args (fun x => qL x Q) else qD f args Q
theorem wK : ∀ f args Q, sM f args Q -> aD Try.prog f args Q := aE vM (f0 := 45) gV (fun x Q => qL x Q) M6
noncomputable def DJ : Cfg := ⟨Try.prog, tt, sM, fun _ _ _ => False, none, false⟩
def KO (a0 : Int × Int × Int) (Q : Bool -> Prop) : Prop :=
 aT a0.1 1 8 (fun (r1 : Bool) => jn (fun (v2 : Bool) => jn (fun (v5 : Bool) => Q v5) (fun J6 => if v2 = true then aT a0.2.2 1 16 (fun (r7 : Bool) => J6 r7) else J6 false)) (fun J3 => if r1 = true then aT a0.2.1 1 16 (fun (r4 : Bool) => J3 r4) else J3 false))
structure oN (a0 : Int × Int × Int) (Q : Bool -> Prop) : Prop where
 it : KO a0 Q
noncomputable def sT : Tab := fun n => none
noncomputable def sQ : Go.Mach.Ends := fun n => match n with | 2 => some ([], [1]) | 6 => some ([], [2]) | 7 => some ([], [2]) | _ => none
noncomputable def vF : Code := Try.f44.body.getD .skip
theorem FV : aL DJ sT sQ vF := by
 intro n E hn f c hs x k h
 cases hn
def dT : List Sh := [.agg [.int .i64, .int .i64, .int .i64]]
def mD (x : aI dT) (Q : List (Bool × List VV) -> Prop) : Prop := oN (x.1.1, (x.1.2.1, x.1.2.2.1)) (fun (r : Bool) => Q (aH [(false, .bool)] [.n] (r, ())))
theorem E8 (x : aI dT) (Q : List (Bool × List VV) -> Prop) (h : mD x Q) : aD Try.prog 44 (aM dT x) Q :=
 aC [.n] (G := DJ) (ct := sT) (en := sQ) (fn := Try.f44) (cd := vF) (rt := [(false, .bool)]) Try.func44 (by kernel_rfl) (by kernel_rfl) (Nat.le_of_ble_eq_true rfl) FV wK (aG rfl) h.it (by kernel_rfl)
noncomputable def m7 : FuncId -> List VV -> (List (Bool × List VV) -> Prop) -> Prop := fun f args Q => if f = 44 then unA dT args (fun x => mD x Q) else sM f args Q
theorem qU : ∀ f args Q, m7 f args Q -> aD Try.prog f args Q := aE wK (f0 := 44) dT (fun x Q => mD x Q) E8
noncomputable def wY : Cfg := ⟨Try.prog, tt, m7, fun _ _ _ => False, none, false⟩
def AY  (K0 : Unit -> Prop) : Prop :=
 K0 ()
structure bS  (K0 : Unit -> Prop) : Prop where
 it : AY K0
def dF (x0 : Int) (x1 : Bool) (x2 : Int) (x3 : Bool) (x9 : Int) (x16 : Int) (K0 : (Bool × Int) -> Prop) (K1 : Unit -> Prop) : Prop :=
 if x3 = true then K0 (x1, x16) else if (x2 == 7) = true then aT x9 0 (IntKind.i64.wrap (x0 - 1)) (fun (r18 : Bool) => K0 (r18, x9)) else K1 ()
structure iN (x0 : Int) (x1 : Bool) (x2 : Int) (x3 : Bool) (x9 : Int) (x16 : Int) (K0 : (Bool × Int) -> Prop) (K1 : Unit -> Prop) : Prop where
 it : dF x0 x1 x2 x3 x9 x16 K0 K1
def g9 (x0 : Int) (x1 : Bool) (x2 : Int) (x3 : Bool) (x6 : Int) (x7 : Int) (x9 : Int) (x13 : Int) (x14 : Int) (x16 : Int) (K0 : (Bool × Int × Int × Int) -> Prop) (K1 : Unit -> Prop) : Prop :=
 if x3 = true then aT x6 1 5 (fun (r14 : Bool) => jn (fun (v15 : Bool) => K0 (v15, x6, x7, x16)) (fun J16 => if r14 = true then aT x7 1 4 (fun (r17 : Bool) => J16 r17) else J16 false)) else if (x2 == 5) = true then iN x0 x1 x2 (x2 == 5) x9 x16 (fun (y18 : Bool × Int) => K0 (y18.1, x13, x14, y18.2)) (fun (y19 : Unit) => K1 ()) else iN x0 x1 x2 (x2 == 6) x9 x16 (fun (y20 : Bool × Int) => K0 (y20.1, x13, x14, y20.2)) (fun (y21 : Unit) => K1 ())
structure eO (x0 : Int) (x1 : Bool) (x2 : Int) (x3 : Bool) (x6 : Int) (x7 : Int) (x9 : Int) (x13 : Int) (x14 : Int) (x16 : Int) (K0 : (Bool × Int × Int × Int) -> Prop) (K1 : Unit -> Prop) : Prop where
 it : g9 x0 x1 x2 x3 x6 x7 x9 x13 x14 x16 K0 K1
def pR (a0 : Int × Int × Int × Int × Int × Int × Bool) (a1 : Int) (Q : Bool -> Prop) : Prop :=
 if (a0.1 == 1) = true then aT a0.2.1 1 4096 (fun (r1 : Bool) => bS (fun (y2 : Unit) => Q (r1 && ((a0.1 == a0.1) && ((a0.2.1 == a0.2.1) && ((a0.2.2.1 == 0) && ((a0.2.2.2.1 == 0) && ((a0.2.2.2.2.1 == 0) && ((a0.2.2.2.2.2.1 == 0) && ((a0.2.2.2.2.2.2 == a0.2.2.2.2.2.2) && (true))))))))))) else if (a0.1 == 2) = true then aT a0.2.1 1 8 (fun (r3 : Bool) => jn (fun (v4 : Bool) => jn (fun (v7 : Bool) => jn (fun (v10 : Bool) => bS (fun (y13 : Unit) => Q (v10 && ((a0.1 == a0.1) && ((a0.2.1 == a0.2.1) && ((a0.2.2.1 == a0.2.2.1) && ((a0.2.2.2.1 == a0.2.2.2.1) && ((a0.2.2.2.2.1 == a0.2.2.2.2.1) && ((a0.2.2.2.2.2.1 == 0) && ((a0.2.2.2.2.2.2 == a0.2.2.2.2.2.2) && (true))))))))))) (fun J11 => if v7 = true then aT a0.2.2.2.2.1 0 (IntKind.i64.wrap (a0.2.2.1 - 1)) (fun (r12 : Bool) => J11 r12) else J11 false)) (fun J8 => if v4 = true then aT a0.2.2.2.1 1 4 (fun (r9 : Bool) => J8 r9) else J8 false)) (fun J5 => if r3 = true then aT a0.2.2.1 1 5 (fun (r6 : Bool) => J5 r6) else J5 false)) else if (a0.1 == 3) = true then eO a1 true a0.1 (a0.1 == 3) a0.2.2.1 a0.2.2.2.1 a0.2.2.2.2.2.1 0 0 0 (fun (y22 : Bool × Int × Int × Int) => bS (fun (y23 : Unit) => Q (y22.1 && ((a0.1 == a0.1) && ((a0.2.1 == 0) && ((a0.2.2.1 == y22.2.1) && ((a0.2.2.2.1 == y22.2.2.1) && ((a0.2.2.2.2.1 == 0) && ((a0.2.2.2.2.2.1 == y22.2.2.2) && ((a0.2.2.2.2.2.2 == false) && (true))))))))))) (fun (y24 : Unit) => Q false) else eO a1 true a0.1 (a0.1 == 4) a0.2.2.1 a0.2.2.2.1 a0.2.2.2.2.2.1 0 0 0 (fun (y25 : Bool × Int × Int × Int) => bS (fun (y26 : Unit) => Q (y25.1 && ((a0.1 == a0.1) && ((a0.2.1 == 0) && ((a0.2.2.1 == y25.2.1) && ((a0.2.2.2.1 == y25.2.2.1) && ((a0.2.2.2.2.1 == 0) && ((a0.2.2.2.2.2.1 == y25.2.2.2) && ((a0.2.2.2.2.2.2 == false) && (true))))))))))) (fun (y27 : Unit) => Q false)
structure kT (a0 : Int × Int × Int × Int × Int × Int × Bool) (a1 : Int) (Q : Bool -> Prop) : Prop where
 it : pR a0 a1 Q
noncomputable def DS : Ent := ⟨[2, 5, 6], [.lf (.cst (.ptr 0 0)), .lf (.cst (.ptr 1 0)), .lf (.bool)], [.box [.int .i64, .int .i64, .int .i64, .int .i64, .int .i64, .int .i64, .bool] false, .box [.int .i64, .int .i64, .int .i64, .int .i64, .int .i64, .int .i64, .bool] false], fun x k => bS (fun (y28 : Unit) => k .ret ⟨[(4, .pl (.bool (x.1.2.2.1 && ((x.2.1.1 == x.2.2.1.1) && ((x.2.1.2.1 == x.2.2.1.2.1) && ((x.2.1.2.2.1 == x.2.2.1.2.2.1) && ((x.2.1.2.2.2.1 == x.2.2.1.2.2.2.1) && ((x.2.1.2.2.2.2.1 == x.2.2.1.2.2.2.2.1) && ((x.2.1.2.2.2.2.2.1 == x.2.2.1.2.2.2.2.2.1) && ((x.2.1.2.2.2.2.2.2.1 == x.2.2.1.2.2.2.2.2.2.1) && (true)))))))))))], []⟩)⟩
noncomputable def DB : Ent := ⟨[1, 2, 5, 6, 11, 61], [.lf (.int .i64), .lf (.cst (.ptr 0 0)), .lf (.cst (.ptr 1 0)), .lf (.bool), .lf (.int .i64), .lf (.bool)], [.box [.int .i64, .int .i64, .int .i64, .int .i64, .int .i64, .int .i64, .bool] false, .box [.int .i64, .int .i64, .int .i64, .int .i64, .int .i64, .int .i64, .bool] false], fun x k => eO x.1.1 x.1.2.2.2.1 x.1.2.2.2.2.1 x.1.2.2.2.2.2.1 x.2.1.2.2.1 x.2.1.2.2.2.1 x.2.1.2.2.2.2.2.1 x.2.2.1.2.2.1 x.2.2.1.2.2.2.1 x.2.2.1.2.2.2.2.2.1 (fun (y29 : Bool × Int × Int × Int) => k .normal ⟨[(2, .ptr 0 0), (5, .ptr 1 0), (6, .pl (.bool y29.1))], [.box [.pl (.int .i64 x.2.1.1), .pl (.int .i64 x.2.1.2.1), .pl (.int .i64 x.2.1.2.2.1), .pl (.int .i64 x.2.1.2.2.2.1), .pl (.int .i64 x.2.1.2.2.2.2.1), .pl (.int .i64 x.2.1.2.2.2.2.2.1), .pl (.bool x.2.1.2.2.2.2.2.2.1)] false, .box [.pl (.int .i64 x.2.2.1.1), .pl (.int .i64 x.2.2.1.2.1), .pl (.int .i64 y29.2.1), .pl (.int .i64 y29.2.2.1), .pl (.int .i64 x.2.2.1.2.2.2.2.1), .pl (.int .i64 y29.2.2.2), .pl (.bool x.2.2.1.2.2.2.2.2.2.1)] false]⟩) (fun (y30 : Unit) => k .ret ⟨[(4, .pl (.bool false))], []⟩)⟩
noncomputable def C7 : Ent := ⟨[1, 2, 5, 6, 11, 78], [.lf (.int .i64), .lf (.cst (.ptr 0 0)), .lf (.cst (.ptr 1 0)), .lf (.bool), .lf (.int .i64), .lf (.bool)], [.box [.int .i64, .int .i64, .int .i64, .int .i64, .int .i64, .int .i64, .bool] false, .box [.int .i64, .int .i64, .int .i64, .int .i64, .int .i64, .int .i64, .bool] false], fun x k => iN x.1.1 x.1.2.2.2.1 x.1.2.2.2.2.1 x.1.2.2.2.2.2.1 x.2.1.2.2.2.2.2.1 x.2.2.1.2.2.2.2.2.1 (fun (y31 : Bool × Int) => k .normal ⟨[(2, .ptr 0 0), (5, .ptr 1 0), (6, .pl (.bool y31.1))], [.box [.pl (.int .i64 x.2.1.1), .pl (.int .i64 x.2.1.2.1), .pl (.int .i64 x.2.1.2.2.1), .pl (.int .i64 x.2.1.2.2.2.1), .pl (.int .i64 x.2.1.2.2.2.2.1), .pl (.int .i64 x.2.1.2.2.2.2.2.1), .pl (.bool x.2.1.2.2.2.2.2.2.1)] false, .box [.pl (.int .i64 x.2.2.1.1), .pl (.int .i64 x.2.2.1.2.1), .pl (.int .i64 x.2.2.1.2.2.1), .pl (.int .i64 x.2.2.1.2.2.2.1), .pl (.int .i64 x.2.2.1.2.2.2.2.1), .pl (.int .i64 y31.2), .pl (.bool x.2.2.1.2.2.2.2.2.2.1)] false]⟩) (fun (y32 : Unit) => k .ret ⟨[(4, .pl (.bool false))], []⟩)⟩
noncomputable def iT : Tab := fun n => match n with | 31 => some DS | 3935 => some DB | 15743 => some C7 | _ => none
noncomputable def o7 : Go.Mach.Ends := fun n => match n with | 2 => some ([], [1, 2]) | 6 => some ([], [1, 2, 5]) | 14 => some ([], [1, 2, 5, 6]) | 60 => some ([], [1, 2, 5, 6, 11]) | 62 => some ([], [4]) | 63 => some ([], [4]) | 244 => some ([], [1, 2, 5, 6, 11, 12]) | 980 => some ([], [2, 5]) | 981 => some ([], [2, 5, 6]) | 982 => some ([], [1, 2, 5, 6, 11, 23]) | 3932 => some ([], [2, 5]) | 3933 => some ([], [2, 5, 6]) | 7868 => some ([], [1, 2, 5, 6, 11, 61]) | 15738 => some ([], [1, 2, 5, 6, 11, 61]) | 15739 => some ([], [1, 2, 5, 6, 11, 61]) | 15740 => some ([], [2, 5]) | 15741 => some ([], [2, 5, 6]) | 31484 => some ([], [1, 2, 5, 6, 11, 78]) | 31486 => some ([], [2, 5, 6]) | 62970 => some ([], [1, 2, 5, 6, 11, 78]) | 62971 => some ([], [1, 2, 5, 6, 11, 78]) | 62974 => some ([], [1, 2, 5, 81]) | 251900 => some ([], [1, 2, 5]) | 251901 => some ([], [2, 5, 6]) | 251902 => some ([], [4]) | 251903 => some ([], [4]) | _ => none
noncomputable def p7 : Code := Try.f46.body.getD .skip
theorem BT : aL wY iT o7 p7 := by
 intro n E hn f c hs x k h
 unfold iT at hn
 split at hn
 ·cases hn; exact bT hs (by kernel_rfl) (by kernel_rfl) h.it
 ·cases hn; exact bT hs (by kernel_rfl) (by kernel_rfl) h.it
 ·cases hn; exact bT hs (by kernel_rfl) (by kernel_rfl) h.it
 ·cases hn
def cM : List Sh := [.agg [.int .i64, .int .i64, .int .i64, .int .i64, .int .i64, .int .i64, .bool], .lf (.int .i64)]
def i9 (x : aI cM) (Q : List (Bool × List VV) -> Prop) : Prop := kT (x.1.1, (x.1.2.1, (x.1.2.2.1, (x.1.2.2.2.1, (x.1.2.2.2.2.1, (x.1.2.2.2.2.2.1, x.1.2.2.2.2.2.2.1)))))) x.2.1 (fun (r : Bool) => Q (aH [(false, .bool)] [.n] (r, ())))
theorem BR (x : aI cM) (Q : List (Bool × List VV) -> Prop) (h : i9 x Q) : aD Try.prog 46 (aM cM x) Q :=
 aC [.n] (G := wY) (ct := iT) (en := o7) (fn := Try.f46) (cd := p7) (rt := [(false, .bool)]) Try.func46 (by kernel_rfl) (by kernel_rfl) (Nat.le_of_ble_eq_true rfl) BT qU (aG rfl) h.it (by kernel_rfl)
noncomputable def jW : FuncId -> List VV -> (List (Bool × List VV) -> Prop) -> Prop := fun f args Q => if f = 46 then unA cM args (fun x => i9 x Q) else m7 f args Q
theorem nW : ∀ f args Q, jW f args Q -> aD Try.prog f args Q := aE qU (f0 := 46) cM (fun x Q => i9 x Q) BR
noncomputable def q5 : Cfg := ⟨Try.prog, tt, jW, fun _ _ _ => False, none, false⟩
def dE (x0 : List (Int × Int × Int × Int × Int × Int × Bool)) (x1 : Int) (K0 : Unit -> Prop) (K1 : Unit -> Prop) (s : Int) (nx : Int -> Prop) : Prop :=
 if (decide (s < x1)) = true then ck ((0 : Int) <= s /\ s < (x0.length : Int)) (kT ((x0.getD ((s).toNat) (0, (0, (0, (0, (0, (0, false))))))).1, (((x0.getD ((s).toNat) (0, (0, (0, (0, (0, (0, false))))))).2).1, ((((x0.getD ((s).toNat) (0, (0, (0, (0, (0, (0, false))))))).2).2).1, (((((x0.getD ((s).toNat) (0, (0, (0, (0, (0, (0, false))))))).2).2).2).1, ((((((x0.getD ((s).toNat) (0, (0, (0, (0, (0, (0, false))))))).2).2).2).2).1, (((((((x0.getD ((s).toNat) (0, (0, (0, (0, (0, (0, false))))))).2).2).2).2).2).1, ((((((x0.getD ((s).toNat) (0, (0, (0, (0, (0, (0, false))))))).2).2).2).2).2).2)))))) s (fun (r5 : Bool) => if (!r5) = true then K1 () else nx (IntKind.i64.wrap (s + 1)))) else K0 ()
structure pF (x0 : List (Int × Int × Int × Int × Int × Int × Bool)) (x1 : Int) (K0 : Unit -> Prop) (K1 : Unit -> Prop) (s : Int) : Prop where
 it : Go.Mach.Loop (dE x0 x1 K0 K1) s
def D1 (a0 : (Int × Int × Int) × List (Int × Int × Int × Int × Int × Int × Bool)) (Q : Bool -> Prop) : Prop :=
 oN (a0.1.1, (a0.1.2.1, a0.1.2.2)) (fun (r1 : Bool) => jn (fun (v2 : Bool) => if v2 = true then Q false else pF a0.2 (a0.2.length : Int) (fun (y6 : Unit) => Q true) (fun (y7 : Unit) => Q false) 0) (fun J3 => if (!r1) = true then J3 true else aT (a0.2.length : Int) 1 12 (fun (r4 : Bool) => J3 (!r4))))
structure kQ (a0 : (Int × Int × Int) × List (Int × Int × Int × Int × Int × Int × Bool)) (Q : Bool -> Prop) : Prop where
 it : D1 a0 Q
noncomputable def DE : Ent := ⟨[17, 18, 19], [.lf (.fz false (.pair (.int .i64) (.pair (.int .i64) (.pair (.int .i64) (.pair (.int .i64) (.pair (.int .i64) (.pair (.int .i64) .bool))))))), .lf (.int .i64), .lf (.int .i64)], [], fun x k => pF x.1.1 x.1.2.1 (fun (y8 : Unit) => k (.exit 0) ⟨[], []⟩) (fun (y9 : Unit) => k .ret ⟨[(2, .pl (.bool false))], []⟩) x.1.2.2.1⟩
noncomputable def iM : Tab := fun n => match n with | 58 => some DE | _ => none
noncomputable def oZ : Go.Mach.Ends := fun n => match n with | 2 => some ([], [1]) | 12 => some ([], [1, 15]) | 27 => some ([], [1]) | 28 => some ([], [17, 18, 19]) | 30 => some ([], [2]) | 31 => some ([], [2]) | 52 => some ([], [2]) | 53 => some ([], [2]) | 58 => some ([], [17, 18, 19]) | 232 => some ([], [17, 18, 19, 20]) | 932 => some ([], [17, 18, 19]) | 933 => some ([], []) | 935 => some ([], [17, 18, 19]) | 3736 => some ([], [3, 4, 17, 18, 19]) | 7474 => some ([], [17, 18, 19, 27]) | 14951 => some ([], [17, 18, 19]) | 29900 => some ([], [2]) | 29901 => some ([], [2]) | _ => none
noncomputable def pQ : Code := Try.f25.body.getD .skip
theorem BN : aL q5 iM oZ pQ := by
 intro n E hn f c hs x k h
 unfold iM at hn
 split at hn
 ·cases hn; exact aK hs (by kernel_rfl) (fun y : Int => ⟨[(17, .fz false (.pair (.int .i64) (.pair (.int .i64) (.pair (.int .i64) (.pair (.int .i64) (.pair (.int .i64) (.pair (.int .i64) .bool)))))) x.1.1), (18, .pl (.int .i64 x.1.2.1)), (19, .pl (.int .i64 y))], []⟩) x.1.2.2.1 (by kernel_rfl) (fun y X => by kernel_rfl) h.it
 ·cases hn
def cO : List Sh := [.agg [.int .i64, .int .i64, .int .i64, .fz false (.pair (.int .i64) (.pair (.int .i64) (.pair (.int .i64) (.pair (.int .i64) (.pair (.int .i64) (.pair (.int .i64) .bool))))))]]
def jD (x : aI cO) (Q : List (Bool × List VV) -> Prop) : Prop := kQ ((x.1.1, (x.1.2.1, x.1.2.2.1)), x.1.2.2.2.1) (fun (r : Bool) => Q (aH [(false, .bool)] [.n] (r, ())))
theorem BJ (x : aI cO) (Q : List (Bool × List VV) -> Prop) (h : jD x Q) : aD Try.prog 25 (aM cO x) Q :=
 aC [.n] (G := q5) (ct := iM) (en := oZ) (fn := Try.f25) (cd := pQ) (rt := [(false, .bool)]) Try.func25 (by kernel_rfl) (by kernel_rfl) (Nat.le_of_ble_eq_true rfl) BN nW (aG rfl) h.it (by kernel_rfl)
noncomputable def jX : FuncId -> List VV -> (List (Bool × List VV) -> Prop) -> Prop := fun f args Q => if f = 25 then unA cO args (fun x => jD x Q) else jW f args Q
theorem nR : ∀ f args Q, jX f args Q -> aD Try.prog f args Q := aE nW (f0 := 25) cO (fun x Q => jD x Q) BJ
noncomputable def rC : Cfg := ⟨Try.prog, tt, jX, fun _ _ _ => False, none, false⟩
def qO (a0 : Int) (a1 : Int) (a2 : Int) (a3 : Int) (Q : Int -> Prop) : Prop :=
 if (((((((((decide (a0 < 1)) || (decide (16 < a0))) || (decide (a1 < 1))) || (decide (5 < a1))) || (decide (a2 < 1))) || (decide (4 < a2))) || (decide (a3 < 0))) || (decide (a1 <= a3))) || (decide ((IntKind.i64.wrap (a0 + (IntKind.i64.wrap (2 * a3)))) < a1))) = true then Q 0 else ck (a2 ≠ (0 : Int)) (Q (IntKind.i64.wrap ((IntKind.i64.wrap ((IntKind.i64.wrap ((IntKind.i64.wrap (a0 + (IntKind.i64.wrap (2 * a3)))) - a1)).tdiv a2)) + 1)))
structure jJ (a0 : Int) (a1 : Int) (a2 : Int) (a3 : Int) (Q : Int -> Prop) : Prop where
 it : qO a0 a1 a2 a3 Q
noncomputable def zF : Tab := fun n => none
noncomputable def zW : Go.Mach.Ends := fun n => match n with | 2 => some ([], [0, 1, 2, 3]) | 12 => some ([], [0, 1, 2, 3, 47]) | 14 => some ([], [8]) | 15 => some ([], [8]) | 27 => some ([], [0, 1, 2, 3]) | 52 => some ([], [8]) | 53 => some ([], [8]) | _ => none
noncomputable def A5 : Code := Try.f71.body.getD .skip
theorem NE : aL rC zF zW A5 := by
 intro n E hn f c hs x k h
 cases hn
def gT : List Sh := [.lf (.int .i64), .lf (.int .i64), .lf (.int .i64), .lf (.int .i64)]
def qP (x : aI gT) (Q : List (Bool × List VV) -> Prop) : Prop := jJ x.1 x.2.1 x.2.2.1 x.2.2.2.1 (fun (r : Int) => Q (aH [(false, (.int .i64))] [.n] (r, ())))
theorem NA (x : aI gT) (Q : List (Bool × List VV) -> Prop) (h : qP x Q) : aD Try.prog 71 (aM gT x) Q :=
 aC [.n] (G := rC) (ct := zF) (en := zW) (fn := Try.f71) (cd := A5) (rt := [(false, (.int .i64))]) Try.func71 (by kernel_rfl) (by kernel_rfl) (Nat.le_of_ble_eq_true rfl) NE nR (aG rfl) h.it (by kernel_rfl)
noncomputable def sF : FuncId -> List VV -> (List (Bool × List VV) -> Prop) -> Prop := fun f args Q => if f = 71 then unA gT args (fun x => qP x Q) else jX f args Q
theorem xD : ∀ f args Q, sF f args Q -> aD Try.prog f args Q := aE nR (f0 := 71) gT (fun x Q => qP x Q) NA
noncomputable def CX : Cfg := ⟨Try.prog, tt, sF, fun _ _ _ => False, none, false⟩
def JQ (a0 : Int) (a1 : Int) (a2 : Int) (a3 : Int) (a4 : Int) (Q : (Int × Int) -> Prop) : Prop :=
 jJ a0 a2 a3 a4 (fun (r1 : Int) => jJ a1 a2 a3 a4 (fun (r2 : Int) => Q (r1, r2)))
structure gS (a0 : Int) (a1 : Int) (a2 : Int) (a3 : Int) (a4 : Int) (Q : (Int × Int) -> Prop) : Prop where
 it : JQ a0 a1 a2 a3 a4 Q
noncomputable def tC : Tab := fun n => none
noncomputable def sS : Go.Mach.Ends := fun n => match n with | 2 => some ([], [0, 1, 2, 3, 4]) | 6 => some ([], [10, 11]) | 7 => some ([], [10, 11]) | _ => none
noncomputable def vS : Code := Try.f47.body.getD .skip
theorem FL : aL CX tC sS vS := by
 intro n E hn f c hs x k h
 cases hn
def dQ : List Sh := [.lf (.int .i64), .lf (.int .i64), .lf (.int .i64), .lf (.int .i64), .lf (.int .i64)]
def lN (x : aI dQ) (Q : List (Bool × List VV) -> Prop) : Prop := gS x.1 x.2.1 x.2.2.1 x.2.2.2.1 x.2.2.2.2.1 (fun (r : Int × Int) => Q (aH [(false, (.int .i64)), (false, (.int .i64))] [.n, .n] (r.1, (r.2, ()))))
theorem FD (x : aI dQ) (Q : List (Bool × List VV) -> Prop) (h : lN x Q) : aD Try.prog 47 (aM dQ x) Q :=
 aC [.n, .n] (G := CX) (ct := tC) (en := sS) (fn := Try.f47) (cd := vS) (rt := [(false, (.int .i64)), (false, (.int .i64))]) Try.func47 (by kernel_rfl) (by kernel_rfl) (Nat.le_of_ble_eq_true rfl) FL xD (aG rfl) h.it (by kernel_rfl)
noncomputable def m8 : FuncId -> List VV -> (List (Bool × List VV) -> Prop) -> Prop := fun f args Q => if f = 47 then unA dQ args (fun x => lN x Q) else sF f args Q
theorem rL : ∀ f args Q, m8 f args Q -> aD Try.prog f args Q := aE xD (f0 := 47) dQ (fun x Q => lN x Q) FD
noncomputable def wV : Cfg := ⟨Try.prog, tt, m8, fun _ _ _ => False, none, false⟩
def dX (x0 : List Int) (x1 : List Int) (x2 : Int) (K0 : Unit -> Prop) (K1 : Unit -> Prop) (s : Int) (nx : Int -> Prop) : Prop :=
 if (decide (s < x2)) = true then ck ((0 : Int) <= s /\ s < (x0.length : Int)) (ck ((0 : Int) <= s /\ s < (x1.length : Int)) (if ((x0.getD ((s).toNat) 0) != (x1.getD ((s).toNat) 0)) = true then K1 () else nx (IntKind.i64.wrap (s + 1)))) else K0 ()
structure pX (x0 : List Int) (x1 : List Int) (x2 : Int) (K0 : Unit -> Prop) (K1 : Unit -> Prop) (s : Int) : Prop where
 it : Go.Mach.Loop (dX x0 x1 x2 K0 K1) s
def q6 (a0 : List Int) (a1 : List Int) (Q : Bool -> Prop) : Prop :=
 if ((a0.length : Int) != (a1.length : Int)) = true then Q false else pX a0 a1 (a0.length : Int) (fun (y1 : Unit) => Q true) (fun (y2 : Unit) => Q false) 0
structure cS (a0 : List Int) (a1 : List Int) (Q : Bool -> Prop) : Prop where
 it : q6 a0 a1 Q
noncomputable def D4 : Ent := ⟨[0, 1, 12, 13], [.lf (.fz false (.int .i64)), .lf (.fz false (.int .i64)), .lf (.int .i64), .lf (.int .i64)], [], fun x k => pX x.1.1 x.1.2.1 x.1.2.2.1 (fun (y3 : Unit) => k (.exit 0) ⟨[], []⟩) (fun (y4 : Unit) => k .ret ⟨[(4, .pl (.bool false))], []⟩) x.1.2.2.2.1⟩
noncomputable def jB : Tab := fun n => match n with | 58 => some D4 | _ => none
noncomputable def p5 : Go.Mach.Ends := fun n => match n with | 2 => some ([], [0, 1]) | 12 => some ([], [0, 1, 10]) | 27 => some ([], [0, 1]) | 28 => some ([], [0, 1, 12, 13]) | 30 => some ([], [4]) | 31 => some ([], [4]) | 52 => some ([], [4]) | 53 => some ([], [4]) | 58 => some ([], [0, 1, 12, 13]) | 232 => some ([], [0, 1, 12, 13, 14]) | 932 => some ([], [0, 1, 12, 13]) | 933 => some ([], []) | 935 => some ([], [0, 1, 12, 13]) | 3736 => some ([], [0, 1, 5, 12, 13]) | 7474 => some ([], [0, 1, 12, 13, 24]) | 14951 => some ([], [0, 1, 12, 13]) | 29900 => some ([], [4]) | 29901 => some ([], [4]) | _ => none
noncomputable def rP : Code := Try.f23.body.getD .skip
theorem DH : aL wV jB p5 rP := by
 intro n E hn f c hs x k h
 unfold jB at hn
 split at hn
 ·cases hn; exact aK hs (by kernel_rfl) (fun y : Int => ⟨[(0, .fz false (.int .i64) x.1.1), (1, .fz false (.int .i64) x.1.2.1), (12, .pl (.int .i64 x.1.2.2.1)), (13, .pl (.int .i64 y))], []⟩) x.1.2.2.2.1 (by kernel_rfl) (fun y X => by kernel_rfl) h.it
 ·cases hn
def cW : List Sh := [.lf (.fz false (.int .i64)), .lf (.fz false (.int .i64))]
def j5 (x : aI cW) (Q : List (Bool × List VV) -> Prop) : Prop := cS x.1 x.2.1 (fun (r : Bool) => Q (aH [(false, .bool)] [.n] (r, ())))
theorem CA (x : aI cW) (Q : List (Bool × List VV) -> Prop) (h : j5 x Q) : aD Try.prog 23 (aM cW x) Q :=
 aC [.n] (G := wV) (ct := jB) (en := p5) (fn := Try.f23) (cd := rP) (rt := [(false, .bool)]) Try.func23 (by kernel_rfl) (by kernel_rfl) (Nat.le_of_ble_eq_true rfl) DH rL (aG rfl) h.it (by kernel_rfl)
noncomputable def kJ : FuncId -> List VV -> (List (Bool × List VV) -> Prop) -> Prop := fun f args Q => if f = 23 then unA cW args (fun x => j5 x Q) else m8 f args Q
theorem oC : ∀ f args Q, kJ f args Q -> aD Try.prog f args Q := aE rL (f0 := 23) cW (fun x Q => j5 x Q) CA
noncomputable def sP : Cfg := ⟨Try.prog, tt, kJ, fun _ _ _ => False, none, false⟩
def pW (x0 : Int) (x1 : Int) (K0 : Bool -> Prop) : Prop :=
 K0 ((decide (0 < x0)) && (decide (0 < x1)))
structure bH (x0 : Int) (x1 : Int) (K0 : Bool -> Prop) : Prop where
 it : pW x0 x1 K0
def fD (x1 : List Int) (x2 : Int) (K0 : Int -> Prop) (s : Int × Int) (nx : (Int × Int) -> Prop) : Prop :=
 if (decide (s.2 < x2)) = true then ck ((0 : Int) <= s.2 /\ s.2 < (x1.length : Int)) (nx (IntKind.i64.wrap (s.1 * (x1.getD ((s.2).toNat) 0)), IntKind.i64.wrap (s.2 + 1))) else K0 s.1
structure dR (x1 : List Int) (x2 : Int) (K0 : Int -> Prop) (s : Int × Int) : Prop where
 it : Go.Mach.Loop (fD x1 x2 K0) s
def uF (a0 : Int × Int × Int × Int × Int × Int × Bool) (a1 : List Int) (a2 : List (List Int)) (Q : ((List Int) × Bool) -> Prop) : Prop :=
 if (a0.1 == 1) = true then Q ([a0.2.1], (a1.length : Int) == 1) else if (a0.1 == 2) = true then if (a0.1 == 2) = true then if ((a1.length : Int) != 3) = true then Q (([] : List Int), false) else ck ((0 : Int) <= 1 /\ 1 < (a1.length : Int)) (ck ((0 : Int) <= 2 /\ 2 < (a1.length : Int)) (gS (a1.getD 1 0) (a1.getD 2 0) a0.2.2.1 a0.2.2.2.1 a0.2.2.2.2.1 (fun (r1 : Int × Int) => ck ((0 : Int) <= 0 /\ 0 < (a1.length : Int)) (if (a0.1 == 2) = true then bH r1.1 r1.2 (fun (y2 : Bool) => Q ([a0.2.1, r1.1, r1.2], y2)) else bH r1.1 r1.2 (fun (y3 : Bool) => Q ([(a1.getD 0 0), r1.1, r1.2], y3)))))) else if (a0.1 == 6) = true then dR a1 (a1.length : Int) (fun (y4 : Int) => Q ([y4], true)) (1, 0) else if (a0.1 == 7) = true then ck (a1.length * 8 <= 140737488355328) (ck ((0 : Int) <= a0.2.2.2.2.2.1 /\ a0.2.2.2.2.2.1 < (a2.length : Int)) (cS a1 (a2.getD ((a0.2.2.2.2.2.1).toNat) []) (fun (r5 : Bool) => Q (a1, r5)))) else ck (a1.length * 8 <= 140737488355328) (Q (a1, true)) else if (a0.1 == 3) = true then if (a0.1 == 3) = true then if ((a1.length : Int) != 3) = true then Q (([] : List Int), false) else ck ((0 : Int) <= 1 /\ 1 < (a1.length : Int)) (ck ((0 : Int) <= 2 /\ 2 < (a1.length : Int)) (gS (a1.getD 1 0) (a1.getD 2 0) a0.2.2.1 a0.2.2.2.1 a0.2.2.2.2.1 (fun (r6 : Int × Int) => ck ((0 : Int) <= 0 /\ 0 < (a1.length : Int)) (if (a0.1 == 2) = true then bH r6.1 r6.2 (fun (y7 : Bool) => Q ([a0.2.1, r6.1, r6.2], y7)) else bH r6.1 r6.2 (fun (y8 : Bool) => Q ([(a1.getD 0 0), r6.1, r6.2], y8)))))) else if (a0.1 == 6) = true then dR a1 (a1.length : Int) (fun (y9 : Int) => Q ([y9], true)) (1, 0) else if (a0.1 == 7) = true then ck (a1.length * 8 <= 140737488355328) (ck ((0 : Int) <= a0.2.2.2.2.2.1 /\ a0.2.2.2.2.2.1 < (a2.length : Int)) (cS a1 (a2.getD ((a0.2.2.2.2.2.1).toNat) []) (fun (r10 : Bool) => Q (a1, r10)))) else ck (a1.length * 8 <= 140737488355328) (Q (a1, true)) else if (a0.1 == 4) = true then if ((a1.length : Int) != 3) = true then Q (([] : List Int), false) else ck ((0 : Int) <= 1 /\ 1 < (a1.length : Int)) (ck ((0 : Int) <= 2 /\ 2 < (a1.length : Int)) (gS (a1.getD 1 0) (a1.getD 2 0) a0.2.2.1 a0.2.2.2.1 a0.2.2.2.2.1 (fun (r11 : Int × Int) => ck ((0 : Int) <= 0 /\ 0 < (a1.length : Int)) (if (a0.1 == 2) = true then bH r11.1 r11.2 (fun (y12 : Bool) => Q ([a0.2.1, r11.1, r11.2], y12)) else bH r11.1 r11.2 (fun (y13 : Bool) => Q ([(a1.getD 0 0), r11.1, r11.2], y13)))))) else if (a0.1 == 6) = true then dR a1 (a1.length : Int) (fun (y14 : Int) => Q ([y14], true)) (1, 0) else if (a0.1 == 7) = true then ck (a1.length * 8 <= 140737488355328) (ck ((0 : Int) <= a0.2.2.2.2.2.1 /\ a0.2.2.2.2.2.1 < (a2.length : Int)) (cS a1 (a2.getD ((a0.2.2.2.2.2.1).toNat) []) (fun (r15 : Bool) => Q (a1, r15)))) else ck (a1.length * 8 <= 140737488355328) (Q (a1, true))
structure pC (a0 : Int × Int × Int × Int × Int × Int × Bool) (a1 : List Int) (a2 : List (List Int)) (Q : ((List Int) × Bool) -> Prop) : Prop where
 it : uF a0 a1 a2 Q
noncomputable def II : Ent := ⟨[8, 9, 10], [.lf (.int .i64), .lf (.int .i64), .lf (.int .i64)], [], fun x k => bH x.1.1 x.1.2.1 (fun (y16 : Bool) => k .ret ⟨[(6, .own 0), (7, .pl (.bool y16))], [.lst true (.int .i64) [x.1.2.2.1, x.1.1, x.1.2.1] false]⟩)⟩
noncomputable def HU : Ent := ⟨[11, 67, 68, 69], [.lf (.int .i64), .lf (.fz false (.int .i64)), .lf (.int .i64), .lf (.int .i64)], [], fun x k => dR x.1.2.1 x.1.2.2.1 (fun (y17 : Int) => k (.exit 1) ⟨[(11, .pl (.int .i64 y17))], []⟩) (x.1.1, x.1.2.2.2.1)⟩
noncomputable def kX : Tab := fun n => match n with | 6895 => some II | 27626 => some HU | _ => none
noncomputable def tH : Go.Mach.Ends := fun n => match n with | 2 => some ([], [1, 2, 3]) | 12 => some ([], [1, 2, 3, 15]) | 14 => some ([], [6, 7]) | 15 => some ([], [6, 7]) | 52 => some ([], [1, 2, 3, 15, 16]) | 212 => some ([], [6, 7]) | 213 => some ([], [6, 7]) | 428 => some ([], [1, 2, 3, 15, 24]) | 858 => some ([], [1, 2, 3, 15, 24]) | 862 => some ([], [1, 2, 3, 15, 65]) | 1718 => some ([], [1, 2, 3, 15, 24]) | 1720 => some ([], [1, 3, 30]) | 1722 => some ([], [1, 3, 8, 9]) | 3438 => some ([], [1, 2, 3, 15, 24]) | 3439 => some ([], [1, 2, 3, 15, 24]) | 3443 => some ([], [1, 3]) | 3446 => some ([], [3, 8, 9, 10]) | 3452 => some ([], [1, 11]) | 3454 => some ([], [1, 2, 3, 79]) | 6884 => some ([], [6, 7]) | 6885 => some ([], [6, 7]) | 6911 => some ([], [1]) | 13788 => some ([], [3, 8, 9, 10, 52]) | 13790 => some ([], [6, 7]) | 13791 => some ([], [6, 7]) | 13812 => some ([], [11, 67, 68, 69]) | 13814 => some ([], [6, 7]) | 13815 => some ([], [6, 7]) | 13820 => some ([], [6, 7]) | 13821 => some ([], [6, 7]) | 27578 => some ([], [8, 9, 10]) | 27579 => some ([], [8, 9, 10]) | 27626 => some ([], [11, 67, 68, 69]) | 110504 => some ([], [11, 67, 68, 69, 70]) | 442020 => some ([], [11, 67, 68, 69]) | 442021 => some ([], [11]) | 442023 => some ([], [11, 67, 68, 69]) | 1768088 => some ([], [11, 13, 67, 68, 69]) | 1768089 => some ([], [11, 67, 68, 69]) | _ => none
noncomputable def vC : Code := Try.f26.body.getD .skip
theorem F8 : aL sP kX tH vC := by
 intro n E hn f c hs x k h
 unfold kX at hn
 split at hn
 ·cases hn; exact bT hs (by kernel_rfl) (by kernel_rfl) h.it
 ·cases hn; exact aK hs (by kernel_rfl) (fun y : Int × Int => ⟨[(11, .pl (.int .i64 y.1)), (67, .fz false (.int .i64) x.1.2.1), (68, .pl (.int .i64 x.1.2.2.1)), (69, .pl (.int .i64 y.2))], []⟩) (x.1.1, x.1.2.2.2.1) (by kernel_rfl) (fun y X => by kernel_rfl) h.it
 ·cases hn
def dS : List Sh := [.agg [.int .i64, .int .i64, .int .i64, .int .i64, .int .i64, .int .i64, .bool], .lf (.fz false (.int .i64)), .lf (.fz false (.slc (.int .i64)))]
def lM (x : aI dS) (Q : List (Bool × List VV) -> Prop) : Prop := pC (x.1.1, (x.1.2.1, (x.1.2.2.1, (x.1.2.2.2.1, (x.1.2.2.2.2.1, (x.1.2.2.2.2.2.1, x.1.2.2.2.2.2.2.1)))))) x.2.1 x.2.2.1 (fun (r : (List Int) × Bool) => Q (aH [(false, (.slc (.int .i64))), (false, .bool)] [.n, .n] (r.1, (r.2, ()))))
theorem FO (x : aI dS) (Q : List (Bool × List VV) -> Prop) (h : lM x Q) : aD Try.prog 26 (aM dS x) Q :=
 aC [.n, .n] (G := sP) (ct := kX) (en := tH) (fn := Try.f26) (cd := vC) (rt := [(false, (.slc (.int .i64))), (false, .bool)]) Try.func26 (by kernel_rfl) (by kernel_rfl) (Nat.le_of_ble_eq_true rfl) F8 oC (aG rfl) h.it (by kernel_rfl)
noncomputable def nE : FuncId -> List VV -> (List (Bool × List VV) -> Prop) -> Prop := fun f args Q => if f = 26 then unA dS args (fun x => lM x Q) else kJ f args Q
theorem qW : ∀ f args Q, nE f args Q -> aD Try.prog f args Q := aE oC (f0 := 26) dS (fun x Q => lM x Q) FO
noncomputable def wQ : Cfg := ⟨Try.prog, tt, nE, fun _ _ _ => False, none, false⟩
def eC (x0 : List (Int × Int × Int × Int × Int × Int × Bool)) (x1 : Int) (K0 : (List (List Int)) -> Prop) (K1 : (Int × Int) -> Prop) (s : Int × List (List Int)) (nx : (Int × List (List Int)) -> Prop) : Prop :=
 if (decide (s.1 < x1)) = true then ck ((0 : Int) <= s.1 /\ s.1 < (x0.length : Int)) (ck ((0 : Int) <= s.1 /\ s.1 < (s.2.length : Int)) (pC ((x0.getD ((s.1).toNat) (0, (0, (0, (0, (0, (0, false))))))).1, (((x0.getD ((s.1).toNat) (0, (0, (0, (0, (0, (0, false))))))).2).1, ((((x0.getD ((s.1).toNat) (0, (0, (0, (0, (0, (0, false))))))).2).2).1, (((((x0.getD ((s.1).toNat) (0, (0, (0, (0, (0, (0, false))))))).2).2).2).1, ((((((x0.getD ((s.1).toNat) (0, (0, (0, (0, (0, (0, false))))))).2).2).2).2).1, (((((((x0.getD ((s.1).toNat) (0, (0, (0, (0, (0, (0, false))))))).2).2).2).2).2).1, ((((((x0.getD ((s.1).toNat) (0, (0, (0, (0, (0, (0, false))))))).2).2).2).2).2).2)))))) (s.2.getD ((s.1).toNat) []) s.2 (fun (r2 : (List Int) × Bool) => if (!r2.2) = true then K1 (IntKind.i64.wrap (s.1 + 1), 2) else cD r2.1 (fun (r3 : Bool) => if (!r3) = true then K1 (IntKind.i64.wrap (s.1 + 1), 1) else ck ((s.2.length + [r2.1].length) * 24 <= 140737488355328) (nx (IntKind.i64.wrap (s.1 + 1), s.2 ++ [r2.1])))))) else K0 s.2
structure rQ (x0 : List (Int × Int × Int × Int × Int × Int × Bool)) (x1 : Int) (K0 : (List (List Int)) -> Prop) (K1 : (Int × Int) -> Prop) (s : Int × List (List Int)) : Prop where
 it : Go.Mach.Loop (eC x0 x1 K0 K1) s
def G3 (a0 : (Int × Int × Int) × List (Int × Int × Int × Int × Int × Int × Bool)) (Q : ((List (List Int)) × Int × Int) -> Prop) : Prop :=
 kQ ((a0.1.1, (a0.1.2.1, a0.1.2.2)), a0.2) (fun (r1 : Bool) => if (!r1) = true then Q (([] : List (List Int)), 0, 1) else rQ a0.2 (a0.2.length : Int) (fun (y4 : List (List Int)) => Q (y4, 0, 0)) (fun (y5 : Int × Int) => Q (([] : List (List Int)), y5.1, y5.2)) (0, [[a0.1.1, a0.1.2.1, a0.1.2.2]]))
structure fE (a0 : (Int × Int × Int) × List (Int × Int × Int × Int × Int × Int × Bool)) (Q : ((List (List Int)) × Int × Int) -> Prop) : Prop where
 it : G3 a0 Q
noncomputable def E9 : Ent := ⟨[5, 25, 26, 27], [.lf (.cst (.own 0)), .lf (.fz false (.pair (.int .i64) (.pair (.int .i64) (.pair (.int .i64) (.pair (.int .i64) (.pair (.int .i64) (.pair (.int .i64) .bool))))))), .lf (.int .i64), .lf (.int .i64)], [.lst true (.slc (.int .i64)) false], fun x k => rQ x.1.2.1 x.1.2.2.1 (fun (y6 : List (List Int)) => k (.exit 0) ⟨[(5, .own 0)], [.lst true (.slc (.int .i64)) y6 false]⟩) (fun (y7 : Int × Int) => k .ret ⟨[(2, .pl (.slice none 0 0)), (3, .pl (.int .i64 y7.1)), (4, .pl (.int .i64 y7.2))], []⟩) (x.1.2.2.2.1, x.2.1)⟩
noncomputable def jS : Tab := fun n => match n with | 122 => some E9 | _ => none
noncomputable def rD : Go.Mach.Ends := fun n => match n with | 2 => some ([], [1]) | 12 => some ([], [1, 12]) | 14 => some ([], [1, 5]) | 27 => some ([], [1]) | 52 => some ([], [2, 3, 4]) | 53 => some ([], [2, 3, 4]) | 60 => some ([], [5, 25, 26, 27]) | 62 => some ([], [2, 3, 4]) | 63 => some ([], [2, 3, 4]) | 122 => some ([], [5, 25, 26, 27]) | 488 => some ([], [5, 25, 26, 27, 28]) | 1956 => some ([], [5, 25, 26, 27]) | 1957 => some ([], [5]) | 1959 => some ([], [5, 25, 26, 27]) | 7832 => some ([], [5, 6, 7, 25, 26, 27]) | 15666 => some ([], [5, 6, 8, 9, 25, 26, 27]) | 62668 => some ([], [5, 6, 8, 25, 26, 27, 43]) | 62671 => some ([], [5, 25, 26, 27]) | 125339 => some ([], [5, 6, 8, 25, 26, 27]) | 125340 => some ([], [5, 6, 8, 25, 26, 27, 48]) | 250676 => some ([], [2, 3, 4]) | 250677 => some ([], [2, 3, 4]) | 250683 => some ([], [5, 8, 25, 26, 27]) | 501364 => some ([], [2, 3, 4]) | 501365 => some ([], [2, 3, 4]) | _ => none
noncomputable def tM : Code := Try.f12.body.getD .skip
theorem D3 : aL wQ jS rD tM := by
 intro n E hn f c hs x k h
 unfold jS at hn
 split at hn
 ·cases hn; exact aK hs (by kernel_rfl) (fun y : Int × List (List Int) => ⟨[(5, .own 0), (25, .fz false (.pair (.int .i64) (.pair (.int .i64) (.pair (.int .i64) (.pair (.int .i64) (.pair (.int .i64) (.pair (.int .i64) .bool)))))) x.1.2.1), (26, .pl (.int .i64 x.1.2.2.1)), (27, .pl (.int .i64 y.1))], [.lst true (.slc (.int .i64)) y.2 false]⟩) (x.1.2.2.2.1, x.2.1) (by kernel_rfl) (fun y X => by kernel_rfl) h.it
 ·cases hn
def dA : List Sh := [.agg [.int .i64, .int .i64, .int .i64, .fz false (.pair (.int .i64) (.pair (.int .i64) (.pair (.int .i64) (.pair (.int .i64) (.pair (.int .i64) (.pair (.int .i64) .bool))))))]]
def kM (x : aI dA) (Q : List (Bool × List VV) -> Prop) : Prop := fE ((x.1.1, (x.1.2.1, x.1.2.2.1)), x.1.2.2.2.1) (fun (r : (List (List Int)) × Int × Int) => Q (aH [(false, (.slc (.slc (.int .i64)))), (false, (.int .i64)), (false, (.int .i64))] [.n, .n, .n] (r.1, (r.2.1, (r.2.2, ())))))
theorem DY (x : aI dA) (Q : List (Bool × List VV) -> Prop) (h : kM x Q) : aD Try.prog 12 (aM dA x) Q :=
 aC [.n, .n, .n] (G := wQ) (ct := jS) (en := rD) (fn := Try.f12) (cd := tM) (rt := [(false, (.slc (.slc (.int .i64)))), (false, (.int .i64)), (false, (.int .i64))]) Try.func12 (by kernel_rfl) (by kernel_rfl) (Nat.le_of_ble_eq_true rfl) D3 qW (aG rfl) h.it (by kernel_rfl)
noncomputable def l9 : FuncId -> List VV -> (List (Bool × List VV) -> Prop) -> Prop := fun f args Q => if f = 12 then unA dA args (fun x => kM x Q) else nE f args Q
theorem qC : ∀ f args Q, l9 f args Q -> aD Try.prog f args Q := aE qW (f0 := 12) dA (fun x Q => kM x Q) DY
noncomputable def uD : Cfg := ⟨Try.prog, tt, l9, fun _ _ _ => False, none, false⟩
def wL (a0 : Int × Int × Int × Int × Int × Int × Bool) (a1 : List Int) (Q : ((List Int) × Int) -> Prop) : Prop :=
 if (a0.1 == 1) = true then ck ((0 : Int) <= 0 /\ 0 < (a1.length : Int)) (Q ([a0.2.1, a1.getD 0 0], a0.2.1)) else if (a0.1 == 2) = true then ck ((0 : Int) <= 0 /\ 0 < (a1.length : Int)) (Q ([a0.2.1, a1.getD 0 0, a0.2.2.1, a0.2.2.1], a0.2.1)) else Q (([] : List Int), 0)
structure kB (a0 : Int × Int × Int × Int × Int × Int × Bool) (a1 : List Int) (Q : ((List Int) × Int) -> Prop) : Prop where
 it : wL a0 a1 Q
noncomputable def t7 : Tab := fun n => none
noncomputable def uU : Go.Mach.Ends := fun n => match n with | 2 => some ([], [1, 2]) | 12 => some ([], [1, 2, 7]) | 14 => some ([], [4, 5]) | 15 => some ([], [4, 5]) | 52 => some ([], [1, 2, 7, 8]) | 212 => some ([], [4, 5]) | 213 => some ([], [4, 5]) | 214 => some ([], [1, 2, 18]) | 431 => some ([], []) | 860 => some ([], [4, 5]) | 861 => some ([], [4, 5]) | _ => none
noncomputable def wN : Code := Try.f27.body.getD .skip
theorem GW : aL uD t7 uU wN := by
 intro n E hn f c hs x k h
 cases hn
def eH : List Sh := [.agg [.int .i64, .int .i64, .int .i64, .int .i64, .int .i64, .int .i64, .bool], .lf (.fz false (.int .i64))]
def nK (x : aI eH) (Q : List (Bool × List VV) -> Prop) : Prop := kB (x.1.1, (x.1.2.1, (x.1.2.2.1, (x.1.2.2.2.1, (x.1.2.2.2.2.1, (x.1.2.2.2.2.2.1, x.1.2.2.2.2.2.2.1)))))) x.2.1 (fun (r : (List Int) × Int) => Q (aH [(false, (.slc (.int .i64))), (false, (.int .i64))] [.n, .n] (r.1, (r.2, ()))))
theorem GS (x : aI eH) (Q : List (Bool × List VV) -> Prop) (h : nK x Q) : aD Try.prog 27 (aM eH x) Q :=
 aC [.n, .n] (G := uD) (ct := t7) (en := uU) (fn := Try.f27) (cd := wN) (rt := [(false, (.slc (.int .i64))), (false, (.int .i64))]) Try.func27 (by kernel_rfl) (by kernel_rfl) (Nat.le_of_ble_eq_true rfl) GW qC (aG rfl) h.it (by kernel_rfl)
noncomputable def pA : FuncId -> List VV -> (List (Bool × List VV) -> Prop) -> Prop := fun f args Q => if f = 27 then unA eH args (fun x => nK x Q) else l9 f args Q
theorem tJ : ∀ f args Q, pA f args Q -> aD Try.prog f args Q := aE qC (f0 := 27) eH (fun x Q => nK x Q) GS
noncomputable def zP : Cfg := ⟨Try.prog, tt, pA, fun _ _ _ => False, none, false⟩
def M2 (a0 : (Int × Int × Int) × List (Int × Int × Int × Int × Int × Int × Bool)) (a1 : Int) (Q : ((List Int) × Int) -> Prop) : Prop :=
 fE ((a0.1.1, (a0.1.2.1, a0.1.2.2)), a0.2) (fun (r1 : (List (List Int)) × Int × Int) => if (((r1.2.2 != 0) || (decide (a1 < 1))) || (decide ((a0.2.length : Int) < a1))) = true then Q (([] : List Int), 0) else ck ((0 : Int) <= (IntKind.i64.wrap (a1 - 1)) /\ (IntKind.i64.wrap (a1 - 1)) < (a0.2.length : Int)) (ck ((0 : Int) <= (IntKind.i64.wrap (a1 - 1)) /\ (IntKind.i64.wrap (a1 - 1)) < (r1.1.length : Int)) (kB ((a0.2.getD ((IntKind.i64.wrap (a1 - 1)).toNat) (0, (0, (0, (0, (0, (0, false))))))).1, (((a0.2.getD ((IntKind.i64.wrap (a1 - 1)).toNat) (0, (0, (0, (0, (0, (0, false))))))).2).1, ((((a0.2.getD ((IntKind.i64.wrap (a1 - 1)).toNat) (0, (0, (0, (0, (0, (0, false))))))).2).2).1, (((((a0.2.getD ((IntKind.i64.wrap (a1 - 1)).toNat) (0, (0, (0, (0, (0, (0, false))))))).2).2).2).1, ((((((a0.2.getD ((IntKind.i64.wrap (a1 - 1)).toNat) (0, (0, (0, (0, (0, (0, false))))))).2).2).2).2).1, (((((((a0.2.getD ((IntKind.i64.wrap (a1 - 1)).toNat) (0, (0, (0, (0, (0, (0, false))))))).2).2).2).2).2).1, ((((((a0.2.getD ((IntKind.i64.wrap (a1 - 1)).toNat) (0, (0, (0, (0, (0, (0, false))))))).2).2).2).2).2).2)))))) (r1.1.getD ((IntKind.i64.wrap (a1 - 1)).toNat) []) (fun (r2 : (List Int) × Int) => cD r2.1 (fun (r3 : Bool) => if (!r3) = true then Q (([] : List Int), 0) else Q (r2.1, r2.2))))))
structure qG (a0 : (Int × Int × Int) × List (Int × Int × Int × Int × Int × Int × Bool)) (a1 : Int) (Q : ((List Int) × Int) -> Prop) : Prop where
 it : M2 a0 a1 Q
noncomputable def tV : Tab := fun n => none
noncomputable def vK : Go.Mach.Ends := fun n => match n with | 2 => some ([], [1, 2]) | 6 => some ([], [1, 2, 6, 8]) | 28 => some ([], [1, 2, 6, 29]) | 30 => some ([], [9, 10]) | 59 => some ([], [1, 2, 6]) | 116 => some ([], [4, 5]) | 117 => some ([], [4, 5]) | 124 => some ([], [9, 10, 47]) | 126 => some ([], [4, 5]) | 127 => some ([], [4, 5]) | 251 => some ([], [9, 10]) | 500 => some ([], [4, 5]) | 501 => some ([], [4, 5]) | _ => none
noncomputable def wX : Code := Try.f13.body.getD .skip
theorem GZ : aL zP tV vK wX := by
 intro n E hn f c hs x k h
 cases hn
def eE : List Sh := [.agg [.int .i64, .int .i64, .int .i64, .fz false (.pair (.int .i64) (.pair (.int .i64) (.pair (.int .i64) (.pair (.int .i64) (.pair (.int .i64) (.pair (.int .i64) .bool))))))], .lf (.int .i64)]
def nG (x : aI eE) (Q : List (Bool × List VV) -> Prop) : Prop := qG ((x.1.1, (x.1.2.1, x.1.2.2.1)), x.1.2.2.2.1) x.2.1 (fun (r : (List Int) × Int) => Q (aH [(false, (.slc (.int .i64))), (false, (.int .i64))] [.n, .n] (r.1, (r.2, ()))))
theorem GR (x : aI eE) (Q : List (Bool × List VV) -> Prop) (h : nG x Q) : aD Try.prog 13 (aM eE x) Q :=
 aC [.n, .n] (G := zP) (ct := tV) (en := vK) (fn := Try.f13) (cd := wX) (rt := [(false, (.slc (.int .i64))), (false, (.int .i64))]) Try.func13 (by kernel_rfl) (by kernel_rfl) (Nat.le_of_ble_eq_true rfl) GZ tJ (aG rfl) h.it (by kernel_rfl)
noncomputable def oQ : FuncId -> List VV -> (List (Bool × List VV) -> Prop) -> Prop := fun f args Q => if f = 13 then unA eE args (fun x => nG x Q) else pA f args Q
theorem tP : ∀ f args Q, oQ f args Q -> aD Try.prog f args Q := aE tJ (f0 := 13) eE (fun x Q => nG x Q) GR
noncomputable def zC : Cfg := ⟨Try.prog, tt, oQ, fun _ _ _ => False, none, false⟩
def QY (a0 : Int) (Q : Int -> Prop) : Prop :=
 ck ((0 : Int) <= 30) (ck ((0 : Int) <= 27) (ck ((0 : Int) <= 31) (Q (IntKind.u64.wrap ((BitVec.ofInt (IntKind.u64).bits (IntKind.u64.wrap ((IntKind.u64.wrap ((BitVec.ofInt (IntKind.u64).bits (IntKind.u64.wrap ((IntKind.u64.wrap ((BitVec.ofInt (IntKind.u64).bits (IntKind.u64.wrap (a0 + 11400714819323198485)) ^^^ BitVec.ofInt (IntKind.u64).bits ((IntKind.u64.wrap (a0 + 11400714819323198485)).fdiv (2 ^ (min ((30 : Int)).toNat (IntKind.u64).bits)))).toNat : Nat)) * 13787848793156543929)) ^^^ BitVec.ofInt (IntKind.u64).bits ((IntKind.u64.wrap ((IntKind.u64.wrap ((BitVec.ofInt (IntKind.u64).bits (IntKind.u64.wrap (a0 + 11400714819323198485)) ^^^ BitVec.ofInt (IntKind.u64).bits ((IntKind.u64.wrap (a0 + 11400714819323198485)).fdiv (2 ^ (min ((30 : Int)).toNat (IntKind.u64).bits)))).toNat : Nat)) * 13787848793156543929)).fdiv (2 ^ (min ((27 : Int)).toNat (IntKind.u64).bits)))).toNat : Nat)) * 10723151780598845931)) ^^^ BitVec.ofInt (IntKind.u64).bits ((IntKind.u64.wrap ((IntKind.u64.wrap ((BitVec.ofInt (IntKind.u64).bits (IntKind.u64.wrap ((IntKind.u64.wrap ((BitVec.ofInt (IntKind.u64).bits (IntKind.u64.wrap (a0 + 11400714819323198485)) ^^^ BitVec.ofInt (IntKind.u64).bits ((IntKind.u64.wrap (a0 + 11400714819323198485)).fdiv (2 ^ (min ((30 : Int)).toNat (IntKind.u64).bits)))).toNat : Nat)) * 13787848793156543929)) ^^^ BitVec.ofInt (IntKind.u64).bits ((IntKind.u64.wrap ((IntKind.u64.wrap ((BitVec.ofInt (IntKind.u64).bits (IntKind.u64.wrap (a0 + 11400714819323198485)) ^^^ BitVec.ofInt (IntKind.u64).bits ((IntKind.u64.wrap (a0 + 11400714819323198485)).fdiv (2 ^ (min ((30 : Int)).toNat (IntKind.u64).bits)))).toNat : Nat)) * 13787848793156543929)).fdiv (2 ^ (min ((27 : Int)).toNat (IntKind.u64).bits)))).toNat : Nat)) * 10723151780598845931)).fdiv (2 ^ (min ((31 : Int)).toNat (IntKind.u64).bits)))).toNat : Nat)))))
structure eI (a0 : Int) (Q : Int -> Prop) : Prop where
 it : QY a0 Q
noncomputable def yX : Tab := fun n => none
noncomputable def yR : Go.Mach.Ends := fun n => match n with | 2 => some ([], [0]) | 6 => some ([], [0]) | 14 => some ([], [0]) | 30 => some ([], [0]) | 62 => some ([], [2]) | 63 => some ([], [2]) | _ => none
noncomputable def BE : Code := Try.f49.body.getD .skip
theorem M8 : aL zC yX yR BE := by
 intro n E hn f c hs x k h
 cases hn
def gQ : List Sh := [.lf (.int .u64)]
def qN (x : aI gQ) (Q : List (Bool × List VV) -> Prop) : Prop := eI x.1 (fun (r : Int) => Q (aH [(false, (.int .u64))] [.n] (r, ())))
theorem MZ (x : aI gQ) (Q : List (Bool × List VV) -> Prop) (h : qN x Q) : aD Try.prog 49 (aM gQ x) Q :=
 aC [.n] (G := zC) (ct := yX) (en := yR) (fn := Try.f49) (cd := BE) (rt := [(false, (.int .u64))]) Try.func49 (by kernel_rfl) (by kernel_rfl) (Nat.le_of_ble_eq_true rfl) M8 tP (aG rfl) h.it (by kernel_rfl)
noncomputable def sH : FuncId -> List VV -> (List (Bool × List VV) -> Prop) -> Prop := fun f args Q => if f = 49 then unA gQ args (fun x => qN x Q) else oQ f args Q
theorem w9 : ∀ f args Q, sH f args Q -> aD Try.prog f args Q := aE tP (f0 := 49) gQ (fun x Q => qN x Q) MZ
noncomputable def DX : Cfg := ⟨Try.prog, tt, sH, fun _ _ _ => False, none, false⟩
def UN (a0 : Int) (a1 : Int) (a2 : Int) (Q : Int -> Prop) : Prop :=
 eI a0 (fun (r1 : Int) => eI (IntKind.u64.wrap ((BitVec.ofInt (IntKind.u64).bits r1 ^^^ BitVec.ofInt (IntKind.u64).bits a1).toNat : Nat)) (fun (r2 : Int) => eI (IntKind.u64.wrap ((BitVec.ofInt (IntKind.u64).bits r2 ^^^ BitVec.ofInt (IntKind.u64).bits a2).toNat : Nat)) (fun (r3 : Int) => Q r3)))
structure xJ (a0 : Int) (a1 : Int) (a2 : Int) (Q : Int -> Prop) : Prop where
 it : UN a0 a1 a2 Q
noncomputable def A9 : Tab := fun n => none
noncomputable def A3 : Go.Mach.Ends := fun n => match n with | 2 => some ([], [0, 1, 2]) | 6 => some ([], [6]) | 7 => some ([], [6]) | _ => none
noncomputable def DU : Code := Try.f48.body.getD .skip
theorem OP : aL DX A9 A3 DU := by
 intro n E hn f c hs x k h
 cases hn
def iA : List Sh := [.lf (.int .u64), .lf (.int .u64), .lf (.int .u64)]
def sI (x : aI iA) (Q : List (Bool × List VV) -> Prop) : Prop := xJ x.1 x.2.1 x.2.2.1 (fun (r : Int) => Q (aH [(false, (.int .u64))] [.n] (r, ())))
theorem PZ (x : aI iA) (Q : List (Bool × List VV) -> Prop) (h : sI x Q) : aD Try.prog 48 (aM iA x) Q :=
 aC [.n] (G := DX) (ct := A9) (en := A3) (fn := Try.f48) (cd := DU) (rt := [(false, (.int .u64))]) Try.func48 (by kernel_rfl) (by kernel_rfl) (Nat.le_of_ble_eq_true rfl) OP w9 (aG rfl) h.it (by kernel_rfl)
noncomputable def vQ : FuncId -> List VV -> (List (Bool × List VV) -> Prop) -> Prop := fun f args Q => if f = 48 then unA iA args (fun x => sI x Q) else sH f args Q
theorem zX : ∀ f args Q, vQ f args Q -> aD Try.prog f args Q := aE w9 (f0 := 48) iA (fun x Q => sI x Q) PZ
noncomputable def EB : Cfg := ⟨Try.prog, tt, vQ, fun _ _ _ => False, none, false⟩
def gK (x0 : Int) (x1 : Int) (K0 : Unit -> Prop) (K1 : Int -> Prop) (s : Int × Int) (nx : (Int × Int) -> Prop) : Prop :=
 if (decide (s.2 < 100)) = true then if (decide (x1 <= s.1)) = true then ck ((IntKind.u64.wrap x0) ≠ (0 : Int)) (K1 (IntKind.i64.wrap ((s.1).tmod (IntKind.u64.wrap x0)))) else eI s.1 (fun (r2 : Int) => nx (r2, IntKind.i64.wrap (s.2 + 1))) else K0 ()
structure tW (x0 : Int) (x1 : Int) (K0 : Unit -> Prop) (K1 : Int -> Prop) (s : Int × Int) : Prop where
 it : Go.Mach.Loop (gK x0 x1 K0 K1) s
def wM (a0 : Int) (a1 : Int) (a2 : Int) (a3 : Int) (Q : Int -> Prop) : Prop :=
 if ((decide (a3 < 1)) || (decide (2147483648 < a3))) = true then Q 0 else ck ((IntKind.u64.wrap a3) ≠ (0 : Int)) (ck ((IntKind.u64.wrap a3) ≠ (0 : Int)) (xJ a0 a1 a2 (fun (r1 : Int) => tW a3 ((IntKind.u64.wrap ((((18446744073709551615 : Int)).tmod (IntKind.u64.wrap a3)) + 1)).tmod (IntKind.u64.wrap a3)) (fun (y3 : Unit) => Q 0) (fun (y4 : Int) => Q y4) (r1, 0))))
structure qI (a0 : Int) (a1 : Int) (a2 : Int) (a3 : Int) (Q : Int -> Prop) : Prop where
 it : wM a0 a1 a2 a3 Q
noncomputable def KI : Ent := ⟨[3, 9, 10, 28], [.lf (.int .i64), .lf (.int .u64), .lf (.int .u64), .lf (.int .i64)], [], fun x k => tW x.1.1 x.1.2.1 (fun (y5 : Unit) => k (.exit 0) ⟨[], []⟩) (fun (y6 : Int) => k .ret ⟨[(8, .pl (.int .i64 y6))], []⟩) (x.1.2.2.1, x.1.2.2.2.1)⟩
noncomputable def lQ : Tab := fun n => match n with | 250 => some KI | _ => none
noncomputable def u9 : Go.Mach.Ends := fun n => match n with | 2 => some ([], [0, 1, 2, 3]) | 12 => some ([], [0, 1, 2, 3, 16]) | 14 => some ([], [0, 1, 2, 3, 9]) | 27 => some ([], [0, 1, 2, 3]) | 30 => some ([], [3, 9, 10]) | 52 => some ([], [8]) | 53 => some ([], [8]) | 124 => some ([], [3, 9, 10, 28]) | 126 => some ([], [8]) | 127 => some ([], [8]) | 250 => some ([], [3, 9, 10, 28]) | 1000 => some ([], [3, 9, 10, 28, 29]) | 4004 => some ([], [3, 9, 10, 28]) | 4005 => some ([], []) | 4007 => some ([], [3, 9, 10, 28]) | 16025 => some ([], [3, 9, 10, 28]) | 32048 => some ([], [3, 9, 10, 28, 32]) | 64099 => some ([], [3, 9, 10, 28]) | 128196 => some ([], [8]) | 128197 => some ([], [8]) | _ => none
noncomputable def xB : Code := Try.f28.body.getD .skip
theorem HI : aL EB lQ u9 xB := by
 intro n E hn f c hs x k h
 unfold lQ at hn
 split at hn
 ·cases hn; exact aK hs (by kernel_rfl) (fun y : Int × Int => ⟨[(3, .pl (.int .i64 x.1.1)), (9, .pl (.int .u64 x.1.2.1)), (10, .pl (.int .u64 y.1)), (28, .pl (.int .i64 y.2))], []⟩) (x.1.2.2.1, x.1.2.2.2.1) (by kernel_rfl) (fun y X => by kernel_rfl) h.it
 ·cases hn
def eM : List Sh := [.lf (.int .u64), .lf (.int .u64), .lf (.int .u64), .lf (.int .i64)]
def m5 (x : aI eM) (Q : List (Bool × List VV) -> Prop) : Prop := qI x.1 x.2.1 x.2.2.1 x.2.2.2.1 (fun (r : Int) => Q (aH [(false, (.int .i64))] [.n] (r, ())))
theorem GQ (x : aI eM) (Q : List (Bool × List VV) -> Prop) (h : m5 x Q) : aD Try.prog 28 (aM eM x) Q :=
 aC [.n] (G := EB) (ct := lQ) (en := u9) (fn := Try.f28) (cd := xB) (rt := [(false, (.int .i64))]) Try.func28 (by kernel_rfl) (by kernel_rfl) (Nat.le_of_ble_eq_true rfl) HI zX (aG rfl) h.it (by kernel_rfl)
noncomputable def oU : FuncId -> List VV -> (List (Bool × List VV) -> Prop) -> Prop := fun f args Q => if f = 28 then unA eM args (fun x => m5 x Q) else vQ f args Q
theorem tN : ∀ f args Q, oU f args Q -> aD Try.prog f args Q := aE zX (f0 := 28) eM (fun x Q => m5 x Q) GQ
noncomputable def yT : Cfg := ⟨Try.prog, tt, oU, fun _ _ _ => False, none, false⟩
def rN (x3 : Int) (K0 : Int -> Prop) : Prop :=
 K0 (IntKind.i64.wrap (x3 + 1))
structure iG (x3 : Int) (K0 : Int -> Prop) : Prop where
 it : rN x3 K0
def gI (x0 : Int) (x1 : Int) (x5 : Int) (K0 : (List Int) -> Prop) (s : Int × List Int) (nx : (Int × List Int) -> Prop) : Prop :=
 if (decide (s.1 < x5)) = true then qI x0 (IntKind.u64.wrap (IntKind.i64.wrap (x1 + 1))) (IntKind.u64.wrap s.1) 63 (fun (r13 : Int) => ck ((s.2.length + [IntKind.i8.wrap (IntKind.i64.wrap (r13 - 31))].length) * 1 <= 140737488355328) (nx (IntKind.i64.wrap (s.1 + 1), s.2 ++ [IntKind.i8.wrap (IntKind.i64.wrap (r13 - 31))]))) else K0 s.2
structure vT (x0 : Int) (x1 : Int) (x5 : Int) (K0 : (List Int) -> Prop) (s : Int × List Int) : Prop where
 it : Go.Mach.Loop (gI x0 x1 x5 K0) s
def qS (x0 : Int) (x1 : Int) (x6 : List (((List Int) × Int × List Int) × (List Int) × (List Int) × Int × List Int)) (x7 : Int) (x8 : Int) (x9 : List Int) (x10 : List Int) (x11 : List Int) (x12 : List Int) (K0 : (List (((List Int) × Int × List Int) × (List Int) × (List Int) × Int × List Int)) -> Prop) : Prop :=
 vT x0 x1 (x10.length : Int) (fun (y13 : List Int) => ck ((x6.length + [((x9, (x7, y13)), (x10, (x11, (x8, x12))))].length) * 136 <= 140737488355328) (K0 (x6 ++ [((x9, (x7, y13)), (x10, (x11, (x8, x12))))]))) (0, ([] : List Int))
structure tZ (x0 : Int) (x1 : Int) (x6 : List (((List Int) × Int × List Int) × (List Int) × (List Int) × Int × List Int)) (x7 : Int) (x8 : Int) (x9 : List Int) (x10 : List Int) (x11 : List Int) (x12 : List Int) (K0 : (List (((List Int) × Int × List Int) × (List Int) × (List Int) × Int × List Int)) -> Prop) : Prop where
 it : qS x0 x1 x6 x7 x8 x9 x10 x11 x12 K0
def gC (x0 : Int) (x1 : List (Int × Int × Int × Int × Int × Int × Bool)) (x2 : Int) (x4 : List (List Int)) (K0 : (List (((List Int) × Int × List Int) × (List Int) × (List Int) × Int × List Int)) -> Prop) (K1 : Unit -> Prop) (s : Int × List (((List Int) × Int × List Int) × (List Int) × (List Int) × Int × List Int)) (nx : (Int × List (((List Int) × Int × List Int) × (List Int) × (List Int) × Int × List Int)) -> Prop) : Prop :=
 if (decide (s.1 < x2)) = true then ck ((0 : Int) <= s.1 /\ s.1 < (x1.length : Int)) (ck ((0 : Int) <= s.1 /\ s.1 < (x4.length : Int)) (kB ((x1.getD ((s.1).toNat) (0, (0, (0, (0, (0, (0, false))))))).1, (((x1.getD ((s.1).toNat) (0, (0, (0, (0, (0, (0, false))))))).2).1, ((((x1.getD ((s.1).toNat) (0, (0, (0, (0, (0, (0, false))))))).2).2).1, (((((x1.getD ((s.1).toNat) (0, (0, (0, (0, (0, (0, false))))))).2).2).2).1, ((((((x1.getD ((s.1).toNat) (0, (0, (0, (0, (0, (0, false))))))).2).2).2).2).1, (((((((x1.getD ((s.1).toNat) (0, (0, (0, (0, (0, (0, false))))))).2).2).2).2).2).1, ((((((x1.getD ((s.1).toNat) (0, (0, (0, (0, (0, (0, false))))))).2).2).2).2).2).2)))))) (x4.getD ((s.1).toNat) []) (fun (r9 : (List Int) × Int) => if ((r9.1.length : Int) == 0) = true then ck ((s.2.length + [((([] : List Int), (0, ([] : List Int))), (([] : List Int), (([] : List Int), (0, ([] : List Int)))))].length) * 136 <= 140737488355328) (iG s.1 (fun (y10 : Int) => nx (y10, (s.2 ++ [((([] : List Int), (0, ([] : List Int))), (([] : List Int), (([] : List Int), (0, ([] : List Int)))))])))) else cD r9.1 (fun (r11 : Bool) => if (!r11) = true then K1 () else ck ((0 : Int) <= r9.2 /\ (1 : Nat) * r9.2 <= 70368744177664) (dI r9.1 (fun (r12 : Int) => ck ((0 : Int) <= r12 /\ (4 : Nat) * r12 <= 70368744177664) (tZ x0 s.1 s.2 (-7) (-7) r9.1 (List.replicate (r12).toNat (0 : Int)) [r9.2] (List.replicate (r9.2).toNat (0 : Int)) (fun (y13 : List (((List Int) × Int × List Int) × (List Int) × (List Int) × Int × List Int)) => iG s.1 (fun (y14 : Int) => nx (y14, y13)))))))))) else K0 s.2
structure uI (x0 : Int) (x1 : List (Int × Int × Int × Int × Int × Int × Bool)) (x2 : Int) (x4 : List (List Int)) (K0 : (List (((List Int) × Int × List Int) × (List Int) × (List Int) × Int × List Int)) -> Prop) (K1 : Unit -> Prop) (s : Int × List (((List Int) × Int × List Int) × (List Int) × (List Int) × Int × List Int)) : Prop where
 it : Go.Mach.Loop (gC x0 x1 x2 x4 K0 K1) s
def M0 (a0 : (Int × Int × Int) × List (Int × Int × Int × Int × Int × Int × Bool)) (a1 : Int) (Q : ((List (((List Int) × Int × List Int) × (List Int) × (List Int) × Int × List Int)) × Int) -> Prop) : Prop :=
 fE ((a0.1.1, (a0.1.2.1, a0.1.2.2)), a0.2) (fun (r1 : (List (List Int)) × Int × Int) => if (r1.2.2 != 0) = true then Q (([] : List (((List Int) × Int × List Int) × (List Int) × (List Int) × Int × List Int)), r1.2.2) else uI a1 a0.2 (a0.2.length : Int) r1.1 (fun (y15 : List (((List Int) × Int × List Int) × (List Int) × (List Int) × Int × List Int)) => Q (y15, 0)) (fun (y16 : Unit) => Q (([] : List (((List Int) × Int × List Int) × (List Int) × (List Int) × Int × List Int)), 1)) (0, ([] : List (((List Int) × Int × List Int) × (List Int) × (List Int) × Int × List Int))))
structure qK (a0 : (Int × Int × Int) × List (Int × Int × Int × Int × Int × Int × Bool)) (a1 : Int) (Q : ((List (((List Int) × Int × List Int) × (List Int) × (List Int) × Int × List Int)) × Int) -> Prop) : Prop where
 it : M0 a0 a1 Q
noncomputable def LC : Ent := ⟨[1, 6, 9, 26, 27, 28], [.lf (.int .u64), .lf (.cst (.own 0)), .lf (.cst (.pl (.slice none 0 0))), .lf (.fz false (.pair (.int .i64) (.pair (.int .i64) (.pair (.int .i64) (.pair (.int .i64) (.pair (.int .i64) (.pair (.int .i64) .bool))))))), .lf (.int .i64), .lf (.int .i64)], [.lst true (.slc (.int .i64)) false], fun x k => uI x.1.1 x.1.2.2.2.1 x.1.2.2.2.2.1 x.2.1 (fun (y17 : List (((List Int) × Int × List Int) × (List Int) × (List Int) × Int × List Int)) => k (.exit 0) ⟨[(9, .own 0)], [.lst true (.pair (.pair (.slc (.int .i64)) (.pair (.int .i64) (.slc (.int .i8)))) (.pair (.slc (.int .i32)) (.pair (.slc (.int .i64)) (.pair (.int .i64) (.slc (.int .i8)))))) y17 false]⟩) (fun (y18 : Unit) => k .ret ⟨[(4, .pl (.slice none 0 0)), (5, .pl (.int .i64 1))], []⟩) (x.1.2.2.2.2.2.1, ([] : List (((List Int) × Int × List Int) × (List Int) × (List Int) × Int × List Int)))⟩
noncomputable def KJ : Ent := ⟨[1, 6, 9, 26, 27, 28], [.lf (.int .u64), .lf (.cst (.own 0)), .lf (.cst (.own 1)), .lf (.fz false (.pair (.int .i64) (.pair (.int .i64) (.pair (.int .i64) (.pair (.int .i64) (.pair (.int .i64) (.pair (.int .i64) .bool))))))), .lf (.int .i64), .lf (.int .i64)], [.lst true (.slc (.int .i64)) false, .lst true (.pair (.pair (.slc (.int .i64)) (.pair (.int .i64) (.slc (.int .i8)))) (.pair (.slc (.int .i32)) (.pair (.slc (.int .i64)) (.pair (.int .i64) (.slc (.int .i8)))))) false], fun x k => iG x.1.2.2.2.2.2.1 (fun (y19 : Int) => k .normal ⟨[(1, .pl (.int .u64 x.1.1)), (6, .own 0), (9, .own 1), (26, .fz false (.pair (.int .i64) (.pair (.int .i64) (.pair (.int .i64) (.pair (.int .i64) (.pair (.int .i64) (.pair (.int .i64) .bool)))))) x.1.2.2.2.1), (27, .pl (.int .i64 x.1.2.2.2.2.1)), (28, .pl (.int .i64 y19))], [.lst true (.slc (.int .i64)) x.2.1 false, .lst true (.pair (.pair (.slc (.int .i64)) (.pair (.int .i64) (.slc (.int .i8)))) (.pair (.slc (.int .i32)) (.pair (.slc (.int .i64)) (.pair (.int .i64) (.slc (.int .i8)))))) x.2.2.1 false]⟩)⟩
noncomputable def JC : Ent := ⟨[1, 6, 9, 10, 14, 26, 27, 28], [.lf (.int .u64), .lf (.cst (.own 0)), .lf (.cst (.own 1)), .lf (.int .i64), .lf (.cst (.ptr 2 0)), .lf (.fz false (.pair (.int .i64) (.pair (.int .i64) (.pair (.int .i64) (.pair (.int .i64) (.pair (.int .i64) (.pair (.int .i64) .bool))))))), .lf (.int .i64), .lf (.int .i64)], [.lst true (.slc (.int .i64)) false, .lst true (.pair (.pair (.slc (.int .i64)) (.pair (.int .i64) (.slc (.int .i8)))) (.pair (.slc (.int .i32)) (.pair (.slc (.int .i64)) (.pair (.int .i64) (.slc (.int .i8)))))) false, .box [.cst (.own 3), .int .i64, .cst (.pl (.slice none 0 0)), .cst (.own 4), .cst (.own 5), .int .i64, .cst (.own 6)] false, .lst true (.int .i64) false, .lst true (.int .i32) false, .lst true (.int .i64) false, .lst true (.int .i8) false], fun x k => tZ x.1.1 x.1.2.2.2.1 x.2.2.1 x.2.2.2.1.2.1 x.2.2.2.1.2.2.2.2.2.1 x.2.2.2.2.1 x.2.2.2.2.2.1 x.2.2.2.2.2.2.1 x.2.2.2.2.2.2.2.1 (fun (y20 : List (((List Int) × Int × List Int) × (List Int) × (List Int) × Int × List Int)) => k .normal ⟨[(1, .pl (.int .u64 x.1.1)), (6, .own 0), (9, .own 1), (26, .fz false (.pair (.int .i64) (.pair (.int .i64) (.pair (.int .i64) (.pair (.int .i64) (.pair (.int .i64) (.pair (.int .i64) .bool)))))) x.1.2.2.2.2.2.1), (27, .pl (.int .i64 x.1.2.2.2.2.2.2.1)), (28, .pl (.int .i64 x.1.2.2.2.2.2.2.2.1))], [.lst true (.slc (.int .i64)) x.2.1 false, .lst true (.pair (.pair (.slc (.int .i64)) (.pair (.int .i64) (.slc (.int .i8)))) (.pair (.slc (.int .i32)) (.pair (.slc (.int .i64)) (.pair (.int .i64) (.slc (.int .i8)))))) y20 false]⟩)⟩
noncomputable def I1 : Ent := ⟨[1, 6, 9, 10, 14, 26, 27, 28, 65, 66], [.lf (.int .u64), .lf (.cst (.own 0)), .lf (.cst (.own 1)), .lf (.int .i64), .lf (.cst (.ptr 2 0)), .lf (.fz false (.pair (.int .i64) (.pair (.int .i64) (.pair (.int .i64) (.pair (.int .i64) (.pair (.int .i64) (.pair (.int .i64) .bool))))))), .lf (.int .i64), .lf (.int .i64), .lf (.int .i64), .lf (.int .i64)], [.lst true (.slc (.int .i64)) false, .lst true (.pair (.pair (.slc (.int .i64)) (.pair (.int .i64) (.slc (.int .i8)))) (.pair (.slc (.int .i32)) (.pair (.slc (.int .i64)) (.pair (.int .i64) (.slc (.int .i8)))))) false, .box [.cst (.own 3), .int .i64, .cst (.pl (.slice none 0 0)), .cst (.own 4), .cst (.own 5), .int .i64, .cst (.own 6)] false, .lst true (.int .i64) false, .lst true (.int .i32) false, .lst true (.int .i64) false, .lst true (.int .i8) false], fun x k => vT x.1.1 x.1.2.2.2.1 x.1.2.2.2.2.2.2.2.2.1 (fun (y21 : List Int) => k (.exit 2) ⟨[(1, .pl (.int .u64 x.1.1)), (6, .own 0), (9, .own 1), (14, .ptr 2 0), (26, .fz false (.pair (.int .i64) (.pair (.int .i64) (.pair (.int .i64) (.pair (.int .i64) (.pair (.int .i64) (.pair (.int .i64) .bool)))))) x.1.2.2.2.2.2.1), (27, .pl (.int .i64 x.1.2.2.2.2.2.2.1)), (28, .pl (.int .i64 x.1.2.2.2.2.2.2.2.1))], [.lst true (.slc (.int .i64)) x.2.1 false, .lst true (.pair (.pair (.slc (.int .i64)) (.pair (.int .i64) (.slc (.int .i8)))) (.pair (.slc (.int .i32)) (.pair (.slc (.int .i64)) (.pair (.int .i64) (.slc (.int .i8)))))) x.2.2.1 false, .box [.own 3, .pl (.int .i64 x.2.2.2.1.2.1), .own 4, .own 5, .own 6, .pl (.int .i64 x.2.2.2.1.2.2.2.2.2.1), .own 7] false, .lst true (.int .i64) x.2.2.2.2.1 false, .lst true (.int .i8) y21 false, .lst true (.int .i32) x.2.2.2.2.2.1 false, .lst true (.int .i64) x.2.2.2.2.2.2.1 false, .lst true (.int .i8) x.2.2.2.2.2.2.2.1 false]⟩) (x.1.2.2.2.2.2.2.2.2.2.1, ([] : List Int))⟩
noncomputable def l5 : Tab := fun n => match n with | 250 => some LC | 4007 => some KJ | 256415 => some JC | 2051322 => some I1 | _ => none
noncomputable def tT : Go.Mach.Ends := fun n => match n with | 2 => some ([], [1, 2]) | 6 => some ([], [1, 2, 6, 8]) | 28 => some ([], [1, 2, 6, 8, 23]) | 30 => some ([], [1, 2, 6, 9]) | 59 => some ([], [1, 2, 6]) | 116 => some ([], [4, 5]) | 117 => some ([], [4, 5]) | 124 => some ([], [1, 6, 9, 26, 27, 28]) | 126 => some ([], [4, 5]) | 127 => some ([], [4, 5]) | 250 => some ([⟨9, none, false, (.pair (.pair (.slc (.int .i64)) (.pair (.int .i64) (.slc (.int .i8)))) (.pair (.slc (.int .i32)) (.pair (.slc (.int .i64)) (.pair (.int .i64) (.slc (.int .i8))))))⟩], [1, 6, 9, 26, 27, 28]) | 1000 => some ([], [1, 6, 9, 26, 27, 28, 29]) | 4004 => some ([], [1, 6, 9, 26, 27, 28]) | 4005 => some ([], [9]) | 4007 => some ([], [1, 6, 9, 26, 27, 28]) | 16024 => some ([], [1, 6, 9, 10, 11, 26, 27, 28]) | 32050 => some ([], [1, 6, 9, 10, 12, 13, 26, 27, 28]) | 128204 => some ([], [1, 6, 9, 10, 12, 13, 26, 27, 28, 44]) | 256411 => some ([], [1, 6, 9, 10, 12, 13, 26, 27, 28]) | 256412 => some ([], [1, 6, 9, 10, 12, 13, 26, 27, 28, 51]) | 256414 => some ([], [1, 6, 9, 10, 14, 26, 27, 28]) | 512820 => some ([], [1, 6, 9, 26, 27, 28]) | 512821 => some ([], [1, 6, 9, 26, 27, 28]) | 512827 => some ([], [1, 6, 9, 10, 12, 13, 26, 27, 28]) | 512831 => some ([], [1, 6, 9, 26, 27, 28]) | 1025652 => some ([], [4, 5]) | 1025653 => some ([], [4, 5]) | 1025660 => some ([], [1, 6, 9, 10, 14, 26, 27, 28, 65, 66]) | 2051322 => some ([⟨14, some 2, false, (.int .i8)⟩], [1, 6, 9, 10, 14, 26, 27, 28, 65, 66]) | 8205288 => some ([], [1, 6, 9, 10, 14, 26, 27, 28, 65, 66, 67]) | 32821156 => some ([], [1, 6, 9, 10, 14, 26, 27, 28, 65, 66]) | 32821157 => some ([], [1, 6, 9, 14, 26, 27, 28]) | 32821159 => some ([], [1, 6, 9, 10, 14, 26, 27, 28, 65, 66]) | 131284632 => some ([], [1, 6, 9, 10, 14, 15, 26, 27, 28, 65, 66]) | 131284633 => some ([], [1, 6, 9, 10, 14, 26, 27, 28, 65, 66]) | _ => none
noncomputable def wP : Code := Try.f15.body.getD .skip
theorem G5 : aL yT l5 tT wP := by
 intro n E hn f c hs x k h
 unfold l5 at hn
 split at hn
 ·cases hn; exact aK hs (by kernel_rfl) (fun y : Int × List (((List Int) × Int × List Int) × (List Int) × (List Int) × Int × List Int) => ⟨[(1, .pl (.int .u64 x.1.1)), (6, .own 0), (9, .own 1), (26, .fz false (.pair (.int .i64) (.pair (.int .i64) (.pair (.int .i64) (.pair (.int .i64) (.pair (.int .i64) (.pair (.int .i64) .bool)))))) x.1.2.2.2.1), (27, .pl (.int .i64 x.1.2.2.2.2.1)), (28, .pl (.int .i64 y.1))], [.lst true (.slc (.int .i64)) x.2.1 false, .lst true (.pair (.pair (.slc (.int .i64)) (.pair (.int .i64) (.slc (.int .i8)))) (.pair (.slc (.int .i32)) (.pair (.slc (.int .i64)) (.pair (.int .i64) (.slc (.int .i8)))))) y.2 false]⟩) (x.1.2.2.2.2.2.1, ([] : List (((List Int) × Int × List Int) × (List Int) × (List Int) × Int × List Int))) (by kernel_rfl) (fun y X => by kernel_rfl) h.it
 ·cases hn; exact bT hs (by kernel_rfl) (by kernel_rfl) h.it
 ·cases hn; exact bT hs (by kernel_rfl) (by kernel_rfl) h.it
 ·cases hn; exact aK hs (by kernel_rfl) (fun y : Int × List Int => ⟨[(1, .pl (.int .u64 x.1.1)), (6, .own 0), (9, .own 1), (10, .pl (.int .i64 x.1.2.2.2.1)), (14, .ptr 2 0), (26, .fz false (.pair (.int .i64) (.pair (.int .i64) (.pair (.int .i64) (.pair (.int .i64) (.pair (.int .i64) (.pair (.int .i64) .bool)))))) x.1.2.2.2.2.2.1), (27, .pl (.int .i64 x.1.2.2.2.2.2.2.1)), (28, .pl (.int .i64 x.1.2.2.2.2.2.2.2.1)), (65, .pl (.int .i64 x.1.2.2.2.2.2.2.2.2.1)), (66, .pl (.int .i64 y.1))], [.lst true (.slc (.int .i64)) x.2.1 false, .lst true (.pair (.pair (.slc (.int .i64)) (.pair (.int .i64) (.slc (.int .i8)))) (.pair (.slc (.int .i32)) (.pair (.slc (.int .i64)) (.pair (.int .i64) (.slc (.int .i8)))))) x.2.2.1 false, .box [.own 3, .pl (.int .i64 x.2.2.2.1.2.1), .own 4, .own 5, .own 6, .pl (.int .i64 x.2.2.2.1.2.2.2.2.2.1), .own 7] false, .lst true (.int .i64) x.2.2.2.2.1 false, .lst true (.int .i8) y.2 false, .lst true (.int .i32) x.2.2.2.2.2.1 false, .lst true (.int .i64) x.2.2.2.2.2.2.1 false, .lst true (.int .i8) x.2.2.2.2.2.2.2.1 false]⟩) (x.1.2.2.2.2.2.2.2.2.2.1, ([] : List Int)) (by kernel_rfl) (fun y X => by kernel_rfl) h.it
 ·cases hn
def eW : List Sh := [.agg [.int .i64, .int .i64, .int .i64, .fz false (.pair (.int .i64) (.pair (.int .i64) (.pair (.int .i64) (.pair (.int .i64) (.pair (.int .i64) (.pair (.int .i64) .bool))))))], .lf (.int .u64)]
def nD (x : aI eW) (Q : List (Bool × List VV) -> Prop) : Prop := qK ((x.1.1, (x.1.2.1, x.1.2.2.1)), x.1.2.2.2.1) x.2.1 (fun (r : (List (((List Int) × Int × List Int) × (List Int) × (List Int) × Int × List Int)) × Int) => Q (aH [(false, (.slc (.pair (.pair (.slc (.int .i64)) (.pair (.int .i64) (.slc (.int .i8)))) (.pair (.slc (.int .i32)) (.pair (.slc (.int .i64)) (.pair (.int .i64) (.slc (.int .i8)))))))), (false, (.int .i64))] [.n, .n] (r.1, (r.2, ()))))
theorem G7 (x : aI eW) (Q : List (Bool × List VV) -> Prop) (h : nD x Q) : aD Try.prog 15 (aM eW x) Q :=
 aC [.n, .n] (G := yT) (ct := l5) (en := tT) (fn := Try.f15) (cd := wP) (rt := [(false, (.slc (.pair (.pair (.slc (.int .i64)) (.pair (.int .i64) (.slc (.int .i8)))) (.pair (.slc (.int .i32)) (.pair (.slc (.int .i64)) (.pair (.int .i64) (.slc (.int .i8)))))))), (false, (.int .i64))]) Try.func15 (by kernel_rfl) (by kernel_rfl) (Nat.le_of_ble_eq_true rfl) G5 tN (aG rfl) h.it (by kernel_rfl)
noncomputable def oJ : FuncId -> List VV -> (List (Bool × List VV) -> Prop) -> Prop := fun f args Q => if f = 15 then unA eW args (fun x => nD x Q) else oU f args Q
theorem tD : ∀ f args Q, oJ f args Q -> aD Try.prog f args Q := aE tN (f0 := 15) eW (fun x Q => nD x Q) G7
noncomputable def vP : Cfg := ⟨Try.prog, tt, oJ, fun _ _ _ => False, none, true⟩
def FT (x0 : Int) (x1 : List Int) (x2 : Int) (K0 : Int -> Prop) : Prop :=
 dI x1 (fun (r8 : Int) => K0 (IntKind.i64.wrap (x0 + (IntKind.i64.wrap (r8 + x2)))))
structure iF (x0 : Int) (x1 : List Int) (x2 : Int) (K0 : Int -> Prop) : Prop where
 it : FT x0 x1 x2 K0
def gB (x1 : Int) (x3 : Int) (x4 : Int) (x5 : Int) (x6 : List (Int × Int × Int × Int × Int × Int × Bool)) (x13 : List (List Int)) (K0 : Int -> Prop) (K1 : Unit -> Prop) (s : Int × Int) (nx : (Int × Int) -> Prop) : Prop :=
 if (decide (s.2 < x1)) = true then ck ((0 : Int) <= s.2 /\ s.2 < (x13.length : Int)) (if (decide (0 < s.2)) = true then qG ((x3, (x4, x5)), x6) s.2 (fun (r2 : (List Int) × Int) => dI r2.1 (fun (r3 : Int) => jn (fun (v4 : Bool) => if v4 = true then K1 () else iF s.1 (x13.getD ((s.2).toNat) []) r3 (fun (y8 : Int) => nx (y8, IntKind.i64.wrap (s.2 + 1)))) (fun J5 => if ((r2.1.length : Int) == 0) = true then ck ((0 : Int) <= (IntKind.i64.wrap (s.2 - 1)) /\ (IntKind.i64.wrap (s.2 - 1)) < (x6.length : Int)) (jn (fun (v6 : Bool) => J5 v6) (fun J7 => if (((x6.getD ((IntKind.i64.wrap (s.2 - 1)).toNat) (0, (0, (0, (0, (0, (0, false))))))).1) == 1) = true then J7 true else ck ((0 : Int) <= (IntKind.i64.wrap (s.2 - 1)) /\ (IntKind.i64.wrap (s.2 - 1)) < (x6.length : Int)) (J7 (((x6.getD ((IntKind.i64.wrap (s.2 - 1)).toNat) (0, (0, (0, (0, (0, (0, false))))))).1) == 2)))) else J5 false))) else iF s.1 (x13.getD ((s.2).toNat) []) 0 (fun (y9 : Int) => nx (y9, IntKind.i64.wrap (s.2 + 1)))) else K0 s.1
structure vG (x1 : Int) (x3 : Int) (x4 : Int) (x5 : Int) (x6 : List (Int × Int × Int × Int × Int × Int × Bool)) (x13 : List (List Int)) (K0 : Int -> Prop) (K1 : Unit -> Prop) (s : Int × Int) : Prop where
 it : Go.Mach.Loop (gB x1 x3 x4 x5 x6 x13 K0 K1) s
def rE (x0 : Int) (K0 : Int -> Prop) : Prop :=
 K0 (IntKind.i64.wrap (x0 + 1))
structure iB (x0 : Int) (K0 : Int -> Prop) : Prop where
 it : rE x0 K0
def gH (x1 : Int) (x4 : Int) (K0 : (Int × (List Int) × (List Int) × List (((List Int) × Int × List Int) × (List Int) × (List Int) × Int × List Int)) -> Prop) (s : Int × Int × (List Int) × (List Int) × List (((List Int) × Int × List Int) × (List Int) × (List Int) × Int × List Int)) (nx : (Int × Int × (List Int) × (List Int) × List (((List Int) × Int × List Int) × (List Int) × (List Int) × Int × List Int)) -> Prop) : Prop :=
 if (decide (s.2.1 < x4)) = true then jn (fun (v12 : Bool) => if v12 = true then ck ((0 : Int) <= x1 /\ x1 < (s.2.2.2.2.length : Int)) (ck ((0 : Int) <= s.1 /\ s.1 < (s.2.2.1.length : Int)) (ck ((0 : Int) <= s.2.1 /\ s.2.1 < (((((s.2.2.2.2.getD ((x1).toNat) (([], (0, [])), ([], ([], (0, []))))).1).2).2).length : Int)) (∀ (m14 : List Int), Go.Mach.SE .i8 (s.2.2.1.getD ((s.1).toNat) 0) (.slc (.int .i8)) s.2.2.1 m14 -> (∀ (m15 : List Int), Go.Mach.SE .i8 (s.2.2.1.getD ((s.1).toNat) 0) (.slc (.int .i8)) s.2.2.2.1 m15 -> (∀ (m16 : List (((List Int) × Int × List Int) × (List Int) × (List Int) × Int × List Int)), Go.Mach.SE .i8 (s.2.2.1.getD ((s.1).toNat) 0) (.slc (.pair (.pair (.slc (.int .i64)) (.pair (.int .i64) (.slc (.int .i8)))) (.pair (.slc (.int .i32)) (.pair (.slc (.int .i64)) (.pair (.int .i64) (.slc (.int .i8))))))) s.2.2.2.2 m16 -> (iB s.1 (fun (y17 : Int) => nx (y17, IntKind.i64.wrap (s.2.1 + 1), m14, m15, m16)))))))) else iB s.1 (fun (y18 : Int) => nx (y18, IntKind.i64.wrap (s.2.1 + 1), s.2.2.1, s.2.2.2.1, s.2.2.2.2))) (fun J13 => if (decide (s.1 < (s.2.2.1.length : Int))) = true then ck ((0 : Int) <= s.1 /\ s.1 < (s.2.2.1.length : Int)) (J13 ((s.2.2.1.getD ((s.1).toNat) 0) != (-128))) else J13 false) else K0 (s.1, s.2.2.1, s.2.2.2.1, s.2.2.2.2)
structure lO (x1 : Int) (x4 : Int) (K0 : (Int × (List Int) × (List Int) × List (((List Int) × Int × List Int) × (List Int) × (List Int) × Int × List Int)) -> Prop) (s : Int × Int × (List Int) × (List Int) × List (((List Int) × Int × List Int) × (List Int) × (List Int) × Int × List Int)) : Prop where
 it : Go.Mach.Loop (gH x1 x4 K0) s
def qZ (x0 : Int) (K0 : Int -> Prop) : Prop :=
 K0 (IntKind.i64.wrap (x0 + 1))
structure iC (x0 : Int) (K0 : Int -> Prop) : Prop where
 it : qZ x0 K0
def gF (x1 : Int) (x4 : Int) (K0 : (Int × (List Int) × (List Int) × List (((List Int) × Int × List Int) × (List Int) × (List Int) × Int × List Int)) -> Prop) (s : Int × Int × (List Int) × (List Int) × List (((List Int) × Int × List Int) × (List Int) × (List Int) × Int × List Int)) (nx : (Int × Int × (List Int) × (List Int) × List (((List Int) × Int × List Int) × (List Int) × (List Int) × Int × List Int)) -> Prop) : Prop :=
 if (decide (s.2.1 < x4)) = true then jn (fun (v20 : Bool) => if v20 = true then ck ((0 : Int) <= x1 /\ x1 < (s.2.2.2.2.length : Int)) (ck ((0 : Int) <= s.1 /\ s.1 < (s.2.2.1.length : Int)) (ck ((0 : Int) <= s.2.1 /\ s.2.1 < ((((((s.2.2.2.2.getD ((x1).toNat) (([], (0, [])), ([], ([], (0, []))))).2).2).2).2).length : Int)) (∀ (m22 : List Int), Go.Mach.SE .i8 (s.2.2.1.getD ((s.1).toNat) 0) (.slc (.int .i8)) s.2.2.1 m22 -> (∀ (m23 : List Int), Go.Mach.SE .i8 (s.2.2.1.getD ((s.1).toNat) 0) (.slc (.int .i8)) s.2.2.2.1 m23 -> (∀ (m24 : List (((List Int) × Int × List Int) × (List Int) × (List Int) × Int × List Int)), Go.Mach.SE .i8 (s.2.2.1.getD ((s.1).toNat) 0) (.slc (.pair (.pair (.slc (.int .i64)) (.pair (.int .i64) (.slc (.int .i8)))) (.pair (.slc (.int .i32)) (.pair (.slc (.int .i64)) (.pair (.int .i64) (.slc (.int .i8))))))) s.2.2.2.2 m24 -> (iC s.1 (fun (y25 : Int) => nx (y25, IntKind.i64.wrap (s.2.1 + 1), m22, m23, m24)))))))) else iC s.1 (fun (y26 : Int) => nx (y26, IntKind.i64.wrap (s.2.1 + 1), s.2.2.1, s.2.2.2.1, s.2.2.2.2))) (fun J21 => if (decide (s.1 < (s.2.2.1.length : Int))) = true then ck ((0 : Int) <= s.1 /\ s.1 < (s.2.2.1.length : Int)) (J21 ((s.2.2.1.getD ((s.1).toNat) 0) != (-128))) else J21 false) else K0 (s.1, s.2.2.1, s.2.2.2.1, s.2.2.2.2)
structure mE (x1 : Int) (x4 : Int) (K0 : (Int × (List Int) × (List Int) × List (((List Int) × Int × List Int) × (List Int) × (List Int) × Int × List Int)) -> Prop) (s : Int × Int × (List Int) × (List Int) × List (((List Int) × Int × List Int) × (List Int) × (List Int) × Int × List Int)) : Prop where
 it : Go.Mach.Loop (gF x1 x4 K0) s
def gG (x1 : Int) (K0 : ((List Int) × (List Int) × List (((List Int) × Int × List Int) × (List Int) × (List Int) × Int × List Int)) -> Prop) (s : Int × Int × (List Int) × (List Int) × List (((List Int) × Int × List Int) × (List Int) × (List Int) × Int × List Int)) (nx : (Int × Int × (List Int) × (List Int) × List (((List Int) × Int × List Int) × (List Int) × (List Int) × Int × List Int)) -> Prop) : Prop :=
 if (decide (s.2.1 < x1)) = true then ck ((0 : Int) <= s.2.1 /\ s.2.1 < (s.2.2.2.2.length : Int)) (lO s.2.1 (((((s.2.2.2.2.getD ((s.2.1).toNat) (([], (0, [])), ([], ([], (0, []))))).1).2).2).length : Int) (fun (y12 : Int × (List Int) × (List Int) × List (((List Int) × Int × List Int) × (List Int) × (List Int) × Int × List Int)) => ck ((0 : Int) <= s.2.1 /\ s.2.1 < (y12.2.2.2.length : Int)) (mE s.2.1 ((((((y12.2.2.2.getD ((s.2.1).toNat) (([], (0, [])), ([], ([], (0, []))))).2).2).2).2).length : Int) (fun (y13 : Int × (List Int) × (List Int) × List (((List Int) × Int × List Int) × (List Int) × (List Int) × Int × List Int)) => nx (y13.1, IntKind.i64.wrap (s.2.1 + 1), y13.2.1, y13.2.2.1, y13.2.2.2)) (y12.1, 0, y12.2.1, y12.2.2.1, y12.2.2.2))) (s.1, 0, s.2.2.1, s.2.2.2.1, s.2.2.2.2)) else K0 (s.2.2.1, s.2.2.2.1, s.2.2.2.2)
structure lW (x1 : Int) (K0 : ((List Int) × (List Int) × List (((List Int) × Int × List Int) × (List Int) × (List Int) × Int × List Int)) -> Prop) (s : Int × Int × (List Int) × (List Int) × List (((List Int) × Int × List Int) × (List Int) × (List Int) × Int × List Int)) : Prop where
 it : Go.Mach.Loop (gG x1 K0) s
def jQ (x0 : Int) (x16 : List Int) (K0 : Unit -> Prop) : Prop :=
 ck ((x16.length + [x0].length) * 1 <= 140737488355328) (K0 ())
structure lV (x0 : Int) (x16 : List Int) (K0 : Unit -> Prop) : Prop where
 it : jQ x0 x16 K0
def gJ (x0 : Int) (x9 : List Int) (K0 : (List Int) -> Prop) (s : Int × List Int) (nx : (Int × List Int) -> Prop) : Prop :=
 if (decide (s.1 < x0)) = true then ck (90 ≠ (0 : Int)) (jn (fun (v20 : Bool) => if v20 = true then ck ((0 : Int) <= s.1 /\ s.1 < (x9.length : Int)) (lV (x9.getD ((s.1).toNat) 0) s.2 (fun (y22 : Unit) => nx (IntKind.i64.wrap (s.1 + 1), s.2 ++ [(x9.getD ((s.1).toNat) 0)]))) else lV (IntKind.i8.wrap ((IntKind.i64.wrap (s.1 * 7)).tmod 90)) s.2 (fun (y23 : Unit) => nx (IntKind.i64.wrap (s.1 + 1), s.2 ++ [(IntKind.i8.wrap ((IntKind.i64.wrap (s.1 * 7)).tmod 90))]))) (fun J21 => if (decide (s.1 < (x9.length : Int))) = true then ck ((0 : Int) <= s.1 /\ s.1 < (x9.length : Int)) (J21 ((x9.getD ((s.1).toNat) 0) != (-128))) else J21 false)) else K0 s.2
structure mC (x0 : Int) (x9 : List Int) (K0 : (List Int) -> Prop) (s : Int × List Int) : Prop where
 it : Go.Mach.Loop (gJ x0 x9 K0) s
def M1 (a0 : ((Int × Int × Int) × List (Int × Int × Int × Int × Int × Int × Bool)) × Int × (List Int) × Int × (List Int) × Int) (Q : ((List (((List Int) × Int × List Int) × (List Int) × (List Int) × Int × List Int)) × ((List Int) × Int × List Int) × Int) -> Prop) : Prop :=
 fE ((a0.1.1.1, (a0.1.1.2.1, a0.1.1.2.2)), a0.1.2) (fun (r1 : (List (List Int)) × Int × Int) => if (r1.2.2 != 0) = true then Q (([] : List (((List Int) × Int × List Int) × (List Int) × (List Int) × Int × List Int)), (([] : List Int), (0, ([] : List Int))), r1.2.2) else vG (r1.1.length : Int) a0.1.1.1 a0.1.1.2.1 a0.1.1.2.2 a0.1.2 r1.1 (fun (y10 : Int) => if (decide (700 < y10)) = true then Q (([] : List (((List Int) × Int × List Int) × (List Int) × (List Int) × Int × List Int)), (([] : List Int), (0, ([] : List Int))), 10) else qK ((a0.1.1.1, (a0.1.1.2.1, a0.1.1.2.2)), a0.1.2) a0.2.1 (fun (r11 : (List (((List Int) × Int × List Int) × (List Int) × (List Int) × Int × List Int)) × Int) => if (r11.2 != 0) = true then Q (([] : List (((List Int) × Int × List Int) × (List Int) × (List Int) × Int × List Int)), (([] : List Int), (0, ([] : List Int))), r11.2) else lW (r11.1.length : Int) (fun (y14 : (List Int) × (List Int) × List (((List Int) × Int × List Int) × (List Int) × (List Int) × Int × List Int)) => ck (3 ≠ (0 : Int)) (ck (20 ≠ (0 : Int)) (dI [IntKind.i64.wrap (1 + (IntKind.i64.wrap ((IntKind.u64.wrap a0.2.2.2.1).tmod 3))), a0.1.1.1, a0.1.1.2.1, a0.1.1.2.2] (fun (r15 : Int) => mC r15 y14.2.1 (fun (y24 : List Int) => Q (y14.2.2, ([IntKind.i64.wrap (1 + (IntKind.i64.wrap ((IntKind.u64.wrap a0.2.2.2.1).tmod 3))), a0.1.1.1, a0.1.1.2.1, a0.1.1.2.2], (((a0.2.2.2.2.2).tmod 20), y24)), 0)) (0, ([] : List Int)))))) (0, 0, a0.2.2.1, a0.2.2.2.2.1, r11.1))) (fun (y25 : Unit) => Q (([] : List (((List Int) × Int × List Int) × (List Int) × (List Int) × Int × List Int)), (([] : List Int), (0, ([] : List Int))), 1)) (0, 0))
structure qE (a0 : ((Int × Int × Int) × List (Int × Int × Int × Int × Int × Int × Bool)) × Int × (List Int) × Int × (List Int) × Int) (Q : ((List (((List Int) × Int × List Int) × (List Int) × (List Int) × Int × List Int)) × ((List Int) × Int × List Int) × Int) -> Prop) : Prop where
 it : M1 a0 Q
noncomputable def KH : Ent := ⟨[1, 3, 8, 33, 34, 35], [.lf (.cst (.ptr 0 0)), .lf (.cst (.ptr 1 0)), .lf (.int .i64), .lf (.cst (.own 2)), .lf (.int .i64), .lf (.int .i64)], [.box [.int .i64, .int .i64, .int .i64, .fz false (.pair (.int .i64) (.pair (.int .i64) (.pair (.int .i64) (.pair (.int .i64) (.pair (.int .i64) (.pair (.int .i64) .bool)))))), .int .u64, .fz false (.int .i8), .int .i64, .fz false (.int .i8), .int .i64] false, .box [.cst (.pl (.slice none 0 0)), .int .i64, .cst (.pl (.slice none 0 0))] false, .lst true (.slc (.int .i64)) false], fun x k => vG x.1.2.2.2.2.1 x.2.1.1 x.2.1.2.1 x.2.1.2.2.1 x.2.1.2.2.2.1 x.2.2.2.1 (fun (y26 : Int) => k (.exit 0) ⟨[(1, .ptr 0 0), (3, .ptr 1 0), (8, .pl (.int .i64 y26))], [.box [.pl (.int .i64 x.2.1.1), .pl (.int .i64 x.2.1.2.1), .pl (.int .i64 x.2.1.2.2.1), .fz false (.pair (.int .i64) (.pair (.int .i64) (.pair (.int .i64) (.pair (.int .i64) (.pair (.int .i64) (.pair (.int .i64) .bool)))))) x.2.1.2.2.2.1, .pl (.int .u64 x.2.1.2.2.2.2.1), .fz false (.int .i8) x.2.1.2.2.2.2.2.1, .pl (.int .i64 x.2.1.2.2.2.2.2.2.1), .fz false (.int .i8) x.2.1.2.2.2.2.2.2.2.1, .pl (.int .i64 x.2.1.2.2.2.2.2.2.2.2.1)] false, .box [.pl (.slice none 0 0), .pl (.int .i64 x.2.2.1.2.1), .pl (.slice none 0 0)] false]⟩) (fun (y27 : Unit) => k .ret ⟨[(2, .pl (.slice none 0 0)), (3, .ptr 0 0), (4, .pl (.int .i64 1))], [.box [.pl (.slice none 0 0), .pl (.int .i64 0), .pl (.slice none 0 0)] false]⟩) (x.1.2.2.1, x.1.2.2.2.2.2.1)⟩
noncomputable def IU : Ent := ⟨[1, 3, 14, 15, 100, 101], [.lf (.cst (.ptr 0 0)), .lf (.cst (.ptr 1 0)), .lf (.cst (.own 2)), .lf (.int .i64), .lf (.int .i64), .lf (.int .i64)], [.box [.int .i64, .int .i64, .int .i64, .fz false (.pair (.int .i64) (.pair (.int .i64) (.pair (.int .i64) (.pair (.int .i64) (.pair (.int .i64) (.pair (.int .i64) .bool)))))), .int .u64, .fz false (.int .i8), .int .i64, .fz false (.int .i8), .int .i64] false, .box [.cst (.pl (.slice none 0 0)), .int .i64, .cst (.pl (.slice none 0 0))] false, .lst true (.pair (.pair (.slc (.int .i64)) (.pair (.int .i64) (.slc (.int .i8)))) (.pair (.slc (.int .i32)) (.pair (.slc (.int .i64)) (.pair (.int .i64) (.slc (.int .i8)))))) false], fun x k => lW x.1.2.2.2.2.1 (fun (y28 : (List Int) × (List Int) × List (((List Int) × Int × List Int) × (List Int) × (List Int) × Int × List Int)) => k (.exit 2) ⟨[(1, .ptr 0 0), (3, .ptr 1 0), (14, .own 2)], [.box [.pl (.int .i64 x.2.1.1), .pl (.int .i64 x.2.1.2.1), .pl (.int .i64 x.2.1.2.2.1), .fz false (.pair (.int .i64) (.pair (.int .i64) (.pair (.int .i64) (.pair (.int .i64) (.pair (.int .i64) (.pair (.int .i64) .bool)))))) x.2.1.2.2.2.1, .pl (.int .u64 x.2.1.2.2.2.2.1), .fz false (.int .i8) y28.1, .pl (.int .i64 x.2.1.2.2.2.2.2.2.1), .fz false (.int .i8) y28.2.1, .pl (.int .i64 x.2.1.2.2.2.2.2.2.2.2.1)] false, .box [.pl (.slice none 0 0), .pl (.int .i64 x.2.2.1.2.1), .pl (.slice none 0 0)] false, .lst true (.pair (.pair (.slc (.int .i64)) (.pair (.int .i64) (.slc (.int .i8)))) (.pair (.slc (.int .i32)) (.pair (.slc (.int .i64)) (.pair (.int .i64) (.slc (.int .i8)))))) y28.2.2 false]⟩) (x.1.2.2.2.1, x.1.2.2.2.2.2.1, x.2.1.2.2.2.2.2.1, x.2.1.2.2.2.2.2.2.2.1, x.2.2.2.1)⟩
noncomputable def IZ : Ent := ⟨[1, 3, 14, 19, 208, 209], [.lf (.cst (.ptr 0 0)), .lf (.cst (.ptr 1 0)), .lf (.cst (.own 2)), .lf (.cst (.ptr 3 0)), .lf (.int .i64), .lf (.int .i64)], [.box [.int .i64, .int .i64, .int .i64, .fz false (.pair (.int .i64) (.pair (.int .i64) (.pair (.int .i64) (.pair (.int .i64) (.pair (.int .i64) (.pair (.int .i64) .bool)))))), .int .u64, .fz false (.int .i8), .int .i64, .fz false (.int .i8), .int .i64] false, .box [.cst (.pl (.slice none 0 0)), .int .i64, .cst (.pl (.slice none 0 0))] false, .lst true (.pair (.pair (.slc (.int .i64)) (.pair (.int .i64) (.slc (.int .i8)))) (.pair (.slc (.int .i32)) (.pair (.slc (.int .i64)) (.pair (.int .i64) (.slc (.int .i8)))))) false, .box [.cst (.own 4), .int .i64, .cst (.pl (.slice none 0 0))] false, .lst true (.int .i64) false], fun x k => mC x.1.2.2.2.2.1 x.2.1.2.2.2.2.2.2.2.1 (fun (y29 : List Int) => k (.exit 8) ⟨[(3, .ptr 0 0), (14, .own 1), (19, .ptr 2 0)], [.box [.pl (.slice none 0 0), .pl (.int .i64 x.2.2.1.2.1), .pl (.slice none 0 0)] false, .lst true (.pair (.pair (.slc (.int .i64)) (.pair (.int .i64) (.slc (.int .i8)))) (.pair (.slc (.int .i32)) (.pair (.slc (.int .i64)) (.pair (.int .i64) (.slc (.int .i8)))))) x.2.2.2.1 false, .box [.own 3, .pl (.int .i64 x.2.2.2.2.1.2.1), .own 4] false, .lst true (.int .i64) x.2.2.2.2.2.1 false, .lst true (.int .i8) y29 false]⟩) (x.1.2.2.2.2.2.1, ([] : List Int))⟩
noncomputable def KW : Ent := ⟨[1, 3, 8, 10, 11, 33, 34, 35], [.lf (.cst (.ptr 0 0)), .lf (.cst (.ptr 1 0)), .lf (.int .i64), .lf (.fz true (.int .i64)), .lf (.int .i64), .lf (.cst (.own 2)), .lf (.int .i64), .lf (.int .i64)], [.box [.int .i64, .int .i64, .int .i64, .fz false (.pair (.int .i64) (.pair (.int .i64) (.pair (.int .i64) (.pair (.int .i64) (.pair (.int .i64) (.pair (.int .i64) .bool)))))), .int .u64, .fz false (.int .i8), .int .i64, .fz false (.int .i8), .int .i64] false, .box [.cst (.pl (.slice none 0 0)), .int .i64, .cst (.pl (.slice none 0 0))] false, .lst true (.slc (.int .i64)) false], fun x k => iF x.1.2.2.1 x.1.2.2.2.1 x.1.2.2.2.2.1 (fun (y30 : Int) => k .normal ⟨[(1, .ptr 0 0), (3, .ptr 1 0), (8, .pl (.int .i64 y30)), (33, .own 2), (34, .pl (.int .i64 x.1.2.2.2.2.2.2.1)), (35, .pl (.int .i64 x.1.2.2.2.2.2.2.2.1))], [.box [.pl (.int .i64 x.2.1.1), .pl (.int .i64 x.2.1.2.1), .pl (.int .i64 x.2.1.2.2.1), .fz false (.pair (.int .i64) (.pair (.int .i64) (.pair (.int .i64) (.pair (.int .i64) (.pair (.int .i64) (.pair (.int .i64) .bool)))))) x.2.1.2.2.2.1, .pl (.int .u64 x.2.1.2.2.2.2.1), .fz false (.int .i8) x.2.1.2.2.2.2.2.1, .pl (.int .i64 x.2.1.2.2.2.2.2.2.1), .fz false (.int .i8) x.2.1.2.2.2.2.2.2.2.1, .pl (.int .i64 x.2.1.2.2.2.2.2.2.2.2.1)] false, .box [.pl (.slice none 0 0), .pl (.int .i64 x.2.2.1.2.1), .pl (.slice none 0 0)] false, .lst true (.slc (.int .i64)) x.2.2.2.1 false]⟩)⟩
noncomputable def JA : Ent := ⟨[1, 3, 14, 15, 16, 100, 101, 110, 111], [.lf (.cst (.ptr 0 0)), .lf (.cst (.ptr 1 0)), .lf (.cst (.own 2)), .lf (.int .i64), .lf (.int .i64), .lf (.int .i64), .lf (.int .i64), .lf (.int .i64), .lf (.int .i64)], [.box [.int .i64, .int .i64, .int .i64, .fz false (.pair (.int .i64) (.pair (.int .i64) (.pair (.int .i64) (.pair (.int .i64) (.pair (.int .i64) (.pair (.int .i64) .bool)))))), .int .u64, .fz false (.int .i8), .int .i64, .fz false (.int .i8), .int .i64] false, .box [.cst (.pl (.slice none 0 0)), .int .i64, .cst (.pl (.slice none 0 0))] false, .lst true (.pair (.pair (.slc (.int .i64)) (.pair (.int .i64) (.slc (.int .i8)))) (.pair (.slc (.int .i32)) (.pair (.slc (.int .i64)) (.pair (.int .i64) (.slc (.int .i8)))))) false], fun x k => lO x.1.2.2.2.2.1 x.1.2.2.2.2.2.2.2.1 (fun (y31 : Int × (List Int) × (List Int) × List (((List Int) × Int × List Int) × (List Int) × (List Int) × Int × List Int)) => k (.exit 4) ⟨[(1, .ptr 0 0), (3, .ptr 1 0), (14, .own 2), (15, .pl (.int .i64 y31.1)), (16, .pl (.int .i64 x.1.2.2.2.2.1)), (100, .pl (.int .i64 x.1.2.2.2.2.2.1)), (101, .pl (.int .i64 x.1.2.2.2.2.2.2.1))], [.box [.pl (.int .i64 x.2.1.1), .pl (.int .i64 x.2.1.2.1), .pl (.int .i64 x.2.1.2.2.1), .fz false (.pair (.int .i64) (.pair (.int .i64) (.pair (.int .i64) (.pair (.int .i64) (.pair (.int .i64) (.pair (.int .i64) .bool)))))) x.2.1.2.2.2.1, .pl (.int .u64 x.2.1.2.2.2.2.1), .fz false (.int .i8) y31.2.1, .pl (.int .i64 x.2.1.2.2.2.2.2.2.1), .fz false (.int .i8) y31.2.2.1, .pl (.int .i64 x.2.1.2.2.2.2.2.2.2.2.1)] false, .box [.pl (.slice none 0 0), .pl (.int .i64 x.2.2.1.2.1), .pl (.slice none 0 0)] false, .lst true (.pair (.pair (.slc (.int .i64)) (.pair (.int .i64) (.slc (.int .i8)))) (.pair (.slc (.int .i32)) (.pair (.slc (.int .i64)) (.pair (.int .i64) (.slc (.int .i8)))))) y31.2.2.2 false]⟩) (x.1.2.2.2.1, x.1.2.2.2.2.2.2.2.2.1, x.2.1.2.2.2.2.2.1, x.2.1.2.2.2.2.2.2.2.1, x.2.2.2.1)⟩
noncomputable def KV : Ent := ⟨[1, 3, 14, 15, 16, 100, 101, 149, 150], [.lf (.cst (.ptr 0 0)), .lf (.cst (.ptr 1 0)), .lf (.cst (.own 2)), .lf (.int .i64), .lf (.int .i64), .lf (.int .i64), .lf (.int .i64), .lf (.int .i64), .lf (.int .i64)], [.box [.int .i64, .int .i64, .int .i64, .fz false (.pair (.int .i64) (.pair (.int .i64) (.pair (.int .i64) (.pair (.int .i64) (.pair (.int .i64) (.pair (.int .i64) .bool)))))), .int .u64, .fz false (.int .i8), .int .i64, .fz false (.int .i8), .int .i64] false, .box [.cst (.pl (.slice none 0 0)), .int .i64, .cst (.pl (.slice none 0 0))] false, .lst true (.pair (.pair (.slc (.int .i64)) (.pair (.int .i64) (.slc (.int .i8)))) (.pair (.slc (.int .i32)) (.pair (.slc (.int .i64)) (.pair (.int .i64) (.slc (.int .i8)))))) false], fun x k => mE x.1.2.2.2.2.1 x.1.2.2.2.2.2.2.2.1 (fun (y32 : Int × (List Int) × (List Int) × List (((List Int) × Int × List Int) × (List Int) × (List Int) × Int × List Int)) => k (.exit 6) ⟨[(1, .ptr 0 0), (3, .ptr 1 0), (14, .own 2), (15, .pl (.int .i64 y32.1)), (100, .pl (.int .i64 x.1.2.2.2.2.2.1)), (101, .pl (.int .i64 x.1.2.2.2.2.2.2.1))], [.box [.pl (.int .i64 x.2.1.1), .pl (.int .i64 x.2.1.2.1), .pl (.int .i64 x.2.1.2.2.1), .fz false (.pair (.int .i64) (.pair (.int .i64) (.pair (.int .i64) (.pair (.int .i64) (.pair (.int .i64) (.pair (.int .i64) .bool)))))) x.2.1.2.2.2.1, .pl (.int .u64 x.2.1.2.2.2.2.1), .fz false (.int .i8) y32.2.1, .pl (.int .i64 x.2.1.2.2.2.2.2.2.1), .fz false (.int .i8) y32.2.2.1, .pl (.int .i64 x.2.1.2.2.2.2.2.2.2.2.1)] false, .box [.pl (.slice none 0 0), .pl (.int .i64 x.2.2.1.2.1), .pl (.slice none 0 0)] false, .lst true (.pair (.pair (.slc (.int .i64)) (.pair (.int .i64) (.slc (.int .i8)))) (.pair (.slc (.int .i32)) (.pair (.slc (.int .i64)) (.pair (.int .i64) (.slc (.int .i8)))))) y32.2.2.2 false]⟩) (x.1.2.2.2.1, x.1.2.2.2.2.2.2.2.2.1, x.2.1.2.2.2.2.2.1, x.2.1.2.2.2.2.2.2.2.1, x.2.2.2.1)⟩
noncomputable def IQ : Ent := ⟨[1, 3, 14, 19, 21, 208, 209], [.lf (.cst (.ptr 0 0)), .lf (.cst (.ptr 1 0)), .lf (.cst (.own 2)), .lf (.cst (.ptr 3 0)), .lf (.int .i8), .lf (.int .i64), .lf (.int .i64)], [.box [.int .i64, .int .i64, .int .i64, .fz false (.pair (.int .i64) (.pair (.int .i64) (.pair (.int .i64) (.pair (.int .i64) (.pair (.int .i64) (.pair (.int .i64) .bool)))))), .int .u64, .fz false (.int .i8), .int .i64, .fz false (.int .i8), .int .i64] false, .box [.cst (.pl (.slice none 0 0)), .int .i64, .cst (.pl (.slice none 0 0))] false, .lst true (.pair (.pair (.slc (.int .i64)) (.pair (.int .i64) (.slc (.int .i8)))) (.pair (.slc (.int .i32)) (.pair (.slc (.int .i64)) (.pair (.int .i64) (.slc (.int .i8)))))) false, .box [.cst (.own 4), .int .i64, .cst (.own 5)] false, .lst true (.int .i64) false, .lst true (.int .i8) false], fun x k => lV x.1.2.2.2.2.1 x.2.2.2.2.2.2.1 (fun (y33 : Unit) => k .normal ⟨[(1, .ptr 0 0), (3, .ptr 1 0), (14, .own 2), (19, .ptr 3 0), (208, .pl (.int .i64 x.1.2.2.2.2.2.1)), (209, .pl (.int .i64 x.1.2.2.2.2.2.2.1))], [.box [.pl (.int .i64 x.2.1.1), .pl (.int .i64 x.2.1.2.1), .pl (.int .i64 x.2.1.2.2.1), .fz false (.pair (.int .i64) (.pair (.int .i64) (.pair (.int .i64) (.pair (.int .i64) (.pair (.int .i64) (.pair (.int .i64) .bool)))))) x.2.1.2.2.2.1, .pl (.int .u64 x.2.1.2.2.2.2.1), .fz false (.int .i8) x.2.1.2.2.2.2.2.1, .pl (.int .i64 x.2.1.2.2.2.2.2.2.1), .fz false (.int .i8) x.2.1.2.2.2.2.2.2.2.1, .pl (.int .i64 x.2.1.2.2.2.2.2.2.2.2.1)] false, .box [.pl (.slice none 0 0), .pl (.int .i64 x.2.2.1.2.1), .pl (.slice none 0 0)] false, .lst true (.pair (.pair (.slc (.int .i64)) (.pair (.int .i64) (.slc (.int .i8)))) (.pair (.slc (.int .i32)) (.pair (.slc (.int .i64)) (.pair (.int .i64) (.slc (.int .i8)))))) x.2.2.2.1 false, .box [.own 4, .pl (.int .i64 x.2.2.2.2.1.2.1), .own 5] false, .lst true (.int .i64) x.2.2.2.2.2.1 false, .lst true (.int .i8) (x.2.2.2.2.2.2.1 ++ [x.1.2.2.2.2.1]) false]⟩)⟩
noncomputable def JJ : Ent := ⟨[1, 3, 14, 15, 16, 100, 101, 110, 111], [.lf (.cst (.ptr 0 0)), .lf (.cst (.ptr 1 0)), .lf (.cst (.own 2)), .lf (.int .i64), .lf (.int .i64), .lf (.int .i64), .lf (.int .i64), .lf (.int .i64), .lf (.int .i64)], [.box [.int .i64, .int .i64, .int .i64, .fz false (.pair (.int .i64) (.pair (.int .i64) (.pair (.int .i64) (.pair (.int .i64) (.pair (.int .i64) (.pair (.int .i64) .bool)))))), .int .u64, .fz false (.int .i8), .int .i64, .fz false (.int .i8), .int .i64] false, .box [.cst (.pl (.slice none 0 0)), .int .i64, .cst (.pl (.slice none 0 0))] false, .lst true (.pair (.pair (.slc (.int .i64)) (.pair (.int .i64) (.slc (.int .i8)))) (.pair (.slc (.int .i32)) (.pair (.slc (.int .i64)) (.pair (.int .i64) (.slc (.int .i8)))))) false], fun x k => iB x.1.2.2.2.1 (fun (y34 : Int) => k .normal ⟨[(1, .ptr 0 0), (3, .ptr 1 0), (14, .own 2), (15, .pl (.int .i64 y34)), (16, .pl (.int .i64 x.1.2.2.2.2.1)), (100, .pl (.int .i64 x.1.2.2.2.2.2.1)), (101, .pl (.int .i64 x.1.2.2.2.2.2.2.1)), (110, .pl (.int .i64 x.1.2.2.2.2.2.2.2.1)), (111, .pl (.int .i64 x.1.2.2.2.2.2.2.2.2.1))], [.box [.pl (.int .i64 x.2.1.1), .pl (.int .i64 x.2.1.2.1), .pl (.int .i64 x.2.1.2.2.1), .fz false (.pair (.int .i64) (.pair (.int .i64) (.pair (.int .i64) (.pair (.int .i64) (.pair (.int .i64) (.pair (.int .i64) .bool)))))) x.2.1.2.2.2.1, .pl (.int .u64 x.2.1.2.2.2.2.1), .fz false (.int .i8) x.2.1.2.2.2.2.2.1, .pl (.int .i64 x.2.1.2.2.2.2.2.2.1), .fz false (.int .i8) x.2.1.2.2.2.2.2.2.2.1, .pl (.int .i64 x.2.1.2.2.2.2.2.2.2.2.1)] false, .box [.pl (.slice none 0 0), .pl (.int .i64 x.2.2.1.2.1), .pl (.slice none 0 0)] false, .lst true (.pair (.pair (.slc (.int .i64)) (.pair (.int .i64) (.slc (.int .i8)))) (.pair (.slc (.int .i32)) (.pair (.slc (.int .i64)) (.pair (.int .i64) (.slc (.int .i8)))))) x.2.2.2.1 false]⟩)⟩
noncomputable def KL : Ent := ⟨[1, 3, 14, 15, 16, 100, 101, 149, 150], [.lf (.cst (.ptr 0 0)), .lf (.cst (.ptr 1 0)), .lf (.cst (.own 2)), .lf (.int .i64), .lf (.int .i64), .lf (.int .i64), .lf (.int .i64), .lf (.int .i64), .lf (.int .i64)], [.box [.int .i64, .int .i64, .int .i64, .fz false (.pair (.int .i64) (.pair (.int .i64) (.pair (.int .i64) (.pair (.int .i64) (.pair (.int .i64) (.pair (.int .i64) .bool)))))), .int .u64, .fz false (.int .i8), .int .i64, .fz false (.int .i8), .int .i64] false, .box [.cst (.pl (.slice none 0 0)), .int .i64, .cst (.pl (.slice none 0 0))] false, .lst true (.pair (.pair (.slc (.int .i64)) (.pair (.int .i64) (.slc (.int .i8)))) (.pair (.slc (.int .i32)) (.pair (.slc (.int .i64)) (.pair (.int .i64) (.slc (.int .i8)))))) false], fun x k => iC x.1.2.2.2.1 (fun (y35 : Int) => k .normal ⟨[(1, .ptr 0 0), (3, .ptr 1 0), (14, .own 2), (15, .pl (.int .i64 y35)), (16, .pl (.int .i64 x.1.2.2.2.2.1)), (100, .pl (.int .i64 x.1.2.2.2.2.2.1)), (101, .pl (.int .i64 x.1.2.2.2.2.2.2.1)), (149, .pl (.int .i64 x.1.2.2.2.2.2.2.2.1)), (150, .pl (.int .i64 x.1.2.2.2.2.2.2.2.2.1))], [.box [.pl (.int .i64 x.2.1.1), .pl (.int .i64 x.2.1.2.1), .pl (.int .i64 x.2.1.2.2.1), .fz false (.pair (.int .i64) (.pair (.int .i64) (.pair (.int .i64) (.pair (.int .i64) (.pair (.int .i64) (.pair (.int .i64) .bool)))))) x.2.1.2.2.2.1, .pl (.int .u64 x.2.1.2.2.2.2.1), .fz false (.int .i8) x.2.1.2.2.2.2.2.1, .pl (.int .i64 x.2.1.2.2.2.2.2.2.1), .fz false (.int .i8) x.2.1.2.2.2.2.2.2.2.1, .pl (.int .i64 x.2.1.2.2.2.2.2.2.2.2.1)] false, .box [.pl (.slice none 0 0), .pl (.int .i64 x.2.2.1.2.1), .pl (.slice none 0 0)] false, .lst true (.pair (.pair (.slc (.int .i64)) (.pair (.int .i64) (.slc (.int .i8)))) (.pair (.slc (.int .i32)) (.pair (.slc (.int .i64)) (.pair (.int .i64) (.slc (.int .i8)))))) x.2.2.2.1 false]⟩)⟩
noncomputable def lX : Tab := fun n => match n with | 250 => some KH | 8186 => some IU | 32762 => some IZ | 64103 => some KW | 4191434 => some JA | 4191438 => some KV | 8387175 => some IQ | 536503603 => some JJ | 536504115 => some KL | _ => none
noncomputable def vA : Go.Mach.Ends := fun n => match n with | 2 => some ([], [1, 3]) | 6 => some ([], [1, 3, 5, 7]) | 28 => some ([], [1, 3, 5, 7, 30]) | 30 => some ([], [1, 3, 5, 8]) | 59 => some ([], [1, 3, 5]) | 116 => some ([], [2, 3, 4]) | 117 => some ([], [2, 3, 4]) | 124 => some ([], [1, 3, 8, 33, 34, 35]) | 250 => some ([], [1, 3, 8, 33, 34, 35]) | 252 => some ([], [1, 3, 85]) | 254 => some ([], [1, 3, 7, 14]) | 507 => some ([], [1, 3]) | 1000 => some ([], [1, 3, 8, 33, 34, 35, 36]) | 1012 => some ([], [2, 3, 4]) | 1013 => some ([], [2, 3, 4]) | 1020 => some ([], [1, 3, 7, 14, 96]) | 1022 => some ([], [1, 3, 14, 15]) | 2043 => some ([], [1, 3, 14]) | 4004 => some ([], [1, 3, 8, 33, 34, 35]) | 4005 => some ([], [1, 3, 8]) | 4007 => some ([], [1, 3, 8, 33, 34, 35]) | 4084 => some ([], [2, 3, 4]) | 4085 => some ([], [2, 3, 4]) | 4092 => some ([], [1, 3, 14, 15, 100, 101]) | 4094 => some ([], [1, 3, 14, 19]) | 8186 => some ([], [1, 3, 14, 15, 100, 101]) | 16024 => some ([], [1, 3, 8, 9, 10, 33, 34, 35]) | 16380 => some ([], [1, 3, 14, 19, 208, 209]) | 16382 => some ([], [2, 3, 4]) | 16383 => some ([], [2, 3, 4]) | 32050 => some ([], [1, 3, 8, 9, 10, 11, 33, 34, 35]) | 32744 => some ([], [1, 3, 14, 15, 100, 101, 102]) | 32762 => some ([⟨19, some 2, false, (.int .i8)⟩], [1, 3, 14, 19, 208, 209]) | 64103 => some ([], [1, 3, 8, 33, 34, 35]) | 128204 => some ([], [1, 3, 8, 9, 10, 11, 33, 34, 35, 41]) | 130980 => some ([], [1, 3, 14, 15, 100, 101]) | 130981 => some ([], [1, 3, 14]) | 130983 => some ([], [1, 3, 14, 15, 100, 101]) | 131048 => some ([], [1, 3, 14, 19, 208, 209, 210]) | 256411 => some ([], [1, 3, 8, 10, 11, 33, 34, 35]) | 512820 => some ([], [1, 3, 8, 9, 10, 12, 33, 34, 35]) | 523928 => some ([], [1, 3, 14, 15, 16, 100, 101]) | 524196 => some ([], [1, 3, 14, 19, 208, 209]) | 524197 => some ([], [3, 14, 19]) | 524199 => some ([], [1, 3, 14, 19, 208, 209]) | 1025642 => some ([], [1, 3, 8, 9, 10, 11, 12, 33, 34, 35]) | 2051286 => some ([], [1, 3, 8, 10, 11, 33, 34, 35, 75]) | 2095716 => some ([], [1, 3, 14, 15, 16, 100, 101, 110, 111]) | 2095718 => some ([], [1, 3, 14, 15, 16, 100, 101, 149, 150]) | 2096792 => some ([], [1, 3, 14, 19, 20, 208, 209]) | 4102575 => some ([], [1, 3, 8, 10, 11, 33, 34, 35]) | 4191434 => some ([], [1, 3, 14, 15, 16, 100, 101, 110, 111]) | 4191438 => some ([], [1, 3, 14, 15, 16, 100, 101, 149, 150]) | 4193586 => some ([], [1, 3, 14, 19, 20, 21, 208, 209]) | 8205148 => some ([], [2, 3, 4]) | 8205149 => some ([], [2, 3, 4]) | 8387175 => some ([], [1, 3, 14, 19, 208, 209]) | 16765736 => some ([], [1, 3, 14, 15, 16, 100, 101, 110, 111, 112]) | 16765752 => some ([], [1, 3, 14, 15, 16, 100, 101, 149, 150, 151]) | 16774348 => some ([], [1, 3, 14, 19, 20, 21, 208, 209, 228]) | 33548698 => some ([], [1, 3, 14, 19, 21, 208, 209]) | 33548699 => some ([], [1, 3, 14, 19, 21, 208, 209]) | 67062948 => some ([], [1, 3, 14, 15, 16, 100, 101, 110, 111]) | 67062949 => some ([], [1, 3, 14, 15, 16, 100, 101]) | 67062951 => some ([], [1, 3, 14, 15, 16, 100, 101, 110, 111]) | 67063012 => some ([], [1, 3, 14, 15, 16, 100, 101, 149, 150]) | 67063013 => some ([], [1, 3, 14, 15, 100, 101]) | 67063015 => some ([], [1, 3, 14, 15, 16, 100, 101, 149, 150]) | 268251800 => some ([], [1, 3, 14, 15, 16, 17, 100, 101, 110, 111]) | 268252056 => some ([], [1, 3, 14, 15, 16, 18, 100, 101, 149, 150]) | 536503603 => some ([], [1, 3, 14, 15, 16, 100, 101, 110, 111]) | 536504115 => some ([], [1, 3, 14, 15, 16, 100, 101, 149, 150]) | 1073007204 => some ([], [1, 3, 14, 15, 16, 17, 100, 101, 110, 111, 126]) | 1073008228 => some ([], [1, 3, 14, 15, 16, 18, 100, 101, 149, 150, 165]) | 2146014410 => some ([], [1, 3, 14, 15, 16, 100, 101, 110, 111]) | 2146014411 => some ([], [1, 3, 14, 15, 16, 100, 101, 110, 111]) | 2146016458 => some ([], [1, 3, 14, 15, 16, 100, 101, 149, 150]) | 2146016459 => some ([], [1, 3, 14, 15, 16, 100, 101, 149, 150]) | _ => none
noncomputable def wR : Code := Try.f6.body.getD .skip
theorem G8 : aL vP lX vA wR := by
 intro n E hn f c hs x k h
 unfold lX at hn
 split at hn
 ·cases hn; exact aK hs (by kernel_rfl) (fun y : Int × Int => ⟨[(1, .ptr 0 0), (3, .ptr 1 0), (8, .pl (.int .i64 y.1)), (33, .own 2), (34, .pl (.int .i64 x.1.2.2.2.2.1)), (35, .pl (.int .i64 y.2))], [.box [.pl (.int .i64 x.2.1.1), .pl (.int .i64 x.2.1.2.1), .pl (.int .i64 x.2.1.2.2.1), .fz false (.pair (.int .i64) (.pair (.int .i64) (.pair (.int .i64) (.pair (.int .i64) (.pair (.int .i64) (.pair (.int .i64) .bool)))))) x.2.1.2.2.2.1, .pl (.int .u64 x.2.1.2.2.2.2.1), .fz false (.int .i8) x.2.1.2.2.2.2.2.1, .pl (.int .i64 x.2.1.2.2.2.2.2.2.1), .fz false (.int .i8) x.2.1.2.2.2.2.2.2.2.1, .pl (.int .i64 x.2.1.2.2.2.2.2.2.2.2.1)] false, .box [.pl (.slice none 0 0), .pl (.int .i64 x.2.2.1.2.1), .pl (.slice none 0 0)] false, .lst true (.slc (.int .i64)) x.2.2.2.1 false]⟩) (x.1.2.2.1, x.1.2.2.2.2.2.1) (by kernel_rfl) (fun y X => by kernel_rfl) h.it
 ·cases hn; exact aK hs (by kernel_rfl) (fun y : Int × Int × (List Int) × (List Int) × List (((List Int) × Int × List Int) × (List Int) × (List Int) × Int × List Int) => ⟨[(1, .ptr 0 0), (3, .ptr 1 0), (14, .own 2), (15, .pl (.int .i64 y.1)), (100, .pl (.int .i64 x.1.2.2.2.2.1)), (101, .pl (.int .i64 y.2.1))], [.box [.pl (.int .i64 x.2.1.1), .pl (.int .i64 x.2.1.2.1), .pl (.int .i64 x.2.1.2.2.1), .fz false (.pair (.int .i64) (.pair (.int .i64) (.pair (.int .i64) (.pair (.int .i64) (.pair (.int .i64) (.pair (.int .i64) .bool)))))) x.2.1.2.2.2.1, .pl (.int .u64 x.2.1.2.2.2.2.1), .fz false (.int .i8) y.2.2.1, .pl (.int .i64 x.2.1.2.2.2.2.2.2.1), .fz false (.int .i8) y.2.2.2.1, .pl (.int .i64 x.2.1.2.2.2.2.2.2.2.2.1)] false, .box [.pl (.slice none 0 0), .pl (.int .i64 x.2.2.1.2.1), .pl (.slice none 0 0)] false, .lst true (.pair (.pair (.slc (.int .i64)) (.pair (.int .i64) (.slc (.int .i8)))) (.pair (.slc (.int .i32)) (.pair (.slc (.int .i64)) (.pair (.int .i64) (.slc (.int .i8)))))) y.2.2.2.2 false]⟩) (x.1.2.2.2.1, x.1.2.2.2.2.2.1, x.2.1.2.2.2.2.2.1, x.2.1.2.2.2.2.2.2.2.1, x.2.2.2.1) (by kernel_rfl) (fun y X => by kernel_rfl) h.it
 ·cases hn; exact aK hs (by kernel_rfl) (fun y : Int × List Int => ⟨[(1, .ptr 0 0), (3, .ptr 1 0), (14, .own 2), (19, .ptr 3 0), (208, .pl (.int .i64 x.1.2.2.2.2.1)), (209, .pl (.int .i64 y.1))], [.box [.pl (.int .i64 x.2.1.1), .pl (.int .i64 x.2.1.2.1), .pl (.int .i64 x.2.1.2.2.1), .fz false (.pair (.int .i64) (.pair (.int .i64) (.pair (.int .i64) (.pair (.int .i64) (.pair (.int .i64) (.pair (.int .i64) .bool)))))) x.2.1.2.2.2.1, .pl (.int .u64 x.2.1.2.2.2.2.1), .fz false (.int .i8) x.2.1.2.2.2.2.2.1, .pl (.int .i64 x.2.1.2.2.2.2.2.2.1), .fz false (.int .i8) x.2.1.2.2.2.2.2.2.2.1, .pl (.int .i64 x.2.1.2.2.2.2.2.2.2.2.1)] false, .box [.pl (.slice none 0 0), .pl (.int .i64 x.2.2.1.2.1), .pl (.slice none 0 0)] false, .lst true (.pair (.pair (.slc (.int .i64)) (.pair (.int .i64) (.slc (.int .i8)))) (.pair (.slc (.int .i32)) (.pair (.slc (.int .i64)) (.pair (.int .i64) (.slc (.int .i8)))))) x.2.2.2.1 false, .box [.own 4, .pl (.int .i64 x.2.2.2.2.1.2.1), .own 5] false, .lst true (.int .i64) x.2.2.2.2.2.1 false, .lst true (.int .i8) y.2 false]⟩) (x.1.2.2.2.2.2.1, ([] : List Int)) (by kernel_rfl) (fun y X => by kernel_rfl) h.it
 ·cases hn; exact bT hs (by kernel_rfl) (by kernel_rfl) h.it
 ·cases hn; exact aK hs (by kernel_rfl) (fun y : Int × Int × (List Int) × (List Int) × List (((List Int) × Int × List Int) × (List Int) × (List Int) × Int × List Int) => ⟨[(1, .ptr 0 0), (3, .ptr 1 0), (14, .own 2), (15, .pl (.int .i64 y.1)), (16, .pl (.int .i64 x.1.2.2.2.2.1)), (100, .pl (.int .i64 x.1.2.2.2.2.2.1)), (101, .pl (.int .i64 x.1.2.2.2.2.2.2.1)), (110, .pl (.int .i64 x.1.2.2.2.2.2.2.2.1)), (111, .pl (.int .i64 y.2.1))], [.box [.pl (.int .i64 x.2.1.1), .pl (.int .i64 x.2.1.2.1), .pl (.int .i64 x.2.1.2.2.1), .fz false (.pair (.int .i64) (.pair (.int .i64) (.pair (.int .i64) (.pair (.int .i64) (.pair (.int .i64) (.pair (.int .i64) .bool)))))) x.2.1.2.2.2.1, .pl (.int .u64 x.2.1.2.2.2.2.1), .fz false (.int .i8) y.2.2.1, .pl (.int .i64 x.2.1.2.2.2.2.2.2.1), .fz false (.int .i8) y.2.2.2.1, .pl (.int .i64 x.2.1.2.2.2.2.2.2.2.2.1)] false, .box [.pl (.slice none 0 0), .pl (.int .i64 x.2.2.1.2.1), .pl (.slice none 0 0)] false, .lst true (.pair (.pair (.slc (.int .i64)) (.pair (.int .i64) (.slc (.int .i8)))) (.pair (.slc (.int .i32)) (.pair (.slc (.int .i64)) (.pair (.int .i64) (.slc (.int .i8)))))) y.2.2.2.2 false]⟩) (x.1.2.2.2.1, x.1.2.2.2.2.2.2.2.2.1, x.2.1.2.2.2.2.2.1, x.2.1.2.2.2.2.2.2.2.1, x.2.2.2.1) (by kernel_rfl) (fun y X => by kernel_rfl) h.it
 ·cases hn; exact aK hs (by kernel_rfl) (fun y : Int × Int × (List Int) × (List Int) × List (((List Int) × Int × List Int) × (List Int) × (List Int) × Int × List Int) => ⟨[(1, .ptr 0 0), (3, .ptr 1 0), (14, .own 2), (15, .pl (.int .i64 y.1)), (16, .pl (.int .i64 x.1.2.2.2.2.1)), (100, .pl (.int .i64 x.1.2.2.2.2.2.1)), (101, .pl (.int .i64 x.1.2.2.2.2.2.2.1)), (149, .pl (.int .i64 x.1.2.2.2.2.2.2.2.1)), (150, .pl (.int .i64 y.2.1))], [.box [.pl (.int .i64 x.2.1.1), .pl (.int .i64 x.2.1.2.1), .pl (.int .i64 x.2.1.2.2.1), .fz false (.pair (.int .i64) (.pair (.int .i64) (.pair (.int .i64) (.pair (.int .i64) (.pair (.int .i64) (.pair (.int .i64) .bool)))))) x.2.1.2.2.2.1, .pl (.int .u64 x.2.1.2.2.2.2.1), .fz false (.int .i8) y.2.2.1, .pl (.int .i64 x.2.1.2.2.2.2.2.2.1), .fz false (.int .i8) y.2.2.2.1, .pl (.int .i64 x.2.1.2.2.2.2.2.2.2.2.1)] false, .box [.pl (.slice none 0 0), .pl (.int .i64 x.2.2.1.2.1), .pl (.slice none 0 0)] false, .lst true (.pair (.pair (.slc (.int .i64)) (.pair (.int .i64) (.slc (.int .i8)))) (.pair (.slc (.int .i32)) (.pair (.slc (.int .i64)) (.pair (.int .i64) (.slc (.int .i8)))))) y.2.2.2.2 false]⟩) (x.1.2.2.2.1, x.1.2.2.2.2.2.2.2.2.1, x.2.1.2.2.2.2.2.1, x.2.1.2.2.2.2.2.2.2.1, x.2.2.2.1) (by kernel_rfl) (fun y X => by kernel_rfl) h.it
 ·cases hn; exact bT hs (by kernel_rfl) (by kernel_rfl) h.it
 ·cases hn; exact bT hs (by kernel_rfl) (by kernel_rfl) h.it
 ·cases hn; exact bT hs (by kernel_rfl) (by kernel_rfl) h.it
 ·cases hn
def eU : List Sh := [.agg [.int .i64, .int .i64, .int .i64, .fz false (.pair (.int .i64) (.pair (.int .i64) (.pair (.int .i64) (.pair (.int .i64) (.pair (.int .i64) (.pair (.int .i64) .bool)))))), .int .u64, .fz false (.int .i8), .int .i64, .fz false (.int .i8), .int .i64]]
def nA (x : aI eU) (Q : List (Bool × List VV) -> Prop) : Prop := qE (((x.1.1, (x.1.2.1, x.1.2.2.1)), x.1.2.2.2.1), (x.1.2.2.2.2.1, (x.1.2.2.2.2.2.1, (x.1.2.2.2.2.2.2.1, (x.1.2.2.2.2.2.2.2.1, x.1.2.2.2.2.2.2.2.2.1))))) (fun (r : (List (((List Int) × Int × List Int) × (List Int) × (List Int) × Int × List Int)) × ((List Int) × Int × List Int) × Int) => Q (aH [(false, (.slc (.pair (.pair (.slc (.int .i64)) (.pair (.int .i64) (.slc (.int .i8)))) (.pair (.slc (.int .i32)) (.pair (.slc (.int .i64)) (.pair (.int .i64) (.slc (.int .i8)))))))), (true, (.pair (.slc (.int .i64)) (.pair (.int .i64) (.slc (.int .i8))))), (false, (.int .i64))] [.n, .n, .n] (r.1, (r.2.1, (r.2.2, ())))))
theorem G0 (x : aI eU) (Q : List (Bool × List VV) -> Prop) (h : nA x Q) : aD Try.prog 6 (aM eU x) Q :=
 aC [.n, .n, .n] (G := vP) (ct := lX) (en := vA) (fn := Try.f6) (cd := wR) (rt := [(false, (.slc (.pair (.pair (.slc (.int .i64)) (.pair (.int .i64) (.slc (.int .i8)))) (.pair (.slc (.int .i32)) (.pair (.slc (.int .i64)) (.pair (.int .i64) (.slc (.int .i8)))))))), (true, (.pair (.slc (.int .i64)) (.pair (.int .i64) (.slc (.int .i8))))), (false, (.int .i64))]) Try.func6 (by kernel_rfl) (by kernel_rfl) (Nat.le_of_ble_eq_true rfl) G8 tD (aG rfl) h.it (by kernel_rfl)
noncomputable def oL : FuncId -> List VV -> (List (Bool × List VV) -> Prop) -> Prop := fun f args Q => if f = 6 then unA eU args (fun x => nA x Q) else oJ f args Q
theorem tL : ∀ f args Q, oL f args Q -> aD Try.prog f args Q := aE tD (f0 := 6) eU (fun x Q => nA x Q) G0
noncomputable def AA : Cfg := ⟨Try.prog, tt, oL, fun _ _ _ => False, none, false⟩
def gA (x0 : Int) (x4 : List Int) (x7 : List Int) (K0 : Unit -> Prop) (K1 : Unit -> Prop) (s : Int) (nx : Int -> Prop) : Prop :=
 if (decide (s < x0)) = true then ck ((0 : Int) <= s /\ s < (x4.length : Int)) (ck ((0 : Int) <= s /\ s < (x7.length : Int)) (if ((x4.getD ((s).toNat) 0) != (x7.getD ((s).toNat) 0)) = true then K1 () else nx (IntKind.i64.wrap (s + 1)))) else K0 ()
structure tX (x0 : Int) (x4 : List Int) (x7 : List Int) (K0 : Unit -> Prop) (K1 : Unit -> Prop) (s : Int) : Prop where
 it : Go.Mach.Loop (gA x0 x4 x7 K0 K1) s
def wO (a0 : (List Int) × Int × List Int) (a1 : (List Int) × Int × List Int) (Q : Bool -> Prop) : Prop :=
 cS a0.1 a1.1 (fun (r1 : Bool) => if (((!r1) || (a0.2.1 != a1.2.1)) || ((a0.2.2.length : Int) != (a1.2.2.length : Int))) = true then Q false else tX (a0.2.2.length : Int) a0.2.2 a1.2.2 (fun (y2 : Unit) => Q true) (fun (y3 : Unit) => Q false) 0)
structure kA (a0 : (List Int) × Int × List Int) (a1 : (List Int) × Int × List Int) (Q : Bool -> Prop) : Prop where
 it : wO a0 a1 Q
noncomputable def KF : Ent := ⟨[2, 3, 30, 31], [.lf (.cst (.ptr 0 0)), .lf (.cst (.ptr 1 0)), .lf (.int .i64), .lf (.int .i64)], [.box [.fz false (.int .i64), .int .i64, .fz false (.int .i8)] false, .box [.fz false (.int .i64), .int .i64, .fz false (.int .i8)] false], fun x k => tX x.1.2.2.1 x.2.1.2.2.1 x.2.2.1.2.2.1 (fun (y4 : Unit) => k (.exit 0) ⟨[], []⟩) (fun (y5 : Unit) => k .ret ⟨[(4, .pl (.bool false))], []⟩) x.1.2.2.2.1⟩
noncomputable def mA : Tab := fun n => match n with | 58 => some KF | _ => none
noncomputable def tY : Go.Mach.Ends := fun n => match n with | 2 => some ([], [2, 3]) | 12 => some ([], [2, 3, 27]) | 27 => some ([], [2, 3]) | 28 => some ([], [2, 3, 30, 31]) | 30 => some ([], [4]) | 31 => some ([], [4]) | 52 => some ([], [4]) | 53 => some ([], [4]) | 58 => some ([], [2, 3, 30, 31]) | 232 => some ([], [2, 3, 30, 31, 32]) | 932 => some ([], [2, 3, 30, 31]) | 933 => some ([], []) | 935 => some ([], [2, 3, 30, 31]) | 3736 => some ([], [2, 3, 5, 30, 31]) | 7474 => some ([], [2, 3, 30, 31, 44]) | 14951 => some ([], [2, 3, 30, 31]) | 29900 => some ([], [4]) | 29901 => some ([], [4]) | _ => none
noncomputable def wG : Code := Try.f8.body.getD .skip
theorem IG : aL AA mA tY wG := by
 intro n E hn f c hs x k h
 unfold mA at hn
 split at hn
 ·cases hn; exact aK hs (by kernel_rfl) (fun y : Int => ⟨[(2, .ptr 0 0), (3, .ptr 1 0), (30, .pl (.int .i64 x.1.2.2.1)), (31, .pl (.int .i64 y))], [.box [.fz false (.int .i64) x.2.1.1, .pl (.int .i64 x.2.1.2.1), .fz false (.int .i8) x.2.1.2.2.1] false, .box [.fz false (.int .i64) x.2.2.1.1, .pl (.int .i64 x.2.2.1.2.1), .fz false (.int .i8) x.2.2.1.2.2.1] false]⟩) x.1.2.2.2.1 (by kernel_rfl) (fun y X => by kernel_rfl) h.it
 ·cases hn
def eS : List Sh := [.agg [.fz false (.int .i64), .int .i64, .fz false (.int .i8)], .agg [.fz false (.int .i64), .int .i64, .fz false (.int .i8)]]
def m6 (x : aI eS) (Q : List (Bool × List VV) -> Prop) : Prop := kA (x.1.1, (x.1.2.1, x.1.2.2.1)) (x.2.1.1, (x.2.1.2.1, x.2.1.2.2.1)) (fun (r : Bool) => Q (aH [(false, .bool)] [.n] (r, ())))
theorem HA (x : aI eS) (Q : List (Bool × List VV) -> Prop) (h : m6 x Q) : aD Try.prog 8 (aM eS x) Q :=
 aC [.n] (G := AA) (ct := mA) (en := tY) (fn := Try.f8) (cd := wG) (rt := [(false, .bool)]) Try.func8 (by kernel_rfl) (by kernel_rfl) (Nat.le_of_ble_eq_true rfl) IG tL (aG rfl) h.it (by kernel_rfl)
noncomputable def pD : FuncId -> List VV -> (List (Bool × List VV) -> Prop) -> Prop := fun f args Q => if f = 8 then unA eS args (fun x => m6 x Q) else oL f args Q
theorem sV : ∀ f args Q, pD f args Q -> aD Try.prog f args Q := aE tL (f0 := 8) eS (fun x Q => m6 x Q) HA
noncomputable def zN : Cfg := ⟨Try.prog, tt, pD, fun _ _ _ => False, none, false⟩
end Go.Proofs.Ytbenbhdagmnapaa

namespace Go.Proofs.Ytbenbhdagmnapaa
open Go.Mach
set_option maxRecDepth 100000
set_option linter.unusedVariables false
def g0 (x0 : List Int) (x1 : Int) (K0 : Unit -> Prop) (K1 : Unit -> Prop) (s : Int) (nx : Int -> Prop) : Prop :=
 if (decide (s < x1)) = true then ck ((0 : Int) <= s /\ s < (x0.length : Int)) (if ((x0.getD ((s).toNat) 0) == (-128)) = true then K1 () else nx (IntKind.i64.wrap (s + 1))) else K0 ()
structure iW (x0 : List Int) (x1 : Int) (K0 : Unit -> Prop) (K1 : Unit -> Prop) (s : Int) : Prop where
 it : Go.Mach.Loop (g0 x0 x1 K0 K1) s
def zG (a0 : (List Int) × Int × List Int) (Q : Bool -> Prop) : Prop :=
 cD a0.1 (fun (r1 : Bool) => jn (fun (v2 : Bool) => if ((v2 || (decide (a0.2.1 < (-64)))) || (decide (64 < a0.2.1))) = true then Q false else iW a0.2.2 (a0.2.2.length : Int) (fun (y5 : Unit) => Q true) (fun (y6 : Unit) => Q false) 0) (fun J3 => if (!r1) = true then J3 true else dI a0.1 (fun (r4 : Int) => J3 ((a0.2.2.length : Int) != r4))))
structure sJ (a0 : (List Int) × Int × List Int) (Q : Bool -> Prop) : Prop where
 it : zG a0 Q
noncomputable def M7 : Ent := ⟨[29, 30, 31], [.lf (.fz false (.int .i8)), .lf (.int .i64), .lf (.int .i64)], [], fun x k => iW x.1.1 x.1.2.1 (fun (y7 : Unit) => k (.exit 0) ⟨[], []⟩) (fun (y8 : Unit) => k .ret ⟨[(2, .pl (.bool false))], []⟩) x.1.2.2.1⟩
noncomputable def mY : Tab := fun n => match n with | 58 => some M7 | _ => none
noncomputable def wU : Go.Mach.Ends := fun n => match n with | 2 => some ([], [1]) | 12 => some ([], [1, 27]) | 27 => some ([], [1]) | 28 => some ([], [29, 30, 31]) | 30 => some ([], [2]) | 31 => some ([], [2]) | 52 => some ([], [2]) | 53 => some ([], [2]) | 58 => some ([], [29, 30, 31]) | 232 => some ([], [29, 30, 31, 32]) | 932 => some ([], [29, 30, 31]) | 933 => some ([], []) | 935 => some ([], [29, 30, 31]) | 3736 => some ([], [4, 29, 30, 31]) | 7474 => some ([], [29, 30, 31, 36]) | 14951 => some ([], [29, 30, 31]) | 29900 => some ([], [2]) | 29901 => some ([], [2]) | _ => none
noncomputable def zY : Code := Try.f9.body.getD .skip
theorem I3 : aL zN mY wU zY := by
 intro n E hn f c hs x k h
 unfold mY at hn
 split at hn
 ·cases hn; exact aK hs (by kernel_rfl) (fun y : Int => ⟨[(29, .fz false (.int .i8) x.1.1), (30, .pl (.int .i64 x.1.2.1)), (31, .pl (.int .i64 y))], []⟩) x.1.2.2.1 (by kernel_rfl) (fun y X => by kernel_rfl) h.it
 ·cases hn
def fF : List Sh := [.agg [.fz false (.int .i64), .int .i64, .fz false (.int .i8)]]
def oR (x : aI fF) (Q : List (Bool × List VV) -> Prop) : Prop := sJ (x.1.1, (x.1.2.1, x.1.2.2.1)) (fun (r : Bool) => Q (aH [(false, .bool)] [.n] (r, ())))
theorem JK (x : aI fF) (Q : List (Bool × List VV) -> Prop) (h : oR x Q) : aD Try.prog 9 (aM fF x) Q :=
 aC [.n] (G := zN) (ct := mY) (en := wU) (fn := Try.f9) (cd := zY) (rt := [(false, .bool)]) Try.func9 (by kernel_rfl) (by kernel_rfl) (Nat.le_of_ble_eq_true rfl) I3 sV (aG rfl) h.it (by kernel_rfl)
noncomputable def BC : FuncId -> List VV -> (List (Bool × List VV) -> Prop) -> Prop := fun f args Q => if f = 9 then unA fF args (fun x => oR x Q) else pD f args Q
theorem JL : ∀ f args Q, BC f args Q -> aD Try.prog f args Q := aE sV (f0 := 9) fF (fun x Q => oR x Q) JK
noncomputable def A4 : Cfg := ⟨Try.prog, tt, BC, fun _ _ _ => False, none, false⟩
def cK (x0 : Int) (x2 : List ((List Int) × Int × List Int)) (x4 : List ((List Int) × Int × List Int)) (K0 : Unit -> Prop) (K1 : Unit -> Prop) (s : Int) (nx : Int -> Prop) : Prop :=
 if (decide (s < x0)) = true then ck ((0 : Int) <= s /\ s < (x2.length : Int)) (ck ((0 : Int) <= s /\ s < (x4.length : Int)) (kA ((x2.getD ((s).toNat) ([], (0, []))).1, (((x2.getD ((s).toNat) ([], (0, []))).2).1, ((x2.getD ((s).toNat) ([], (0, []))).2).2)) ((x4.getD ((s).toNat) ([], (0, []))).1, (((x4.getD ((s).toNat) ([], (0, []))).2).1, ((x4.getD ((s).toNat) ([], (0, []))).2).2)) (fun (r9 : Bool) => jn (fun (v10 : Bool) => if v10 = true then K1 () else nx (IntKind.i64.wrap (s + 1))) (fun J11 => if (!r9) = true then J11 true else ck ((0 : Int) <= s /\ s < (x4.length : Int)) (sJ ((x4.getD ((s).toNat) ([], (0, []))).1, (((x4.getD ((s).toNat) ([], (0, []))).2).1, ((x4.getD ((s).toNat) ([], (0, []))).2).2)) (fun (r12 : Bool) => J11 (!r12))))))) else K0 ()
structure kD (x0 : Int) (x2 : List ((List Int) × Int × List Int)) (x4 : List ((List Int) × Int × List Int)) (K0 : Unit -> Prop) (K1 : Unit -> Prop) (s : Int) : Prop where
 it : Go.Mach.Loop (cK x0 x2 x4 K0 K1) s
def jP (x0 : Int) (x1 : Int) (x2 : Int) (x6 : List (Int × Int × Int × Int × Int × Int × Bool)) (x12 : List ((List Int) × Int × List Int)) (x14 : List ((List Int) × Int × List Int)) (K0 : Bool -> Prop) : Prop :=
 if (x1 != 0) = true then jn (fun (v6 : Bool) => K0 v6) (fun J7 => if ((x12.length : Int) == 0) = true then dK (fun (r8 : Bool) => J7 r8) else J7 false) else if (((x2 != 0) || ((x14.length : Int) != (IntKind.i64.wrap (x0 + 1)))) || ((x12.length : Int) != (IntKind.i64.wrap ((x6.length : Int) + 1)))) = true then K0 false else kD (x14.length : Int) x12 x14 (fun (y9 : Unit) => dK (fun (r10 : Bool) => K0 r10)) (fun (y11 : Unit) => K0 false) 0
structure fV (x0 : Int) (x1 : Int) (x2 : Int) (x6 : List (Int × Int × Int × Int × Int × Int × Bool)) (x12 : List ((List Int) × Int × List Int)) (x14 : List ((List Int) × Int × List Int)) (K0 : Bool -> Prop) : Prop where
 it : jP x0 x1 x2 x6 x12 x14 K0
def jH (x0 : Int) (x1 : Int) (x2 : Int) (x3 : Int) (x4 : Int) (x5 : Int) (x6 : List (Int × Int × Int × Int × Int × Int × Bool)) (x12 : List (((List Int) × Int × List Int) × (List Int) × (List Int) × Int × List Int)) (x13 : Int) (x14 : List Int) (x15 : List Int) (K0 : Bool -> Prop) : Prop :=
 ck (1000 ≠ (0 : Int)) (yO ((x3, (x4, x5)), x6) x12 (x14, (x13, x15)) x0 (IntKind.i64.wrap ((IntKind.u64.wrap x1).tmod 1000)) (fun (r4 : ((List ((List Int) × Int × List Int)) × List (List Int)) × Int × Int) => ck (x6 ≠ [] /\ (0 : Int) <= 0 /\ (0 : Int) <= x2 /\ x2 <= (x6.length : Int)) (ck (True /\ (0 : Int) <= 0 /\ (0 : Int) <= x2 /\ x2 <= (x12.length : Int)) (yO ((x3, (x4, x5)), (x6.take (x2).toNat).drop ((0 : Int)).toNat) ((x12.take (x2).toNat).drop ((0 : Int)).toNat) (x14, (x13, x15)) x0 (IntKind.i64.wrap ((IntKind.u64.wrap x1).tmod 1000)) (fun (r5 : ((List ((List Int) × Int × List Int)) × List (List Int)) × Int × Int) => fV x2 r4.2.2 r5.2.2 x6 r4.1.1 r5.1.1 (fun (y6 : Bool) => K0 y6))))))
structure kG (x0 : Int) (x1 : Int) (x2 : Int) (x3 : Int) (x4 : Int) (x5 : Int) (x6 : List (Int × Int × Int × Int × Int × Int × Bool)) (x12 : List (((List Int) × Int × List Int) × (List Int) × (List Int) × Int × List Int)) (x13 : Int) (x14 : List Int) (x15 : List Int) (K0 : Bool -> Prop) : Prop where
 it : jH x0 x1 x2 x3 x4 x5 x6 x12 x13 x14 x15 K0
def lE (a0 : ((Int × Int × Int) × List (Int × Int × Int × Int × Int × Int × Bool)) × Int × (List Int) × Int × (List Int) × Int) (a1 : Int) (a2 : Int) (a3 : Int) (Q : Bool -> Prop) : Prop :=
 if ((decide ((a0.1.2.length : Int) < 2)) || (decide (12 < (a0.1.2.length : Int)))) = true then dK (fun (r1 : Bool) => Q r1) else qE (((a0.1.1.1, (a0.1.1.2.1, a0.1.1.2.2)), a0.1.2), (a0.2.1, (a0.2.2.1, (a0.2.2.2.1, (a0.2.2.2.2.1, a0.2.2.2.2.2))))) (fun (r2 : (List (((List Int) × Int × List Int) × (List Int) × (List Int) × Int × List Int)) × ((List Int) × Int × List Int) × Int) => if (r2.2.2 != 0) = true then dK (fun (r3 : Bool) => Q r3) else ck ((IntKind.u64.wrap (IntKind.i64.wrap ((a0.1.2.length : Int) - 1))) ≠ (0 : Int)) (kG a1 a2 (IntKind.i64.wrap (1 + (IntKind.i64.wrap ((IntKind.u64.wrap a3).tmod (IntKind.u64.wrap (IntKind.i64.wrap ((a0.1.2.length : Int) - 1))))))) a0.1.1.1 a0.1.1.2.1 a0.1.1.2.2 a0.1.2 r2.1 r2.2.1.2.1 r2.2.1.1 r2.2.1.2.2 (fun (y7 : Bool) => Q y7)))
structure nV (a0 : ((Int × Int × Int) × List (Int × Int × Int × Int × Int × Int × Bool)) × Int × (List Int) × Int × (List Int) × Int) (a1 : Int) (a2 : Int) (a3 : Int) (Q : Bool -> Prop) : Prop where
 it : lE a0 a1 a2 a3 Q
noncomputable def xU : Ent := ⟨[1, 2, 3, 4, 9, 10], [.lf (.int .u64), .lf (.int .i64), .lf (.int .i64), .lf (.cst (.ptr 0 0)), .lf (.cst (.own 1)), .lf (.cst (.ptr 2 0))], [.box [.int .i64, .int .i64, .int .i64, .fz false (.pair (.int .i64) (.pair (.int .i64) (.pair (.int .i64) (.pair (.int .i64) (.pair (.int .i64) (.pair (.int .i64) .bool)))))), .int .u64, .fz false (.int .i8), .int .i64, .fz false (.int .i8), .int .i64] false, .lst true (.pair (.pair (.slc (.int .i64)) (.pair (.int .i64) (.slc (.int .i8)))) (.pair (.slc (.int .i32)) (.pair (.slc (.int .i64)) (.pair (.int .i64) (.slc (.int .i8)))))) false, .box [.cst (.own 3), .int .i64, .cst (.own 4)] false, .lst true (.int .i64) false, .lst true (.int .i8) false], fun x k => kG x.1.1 x.1.2.1 x.1.2.2.1 x.2.1.1 x.2.1.2.1 x.2.1.2.2.1 x.2.1.2.2.2.1 x.2.2.1 x.2.2.2.1.2.1 x.2.2.2.2.1 x.2.2.2.2.2.1 (fun (y8 : Bool) => k .ret ⟨[(8, .pl (.bool y8))], []⟩)⟩
noncomputable def xS : Ent := ⟨[3, 4, 12, 14, 15, 17], [.lf (.int .i64), .lf (.cst (.ptr 0 0)), .lf (.cst (.ptr 1 0)), .lf (.int .i64), .lf (.cst (.ptr 2 0)), .lf (.int .i64)], [.box [.int .i64, .int .i64, .int .i64, .fz false (.pair (.int .i64) (.pair (.int .i64) (.pair (.int .i64) (.pair (.int .i64) (.pair (.int .i64) (.pair (.int .i64) .bool)))))), .int .u64, .fz false (.int .i8), .int .i64, .fz false (.int .i8), .int .i64] false, .box [.cst (.own 3), .cst (.own 4)] false, .box [.cst (.own 5), .cst (.own 6)] false, .lst true (.pair (.slc (.int .i64)) (.pair (.int .i64) (.slc (.int .i8)))) false, .lst true (.slc (.int .i64)) false, .lst true (.pair (.slc (.int .i64)) (.pair (.int .i64) (.slc (.int .i8)))) false, .lst true (.slc (.int .i64)) false], fun x k => fV x.1.1 x.1.2.2.2.1 x.1.2.2.2.2.2.1 x.2.1.2.2.2.1 x.2.2.2.2.1 x.2.2.2.2.2.2.1 (fun (y9 : Bool) => k .ret ⟨[(8, .pl (.bool y9))], []⟩)⟩
noncomputable def xO : Ent := ⟨[12, 15, 119, 120], [.lf (.cst (.ptr 0 0)), .lf (.cst (.ptr 1 0)), .lf (.int .i64), .lf (.int .i64)], [.box [.cst (.own 2), .cst (.own 3)] false, .box [.cst (.own 4), .cst (.own 5)] false, .lst true (.pair (.slc (.int .i64)) (.pair (.int .i64) (.slc (.int .i8)))) false, .lst true (.slc (.int .i64)) false, .lst true (.pair (.slc (.int .i64)) (.pair (.int .i64) (.slc (.int .i8)))) false, .lst true (.slc (.int .i64)) false], fun x k => kD x.1.2.2.1 x.2.2.2.1 x.2.2.2.2.2.1 (fun (y10 : Unit) => k (.exit 0) ⟨[], []⟩) (fun (y11 : Unit) => k .ret ⟨[(8, .pl (.bool false))], []⟩) x.1.2.2.2.1⟩
noncomputable def fS : Tab := fun n => match n with | 63 => some xU | 511 => some xS | 16378 => some xO | _ => none
noncomputable def kO : Go.Mach.Ends := fun n => match n with | 2 => some ([], [1, 2, 3, 4]) | 12 => some ([], [1, 2, 3, 4, 30]) | 14 => some ([], [1, 2, 3, 4, 9, 10, 11]) | 27 => some ([], [1, 2, 3, 4]) | 52 => some ([], [8]) | 53 => some ([], [8]) | 60 => some ([], [1, 2, 3, 4, 9, 10, 39]) | 62 => some ([], [1, 2, 3, 4, 9, 10]) | 123 => some ([], [1, 2, 3, 4, 9, 10]) | 126 => some ([], [1, 2, 3, 4, 9, 10]) | 244 => some ([], [8]) | 245 => some ([], [8]) | 254 => some ([], [1, 2, 3, 4, 9, 10, 12, 14]) | 510 => some ([], [3, 4, 12, 14, 15, 17]) | 2044 => some ([], [3, 4, 12, 15, 17, 88]) | 4091 => some ([], [3, 4, 12, 15, 17]) | 4092 => some ([], [12, 15, 116]) | 8180 => some ([], [8]) | 8181 => some ([], [8]) | 8187 => some ([], [12, 15]) | 8188 => some ([], [12, 15, 119, 120]) | 8190 => some ([], [8]) | 8191 => some ([], [8]) | 16372 => some ([], [8]) | 16373 => some ([], [8]) | 16378 => some ([], [12, 15, 119, 120]) | 65512 => some ([], [12, 15, 119, 120, 121]) | 262052 => some ([], [12, 15, 119, 120]) | 262053 => some ([], []) | 262055 => some ([], [12, 15, 119, 120]) | 1048216 => some ([], [12, 15, 18, 119, 120]) | 2096434 => some ([], [12, 15, 119, 120, 143]) | 4192871 => some ([], [12, 15, 119, 120]) | 8385740 => some ([], [8]) | 8385741 => some ([], [8]) | _ => none
noncomputable def lD : Code := Try.f3.body.getD .skip
theorem wA : aL A4 fS kO lD := by
 intro n E hn f c hs x k h
 unfold fS at hn
 split at hn
 ·cases hn; exact bT hs (by kernel_rfl) (by kernel_rfl) h.it
 ·cases hn; exact bT hs (by kernel_rfl) (by kernel_rfl) h.it
 ·cases hn; exact aK hs (by kernel_rfl) (fun y : Int => ⟨[(12, .ptr 0 0), (15, .ptr 1 0), (119, .pl (.int .i64 x.1.2.2.1)), (120, .pl (.int .i64 y))], [.box [.own 2, .own 3] false, .box [.own 4, .own 5] false, .lst true (.pair (.slc (.int .i64)) (.pair (.int .i64) (.slc (.int .i8)))) x.2.2.2.1 false, .lst true (.slc (.int .i64)) x.2.2.2.2.1 false, .lst true (.pair (.slc (.int .i64)) (.pair (.int .i64) (.slc (.int .i8)))) x.2.2.2.2.2.1 false, .lst true (.slc (.int .i64)) x.2.2.2.2.2.2.1 false]⟩) x.1.2.2.2.1 (by kernel_rfl) (fun y X => by kernel_rfl) h.it
 ·cases hn
def fY : List Sh := [.agg [.int .i64, .int .i64, .int .i64, .fz false (.pair (.int .i64) (.pair (.int .i64) (.pair (.int .i64) (.pair (.int .i64) (.pair (.int .i64) (.pair (.int .i64) .bool)))))), .int .u64, .fz false (.int .i8), .int .i64, .fz false (.int .i8), .int .i64], .lf (.int .u64), .lf (.int .i64), .lf (.int .i64)]
def zS (x : aI fY) (Q : List (Bool × List VV) -> Prop) : Prop := nV (((x.1.1, (x.1.2.1, x.1.2.2.1)), x.1.2.2.2.1), (x.1.2.2.2.2.1, (x.1.2.2.2.2.2.1, (x.1.2.2.2.2.2.2.1, (x.1.2.2.2.2.2.2.2.1, x.1.2.2.2.2.2.2.2.2.1))))) x.2.1 x.2.2.1 x.2.2.2.1 (fun (r : Bool) => Q (aH [(false, .bool)] [.n] (r, ())))
theorem wC (x : aI fY) (Q : List (Bool × List VV) -> Prop) (h : zS x Q) : aD Try.prog 3 (aM fY x) Q :=
 aC [.n] (G := A4) (ct := fS) (en := kO) (fn := Try.f3) (cd := lD) (rt := [(false, .bool)]) Try.func3 (by kernel_rfl) (by kernel_rfl) (Nat.le_of_ble_eq_true rfl) wA JL (aG rfl) h.it (by kernel_rfl)
end Go.Proofs.Ytbenbhdagmnapaa

namespace Go.Mach
set_option linter.unusedVariables false
set_option linter.unusedSimpArgs false
theorem aKp (a b : Int) : IntKind.i64.wrap (IntKind.i64.wrap a + b) = IntKind.i64.wrap (a + b) := by
 simp only [IntKind.wrap, IntKind.bits, IntKind.signed]; simp; omega
theorem aKa (a b : Int) : IntKind.i32.wrap (IntKind.i32.wrap a + b) = IntKind.i32.wrap (a + b) := by
 simp only [IntKind.wrap, IntKind.bits, IntKind.signed]; simp; omega
theorem aKb (a b : Int) : IntKind.i32.wrap (a + IntKind.i32.wrap b) = IntKind.i32.wrap (a + b) := by
 simp only [IntKind.wrap, IntKind.bits, IntKind.signed]; simp; omega
theorem aNd (a : Int) : IntKind.i32.wrap (IntKind.i64.wrap a) = IntKind.i32.wrap a := by
 simp only [IntKind.wrap, IntKind.bits, IntKind.signed]; simp; omega
def i6 (g : Nat -> Int) : Nat -> Int
 | 0 => 0
 | n + 1 => i6 g n + g n
theorem aIc {f g : Nat -> Int} {n : Nat} (h : ∀ i, i < n -> f i = g i) : i6 f n = i6 g n := by
 induction n with
 | zero => rfl
 | succ n ih => simp only [i6]; rw [ih fun i hi => h i (by omega), h n (by omega)]
theorem aIX (g : Nat -> Int) (B : Int) (n : Nat) (h : ∀ i, i < n -> -B <= g i /\ g i <= B) : -(B * n) <= i6 g n /\ i6 g n <= B * n := by
  induction n with
  | zero => simp [i6]
  | succ n ih =>
    have h1 := ih fun i hi => h i (by omega)
    have h2 := h n (by omega)
    have e : B * ((n + 1 : Nat) : Int) = B * n + B := by rw [Int.natCast_add, Int.mul_add]; simp
    simp only [i6]
    omega
theorem aKe (f : Nat -> Int) (n m : Nat) : i6 f (n + m) = i6 f n + i6 (fun i => f (n + i)) m := by
 induction m with
 | zero => simp [i6]
 | succ m ih => rw [<- Nat.add_assoc]; simp only [i6]; rw [ih]; omega
def aEc {α : Type} (l : List α) (f : α -> Int) : Int := (l.map f).sum
theorem aKl {α : Type} (a : α) (l : List α) (f : α -> Int) : aEc (a :: l) f = f a + aEc l f := by simp [aEc]
theorem aGH {α : Type} (l : List α) (f : α -> Int) (d : α) : aEc l f = i6 (fun i => f (l.getD i d)) l.length := by
  induction l with
  | nil => rfl
  | cons a l ih =>
    rw [aKl, ih, List.length_cons, Nat.add_comm, aKe]
    simp only [i6, List.getD_cons_zero, Int.zero_add]
    congr 1
    exact aIc fun i _ => by rw [Nat.add_comm, List.getD_cons_succ]
def tab (n : Nat) (f : Nat -> Int) : List Int := (List.range n).map f
@[simp] theorem tab_len (n : Nat) (f : Nat -> Int) : (tab n f).length = n := by simp [tab]
theorem aMz {n : Nat} {f : Nat -> Int} {y : Int} (h : y ∈ tab n f) : ∃ i, i < n /\ f i = y := by
 unfold tab at h
 simpa only [List.mem_map, List.mem_range] using h
theorem aL4 {n i : Nat} (f : Nat -> Int) (h : i < n) : (tab n f).getD i 0 = f i := by
 unfold tab
 rw [List.getD_eq_getElem?_getD, List.getElem?_map, List.getElem?_range h]; rfl
theorem aKO {l m : List Int} (hl : l.length = m.length) (h : ∀ i, i < l.length -> l.getD i 0 = m.getD i 0) : l = m := by
 refine List.ext_getElem hl fun i h1 h2 => ?_
 have := h i h1
 rwa [List.getD_eq_getElem?_getD, List.getElem?_eq_getElem h1, List.getD_eq_getElem?_getD, List.getElem?_eq_getElem h2] at this
theorem aMJ {α : Type} {l : List α} {i j : Nat} {v d : α} (hi : i < l.length) : (l.set i v).getD j d = if i = j then v else l.getD j d := by
 rw [List.getD_eq_getElem?_getD, List.getElem?_set]
 by_cases h : i = j
 ·subst h; rw [if_pos rfl, if_pos rfl, if_pos hi]; rfl
 ·rw [if_neg h, if_neg h, List.getD_eq_getElem?_getD]
theorem V6 {l : List Int} {i : Nat} (h : i < l.length) : l.getD i 0 ∈ l := by
 rw [List.getD_eq_getElem?_getD, List.getElem?_eq_getElem h]; exact List.getElem_mem h
theorem aI9 {α : Type} {l : List α} {p : α -> Bool} {i : Nat} {d : α} (hi : i < l.length) : (l.take (i + 1)).all p = ((l.take i).all p && p (l.getD i d)) := by
 rw [List.take_add_one, List.all_append, List.getD_eq_getElem?_getD, List.getElem?_eq_getElem hi]
 simp
theorem aLX {α : Type} {l : List α} {p : α -> Bool} {i : Nat} {d : α} (hi : i < l.length) (h : p (l.getD i d) = false) : l.all p = false := by
 rw [List.all_eq_false]
 refine ⟨l[i], List.getElem_mem hi, ?_⟩
 rw [List.getD_eq_getElem?_getD, List.getElem?_eq_getElem hi] at h
 simp only [Option.getD_some] at h
 rw [h]; simp
theorem D9 {r R n i : Nat} (h1 : r < R) (h2 : i < n) : r * n + i < R * n := by
 have : (r + 1) * n <= R * n := Nat.mul_le_mul_right n h1
 rw [Nat.add_mul, Nat.one_mul] at this
 omega
theorem ZO {r n i : Nat} (h : i < n) : (r * n + i) / n = r := by
 rw [Nat.mul_comm, Nat.mul_add_div (by omega), Nat.div_eq_of_lt h]; rfl
theorem YP {r n i : Nat} (h : i < n) : (r * n + i) % n = i := by
 rw [Nat.mul_comm, Nat.mul_add_mod, Nat.mod_eq_of_lt h]
theorem aJa {r n i r' i' : Nat} (h : i < n) (h' : i' < n) (e : r * n + i = r' * n + i') : r = r' /\ i = i' := by
 have h1 := ZO (r := r) h
 have h2 := YP (r := r) h
 rw [e] at h1 h2
 rw [ZO h'] at h1
 rw [YP h'] at h2
 exact ⟨h1.symm, h2.symm⟩
def ix4 (O P Q m o p q : Nat) : Nat := ((m * O + o) * P + p) * Q + q
theorem aJd {n O P Q m o p q : Nat} (hm : m < n) (ho : o < O) (hp : p < P) (hq : q < Q) : ix4 O P Q m o p q < n * O * P * Q := D9 (D9 (D9 hm ho) hp) hq
theorem aNV {O P Q m o p q m' o' p' q' : Nat} (ho : o < O) (hp : p < P) (hq : q < Q) (ho' : o' < O) (hp' : p' < P) (hq' : q' < Q) (e : ix4 O P Q m o p q = ix4 O P Q m' o' p' q') : m = m' /\ o = o' /\ p = p' /\ q = q' := by
 obtain ⟨e1, e2⟩ := aJa hq hq' e
 obtain ⟨e3, e4⟩ := aJa hp hp' e1
 obtain ⟨e5, e6⟩ := aJa ho ho' e3
 exact ⟨e5, e6, e4, e2⟩
theorem W7 {n k t : Nat} (h : t < n * k) : t / k < n /\ t % k < k /\ t = t / k * k + t % k := by
 have hk : 0 < k := by
  rcases Nat.eq_zero_or_pos k with e | e
  ·rw [e, Nat.mul_zero] at h; omega
  ·exact e
 refine ⟨by rw [Nat.div_lt_iff_lt_mul hk]; exact h, Nat.mod_lt _ hk, ?_⟩
 rw [Nat.mul_comm]; exact (Nat.div_add_mod t k).symm
theorem aK8 {n O P Q t : Nat} (h : t < n * O * P * Q) : ∃ m o p q, m < n /\ o < O /\ p < P /\ q < Q /\ t = ix4 O P Q m o p q := by
 obtain ⟨a1, a2, a3⟩ := W7 h
 obtain ⟨b1, b2, b3⟩ := W7 a1
 obtain ⟨c1, c2, c3⟩ := W7 b1
 exact ⟨_, _, _, _, c1, c2, b2, a2, by unfold ix4; rw [<- c3, <- b3, <- a3]⟩
def aJU (n O P Q : Nat) (cell : Nat -> Nat -> Nat -> Nat -> Int) : List Int := tab (n * O * P * Q) fun t => cell (t / Q / P / O) (t / Q / P % O) (t / Q % P) (t % Q)
theorem aMc (n O P Q : Nat) (cell : Nat -> Nat -> Nat -> Nat -> Int) : (aJU n O P Q cell).length = n * O * P * Q := by simp [aJU]
theorem aMK {n O P Q m o p q : Nat} {cell : Nat -> Nat -> Nat -> Nat -> Int} (hm : m < n) (ho : o < O) (hp : p < P) (hq : q < Q) : (aJU n O P Q cell).getD (ix4 O P Q m o p q) 0 = cell m o p q := by
 unfold aJU
 rw [aL4 _ (aJd hm ho hp hq)]
 unfold ix4
 rw [ZO hq, ZO hp, ZO ho, YP hq, YP hp, YP ho]
structure Fill (n O P Q : Nat) (cell : Nat -> Nat -> Nat -> Nat -> Int) (C : Nat -> Nat -> Nat -> Nat -> Prop) (L : List Int) : Prop where
 len : L.length = n * O * P * Q
 tell : ∀ m o p q, m < n -> o < O -> p < P -> q < Q -> C m o p q -> L.getD (ix4 O P Q m o p q) 0 = cell m o p q
theorem Fill.mono {n O P Q : Nat} {cell : Nat -> Nat -> Nat -> Nat -> Int} {C C' : Nat -> Nat -> Nat -> Nat -> Prop} {L : List Int} (h : Fill n O P Q cell C L) (hc : ∀ m o p q, m < n -> o < O -> p < P -> q < Q -> C' m o p q -> C m o p q) : Fill n O P Q cell C' L :=
 ⟨h.len, fun m o p q hm ho hp hq hC => h.tell m o p q hm ho hp hq (hc m o p q hm ho hp hq hC)⟩
theorem Fill.set {n O P Q : Nat} {cell : Nat -> Nat -> Nat -> Nat -> Int} {C C' : Nat -> Nat -> Nat -> Nat -> Prop} {L : List Int} (h : Fill n O P Q cell C L) {m0 o0 p0 q0 : Nat} (hm : m0 < n) (ho : o0 < O) (hp : p0 < P) (hq : q0 < Q)
  {v : Int} (hv : v = cell m0 o0 p0 q0) (hc : ∀ m o p q, m < n -> o < O -> p < P -> q < Q -> C' m o p q -> C m o p q \/ (m = m0 /\ o = o0 /\ p = p0 /\ q = q0)) : Fill n O P Q cell C' (L.set (ix4 O P Q m0 o0 p0 q0) v) := by
 have hlt := aJd hm ho hp hq
 refine ⟨by rw [List.length_set]; exact h.len, fun m o p q hm' ho' hp' hq' hC => ?_⟩
 rw [aMJ (by rw [h.len]; exact hlt)]
 by_cases e : ix4 O P Q m0 o0 p0 q0 = ix4 O P Q m o p q
 ·rw [if_pos e]
  obtain ⟨e1, e2, e3, e4⟩ := aNV ho hp hq ho' hp' hq' e
  rw [hv, e1, e2, e3, e4]
 ·rw [if_neg e]
  rcases hc m o p q hm' ho' hp' hq' hC with g | ⟨rfl, rfl, rfl, rfl⟩
  ·exact h.tell m o p q hm' ho' hp' hq' g
  ·exact absurd rfl e
theorem aLM {n O P Q : Nat} {L M : List Int} (hl : L.length = n * O * P * Q) (hm : M.length = n * O * P * Q) (h : ∀ m o p q, m < n -> o < O -> p < P -> q < Q -> L.getD (ix4 O P Q m o p q) 0 = M.getD (ix4 O P Q m o p q) 0) : L = M := by
 refine aKO (by omega) fun t ht => ?_
 obtain ⟨m, o, p, q, h1, h2, h3, h4, rfl⟩ := aK8 (hl ▸ ht)
 exact h m o p q h1 h2 h3 h4
theorem Fill.all {n O P Q : Nat} {cell : Nat -> Nat -> Nat -> Nat -> Int} {C : Nat -> Nat -> Nat -> Nat -> Prop} {L : List Int} (h : Fill n O P Q cell C L) (hC : ∀ m o p q, m < n -> o < O -> p < P -> q < Q -> C m o p q) : L = aJU n O P Q cell :=
 aLM h.len (aMc _ _ _ _ _) fun m o p q hm ho hp hq => by rw [aMK hm ho hp hq, h.tell m o p q hm ho hp hq (hC m o p q hm ho hp hq)]
theorem Loop.rangeI {S : Type} {B : S -> (S -> Prop) -> Prop} (n : Nat) (I : Nat -> S -> Prop) {s0 : S} (h0 : I 0 s0) (step : ∀ i, i < n -> ∀ s, I i s -> ∀ X, (∀ s', I (i + 1) s' -> X s') -> B s X) (last : ∀ s, I n s -> ∀ X, B s X) : Loop B s0 := by
 refine Loop.inv (n := n) (fun m s => ∃ i, i + m = n /\ I i s) ⟨0, by omega, h0⟩ ?_
 rintro m s X ⟨i, hi, hI⟩ hX
 by_cases h : i < n
 ·exact step i h s hI X fun s' hI' => hX (m - 1) s' (by omega) ⟨i + 1, by omega, hI'⟩
 ·have : i = n := by omega
  subst this
  exact last s hI X
theorem Loop.all {α : Type} {B : Int -> (Int -> Prop) -> Prop} (l : List α) (p : α -> Bool) {K0 K1 : Prop}
    (step : ∀ i (h : i < l.length) X, (p l[i] = true -> X ((i + 1 : Nat) : Int)) -> (p l[i] = false -> K1) -> B (i : Int) X) (last : K0 -> ∀ X, B (l.length : Int) X)
    (h : if l.all p = true then K0 else K1) : Loop B 0 := by
  refine Loop.range (B := B) (f := fun i : Nat => (i : Int)) l.length (fun i => ∀ j (hj : j < i) (hl : j < l.length), p l[j] = true) (fun j hj => absurd hj (by omega)) ?_ ?_
  · intro i hi hI X hX
    refine step i hi X (fun hp => hX fun j hj hl => ?_) (fun hp => ?_)
    · by_cases e : j = i
      · subst e; exact hp
      · exact hI j (by omega) hl
    · have : ¬ l.all p = true := by
        rw [List.all_eq_true]
        intro ha
        have := ha _ (List.getElem_mem hi)
        rw [hp] at this; cases this
      rwa [if_neg this] at h
  · intro hI X
    refine last ?_ X
    have : l.all p = true := by
      rw [List.all_eq_true]
      intro a ha
      obtain ⟨j, hj, rfl⟩ := List.getElem_of_mem ha
      exact hI j hj hj
    rwa [if_pos this] at h
end Go.Mach

namespace Go.Fl
open Ieee
set_option maxRecDepth 100000
set_option linter.unusedVariables false
set_option linter.unusedSimpArgs false
def sg (s : Bool) (m : Nat) : Int := if s = true then -(m : Int) else (m : Int)
def sC (d : Datum) (n : Int) : Prop := ∃ s m e, d = .number s m e /\ sg s m * 2 ^ e.toNat = n * 2 ^ (-e).toNat
def BS (x : Nat) (n : Int) : Prop := sC (double.read x) n
theorem pw (a : Nat) : ((2 ^ a : Nat) : Int) = 2 ^ a := by rw [Int.natCast_pow]; rfl
theorem aOk (s : Bool) (m : Nat) : (sg s m).natAbs = m := by
 unfold sg; split <;> omega
theorem aFW (n : Int) : sg (decide (n < 0)) n.natAbs = n := by
 unfold sg
 by_cases h : n < 0
 ·rw [decide_eq_true h, if_pos rfl]; omega
 ·rw [decide_eq_false h, if_neg (by simp)]; omega
theorem aD9 {s : Bool} {m : Nat} {e n : Int} (h : sg s m * 2 ^ e.toNat = n * 2 ^ (-e).toNat) : m * 2 ^ e.toNat = n.natAbs * 2 ^ (-e).toNat := by
 have := congrArg Int.natAbs h
 rw [Int.natAbs_mul, Int.natAbs_mul, aOk, <- pw, <- pw, Int.natAbs_natCast, Int.natAbs_natCast] at this
 exact this
theorem aDH (m p : Nat) (hm : m ≠ 0) : (m * 2 ^ p).log2 = m.log2 + p := by
 have hp : 0 < 2 ^ p := Nat.pow_pos (by omega)
 rw [Nat.log2_eq_iff (Nat.mul_ne_zero hm (by omega))]
 have h1 := Nat.log2_self_le hm
 have h2 := @Nat.lt_log2_self m
 constructor
 ·rw [Nat.pow_add]; exact Nat.mul_le_mul_right _ h1
 ·rw [show m.log2 + p + 1 = (m.log2 + 1) + p by omega, Nat.pow_add]; exact Nat.mul_lt_mul_of_pos_right h2 hp
theorem aLG {neg : Bool} {K M : Nat} (hK : K <= 52) (h1 : 2 ^ 52 <= M) (h2 : M < 2 ^ 53) : double.read (double.word neg ((K + 1022) * 2 ^ 52 + M)) = .number neg M ((K : Int) - 52) := by
  have hr1 : (K + 1022) * 2 ^ 52 + M < 2 ^ 63 := by omega
  have e1 : double.word neg ((K + 1022) * 2 ^ 52 + M) % double.signWeight = (K + 1022) * 2 ^ 52 + M := by
    unfold Format.word
    show _ % 2 ^ 63 = _
    cases neg with
    | true => rw [if_pos rfl]; show (2 ^ 63 + _) % 2 ^ 63 = _; omega
    | false => rw [if_neg (by simp)]; omega
  have e2 : (double.word neg ((K + 1022) * 2 ^ 52 + M) / double.signWeight % 2 == 1) = neg := by
    unfold Format.word
    show (_ / 2 ^ 63 % 2 == 1) = _
    cases neg with
    | true =>
      rw [if_pos rfl]
      show ((2 ^ 63 + _) / 2 ^ 63 % 2 == 1) = true
      rw [show (2 ^ 63 + ((K + 1022) * 2 ^ 52 + M)) / 2 ^ 63 = 1 by omega]
      rfl
    | false =>
      rw [if_neg (by simp), show ((K + 1022) * 2 ^ 52 + M) / 2 ^ 63 = 0 by omega]
      rfl
  have e3 : double.binade = 2 ^ 52 := rfl
  have e4 : double.infRung = 2047 * 2 ^ 52 := by decide
  have e5 : double.leastPlace = -1074 := by decide
  unfold Format.read
  rw [e1, e2, e3, e4, e5]
  simp only
  rw [if_neg (by omega), if_pos (by omega)]
  have d1 : ((K + 1022) * 2 ^ 52 + M) / 2 ^ 52 = K + 1023 := by omega
  have d2 : ((K + 1022) * 2 ^ 52 + M) % 2 ^ 52 = M - 2 ^ 52 := by omega
  rw [d1, d2, show 2 ^ 52 + (M - 2 ^ 52) = M by omega, show (-1074 : Int) + ((K + 1023 - 1 : Nat) : Int) = (K : Int) - 52 by omega]
theorem X8 {neg : Bool} {low drop : Nat} {way : Toward} : way.cut neg (low * 2 ^ drop) drop = low := by
 unfold Toward.cut
 by_cases h0 : low = 0
 ·subst h0
  rw [Nat.zero_mul]
  have hg : 0 < 1 <<< min drop (Nat.log2 0 + 2) := by rw [Nat.shiftLeft_eq, Nat.one_mul]; exact Nat.pow_pos (by omega)
  generalize 1 <<< min drop (Nat.log2 0 + 2) = g at hg
  simp only [Nat.zero_div, Nat.zero_mod]
  cases way <;> simp <;> omega
 ·have hp : 0 < 2 ^ drop := Nat.pow_pos (by omega)
  have hl : min drop ((low * 2 ^ drop).log2 + 2) = drop := by
   rw [aDH low drop h0]; omega
  rw [hl, Nat.shiftLeft_eq, Nat.one_mul]
  simp only [Nat.mul_div_cancel _ hp, Nat.mul_mod_left]
  cases way <;> simp <;> omega
theorem J1 {d : Datum} {n : Int} (h : sC d n) (hn : n.natAbs < 2 ^ 53) : BS (double.write d) n := by
  obtain ⟨s, m, e, rfl, he⟩ := h
  have ha := aD9 he
  have hpe : 0 < 2 ^ e.toNat := Nat.pow_pos (by omega)
  have hpe' : 0 < 2 ^ (-e).toNat := Nat.pow_pos (by omega)
  unfold BS
  show sC (double.read (double.nearest s m e)) n
  unfold Format.nearest
  by_cases hm : m = 0
  · rw [if_pos hm]
    subst hm
    have hn0 : n = 0 := by
      rw [Nat.zero_mul] at ha
      have : n.natAbs = 0 := (Nat.mul_eq_zero.1 ha.symm).resolve_right (by omega)
      omega
    subst hn0
    have : double.read (double.word s 0) = .number s 0 (-1074) := by cases s <;> decide +kernel
    rw [this]
    refine ⟨s, 0, -1074, rfl, ?_⟩
    rw [show sg s 0 = 0 by cases s <;> rfl, Int.zero_mul, Int.zero_mul]
  · rw [if_neg hm]
    have hn0 : n.natAbs ≠ 0 := by
      intro h0
      rw [h0, Nat.zero_mul] at ha
      exact hm ((Nat.mul_eq_zero.1 ha).resolve_right (by omega))
    obtain ⟨N, hN⟩ : ∃ N, n.natAbs = N := ⟨_, rfl⟩
    rw [hN] at ha hn hn0
    obtain ⟨K, hKe⟩ : ∃ K, N.log2 = K := ⟨_, rfl⟩
    have hK : K <= 52 := by
      have := (Nat.log2_lt hn0).2 hn
      omega
    have hlog : (m.log2 : Int) + e = K := by
      have := congrArg Nat.log2 ha
      rw [aDH m _ hm, aDH N _ hn0] at this
      omega
    have hf : (double.fractionBits : Int) = 52 := rfl
    have e5 : double.leastPlace = -1074 := by decide
    have hlast : max (e + m.log2 - double.fractionBits) double.leastPlace = (K : Int) - 52 := by
      rw [hf, e5]; omega
    simp only
    rw [hlast]
    have hkept : Toward.even.cut s (m <<< (e - ((K : Int) - 52)).toNat) ((K : Int) - 52 - e).toNat = N * 2 ^ (52 - K) := by
      rw [Nat.shiftLeft_eq]
      by_cases hc : (K : Int) - 52 <= e
      · rw [show ((K : Int) - 52 - e).toNat = 0 by omega]
        have e1 : m * 2 ^ (e - ((K : Int) - 52)).toNat = N * 2 ^ (52 - K) := by
          have hp : 0 < 2 ^ (-e).toNat := hpe'
          apply Nat.eq_of_mul_eq_mul_right hp
          rw [Nat.mul_assoc, Nat.mul_assoc, <- Nat.pow_add, Nat.mul_comm (2 ^ (52 - K)), <- Nat.mul_assoc, <- ha, Nat.mul_assoc, <- Nat.pow_add]
          congr 2
          omega
        rw [e1]
        have := @X8 s (N * 2 ^ (52 - K)) 0 .even
        rw [Nat.pow_zero, Nat.mul_one] at this
        exact this
      · rw [show (e - ((K : Int) - 52)).toNat = 0 by omega, Nat.pow_zero, Nat.mul_one]
        have e1 : m = N * 2 ^ (52 - K) * 2 ^ ((K : Int) - 52 - e).toNat := by
          have h0 : e.toNat = 0 := by omega
          rw [h0, Nat.pow_zero, Nat.mul_one] at ha
          rw [ha, Nat.mul_assoc, <- Nat.pow_add]
          congr 2
          omega
        rw [e1]
        exact X8
    rw [hkept, e5, show ((K : Int) - 52 - -1074).toNat = K + 1022 by omega]
    have b1 : 2 ^ 52 <= N * 2 ^ (52 - K) := by
      have := Nat.mul_le_mul_right (2 ^ (52 - K)) (Nat.log2_self_le hn0)
      rw [hKe, <- Nat.pow_add, show K + (52 - K) = 52 by omega] at this
      exact this
    have b2 : N * 2 ^ (52 - K) < 2 ^ 53 := by
      have := Nat.mul_lt_mul_of_pos_right (@Nat.lt_log2_self N) (show 0 < 2 ^ (52 - K) from Nat.pow_pos (by omega))
      rw [hKe, <- Nat.pow_add, show K + 1 + (52 - K) = 53 by omega] at this
      exact this
    have hmin : min ((K + 1022) * double.binade + N * 2 ^ (52 - K)) double.infRung = (K + 1022) * 2 ^ 52 + N * 2 ^ (52 - K) := by
      rw [show double.binade = 2 ^ 52 from rfl, show double.infRung = 2047 * 2 ^ 52 by decide]
      generalize N * 2 ^ (52 - K) = M at b1 b2 ⊢
      exact Nat.min_eq_left (by omega)
    rw [hmin, aLG hK b1 b2]
    refine ⟨s, _, _, rfl, ?_⟩
    have hs : sg s (N * 2 ^ (52 - K)) = n * 2 ^ (52 - K) := by
      have hp : (0 : Int) < 2 ^ e.toNat := Int.pow_pos (by omega)
      have hp' : (0 : Int) < 2 ^ (-e).toNat := Int.pow_pos (by omega)
      unfold sg at he ⊢
      rw [Int.natCast_mul, pw]
      cases s with
      | true =>
        rw [if_pos rfl] at he ⊢
        have hneg : n < 0 := by
          have h1 : (-(m : Int)) * 2 ^ e.toNat < 0 := Int.mul_neg_of_neg_of_pos (by omega) hp
          rw [he] at h1
          rcases Int.lt_or_le n 0 with h | h
          · exact h
          · have := Int.mul_nonneg h (Int.le_of_lt hp'); omega
        rw [<- Int.neg_mul, show -(N : Int) = n by omega]
      | false =>
        rw [if_neg (by simp)] at he ⊢
        have hpos : 0 <= n := by
          have h1 : 0 <= (m : Int) * 2 ^ e.toNat := Int.mul_nonneg (by omega) (Int.le_of_lt hp)
          rw [he] at h1
          rcases Int.lt_or_le n 0 with h | h
          · have := Int.mul_neg_of_neg_of_pos h hp'; omega
          · exact h
        rw [show (N : Int) = n by omega]
    rw [hs, show ((K : Int) - 52).toNat = 0 by omega, show (-((K : Int) - 52)).toNat = 52 - K by omega, Int.pow_zero, Int.mul_one]
theorem aH5 {s : Bool} {m : Nat} {e n : Int} (he : sg s m * 2 ^ e.toNat = n * 2 ^ (-e).toNat) : sg s n.natAbs = n := by
  have hp : (0 : Int) < 2 ^ e.toNat := Int.pow_pos (by omega)
  have hp' : (0 : Int) < 2 ^ (-e).toNat := Int.pow_pos (by omega)
  unfold sg at he ⊢
  cases s with
  | true =>
    rw [if_pos rfl] at he ⊢
    have h1 : (-(m : Int)) * 2 ^ e.toNat <= 0 := Int.mul_nonpos_of_nonpos_of_nonneg (by omega) (Int.le_of_lt hp)
    rw [he] at h1
    rcases Int.lt_or_le 0 n with h | h
    · have := Int.mul_pos h hp'; omega
    · omega
  | false =>
    rw [if_neg (by simp)] at he ⊢
    have h1 : 0 <= (m : Int) * 2 ^ e.toNat := Int.mul_nonneg (by omega) (Int.le_of_lt hp)
    rw [he] at h1
    rcases Int.lt_or_le n 0 with h | h
    · have := Int.mul_neg_of_neg_of_pos h hp'; omega
    · omega
theorem G2 (s : Bool) (m up : Nat) : signed s m up = sg s m * 2 ^ up := by
 unfold signed sg
 rw [Nat.shiftLeft_eq, Int.natCast_mul, pw]
 cases s <;> simp [Int.neg_mul]
theorem shift {S a i base : Int} (h : S * 2 ^ i.toNat = a * 2 ^ (-i).toNat) (hb : base <= i) : S * 2 ^ (i - base).toNat * 2 ^ base.toNat = a * 2 ^ (-base).toNat := by
 rw [Int.mul_assoc, <- Int.pow_add]
 by_cases h0 : 0 <= base
 ·rw [show (-base).toNat = 0 by omega, show (i - base).toNat + base.toNat = i.toNat by omega, h, show (-i).toNat = 0 by omega]
 ·rw [show base.toNat = 0 by omega, Nat.add_zero]
  by_cases h1 : 0 <= i
  ·rw [show (i - base).toNat = i.toNat + (-base).toNat by omega, Int.pow_add, <- Int.mul_assoc, h, show (-i).toNat = 0 by omega, Int.pow_zero, Int.mul_one]
  ·rw [show i.toNat = 0 by omega, Int.pow_zero, Int.mul_one] at h
   rw [h, Int.mul_assoc, <- Int.pow_add, show (-i).toNat + (i - base).toNat = (-base).toNat by omega]
theorem aIv (n : Int) : sC (.number (decide (n < 0)) n.natAbs 0) n := ⟨_, _, _, rfl, by rw [aFW]; rfl⟩
theorem aJk {d : Datum} {n : Int} (h : sC d n) : sC d.opposite (-n) := by
 obtain ⟨s, m, e, rfl, he⟩ := h
 refine ⟨!s, m, e, rfl, ?_⟩
 have : sg (!s) m = -sg s m := by cases s <;> simp [sg]
 rw [this, Int.neg_mul, Int.neg_mul, he]
theorem aCe {d d' : Datum} {a b : Int} (h : sC d a) (h' : sC d' b) : ∃ r, d.sum d' = some r /\ sC r (a + b) := by
 obtain ⟨s, m, i, rfl, h1⟩ := h
 obtain ⟨t, n, j, rfl, h2⟩ := h'
 refine ⟨_, rfl, _, _, _, rfl, ?_⟩
 rw [G2, G2]
 have k1 := shift h1 (show min i j <= i by omega)
 have k2 := shift h2 (show min i j <= j by omega)
 generalize min i j = base at k1 k2 ⊢
 have hs : ∀ x : Int, sg (if x = 0 then s && t else decide (x < 0)) x.natAbs = x := by
  intro x
  by_cases h0 : x = 0
  ·subst h0; simp [sg]
  ·rw [if_neg h0]; exact aFW x
 rw [hs, Int.add_mul, k1, k2, <- Int.add_mul]
theorem aDz {d d' : Datum} {a b : Int} (h : sC d a) (h' : sC d' b) : ∃ r, d.product d' = some r /\ sC r (a * b) := by
 obtain ⟨s, m, i, rfl, h1⟩ := h
 obtain ⟨t, n, j, rfl, h2⟩ := h'
 refine ⟨_, rfl, _, _, _, rfl, ?_⟩
 have hs : sg (s ^^ t) (m * n) = sg s m * sg t n := by
  unfold sg
  rw [Int.natCast_mul]
  cases s <;> cases t <;> simp [Int.neg_mul, Int.mul_neg]
 rw [hs]
 generalize sg s m = S at h1 ⊢
 generalize sg t n = T at h2 ⊢
 have hp : (2 : Int) ^ ((-i).toNat + (-j).toNat) ≠ 0 := Int.ne_of_gt (Int.pow_pos (by omega))
 apply Int.eq_of_mul_eq_mul_right hp
 have e1 : S * T * 2 ^ (i.toNat + j.toNat) = a * b * 2 ^ ((-i).toNat + (-j).toNat) := by
  rw [Int.pow_add, Int.pow_add]
  calc S * T * (2 ^ i.toNat * 2 ^ j.toNat) = (S * 2 ^ i.toNat) * (T * 2 ^ j.toNat) := by ac_rfl
   _ = (a * 2 ^ (-i).toNat) * (b * 2 ^ (-j).toNat) := by rw [h1, h2]
   _ = a * b * (2 ^ (-i).toNat * 2 ^ (-j).toNat) := by ac_rfl
 rw [Int.mul_assoc, <- Int.pow_add, show (i + j).toNat + ((-i).toNat + (-j).toNat) = (i.toNat + j.toNat) + (-(i + j)).toNat by omega, Int.pow_add, <- Int.mul_assoc, e1]
 ac_rfl
theorem aG5 {d d' : Datum} {a b : Int} (h : sC d a) (h' : sC d' b) : d.order d' = some (compare a b) := by
 obtain ⟨s, m, i, rfl, h1⟩ := h
 obtain ⟨t, n, j, rfl, h2⟩ := h'
 show some (compare (signed s m (i - min i j).toNat) (signed t n (j - min i j).toNat)) = _
 rw [G2, G2]
 have k1 := shift h1 (show min i j <= i by omega)
 have k2 := shift h2 (show min i j <= j by omega)
 generalize min i j = base at k1 k2 ⊢
 generalize sg s m * 2 ^ (i - base).toNat = x at k1 ⊢
 generalize sg t n * 2 ^ (j - base).toNat = y at k2 ⊢
 have hp : (0 : Int) < 2 ^ base.toNat := Int.pow_pos (by omega)
 have hp' : (0 : Int) < 2 ^ (-base).toNat := Int.pow_pos (by omega)
 have hlt : x < y ↔ a < b := by
  constructor
  ·intro h
   have := Int.mul_lt_mul_of_pos_right h hp
   rw [k1, k2] at this
   exact Int.lt_of_mul_lt_mul_right this (Int.le_of_lt hp')
  ·intro h
   have := Int.mul_lt_mul_of_pos_right h hp'
   rw [<- k1, <- k2] at this
   exact Int.lt_of_mul_lt_mul_right this (Int.le_of_lt hp)
 have heq : x = y ↔ a = b := by
  constructor
  ·intro h
   rw [h, k2] at k1
   exact (Int.eq_of_mul_eq_mul_right (Int.ne_of_gt hp') k1).symm
  ·intro h
   rw [h, <- k2] at k1
   exact Int.eq_of_mul_eq_mul_right (Int.ne_of_gt hp) k1
 congr 1
 show compareOfLessAndEq x y = compareOfLessAndEq a b
 unfold compareOfLessAndEq
 simp only [hlt, heq]
theorem aHB {d : Datum} {n : Int} (h : sC d n) : d.toInt .zero = some n := by
 obtain ⟨s, m, e, rfl, he⟩ := h
 show some (signed s (Toward.zero.cut s (m <<< e.toNat) (-e).toNat) 0) = _
 rw [Nat.shiftLeft_eq, aD9 he, X8, G2, Int.pow_zero, Int.mul_one, aH5 he]
theorem aCf {n : Int} (hn : n.natAbs < 2 ^ 53) : BS (FloatKind.f64.nearest n) n := J1 (aIv n) hn
theorem aCN {x y : Nat} {a b : Int} (h : BS x a) (h' : BS y b) (hn : (a + b).natAbs < 2 ^ 53) : ∃ r, double.add x y = some r /\ BS r (a + b) := by
 obtain ⟨d, h1, h2⟩ := aCe h h'
 exact ⟨_, by unfold Format.add; rw [h1]; rfl, J1 h2 hn⟩
theorem aD5 {x y : Nat} {a b : Int} (h : BS x a) (h' : BS y b) (hn : (a - b).natAbs < 2 ^ 53) : ∃ r, double.sub x y = some r /\ BS r (a - b) := by
 obtain ⟨d, h1, h2⟩ := aCe h (aJk h')
 exact ⟨_, by unfold Format.sub; rw [h1]; rfl, J1 (by rw [Int.sub_eq_add_neg]; exact h2) hn⟩
theorem XF {x y : Nat} {a b : Int} (h : BS x a) (h' : BS y b) (hn : (a * b).natAbs < 2 ^ 53) : ∃ r, double.mul x y = some r /\ BS r (a * b) := by
 obtain ⟨d, h1, h2⟩ := aDz h h'
 exact ⟨_, by unfold Format.mul; rw [h1]; rfl, J1 h2 hn⟩
theorem aJA {x y : Nat} {a b : Int} (h : BS x a) (h' : BS y b) : double.order x y = some (compare a b) := aG5 h h'
theorem aIp {x : Nat} {a : Int} (h : BS x a) : (double.read x).toInt .zero = some a := aHB h
def LE (z : Nat × Nat) (a b : Int) : Prop := BS z.1 a /\ BS z.2 b
theorem aKr {x y : Nat × Nat} {a b c d : Int} (h : LE x a b) (h' : LE y c d) (h1 : (a + c).natAbs < 2 ^ 53) (h2 : (b + d).natAbs < 2 ^ 53) : ∃ r, cSumBits .add .f64 x.1 x.2 y.1 y.2 = some r /\ LE r (a + c) (b + d) := by
 obtain ⟨u, u1, u2⟩ := aCN h.1 h'.1 h1
 obtain ⟨v, v1, v2⟩ := aCN h.2 h'.2 h2
 refine ⟨(u, v), ?_, u2, v2⟩
 have e1 : floatBits .add .f64 x.1 y.1 = some u := u1
 have e2 : floatBits .add .f64 x.2 y.2 = some v := v1
 unfold cSumBits
 rw [e1, e2]
 rfl
theorem aKt {x y : Nat × Nat} {a b c d : Int} (h : LE x a b) (h' : LE y c d) (h1 : (a - c).natAbs < 2 ^ 53) (h2 : (b - d).natAbs < 2 ^ 53) : ∃ r, cSumBits .sub .f64 x.1 x.2 y.1 y.2 = some r /\ LE r (a - c) (b - d) := by
 obtain ⟨u, u1, u2⟩ := aD5 h.1 h'.1 h1
 obtain ⟨v, v1, v2⟩ := aD5 h.2 h'.2 h2
 refine ⟨(u, v), ?_, u2, v2⟩
 have e1 : floatBits .sub .f64 x.1 y.1 = some u := u1
 have e2 : floatBits .sub .f64 x.2 y.2 = some v := v1
 unfold cSumBits
 rw [e1, e2]
 rfl
theorem aKf {x y : Nat × Nat} {a b c d : Int} (h : LE x a b) (h' : LE y c d) (h1 : (a * c).natAbs < 2 ^ 52) (h2 : (b * d).natAbs < 2 ^ 52) (h3 : (a * d).natAbs < 2 ^ 52) (h4 : (b * c).natAbs < 2 ^ 52) :
  ∃ r, cMulBits x.1 x.2 y.1 y.2 = some r /\ LE r (a * c - b * d) (a * d + b * c) := by
 obtain ⟨p, p1, p2⟩ := XF h.1 h'.1 (by omega)
 obtain ⟨q, q1, q2⟩ := XF h.2 h'.2 (by omega)
 obtain ⟨u, u1, u2⟩ := aD5 p2 q2 (by omega)
 obtain ⟨s, s1, s2⟩ := XF h.1 h'.2 (by omega)
 obtain ⟨t, t1, t2⟩ := XF h.2 h'.1 (by omega)
 obtain ⟨v, v1, v2⟩ := aCN s2 t2 (by omega)
 refine ⟨(u, v), ?_, u2, v2⟩
 have e1 : floatBits .mul .f64 x.1 y.1 = some p := p1
 have e2 : floatBits .mul .f64 x.2 y.2 = some q := q1
 have e3 : floatBits .sub .f64 p q = some u := u1
 have e4 : floatBits .mul .f64 x.1 y.2 = some s := s1
 have e5 : floatBits .mul .f64 x.2 y.1 = some t := t1
 have e6 : floatBits .add .f64 s t = some v := v1
 unfold cMulBits
 simp only [e1, e2, e3, e4, e5, e6, Option.bind_some]
theorem TF {n : Int} (hn : n.natAbs < 2 ^ 53) : BS (floatOfInt .f64 n) n := aCf hn
theorem aIN {x : Nat} {n : Int} (h : BS x n) (h1 : -9223372036854775808 <= n) (h2 : n <= 9223372036854775807) : floatToIntVal .f64 x .i64 = some n := by
  unfold floatToIntVal
  have : (FloatKind.f64.decode x).toInt .zero = some n := aIp h
  rw [this]
  simp only
  rw [if_pos ⟨by show IntKind.i64.min <= n; have : IntKind.i64.min = -9223372036854775808 := by decide
                 omega, by show n <= IntKind.i64.max; have : IntKind.i64.max = 9223372036854775807 := by decide
                           omega⟩]
theorem CZ {x y : Nat} {a b : Int} (h : BS x a) (h' : BS y b) : FloatKind.f64.format.order x y = some (compare a b) := aJA h h'
end Go.Fl

namespace Go.Proofs.Ytbenbhdagmnapaa
open Go.Mach Go.RowKit
set_option maxRecDepth 100000
set_option linter.unusedVariables false
set_option linter.unusedSimpArgs false
def uY : Int -> List Int -> Int
 | acc, [] => acc
 | acc, d :: r => if ((decide (d < 1) || decide (4096 < d)) || decide (8192 < IntKind.i64.wrap (acc * d))) = true then 0 else uY (IntKind.i64.wrap (acc * d)) r
def szF (l : List Int) : Int := if (decide ((l.length : Int) < 1) || decide (4 < (l.length : Int))) = true then 0 else uY 1 l
theorem aKM : ∀ (l : List Int) (acc : Int), acc <= 8192 -> uY acc l <= 8192
  | [], acc, h => h
  | d :: r, acc, h => by
    unfold uY
    split
    · omega
    · rename_i hn
      simp only [Bool.or_eq_true, decide_eq_true_eq, not_or] at hn
      exact aKM r _ (by omega)
theorem OT (l : List Int) : szF l <= 8192 := by
 unfold szF
 split
 ·omega
 ·exact aKM l 1 (by omega)
theorem Y2 {a : List Int} {Q : Int -> Prop} (h : Q (szF a)) : o8 a Q := by
  refine ⟨?_⟩
  unfold VN
  unfold szF at h
  by_cases e : (decide ((a.length : Int) < 1) || decide (4 < (a.length : Int))) = true
  · rw [if_pos e] at h ⊢; exact h
  · rw [if_neg e] at h ⊢
    simp only [Bool.or_eq_true, decide_eq_true_eq, not_or] at e
    obtain ⟨z, hzz⟩ : ∃ z, uY 1 a = z := ⟨_, rfl⟩
    rw [hzz] at h
    refine ⟨?_⟩
    refine Loop.inv (n := a.length) (fun m s => ∃ i : Nat, i + m = a.length /\ s.2 = (i : Int) /\ uY s.1 (a.drop i) = z) ⟨0, by omega, rfl, hzz⟩ ?_
    rintro m ⟨acc, i'⟩ X ⟨i, hi, he, hz⟩ hX
    simp only at he hz
    subst he
    unfold LW
    by_cases hlt : i < a.length
    · have hd : a.drop i = a.getD i 0 :: a.drop (i + 1) := by
        rw [List.drop_eq_getElem_cons hlt, List.getD_eq_getElem?_getD, List.getElem?_eq_getElem hlt]; rfl
      rw [hd] at hz
      rw [if_pos (by simpa using hlt)]
      refine ⟨by simp only []; omega, ?_⟩
      simp only [Int.toNat_natCast]
      unfold uY at hz
      split
      · rename_i hc
        rw [if_pos hc] at hz
        rw [<- hz] at h; exact h
      · rename_i hc
        rw [if_neg hc] at hz
        refine hX (m - 1) _ (by omega) ⟨i + 1, by omega, ?_, hz⟩
        show IntKind.i64.wrap ((i : Int) + 1) = _
        rw [aB _ (by omega) (by omega)]; rfl
    · have hil : i = a.length := by omega
      subst hil
      rw [if_neg (by simp)]
      rw [List.drop_length] at hz
      unfold uY at hz
      show Q acc
      rw [hz]; exact h
theorem aDx {a : List Int} {Q : Bool -> Prop} (h : Q (decide (0 < szF a))) : kI a Q := by
 refine ⟨?_⟩
 unfold aBJ
 exact Y2 h
open Go.Mach Go.RowKit Go.Fl
set_option maxRecDepth 100000
set_option linter.unusedVariables false
set_option linter.unusedSimpArgs false
def inP (a lo hi : Int) : Bool := decide (lo <= a) && decide (a <= hi)
theorem aAq {a lo hi : Int} {Q : Bool -> Prop} (h : Q (inP a lo hi)) : AF a lo hi Q := ⟨h⟩
theorem aGf {a lo hi : Int} (h1 : lo <= a) (h2 : a <= hi) : inP a lo hi = true := by
 unfold inP
 rw [decide_eq_true h1, decide_eq_true h2]
 rfl
theorem aNi {r c : Int} {Q : Nat × Nat -> Prop} (h1 : -1000 <= r /\ r <= 1000) (h2 : -1000 <= c /\ c <= 1000) (h : ∀ z, LE z r c -> Q z) : HD r c Q := by
 refine ⟨?_⟩
 unfold aDW
 refine aAq ?_
 rw [aGf h1.1 h1.2]
 simp only [jn, Bool.not_true, Bool.false_eq_true, if_false]
 refine aAq ?_
 rw [aGf h2.1 h2.2]
 simp only [Bool.not_true, Bool.false_eq_true, if_false]
 exact h _ ⟨TF (by omega), TF (by omega)⟩
theorem aN4 : BS 13875379345695965184 (-1000) := by
 have : FloatKind.f64.nearest (-1000) = 13875379345695965184 := by decide +kernel
 rw [<- this]
 exact aCf (by decide)
theorem aMy : BS 4652007308841189376 1000 := by
 have : FloatKind.f64.nearest 1000 = 4652007308841189376 := by decide +kernel
 rw [<- this]
 exact aCf (by decide)
theorem aOe (a b : Int) : ((some (compare a b) == some Ordering.gt) || (some (compare a b) == some Ordering.eq)) = decide (b <= a) := by
 show ((some (compareOfLessAndEq a b) == some Ordering.gt) || (some (compareOfLessAndEq a b) == some Ordering.eq)) = decide (b <= a)
 unfold compareOfLessAndEq
 by_cases h1 : a < b
 ·rw [if_pos h1, decide_eq_false (by omega)]; rfl
 ·rw [if_neg h1]
  by_cases h2 : a = b
  ·rw [if_pos h2, decide_eq_true (by omega)]; rfl
  ·rw [if_neg h2, decide_eq_true (by omega)]; rfl
theorem aOQ (a b : Int) : ((some (compare a b) == some Ordering.lt) || (some (compare a b) == some Ordering.eq)) = decide (a <= b) := by
 show ((some (compareOfLessAndEq a b) == some Ordering.lt) || (some (compareOfLessAndEq a b) == some Ordering.eq)) = decide (a <= b)
 unfold compareOfLessAndEq
 by_cases h1 : a < b
 ·rw [if_pos h1, decide_eq_true (by omega)]; rfl
 ·rw [if_neg h1]
  by_cases h2 : a = b
  ·rw [if_pos h2, decide_eq_true (by omega)]; rfl
  ·rw [if_neg h2, decide_eq_false (by omega)]; rfl
theorem aOY (a : Int) : (some (compare a a) == some Ordering.eq) = true := by
 show (some (compareOfLessAndEq a a) == some Ordering.eq) = true
 unfold compareOfLessAndEq
 rw [if_neg (by omega), if_pos rfl]
 rfl
theorem aJy {x : Nat} {n : Int} {Q : Int × Bool -> Prop} (hw : BS x n) (h : Q (if inP n (-1000) 1000 = true then (n, true) else (0, false))) : ES x Q := by
 refine ⟨?_⟩
 unfold SX
 rw [CZ hw aN4, CZ hw aMy, aOe, aOQ]
 by_cases hi : inP n (-1000) 1000 = true
 ·rw [if_pos hi] at h
  unfold inP at hi
  rw [hi, if_neg (by simp)]
  simp only [Bool.and_eq_true, decide_eq_true_eq] at hi
  refine ⟨n, aIN hw (by omega) (by omega), ?_⟩
  show Q (n, FloatKind.f64.format.order (floatOfInt .f64 n) x == some Ordering.eq)
  rw [CZ (TF (by omega)) hw, aOY]
  exact h
 ·rw [if_neg hi] at h
  unfold inP at hi
  have hi2 : (decide (-1000 <= n) && decide (n <= 1000)) = false := by simpa using hi
  rw [hi2, if_pos (by rfl)]
  exact h
theorem aP1 {z : Nat × Nat} {r c : Int} {Q : Int × Int × Bool -> Prop} (hz : LE z r c) (h : Q (if (inP r (-1000) 1000 && inP c (-1000) 1000) = true then (r, c, true) else (0, 0, false))) : aDJ z Q := by
 refine ⟨?_⟩
 unfold aC8
 refine aJy hz.1 (aJy hz.2 ?_)
 cases h1 : inP r (-1000) 1000 <;> cases h2 : inP c (-1000) 1000 <;> rw [h1, h2] at h <;> exact h
open Go.Mach Go.RowKit Go.Fl
set_option maxRecDepth 100000
set_option linter.unusedVariables false
set_option linter.unusedSimpArgs false
def yK (rows cols cr cc : Int) (i j : Nat) : List (Int × Int × Int) :=
 if (inP (cr + i) 0 (rows - 1) && inP (cc + j) 0 (cols - 1)) = true then [((cr + i) * cols + (cc + j), (i : Int), (j : Int))] else []
def uZ (rows cols cr cc : Int) (i k : Nat) : List (Int × Int × Int) := (List.range k).flatMap (yK rows cols cr cc i)
theorem aI3 (rows cols cr cc : Int) (i j : Nat) : (yK rows cols cr cc i j).length <= 1 := by
 unfold yK; split <;> simp
theorem aAk {rows cols cr cc : Int} {i k : Nat} : uZ rows cols cr cc i (k + 1) = uZ rows cols cr cc i k ++ yK rows cols cr cc i k := by
 unfold uZ
 rw [List.range_succ, List.flatMap_append]
 simp
theorem UM {rows cols cr cc : Int} {i : Nat} : ∀ k, (uZ rows cols cr cc i k).length <= k
  | 0 => by simp [uZ]
  | k + 1 => by
    rw [aAk, List.length_append]
    have := UM (rows := rows) (cols := cols) (cr := cr) (cc := cc) (i := i) k
    have := aI3 rows cols cr cc i k
    omega
theorem aO8 {z : Nat × Nat} {rows cols cr cc : Int} {i k : Nat} {acc : List (Int × Int × Int)} {K0 : (Nat × Nat) × List (Int × Int × Int) -> Prop} (hz : LE z cr cc) (hr : 0 <= rows /\ rows <= 1000) (hc : 0 <= cols /\ cols <= 1000) (hcr : -100000 <= cr /\ cr <= 100000) (hcc : -100000 <= cc /\ cc <= 100000) (hi : i <= 1000) (hk : k <= 1000) (ha : acc.length <= 1000000)
    (h : K0 ((z.1, z.2), acc ++ uZ rows cols cr cc i k)) : nB (i : Int) (k : Int) rows cols K0 ((z.1, z.2), 0, acc) := by
  refine ⟨?_⟩
  have eg : ((z.1, z.2), (0 : Int), acc) = (fun j : Nat => ((z.1, z.2), (j : Int), acc ++ uZ rows cols cr cc i j)) 0 := by simp [uZ]
  rw [eg]
  refine Loop.range (B := gX (i : Int) (k : Int) rows cols K0) (f := fun j : Nat => ((z.1, z.2), (j : Int), acc ++ uZ rows cols cr cc i j)) k (fun _ => True) trivial ?_ ?_
  · intro j hj _ X hX
    have hX := hX trivial
    unfold gX
    rw [if_pos (decide_eq_true (show (j : Int) < (k : Int) by omega))]
    dsimp only at hX ⊢
    refine aNi (by omega) (by omega) fun u hu => ?_
    obtain ⟨r, e, hrr⟩ := aKr hz hu (by omega) (by omega)
    refine ⟨r, e, aP1 (z := r) hrr ?_⟩
    have hlen := UM (rows := rows) (cols := cols) (cr := cr) (cc := cc) (i := i) j
    have e1 : IntKind.i64.wrap (rows - 1) = rows - 1 := aB _ (by omega) (by omega)
    have e2 : IntKind.i64.wrap (cols - 1) = cols - 1 := aB _ (by omega) (by omega)
    rw [aAk, <- List.append_assoc] at hX
    by_cases hin : (inP (cr + i) 0 (rows - 1) && inP (cc + j) 0 (cols - 1)) = true
    · have ew : yK rows cols cr cc i j = [((cr + i) * cols + (cc + j), (i : Int), (j : Int))] := by unfold yK; rw [if_pos hin]
      simp only [Bool.and_eq_true] at hin
      have b1 : 0 <= cr + i /\ cr + i <= rows - 1 := by simpa [inP] using hin.1
      have b2 : 0 <= cc + j /\ cc + j <= cols - 1 := by simpa [inP] using hin.2
      have m1 : 0 <= (cr + i) * cols := Int.mul_nonneg b1.1 hc.1
      have m2 : (cr + i) * cols <= 1000 * 1000 := Int.mul_le_mul (by omega) hc.2 hc.1 (by omega)
      rw [aGf (by omega) (by omega), aGf (by omega) (by omega), if_pos (by rfl)]
      simp only [jn, if_true]
      refine aAq ?_
      rw [e1, hin.1]
      simp only [if_true]
      refine aAq ?_
      rw [e2, hin.2]
      simp only [if_true]
      refine ⟨?_, ⟨?_⟩⟩
      · simp only [List.length_append, List.length_singleton]; omega
      · unfold kU
        rw [aB ((j : Int) + 1) (by omega) (by omega), aB ((cr + i) * cols) (by omega) (by omega), aB ((cr + i) * cols + (cc + j)) (by omega) (by omega)]
        rw [ew] at hX
        exact hX
    · have ew : yK rows cols cr cc i j = [] := by unfold yK; rw [if_neg hin]
      rw [ew, List.append_nil] at hX
      have skip : iZ (j : Int) (fun (y28 : Int) => X ((z.1, z.2), y28, acc ++ uZ rows cols cr cc i j)) := by
        refine ⟨?_⟩
        unfold kU
        rw [aB ((j : Int) + 1) (by omega) (by omega)]
        exact hX
      by_cases hb : (inP (cr + i) (-1000) 1000 && inP (cc + j) (-1000) 1000) = true
      · rw [if_pos hb]
        simp only [jn, if_true]
        refine aAq ?_
        rw [e1]
        cases h1 : inP (cr + i) 0 (rows - 1) with
        | false => simp only [Bool.false_eq_true, if_false]; exact skip
        | true =>
          simp only [if_true]
          refine aAq ?_
          rw [e2]
          cases h2 : inP (cc + j) 0 (cols - 1) with
          | false => simp only [Bool.false_eq_true, if_false]; exact skip
          | true => rw [h1, h2] at hin; exact absurd rfl hin
      · rw [if_neg hb]
        simp only [jn, Bool.false_eq_true, if_false]
        exact skip
  · intro _ X
    unfold gX
    rw [if_neg (by simp)]
    exact h
def TB (rows cols cr cc : Int) (k : Nat) (m : Nat) : List (Int × Int × Int) := (List.range m).flatMap fun i => uZ rows cols cr cc i k
theorem aFc {rows cols cr cc : Int} {k m : Nat} : TB rows cols cr cc k (m + 1) = TB rows cols cr cc k m ++ uZ rows cols cr cc m k := by
 unfold TB
 rw [List.range_succ, List.flatMap_append]
 simp
theorem aC9 {rows cols cr cc : Int} {k : Nat} : ∀ m, (TB rows cols cr cc k m).length <= m * k
  | 0 => by simp [TB]
  | m + 1 => by
    rw [aFc, List.length_append, Nat.succ_mul]
    have := aC9 (rows := rows) (cols := cols) (cr := cr) (cc := cc) (k := k) m
    have := UM (rows := rows) (cols := cols) (cr := cr) (cc := cc) (i := m) k
    omega
theorem aM3 {rows cols stride pad r c : Int} {k : Nat} {Q : List (Int × Int × Int) -> Prop} (hr : 0 <= rows /\ rows <= 1000) (hc : 0 <= cols /\ cols <= 1000) (hs : 0 <= stride /\ stride <= 100) (hp : 0 <= pad /\ pad <= 100) (h1 : 0 <= r /\ r <= 900) (h2 : 0 <= c /\ c <= 900) (hk : k <= 900)
  (h : Q (TB rows cols (stride * r - pad) (stride * c - pad) k k)) : sE (rows, cols, (k : Int), stride, pad) r c Q := by
 have m1 : 0 <= stride * r := Int.mul_nonneg hs.1 h1.1
 have m2 : stride * r <= 100 * 900 := Int.mul_le_mul hs.2 h1.2 h1.1 (by omega)
 have m3 : 0 <= stride * c := Int.mul_nonneg hs.1 h2.1
 have m4 : stride * c <= 100 * 900 := Int.mul_le_mul hs.2 h2.2 h2.1 (by omega)
 refine ⟨?_⟩
 unfold yN
 dsimp only
 refine aNi (by show -1000 <= stride /\ stride <= 1000; omega) (by omega) fun u hu => ?_
 refine aNi (by omega) (by omega) fun v hv => ?_
 obtain ⟨p, e1, hpw⟩ := aKf hu hv (by omega) (by rw [Int.zero_mul]; decide) (by omega) (by rw [Int.zero_mul]; decide)
 refine ⟨p, e1, ?_⟩
 refine aNi (by show -1000 <= pad /\ pad <= 1000; omega) (by show -1000 <= pad /\ pad <= 1000; omega) fun q hq => ?_
 rw [Int.zero_mul, Int.zero_mul, Int.sub_zero, Int.add_zero] at hpw
 obtain ⟨z, e2, hz⟩ := aKt hpw hq (by omega) (by omega)
 refine ⟨z, e2, ⟨?_⟩⟩
 show Go.Mach.Loop (dL (k : Int) rows cols (k : Int) (fun y => Q y)) ((z.1, z.2), 0, [])
 have eg : ((z.1, z.2), (0 : Int), ([] : List (Int × Int × Int))) = (fun i : Nat => ((z.1, z.2), (i : Int), TB rows cols (stride * r - pad) (stride * c - pad) k i)) 0 := by simp [TB]
 rw [eg]
 refine Loop.range (B := dL (k : Int) rows cols (k : Int) (fun y => Q y)) (f := fun i : Nat => ((z.1, z.2), (i : Int), TB rows cols (stride * r - pad) (stride * c - pad) k i)) k (fun _ => True) trivial ?_ ?_
 ·intro i hi _ X hX
  have hX := hX trivial
  unfold dL
  rw [if_pos (decide_eq_true (show (i : Int) < (k : Int) by omega))]
  dsimp only at hX ⊢
  have hl := aC9 (rows := rows) (cols := cols) (cr := stride * r - pad) (cc := stride * c - pad) (k := k) i
  have hm : i * k <= 900 * 900 := Nat.mul_le_mul (by omega) hk
  refine aO8 (z := z) hz hr hc (by omega) (by omega) (by omega) (by omega) (by omega) ?_
  rw [aB ((i : Int) + 1) (by omega) (by omega)]
  rw [aFc] at hX
  exact hX
 ·intro _ X
  unfold dL
  rw [if_neg (by simp)]
  exact h
open Go.Mach Go.RowKit Go.Fl
set_option maxRecDepth 100000
set_option linter.unusedVariables false
set_option linter.unusedSimpArgs false
theorem aLc {b c : Bool} {Q K : Bool -> Prop} {G : (Bool -> Prop) -> Prop} (hG : ∀ P : Bool -> Prop, P c -> G P) (hK : ∀ v, v = (b || c) -> K v) (hQ : Q = K) : jn (fun v => Q v) (fun J => if b = true then J true else G J) := by
 subst hQ
 cases b with
 | true => exact hK _ rfl
 | false => show (if false = true then Q true else G (fun v => Q v)); rw [if_neg (by simp)]; exact hG _ (hK _ (by simp))
theorem aKB {a lo hi : Int} {Q : Bool -> Prop} (h : Q (inP a lo hi)) : HP a lo hi Q := ⟨h⟩
def yB (n k s p : Int) : Bool := (((!inP n 1 16 || !inP k 1 5) || !inP s 1 4) || !inP p 0 (k - 1)) || decide (n + 2 * p < k)
def bR (n k s p : Int) : Int := if yB n k s p = true then 0 else (n + 2 * p - k) / s + 1
theorem aA0 {n k s p : Int} {Q : Int -> Prop} (h : Q (bR n k s p)) : mX n k s p Q := by
  refine ⟨?_⟩
  unfold aAG
  refine aKB ?_
  refine aLc (b := !inP n 1 16) (c := !inP k 1 5) (fun P hp => aKB hp) (fun v2 e2 => ?_) rfl
  refine aLc (c := !inP s 1 4) (fun P hp => aKB hp) (fun v5 e5 => ?_) rfl
  refine aLc (c := !inP p 0 (IntKind.i64.wrap (k - 1))) (fun P hp => aKB hp) (fun v8 e8 => ?_) rfl
  have e8' : v8 = (((!inP n 1 16 || !inP k 1 5) || !inP s 1 4) || !inP p 0 (IntKind.i64.wrap (k - 1))) := by rw [e8, e5, e2]
  by_cases hc : ((!inP n 1 16 || !inP k 1 5) || !inP s 1 4) = true
  · have hv : v8 = true := by rw [e8', hc]; rfl
    have hb : yB n k s p = true := by unfold yB; rw [hc]; rfl
    unfold bR at h
    rw [if_pos hb] at h
    rw [hv, if_pos (by rfl)]
    exact h
  · have hc' : ((!inP n 1 16 || !inP k 1 5) || !inP s 1 4) = false := by simpa using hc
    simp only [Bool.or_eq_false_iff, Bool.not_eq_false'] at hc'
    have b1 : 1 <= n /\ n <= 16 := by simpa [inP] using hc'.1.1
    have b2 : 1 <= k /\ k <= 5 := by simpa [inP] using hc'.1.2
    have b3 : 1 <= s /\ s <= 4 := by simpa [inP] using hc'.2
    rw [aB (k - 1) (by omega) (by omega)] at e8'
    cases hv : v8 with
    | true =>
      have hb : yB n k s p = true := by unfold yB; rw [<- e8', hv]; rfl
      unfold bR at h
      rw [if_pos hb] at h
      rw [if_pos (by rfl)]
      exact h
    | false =>
      have hp : inP p 0 (k - 1) = true := by
        rw [hv] at e8'
        have := e8'.symm
        simp only [Bool.or_eq_false_iff, Bool.not_eq_false'] at this
        exact this.2
      have b4 : 0 <= p /\ p <= k - 1 := by simpa [inP] using hp
      rw [aB (2 * p) (by omega) (by omega), aB (n + 2 * p) (by omega) (by omega)]
      have hbe : yB n k s p = decide (n + 2 * p < k) := by unfold yB; rw [<- e8', hv, Bool.false_or]
      unfold bR at h
      rw [hbe] at h
      rw [Bool.false_or]
      by_cases hl : decide (n + 2 * p < k) = true
      · rw [if_pos hl] at h ⊢; exact h
      · rw [if_neg hl] at h ⊢
        have hl2 : ¬ (n + 2 * p < k) := by simpa using hl
        have d0 : 0 <= (n + 2 * p - k) / s := Int.ediv_nonneg (by omega) (by omega)
        have d1 : (n + 2 * p - k) / s <= n + 2 * p - k := Int.ediv_le_self _ (by omega)
        refine ⟨by omega, ?_⟩
        rw [aB (n + 2 * p - k) (by omega) (by omega), Int.tdiv_eq_ediv_of_nonneg (by omega), aB ((n + 2 * p - k) / s) (by omega) (by omega), aB _ (by omega) (by omega)]
        exact h
theorem JO {n k s p : Int} (h : yB n k s p = false) : (1 <= n /\ n <= 16) /\ (1 <= k /\ k <= 5) /\ (1 <= s /\ s <= 4) /\ (0 <= p /\ p <= k - 1) /\ k <= n + 2 * p := by
 unfold yB at h
 simp only [Bool.or_eq_false_iff, Bool.not_eq_false', decide_eq_false_iff_not] at h
 obtain ⟨⟨⟨⟨h1, h2⟩, h3⟩, h4⟩, h5⟩ := h
 exact ⟨by simpa [inP] using h1, by simpa [inP] using h2, by simpa [inP] using h3, by simpa [inP] using h4, by omega⟩
theorem DP (n k s p : Int) : 0 <= bR n k s p /\ bR n k s p <= 25 /\ (1 <= bR n k s p -> yB n k s p = false) := by
  unfold bR
  cases hb : yB n k s p with
  | true => rw [if_pos rfl]; exact ⟨by omega, by omega, fun h => by omega⟩
  | false =>
    rw [if_neg (by simp)]
    obtain ⟨b1, b2, b3, b4, b5⟩ := JO hb
    have d0 : 0 <= (n + 2 * p - k) / s := Int.ediv_nonneg (by omega) (by omega)
    have d1 : (n + 2 * p - k) / s <= n + 2 * p - k := Int.ediv_le_self _ (by omega)
    exact ⟨by omega, by omega, fun _ => rfl⟩
def aK1 (rows cols r c k s p : Int) : Bool := ((decide (bR rows k s p < 1) || decide (bR cols k s p < 1)) || !inP r 0 (bR rows k s p - 1)) || !inP c 0 (bR cols k s p - 1)
def iY (rows cols r c k s p : Int) : List (Int × Int × Int) := if aK1 rows cols r c k s p = true then [] else TB rows cols (s * r - p) (s * c - p) k.toNat k.toNat
theorem aDc {rows cols r c k s p : Int} {Q : List (Int × Int × Int) -> Prop} (h : Q (iY rows cols r c k s p)) : uC rows cols r c k s p Q := by
  refine ⟨?_⟩
  unfold OC
  refine ⟨?_⟩
  unfold EF
  refine aA0 (aA0 ?_)
  obtain ⟨m1, m2, m3⟩ := DP rows k s p
  obtain ⟨n1, n2, n3⟩ := DP cols k s p
  unfold iY aK1 at h
  dsimp only
  rw [aB (bR rows k s p - 1) (by omega) (by omega), aB (bR cols k s p - 1) (by omega) (by omega)]
  refine aLc (b := decide (bR rows k s p < 1) || decide (bR cols k s p < 1)) (c := !inP r 0 (bR rows k s p - 1)) (fun P hp => aAq hp) (fun v2 e2 => ?_) rfl
  refine aLc (c := !inP c 0 (bR cols k s p - 1)) (fun P hp => aAq hp) (fun v5 e5 => ?_) rfl
  rw [<- e2, <- e5] at h
  cases hv : v5 with
  | true => rw [hv, if_pos rfl] at h; rw [if_pos (by rfl)]; exact h
  | false =>
    rw [hv, if_neg (by simp)] at h
    rw [if_neg (by simp)]
    rw [hv, e2] at e5
    have := e5.symm
    simp only [Bool.or_eq_false_iff, Bool.not_eq_false', decide_eq_false_iff_not] at this
    obtain ⟨⟨⟨g1, g2⟩, g3⟩, g4⟩ := this
    obtain ⟨b1, b2, b3, b4, b5⟩ := JO (m3 (by omega))
    obtain ⟨c1, _⟩ := JO (n3 (by omega))
    have r1 : 0 <= r /\ r <= bR rows k s p - 1 := by simpa [inP] using g3
    have r2 : 0 <= c /\ c <= bR cols k s p - 1 := by simpa [inP] using g4
    have hk : ((k.toNat : Nat) : Int) = k := by omega
    have := aM3 (rows := rows) (cols := cols) (stride := s) (pad := p) (r := r) (c := c) (k := k.toNat) (Q := fun r8 => Q r8) (by omega) (by omega) (by omega) (by omega) (by omega) (by omega) (by omega) h
    rw [hk] at this
    exact this
end Go.Proofs.Ytbenbhdagmnapaa
namespace Go.Proofs.Ytbenbhdagmnapaa
end Go.Proofs.Ytbenbhdagmnapaa
namespace Go.Proofs.Ytbenbhdagmnapaa
end Go.Proofs.Ytbenbhdagmnapaa
namespace Go.Proofs.Ytbenbhdagmnapaa
end Go.Proofs.Ytbenbhdagmnapaa

namespace Go.Proofs.Ytbenbhdagmnapaa
open Go.Mach Go.RowKit
set_option maxRecDepth 100000
set_option linter.unusedVariables false
set_option linter.unusedSimpArgs false
abbrev T3 := List Int × Int × List Int
abbrev Z3 : T3 := ([], 0, [])
theorem EY {b c : Bool} {Q K : Bool -> Prop} {G : (Bool -> Prop) -> Prop} (hG : (b = true -> ∀ P : Bool -> Prop, P c -> G P)) (hK : ∀ v, v = (b && c) -> K v) (hQ : Q = K) : jn (fun v => Q v) (fun J => if b = true then G J else J false) := by
 subst hQ
 cases b with
 | true => show (if true = true then G (fun v => Q v) else Q false); rw [if_pos rfl]; exact hG rfl _ (hK _ (by simp))
 | false => exact hK _ rfl
theorem XT {b c : Bool} {Q K : Bool -> Prop} {G : (Bool -> Prop) -> Prop} (hG : b = false -> ∀ P : Bool -> Prop, P c -> G P) (hK : ∀ v, v = (b || c) -> K v) (hQ : Q = K) : jn (fun v => Q v) (fun J => if b = true then J true else G J) := by
 subst hQ
 cases b with
 | true => exact hK _ rfl
 | false => show (if false = true then Q true else G (fun v => Q v)); rw [if_neg (by simp)]; exact hG rfl _ (hK _ (by simp))
theorem JE (a b A B : Int) (h1 : -A <= a) (h2 : a <= A) (h3 : 0 <= b) (h4 : b <= B) (hA : 0 <= A) : -(A * B) <= a * b /\ a * b <= A * B := by
 have e1 : a * b <= A * b := Int.mul_le_mul_of_nonneg_right h2 h3
 have e2 : A * b <= A * B := Int.mul_le_mul_of_nonneg_left h4 hA
 have e3 : -A * b <= a * b := Int.mul_le_mul_of_nonneg_right h1 h3
 have e4 : -A * b = -(A * b) := Int.neg_mul A b
 omega
theorem aNk {a b : Int} (h : -128 <= a /\ a <= 127) (k : -128 <= b /\ b <= 127) : -16384 <= a * b /\ a * b <= 16384 := by
 rcases Int.le_total 0 b with hb | hb
 ·have := JE a b 128 128 (by omega) (by omega) hb (by omega) (by omega)
  omega
 ·have := JE a (-b) 128 128 (by omega) (by omega) (by omega) (by omega) (by omega)
  rw [Int.mul_neg] at this
  omega
def All8 (l : List Int) : Prop := ∀ y ∈ l, -128 <= y /\ y <= 127
theorem All8.at_ {l : List Int} (h : All8 l) (i : Nat) : -128 <= l.getD i 0 /\ l.getD i 0 <= 127 := by
 rw [List.getD_eq_getElem?_getD]
 cases hq : l[i]? with
 | none => simp
 | some y => exact h y (List.mem_of_getElem? hq)
theorem ix {r n i : Nat} (h : r * n + i <= 100000000) : IntKind.i64.wrap (IntKind.i64.wrap ((r : Int) * (n : Int)) + (i : Int)) = ((r * n + i : Nat) : Int) := by
 have e : (r : Int) * (n : Int) = ((r * n : Nat) : Int) := by rw [Int.natCast_mul]
 have h1 : r * n <= 100000000 := by omega
 rw [e, aB ((r * n : Nat) : Int) (by omega) (by omega), aB _ (by omega) (by omega), Int.natCast_add]
theorem aGp {r n : Nat} (h : r * n <= 100000000) : IntKind.i64.wrap ((r : Int) * (n : Int)) = ((r * n : Nat) : Int) := by
 have e : (r : Int) * (n : Int) = ((r * n : Nat) : Int) := by rw [Int.natCast_mul]
 rw [e, aB ((r * n : Nat) : Int) (by omega) (by omega)]
theorem aI7 {l : List Int} {v : Int} {Q : Bool -> Prop} (hl : l.length <= 1000000000000) (h : Q (decide (v ∈ l))) : jE l v Q := by
 refine ⟨?_⟩
 unfold nY
 refine ⟨?_⟩
 unfold rB
 refine ⟨?_⟩
 refine Loop.range (B := dV l v (l.length : Int) (fun _ => Q (decide ((0 : Int) <= -1))) (fun y => Q (decide (0 <= y)))) (f := fun i : Nat => (i : Int)) l.length (fun i => ∀ j, j < i -> v ≠ l.getD j 0) (fun j hj => absurd hj (by omega)) ?_ ?_
 ·intro i hi hI X hX
  unfold dV
  rw [if_pos (by simpa using hi)]
  refine ⟨by omega, ?_⟩
  simp only [Int.toNat_natCast]
  by_cases hv : v = l.getD i 0
  ·rw [if_pos (by simpa using hv)]
   have : decide (v ∈ l) = true := by rw [decide_eq_true_eq, hv]; exact V6 hi
   rw [this] at h
   rw [decide_eq_true (by omega : (0 : Int) <= (i : Int))]
   exact h
  ·rw [if_neg (by simpa using hv), aB _ (by omega) (by omega)]
   refine hX fun j hj => ?_
   by_cases hji : j = i
   ·subst hji; exact hv
   ·exact hI j (by omega)
 ·intro hI X
  unfold dV
  rw [if_neg (by simp)]
  have : decide (v ∈ l) = false := by
   simp only [decide_eq_false_iff_not]
   intro hm
   obtain ⟨j, hj, e⟩ := List.getElem_of_mem hm
   apply hI j hj
   rw [List.getD_eq_getElem?_getD, List.getElem?_eq_getElem hj, <- e]; rfl
  rw [this] at h
  exact h
def aBq (a b : Int) : Bool := (decide ((IntKind.i64.wrap (0 - b)) <= a)) && (decide (a <= b))
theorem aMX {a b : Int} {Q : Bool -> Prop} (h : Q (aBq a b)) : DO a b Q := ⟨h⟩
def dY (a : T3) : Bool := ((decide (0 < szF a.1) && ((a.2.2.length : Int) == szF a.1)) && aBq a.2.1 64) && !decide (-128 ∈ a.2.2)
theorem sB {a : T3} {Q : Bool -> Prop} (h : Q (dY a)) : bN a Q := by
 refine ⟨?_⟩
 unfold WR
 refine aDx ?_
 refine EY (b := decide (0 < szF a.1)) (c := (a.2.2.length : Int) == szF a.1) (fun _ P hp => Y2 hp) (fun v2 e2 => ?_) rfl
 refine EY (c := aBq a.2.1 64) (fun _ P hp => aMX hp) (fun v3 e3 => ?_) rfl
 refine EY (c := !decide (-128 ∈ a.2.2)) (fun h3 P hp => aI7 (Q := fun r => P (!r)) ?_ hp) (fun v4 e4 => ?_) rfl
 ·rw [e3, e2] at h3
  simp only [Bool.and_eq_true, beq_iff_eq] at h3
  have := OT a.1
  omega
 ·rw [e4, e3, e2]
  exact h
theorem aIH {a : Int} {b : Int} (h1 : 0 <= b) (h2 : b <= 1000) : aBq a b = true ↔ -b <= a /\ a <= b := by
 unfold aBq
 rw [aB (0 - b) (by omega) (by omega)]
 simp only [Bool.and_eq_true, decide_eq_true_eq]
 omega
theorem jO {a : T3} : dY a = true ↔ 0 < szF a.1 /\ (a.2.2.length : Int) = szF a.1 /\ (-64 <= a.2.1 /\ a.2.1 <= 64) /\ -128 ∉ a.2.2 := by
 unfold dY
 rw [Bool.and_eq_true, Bool.and_eq_true, Bool.and_eq_true, aIH (by omega) (by omega)]
 simp only [decide_eq_true_eq, beq_iff_eq, Bool.not_eq_true', decide_eq_false_iff_not]
 constructor
 ·rintro ⟨⟨⟨h1, h2⟩, h3⟩, h4⟩; exact ⟨h1, h2, h3, h4⟩
 ·rintro ⟨h1, h2, h3, h4⟩; exact ⟨⟨⟨h1, h2⟩, h3⟩, h4⟩
def kL : List Int -> Int
 | [] => 1
 | d :: r => d * kL r
theorem aH0 : ∀ (l : List Int) (acc : Int), 1 <= acc -> acc <= 8192 -> 0 < uY acc l -> (∀ d ∈ l, 1 <= d /\ d <= 4096) /\ uY acc l = acc * kL l
  | [], acc, h, _, _ => ⟨by simp, by simp [uY, kL]⟩
  | d :: r, acc, h, h2, h3 => by
    unfold uY at h3 ⊢
    split at h3
    · omega
    · rename_i hn
      rw [if_neg hn]
      simp only [Bool.or_eq_true, decide_eq_true_eq, not_or] at hn
      have hb := JE acc d 8192 4096 (by omega) (by omega) (by omega) (by omega) (by omega)
      have hw : IntKind.i64.wrap (acc * d) = acc * d := aB _ (by omega) (by omega)
      rw [hw] at h3 hn ⊢
      have hp : 1 <= acc * d := by
        have := Int.mul_pos (show 0 < acc by omega) (show 0 < d by omega)
        omega
      obtain ⟨g1, g2⟩ := aH0 r (acc * d) hp (by omega) h3
      refine ⟨fun x hx => ?_, by rw [g2]; show _ = acc * (d * kL r); rw [Int.mul_assoc]⟩
      rcases List.mem_cons.1 hx with e | e
      · subst e; omega
      · exact g1 x e
theorem WU {l : List Int} (h : 0 < szF l) : (1 <= l.length /\ l.length <= 4) /\ (∀ d ∈ l, 1 <= d /\ d <= 4096) /\ szF l = kL l /\ kL l <= 8192 := by
 have hle := OT l
 unfold szF at h hle ⊢
 split at h
 ·omega
 ·rename_i hn
  rw [if_neg hn] at hle ⊢
  simp only [Bool.or_eq_true, decide_eq_true_eq, not_or] at hn
  obtain ⟨g1, g2⟩ := aH0 l 1 (by omega) (by omega) h
  rw [Int.one_mul] at g2
  exact ⟨by omega, g1, g2, by omega⟩
theorem aFy : ∀ {l : List Int}, (∀ d ∈ l, 1 <= d) -> 1 <= kL l
  | [], _ => by simp [kL]
  | d :: r, h => by
    have h1 := h d (by simp)
    have h2 := aFy (l := r) fun x hx => h x (by simp [hx])
    have := Int.mul_pos (show 0 < d by omega) (show 0 < kL r by omega)
    unfold kL; omega
theorem aKQ : ∀ (l : List Int) (acc : Int), 1 <= acc -> (∀ d ∈ l, 1 <= d /\ d <= 4096) -> acc * kL l <= 8192 -> uY acc l = acc * kL l
  | [], acc, h, _, _ => by simp [uY, kL]
  | d :: r, acc, h, hd, h2 => by
    have h1 := hd d (by simp)
    have hr : ∀ x ∈ r, 1 <= x /\ x <= 4096 := fun x hx => hd x (by simp [hx])
    have hp := aFy (l := r) fun x hx => (hr x hx).1
    have e : acc * kL (d :: r) = acc * d * kL r := by show acc * (d * kL r) = _; rw [Int.mul_assoc]
    rw [e] at h2 ⊢
    have h0 : 1 <= acc * d := by
      have := Int.mul_pos (show 0 < acc by omega) (show 0 < d by omega)
      omega
    have h3 : acc * d <= acc * d * kL r := by
      have := Int.mul_le_mul_of_nonneg_left (c := acc * d) hp (by omega)
      omega
    have hw : IntKind.i64.wrap (acc * d) = acc * d := aB _ (by omega) (by omega)
    unfold uY
    rw [hw, if_neg (by simp; omega)]
    exact aKQ r (acc * d) h0 hr h2
theorem aIr {l : List Int} (h1 : 1 <= l.length /\ l.length <= 4) (hd : ∀ d ∈ l, 1 <= d /\ d <= 4096) (h2 : kL l <= 8192) : szF l = kL l := by
 unfold szF
 rw [if_neg (by simp; omega), aKQ l 1 (by omega) hd (by omega), Int.one_mul]
theorem UJ (l : List Int) : 0 <= szF l := by
  rcases Int.lt_or_le (szF l) 0 with h | h
  · exfalso
    have key : ∀ (l : List Int) (acc : Int), 1 <= acc -> acc <= 8192 -> 0 <= uY acc l := by
      intro l
      induction l with
      | nil => intro acc h _; unfold uY; omega
      | cons d r ih =>
        intro acc h h2
        unfold uY
        split
        · omega
        · rename_i hn
          simp only [Bool.or_eq_true, decide_eq_true_eq, not_or] at hn
          have hb := JE acc d 8192 4096 (by omega) (by omega) (by omega) (by omega) (by omega)
          have hw : IntKind.i64.wrap (acc * d) = acc * d := aB _ (by omega) (by omega)
          rw [hw] at hn ⊢
          have := Int.mul_pos (show 0 < acc by omega) (show 0 < d by omega)
          exact ih _ (by omega) (by omega)
    have := key l 1 (by omega) (by omega)
    unfold szF at h
    split at h <;> omega
  · exact h
theorem aOt {a b c d : Int} (h : 0 < szF [a, b, c, d]) : ∃ n m p q : Nat, a = n /\ b = m /\ c = p /\ d = q /\ 1 <= n /\ 1 <= m /\ 1 <= p /\ 1 <= q /\ n * m * p * q <= 8192 /\ szF [a, b, c, d] = ((n * m * p * q : Nat) : Int) := by
 obtain ⟨_, h2, h3, h4⟩ := WU h
 have ha := h2 a (by simp)
 have hb := h2 b (by simp)
 have hc := h2 c (by simp)
 have hd := h2 d (by simp)
 obtain ⟨n, rfl⟩ := Int.eq_ofNat_of_zero_le (show 0 <= a by omega)
 obtain ⟨m, rfl⟩ := Int.eq_ofNat_of_zero_le (show 0 <= b by omega)
 obtain ⟨p, rfl⟩ := Int.eq_ofNat_of_zero_le (show 0 <= c by omega)
 obtain ⟨q, rfl⟩ := Int.eq_ofNat_of_zero_le (show 0 <= d by omega)
 have e : kL [(n : Int), m, p, q] = ((n * m * p * q : Nat) : Int) := by
  simp only [kL, Int.natCast_mul, Int.mul_one, Int.mul_assoc]
 rw [h3]
 rw [e] at h4 ⊢
 exact ⟨n, m, p, q, rfl, rfl, rfl, rfl, by omega, by omega, by omega, by omega, by omega, rfl⟩
theorem aMq {n m p q : Nat} (h1 : 1 <= n /\ n <= 4096) (h2 : 1 <= m /\ m <= 4096) (h3 : 1 <= p /\ p <= 4096) (h4 : 1 <= q /\ q <= 4096) (h : n * m * p * q <= 8192) : szF [(n : Int), m, p, q] = ((n * m * p * q : Nat) : Int) := by
 have e : kL [(n : Int), m, p, q] = ((n * m * p * q : Nat) : Int) := by
  simp only [kL, Int.natCast_mul, Int.mul_one, Int.mul_assoc]
 rw [aIr (by simp) _ (by rw [e]; omega), e]
 intro d hd
 simp only [List.mem_cons, List.not_mem_nil, or_false] at hd
 omega
theorem aPP {c : Int} (h : 0 < szF [c]) : 1 <= c /\ c <= 4096 /\ szF [c] = c := by
 obtain ⟨_, h2, h3, h4⟩ := WU h
 have := h2 c (by simp)
 have e : kL [c] = c := by simp [kL]
 rw [h3, e]
 omega
theorem aNN {c : Int} (h1 : 1 <= c) (h2 : c <= 4096) : szF [c] = c := by
 have e : kL [c] = c := by simp [kL]
 rw [aIr (by simp) _ (by rw [e]; omega), e]
 intro d hd
 simp only [List.mem_cons, List.not_mem_nil, or_false] at hd
 omega
def O3 (a : Int) : Int := aP (-4611686018427387904) (bF a 4611686018427387904)
theorem aKD {a b c : Int} {Q : Int -> Prop} (h : Q (aP b (bF a c))) : gZ a b c Q := ⟨h⟩
theorem aHN {a b c : Int} {Q : Int -> Prop} (h : Q (aP b (bF a c))) : eY a b c Q := ⟨h⟩
theorem aKV {a : Int} {Q : Int -> Prop} (h : Q (O3 a)) : s8 a Q := ⟨⟨h⟩⟩
theorem aNZ {a : Int} (h1 : -4611686018427387904 <= a) (h2 : a <= 4611686018427387904) : O3 a = a := by
 unfold O3 aP bF
 split <;> split <;> omega
def alF (a b c : Int) : Int :=
 let r1 := O3 a
 let by_ := aP (-1000) (bF b 1000) - aP (-1000) (bF c 1000)
 if by_ < 0 then r1.fdiv (2 ^ (bF (0 - by_) 62).toNat)
 else if 20 < by_ then (if 0 < r1 then 1048576 else if r1 < 0 then -1048576 else 0)
 else aP (-1048576) (bF (aP (-1048576) (bF r1 1048576) * 2 ^ by_.toNat) 1048576)
theorem aCL (a lo hi : Int) (h : lo <= hi) : lo <= aP lo (bF a hi) /\ aP lo (bF a hi) <= hi := by
 unfold aP bF
 split <;> split <;> omega
theorem aKU (a b : Nat) (h : a <= b) : (1 : Int) <= 2 ^ a /\ (2 : Int) ^ a <= 2 ^ b := by
 have h1 : (2 : Nat) ^ a <= 2 ^ b := Nat.pow_le_pow_right (by omega) h
 have h2 : 0 < (2 : Nat) ^ a := Nat.pow_pos (by omega)
 have e : ∀ n : Nat, ((2 ^ n : Nat) : Int) = 2 ^ n := fun n => by rw [Int.natCast_pow]; rfl
 rw [<- e, <- e]
 omega
theorem aMR {a L U p : Int} (hp : 1 <= p) (hL : L <= 0) (hU : 0 <= U) (h1 : L <= a) (h2 : a <= U) : L <= a.fdiv p /\ a.fdiv p <= U := by
 rw [Int.fdiv_eq_ediv_of_nonneg _ (by omega)]
 constructor
 ·rw [Int.le_ediv_iff_mul_le (by omega)]
  have : L * p <= L * 1 := Int.mul_le_mul_of_nonpos_left hL hp
  omega
 ·have := Int.ediv_le_ediv (c := p) (by omega) h2
  have := Int.ediv_le_self (a := U) p hU
  omega
theorem aHK {a b c : Int} (h : -128 <= a /\ a <= 127) : -1048576 <= alF a b c /\ alF a b c <= 1048576 := by
 unfold alF
 rw [aNZ (by omega) (by omega)]
 simp only
 generalize aP (-1000) (bF b 1000) - aP (-1000) (bF c 1000) = y
 split
 ·have := aMR (p := 2 ^ (bF (0 - y) 62).toNat) (aKU _ _ (Nat.le_refl _)).1 (by omega) (by omega) h.1 h.2
  omega
 ·split
  ·split
   ·omega
   ·split <;> omega
  ·exact aCL _ _ _ (by omega)
theorem aN1 {a b c : Int} {Q : Int -> Prop} (h : Q (alF a b c)) : s7 a b c Q := by
  refine ⟨?_⟩
  unfold RX
  refine aKV (aKD (aKD ?_))
  unfold alF at h
  simp only at h
  have hb := aCL b (-1000) 1000 (by omega)
  have hc := aCL c (-1000) 1000 (by omega)
  generalize aP (-1000) (bF b 1000) = x at *
  generalize aP (-1000) (bF c 1000) = y at *
  rw [aB (x - y) (by omega) (by omega)]
  by_cases h1 : x - y < 0
  · rw [if_pos h1] at h
    rw [if_pos (by simpa using h1), aB (0 - (x - y)) (by omega) (by omega)]
    have hs : 0 <= bF (0 - (x - y)) 62 /\ bF (0 - (x - y)) 62 <= 62 := by unfold bF; split <;> omega
    refine ⟨hs.1, ?_⟩
    rw [show min (bF (0 - (x - y)) 62).toNat (IntKind.i64).bits = (bF (0 - (x - y)) 62).toNat from Nat.min_eq_left (by show _ <= 64; omega)]
    exact h
  · rw [if_neg h1] at h
    rw [if_neg (by simpa using h1)]
    by_cases h2 : 20 < x - y
    · rw [if_pos h2] at h
      by_cases h3 : 0 < O3 a
      · rw [if_pos h3] at h
        rw [if_pos (by simp [h2, h3])]
        exact h
      · rw [if_neg h3] at h
        rw [if_neg (by simp; omega)]
        by_cases h4 : O3 a < 0
        · rw [if_pos h4] at h
          rw [if_pos (by simp [h2, h4])]
          exact h
        · rw [if_neg h4] at h
          rw [if_neg (by simp; omega), if_pos (by simp [h2])]
          exact h
    · rw [if_neg h2] at h
      rw [if_neg (by simp; omega), if_neg (by simp; omega), if_neg (by simp; omega)]
      refine aHN ⟨by omega, aHN ?_⟩
      have hm := aCL (O3 a) (-1048576) 1048576 (by omega)
      have hp := aKU (x - y).toNat 20 (by omega)
      have := JE (aP (-1048576) (bF (O3 a) 1048576)) (2 ^ (x - y).toNat) 1048576 1048576 hm.1 hm.2 (by omega) hp.2 (by omega)
      rw [show min (x - y).toNat (IntKind.i64).bits = (x - y).toNat from Nat.min_eq_left (by show _ <= 64; omega)]
      rw [aB _ (by omega) (by omega)]
      exact h
def GK (n : Int) : Bool := (decide (0 <= n) && decide (n <= 1023)) && decide (n * 16384 + 1048576 < 16777216)
theorem aL1 {n : Int} {Q : Bool -> Prop} (h : Q (GK n)) : KM n Q := by
 refine ⟨?_⟩
 unfold XP
 unfold GK at h
 by_cases h1 : 0 <= n /\ n <= 1023
 ·rw [aB (n * 16384) (by omega) (by omega), aB _ (by omega) (by omega)]
  exact h
 ·have e : (decide (0 <= n) && decide (n <= 1023)) = false := by simp; omega
  rw [e] at h ⊢
  exact h
theorem aKv {n : Int} : GK n = true ↔ 0 <= n /\ n <= 959 := by
 unfold GK
 simp only [Bool.and_eq_true, decide_eq_true_eq]
 omega
def V0 (d : List Int) (e n : Int) : T3 × Int :=
 if (!GK n) = true then (Z3, 3)
 else if (decide (e < -128) || decide (128 < e)) = true then (Z3, 3)
 else if (!decide (0 < szF d)) = true then (Z3, 1)
 else ((d, (e, List.replicate (szF d).toNat 0)), 0)
theorem aNM {n e : Int} {d : List Int} {Q : T3 × Int -> Prop} (h : Q (V0 d e n)) : T0 n e d Q := by
  refine ⟨?_⟩
  unfold W3
  refine aL1 ?_
  unfold V0 at h
  by_cases h1 : (!GK n) = true
  · rw [if_pos h1] at h; rw [if_pos (by rw [h1]; rfl)]; exact h
  · rw [if_neg h1] at h
    by_cases h2 : (decide (e < -128) || decide (128 < e)) = true
    · rw [if_pos h2] at h
      rw [if_pos (by simp only [Bool.or_eq_true, decide_eq_true_eq] at h2 ⊢; rcases h2 with h2 | h2 <;> simp [h2])]
      exact h
    · rw [if_neg h2] at h
      rw [if_neg (by simp only [Bool.or_eq_true, decide_eq_true_eq, not_or] at h1 h2 ⊢; exact ⟨⟨h1, h2.2⟩, h2.1⟩)]
      refine aDx ?_
      by_cases h3 : (!decide (0 < szF d)) = true
      · rw [if_pos h3] at h ⊢; exact h
      · rw [if_neg h3] at h ⊢
        have := OT d
        have := UJ d
        exact Y2 ⟨⟨by omega, by omega⟩, h⟩
theorem aMe {d : List Int} {e n : Int} (h : (V0 d e n).2 = 0) : GK n = true /\ (-128 <= e /\ e <= 128) /\ 0 < szF d /\ V0 d e n = ((d, (e, List.replicate (szF d).toNat 0)), 0) := by
  unfold V0 at h ⊢
  split at h
  · cases h
  · split at h
    · cases h
    · split at h
      · cases h
      · rename_i h1 h2 h3
        rw [if_neg h1, if_neg h2, if_neg h3]
        simp at h1 h2 h3
        exact ⟨h1, by omega, by omega, rfl⟩
def VQ (l : List T3) : Int := if l.all dY = true then (if l.all (fun t => (t.1.length : Int) == 4) = true then 0 else 2) else 1
theorem aOo {l : List T3} {Q : Int -> Prop} (hl : l.length <= 1000000) (h : Q (VQ l)) : aDN l Q := by
  refine ⟨?_⟩
  unfold aDK
  unfold VQ at h
  refine ⟨?_⟩
  refine Loop.all (B := yM l (l.length : Int) _ _) l dY (K0 := Q (if l.all (fun t => (t.1.length : Int) == 4) = true then 0 else 2)) (K1 := Q 1) ?_ ?_ ?_
  · intro i hi X hX hK
    unfold yM
    rw [if_pos (by simpa using hi)]
    refine ⟨by omega, sB ?_⟩
    simp only [Int.toNat_natCast]
    have hg : l.getD i ([], 0, []) = l[i] := by rw [List.getD_eq_getElem?_getD, List.getElem?_eq_getElem hi]; rfl
    rw [hg]
    by_cases hm : dY l[i] = true
    · rw [if_neg (by simp [hm]), aB _ (by omega) (by omega)]
      exact hX hm
    · have hm : dY l[i] = false := by simpa using hm
      rw [if_pos (by simp [hm])]
      exact hK hm
  · intro hK X
    unfold yM
    rw [if_neg (by simp)]
    refine ⟨?_⟩
    refine Loop.all (B := yG l (l.length : Int) _ _) l (fun t => (t.1.length : Int) == 4) (K0 := Q 0) (K1 := Q 2) ?_ ?_ ?_
    · intro i hi X hX hK
      unfold yG
      rw [if_pos (by simpa using hi)]
      refine ⟨by omega, ?_⟩
      simp only [Int.toNat_natCast]
      have hg : l.getD i ([], 0, []) = l[i] := by rw [List.getD_eq_getElem?_getD, List.getElem?_eq_getElem hi]; rfl
      rw [hg]
      unfold bne
      by_cases hm : ((l[i].1.length : Int) == 4) = true
      · rw [if_neg (by simp [hm]), aB _ (by omega) (by omega)]
        exact hX hm
      · have hm : ((l[i].1.length : Int) == 4) = false := by simpa using hm
        rw [if_pos (by simp [hm])]
        exact hK hm
    · intro hK X
      unfold yG
      rw [if_neg (by simp)]
      exact hK
    · split <;> rename_i hh <;> simp only [hh] at hK <;> simpa using hK
  · split <;> rename_i hh <;> simp only [hh] at h <;> simpa using h
theorem aOO {a b k s p : Int} {Q : ((Int × Int × Int × Int × Int × Int × Int) × Bool) -> Prop} (h : Q ((a, (b, (k, (s, (p, (bR a k s p, bR b k s p)))))), (decide (0 < bR a k s p)) && (decide (0 < bR b k s p)))) : YK a b k s p Q := by
 refine ⟨?_⟩
 unfold aAK
 exact aA0 (aA0 h)
end Go.Proofs.Ytbenbhdagmnapaa
