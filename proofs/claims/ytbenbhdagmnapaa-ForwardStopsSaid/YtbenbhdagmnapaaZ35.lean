/- Part of the proof. No condition. -/
import Derived.Test.YtbenbhdagmnapaaZ34
import Derived.Test.YtbenbhdagmnapaaProg
import Derived.KernelRfl
namespace Go.Proofs.Ytbenbhdagmnapaa
open Go.Mach
set_option maxRecDepth 100000
set_option linter.unusedVariables false
def aBv (a0 : (List Int) × Int × List Int) (Q : Bool -> Prop) : Prop :=
 kI a0.1 (fun (r1 : Bool) => jn (fun (v2 : Bool) => jn (fun (v5 : Bool) => Q v5) (fun J6 => if v2 = true then DO a0.2.1 128 (fun (r7 : Bool) => J6 r7) else J6 false)) (fun J3 => if r1 = true then o8 a0.1 (fun (r4 : Int) => J3 ((a0.2.2.length : Int) == r4)) else J3 false))
structure yF (a0 : (List Int) × Int × List Int) (Q : Bool -> Prop) : Prop where
 it : aBv a0 Q
noncomputable def GU : Tab := fun n => none
noncomputable def G6 : Go.Mach.Ends := fun n => match n with | 2 => some ([], [1]) | 6 => some ([], [2]) | 7 => some ([], [2]) | _ => none
noncomputable def LU : Code := Try.f60.body.getD .skip
theorem U9 : aL aFu GU G6 LU := by
 intro n E hn f c hs x k h
 cases hn
def kR : List Sh := [.agg [.fz false (.int .i64), .int .i64, .fz false (.int .i32)]]
def A1 (x : aI kR) (Q : List (Bool × List VV) -> Prop) : Prop := yF (x.1.1, (x.1.2.1, x.1.2.2.1)) (fun (r : Bool) => Q (aH [(false, .bool)] [.n] (r, ())))
theorem VR (x : aI kR) (Q : List (Bool × List VV) -> Prop) (h : A1 x Q) : aD Try.prog 60 (aM kR x) Q :=
 aC [.n] (G := aFu) (ct := GU) (en := G6) (fn := Try.f60) (cd := LU) (rt := [(false, .bool)]) Try.func60 (by kernel_rfl) (by kernel_rfl) (Nat.le_of_ble_eq_true rfl) U9 XB (aG rfl) h.it (by kernel_rfl)
noncomputable def CC : FuncId -> List VV -> (List (Bool × List VV) -> Prop) -> Prop := fun f args Q => if f = 60 then unA kR args (fun x => A1 x Q) else Z6 f args Q
theorem EE : ∀ f args Q, CC f args Q -> aD Try.prog f args Q := aE XB (f0 := 60) kR (fun x Q => A1 x Q) VR
noncomputable def ON : Cfg := ⟨Try.prog, tt, CC, fun _ _ _ => False, none, false⟩
def EA : ByteArray := ⟨#[0, 1, 2, 2, 3, 3, 3, 3, 4, 4, 4, 4, 4, 4, 4, 4, 5, 5, 5, 5, 5, 5, 5, 5, 5, 5, 5, 5, 5, 5, 5, 5, 6, 6, 6, 6, 6, 6, 6, 6, 6, 6, 6, 6, 6, 6, 6, 6, 6, 6, 6, 6, 6, 6, 6, 6, 6, 6, 6, 6, 6, 6, 6, 6, 7, 7, 7, 7, 7, 7, 7, 7, 7, 7, 7, 7, 7, 7, 7, 7, 7, 7, 7, 7, 7, 7, 7, 7, 7, 7, 7, 7, 7, 7, 7, 7, 7, 7, 7, 7, 7, 7, 7, 7, 7, 7, 7, 7, 7, 7, 7, 7, 7, 7, 7, 7, 7, 7, 7, 7, 7, 7, 7, 7, 7, 7, 7, 7, 8, 8, 8, 8, 8, 8, 8, 8, 8, 8, 8, 8, 8, 8, 8, 8, 8, 8, 8, 8, 8, 8, 8, 8, 8, 8, 8, 8, 8, 8, 8, 8, 8, 8, 8, 8, 8, 8, 8, 8, 8, 8, 8, 8, 8, 8, 8, 8, 8, 8, 8, 8, 8, 8, 8, 8, 8, 8, 8, 8, 8, 8, 8, 8, 8, 8, 8, 8, 8, 8, 8, 8, 8, 8, 8, 8, 8, 8, 8, 8, 8, 8, 8, 8, 8, 8, 8, 8, 8, 8, 8, 8, 8, 8, 8, 8, 8, 8, 8, 8, 8, 8, 8, 8, 8, 8, 8, 8, 8, 8, 8, 8, 8, 8, 8, 8, 8, 8, 8, 8, 8, 8, 8, 8, 8, 8, 8, 8]⟩
def PL (x0 : Int) (x1 : Int) (K0 : Int -> Prop) : Prop :=
 ck ((0 : Int) <= (IntKind.u8.wrap x0) /\ (IntKind.u8.wrap x0) < (EA.size : Int)) (K0 (IntKind.i64.wrap (x1 + (IntKind.i64.wrap ((EA.data.toList.getD (IntKind.u8.wrap x0).toNat 0).toNat : Nat)))))
structure l4 (x0 : Int) (x1 : Int) (K0 : Int -> Prop) : Prop where
 it : PL x0 x1 K0
def zJ (x0 : Int) (x1 : Int) (K0 : Int -> Prop) : Prop :=
 if (decide (256 <= x0)) = true then ck ((0 : Int) <= 8) (l4 ((x0).fdiv (2 ^ (min ((8 : Int)).toNat (IntKind.u64).bits))) (IntKind.i64.wrap (x1 + 8)) (fun (y1 : Int) => K0 y1)) else l4 x0 x1 (fun (y2 : Int) => K0 y2)
structure lZ (x0 : Int) (x1 : Int) (K0 : Int -> Prop) : Prop where
 it : zJ x0 x1 K0
def yZ (x0 : Int) (x1 : Int) (K0 : Int -> Prop) : Prop :=
 if (decide (65536 <= x0)) = true then ck ((0 : Int) <= 16) (lZ ((x0).fdiv (2 ^ (min ((16 : Int)).toNat (IntKind.u64).bits))) (IntKind.i64.wrap (x1 + 16)) (fun (y1 : Int) => K0 y1)) else lZ x0 x1 (fun (y2 : Int) => K0 y2)
structure l8 (x0 : Int) (x1 : Int) (K0 : Int -> Prop) : Prop where
 it : yZ x0 x1 K0
def EU (a0 : Int) (Q : Int -> Prop) : Prop :=
 if (decide (4294967296 <= a0)) = true then ck ((0 : Int) <= 32) (l8 ((a0).fdiv (2 ^ (min ((32 : Int)).toNat (IntKind.u64).bits))) 32 (fun (y3 : Int) => Q y3)) else l8 a0 0 (fun (y4 : Int) => Q y4)
structure AO (a0 : Int) (Q : Int -> Prop) : Prop where
 it : EU a0 Q
noncomputable def TC : Ent := ⟨[0, 2], [.lf (.int .u64), .lf (.int .i64)], [], fun x k => l8 x.1.1 x.1.2.1 (fun (y5 : Int) => k .ret ⟨[(2, .pl (.int .i64 y5))], []⟩)⟩
noncomputable def TZ : Ent := ⟨[0, 2], [.lf (.int .u64), .lf (.int .i64)], [], fun x k => lZ x.1.1 x.1.2.1 (fun (y6 : Int) => k .ret ⟨[(2, .pl (.int .i64 y6))], []⟩)⟩
noncomputable def TA : Ent := ⟨[0, 2], [.lf (.int .u64), .lf (.int .i64)], [], fun x k => l4 x.1.1 x.1.2.1 (fun (y7 : Int) => k .ret ⟨[(2, .pl (.int .i64 y7))], []⟩)⟩
noncomputable def sN : Tab := fun n => match n with | 7 => some TC | 15 => some TZ | 31 => some TA | _ => none
noncomputable def CR : Go.Mach.Ends := fun n => match n with | 2 => some ([], [0, 2]) | 12 => some ([], [0, 2, 4]) | 27 => some ([], [0, 2]) | 28 => some ([], [0, 2, 8]) | 52 => some ([], [0]) | 53 => some ([], [0, 2]) | 59 => some ([], [0, 2]) | 60 => some ([], [0, 2, 14]) | 62 => some ([], [2]) | 63 => some ([], [2]) | 116 => some ([], [0, 2]) | 117 => some ([], [0, 2]) | 123 => some ([], [0, 2]) | 244 => some ([], [0, 2]) | 245 => some ([], [0, 2]) | _ => none
noncomputable def EC : Code := Try.f96.body.getD .skip
theorem QS : aL ON sN CR EC := by
 intro n E hn f c hs x k h
 unfold sN at hn
 split at hn
 ·cases hn; exact bT hs (by kernel_rfl) (by kernel_rfl) h.it
 ·cases hn; exact bT hs (by kernel_rfl) (by kernel_rfl) h.it
 ·cases hn; exact bT hs (by kernel_rfl) (by kernel_rfl) h.it
 ·cases hn
def iL : List Sh := [.lf (.int .u64)]
def uM (x : aI iL) (Q : List (Bool × List VV) -> Prop) : Prop := AO x.1 (fun (r : Int) => Q (aH [(false, (.int .i64))] [.n] (r, ())))
theorem QV (x : aI iL) (Q : List (Bool × List VV) -> Prop) (h : uM x Q) : aD Try.prog 96 (aM iL x) Q :=
 aC [.n] (G := ON) (ct := sN) (en := CR) (fn := Try.f96) (cd := EC) (rt := [(false, (.int .i64))]) Try.func96 (by kernel_rfl) (by kernel_rfl) (Nat.le_of_ble_eq_true rfl) QS EE (aG rfl) h.it (by kernel_rfl)
noncomputable def yA : FuncId -> List VV -> (List (Bool × List VV) -> Prop) -> Prop := fun f args Q => if f = 96 then unA iL args (fun x => uM x Q) else CC f args Q
theorem BF : ∀ f args Q, yA f args Q -> aD Try.prog f args Q := aE EE (f0 := 96) iL (fun x Q => uM x Q) QV
noncomputable def HC : Cfg := ⟨Try.prog, tt, yA, fun _ _ _ => False, none, false⟩
def aGm (a0 : Int) (Q : Int -> Prop) : Prop :=
 s8 a0 (fun (r1 : Int) => AO (IntKind.u64.wrap (aP r1 (IntKind.i64.wrap (0 - r1)))) (fun (r2 : Int) => Q r2))
structure UQ (a0 : Int) (Q : Int -> Prop) : Prop where
 it : aGm a0 Q
noncomputable def RY : Tab := fun n => none
noncomputable def S2 : Go.Mach.Ends := fun n => match n with | 2 => some ([], [0]) | 6 => some ([], [0]) | 14 => some ([], [2]) | 15 => some ([], [2]) | _ => none
noncomputable def XL : Code := Try.f86.body.getD .skip
theorem aCr : aL HC RY S2 XL := by
 intro n E hn f c hs x k h
 cases hn
def qT : List Sh := [.lf (.int .i64)]
def LA (x : aI qT) (Q : List (Bool × List VV) -> Prop) : Prop := UQ x.1 (fun (r : Int) => Q (aH [(false, (.int .i64))] [.n] (r, ())))
theorem aEY (x : aI qT) (Q : List (Bool × List VV) -> Prop) (h : LA x Q) : aD Try.prog 86 (aM qT x) Q :=
 aC [.n] (G := HC) (ct := RY) (en := S2) (fn := Try.f86) (cd := XL) (rt := [(false, (.int .i64))]) Try.func86 (by kernel_rfl) (by kernel_rfl) (Nat.le_of_ble_eq_true rfl) aCr BF (aG rfl) h.it (by kernel_rfl)
noncomputable def OB : FuncId -> List VV -> (List (Bool × List VV) -> Prop) -> Prop := fun f args Q => if f = 86 then unA qT args (fun x => LA x Q) else yA f args Q
theorem OI : ∀ f args Q, OB f args Q -> aD Try.prog f args Q := aE BF (f0 := 86) qT (fun x Q => LA x Q) aEY
noncomputable def aAM : Cfg := ⟨Try.prog, tt, OB, fun _ _ _ => False, none, false⟩
def nT (x1 : List Int) (x2 : Int) (K0 : Int -> Prop) (s : Int × Int) (nx : (Int × Int) -> Prop) : Prop :=
 if (decide (s.2 < x2)) = true then ck ((0 : Int) <= s.2 /\ s.2 < (x1.length : Int)) (UQ (IntKind.i64.wrap (x1.getD ((s.2).toNat) 0)) (fun (r2 : Int) => nx (aP s.1 r2, IntKind.i64.wrap (s.2 + 1)))) else K0 s.1
structure MO (x1 : List Int) (x2 : Int) (K0 : Int -> Prop) (s : Int × Int) : Prop where
 it : Go.Mach.Loop (nT x1 x2 K0) s
def aDV (a0 : (List Int) × Int × List Int) (Q : Int -> Prop) : Prop :=
 yF (a0.1, (a0.2.1, a0.2.2)) (fun (r1 : Bool) => if (!r1) = true then Q 0 else MO a0.2.2 (a0.2.2.length : Int) (fun (y3 : Int) => Q y3) (0, 0))
structure IX (a0 : (List Int) × Int × List Int) (Q : Int -> Prop) : Prop where
 it : aDV a0 Q
noncomputable def aB6 : Ent := ⟨[3, 10, 11, 12], [.lf (.int .i64), .lf (.fz false (.int .i32)), .lf (.int .i64), .lf (.int .i64)], [], fun x k => MO x.1.2.1 x.1.2.2.1 (fun (y4 : Int) => k (.exit 0) ⟨[(3, .pl (.int .i64 y4))], []⟩) (x.1.1, x.1.2.2.2.1)⟩
noncomputable def AK : Tab := fun n => match n with | 122 => some aB6 | _ => none
noncomputable def MS : Go.Mach.Ends := fun n => match n with | 2 => some ([], [1]) | 12 => some ([], [1, 8]) | 14 => some ([], [1, 3]) | 27 => some ([], [1]) | 52 => some ([], [2]) | 53 => some ([], [2]) | 60 => some ([], [3, 10, 11, 12]) | 62 => some ([], [2]) | 63 => some ([], [2]) | 122 => some ([], [3, 10, 11, 12]) | 488 => some ([], [3, 10, 11, 12, 13]) | 1956 => some ([], [3, 10, 11, 12]) | 1957 => some ([], [3]) | 1959 => some ([], [3, 10, 11, 12]) | 7832 => some ([], [3, 5, 10, 11, 12]) | 7833 => some ([], [3, 10, 11, 12]) | _ => none
noncomputable def NK : Code := Try.f61.body.getD .skip
theorem ZZ : aL aAM AK MS NK := by
 intro n E hn f c hs x k h
 unfold AK at hn
 split at hn
 ·cases hn; exact aK hs (by kernel_rfl) (fun y : Int × Int => ⟨[(3, .pl (.int .i64 y.1)), (10, .fz false (.int .i32) x.1.2.1), (11, .pl (.int .i64 x.1.2.2.1)), (12, .pl (.int .i64 y.2))], []⟩) (x.1.1, x.1.2.2.2.1) (by kernel_rfl) (fun y X => by kernel_rfl) h.it
 ·cases hn
def mJ : List Sh := [.agg [.fz false (.int .i64), .int .i64, .fz false (.int .i32)]]
def DW (x : aI mJ) (Q : List (Bool × List VV) -> Prop) : Prop := IX (x.1.1, (x.1.2.1, x.1.2.2.1)) (fun (r : Int) => Q (aH [(false, (.int .i64))] [.n] (r, ())))
theorem ZC (x : aI mJ) (Q : List (Bool × List VV) -> Prop) (h : DW x Q) : aD Try.prog 61 (aM mJ x) Q :=
 aC [.n] (G := aAM) (ct := AK) (en := MS) (fn := Try.f61) (cd := NK) (rt := [(false, (.int .i64))]) Try.func61 (by kernel_rfl) (by kernel_rfl) (Nat.le_of_ble_eq_true rfl) ZZ OI (aG rfl) h.it (by kernel_rfl)
noncomputable def GF : FuncId -> List VV -> (List (Bool × List VV) -> Prop) -> Prop := fun f args Q => if f = 61 then unA mJ args (fun x => DW x Q) else OB f args Q
theorem GN : ∀ f args Q, GF f args Q -> aD Try.prog f args Q := aE OI (f0 := 61) mJ (fun x Q => DW x Q) ZC
noncomputable def SB : Cfg := ⟨Try.prog, tt, GF, fun _ _ _ => False, none, false⟩
def JX (a0 : List Int) (Q : (List Int) -> Prop) : Prop :=
 nq a0 (Q ([] : List Int)) (ck ((([] : List Int).length + a0.length) * 8 <= 140737488355328) (Q (([] : List Int) ++ a0)))
structure aW (a0 : List Int) (Q : (List Int) -> Prop) : Prop where
 it : JX a0 Q
noncomputable def tG : Tab := fun n => none
noncomputable def sX : Go.Mach.Ends := fun n => match n with | 2 => some ([], [0]) | 12 => some ([], [0, 4]) | 14 => some ([], [2]) | 15 => some ([], [2]) | 27 => some ([], [0]) | 52 => some ([], [2]) | 53 => some ([], [2]) | _ => none
noncomputable def uH : Code := Try.f20.body.getD .skip
theorem FA : aL SB tG sX uH := by
 intro n E hn f c hs x k h
 cases hn
def dO : List Sh := [.lf (.fz false (.int .i64))]
def lU (x : aI dO) (Q : List (Bool × List VV) -> Prop) : Prop := aW x.1 (fun (r : List Int) => Q (aH [(false, (.slc (.int .i64)))] [.n] (r, ())))
theorem FN (x : aI dO) (Q : List (Bool × List VV) -> Prop) (h : lU x Q) : aD Try.prog 20 (aM dO x) Q :=
 aC [.n] (G := SB) (ct := tG) (en := sX) (fn := Try.f20) (cd := uH) (rt := [(false, (.slc (.int .i64)))]) Try.func20 (by kernel_rfl) (by kernel_rfl) (Nat.le_of_ble_eq_true rfl) FA GN (aG rfl) h.it (by kernel_rfl)
noncomputable def nF : FuncId -> List VV -> (List (Bool × List VV) -> Prop) -> Prop := fun f args Q => if f = 20 then unA dO args (fun x => lU x Q) else GF f args Q
theorem rA : ∀ f args Q, nF f args Q -> aD Try.prog f args Q := aE GN (f0 := 20) dO (fun x Q => lU x Q) FN
noncomputable def wI : Cfg := ⟨Try.prog, tt, nF, fun _ _ _ => False, none, false⟩
def aJM (a0 : Int) (Q : Int -> Prop) : Prop :=
 ck ((0 : Int) <= 30) (ck ((0 : Int) <= 27) (ck ((0 : Int) <= 31) (Q (IntKind.u64.wrap ((BitVec.ofInt (IntKind.u64).bits (IntKind.u64.wrap ((IntKind.u64.wrap ((BitVec.ofInt (IntKind.u64).bits (IntKind.u64.wrap ((IntKind.u64.wrap ((BitVec.ofInt (IntKind.u64).bits (IntKind.u64.wrap (a0 + 11400714819323198485)) ^^^ BitVec.ofInt (IntKind.u64).bits ((IntKind.u64.wrap (a0 + 11400714819323198485)).fdiv (2 ^ (min ((30 : Int)).toNat (IntKind.u64).bits)))).toNat : Nat)) * 13787848793156543929)) ^^^ BitVec.ofInt (IntKind.u64).bits ((IntKind.u64.wrap ((IntKind.u64.wrap ((BitVec.ofInt (IntKind.u64).bits (IntKind.u64.wrap (a0 + 11400714819323198485)) ^^^ BitVec.ofInt (IntKind.u64).bits ((IntKind.u64.wrap (a0 + 11400714819323198485)).fdiv (2 ^ (min ((30 : Int)).toNat (IntKind.u64).bits)))).toNat : Nat)) * 13787848793156543929)).fdiv (2 ^ (min ((27 : Int)).toNat (IntKind.u64).bits)))).toNat : Nat)) * 10723151780598845931)) ^^^ BitVec.ofInt (IntKind.u64).bits ((IntKind.u64.wrap ((IntKind.u64.wrap ((BitVec.ofInt (IntKind.u64).bits (IntKind.u64.wrap ((IntKind.u64.wrap ((BitVec.ofInt (IntKind.u64).bits (IntKind.u64.wrap (a0 + 11400714819323198485)) ^^^ BitVec.ofInt (IntKind.u64).bits ((IntKind.u64.wrap (a0 + 11400714819323198485)).fdiv (2 ^ (min ((30 : Int)).toNat (IntKind.u64).bits)))).toNat : Nat)) * 13787848793156543929)) ^^^ BitVec.ofInt (IntKind.u64).bits ((IntKind.u64.wrap ((IntKind.u64.wrap ((BitVec.ofInt (IntKind.u64).bits (IntKind.u64.wrap (a0 + 11400714819323198485)) ^^^ BitVec.ofInt (IntKind.u64).bits ((IntKind.u64.wrap (a0 + 11400714819323198485)).fdiv (2 ^ (min ((30 : Int)).toNat (IntKind.u64).bits)))).toNat : Nat)) * 13787848793156543929)).fdiv (2 ^ (min ((27 : Int)).toNat (IntKind.u64).bits)))).toNat : Nat)) * 10723151780598845931)).fdiv (2 ^ (min ((31 : Int)).toNat (IntKind.u64).bits)))).toNat : Nat)))))
structure PN (a0 : Int) (Q : Int -> Prop) : Prop where
 it : aJM a0 Q
noncomputable def aAF : Tab := fun n => none
noncomputable def aAE : Go.Mach.Ends := fun n => match n with | 2 => some ([], [0]) | 6 => some ([], [0]) | 14 => some ([], [0]) | 30 => some ([], [0]) | 62 => some ([], [2]) | 63 => some ([], [2]) | _ => none
noncomputable def aCv : Code := Try.f89.body.getD .skip
theorem aGe : aL wI aAF aAE aCv := by
 intro n E hn f c hs x k h
 cases hn
def yQ : List Sh := [.lf (.int .u64)]
def UA (x : aI yQ) (Q : List (Bool × List VV) -> Prop) : Prop := PN x.1 (fun (r : Int) => Q (aH [(false, (.int .u64))] [.n] (r, ())))
theorem aHF (x : aI yQ) (Q : List (Bool × List VV) -> Prop) (h : UA x Q) : aD Try.prog 89 (aM yQ x) Q :=
 aC [.n] (G := wI) (ct := aAF) (en := aAE) (fn := Try.f89) (cd := aCv) (rt := [(false, (.int .u64))]) Try.func89 (by kernel_rfl) (by kernel_rfl) (Nat.le_of_ble_eq_true rfl) aGe rA (aG rfl) h.it (by kernel_rfl)
noncomputable def ZK : FuncId -> List VV -> (List (Bool × List VV) -> Prop) -> Prop := fun f args Q => if f = 89 then unA yQ args (fun x => UA x Q) else nF f args Q
theorem VP : ∀ f args Q, ZK f args Q -> aD Try.prog f args Q := aE rA (f0 := 89) yQ (fun x Q => UA x Q) aHF
noncomputable def aFR : Cfg := ⟨Try.prog, tt, ZK, fun _ _ _ => False, none, false⟩
def aKk (a0 : Int) (a1 : Int) (a2 : Int) (Q : Int -> Prop) : Prop :=
 PN a0 (fun (r1 : Int) => PN (IntKind.u64.wrap ((BitVec.ofInt (IntKind.u64).bits r1 ^^^ BitVec.ofInt (IntKind.u64).bits a1).toNat : Nat)) (fun (r2 : Int) => PN (IntKind.u64.wrap ((BitVec.ofInt (IntKind.u64).bits r2 ^^^ BitVec.ofInt (IntKind.u64).bits a2).toNat : Nat)) (fun (r3 : Int) => Q r3)))
structure aCF (a0 : Int) (a1 : Int) (a2 : Int) (Q : Int -> Prop) : Prop where
 it : aKk a0 a1 a2 Q
noncomputable def aDh : Tab := fun n => none
noncomputable def aD2 : Go.Mach.Ends := fun n => match n with | 2 => some ([], [0, 1, 2]) | 6 => some ([], [6]) | 7 => some ([], [6]) | _ => none
noncomputable def aF8 : Code := Try.f63.body.getD .skip
theorem aH4 : aL aFR aDh aD2 aF8 := by
 intro n E hn f c hs x k h
 cases hn
def B8 : List Sh := [.lf (.int .u64), .lf (.int .u64), .lf (.int .u64)]
def Z9 (x : aI B8) (Q : List (Bool × List VV) -> Prop) : Prop := aCF x.1 x.2.1 x.2.2.1 (fun (r : Int) => Q (aH [(false, (.int .u64))] [.n] (r, ())))
theorem aIC (x : aI B8) (Q : List (Bool × List VV) -> Prop) (h : Z9 x Q) : aD Try.prog 63 (aM B8 x) Q :=
 aC [.n] (G := aFR) (ct := aDh) (en := aD2) (fn := Try.f63) (cd := aF8) (rt := [(false, (.int .u64))]) Try.func63 (by kernel_rfl) (by kernel_rfl) (Nat.le_of_ble_eq_true rfl) aH4 VP (aG rfl) h.it (by kernel_rfl)
noncomputable def aCj : FuncId -> List VV -> (List (Bool × List VV) -> Prop) -> Prop := fun f args Q => if f = 63 then unA B8 args (fun x => Z9 x Q) else ZK f args Q
theorem aAZ : ∀ f args Q, aCj f args Q -> aD Try.prog f args Q := aE VP (f0 := 63) B8 (fun x Q => Z9 x Q) aIC
noncomputable def aHq : Cfg := ⟨Try.prog, tt, aCj, fun _ _ _ => False, none, false⟩
def aEt (a0 : Int) (Q : Int -> Prop) : Prop :=
 gZ a0 0 62 (fun (r1 : Int) => Q r1)
structure QC (a0 : Int) (Q : Int -> Prop) : Prop where
 it : aEt a0 Q
noncomputable def NS : Tab := fun n => none
noncomputable def PY : Go.Mach.Ends := fun n => match n with | 2 => some ([], [0]) | 6 => some ([], [2]) | 7 => some ([], [2]) | _ => none
noncomputable def RP : Code := Try.f87.body.getD .skip
theorem aBm : aL aHq NS PY RP := by
 intro n E hn f c hs x k h
 cases hn
def pE : List Sh := [.lf (.int .i64)]
def FC (x : aI pE) (Q : List (Bool × List VV) -> Prop) : Prop := QC x.1 (fun (r : Int) => Q (aH [(false, (.int .i64))] [.n] (r, ())))
theorem aBU (x : aI pE) (Q : List (Bool × List VV) -> Prop) (h : FC x Q) : aD Try.prog 87 (aM pE x) Q :=
 aC [.n] (G := aHq) (ct := NS) (en := PY) (fn := Try.f87) (cd := RP) (rt := [(false, (.int .i64))]) Try.func87 (by kernel_rfl) (by kernel_rfl) (Nat.le_of_ble_eq_true rfl) aBm aAZ (aG rfl) h.it (by kernel_rfl)
noncomputable def KY : FuncId -> List VV -> (List (Bool × List VV) -> Prop) -> Prop := fun f args Q => if f = 87 then unA pE args (fun x => FC x Q) else aCj f args Q
theorem LP : ∀ f args Q, KY f args Q -> aD Try.prog f args Q := aE aAZ (f0 := 87) pE (fun x Q => FC x Q) aBU
noncomputable def WL : Cfg := ⟨Try.prog, tt, KY, fun _ _ _ => False, none, false⟩
def aDj (a0 : Int) (a1 : Int) (a2 : Int) (Q : Int -> Prop) : Prop :=
 QC a1 (fun (r1 : Int) => s8 a0 (fun (r2 : Int) => ck ((0 : Int) <= r1) (ck ((0 : Int) <= r1) (Q ((IntKind.i64.wrap (r2 + (IntKind.i64.wrap (IntKind.u64.wrap ((BitVec.ofInt (IntKind.u64).bits a2 &&& BitVec.ofInt (IntKind.u64).bits (IntKind.u64.wrap ((IntKind.u64.wrap (1 * 2 ^ (min (r1).toNat (IntKind.u64).bits))) - 1))).toNat : Nat))))).fdiv (2 ^ (min (r1).toNat (IntKind.i64).bits)))))))
structure I8 (a0 : Int) (a1 : Int) (a2 : Int) (Q : Int -> Prop) : Prop where
 it : aDj a0 a1 a2 Q
noncomputable def LG : Tab := fun n => none
noncomputable def ME : Go.Mach.Ends := fun n => match n with | 2 => some ([], [0, 1, 2]) | 6 => some ([], [0, 1, 2]) | 14 => some ([], [6]) | 15 => some ([], [6]) | _ => none
noncomputable def N1 : Code := Try.f62.body.getD .skip
theorem YT : aL WL LG ME N1 := by
 intro n E hn f c hs x k h
 cases hn
def mP : List Sh := [.lf (.int .i64), .lf (.int .i64), .lf (.int .u64)]
def DK (x : aI mP) (Q : List (Bool × List VV) -> Prop) : Prop := I8 x.1 x.2.1 x.2.2.1 (fun (r : Int) => Q (aH [(false, (.int .i64))] [.n] (r, ())))
theorem ZR (x : aI mP) (Q : List (Bool × List VV) -> Prop) (h : DK x Q) : aD Try.prog 62 (aM mP x) Q :=
 aC [.n] (G := WL) (ct := LG) (en := ME) (fn := Try.f62) (cd := N1) (rt := [(false, (.int .i64))]) Try.func62 (by kernel_rfl) (by kernel_rfl) (Nat.le_of_ble_eq_true rfl) YT LP (aG rfl) h.it (by kernel_rfl)
noncomputable def GD : FuncId -> List VV -> (List (Bool × List VV) -> Prop) -> Prop := fun f args Q => if f = 62 then unA mP args (fun x => DK x Q) else KY f args Q
theorem GO : ∀ f args Q, GD f args Q -> aD Try.prog f args Q := aE LP (f0 := 62) mP (fun x Q => DK x Q) ZR
noncomputable def Q4 : Cfg := ⟨Try.prog, tt, GD, fun _ _ _ => False, none, false⟩
def aFB (a0 : Int) (a1 : Int) (Q : Int -> Prop) : Prop :=
 gZ a1 1 32 (fun (r1 : Int) => ck ((0 : Int) <= (IntKind.i64.wrap (r1 - 1))) (s8 a0 (fun (r2 : Int) => eY r2 (IntKind.i64.wrap (0 - (IntKind.i64.wrap ((IntKind.i64.wrap (1 * 2 ^ (min (IntKind.i64.wrap (r1 - 1)).toNat (IntKind.i64).bits))) - 1)))) (IntKind.i64.wrap ((IntKind.i64.wrap (1 * 2 ^ (min (IntKind.i64.wrap (r1 - 1)).toNat (IntKind.i64).bits))) - 1)) (fun (r3 : Int) => Q r3))))
structure O2 (a0 : Int) (a1 : Int) (Q : Int -> Prop) : Prop where
 it : aFB a0 a1 Q
noncomputable def QB : Tab := fun n => none
noncomputable def P8 : Go.Mach.Ends := fun n => match n with | 2 => some ([], [0, 1]) | 6 => some ([], [0, 5]) | 14 => some ([], [4]) | 15 => some ([], [4]) | _ => none
noncomputable def SV : Code := Try.f64.body.getD .skip
theorem aBy : aL Q4 QB P8 SV := by
 intro n E hn f c hs x k h
 cases hn
def oF : List Sh := [.lf (.int .i64), .lf (.int .i64)]
def FI (x : aI oF) (Q : List (Bool × List VV) -> Prop) : Prop := O2 x.1 x.2.1 (fun (r : Int) => Q (aH [(false, (.int .i64))] [.n] (r, ())))
theorem aBk (x : aI oF) (Q : List (Bool × List VV) -> Prop) (h : FI x Q) : aD Try.prog 64 (aM oF x) Q :=
 aC [.n] (G := Q4) (ct := QB) (en := P8) (fn := Try.f64) (cd := SV) (rt := [(false, (.int .i64))]) Try.func64 (by kernel_rfl) (by kernel_rfl) (Nat.le_of_ble_eq_true rfl) aBy GO (aG rfl) h.it (by kernel_rfl)
noncomputable def KQ : FuncId -> List VV -> (List (Bool × List VV) -> Prop) -> Prop := fun f args Q => if f = 64 then unA oF args (fun x => FI x Q) else GD f args Q
theorem MN : ∀ f args Q, KQ f args Q -> aD Try.prog f args Q := aE GO (f0 := 64) oF (fun x Q => FI x Q) aBk
noncomputable def XQ : Cfg := ⟨Try.prog, tt, KQ, fun _ _ _ => False, none, false⟩
def nO (x0 : Int) (x1 : Int) (x2 : Int) (x3 : Int) (x4 : List Int) (x5 : Int) (K0 : (List Int) -> Prop) (s : Int × List Int) (nx : (Int × List Int) -> Prop) : Prop :=
 if (decide (s.1 < x5)) = true then ck ((0 : Int) <= s.1 /\ s.1 < (x4.length : Int)) (aCF x1 x2 (IntKind.u64.wrap s.1) (fun (r8 : Int) => I8 (IntKind.i64.wrap (x4.getD ((s.1).toNat) 0)) x3 r8 (fun (r9 : Int) => O2 r9 x0 (fun (r10 : Int) => ck ((s.2.length + [IntKind.i8.wrap r10].length) * 1 <= 140737488355328) (nx (IntKind.i64.wrap (s.1 + 1), s.2 ++ [IntKind.i8.wrap r10])))))) else K0 s.2
structure LX (x0 : Int) (x1 : Int) (x2 : Int) (x3 : Int) (x4 : List Int) (x5 : Int) (K0 : (List Int) -> Prop) (s : Int × List Int) : Prop where
 it : Go.Mach.Loop (nO x0 x1 x2 x3 x4 x5 K0) s
def P9 (a0 : (List Int) × Int × List Int) (a1 : Int) (a2 : Int) (a3 : Int) (Q : (((List Int) × Int × List Int) × Int) -> Prop) : Prop :=
 yF (a0.1, (a0.2.1, a0.2.2)) (fun (r1 : Bool) => if (((!r1) || (decide (a1 < 2))) || (decide (8 < a1))) = true then Q ((([] : List Int), (0, ([] : List Int))), 1) else IX (a0.1, (a0.2.1, a0.2.2)) (fun (r2 : Int) => aW a0.1 (fun (r3 : List Int) => DO (IntKind.i64.wrap (a0.2.1 + (aP 0 (IntKind.i64.wrap (r2 - (IntKind.i64.wrap (a1 - 1))))))) 64 (fun (r4 : Bool) => if (!r4) = true then Q ((([] : List Int), (0, ([] : List Int))), 3) else LX a1 a2 a3 (aP 0 (IntKind.i64.wrap (r2 - (IntKind.i64.wrap (a1 - 1))))) a0.2.2 (a0.2.2.length : Int) (fun (y11 : List Int) => Q ((r3, ((IntKind.i64.wrap (a0.2.1 + (aP 0 (IntKind.i64.wrap (r2 - (IntKind.i64.wrap (a1 - 1))))))), y11)), 0)) (0, ([] : List Int))))))
structure JB (a0 : (List Int) × Int × List Int) (a1 : Int) (a2 : Int) (a3 : Int) (Q : (((List Int) × Int × List Int) × Int) -> Prop) : Prop where
 it : P9 a0 a1 a2 a3 Q
noncomputable def aBW : Ent := ⟨[1, 2, 3, 8, 10, 11, 47, 48, 49], [.lf (.int .i64), .lf (.int .u64), .lf (.int .u64), .lf (.cst (.ptr 0 0)), .lf (.int .i64), .lf (.cst (.ptr 1 0)), .lf (.fz false (.int .i32)), .lf (.int .i64), .lf (.int .i64)], [.box [.cst (.pl (.slice none 0 0)), .int .i64, .cst (.pl (.slice none 0 0))] false, .box [.cst (.own 2), .int .i64, .cst (.pl (.slice none 0 0))] false, .lst true (.int .i64) false], fun x k => LX x.1.1 x.1.2.1 x.1.2.2.1 x.1.2.2.2.2.1 x.1.2.2.2.2.2.2.1 x.1.2.2.2.2.2.2.2.1 (fun (y12 : List Int) => k (.exit 0) ⟨[(8, .ptr 0 0), (11, .ptr 1 0)], [.box [.pl (.slice none 0 0), .pl (.int .i64 x.2.1.2.1), .pl (.slice none 0 0)] false, .box [.own 2, .pl (.int .i64 x.2.2.1.2.1), .own 3] false, .lst true (.int .i64) x.2.2.2.1 false, .lst true (.int .i8) y12 false]⟩) (x.1.2.2.2.2.2.2.2.2.1, ([] : List Int))⟩
noncomputable def AS : Tab := fun n => match n with | 506 => some aBW | _ => none
noncomputable def L8 : Go.Mach.Ends := fun n => match n with | 2 => some ([], [1, 2, 3, 4, 8]) | 12 => some ([], [1, 2, 3, 4, 8, 25]) | 14 => some ([], [1, 2, 3, 4, 8, 10]) | 27 => some ([], [1, 2, 3, 4, 8]) | 30 => some ([], [1, 2, 3, 4, 8, 10, 11]) | 52 => some ([], [8, 9]) | 53 => some ([], [8, 9]) | 124 => some ([], [1, 2, 3, 4, 8, 10, 11, 44]) | 251 => some ([], [1, 2, 3, 4, 8, 10, 11]) | 252 => some ([], [1, 2, 3, 8, 10, 11, 47, 48, 49]) | 254 => some ([], [8, 9]) | 255 => some ([], [8, 9]) | 500 => some ([], [8, 9]) | 501 => some ([], [8, 9]) | 506 => some ([⟨11, some 2, false, (.int .i8)⟩], [1, 2, 3, 8, 10, 11, 47, 48, 49]) | 2024 => some ([], [1, 2, 3, 8, 10, 11, 47, 48, 49, 50]) | 8100 => some ([], [1, 2, 3, 8, 10, 11, 47, 48, 49]) | 8101 => some ([], [8, 11]) | 8103 => some ([], [1, 2, 3, 8, 10, 11, 47, 48, 49]) | 32408 => some ([], [1, 2, 3, 8, 10, 11, 12, 13, 47, 48, 49]) | 64818 => some ([], [1, 2, 3, 8, 10, 11, 14, 47, 48, 49]) | 64819 => some ([], [1, 2, 3, 8, 10, 11, 47, 48, 49]) | _ => none
noncomputable def P5 : Code := Try.f40.body.getD .skip
theorem Z4 : aL XQ AS L8 P5 := by
 intro n E hn f c hs x k h
 unfold AS at hn
 split at hn
 ·cases hn; exact aK hs (by kernel_rfl) (fun y : Int × List Int => ⟨[(1, .pl (.int .i64 x.1.1)), (2, .pl (.int .u64 x.1.2.1)), (3, .pl (.int .u64 x.1.2.2.1)), (8, .ptr 0 0), (10, .pl (.int .i64 x.1.2.2.2.2.1)), (11, .ptr 1 0), (47, .fz false (.int .i32) x.1.2.2.2.2.2.2.1), (48, .pl (.int .i64 x.1.2.2.2.2.2.2.2.1)), (49, .pl (.int .i64 y.1))], [.box [.pl (.slice none 0 0), .pl (.int .i64 x.2.1.2.1), .pl (.slice none 0 0)] false, .box [.own 2, .pl (.int .i64 x.2.2.1.2.1), .own 3] false, .lst true (.int .i64) x.2.2.2.1 false, .lst true (.int .i8) y.2 false]⟩) (x.1.2.2.2.2.2.2.2.2.1, ([] : List Int)) (by kernel_rfl) (fun y X => by kernel_rfl) h.it
 ·cases hn
def mH : List Sh := [.agg [.fz false (.int .i64), .int .i64, .fz false (.int .i32)], .lf (.int .i64), .lf (.int .u64), .lf (.int .u64)]
def DR (x : aI mH) (Q : List (Bool × List VV) -> Prop) : Prop := JB (x.1.1, (x.1.2.1, x.1.2.2.1)) x.2.1 x.2.2.1 x.2.2.2.1 (fun (r : ((List Int) × Int × List Int) × Int) => Q (aH [(true, (.pair (.slc (.int .i64)) (.pair (.int .i64) (.slc (.int .i8))))), (false, (.int .i64))] [.n, .n] (r.1, (r.2, ()))))
theorem Z5 (x : aI mH) (Q : List (Bool × List VV) -> Prop) (h : DR x Q) : aD Try.prog 40 (aM mH x) Q :=
 aC [.n, .n] (G := XQ) (ct := AS) (en := L8) (fn := Try.f40) (cd := P5) (rt := [(true, (.pair (.slc (.int .i64)) (.pair (.int .i64) (.slc (.int .i8))))), (false, (.int .i64))]) Try.func40 (by kernel_rfl) (by kernel_rfl) (Nat.le_of_ble_eq_true rfl) Z4 MN (aG rfl) h.it (by kernel_rfl)
noncomputable def F7 : FuncId -> List VV -> (List (Bool × List VV) -> Prop) -> Prop := fun f args Q => if f = 40 then unA mH args (fun x => DR x Q) else KQ f args Q
theorem GI : ∀ f args Q, F7 f args Q -> aD Try.prog f args Q := aE MN (f0 := 40) mH (fun x Q => DR x Q) Z5
noncomputable def RO : Cfg := ⟨Try.prog, tt, F7, fun _ _ _ => False, none, false⟩
def fC (x0 : List Int) (x1 : List Int) (x2 : Int) (K0 : Unit -> Prop) (K1 : Unit -> Prop) (s : Int) (nx : Int -> Prop) : Prop :=
 if (decide (s < x2)) = true then ck ((0 : Int) <= s /\ s < (x0.length : Int)) (ck ((0 : Int) <= s /\ s < (x1.length : Int)) (if ((x0.getD ((s).toNat) 0) != (x1.getD ((s).toNat) 0)) = true then K1 () else nx (IntKind.i64.wrap (s + 1)))) else K0 ()
structure sW (x0 : List Int) (x1 : List Int) (x2 : Int) (K0 : Unit -> Prop) (K1 : Unit -> Prop) (s : Int) : Prop where
 it : Go.Mach.Loop (fC x0 x1 x2 K0 K1) s
def vI (a0 : List Int) (a1 : List Int) (Q : Bool -> Prop) : Prop :=
 if ((a0.length : Int) != (a1.length : Int)) = true then Q false else sW a0 a1 (a0.length : Int) (fun (y1 : Unit) => Q true) (fun (y2 : Unit) => Q false) 0
structure gO (a0 : List Int) (a1 : List Int) (Q : Bool -> Prop) : Prop where
 it : vI a0 a1 Q
noncomputable def GV : Ent := ⟨[0, 1, 12, 13], [.lf (.fz false (.int .i64)), .lf (.fz false (.int .i64)), .lf (.int .i64), .lf (.int .i64)], [], fun x k => sW x.1.1 x.1.2.1 x.1.2.2.1 (fun (y3 : Unit) => k (.exit 0) ⟨[], []⟩) (fun (y4 : Unit) => k .ret ⟨[(4, .pl (.bool false))], []⟩) x.1.2.2.2.1⟩
noncomputable def k7 : Tab := fun n => match n with | 58 => some GV | _ => none
noncomputable def sO : Go.Mach.Ends := fun n => match n with | 2 => some ([], [0, 1]) | 12 => some ([], [0, 1, 10]) | 27 => some ([], [0, 1]) | 28 => some ([], [0, 1, 12, 13]) | 30 => some ([], [4]) | 31 => some ([], [4]) | 52 => some ([], [4]) | 53 => some ([], [4]) | 58 => some ([], [0, 1, 12, 13]) | 232 => some ([], [0, 1, 12, 13, 14]) | 932 => some ([], [0, 1, 12, 13]) | 933 => some ([], []) | 935 => some ([], [0, 1, 12, 13]) | 3736 => some ([], [0, 1, 5, 12, 13]) | 7474 => some ([], [0, 1, 12, 13, 24]) | 14951 => some ([], [0, 1, 12, 13]) | 29900 => some ([], [4]) | 29901 => some ([], [4]) | _ => none
noncomputable def uW : Code := Try.f38.body.getD .skip
theorem GE : aL RO k7 sO uW := by
 intro n E hn f c hs x k h
 unfold k7 at hn
 split at hn
 ·cases hn; exact aK hs (by kernel_rfl) (fun y : Int => ⟨[(0, .fz false (.int .i64) x.1.1), (1, .fz false (.int .i64) x.1.2.1), (12, .pl (.int .i64 x.1.2.2.1)), (13, .pl (.int .i64 y))], []⟩) x.1.2.2.2.1 (by kernel_rfl) (fun y X => by kernel_rfl) h.it
 ·cases hn
def dJ : List Sh := [.lf (.fz false (.int .i64)), .lf (.fz false (.int .i64))]
def lY (x : aI dJ) (Q : List (Bool × List VV) -> Prop) : Prop := gO x.1 x.2.1 (fun (r : Bool) => Q (aH [(false, .bool)] [.n] (r, ())))
theorem GG (x : aI dJ) (Q : List (Bool × List VV) -> Prop) (h : lY x Q) : aD Try.prog 38 (aM dJ x) Q :=
 aC [.n] (G := RO) (ct := k7) (en := sO) (fn := Try.f38) (cd := uW) (rt := [(false, .bool)]) Try.func38 (by kernel_rfl) (by kernel_rfl) (Nat.le_of_ble_eq_true rfl) GE GI (aG rfl) h.it (by kernel_rfl)
noncomputable def nC : FuncId -> List VV -> (List (Bool × List VV) -> Prop) -> Prop := fun f args Q => if f = 38 then unA dJ args (fun x => lY x Q) else F7 f args Q
theorem rF : ∀ f args Q, nC f args Q -> aD Try.prog f args Q := aE GI (f0 := 38) dJ (fun x Q => lY x Q) GG
noncomputable def xC : Cfg := ⟨Try.prog, tt, nC, fun _ _ _ => False, none, false⟩
def aGN (a0 : List Int) (a1 : List Int) (Q : Bool -> Prop) : Prop :=
 gO a0 a1 (fun (r1 : Bool) => Q r1)
structure jZ (a0 : List Int) (a1 : List Int) (Q : Bool -> Prop) : Prop where
 it : aGN a0 a1 Q
noncomputable def S4 : Tab := fun n => none
noncomputable def RD : Go.Mach.Ends := fun n => match n with | 2 => some ([], [0, 1]) | 6 => some ([], [4]) | 7 => some ([], [4]) | _ => none
noncomputable def XC : Code := Try.f19.body.getD .skip
theorem aDT : aL xC S4 RD XC := by
 intro n E hn f c hs x k h
 cases hn
def rM : List Sh := [.lf (.fz false (.int .i64)), .lf (.fz false (.int .i64))]
def JZ (x : aI rM) (Q : List (Bool × List VV) -> Prop) : Prop := jZ x.1 x.2.1 (fun (r : Bool) => Q (aH [(false, .bool)] [.n] (r, ())))
theorem aDU (x : aI rM) (Q : List (Bool × List VV) -> Prop) (h : JZ x Q) : aD Try.prog 19 (aM rM x) Q :=
 aC [.n] (G := xC) (ct := S4) (en := RD) (fn := Try.f19) (cd := XC) (rt := [(false, .bool)]) Try.func19 (by kernel_rfl) (by kernel_rfl) (Nat.le_of_ble_eq_true rfl) aDT rF (aG rfl) h.it (by kernel_rfl)
noncomputable def QE : FuncId -> List VV -> (List (Bool × List VV) -> Prop) -> Prop := fun f args Q => if f = 19 then unA rM args (fun x => JZ x Q) else nC f args Q
theorem PM : ∀ f args Q, QE f args Q -> aD Try.prog f args Q := aE rF (f0 := 19) rM (fun x Q => JZ x Q) aDU
noncomputable def aAj : Cfg := ⟨Try.prog, tt, QE, fun _ _ _ => False, none, false⟩
def BU (x0 : Int) (x3 : Int) (x4 : List Int) (x6 : Int) (x7 : List Int) (x9 : Int) (K0 : (List Int) -> Prop) (s : Int × List Int) (nx : (Int × List Int) -> Prop) : Prop :=
 if (decide (s.1 < x0)) = true then ck ((0 : Int) <= s.1 /\ s.1 < (x4.length : Int)) (s7 (IntKind.i64.wrap (x4.getD ((s.1).toNat) 0)) x3 x9 (fun (r9 : Int) => ck ((0 : Int) <= s.1 /\ s.1 < (x7.length : Int)) (s7 (IntKind.i64.wrap (x7.getD ((s.1).toNat) 0)) x6 x9 (fun (r10 : Int) => ck ((s.2.length + [IntKind.i32.wrap (IntKind.i64.wrap (r9 + r10))].length) * 4 <= 140737488355328) (nx (IntKind.i64.wrap (s.1 + 1), s.2 ++ [IntKind.i32.wrap (IntKind.i64.wrap (r9 + r10))])))))) else K0 s.2
structure aCo (x0 : Int) (x3 : Int) (x4 : List Int) (x6 : Int) (x7 : List Int) (x9 : Int) (K0 : (List Int) -> Prop) (s : Int × List Int) : Prop where
 it : Go.Mach.Loop (BU x0 x3 x4 x6 x7 x9 K0) s
def aKi (a0 : (List Int) × Int × List Int) (a1 : (List Int) × Int × List Int) (Q : (((List Int) × Int × List Int) × Int) -> Prop) : Prop :=
 bN (a0.1, (a0.2.1, a0.2.2)) (fun (r1 : Bool) => jn (fun (v2 : Bool) => if v2 = true then Q ((([] : List Int), (0, ([] : List Int))), 1) else jZ a0.1 a1.1 (fun (r5 : Bool) => if (!r5) = true then Q ((([] : List Int), (0, ([] : List Int))), 2) else aW a0.1 (fun (r6 : List Int) => aCo (a0.2.2.length : Int) a0.2.1 a0.2.2 a1.2.1 a1.2.2 (aP (bF a0.2.1 a1.2.1) (IntKind.i64.wrap ((aP a0.2.1 a1.2.1) - 12))) (fun (y11 : List Int) => Q ((r6, ((aP (bF a0.2.1 a1.2.1) (IntKind.i64.wrap ((aP a0.2.1 a1.2.1) - 12))), y11)), 0)) (0, ([] : List Int))))) (fun J3 => if (!r1) = true then J3 true else bN (a1.1, (a1.2.1, a1.2.2)) (fun (r4 : Bool) => J3 (!r4))))
structure aG2 (a0 : (List Int) × Int × List Int) (a1 : (List Int) × Int × List Int) (Q : (((List Int) × Int × List Int) × Int) -> Prop) : Prop where
 it : aKi a0 a1 Q
noncomputable def aIt : Ent := ⟨[2, 3, 4, 6, 45, 46], [.lf (.cst (.ptr 0 0)), .lf (.cst (.ptr 1 0)), .lf (.cst (.ptr 2 0)), .lf (.cst (.ptr 3 0)), .lf (.int .i64), .lf (.int .i64)], [.box [.fz false (.int .i64), .int .i64, .fz false (.int .i8)] false, .box [.fz false (.int .i64), .int .i64, .fz false (.int .i8)] false, .box [.cst (.pl (.slice none 0 0)), .int .i64, .cst (.pl (.slice none 0 0))] false, .box [.cst (.own 4), .int .i64, .cst (.pl (.slice none 0 0))] false, .lst true (.int .i64) false], fun x k => aCo x.1.2.2.2.2.1 x.2.1.2.1 x.2.1.2.2.1 x.2.2.1.2.1 x.2.2.1.2.2.1 x.2.2.2.2.1.2.1 (fun (y12 : List Int) => k (.exit 1) ⟨[(4, .ptr 0 0), (6, .ptr 1 0)], [.box [.pl (.slice none 0 0), .pl (.int .i64 x.2.2.2.1.2.1), .pl (.slice none 0 0)] false, .box [.own 2, .pl (.int .i64 x.2.2.2.2.1.2.1), .own 3] false, .lst true (.int .i64) x.2.2.2.2.2.1 false, .lst true (.int .i32) y12 false]⟩) (x.1.2.2.2.2.2.1, ([] : List Int))⟩
noncomputable def TT : Tab := fun n => match n with | 122 => some aIt | _ => none
noncomputable def aC4 : Go.Mach.Ends := fun n => match n with | 2 => some ([], [2, 3, 4]) | 14 => some ([], [2, 3, 4, 6]) | 24 => some ([], [2, 3, 4, 9]) | 60 => some ([], [2, 3, 4, 6, 45, 46]) | 62 => some ([], [4, 5]) | 63 => some ([], [4, 5]) | 100 => some ([], [4, 5]) | 101 => some ([], [4, 5]) | 102 => some ([], [2, 3, 4, 19]) | 122 => some ([⟨6, some 2, false, (.int .i32)⟩], [2, 3, 4, 6, 45, 46]) | 207 => some ([], [2, 3, 4]) | 412 => some ([], [4, 5]) | 413 => some ([], [4, 5]) | 488 => some ([], [2, 3, 4, 6, 45, 46, 47]) | 1956 => some ([], [2, 3, 4, 6, 45, 46]) | 1957 => some ([], [4, 6]) | 1959 => some ([], [2, 3, 4, 6, 45, 46]) | 7832 => some ([], [2, 3, 4, 6, 7, 45, 46]) | 15666 => some ([], [2, 3, 4, 6, 8, 45, 46]) | 15667 => some ([], [2, 3, 4, 6, 45, 46]) | _ => none
noncomputable def aGI : Code := Try.f59.body.getD .skip
theorem aIP : aL aAj TT aC4 aGI := by
 intro n E hn f c hs x k h
 unfold TT at hn
 split at hn
 ·cases hn; exact aK hs (by kernel_rfl) (fun y : Int × List Int => ⟨[(2, .ptr 0 0), (3, .ptr 1 0), (4, .ptr 2 0), (6, .ptr 3 0), (45, .pl (.int .i64 x.1.2.2.2.2.1)), (46, .pl (.int .i64 y.1))], [.box [.fz false (.int .i64) x.2.1.1, .pl (.int .i64 x.2.1.2.1), .fz false (.int .i8) x.2.1.2.2.1] false, .box [.fz false (.int .i64) x.2.2.1.1, .pl (.int .i64 x.2.2.1.2.1), .fz false (.int .i8) x.2.2.1.2.2.1] false, .box [.pl (.slice none 0 0), .pl (.int .i64 x.2.2.2.1.2.1), .pl (.slice none 0 0)] false, .box [.own 4, .pl (.int .i64 x.2.2.2.2.1.2.1), .own 5] false, .lst true (.int .i64) x.2.2.2.2.2.1 false, .lst true (.int .i32) y.2 false]⟩) (x.1.2.2.2.2.2.1, ([] : List Int)) (by kernel_rfl) (fun y X => by kernel_rfl) h.it
 ·cases hn
def C8 : List Sh := [.agg [.fz false (.int .i64), .int .i64, .fz false (.int .i8)], .agg [.fz false (.int .i64), .int .i64, .fz false (.int .i8)]]
def ZS (x : aI C8) (Q : List (Bool × List VV) -> Prop) : Prop := aG2 (x.1.1, (x.1.2.1, x.1.2.2.1)) (x.2.1.1, (x.2.1.2.1, x.2.1.2.2.1)) (fun (r : ((List Int) × Int × List Int) × Int) => Q (aH [(true, (.pair (.slc (.int .i64)) (.pair (.int .i64) (.slc (.int .i32))))), (false, (.int .i64))] [.n, .n] (r.1, (r.2, ()))))
theorem aHz (x : aI C8) (Q : List (Bool × List VV) -> Prop) (h : ZS x Q) : aD Try.prog 59 (aM C8 x) Q :=
 aC [.n, .n] (G := aAj) (ct := TT) (en := aC4) (fn := Try.f59) (cd := aGI) (rt := [(true, (.pair (.slc (.int .i64)) (.pair (.int .i64) (.slc (.int .i32))))), (false, (.int .i64))]) Try.func59 (by kernel_rfl) (by kernel_rfl) (Nat.le_of_ble_eq_true rfl) aIP PM (aG rfl) h.it (by kernel_rfl)
noncomputable def aEW : FuncId -> List VV -> (List (Bool × List VV) -> Prop) -> Prop := fun f args Q => if f = 59 then unA C8 args (fun x => ZS x Q) else QE f args Q
theorem aAo : ∀ f args Q, aEW f args Q -> aD Try.prog f args Q := aE PM (f0 := 59) C8 (fun x Q => ZS x Q) aHz
noncomputable def aIj : Cfg := ⟨Try.prog, tt, aEW, fun _ _ _ => False, none, false⟩
def aEj (a0 : Int) (a1 : List Int) (a2 : Int) (a3 : List Int) (Q : Int -> Prop) : Prop :=
 ck ((0 : Int) <= a0 /\ a0 < (a3.length : Int)) (Q (aP 0 (a3.getD ((a0).toNat) 0)))
structure aAR (a0 : Int) (a1 : List Int) (a2 : Int) (a3 : List Int) (Q : Int -> Prop) : Prop where
 it : aEj a0 a1 a2 a3 Q
noncomputable def PU : Tab := fun n => none
noncomputable def NL : Go.Mach.Ends := fun n => match n with | 2 => some ([], [0, 1]) | 6 => some ([], [3]) | 7 => some ([], [3]) | _ => none
noncomputable def SM : Code := Try.f69.body.getD .skip
theorem aBa : aL aIj PU NL SM := by
 intro n E hn f c hs x k h
 cases hn
def n9 : List Sh := [.lf (.int .i64), .bx [.fz false (.int .i64), .int .i64, .fz false (.int .i8)]]
def FF (x : aI n9) (Q : List (Bool × List VV) -> Prop) : Prop := aAR x.1 x.2.1.1 x.2.1.2.1 x.2.1.2.2.1 (fun (r : Int) => Q (aH [(false, (.int .i8))] [.n] (r, ())))
theorem aBs (x : aI n9) (Q : List (Bool × List VV) -> Prop) (h : FF x Q) : aD Try.prog 69 (aM n9 x) Q :=
 aC [.n] (G := aIj) (ct := PU) (en := NL) (fn := Try.f69) (cd := SM) (rt := [(false, (.int .i8))]) Try.func69 (by kernel_rfl) (by kernel_rfl) (Nat.le_of_ble_eq_true rfl) aBa aAo (aG rfl) h.it (by kernel_rfl)
noncomputable def BK : FuncId -> List VV -> (List (Bool × List VV) -> Prop) -> Prop := fun f args Q => if f = 69 then unA n9 args (fun x => FF x Q) else aEW f args Q
theorem MT : ∀ f args Q, BK f args Q -> aD Try.prog f args Q := aE aAo (f0 := 69) n9 (fun x Q => FF x Q) aBs
noncomputable def V1 : Cfg := ⟨Try.prog, tt, BK, fun _ _ _ => False, none, false⟩
def dU (x0 : List Int) (x1 : Int) (x2 : List Int) (x3 : Int) (K0 : (List Int) -> Prop) (s : Int × List Int) (nx : (Int × List Int) -> Prop) : Prop :=
 if (decide (s.1 < x3)) = true then aAR s.1 x0 x1 x2 (fun (r3 : Int) => ck ((s.2.length + [r3].length) * 1 <= 140737488355328) (nx (IntKind.i64.wrap (s.1 + 1), s.2 ++ [r3]))) else K0 s.2
structure pS (x0 : List Int) (x1 : Int) (x2 : List Int) (x3 : Int) (K0 : (List Int) -> Prop) (s : Int × List Int) : Prop where
 it : Go.Mach.Loop (dU x0 x1 x2 x3 K0) s
def FJ (a0 : (List Int) × Int × List Int) (a1 : List Int) (a2 : Int) (a3 : List Int) (Q : ((List Int) × Int × List Int) -> Prop) : Prop :=
 aW a0.1 (fun (r1 : List Int) => pS a1 a2 a3 (a0.2.2.length : Int) (fun (y4 : List Int) => Q (r1, (a0.2.1, y4))) (0, ([] : List Int)))
structure vU (a0 : (List Int) × Int × List Int) (a1 : List Int) (a2 : Int) (a3 : List Int) (Q : ((List Int) × Int × List Int) -> Prop) : Prop where
 it : FJ a0 a1 a2 a3 Q
noncomputable def DZ : Ent := ⟨[1, 4, 5, 15, 16], [.fn 69 [.bx [.fz false (.int .i64), .int .i64, .fz false (.int .i8)]], .lf (.cst (.ptr 0 0)), .lf (.cst (.ptr 1 0)), .lf (.int .i64), .lf (.int .i64)], [.box [.cst (.pl (.slice none 0 0)), .int .i64, .cst (.pl (.slice none 0 0))] false, .box [.cst (.own 2), .int .i64, .cst (.pl (.slice none 0 0))] false, .lst true (.int .i64) false], fun x k => pS x.1.1.1.1 x.1.1.1.2.1 x.1.1.1.2.2.1 x.1.2.2.2.1 (fun (y5 : List Int) => k (.exit 0) ⟨[(4, .ptr 0 0), (5, .ptr 1 0)], [.box [.pl (.slice none 0 0), .pl (.int .i64 x.2.1.2.1), .pl (.slice none 0 0)] false, .box [.own 2, .pl (.int .i64 x.2.2.1.2.1), .own 3] false, .lst true (.int .i64) x.2.2.2.1 false, .lst true (.int .i8) y5 false]⟩) (x.1.2.2.2.2.1, ([] : List Int))⟩
noncomputable def i7 : Tab := fun n => match n with | 58 => some DZ | _ => none
noncomputable def pZ : Go.Mach.Ends := fun n => match n with | 2 => some ([], [1, 2, 4]) | 6 => some ([], [1, 2, 4, 5]) | 28 => some ([], [1, 4, 5, 15, 16]) | 30 => some ([], [4]) | 31 => some ([], [4]) | 58 => some ([⟨5, some 2, false, (.int .i8)⟩], [1, 4, 5, 15, 16]) | 232 => some ([], [1, 4, 5, 15, 16, 17]) | 932 => some ([], [1, 4, 5, 15, 16]) | 933 => some ([], [4, 5]) | 935 => some ([], [1, 4, 5, 15, 16]) | 3736 => some ([], [1, 4, 5, 6, 15, 16]) | 3737 => some ([], [1, 4, 5, 15, 16]) | _ => none
noncomputable def qV : Code := Try.f68.body.getD .skip
theorem CV : aL V1 i7 pZ qV := by
 intro n E hn f c hs x k h
 unfold i7 at hn
 split at hn
 ·cases hn; exact aK hs (by kernel_rfl) (fun y : Int × List Int => ⟨[(1, .fn 69 [.bx [.fz false (.int .i64) x.1.1.1.1, .pl (.int .i64 x.1.1.1.2.1), .fz false (.int .i8) x.1.1.1.2.2.1] 0]), (4, .ptr 0 0), (5, .ptr 1 0), (15, .pl (.int .i64 x.1.2.2.2.1)), (16, .pl (.int .i64 y.1))], [.box [.pl (.slice none 0 0), .pl (.int .i64 x.2.1.2.1), .pl (.slice none 0 0)] false, .box [.own 2, .pl (.int .i64 x.2.2.1.2.1), .own 3] false, .lst true (.int .i64) x.2.2.2.1 false, .lst true (.int .i8) y.2 false]⟩) (x.1.2.2.2.2.1, ([] : List Int)) (by kernel_rfl) (fun y X => by kernel_rfl) h.it
 ·cases hn
def cY : List Sh := [.agg [.fz false (.int .i64), .int .i64, .fz false (.int .i8)], .fn 69 [.bx [.fz false (.int .i64), .int .i64, .fz false (.int .i8)]]]
def j0 (x : aI cY) (Q : List (Bool × List VV) -> Prop) : Prop := vU (x.1.1, (x.1.2.1, x.1.2.2.1)) x.2.1.1.1 x.2.1.1.2.1 x.2.1.1.2.2.1 (fun (r : (List Int) × Int × List Int) => Q (aH [(true, (.pair (.slc (.int .i64)) (.pair (.int .i64) (.slc (.int .i8)))))] [.n] (r, ())))
theorem DM (x : aI cY) (Q : List (Bool × List VV) -> Prop) (h : j0 x Q) : aD Try.prog 68 (aM cY x) Q :=
 aC [.n] (G := V1) (ct := i7) (en := pZ) (fn := Try.f68) (cd := qV) (rt := [(true, (.pair (.slc (.int .i64)) (.pair (.int .i64) (.slc (.int .i8)))))]) Try.func68 (by kernel_rfl) (by kernel_rfl) (Nat.le_of_ble_eq_true rfl) CV MT (aG rfl) h.it (by kernel_rfl)
noncomputable def kP : FuncId -> List VV -> (List (Bool × List VV) -> Prop) -> Prop := fun f args Q => if f = 68 then (if aJJ (aAO args) [69] = true then unA cY args (fun x => j0 x Q) else BK f args Q) else BK f args Q
theorem n6 : ∀ f args Q, kP f args Q -> aD Try.prog f args Q := QK MT (f0 := 68) [69] cY (fun x Q => j0 x Q) DM
noncomputable def sZ : Cfg := ⟨Try.prog, tt, kP, fun _ _ _ => False, none, false⟩
def aHW (a0 : (List Int) × Int × List Int) (Q : (((List Int) × Int × List Int) × Int) -> Prop) : Prop :=
 bN (a0.1, (a0.2.1, a0.2.2)) (fun (r1 : Bool) => if (!r1) = true then Q ((([] : List Int), (0, ([] : List Int))), 1) else vU (a0.1, (a0.2.1, a0.2.2)) a0.1 a0.2.1 a0.2.2 (fun (r2 : (List Int) × Int × List Int) => Q ((r2.1, (r2.2.1, r2.2.2)), 0)))
structure Y8 (a0 : (List Int) × Int × List Int) (Q : (((List Int) × Int × List Int) × Int) -> Prop) : Prop where
 it : aHW a0 Q
noncomputable def WD : Tab := fun n => none
noncomputable def WB : Go.Mach.Ends := fun n => match n with | 2 => some ([], [1, 2]) | 12 => some ([], [1, 2, 6]) | 14 => some ([], [2, 3]) | 15 => some ([], [2, 3]) | 27 => some ([], [1, 2]) | 52 => some ([], [2, 3]) | 53 => some ([], [2, 3]) | _ => none
noncomputable def aAb : Code := Try.f42.body.getD .skip
theorem aEh : aL sZ WD WB aAb := by
 intro n E hn f c hs x k h
 cases hn
def tU : List Sh := [.agg [.fz false (.int .i64), .int .i64, .fz false (.int .i8)]]
def NT (x : aI tU) (Q : List (Bool × List VV) -> Prop) : Prop := Y8 (x.1.1, (x.1.2.1, x.1.2.2.1)) (fun (r : ((List Int) × Int × List Int) × Int) => Q (aH [(true, (.pair (.slc (.int .i64)) (.pair (.int .i64) (.slc (.int .i8))))), (false, (.int .i64))] [.n, .n] (r.1, (r.2, ()))))
theorem aE3 (x : aI tU) (Q : List (Bool × List VV) -> Prop) (h : NT x Q) : aD Try.prog 42 (aM tU x) Q :=
 aC [.n, .n] (G := sZ) (ct := WD) (en := WB) (fn := Try.f42) (cd := aAb) (rt := [(true, (.pair (.slc (.int .i64)) (.pair (.int .i64) (.slc (.int .i8))))), (false, (.int .i64))]) Try.func42 (by kernel_rfl) (by kernel_rfl) (Nat.le_of_ble_eq_true rfl) aEh n6 (aG rfl) h.it (by kernel_rfl)
noncomputable def T6 : FuncId -> List VV -> (List (Bool × List VV) -> Prop) -> Prop := fun f args Q => if f = 42 then unA tU args (fun x => NT x Q) else kP f args Q
theorem RN : ∀ f args Q, T6 f args Q -> aD Try.prog f args Q := aE n6 (f0 := 42) tU (fun x Q => NT x Q) aE3
noncomputable def aDO : Cfg := ⟨Try.prog, tt, T6, fun _ _ _ => False, none, false⟩
def GA (a0 : List Int) (Q : (List Int) -> Prop) : Prop :=
 nq a0 (Q ([] : List Int)) (ck ((([] : List Int).length + a0.length) * 1 <= 140737488355328) (Q (([] : List Int) ++ a0)))
structure iE (a0 : List Int) (Q : (List Int) -> Prop) : Prop where
 it : GA a0 Q
noncomputable def pV : Tab := fun n => none
noncomputable def p9 : Go.Mach.Ends := fun n => match n with | 2 => some ([], [0]) | 12 => some ([], [0, 4]) | 14 => some ([], [2]) | 15 => some ([], [2]) | 27 => some ([], [0]) | 52 => some ([], [2]) | 53 => some ([], [2]) | _ => none
noncomputable def qY : Code := Try.f21.body.getD .skip
theorem CT : aL aDO pV p9 qY := by
 intro n E hn f c hs x k h
 cases hn
def cZ : List Sh := [.lf (.fz false (.int .i8))]
def jU (x : aI cZ) (Q : List (Bool × List VV) -> Prop) : Prop := iE x.1 (fun (r : List Int) => Q (aH [(false, (.slc (.int .i8)))] [.n] (r, ())))
theorem DG (x : aI cZ) (Q : List (Bool × List VV) -> Prop) (h : jU x Q) : aD Try.prog 21 (aM cZ x) Q :=
 aC [.n] (G := aDO) (ct := pV) (en := p9) (fn := Try.f21) (cd := qY) (rt := [(false, (.slc (.int .i8)))]) Try.func21 (by kernel_rfl) (by kernel_rfl) (Nat.le_of_ble_eq_true rfl) CT RN (aG rfl) h.it (by kernel_rfl)
noncomputable def kV : FuncId -> List VV -> (List (Bool × List VV) -> Prop) -> Prop := fun f args Q => if f = 21 then unA cZ args (fun x => jU x Q) else T6 f args Q
theorem oT : ∀ f args Q, kV f args Q -> aD Try.prog f args Q := aE RN (f0 := 21) cZ (fun x Q => jU x Q) DG
noncomputable def tE : Cfg := ⟨Try.prog, tt, kV, fun _ _ _ => False, none, false⟩
def aGY (a0 : (List Int) × Int × List Int) (a1 : List Int) (Q : (((List Int) × Int × List Int) × Int) -> Prop) : Prop :=
 bN (a0.1, (a0.2.1, a0.2.2)) (fun (r1 : Bool) => jn (fun (v2 : Bool) => if v2 = true then Q ((([] : List Int), (0, ([] : List Int))), 1) else o8 a1 (fun (r5 : Int) => if (r5 != (a0.2.2.length : Int)) = true then Q ((([] : List Int), (0, ([] : List Int))), 2) else aW a1 (fun (r6 : List Int) => iE a0.2.2 (fun (r7 : List Int) => Q ((r6, (a0.2.1, r7)), 0))))) (fun J3 => if (!r1) = true then J3 true else kI a1 (fun (r4 : Bool) => J3 (!r4))))
structure TS (a0 : (List Int) × Int × List Int) (a1 : List Int) (Q : (((List Int) × Int × List Int) × Int) -> Prop) : Prop where
 it : aGY a0 a1 Q
noncomputable def RJ : Tab := fun n => none
noncomputable def SS : Go.Mach.Ends := fun n => match n with | 2 => some ([], [1, 2, 4]) | 14 => some ([], [4, 5]) | 15 => some ([], [4, 5]) | 24 => some ([], [1, 2, 4, 6]) | 100 => some ([], [4, 5]) | 101 => some ([], [4, 5]) | 102 => some ([], [1, 2, 4, 16]) | 207 => some ([], [1, 2, 4]) | 412 => some ([], [4, 5]) | 413 => some ([], [4, 5]) | _ => none
noncomputable def WX : Code := Try.f70.body.getD .skip
theorem aCk : aL tE RJ SS WX := by
 intro n E hn f c hs x k h
 cases hn
def rG : List Sh := [.agg [.fz false (.int .i64), .int .i64, .fz false (.int .i8)], .lf (.fz false (.int .i64))]
def JW (x : aI rG) (Q : List (Bool × List VV) -> Prop) : Prop := TS (x.1.1, (x.1.2.1, x.1.2.2.1)) x.2.1 (fun (r : ((List Int) × Int × List Int) × Int) => Q (aH [(true, (.pair (.slc (.int .i64)) (.pair (.int .i64) (.slc (.int .i8))))), (false, (.int .i64))] [.n, .n] (r.1, (r.2, ()))))
theorem aDs (x : aI rG) (Q : List (Bool × List VV) -> Prop) (h : JW x Q) : aD Try.prog 70 (aM rG x) Q :=
 aC [.n, .n] (G := tE) (ct := RJ) (en := SS) (fn := Try.f70) (cd := WX) (rt := [(true, (.pair (.slc (.int .i64)) (.pair (.int .i64) (.slc (.int .i8))))), (false, (.int .i64))]) Try.func70 (by kernel_rfl) (by kernel_rfl) (Nat.le_of_ble_eq_true rfl) aCk oT (aG rfl) h.it (by kernel_rfl)
noncomputable def NX : FuncId -> List VV -> (List (Bool × List VV) -> Prop) -> Prop := fun f args Q => if f = 70 then unA rG args (fun x => JW x Q) else kV f args Q
theorem N4 : ∀ f args Q, NX f args Q -> aD Try.prog f args Q := aE oT (f0 := 70) rG (fun x Q => JW x Q) aDs
noncomputable def aBF : Cfg := ⟨Try.prog, tt, NX, fun _ _ _ => False, none, false⟩
def aHl (a0 : (List Int) × Int × List Int) (Q : (((List Int) × Int × List Int) × Int) -> Prop) : Prop :=
 bN (a0.1, (a0.2.1, a0.2.2)) (fun (r1 : Bool) => if (!r1) = true then Q ((([] : List Int), (0, ([] : List Int))), 1) else ck ((0 : Int) <= 0 /\ 0 < (a0.1.length : Int)) (o8 a0.1 (fun (r2 : Int) => ck ((0 : Int) <= 0 /\ 0 < (a0.1.length : Int)) (ck ((a0.1.getD 0 0) ≠ (0 : Int)) (TS (a0.1, (a0.2.1, a0.2.2)) [a0.1.getD 0 0, IntKind.i64.wrap ((r2).tdiv (a0.1.getD 0 0))] (fun (r3 : ((List Int) × Int × List Int) × Int) => Q ((r3.1.1, (r3.1.2.1, r3.1.2.2)), r3.2)))))))
structure Y3 (a0 : (List Int) × Int × List Int) (Q : (((List Int) × Int × List Int) × Int) -> Prop) : Prop where
 it : aHl a0 Q
noncomputable def WS : Tab := fun n => none
noncomputable def VK : Go.Mach.Ends := fun n => match n with | 2 => some ([], [1, 2]) | 12 => some ([], [1, 2, 6]) | 14 => some ([], [2, 3]) | 15 => some ([], [2, 3]) | 27 => some ([], [1, 2]) | 52 => some ([], [2, 3]) | 53 => some ([], [2, 3]) | _ => none
noncomputable def aAD : Code := Try.f43.body.getD .skip
theorem aEg : aL aBF WS VK aAD := by
 intro n E hn f c hs x k h
 cases hn
def uQ : List Sh := [.agg [.fz false (.int .i64), .int .i64, .fz false (.int .i8)]]
def P4 (x : aI uQ) (Q : List (Bool × List VV) -> Prop) : Prop := Y3 (x.1.1, (x.1.2.1, x.1.2.2.1)) (fun (r : ((List Int) × Int × List Int) × Int) => Q (aH [(true, (.pair (.slc (.int .i64)) (.pair (.int .i64) (.slc (.int .i8))))), (false, (.int .i64))] [.n, .n] (r.1, (r.2, ()))))
theorem aEo (x : aI uQ) (Q : List (Bool × List VV) -> Prop) (h : P4 x Q) : aD Try.prog 43 (aM uQ x) Q :=
 aC [.n, .n] (G := aBF) (ct := WS) (en := VK) (fn := Try.f43) (cd := aAD) (rt := [(true, (.pair (.slc (.int .i64)) (.pair (.int .i64) (.slc (.int .i8))))), (false, (.int .i64))]) Try.func43 (by kernel_rfl) (by kernel_rfl) (Nat.le_of_ble_eq_true rfl) aEg N4 (aG rfl) h.it (by kernel_rfl)
noncomputable def T8 : FuncId -> List VV -> (List (Bool × List VV) -> Prop) -> Prop := fun f args Q => if f = 43 then unA uQ args (fun x => P4 x Q) else NX f args Q
theorem Q8 : ∀ f args Q, T8 f args Q -> aD Try.prog f args Q := aE N4 (f0 := 43) uQ (fun x Q => P4 x Q) aEo
noncomputable def aDl : Cfg := ⟨Try.prog, tt, T8, fun _ _ _ => False, none, false⟩
end Go.Proofs.Ytbenbhdagmnapaa

namespace Go.Proofs.Ytbenbhdagmnapaa
open Go.Mach
set_option maxRecDepth 100000
set_option linter.unusedVariables false
def aIz (a0 : Int) (a1 : Int) (a2 : Int) (Q : Bool -> Prop) : Prop :=
 Q ((decide (a1 <= a0)) && (decide (a0 <= a2)))
structure mU (a0 : Int) (a1 : Int) (a2 : Int) (Q : Bool -> Prop) : Prop where
 it : aIz a0 a1 a2 Q
noncomputable def aAC : Tab := fun n => none
noncomputable def aAN : Go.Mach.Ends := fun n => match n with | 2 => some ([], [0, 1, 2]) | 6 => some ([], [6]) | 7 => some ([], [6]) | _ => none
noncomputable def aC2 : Code := Try.f73.body.getD .skip
theorem aGk : aL aDl aAC aAN aC2 := by
 intro n E hn f c hs x k h
 cases hn
def z9 : List Sh := [.lf (.int .i64), .lf (.int .i64), .lf (.int .i64)]
def TN (x : aI z9) (Q : List (Bool × List VV) -> Prop) : Prop := mU x.1 x.2.1 x.2.2.1 (fun (r : Bool) => Q (aH [(false, .bool)] [.n] (r, ())))
theorem aHQ (x : aI z9) (Q : List (Bool × List VV) -> Prop) (h : TN x Q) : aD Try.prog 73 (aM z9 x) Q :=
 aC [.n] (G := aDl) (ct := aAC) (en := aAN) (fn := Try.f73) (cd := aC2) (rt := [(false, .bool)]) Try.func73 (by kernel_rfl) (by kernel_rfl) (Nat.le_of_ble_eq_true rfl) aGk Q8 (aG rfl) h.it (by kernel_rfl)
noncomputable def ZA : FuncId -> List VV -> (List (Bool × List VV) -> Prop) -> Prop := fun f args Q => if f = 73 then unA z9 args (fun x => TN x Q) else T8 f args Q
theorem WE : ∀ f args Q, ZA f args Q -> aD Try.prog f args Q := aE Q8 (f0 := 73) z9 (fun x Q => TN x Q) aHQ
noncomputable def aFX : Cfg := ⟨Try.prog, tt, ZA, fun _ _ _ => False, none, false⟩
def aDb (a0 : Int × Int × Int) (Q : Bool -> Prop) : Prop :=
 mU a0.1 1 8 (fun (r1 : Bool) => jn (fun (v2 : Bool) => jn (fun (v5 : Bool) => Q v5) (fun J6 => if v2 = true then mU a0.2.2 1 16 (fun (r7 : Bool) => J6 r7) else J6 false)) (fun J3 => if r1 = true then mU a0.2.1 1 16 (fun (r4 : Bool) => J3 r4) else J3 false))
structure JY (a0 : Int × Int × Int) (Q : Bool -> Prop) : Prop where
 it : aDb a0 Q
noncomputable def LF : Tab := fun n => none
noncomputable def MC : Go.Mach.Ends := fun n => match n with | 2 => some ([], [1]) | 6 => some ([], [2]) | 7 => some ([], [2]) | _ => none
noncomputable def N0 : Code := Try.f72.body.getD .skip
theorem YA : aL aFX LF MC N0 := by
 intro n E hn f c hs x k h
 cases hn
def mT : List Sh := [.agg [.int .i64, .int .i64, .int .i64]]
def C6 (x : aI mT) (Q : List (Bool × List VV) -> Prop) : Prop := JY (x.1.1, (x.1.2.1, x.1.2.2.1)) (fun (r : Bool) => Q (aH [(false, .bool)] [.n] (r, ())))
theorem YL (x : aI mT) (Q : List (Bool × List VV) -> Prop) (h : C6 x Q) : aD Try.prog 72 (aM mT x) Q :=
 aC [.n] (G := aFX) (ct := LF) (en := MC) (fn := Try.f72) (cd := N0) (rt := [(false, .bool)]) Try.func72 (by kernel_rfl) (by kernel_rfl) (Nat.le_of_ble_eq_true rfl) YA WE (aG rfl) h.it (by kernel_rfl)
noncomputable def FG : FuncId -> List VV -> (List (Bool × List VV) -> Prop) -> Prop := fun f args Q => if f = 72 then unA mT args (fun x => C6 x Q) else ZA f args Q
theorem HE : ∀ f args Q, FG f args Q -> aD Try.prog f args Q := aE WE (f0 := 72) mT (fun x Q => C6 x Q) YL
noncomputable def SK : Cfg := ⟨Try.prog, tt, FG, fun _ _ _ => False, none, false⟩
def aCn (a0 : Int × Int × Int × Int × Int × Int × Bool) (Q : Bool -> Prop) : Prop :=
 mU a0.2.2.1 1 5 (fun (r1 : Bool) => jn (fun (v2 : Bool) => Q v2) (fun J3 => if r1 = true then mU a0.2.2.2.1 1 4 (fun (r4 : Bool) => J3 r4) else J3 false))
structure BO (a0 : Int × Int × Int × Int × Int × Int × Bool) (Q : Bool -> Prop) : Prop where
 it : aCn a0 Q
noncomputable def L7 : Tab := fun n => none
noncomputable def MG : Go.Mach.Ends := fun n => match n with | 2 => some ([], [1]) | 6 => some ([], [2]) | 7 => some ([], [2]) | _ => none
noncomputable def PO : Code := Try.f94.body.getD .skip
theorem YF : aL SK L7 MG PO := by
 intro n E hn f c hs x k h
 cases hn
def mR : List Sh := [.agg [.int .i64, .int .i64, .int .i64, .int .i64, .int .i64, .int .i64, .bool]]
def C1 (x : aI mR) (Q : List (Bool × List VV) -> Prop) : Prop := BO (x.1.1, (x.1.2.1, (x.1.2.2.1, (x.1.2.2.2.1, (x.1.2.2.2.2.1, (x.1.2.2.2.2.2.1, x.1.2.2.2.2.2.2.1)))))) (fun (r : Bool) => Q (aH [(false, .bool)] [.n] (r, ())))
theorem YB (x : aI mR) (Q : List (Bool × List VV) -> Prop) (h : C1 x Q) : aD Try.prog 94 (aM mR x) Q :=
 aC [.n] (G := SK) (ct := L7) (en := MG) (fn := Try.f94) (cd := PO) (rt := [(false, .bool)]) Try.func94 (by kernel_rfl) (by kernel_rfl) (Nat.le_of_ble_eq_true rfl) YF HE (aG rfl) h.it (by kernel_rfl)
noncomputable def F1 : FuncId -> List VV -> (List (Bool × List VV) -> Prop) -> Prop := fun f args Q => if f = 94 then unA mR args (fun x => C1 x Q) else FG f args Q
theorem HJ : ∀ f args Q, F1 f args Q -> aD Try.prog f args Q := aE HE (f0 := 94) mR (fun x Q => C1 x Q) YB
noncomputable def SG : Cfg := ⟨Try.prog, tt, F1, fun _ _ _ => False, none, false⟩
def aDd  (K0 : Unit -> Prop) : Prop :=
 K0 ()
structure pO  (K0 : Unit -> Prop) : Prop where
 it : aDd K0
def DA (x0 : Int) (x1 : Bool) (x2 : Int) (x3 : Bool) (x9 : Int) (x16 : Int) (K0 : (Bool × Int) -> Prop) : Prop :=
 if x3 = true then K0 (x1, x16) else if (x2 == 7) = true then mU x9 0 (IntKind.i64.wrap (x0 - 1)) (fun (r12 : Bool) => K0 (r12, x9)) else K0 (false, x16)
structure JH (x0 : Int) (x1 : Bool) (x2 : Int) (x3 : Bool) (x9 : Int) (x16 : Int) (K0 : (Bool × Int) -> Prop) : Prop where
 it : DA x0 x1 x2 x3 x9 x16 K0
def DD (x0 : Int) (x1 : Bool) (x2 : Int) (x3 : Bool) (x4 : Int) (x5 : Int) (x6 : Int) (x7 : Int) (x8 : Int) (x9 : Int) (x10 : Bool) (x13 : Int) (x14 : Int) (x16 : Int) (K0 : (Bool × Int × Int × Int) -> Prop) : Prop :=
 if x3 = true then BO (x4, (x5, (x6, (x7, (x8, (x9, x10)))))) (fun (r11 : Bool) => K0 (r11, x6, x7, x16)) else if (x2 == 5) = true then JH x0 x1 x2 (x2 == 5) x9 x16 (fun (y12 : Bool × Int) => K0 (y12.1, x13, x14, y12.2)) else JH x0 x1 x2 (x2 == 6) x9 x16 (fun (y13 : Bool × Int) => K0 (y13.1, x13, x14, y13.2))
structure KA (x0 : Int) (x1 : Bool) (x2 : Int) (x3 : Bool) (x4 : Int) (x5 : Int) (x6 : Int) (x7 : Int) (x8 : Int) (x9 : Int) (x10 : Bool) (x13 : Int) (x14 : Int) (x16 : Int) (K0 : (Bool × Int × Int × Int) -> Prop) : Prop where
 it : DD x0 x1 x2 x3 x4 x5 x6 x7 x8 x9 x10 x13 x14 x16 K0
def aBD (a0 : Int × Int × Int × Int × Int × Int × Bool) (a1 : Int) (Q : Bool -> Prop) : Prop :=
 if (a0.1 == 1) = true then mU a0.2.1 1 4096 (fun (r1 : Bool) => pO (fun (y2 : Unit) => Q (r1 && ((a0.1 == a0.1) && ((a0.2.1 == a0.2.1) && ((a0.2.2.1 == 0) && ((a0.2.2.2.1 == 0) && ((a0.2.2.2.2.1 == 0) && ((a0.2.2.2.2.2.1 == 0) && ((a0.2.2.2.2.2.2 == a0.2.2.2.2.2.2) && (true))))))))))) else if (a0.1 == 2) = true then mU a0.2.1 1 8 (fun (r3 : Bool) => jn (fun (v4 : Bool) => jn (fun (v7 : Bool) => pO (fun (y10 : Unit) => Q (v7 && ((a0.1 == a0.1) && ((a0.2.1 == a0.2.1) && ((a0.2.2.1 == a0.2.2.1) && ((a0.2.2.2.1 == a0.2.2.2.1) && ((a0.2.2.2.2.1 == a0.2.2.2.2.1) && ((a0.2.2.2.2.2.1 == 0) && ((a0.2.2.2.2.2.2 == a0.2.2.2.2.2.2) && (true))))))))))) (fun J8 => if v4 = true then mU a0.2.2.2.2.1 0 (IntKind.i64.wrap (a0.2.2.1 - 1)) (fun (r9 : Bool) => J8 r9) else J8 false)) (fun J5 => if r3 = true then BO (a0.1, (a0.2.1, (a0.2.2.1, (a0.2.2.2.1, (a0.2.2.2.2.1, (a0.2.2.2.2.2.1, a0.2.2.2.2.2.2)))))) (fun (r6 : Bool) => J5 r6) else J5 false)) else if (a0.1 == 3) = true then KA a1 true a0.1 (a0.1 == 3) a0.1 a0.2.1 a0.2.2.1 a0.2.2.2.1 a0.2.2.2.2.1 a0.2.2.2.2.2.1 a0.2.2.2.2.2.2 0 0 0 (fun (y14 : Bool × Int × Int × Int) => pO (fun (y15 : Unit) => Q (y14.1 && ((a0.1 == a0.1) && ((a0.2.1 == 0) && ((a0.2.2.1 == y14.2.1) && ((a0.2.2.2.1 == y14.2.2.1) && ((a0.2.2.2.2.1 == 0) && ((a0.2.2.2.2.2.1 == y14.2.2.2) && ((a0.2.2.2.2.2.2 == false) && (true))))))))))) else KA a1 true a0.1 (a0.1 == 4) a0.1 a0.2.1 a0.2.2.1 a0.2.2.2.1 a0.2.2.2.2.1 a0.2.2.2.2.2.1 a0.2.2.2.2.2.2 0 0 0 (fun (y16 : Bool × Int × Int × Int) => pO (fun (y17 : Unit) => Q (y16.1 && ((a0.1 == a0.1) && ((a0.2.1 == 0) && ((a0.2.2.1 == y16.2.1) && ((a0.2.2.2.1 == y16.2.2.1) && ((a0.2.2.2.2.1 == 0) && ((a0.2.2.2.2.2.1 == y16.2.2.2) && ((a0.2.2.2.2.2.2 == false) && (true)))))))))))
structure Y4 (a0 : Int × Int × Int × Int × Int × Int × Bool) (a1 : Int) (Q : Bool -> Prop) : Prop where
 it : aBD a0 a1 Q
noncomputable def aGw : Ent := ⟨[2, 5, 6], [.lf (.cst (.ptr 0 0)), .lf (.cst (.ptr 1 0)), .lf (.bool)], [.box [.int .i64, .int .i64, .int .i64, .int .i64, .int .i64, .int .i64, .bool] false, .box [.int .i64, .int .i64, .int .i64, .int .i64, .int .i64, .int .i64, .bool] false], fun x k => pO (fun (y18 : Unit) => k .ret ⟨[(4, .pl (.bool (x.1.2.2.1 && ((x.2.1.1 == x.2.2.1.1) && ((x.2.1.2.1 == x.2.2.1.2.1) && ((x.2.1.2.2.1 == x.2.2.1.2.2.1) && ((x.2.1.2.2.2.1 == x.2.2.1.2.2.2.1) && ((x.2.1.2.2.2.2.1 == x.2.2.1.2.2.2.2.1) && ((x.2.1.2.2.2.2.2.1 == x.2.2.1.2.2.2.2.2.1) && ((x.2.1.2.2.2.2.2.2.1 == x.2.2.1.2.2.2.2.2.2.1) && (true)))))))))))], []⟩)⟩
noncomputable def aGt : Ent := ⟨[1, 2, 5, 6, 11, 42], [.lf (.int .i64), .lf (.cst (.ptr 0 0)), .lf (.cst (.ptr 1 0)), .lf (.bool), .lf (.int .i64), .lf (.bool)], [.box [.int .i64, .int .i64, .int .i64, .int .i64, .int .i64, .int .i64, .bool] false, .box [.int .i64, .int .i64, .int .i64, .int .i64, .int .i64, .int .i64, .bool] false], fun x k => KA x.1.1 x.1.2.2.2.1 x.1.2.2.2.2.1 x.1.2.2.2.2.2.1 x.2.1.1 x.2.1.2.1 x.2.1.2.2.1 x.2.1.2.2.2.1 x.2.1.2.2.2.2.1 x.2.1.2.2.2.2.2.1 x.2.1.2.2.2.2.2.2.1 x.2.2.1.2.2.1 x.2.2.1.2.2.2.1 x.2.2.1.2.2.2.2.2.1 (fun (y19 : Bool × Int × Int × Int) => k .normal ⟨[(2, .ptr 0 0), (5, .ptr 1 0), (6, .pl (.bool y19.1))], [.box [.pl (.int .i64 x.2.1.1), .pl (.int .i64 x.2.1.2.1), .pl (.int .i64 x.2.1.2.2.1), .pl (.int .i64 x.2.1.2.2.2.1), .pl (.int .i64 x.2.1.2.2.2.2.1), .pl (.int .i64 x.2.1.2.2.2.2.2.1), .pl (.bool x.2.1.2.2.2.2.2.2.1)] false, .box [.pl (.int .i64 x.2.2.1.1), .pl (.int .i64 x.2.2.1.2.1), .pl (.int .i64 y19.2.1), .pl (.int .i64 y19.2.2.1), .pl (.int .i64 x.2.2.1.2.2.2.2.1), .pl (.int .i64 y19.2.2.2), .pl (.bool x.2.2.1.2.2.2.2.2.2.1)] false]⟩)⟩
noncomputable def aG8 : Ent := ⟨[1, 2, 5, 6, 11, 53], [.lf (.int .i64), .lf (.cst (.ptr 0 0)), .lf (.cst (.ptr 1 0)), .lf (.bool), .lf (.int .i64), .lf (.bool)], [.box [.int .i64, .int .i64, .int .i64, .int .i64, .int .i64, .int .i64, .bool] false, .box [.int .i64, .int .i64, .int .i64, .int .i64, .int .i64, .int .i64, .bool] false], fun x k => JH x.1.1 x.1.2.2.2.1 x.1.2.2.2.2.1 x.1.2.2.2.2.2.1 x.2.1.2.2.2.2.2.1 x.2.2.1.2.2.2.2.2.1 (fun (y20 : Bool × Int) => k .normal ⟨[(2, .ptr 0 0), (5, .ptr 1 0), (6, .pl (.bool y20.1))], [.box [.pl (.int .i64 x.2.1.1), .pl (.int .i64 x.2.1.2.1), .pl (.int .i64 x.2.1.2.2.1), .pl (.int .i64 x.2.1.2.2.2.1), .pl (.int .i64 x.2.1.2.2.2.2.1), .pl (.int .i64 x.2.1.2.2.2.2.2.1), .pl (.bool x.2.1.2.2.2.2.2.2.1)] false, .box [.pl (.int .i64 x.2.2.1.1), .pl (.int .i64 x.2.2.1.2.1), .pl (.int .i64 x.2.2.1.2.2.1), .pl (.int .i64 x.2.2.1.2.2.2.1), .pl (.int .i64 x.2.2.1.2.2.2.2.1), .pl (.int .i64 y20.2), .pl (.bool x.2.2.1.2.2.2.2.2.2.1)] false]⟩)⟩
noncomputable def IP : Tab := fun n => match n with | 31 => some aGw | 3935 => some aGt | 15743 => some aG8 | _ => none
noncomputable def VI : Go.Mach.Ends := fun n => match n with | 2 => some ([], [1, 2]) | 6 => some ([], [1, 2, 5]) | 14 => some ([], [1, 2, 5, 6]) | 60 => some ([], [1, 2, 5, 6, 11]) | 62 => some ([], [4]) | 63 => some ([], [4]) | 244 => some ([], [1, 2, 5, 6, 11, 12]) | 980 => some ([], [2, 5]) | 981 => some ([], [2, 5, 6]) | 982 => some ([], [1, 2, 5, 6, 11, 23]) | 3932 => some ([], [2, 5]) | 7866 => some ([], [2, 5]) | 7867 => some ([], [2, 5, 6]) | 7868 => some ([], [1, 2, 5, 6, 11, 42]) | 15738 => some ([], [1, 2, 5, 6, 11, 42]) | 15739 => some ([], [1, 2, 5, 6, 11, 42]) | 15740 => some ([], [2, 5]) | 15741 => some ([], [2, 5, 6]) | 31484 => some ([], [1, 2, 5, 6, 11, 53]) | 31486 => some ([], [2, 5, 6]) | 62970 => some ([], [1, 2, 5, 6, 11, 53]) | 62971 => some ([], [1, 2, 5, 6, 11, 53]) | 62974 => some ([], [1, 2, 5, 56]) | 125951 => some ([], [2, 5, 6]) | 251900 => some ([], [1, 2, 5]) | 251901 => some ([], [2, 5, 6]) | _ => none
noncomputable def aAr : Code := Try.f74.body.getD .skip
theorem aEf : aL SG IP VI aAr := by
 intro n E hn f c hs x k h
 unfold IP at hn
 split at hn
 ·cases hn; exact bT hs (by kernel_rfl) (by kernel_rfl) h.it
 ·cases hn; exact bT hs (by kernel_rfl) (by kernel_rfl) h.it
 ·cases hn; exact bT hs (by kernel_rfl) (by kernel_rfl) h.it
 ·cases hn
def uP : List Sh := [.agg [.int .i64, .int .i64, .int .i64, .int .i64, .int .i64, .int .i64, .bool], .lf (.int .i64)]
def NO (x : aI uP) (Q : List (Bool × List VV) -> Prop) : Prop := Y4 (x.1.1, (x.1.2.1, (x.1.2.2.1, (x.1.2.2.2.1, (x.1.2.2.2.2.1, (x.1.2.2.2.2.2.1, x.1.2.2.2.2.2.2.1)))))) x.2.1 (fun (r : Bool) => Q (aH [(false, .bool)] [.n] (r, ())))
theorem aE2 (x : aI uP) (Q : List (Bool × List VV) -> Prop) (h : NO x Q) : aD Try.prog 74 (aM uP x) Q :=
 aC [.n] (G := SG) (ct := IP) (en := VI) (fn := Try.f74) (cd := aAr) (rt := [(false, .bool)]) Try.func74 (by kernel_rfl) (by kernel_rfl) (Nat.le_of_ble_eq_true rfl) aEf HJ (aG rfl) h.it (by kernel_rfl)
noncomputable def UF : FuncId -> List VV -> (List (Bool × List VV) -> Prop) -> Prop := fun f args Q => if f = 74 then unA uP args (fun x => NO x Q) else F1 f args Q
theorem S1 : ∀ f args Q, UF f args Q -> aD Try.prog f args Q := aE HJ (f0 := 74) uP (fun x Q => NO x Q) aE2
noncomputable def aCp : Cfg := ⟨Try.prog, tt, UF, fun _ _ _ => False, none, false⟩
def uA (x0 : List (Int × Int × Int × Int × Int × Int × Bool)) (x1 : Int) (K0 : Unit -> Prop) (K1 : Unit -> Prop) (s : Int) (nx : Int -> Prop) : Prop :=
 if (decide (s < x1)) = true then ck ((0 : Int) <= s /\ s < (x0.length : Int)) (Y4 ((x0.getD ((s).toNat) (0, (0, (0, (0, (0, (0, false))))))).1, (((x0.getD ((s).toNat) (0, (0, (0, (0, (0, (0, false))))))).2).1, ((((x0.getD ((s).toNat) (0, (0, (0, (0, (0, (0, false))))))).2).2).1, (((((x0.getD ((s).toNat) (0, (0, (0, (0, (0, (0, false))))))).2).2).2).1, ((((((x0.getD ((s).toNat) (0, (0, (0, (0, (0, (0, false))))))).2).2).2).2).1, (((((((x0.getD ((s).toNat) (0, (0, (0, (0, (0, (0, false))))))).2).2).2).2).2).1, ((((((x0.getD ((s).toNat) (0, (0, (0, (0, (0, (0, false))))))).2).2).2).2).2).2)))))) s (fun (r5 : Bool) => if (!r5) = true then K1 () else nx (IntKind.i64.wrap (s + 1)))) else K0 ()
structure XV (x0 : List (Int × Int × Int × Int × Int × Int × Bool)) (x1 : Int) (K0 : Unit -> Prop) (K1 : Unit -> Prop) (s : Int) : Prop where
 it : Go.Mach.Loop (uA x0 x1 K0 K1) s
def aIK (a0 : (Int × Int × Int) × List (Int × Int × Int × Int × Int × Int × Bool)) (Q : Bool -> Prop) : Prop :=
 JY (a0.1.1, (a0.1.2.1, a0.1.2.2)) (fun (r1 : Bool) => jn (fun (v2 : Bool) => if v2 = true then Q false else XV a0.2 (a0.2.length : Int) (fun (y6 : Unit) => Q true) (fun (y7 : Unit) => Q false) 0) (fun J3 => if (!r1) = true then J3 true else mU (a0.2.length : Int) 1 12 (fun (r4 : Bool) => J3 (!r4))))
structure YS (a0 : (Int × Int × Int) × List (Int × Int × Int × Int × Int × Int × Bool)) (Q : Bool -> Prop) : Prop where
 it : aIK a0 Q
noncomputable def aGS : Ent := ⟨[17, 18, 19], [.lf (.fz false (.pair (.int .i64) (.pair (.int .i64) (.pair (.int .i64) (.pair (.int .i64) (.pair (.int .i64) (.pair (.int .i64) .bool))))))), .lf (.int .i64), .lf (.int .i64)], [], fun x k => XV x.1.1 x.1.2.1 (fun (y8 : Unit) => k (.exit 0) ⟨[], []⟩) (fun (y9 : Unit) => k .ret ⟨[(2, .pl (.bool false))], []⟩) x.1.2.2.1⟩
noncomputable def KG : Tab := fun n => match n with | 58 => some aGS | _ => none
noncomputable def WF : Go.Mach.Ends := fun n => match n with | 2 => some ([], [1]) | 12 => some ([], [1, 15]) | 27 => some ([], [1]) | 28 => some ([], [17, 18, 19]) | 30 => some ([], [2]) | 31 => some ([], [2]) | 52 => some ([], [2]) | 53 => some ([], [2]) | 58 => some ([], [17, 18, 19]) | 232 => some ([], [17, 18, 19, 20]) | 932 => some ([], [17, 18, 19]) | 933 => some ([], []) | 935 => some ([], [17, 18, 19]) | 3736 => some ([], [3, 4, 17, 18, 19]) | 7474 => some ([], [17, 18, 19, 27]) | 14951 => some ([], [17, 18, 19]) | 29900 => some ([], [2]) | 29901 => some ([], [2]) | _ => none
noncomputable def aAp : Code := Try.f50.body.getD .skip
theorem aEq : aL aCp KG WF aAp := by
 intro n E hn f c hs x k h
 unfold KG at hn
 split at hn
 ·cases hn; exact aK hs (by kernel_rfl) (fun y : Int => ⟨[(17, .fz false (.pair (.int .i64) (.pair (.int .i64) (.pair (.int .i64) (.pair (.int .i64) (.pair (.int .i64) (.pair (.int .i64) .bool)))))) x.1.1), (18, .pl (.int .i64 x.1.2.1)), (19, .pl (.int .i64 y))], []⟩) x.1.2.2.1 (by kernel_rfl) (fun y X => by kernel_rfl) h.it
 ·cases hn
def uG : List Sh := [.agg [.int .i64, .int .i64, .int .i64, .fz false (.pair (.int .i64) (.pair (.int .i64) (.pair (.int .i64) (.pair (.int .i64) (.pair (.int .i64) (.pair (.int .i64) .bool))))))]]
def N7 (x : aI uG) (Q : List (Bool × List VV) -> Prop) : Prop := YS ((x.1.1, (x.1.2.1, x.1.2.2.1)), x.1.2.2.2.1) (fun (r : Bool) => Q (aH [(false, .bool)] [.n] (r, ())))
theorem aEm (x : aI uG) (Q : List (Bool × List VV) -> Prop) (h : N7 x Q) : aD Try.prog 50 (aM uG x) Q :=
 aC [.n] (G := aCp) (ct := KG) (en := WF) (fn := Try.f50) (cd := aAp) (rt := [(false, .bool)]) Try.func50 (by kernel_rfl) (by kernel_rfl) (Nat.le_of_ble_eq_true rfl) aEq S1 (aG rfl) h.it (by kernel_rfl)
noncomputable def TK : FuncId -> List VV -> (List (Bool × List VV) -> Prop) -> Prop := fun f args Q => if f = 50 then unA uG args (fun x => N7 x Q) else UF f args Q
theorem Q9 : ∀ f args Q, TK f args Q -> aD Try.prog f args Q := aE S1 (f0 := 50) uG (fun x Q => N7 x Q) aEm
noncomputable def aC0 : Cfg := ⟨Try.prog, tt, TK, fun _ _ _ => False, none, false⟩
def mF (x1 : List Int) (x2 : Int) (K0 : Int -> Prop) (s : Int × Int) (nx : (Int × Int) -> Prop) : Prop :=
 if (decide (s.2 < x2)) = true then ck ((0 : Int) <= s.2 /\ s.2 < (x1.length : Int)) (nx (IntKind.i64.wrap (s.1 * (x1.getD ((s.2).toNat) 0)), IntKind.i64.wrap (s.2 + 1))) else K0 s.1
structure IF (x1 : List Int) (x2 : Int) (K0 : Int -> Prop) (s : Int × Int) : Prop where
 it : Go.Mach.Loop (mF x1 x2 K0) s
def aB5 (a0 : List Int) (Q : Int -> Prop) : Prop :=
 IF a0 (a0.length : Int) (fun (y1 : Int) => Q y1) (1, 0)
structure mW (a0 : List Int) (Q : Int -> Prop) : Prop where
 it : aB5 a0 Q
noncomputable def YM : Ent := ⟨[3, 6, 7, 8], [.lf (.int .i64), .lf (.fz false (.int .i64)), .lf (.int .i64), .lf (.int .i64)], [], fun x k => IF x.1.2.1 x.1.2.2.1 (fun (y2 : Int) => k (.exit 0) ⟨[(3, .pl (.int .i64 y2))], []⟩) (x.1.1, x.1.2.2.2.1)⟩
noncomputable def xZ : Tab := fun n => match n with | 58 => some YM | _ => none
noncomputable def ID : Go.Mach.Ends := fun n => match n with | 2 => some ([], [0]) | 6 => some ([], [0, 3]) | 28 => some ([], [3, 6, 7, 8]) | 30 => some ([], [2]) | 31 => some ([], [2]) | 58 => some ([], [3, 6, 7, 8]) | 232 => some ([], [3, 6, 7, 8, 9]) | 932 => some ([], [3, 6, 7, 8]) | 933 => some ([], [3]) | 935 => some ([], [3, 6, 7, 8]) | 3736 => some ([], [3, 5, 6, 7, 8]) | 3737 => some ([], [3, 6, 7, 8]) | _ => none
noncomputable def MD : Code := Try.f51.body.getD .skip
theorem XN : aL aC0 xZ ID MD := by
 intro n E hn f c hs x k h
 unfold xZ at hn
 split at hn
 ·cases hn; exact aK hs (by kernel_rfl) (fun y : Int × Int => ⟨[(3, .pl (.int .i64 y.1)), (6, .fz false (.int .i64) x.1.2.1), (7, .pl (.int .i64 x.1.2.2.1)), (8, .pl (.int .i64 y.2))], []⟩) (x.1.1, x.1.2.2.2.1) (by kernel_rfl) (fun y X => by kernel_rfl) h.it
 ·cases hn
def kH : List Sh := [.lf (.fz false (.int .i64))]
def AW (x : aI kH) (Q : List (Bool × List VV) -> Prop) : Prop := mW x.1 (fun (r : Int) => Q (aH [(false, (.int .i64))] [.n] (r, ())))
theorem X5 (x : aI kH) (Q : List (Bool × List VV) -> Prop) (h : AW x Q) : aD Try.prog 51 (aM kH x) Q :=
 aC [.n] (G := aC0) (ct := xZ) (en := ID) (fn := Try.f51) (cd := MD) (rt := [(false, (.int .i64))]) Try.func51 (by kernel_rfl) (by kernel_rfl) (Nat.le_of_ble_eq_true rfl) XN Q9 (aG rfl) h.it (by kernel_rfl)
noncomputable def CI : FuncId -> List VV -> (List (Bool × List VV) -> Prop) -> Prop := fun f args Q => if f = 51 then unA kH args (fun x => AW x Q) else TK f args Q
theorem EM : ∀ f args Q, CI f args Q -> aD Try.prog f args Q := aE Q9 (f0 := 51) kH (fun x Q => AW x Q) X5
noncomputable def O9 : Cfg := ⟨Try.prog, tt, CI, fun _ _ _ => False, none, false⟩
def PI (a0 : List Int) (a1 : Int) (a2 : Int × Int × Int × Int × Int × Int × Bool) (Q : (List Int) -> Prop) : Prop :=
 if ((a0.length : Int) != 3) = true then Q ([] : List Int) else ck ((0 : Int) <= 1 /\ 1 < (a0.length : Int)) (mX (a0.getD 1 0) a2.2.2.1 a2.2.2.2.1 a2.2.2.2.2.1 (fun (r1 : Int) => ck ((0 : Int) <= 2 /\ 2 < (a0.length : Int)) (mX (a0.getD 2 0) a2.2.2.1 a2.2.2.2.1 a2.2.2.2.2.1 (fun (r2 : Int) => if ((r1 == 0) || (r2 == 0)) = true then Q ([] : List Int) else ck ([a1, r1, r2] ≠ []) (Q [a1, r1, r2])))))
structure pK (a0 : List Int) (a1 : Int) (a2 : Int × Int × Int × Int × Int × Int × Bool) (Q : (List Int) -> Prop) : Prop where
 it : PI a0 a1 a2 Q
noncomputable def LI : Tab := fun n => none
noncomputable def L9 : Go.Mach.Ends := fun n => match n with | 2 => some ([], [0, 1, 5]) | 12 => some ([], [0, 1, 5, 11]) | 14 => some ([], [1, 7, 8]) | 27 => some ([], [0, 1, 5]) | 52 => some ([], [6]) | 53 => some ([], [6]) | 60 => some ([], [1, 7, 8, 37]) | 62 => some ([], [6]) | 63 => some ([], [6]) | 123 => some ([], [1, 7, 8]) | 244 => some ([], [6]) | 245 => some ([], [6]) | _ => none
noncomputable def OW : Code := Try.f75.body.getD .skip
theorem YZ : aL O9 LI L9 OW := by
 intro n E hn f c hs x k h
 cases hn
def mN : List Sh := [.lf (.fz false (.int .i64)), .lf (.int .i64), .agg [.int .i64, .int .i64, .int .i64, .int .i64, .int .i64, .int .i64, .bool]]
def C4 (x : aI mN) (Q : List (Bool × List VV) -> Prop) : Prop := pK x.1 x.2.1 (x.2.2.1.1, (x.2.2.1.2.1, (x.2.2.1.2.2.1, (x.2.2.1.2.2.2.1, (x.2.2.1.2.2.2.2.1, (x.2.2.1.2.2.2.2.2.1, x.2.2.1.2.2.2.2.2.2.1)))))) (fun (r : List Int) => Q (aH [(false, (.slc (.int .i64)))] [.z] (r, ())))
theorem X9 (x : aI mN) (Q : List (Bool × List VV) -> Prop) (h : C4 x Q) : aD Try.prog 75 (aM mN x) Q :=
 aC [.z] (G := O9) (ct := LI) (en := L9) (fn := Try.f75) (cd := OW) (rt := [(false, (.slc (.int .i64)))]) Try.func75 (by kernel_rfl) (by kernel_rfl) (Nat.le_of_ble_eq_true rfl) YZ EM (aG rfl) h.it (by kernel_rfl)
noncomputable def FQ : FuncId -> List VV -> (List (Bool × List VV) -> Prop) -> Prop := fun f args Q => if f = 75 then unA mN args (fun x => C4 x Q) else CI f args Q
theorem HS : ∀ f args Q, FQ f args Q -> aD Try.prog f args Q := aE EM (f0 := 75) mN (fun x Q => C4 x Q) X9
noncomputable def RS : Cfg := ⟨Try.prog, tt, FQ, fun _ _ _ => False, none, false⟩
def SQ (a0 : Int × Int × Int × Int × Int × Int × Bool) (a1 : List (List Int)) (Q : (List Int) -> Prop) : Prop :=
 ck ((0 : Int) <= (IntKind.i64.wrap ((a1.length : Int) - 1)) /\ (IntKind.i64.wrap ((a1.length : Int) - 1)) < (a1.length : Int)) (if (a0.1 == 1) = true then if (((a1.getD ((IntKind.i64.wrap ((a1.length : Int) - 1)).toNat) []).length : Int) == 1) = true then ck ([a0.2.1] ≠ []) (Q [a0.2.1]) else Q ([] : List Int) else if (a0.1 == 2) = true then pK (a1.getD ((IntKind.i64.wrap ((a1.length : Int) - 1)).toNat) []) a0.2.1 (a0.1, (a0.2.1, (a0.2.2.1, (a0.2.2.2.1, (a0.2.2.2.2.1, (a0.2.2.2.2.2.1, a0.2.2.2.2.2.2)))))) (fun (r1 : List Int) => nz r1 (Q ([] : List Int)) (ck (r1 ≠ []) (Q r1))) else if (a0.1 == 3) = true then if (a0.1 == 3) = true then ck ((0 : Int) <= 0 /\ 0 < ((a1.getD ((IntKind.i64.wrap ((a1.length : Int) - 1)).toNat) []).length : Int)) (pK (a1.getD ((IntKind.i64.wrap ((a1.length : Int) - 1)).toNat) []) ((a1.getD ((IntKind.i64.wrap ((a1.length : Int) - 1)).toNat) []).getD 0 0) (a0.1, (a0.2.1, (a0.2.2.1, (a0.2.2.2.1, (a0.2.2.2.2.1, (a0.2.2.2.2.2.1, a0.2.2.2.2.2.2)))))) (fun (r2 : List Int) => nz r2 (Q ([] : List Int)) (ck (r2 ≠ []) (Q r2)))) else if (a0.1 == 5) = true then aW (a1.getD ((IntKind.i64.wrap ((a1.length : Int) - 1)).toNat) []) (fun (r3 : List Int) => ck (r3 ≠ []) (Q r3)) else if (a0.1 == 6) = true then mW (a1.getD ((IntKind.i64.wrap ((a1.length : Int) - 1)).toNat) []) (fun (r4 : Int) => ck ([r4] ≠ []) (Q [r4])) else if (a0.1 == 7) = true then ck ((0 : Int) <= a0.2.2.2.2.2.1 /\ a0.2.2.2.2.2.1 < (a1.length : Int)) (gO (a1.getD ((a0.2.2.2.2.2.1).toNat) []) (a1.getD ((IntKind.i64.wrap ((a1.length : Int) - 1)).toNat) []) (fun (r5 : Bool) => if r5 = true then aW (a1.getD ((IntKind.i64.wrap ((a1.length : Int) - 1)).toNat) []) (fun (r6 : List Int) => ck (r6 ≠ []) (Q r6)) else Q ([] : List Int))) else Q ([] : List Int) else if (a0.1 == 4) = true then ck ((0 : Int) <= 0 /\ 0 < ((a1.getD ((IntKind.i64.wrap ((a1.length : Int) - 1)).toNat) []).length : Int)) (pK (a1.getD ((IntKind.i64.wrap ((a1.length : Int) - 1)).toNat) []) ((a1.getD ((IntKind.i64.wrap ((a1.length : Int) - 1)).toNat) []).getD 0 0) (a0.1, (a0.2.1, (a0.2.2.1, (a0.2.2.2.1, (a0.2.2.2.2.1, (a0.2.2.2.2.2.1, a0.2.2.2.2.2.2)))))) (fun (r7 : List Int) => nz r7 (Q ([] : List Int)) (ck (r7 ≠ []) (Q r7)))) else if (a0.1 == 5) = true then aW (a1.getD ((IntKind.i64.wrap ((a1.length : Int) - 1)).toNat) []) (fun (r8 : List Int) => ck (r8 ≠ []) (Q r8)) else if (a0.1 == 6) = true then mW (a1.getD ((IntKind.i64.wrap ((a1.length : Int) - 1)).toNat) []) (fun (r9 : Int) => ck ([r9] ≠ []) (Q [r9])) else if (a0.1 == 7) = true then ck ((0 : Int) <= a0.2.2.2.2.2.1 /\ a0.2.2.2.2.2.1 < (a1.length : Int)) (gO (a1.getD ((a0.2.2.2.2.2.1).toNat) []) (a1.getD ((IntKind.i64.wrap ((a1.length : Int) - 1)).toNat) []) (fun (r10 : Bool) => if r10 = true then aW (a1.getD ((IntKind.i64.wrap ((a1.length : Int) - 1)).toNat) []) (fun (r11 : List Int) => ck (r11 ≠ []) (Q r11)) else Q ([] : List Int))) else Q ([] : List Int))
structure N9 (a0 : Int × Int × Int × Int × Int × Int × Bool) (a1 : List (List Int)) (Q : (List Int) -> Prop) : Prop where
 it : SQ a0 a1 Q
noncomputable def O8 : Tab := fun n => none
noncomputable def NR : Go.Mach.Ends := fun n => match n with | 2 => some ([], [1, 2]) | 6 => some ([], [1, 2, 5]) | 28 => some ([], [1, 2, 5, 13]) | 30 => some ([], [4]) | 31 => some ([], [4]) | 116 => some ([], [1, 2, 5, 13, 14]) | 468 => some ([], [2, 18]) | 470 => some ([], [1, 2, 5, 13, 22]) | 939 => some ([], []) | 1876 => some ([], [4]) | 1877 => some ([], [4]) | 1884 => some ([], [4]) | 1885 => some ([], [4]) | 3772 => some ([], [1, 2, 5, 13, 29]) | 7546 => some ([], [1, 2, 5, 13, 29]) | 7547 => some ([], [1, 2, 5, 13, 29]) | 7548 => some ([], [4]) | 7549 => some ([], [4]) | 7550 => some ([], [1, 2, 5, 13, 38]) | 30204 => some ([], [4]) | 30205 => some ([], [4]) | 30206 => some ([], [1, 2, 5, 13, 42]) | 120828 => some ([], [4]) | 120829 => some ([], [4]) | 120830 => some ([], [1, 2, 5, 47]) | 241663 => some ([], []) | 483324 => some ([], [5, 55]) | 966651 => some ([], []) | 1933300 => some ([], [4]) | 1933301 => some ([], [4]) | _ => none
noncomputable def SU : Code := Try.f52.body.getD .skip
theorem aB0 : aL RS O8 NR SU := by
 intro n E hn f c hs x k h
 cases hn
def oY : List Sh := [.agg [.int .i64, .int .i64, .int .i64, .int .i64, .int .i64, .int .i64, .bool], .lf (.fz false (.slc (.int .i64)))]
def E7 (x : aI oY) (Q : List (Bool × List VV) -> Prop) : Prop := N9 (x.1.1, (x.1.2.1, (x.1.2.2.1, (x.1.2.2.2.1, (x.1.2.2.2.2.1, (x.1.2.2.2.2.2.1, x.1.2.2.2.2.2.2.1)))))) x.2.1 (fun (r : List Int) => Q (aH [(false, (.slc (.int .i64)))] [.z] (r, ())))
theorem aB9 (x : aI oY) (Q : List (Bool × List VV) -> Prop) (h : E7 x Q) : aD Try.prog 52 (aM oY x) Q :=
 aC [.z] (G := RS) (ct := O8) (en := NR) (fn := Try.f52) (cd := SU) (rt := [(false, (.slc (.int .i64)))]) Try.func52 (by kernel_rfl) (by kernel_rfl) (Nat.le_of_ble_eq_true rfl) aB0 HS (aG rfl) h.it (by kernel_rfl)
noncomputable def KX : FuncId -> List VV -> (List (Bool × List VV) -> Prop) -> Prop := fun f args Q => if f = 52 then unA oY args (fun x => E7 x Q) else FQ f args Q
theorem LZ : ∀ f args Q, KX f args Q -> aD Try.prog f args Q := aE HS (f0 := 52) oY (fun x Q => E7 x Q) aB9
noncomputable def X1 : Cfg := ⟨Try.prog, tt, KX, fun _ _ _ => False, none, false⟩
def nN (x0 : List (Int × Int × Int × Int × Int × Int × Bool)) (x1 : Int) (K0 : (List (List Int)) -> Prop) (K1 : (Int × Int) -> Prop) (s : Int × List (List Int)) (nx : (Int × List (List Int)) -> Prop) : Prop :=
 if (decide (s.1 < x1)) = true then ck ((0 : Int) <= s.1 /\ s.1 < (x0.length : Int)) (N9 ((x0.getD ((s.1).toNat) (0, (0, (0, (0, (0, (0, false))))))).1, (((x0.getD ((s.1).toNat) (0, (0, (0, (0, (0, (0, false))))))).2).1, ((((x0.getD ((s.1).toNat) (0, (0, (0, (0, (0, (0, false))))))).2).2).1, (((((x0.getD ((s.1).toNat) (0, (0, (0, (0, (0, (0, false))))))).2).2).2).1, ((((((x0.getD ((s.1).toNat) (0, (0, (0, (0, (0, (0, false))))))).2).2).2).2).1, (((((((x0.getD ((s.1).toNat) (0, (0, (0, (0, (0, (0, false))))))).2).2).2).2).2).1, ((((((x0.getD ((s.1).toNat) (0, (0, (0, (0, (0, (0, false))))))).2).2).2).2).2).2)))))) s.2 (fun (r3 : List Int) => nz r3 (K1 (IntKind.i64.wrap (s.1 + 1), 2)) (nq r3 (K1 (IntKind.i64.wrap (s.1 + 1), 2)) (mW r3 (fun (r4 : Int) => if (decide (8192 < r4)) = true then K1 (IntKind.i64.wrap (s.1 + 1), 1) else ck ((s.2.length + [r3].length) * 24 <= 140737488355328) (nx (IntKind.i64.wrap (s.1 + 1), s.2 ++ [r3]))))))) else K0 s.2
structure LR (x0 : List (Int × Int × Int × Int × Int × Int × Bool)) (x1 : Int) (K0 : (List (List Int)) -> Prop) (K1 : (Int × Int) -> Prop) (s : Int × List (List Int)) : Prop where
 it : Go.Mach.Loop (nN x0 x1 K0 K1) s
def aCl (a0 : (Int × Int × Int) × List (Int × Int × Int × Int × Int × Int × Bool)) (Q : ((List (List Int)) × Int × Int) -> Prop) : Prop :=
 YS ((a0.1.1, (a0.1.2.1, a0.1.2.2)), a0.2) (fun (r1 : Bool) => if (!r1) = true then Q (([] : List (List Int)), 0, 1) else ck ((0 : Int) <= 0 /\ 0 < ([([a0.1.1, a0.1.2.1, a0.1.2.2] : List Int)].length : Int)) (mW ([a0.1.1, a0.1.2.1, a0.1.2.2] : List Int) (fun (r2 : Int) => if (decide (8192 < r2)) = true then Q (([] : List (List Int)), 0, 1) else LR a0.2 (a0.2.length : Int) (fun (y5 : List (List Int)) => Q (y5, 0, 0)) (fun (y6 : Int × Int) => Q (([] : List (List Int)), y6.1, y6.2)) (0, [([a0.1.1, a0.1.2.1, a0.1.2.2] : List Int)]))))
structure BV (a0 : (Int × Int × Int) × List (Int × Int × Int × Int × Int × Int × Bool)) (Q : ((List (List Int)) × Int × Int) -> Prop) : Prop where
 it : aCl a0 Q
noncomputable def aB1 : Ent := ⟨[5, 21, 22, 23], [.lf (.cst (.own 0)), .lf (.fz false (.pair (.int .i64) (.pair (.int .i64) (.pair (.int .i64) (.pair (.int .i64) (.pair (.int .i64) (.pair (.int .i64) .bool))))))), .lf (.int .i64), .lf (.int .i64)], [.lst true (.slc (.int .i64)) false], fun x k => LR x.1.2.1 x.1.2.2.1 (fun (y7 : List (List Int)) => k (.exit 0) ⟨[(5, .own 0)], [.lst true (.slc (.int .i64)) y7 false]⟩) (fun (y8 : Int × Int) => k .ret ⟨[(2, .pl (.slice none 0 0)), (3, .pl (.int .i64 y8.1)), (4, .pl (.int .i64 y8.2))], []⟩) (x.1.2.2.2.1, x.2.1)⟩
noncomputable def AM : Tab := fun n => match n with | 250 => some aB1 | _ => none
noncomputable def LY : Go.Mach.Ends := fun n => match n with | 2 => some ([], [1]) | 12 => some ([], [1, 11]) | 14 => some ([], [1, 5]) | 27 => some ([], [1]) | 52 => some ([], [2, 3, 4]) | 53 => some ([], [2, 3, 4]) | 60 => some ([], [1, 5, 19]) | 123 => some ([], [1, 5]) | 124 => some ([], [5, 21, 22, 23]) | 126 => some ([], [2, 3, 4]) | 127 => some ([], [2, 3, 4]) | 244 => some ([], [2, 3, 4]) | 245 => some ([], [2, 3, 4]) | 250 => some ([], [5, 21, 22, 23]) | 1000 => some ([], [5, 21, 22, 23, 24]) | 4004 => some ([], [5, 21, 22, 23]) | 4005 => some ([], [5]) | 4007 => some ([], [5, 21, 22, 23]) | 16024 => some ([], [5, 6, 7, 21, 22, 23]) | 32050 => some ([], [5, 6, 8, 21, 22, 23]) | 64103 => some ([], [5, 21, 22, 23]) | 256408 => some ([], [5, 6, 8, 21, 22, 23, 31]) | 1025636 => some ([], [2, 3, 4]) | 1025637 => some ([], [2, 3, 4]) | 1025638 => some ([], [5, 6, 8, 21, 22, 23, 36]) | 2051279 => some ([], [5, 8, 21, 22, 23]) | 4102556 => some ([], [2, 3, 4]) | 4102557 => some ([], [2, 3, 4]) | _ => none
noncomputable def NV : Code := Try.f29.body.getD .skip
theorem YX : aL X1 AM LY NV := by
 intro n E hn f c hs x k h
 unfold AM at hn
 split at hn
 ·cases hn; exact aK hs (by kernel_rfl) (fun y : Int × List (List Int) => ⟨[(5, .own 0), (21, .fz false (.pair (.int .i64) (.pair (.int .i64) (.pair (.int .i64) (.pair (.int .i64) (.pair (.int .i64) (.pair (.int .i64) .bool)))))) x.1.2.1), (22, .pl (.int .i64 x.1.2.2.1)), (23, .pl (.int .i64 y.1))], [.lst true (.slc (.int .i64)) y.2 false]⟩) (x.1.2.2.2.1, x.2.1) (by kernel_rfl) (fun y X => by kernel_rfl) h.it
 ·cases hn
def mQ : List Sh := [.agg [.int .i64, .int .i64, .int .i64, .fz false (.pair (.int .i64) (.pair (.int .i64) (.pair (.int .i64) (.pair (.int .i64) (.pair (.int .i64) (.pair (.int .i64) .bool))))))]]
def CY (x : aI mQ) (Q : List (Bool × List VV) -> Prop) : Prop := BV ((x.1.1, (x.1.2.1, x.1.2.2.1)), x.1.2.2.2.1) (fun (r : (List (List Int)) × Int × Int) => Q (aH [(false, (.slc (.slc (.int .i64)))), (false, (.int .i64)), (false, (.int .i64))] [.n, .n, .n] (r.1, (r.2.1, (r.2.2, ())))))
theorem ZD (x : aI mQ) (Q : List (Bool × List VV) -> Prop) (h : CY x Q) : aD Try.prog 29 (aM mQ x) Q :=
 aC [.n, .n, .n] (G := X1) (ct := AM) (en := LY) (fn := Try.f29) (cd := NV) (rt := [(false, (.slc (.slc (.int .i64)))), (false, (.int .i64)), (false, (.int .i64))]) Try.func29 (by kernel_rfl) (by kernel_rfl) (Nat.le_of_ble_eq_true rfl) YX LZ (aG rfl) h.it (by kernel_rfl)
noncomputable def F3 : FuncId -> List VV -> (List (Bool × List VV) -> Prop) -> Prop := fun f args Q => if f = 29 then unA mQ args (fun x => CY x Q) else KX f args Q
theorem GP : ∀ f args Q, F3 f args Q -> aD Try.prog f args Q := aE LZ (f0 := 29) mQ (fun x Q => CY x Q) ZD
noncomputable def SH : Cfg := ⟨Try.prog, tt, F3, fun _ _ _ => False, none, false⟩
def aA2 (a0 : Int × Int × Int × Int × Int × Int × Bool) (a1 : List Int) (Q : ((List Int) × Int) -> Prop) : Prop :=
 if (a0.1 == 1) = true then ck ((0 : Int) <= 0 /\ 0 < (a1.length : Int)) (ck ([a0.2.1, a1.getD 0 0] ≠ []) (Q ([a0.2.1, a1.getD 0 0], a0.2.1))) else if (a0.1 == 2) = true then ck ((0 : Int) <= 0 /\ 0 < (a1.length : Int)) (ck ([a0.2.1, a1.getD 0 0, a0.2.2.1, a0.2.2.1] ≠ []) (Q ([a0.2.1, a1.getD 0 0, a0.2.2.1, a0.2.2.1], a0.2.1))) else Q (([] : List Int), 0)
structure YO (a0 : Int × Int × Int × Int × Int × Int × Bool) (a1 : List Int) (Q : ((List Int) × Int) -> Prop) : Prop where
 it : aA2 a0 a1 Q
noncomputable def V9 : Tab := fun n => none
noncomputable def XA : Go.Mach.Ends := fun n => match n with | 2 => some ([], [1, 2]) | 12 => some ([], [1, 2, 7]) | 14 => some ([], [4, 5]) | 15 => some ([], [4, 5]) | 52 => some ([], [1, 2, 7, 8]) | 212 => some ([], [4, 5]) | 213 => some ([], [4, 5]) | 214 => some ([], [1, 2, 18]) | 431 => some ([], []) | 860 => some ([], [4, 5]) | 861 => some ([], [4, 5]) | _ => none
noncomputable def aBA : Code := Try.f53.body.getD .skip
theorem aFE : aL SH V9 XA aBA := by
 intro n E hn f c hs x k h
 cases hn
def tS : List Sh := [.agg [.int .i64, .int .i64, .int .i64, .int .i64, .int .i64, .int .i64, .bool], .lf (.fz false (.int .i64))]
def PT (x : aI tS) (Q : List (Bool × List VV) -> Prop) : Prop := YO (x.1.1, (x.1.2.1, (x.1.2.2.1, (x.1.2.2.2.1, (x.1.2.2.2.2.1, (x.1.2.2.2.2.2.1, x.1.2.2.2.2.2.2.1)))))) x.2.1 (fun (r : (List Int) × Int) => Q (aH [(false, (.slc (.int .i64))), (false, (.int .i64))] [.z, .n] (r.1, (r.2, ()))))
theorem aEp (x : aI tS) (Q : List (Bool × List VV) -> Prop) (h : PT x Q) : aD Try.prog 53 (aM tS x) Q :=
 aC [.z, .n] (G := SH) (ct := V9) (en := XA) (fn := Try.f53) (cd := aBA) (rt := [(false, (.slc (.int .i64))), (false, (.int .i64))]) Try.func53 (by kernel_rfl) (by kernel_rfl) (Nat.le_of_ble_eq_true rfl) aFE GP (aG rfl) h.it (by kernel_rfl)
noncomputable def TX : FuncId -> List VV -> (List (Bool × List VV) -> Prop) -> Prop := fun f args Q => if f = 53 then unA tS args (fun x => PT x Q) else F3 f args Q
theorem S0 : ∀ f args Q, TX f args Q -> aD Try.prog f args Q := aE GP (f0 := 53) tS (fun x Q => PT x Q) aEp
noncomputable def aCg : Cfg := ⟨Try.prog, tt, TX, fun _ _ _ => False, none, false⟩
def aEu (a0 : (Int × Int × Int) × List (Int × Int × Int × Int × Int × Int × Bool)) (a1 : Int) (Q : ((List Int) × Int) -> Prop) : Prop :=
 BV ((a0.1.1, (a0.1.2.1, a0.1.2.2)), a0.2) (fun (r1 : (List (List Int)) × Int × Int) => if (((r1.2.2 != 0) || (decide (a1 < 1))) || (decide ((a0.2.length : Int) < a1))) = true then Q (([] : List Int), 0) else ck ((0 : Int) <= (IntKind.i64.wrap (a1 - 1)) /\ (IntKind.i64.wrap (a1 - 1)) < (a0.2.length : Int)) (ck ((0 : Int) <= (IntKind.i64.wrap (a1 - 1)) /\ (IntKind.i64.wrap (a1 - 1)) < (r1.1.length : Int)) (YO ((a0.2.getD ((IntKind.i64.wrap (a1 - 1)).toNat) (0, (0, (0, (0, (0, (0, false))))))).1, (((a0.2.getD ((IntKind.i64.wrap (a1 - 1)).toNat) (0, (0, (0, (0, (0, (0, false))))))).2).1, ((((a0.2.getD ((IntKind.i64.wrap (a1 - 1)).toNat) (0, (0, (0, (0, (0, (0, false))))))).2).2).1, (((((a0.2.getD ((IntKind.i64.wrap (a1 - 1)).toNat) (0, (0, (0, (0, (0, (0, false))))))).2).2).2).1, ((((((a0.2.getD ((IntKind.i64.wrap (a1 - 1)).toNat) (0, (0, (0, (0, (0, (0, false))))))).2).2).2).2).1, (((((((a0.2.getD ((IntKind.i64.wrap (a1 - 1)).toNat) (0, (0, (0, (0, (0, (0, false))))))).2).2).2).2).2).1, ((((((a0.2.getD ((IntKind.i64.wrap (a1 - 1)).toNat) (0, (0, (0, (0, (0, (0, false))))))).2).2).2).2).2).2)))))) (r1.1.getD ((IntKind.i64.wrap (a1 - 1)).toNat) []) (fun (r2 : (List Int) × Int) => nz r2.1 (kI ([] : List Int) (fun (r3 : Bool) => if (!r3) = true then Q (([] : List Int), 0) else Q (([] : List Int), r2.2))) (kI r2.1 (fun (r4 : Bool) => if (!r4) = true then Q (([] : List Int), 0) else ck (r2.1 ≠ []) (Q (r2.1, r2.2))))))))
structure NJ (a0 : (Int × Int × Int) × List (Int × Int × Int × Int × Int × Int × Bool)) (a1 : Int) (Q : ((List Int) × Int) -> Prop) : Prop where
 it : aEu a0 a1 Q
noncomputable def PR : Tab := fun n => none
noncomputable def OU : Go.Mach.Ends := fun n => match n with | 2 => some ([], [1, 2]) | 6 => some ([], [1, 2, 6, 8]) | 28 => some ([], [1, 2, 6, 29]) | 30 => some ([], [9, 10]) | 59 => some ([], [1, 2, 6]) | 116 => some ([], [4, 5]) | 117 => some ([], [4, 5]) | 124 => some ([], [9, 10, 47]) | 126 => some ([], [4, 5]) | 127 => some ([], [4, 5]) | 251 => some ([], [9, 10]) | 500 => some ([], [4, 5]) | 501 => some ([], [4, 5]) | _ => none
noncomputable def R0 : Code := Try.f30.body.getD .skip
theorem aCA : aL aCg PR OU R0 := by
 intro n E hn f c hs x k h
 cases hn
def o5 : List Sh := [.agg [.int .i64, .int .i64, .int .i64, .fz false (.pair (.int .i64) (.pair (.int .i64) (.pair (.int .i64) (.pair (.int .i64) (.pair (.int .i64) (.pair (.int .i64) .bool))))))], .lf (.int .i64)]
def FB (x : aI o5) (Q : List (Bool × List VV) -> Prop) : Prop := NJ ((x.1.1, (x.1.2.1, x.1.2.2.1)), x.1.2.2.2.1) x.2.1 (fun (r : (List Int) × Int) => Q (aH [(false, (.slc (.int .i64))), (false, (.int .i64))] [.z, .n] (r.1, (r.2, ()))))
theorem aBh (x : aI o5) (Q : List (Bool × List VV) -> Prop) (h : FB x Q) : aD Try.prog 30 (aM o5 x) Q :=
 aC [.z, .n] (G := aCg) (ct := PR) (en := OU) (fn := Try.f30) (cd := R0) (rt := [(false, (.slc (.int .i64))), (false, (.int .i64))]) Try.func30 (by kernel_rfl) (by kernel_rfl) (Nat.le_of_ble_eq_true rfl) aCA S0 (aG rfl) h.it (by kernel_rfl)
noncomputable def IV : FuncId -> List VV -> (List (Bool × List VV) -> Prop) -> Prop := fun f args Q => if f = 30 then unA o5 args (fun x => FB x Q) else TX f args Q
theorem MR : ∀ f args Q, IV f args Q -> aD Try.prog f args Q := aE S0 (f0 := 30) o5 (fun x Q => FB x Q) aBh
noncomputable def VX : Cfg := ⟨Try.prog, tt, IV, fun _ _ _ => False, none, false⟩
def aFD (a0 : ((List Int) × Int × List Int) × (List Int) × (List Int) × Int × List Int) (Q : Bool -> Prop) : Prop :=
 Q ((((IntKind.i64.wrap ((IntKind.i64.wrap ((IntKind.i64.wrap ((IntKind.i64.wrap ((a0.1.1.length : Int) + (a0.1.2.2.length : Int))) + (a0.2.1.length : Int))) + (a0.2.2.1.length : Int))) + (a0.2.2.2.2.length : Int))) == 0) && (a0.1.2.1 == 0)) && (a0.2.2.2.1 == 0))
structure oV (a0 : ((List Int) × Int × List Int) × (List Int) × (List Int) × Int × List Int) (Q : Bool -> Prop) : Prop where
 it : aFD a0 Q
noncomputable def OZ : Tab := fun n => none
noncomputable def QD : Go.Mach.Ends := fun n => match n with | 2 => some ([], [1]) | 6 => some ([], [2]) | 7 => some ([], [2]) | _ => none
noncomputable def ST : Code := Try.f31.body.getD .skip
theorem aBr : aL VX OZ QD ST := by
 intro n E hn f c hs x k h
 cases hn
def oW : List Sh := [.agg [.fz false (.int .i64), .int .i64, .fz false (.int .i8), .fz false (.int .i32), .fz false (.int .i64), .int .i64, .fz false (.int .i8)]]
def FR (x : aI oW) (Q : List (Bool × List VV) -> Prop) : Prop := oV ((x.1.1, (x.1.2.1, x.1.2.2.1)), (x.1.2.2.2.1, (x.1.2.2.2.2.1, (x.1.2.2.2.2.2.1, x.1.2.2.2.2.2.2.1)))) (fun (r : Bool) => Q (aH [(false, .bool)] [.n] (r, ())))
theorem aBn (x : aI oW) (Q : List (Bool × List VV) -> Prop) (h : FR x Q) : aD Try.prog 31 (aM oW x) Q :=
 aC [.n] (G := VX) (ct := OZ) (en := QD) (fn := Try.f31) (cd := ST) (rt := [(false, .bool)]) Try.func31 (by kernel_rfl) (by kernel_rfl) (Nat.le_of_ble_eq_true rfl) aBr MR (aG rfl) h.it (by kernel_rfl)
noncomputable def KR : FuncId -> List VV -> (List (Bool × List VV) -> Prop) -> Prop := fun f args Q => if f = 31 then unA oW args (fun x => FR x Q) else IV f args Q
theorem L6 : ∀ f args Q, KR f args Q -> aD Try.prog f args Q := aE MR (f0 := 31) oW (fun x Q => FR x Q) aBn
noncomputable def VG : Cfg := ⟨Try.prog, tt, KR, fun _ _ _ => False, none, false⟩
def aDG (a0 : Int) (Q : Bool -> Prop) : Prop :=
 Q ((decide (a0 < (-1048576))) || (decide (1048576 < a0)))
structure JG (a0 : Int) (Q : Bool -> Prop) : Prop where
 it : aDG a0 Q
noncomputable def MA : Tab := fun n => none
noncomputable def LN : Go.Mach.Ends := fun n => match n with | 2 => some ([], [0]) | 6 => some ([], [2]) | 7 => some ([], [2]) | _ => none
noncomputable def PJ : Code := Try.f33.body.getD .skip
theorem YD : aL VG MA LN PJ := by
 intro n E hn f c hs x k h
 cases hn
def mK : List Sh := [.lf (.int .i32)]
def CO (x : aI mK) (Q : List (Bool × List VV) -> Prop) : Prop := JG x.1 (fun (r : Bool) => Q (aH [(false, .bool)] [.n] (r, ())))
theorem ZJ (x : aI mK) (Q : List (Bool × List VV) -> Prop) (h : CO x Q) : aD Try.prog 33 (aM mK x) Q :=
 aC [.n] (G := VG) (ct := MA) (en := LN) (fn := Try.f33) (cd := PJ) (rt := [(false, .bool)]) Try.func33 (by kernel_rfl) (by kernel_rfl) (Nat.le_of_ble_eq_true rfl) YD L6 (aG rfl) h.it (by kernel_rfl)
noncomputable def yL : FuncId -> List VV -> (List (Bool × List VV) -> Prop) -> Prop := fun f args Q => if f = 33 then unA mK args (fun x => CO x Q) else KR f args Q
theorem HO : ∀ f args Q, yL f args Q -> aD Try.prog f args Q := aE L6 (f0 := 33) mK (fun x Q => CO x Q) ZJ
noncomputable def SJ : Cfg := ⟨Try.prog, tt, yL, fun _ _ _ => False, none, false⟩
def aU (x0 : List Int) (x1 : Int) (K0 : Unit -> Prop) (K1 : Int -> Prop) (s : Int) (nx : Int -> Prop) : Prop :=
 if (decide (s < x1)) = true then ck ((0 : Int) <= s /\ s < (x0.length : Int)) (JG (x0.getD ((s).toNat) 0) (fun (r1 : Bool) => if r1 = true then K1 s else nx (IntKind.i64.wrap (s + 1)))) else K0 ()
structure dH (x0 : List Int) (x1 : Int) (K0 : Unit -> Prop) (K1 : Int -> Prop) (s : Int) : Prop where
 it : Go.Mach.Loop (aU x0 x1 K0 K1) s
def kN (a0 : List Int) (Q : Int -> Prop) : Prop :=
 dH a0 (a0.length : Int) (fun (y2 : Unit) => Q (-1)) (fun (y3 : Int) => Q y3) 0
structure eL (a0 : List Int) (Q : Int -> Prop) : Prop where
 it : kN a0 Q
noncomputable def j8 : Ent := ⟨[0, 1, 7, 8], [.lf (.fz false (.int .i32)), .lf (.cst (.fn 33 [])), .lf (.int .i64), .lf (.int .i64)], [], fun x k => dH x.1.1 x.1.2.2.1 (fun (y4 : Unit) => k (.exit 0) ⟨[], []⟩) (fun (y5 : Int) => k .ret ⟨[(4, .pl (.int .i64 y5))], []⟩) x.1.2.2.2.1⟩
noncomputable def bL : Tab := fun n => match n with | 26 => some j8 | _ => none
noncomputable def dG : Go.Mach.Ends := fun n => match n with | 2 => some ([], [0, 1]) | 12 => some ([], [0, 1, 7, 8]) | 14 => some ([], [4]) | 15 => some ([], [4]) | 26 => some ([], [0, 1, 7, 8]) | 104 => some ([], [0, 1, 7, 8, 9]) | 420 => some ([], [0, 1, 7, 8]) | 421 => some ([], []) | 423 => some ([], [0, 1, 7, 8]) | 1688 => some ([], [0, 1, 5, 7, 8]) | 3378 => some ([], [0, 1, 5, 7, 8, 16]) | 6759 => some ([], [0, 1, 7, 8]) | 13516 => some ([], [4]) | 13517 => some ([], [4]) | _ => none
noncomputable def dP : Code := Try.f54.body.getD .skip
theorem j3 : aL SJ bL dG dP := by
 intro n E hn f c hs x k h
 unfold bL at hn
 split at hn
 ·cases hn; exact aK hs (by kernel_rfl) (fun y : Int => ⟨[(0, .fz false (.int .i32) x.1.1), (1, .fn 33 []), (7, .pl (.int .i64 x.1.2.2.1)), (8, .pl (.int .i64 y))], []⟩) x.1.2.2.2.1 (by kernel_rfl) (fun y X => by kernel_rfl) h.it
 ·cases hn
def aQ : List Sh := [.lf (.fz false (.int .i32)), .fn 33 []]
def bP (x : aI aQ) (Q : List (Bool × List VV) -> Prop) : Prop := eL x.1 (fun (r : Int) => Q (aH [(false, (.int .i64))] [.n] (r, ())))
theorem jR (x : aI aQ) (Q : List (Bool × List VV) -> Prop) (h : bP x Q) : aD Try.prog 54 (aM aQ x) Q :=
 aC [.n] (G := SJ) (ct := bL) (en := dG) (fn := Try.f54) (cd := dP) (rt := [(false, (.int .i64))]) Try.func54 (by kernel_rfl) (by kernel_rfl) (Nat.le_of_ble_eq_true rfl) j3 HO (aG rfl) h.it (by kernel_rfl)
noncomputable def bB : FuncId -> List VV -> (List (Bool × List VV) -> Prop) -> Prop := fun f args Q => if f = 54 then (if aJJ (aAO args) [33] = true then unA aQ args (fun x => bP x Q) else yL f args Q) else yL f args Q
theorem dD : ∀ f args Q, bB f args Q -> aD Try.prog f args Q := QK HO (f0 := 54) [33] aQ (fun x Q => bP x Q) jR
noncomputable def d8 : Cfg := ⟨Try.prog, tt, bB, fun _ _ _ => False, none, false⟩
def jK (a0 : List Int) (Q : Bool -> Prop) : Prop :=
 eL a0 (fun (r1 : Int) => Q (decide (0 <= r1)))
structure aR (a0 : List Int) (Q : Bool -> Prop) : Prop where
 it : jK a0 Q
noncomputable def cX : Tab := fun n => none
noncomputable def cU : Go.Mach.Ends := fun n => match n with | 2 => some ([], [0, 1]) | 6 => some ([], [4]) | 7 => some ([], [4]) | _ => none
noncomputable def c8 : Code := Try.f32.body.getD .skip
theorem i3 : aL d8 cX cU c8 := by
 intro n E hn f c hs x k h
 cases hn
def aN : List Sh := [.lf (.fz false (.int .i32)), .fn 33 []]
def bI (x : aI aN) (Q : List (Bool × List VV) -> Prop) : Prop := aR x.1 (fun (r : Bool) => Q (aH [(false, .bool)] [.n] (r, ())))
theorem i4 (x : aI aN) (Q : List (Bool × List VV) -> Prop) (h : bI x Q) : aD Try.prog 32 (aM aN x) Q :=
 aC [.n] (G := d8) (ct := cX) (en := cU) (fn := Try.f32) (cd := c8) (rt := [(false, .bool)]) Try.func32 (by kernel_rfl) (by kernel_rfl) (Nat.le_of_ble_eq_true rfl) i3 dD (aG rfl) h.it (by kernel_rfl)
noncomputable def bK : FuncId -> List VV -> (List (Bool × List VV) -> Prop) -> Prop := fun f args Q => if f = 32 then (if aJJ (aAO args) [33] = true then unA aN args (fun x => bI x Q) else bB f args Q) else bB f args Q
theorem cP : ∀ f args Q, bK f args Q -> aD Try.prog f args Q := QK dD (f0 := 32) [33] aN (fun x Q => bI x Q) i4
noncomputable def dB : Cfg := ⟨Try.prog, tt, bK, fun _ _ _ => False, none, false⟩
def aB2 (x2 : Int) (K0 : Int -> Prop) : Prop :=
 K0 (IntKind.i64.wrap (x2 + 1))
structure d9 (x2 : Int) (K0 : Int -> Prop) : Prop where
 it : aB2 x2 K0
def rU (x0 : List (((List Int) × Int × List Int) × (List Int) × (List Int) × Int × List Int)) (x1 : Int) (x3 : Int) (x4 : Int) (x5 : Int) (x6 : List (Int × Int × Int × Int × Int × Int × Bool)) (K0 : Unit -> Prop) (K1 : Unit -> Prop) (s : Int) (nx : Int -> Prop) : Prop :=
 if (decide (s < x1)) = true then ck ((0 : Int) <= s /\ s < (x0.length : Int)) (NJ ((x3, (x4, x5)), x6) (IntKind.i64.wrap (s + 1)) (fun (r2 : (List Int) × Int) => nz r2.1 (ck ((0 : Int) <= s /\ s < (x6.length : Int)) (oV ((((x0.getD ((s).toNat) (([], (0, [])), ([], ([], (0, []))))).1).1, ((((x0.getD ((s).toNat) (([], (0, [])), ([], ([], (0, []))))).1).2).1, (((x0.getD ((s).toNat) (([], (0, [])), ([], ([], (0, []))))).1).2).2)), (((x0.getD ((s).toNat) (([], (0, [])), ([], ([], (0, []))))).2).1, ((((x0.getD ((s).toNat) (([], (0, [])), ([], ([], (0, []))))).2).2).1, (((((x0.getD ((s).toNat) (([], (0, [])), ([], ([], (0, []))))).2).2).2).1, ((((x0.getD ((s).toNat) (([], (0, [])), ([], ([], (0, []))))).2).2).2).2)))) (fun (r3 : Bool) => if (((!r3) || (((x6.getD ((s).toNat) (0, (0, (0, (0, (0, (0, false))))))).1) == 1)) || (((x6.getD ((s).toNat) (0, (0, (0, (0, (0, (0, false))))))).1) == 2)) = true then K1 () else d9 s (fun (y4 : Int) => nx y4)))) (nq r2.1 (ck ((0 : Int) <= s /\ s < (x6.length : Int)) (oV ((((x0.getD ((s).toNat) (([], (0, [])), ([], ([], (0, []))))).1).1, ((((x0.getD ((s).toNat) (([], (0, [])), ([], ([], (0, []))))).1).2).1, (((x0.getD ((s).toNat) (([], (0, [])), ([], ([], (0, []))))).1).2).2)), (((x0.getD ((s).toNat) (([], (0, [])), ([], ([], (0, []))))).2).1, ((((x0.getD ((s).toNat) (([], (0, [])), ([], ([], (0, []))))).2).2).1, (((((x0.getD ((s).toNat) (([], (0, [])), ([], ([], (0, []))))).2).2).2).1, ((((x0.getD ((s).toNat) (([], (0, [])), ([], ([], (0, []))))).2).2).2).2)))) (fun (r5 : Bool) => if (((!r5) || (((x6.getD ((s).toNat) (0, (0, (0, (0, (0, (0, false))))))).1) == 1)) || (((x6.getD ((s).toNat) (0, (0, (0, (0, (0, (0, false))))))).1) == 2)) = true then K1 () else d9 s (fun (y6 : Int) => nx y6)))) (bN (((x0.getD ((s).toNat) (([], (0, [])), ([], ([], (0, []))))).1).1, ((((x0.getD ((s).toNat) (([], (0, [])), ([], ([], (0, []))))).1).2).1, (((x0.getD ((s).toNat) (([], (0, [])), ([], ([], (0, []))))).1).2).2)) (fun (r7 : Bool) => jn (fun (v8 : Bool) => jn (fun (v11 : Bool) => jn (fun (v14 : Bool) => jn (fun (v17 : Bool) => if v17 = true then K1 () else d9 s (fun (y20 : Int) => nx y20)) (fun J18 => if (v14 || (((((x0.getD ((s).toNat) (([], (0, [])), ([], ([], (0, []))))).2).1).length : Int) != (((((x0.getD ((s).toNat) (([], (0, [])), ([], ([], (0, []))))).1).2).2).length : Int))) = true then J18 true else aR (((x0.getD ((s).toNat) (([], (0, [])), ([], ([], (0, []))))).2).1) (fun (r19 : Bool) => J18 r19))) (fun J15 => if v11 = true then J15 true else jZ ((((x0.getD ((s).toNat) (([], (0, [])), ([], ([], (0, []))))).2).2).1) [r2.2] (fun (r16 : Bool) => J15 (!r16)))) (fun J12 => if v8 = true then J12 true else jZ (((x0.getD ((s).toNat) (([], (0, [])), ([], ([], (0, []))))).1).1) r2.1 (fun (r13 : Bool) => J12 (!r13)))) (fun J9 => if (!r7) = true then J9 true else bN ((((x0.getD ((s).toNat) (([], (0, [])), ([], ([], (0, []))))).2).2).1, (((((x0.getD ((s).toNat) (([], (0, [])), ([], ([], (0, []))))).2).2).2).1, ((((x0.getD ((s).toNat) (([], (0, [])), ([], ([], (0, []))))).2).2).2).2)) (fun (r10 : Bool) => J9 (!r10)))))))) else K0 ()
structure RE (x0 : List (((List Int) × Int × List Int) × (List Int) × (List Int) × Int × List Int)) (x1 : Int) (x3 : Int) (x4 : Int) (x5 : Int) (x6 : List (Int × Int × Int × Int × Int × Int × Bool)) (K0 : Unit -> Prop) (K1 : Unit -> Prop) (s : Int) : Prop where
 it : Go.Mach.Loop (rU x0 x1 x3 x4 x5 x6 K0 K1) s
def aGX (a0 : (Int × Int × Int) × List (Int × Int × Int × Int × Int × Int × Bool)) (a1 : List (((List Int) × Int × List Int) × (List Int) × (List Int) × Int × List Int)) (Q : Bool -> Prop) : Prop :=
 BV ((a0.1.1, (a0.1.2.1, a0.1.2.2)), a0.2) (fun (r1 : (List (List Int)) × Int × Int) => if ((r1.2.2 != 0) || ((a1.length : Int) != (a0.2.length : Int))) = true then Q false else RE a1 (a1.length : Int) a0.1.1 a0.1.2.1 a0.1.2.2 a0.2 (fun (y21 : Unit) => Q true) (fun (y22 : Unit) => Q false) 0)
structure US (a0 : (Int × Int × Int) × List (Int × Int × Int × Int × Int × Int × Bool)) (a1 : List (((List Int) × Int × List Int) × (List Int) × (List Int) × Int × List Int)) (Q : Bool -> Prop) : Prop where
 it : aGX a0 a1 Q
noncomputable def aFA : Ent := ⟨[2, 29, 30, 31], [.lf (.cst (.ptr 0 0)), .lf (.fz false (.pair (.pair (.slc (.int .i64)) (.pair (.int .i64) (.slc (.int .i8)))) (.pair (.slc (.int .i32)) (.pair (.slc (.int .i64)) (.pair (.int .i64) (.slc (.int .i8))))))), .lf (.int .i64), .lf (.int .i64)], [.box [.int .i64, .int .i64, .int .i64, .fz false (.pair (.int .i64) (.pair (.int .i64) (.pair (.int .i64) (.pair (.int .i64) (.pair (.int .i64) (.pair (.int .i64) .bool))))))] false], fun x k => RE x.1.2.1 x.1.2.2.1 x.2.1.1 x.2.1.2.1 x.2.1.2.2.1 x.2.1.2.2.2.1 (fun (y23 : Unit) => k (.exit 0) ⟨[], []⟩) (fun (y24 : Unit) => k .ret ⟨[(4, .pl (.bool false))], []⟩) x.1.2.2.2.1⟩
noncomputable def aEw : Ent := ⟨[2, 29, 30, 31], [.lf (.cst (.ptr 0 0)), .lf (.fz false (.pair (.pair (.slc (.int .i64)) (.pair (.int .i64) (.slc (.int .i8)))) (.pair (.slc (.int .i32)) (.pair (.slc (.int .i64)) (.pair (.int .i64) (.slc (.int .i8))))))), .lf (.int .i64), .lf (.int .i64)], [.box [.int .i64, .int .i64, .int .i64, .fz false (.pair (.int .i64) (.pair (.int .i64) (.pair (.int .i64) (.pair (.int .i64) (.pair (.int .i64) (.pair (.int .i64) .bool))))))] false], fun x k => d9 x.1.2.2.2.1 (fun (y25 : Int) => k .normal ⟨[(2, .ptr 0 0), (29, .fz false (.pair (.pair (.slc (.int .i64)) (.pair (.int .i64) (.slc (.int .i8)))) (.pair (.slc (.int .i32)) (.pair (.slc (.int .i64)) (.pair (.int .i64) (.slc (.int .i8)))))) x.1.2.1), (30, .pl (.int .i64 x.1.2.2.1)), (31, .pl (.int .i64 y25))], [.box [.pl (.int .i64 x.2.1.1), .pl (.int .i64 x.2.1.2.1), .pl (.int .i64 x.2.1.2.2.1), .fz false (.pair (.int .i64) (.pair (.int .i64) (.pair (.int .i64) (.pair (.int .i64) (.pair (.int .i64) (.pair (.int .i64) .bool)))))) x.2.1.2.2.2.1] false]⟩)⟩
noncomputable def GH : Tab := fun n => match n with | 58 => some aFA | 935 => some aEw | _ => none
noncomputable def RU : Go.Mach.Ends := fun n => match n with | 2 => some ([], [1, 2]) | 12 => some ([], [1, 2, 7]) | 26 => some ([], [1, 2, 28]) | 28 => some ([], [2, 29, 30, 31]) | 30 => some ([], [4]) | 31 => some ([], [4]) | 55 => some ([], [1, 2]) | 58 => some ([], [2, 29, 30, 31]) | 108 => some ([], [4]) | 109 => some ([], [4]) | 232 => some ([], [2, 29, 30, 31, 32]) | 932 => some ([], [2, 29, 30, 31]) | 933 => some ([], []) | 935 => some ([], [2, 29, 30, 31]) | 3736 => some ([], [2, 8, 9, 29, 30, 31]) | 7474 => some ([], [2, 8, 9, 10, 11, 29, 30, 31]) | 29900 => some ([], [2, 8, 9, 10, 11, 29, 30, 31, 43]) | 119604 => some ([], [2, 9, 12, 29, 30, 31]) | 119606 => some ([], [2, 29, 30, 31, 63]) | 239210 => some ([], [2, 29, 30, 31, 62]) | 239215 => some ([], [2, 29, 30, 31]) | 478423 => some ([], [2, 29, 30, 31]) | 478428 => some ([], [4]) | 478429 => some ([], [4]) | 956844 => some ([], [4]) | 956845 => some ([], [4]) | _ => none
noncomputable def U1 : Code := Try.f17.body.getD .skip
theorem aCz : aL dB GH RU U1 := by
 intro n E hn f c hs x k h
 unfold GH at hn
 split at hn
 ·cases hn; exact aK hs (by kernel_rfl) (fun y : Int => ⟨[(2, .ptr 0 0), (29, .fz false (.pair (.pair (.slc (.int .i64)) (.pair (.int .i64) (.slc (.int .i8)))) (.pair (.slc (.int .i32)) (.pair (.slc (.int .i64)) (.pair (.int .i64) (.slc (.int .i8)))))) x.1.2.1), (30, .pl (.int .i64 x.1.2.2.1)), (31, .pl (.int .i64 y))], [.box [.pl (.int .i64 x.2.1.1), .pl (.int .i64 x.2.1.2.1), .pl (.int .i64 x.2.1.2.2.1), .fz false (.pair (.int .i64) (.pair (.int .i64) (.pair (.int .i64) (.pair (.int .i64) (.pair (.int .i64) (.pair (.int .i64) .bool)))))) x.2.1.2.2.2.1] false]⟩) x.1.2.2.2.1 (by kernel_rfl) (fun y X => by kernel_rfl) h.it
 ·cases hn; exact bT hs (by kernel_rfl) (by kernel_rfl) h.it
 ·cases hn
def rI : List Sh := [.agg [.int .i64, .int .i64, .int .i64, .fz false (.pair (.int .i64) (.pair (.int .i64) (.pair (.int .i64) (.pair (.int .i64) (.pair (.int .i64) (.pair (.int .i64) .bool))))))], .lf (.fz false (.pair (.pair (.slc (.int .i64)) (.pair (.int .i64) (.slc (.int .i8)))) (.pair (.slc (.int .i32)) (.pair (.slc (.int .i64)) (.pair (.int .i64) (.slc (.int .i8)))))))]
def IY (x : aI rI) (Q : List (Bool × List VV) -> Prop) : Prop := US ((x.1.1, (x.1.2.1, x.1.2.2.1)), x.1.2.2.2.1) x.2.1 (fun (r : Bool) => Q (aH [(false, .bool)] [.n] (r, ())))
theorem aCQ (x : aI rI) (Q : List (Bool × List VV) -> Prop) (h : IY x Q) : aD Try.prog 17 (aM rI x) Q :=
 aC [.n] (G := dB) (ct := GH) (en := RU) (fn := Try.f17) (cd := U1) (rt := [(false, .bool)]) Try.func17 (by kernel_rfl) (by kernel_rfl) (Nat.le_of_ble_eq_true rfl) aCz cP (aG rfl) h.it (by kernel_rfl)
noncomputable def N8 : FuncId -> List VV -> (List (Bool × List VV) -> Prop) -> Prop := fun f args Q => if f = 17 then unA rI args (fun x => IY x Q) else bK f args Q
theorem P1 : ∀ f args Q, N8 f args Q -> aD Try.prog f args Q := aE cP (f0 := 17) rI (fun x Q => IY x Q) aCQ
noncomputable def aAe : Cfg := ⟨Try.prog, tt, N8, fun _ _ _ => False, none, false⟩
def aGd (a0 : Int) (a1 : Int) (a2 : Int) (Q : Bool -> Prop) : Prop :=
 Q ((decide (a1 <= a0)) && (decide (a0 <= a2)))
structure xY (a0 : Int) (a1 : Int) (a2 : Int) (Q : Bool -> Prop) : Prop where
 it : aGd a0 a1 a2 Q
noncomputable def R4 : Tab := fun n => none
noncomputable def SO : Go.Mach.Ends := fun n => match n with | 2 => some ([], [0, 1, 2]) | 6 => some ([], [6]) | 7 => some ([], [6]) | _ => none
noncomputable def XD : Code := Try.f16.body.getD .skip
theorem aEE : aL aAe R4 SO XD := by
 intro n E hn f c hs x k h
 cases hn
def q8 : List Sh := [.lf (.int .i64), .lf (.int .i64), .lf (.int .i64)]
def JF (x : aI q8) (Q : List (Bool × List VV) -> Prop) : Prop := xY x.1 x.2.1 x.2.2.1 (fun (r : Bool) => Q (aH [(false, .bool)] [.n] (r, ())))
theorem aDf (x : aI q8) (Q : List (Bool × List VV) -> Prop) (h : JF x Q) : aD Try.prog 16 (aM q8 x) Q :=
 aC [.n] (G := aAe) (ct := R4) (en := SO) (fn := Try.f16) (cd := XD) (rt := [(false, .bool)]) Try.func16 (by kernel_rfl) (by kernel_rfl) (Nat.le_of_ble_eq_true rfl) aEE P1 (aG rfl) h.it (by kernel_rfl)
noncomputable def PP : FuncId -> List VV -> (List (Bool × List VV) -> Prop) -> Prop := fun f args Q => if f = 16 then unA q8 args (fun x => JF x Q) else N8 f args Q
theorem NM : ∀ f args Q, PP f args Q -> aD Try.prog f args Q := aE P1 (f0 := 16) q8 (fun x Q => JF x Q) aDf
noncomputable def aAP : Cfg := ⟨Try.prog, tt, PP, fun _ _ _ => False, none, false⟩
def ZG (a0 : Int) (a1 : Int) (a2 : Int) (Q : Int -> Prop) : Prop :=
 xY a0 0 1000000 (fun (r1 : Bool) => jn (fun (v2 : Bool) => jn (fun (v5 : Bool) => if v5 = true then Q 0 else Q (IntKind.u64.wrap (IntKind.i64.wrap ((IntKind.i64.wrap ((IntKind.i64.wrap (a0 * 1024)) + (IntKind.i64.wrap (a1 * 16)))) + a2)))) (fun J6 => if v2 = true then J6 true else xY a2 0 15 (fun (r7 : Bool) => J6 (!r7)))) (fun J3 => if (!r1) = true then J3 true else xY a1 0 12 (fun (r4 : Bool) => J3 (!r4))))
structure vE (a0 : Int) (a1 : Int) (a2 : Int) (Q : Int -> Prop) : Prop where
 it : ZG a0 a1 a2 Q
noncomputable def D7 : Tab := fun n => none
noncomputable def ER : Go.Mach.Ends := fun n => match n with | 2 => some ([], [0, 1, 2]) | 12 => some ([], [0, 1, 2, 19]) | 14 => some ([], [6]) | 15 => some ([], [6]) | 27 => some ([], [0, 1, 2]) | 52 => some ([], [6]) | 53 => some ([], [6]) | _ => none
noncomputable def IB : Code := Try.f11.body.getD .skip
theorem UE : aL aAP D7 ER IB := by
 intro n E hn f c hs x k h
 cases hn
def jG : List Sh := [.lf (.int .i64), .lf (.int .i64), .lf (.int .i64)]
def xG (x : aI jG) (Q : List (Bool × List VV) -> Prop) : Prop := vE x.1 x.2.1 x.2.2.1 (fun (r : Int) => Q (aH [(false, (.int .u64))] [.n] (r, ())))
theorem TY (x : aI jG) (Q : List (Bool × List VV) -> Prop) (h : xG x Q) : aD Try.prog 11 (aM jG x) Q :=
 aC [.n] (G := aAP) (ct := D7) (en := ER) (fn := Try.f11) (cd := IB) (rt := [(false, (.int .u64))]) Try.func11 (by kernel_rfl) (by kernel_rfl) (Nat.le_of_ble_eq_true rfl) UE NM (aG rfl) h.it (by kernel_rfl)
noncomputable def AJ : FuncId -> List VV -> (List (Bool × List VV) -> Prop) -> Prop := fun f args Q => if f = 11 then unA jG args (fun x => xG x Q) else PP f args Q
theorem DI : ∀ f args Q, AJ f args Q -> aD Try.prog f args Q := aE NM (f0 := 11) jG (fun x Q => xG x Q) TY
noncomputable def L5 : Cfg := ⟨Try.prog, tt, AJ, fun _ _ _ => False, none, false⟩
def uJ (a0 : Int × Int × Int × Int × Int × Int × Bool) (a1 : ((List Int) × Int × List Int) × (List Int) × (List Int) × Int × List Int) (a2 : List ((List Int) × Int × List Int)) (Q : (((List Int) × Int × List Int) × Bool × Int) -> Prop) : Prop :=
 ck ((0 : Int) <= (IntKind.i64.wrap ((a2.length : Int) - 1)) /\ (IntKind.i64.wrap ((a2.length : Int) - 1)) < (a2.length : Int)) (if (a0.1 == 1) = true then FK ((a2.getD ((IntKind.i64.wrap ((a2.length : Int) - 1)).toNat) ([], (0, []))).1, (((a2.getD ((IntKind.i64.wrap ((a2.length : Int) - 1)).toNat) ([], (0, []))).2).1, ((a2.getD ((IntKind.i64.wrap ((a2.length : Int) - 1)).toNat) ([], (0, []))).2).2)) (a1.1.1, (a1.1.2.1, a1.1.2.2)) (a1.2.2.1, (a1.2.2.2.1, a1.2.2.2.2)) (fun (r1 : ((List Int) × Int × List Int) × Int) => Q ((r1.1.1, (r1.1.2.1, r1.1.2.2)), true, r1.2)) else if (a0.1 == 2) = true then KK ((a2.getD ((IntKind.i64.wrap ((a2.length : Int) - 1)).toNat) ([], (0, []))).1, (((a2.getD ((IntKind.i64.wrap ((a2.length : Int) - 1)).toNat) ([], (0, []))).2).1, ((a2.getD ((IntKind.i64.wrap ((a2.length : Int) - 1)).toNat) ([], (0, []))).2).2)) (a1.1.1, (a1.1.2.1, a1.1.2.2)) (a1.2.2.1, (a1.2.2.2.1, a1.2.2.2.2)) a0.2.2.2.1 a0.2.2.2.2.1 (fun (r2 : ((List Int) × Int × List Int) × Int) => Q ((r2.1.1, (r2.1.2.1, r2.1.2.2)), true, r2.2)) else if (a0.1 == 4) = true then aDa ((a2.getD ((IntKind.i64.wrap ((a2.length : Int) - 1)).toNat) ([], (0, []))).1, (((a2.getD ((IntKind.i64.wrap ((a2.length : Int) - 1)).toNat) ([], (0, []))).2).1, ((a2.getD ((IntKind.i64.wrap ((a2.length : Int) - 1)).toNat) ([], (0, []))).2).2)) a0.2.2.1 a0.2.2.2.1 (fun (r3 : ((List Int) × Int × List Int) × Int) => Q ((r3.1.1, (r3.1.2.1, r3.1.2.2)), true, r3.2)) else if (a0.1 == 7) = true then ck ((0 : Int) <= a0.2.2.2.2.2.1 /\ a0.2.2.2.2.2.1 < (a2.length : Int)) (aG2 ((a2.getD ((IntKind.i64.wrap ((a2.length : Int) - 1)).toNat) ([], (0, []))).1, (((a2.getD ((IntKind.i64.wrap ((a2.length : Int) - 1)).toNat) ([], (0, []))).2).1, ((a2.getD ((IntKind.i64.wrap ((a2.length : Int) - 1)).toNat) ([], (0, []))).2).2)) ((a2.getD ((a0.2.2.2.2.2.1).toNat) ([], (0, []))).1, (((a2.getD ((a0.2.2.2.2.2.1).toNat) ([], (0, []))).2).1, ((a2.getD ((a0.2.2.2.2.2.1).toNat) ([], (0, []))).2).2)) (fun (r4 : ((List Int) × Int × List Int) × Int) => Q ((r4.1.1, (r4.1.2.1, r4.1.2.2)), true, r4.2))) else Q ((([] : List Int), (0, ([] : List Int))), false, 0))
structure I5 (a0 : Int × Int × Int × Int × Int × Int × Bool) (a1 : ((List Int) × Int × List Int) × (List Int) × (List Int) × Int × List Int) (a2 : List ((List Int) × Int × List Int)) (Q : (((List Int) × Int × List Int) × Bool × Int) -> Prop) : Prop where
 it : uJ a0 a1 a2 Q
noncomputable def LJ : Tab := fun n => none
noncomputable def MM : Go.Mach.Ends := fun n => match n with | 2 => some ([], [2, 3, 4, 6]) | 6 => some ([], [2, 3, 4, 6, 9]) | 14 => some ([], [2, 3, 4, 6, 9, 10]) | 30 => some ([], [2, 3, 4, 6, 9, 10]) | 124 => some ([], [2, 3, 4, 6, 9, 10, 19]) | 126 => some ([], [6, 7, 8]) | 127 => some ([⟨6, some 0, true, (.int .i64)⟩], [6, 7, 8]) | 500 => some ([], [2, 3, 4, 6, 9, 10, 19, 21]) | 1002 => some ([], [6, 10, 11]) | 2006 => some ([], [2, 3, 4, 6, 9, 10, 19, 32]) | 4014 => some ([], [6, 10, 11]) | 8030 => some ([], [2, 3, 6, 9, 10, 19, 47]) | 16062 => some ([], [6, 10, 11]) | 32126 => some ([], [2, 3, 6, 9, 10, 58]) | 64254 => some ([], [6, 10, 11]) | 128510 => some ([], [6, 7, 8]) | 128511 => some ([⟨6, some 0, true, (.int .i64)⟩], [6, 7, 8]) | _ => none
noncomputable def N5 : Code := Try.f39.body.getD .skip
theorem ZQ : aL L5 LJ MM N5 := by
 intro n E hn f c hs x k h
 cases hn
def mM : List Sh := [.agg [.int .i64, .int .i64, .int .i64, .int .i64, .int .i64, .int .i64, .bool], .agg [.fz false (.int .i64), .int .i64, .fz false (.int .i8), .fz false (.int .i32), .fz false (.int .i64), .int .i64, .fz false (.int .i8)], .lf (.fz false (.pair (.slc (.int .i64)) (.pair (.int .i64) (.slc (.int .i8)))))]
def CK (x : aI mM) (Q : List (Bool × List VV) -> Prop) : Prop := I5 (x.1.1, (x.1.2.1, (x.1.2.2.1, (x.1.2.2.2.1, (x.1.2.2.2.2.1, (x.1.2.2.2.2.2.1, x.1.2.2.2.2.2.2.1)))))) ((x.2.1.1, (x.2.1.2.1, x.2.1.2.2.1)), (x.2.1.2.2.2.1, (x.2.1.2.2.2.2.1, (x.2.1.2.2.2.2.2.1, x.2.1.2.2.2.2.2.2.1)))) x.2.2.1 (fun (r : ((List Int) × Int × List Int) × Bool × Int) => Q (aH [(true, (.pair (.slc (.int .i64)) (.pair (.int .i64) (.slc (.int .i32))))), (false, .bool), (false, (.int .i64))] [(.p .f .n), .n, .n] (r.1, (r.2.1, (r.2.2, ())))))
theorem YW (x : aI mM) (Q : List (Bool × List VV) -> Prop) (h : CK x Q) : aD Try.prog 39 (aM mM x) Q :=
 aC [(.p .f .n), .n, .n] (G := L5) (ct := LJ) (en := MM) (fn := Try.f39) (cd := N5) (rt := [(true, (.pair (.slc (.int .i64)) (.pair (.int .i64) (.slc (.int .i32))))), (false, .bool), (false, (.int .i64))]) Try.func39 (by kernel_rfl) (by kernel_rfl) (Nat.le_of_ble_eq_true rfl) ZQ DI (aG rfl) h.it (by kernel_rfl)
noncomputable def F5 : FuncId -> List VV -> (List (Bool × List VV) -> Prop) -> Prop := fun f args Q => if f = 39 then unA mM args (fun x => CK x Q) else AJ f args Q
theorem HF : ∀ f args Q, F5 f args Q -> aD Try.prog f args Q := aE DI (f0 := 39) mM (fun x Q => CK x Q) YW
noncomputable def RR : Cfg := ⟨Try.prog, tt, F5, fun _ _ _ => False, none, false⟩
def DN  (K0 : Unit -> Prop) : Prop :=
 K0 ()
structure xL  (K0 : Unit -> Prop) : Prop where
 it : DN K0
def LH (a0 : Int × Int × Int × Int × Int × Int × Bool) (a1 : ((List Int) × Int × List Int) × (List Int) × (List Int) × Int × List Int) (a2 : List ((List Int) × Int × List Int)) (a3 : Int) (a4 : Int) (Q : (((List Int) × Int × List Int) × (List Int) × Int) -> Prop) : Prop :=
 I5 (a0.1, (a0.2.1, (a0.2.2.1, (a0.2.2.2.1, (a0.2.2.2.2.1, (a0.2.2.2.2.2.1, a0.2.2.2.2.2.2)))))) ((a1.1.1, (a1.1.2.1, a1.1.2.2)), (a1.2.1, (a1.2.2.1, (a1.2.2.2.1, a1.2.2.2.2)))) a2 (fun (r1 : ((List Int) × Int × List Int) × Bool × Int) => if (r1.2.2 != 0) = true then Q ((([] : List Int), (0, ([] : List Int))), ([] : List Int), r1.2.2) else if r1.2.1 = true then JB (r1.1.1, (r1.1.2.1, r1.1.2.2)) 8 a3 a4 (fun (r2 : ((List Int) × Int × List Int) × Int) => Q ((r2.1.1, (r2.1.2.1, r2.1.2.2)), ([] : List Int), r2.2)) else ck ((0 : Int) <= (IntKind.i64.wrap ((a2.length : Int) - 1)) /\ (IntKind.i64.wrap ((a2.length : Int) - 1)) < (a2.length : Int)) (if (a0.1 == 3) = true then aDQ ((a2.getD ((IntKind.i64.wrap ((a2.length : Int) - 1)).toNat) ([], (0, []))).1, (((a2.getD ((IntKind.i64.wrap ((a2.length : Int) - 1)).toNat) ([], (0, []))).2).1, ((a2.getD ((IntKind.i64.wrap ((a2.length : Int) - 1)).toNat) ([], (0, []))).2).2)) a0.2.2.1 a0.2.2.2.1 (fun (r3 : ((List Int) × Int × List Int) × (List Int) × Int) => Q ((r3.1.1, (r3.1.2.1, r3.1.2.2)), r3.2.1, r3.2.2)) else if (a0.1 == 5) = true then Y8 ((a2.getD ((IntKind.i64.wrap ((a2.length : Int) - 1)).toNat) ([], (0, []))).1, (((a2.getD ((IntKind.i64.wrap ((a2.length : Int) - 1)).toNat) ([], (0, []))).2).1, ((a2.getD ((IntKind.i64.wrap ((a2.length : Int) - 1)).toNat) ([], (0, []))).2).2)) (fun (r4 : ((List Int) × Int × List Int) × Int) => xL (fun (y5 : Unit) => Q ((r4.1.1, (r4.1.2.1, r4.1.2.2)), ([] : List Int), r4.2))) else Y3 ((a2.getD ((IntKind.i64.wrap ((a2.length : Int) - 1)).toNat) ([], (0, []))).1, (((a2.getD ((IntKind.i64.wrap ((a2.length : Int) - 1)).toNat) ([], (0, []))).2).1, ((a2.getD ((IntKind.i64.wrap ((a2.length : Int) - 1)).toNat) ([], (0, []))).2).2)) (fun (r6 : ((List Int) × Int × List Int) × Int) => xL (fun (y7 : Unit) => Q ((r6.1.1, (r6.1.2.1, r6.1.2.2)), ([] : List Int), r6.2)))))
structure F9 (a0 : Int × Int × Int × Int × Int × Int × Bool) (a1 : ((List Int) × Int × List Int) × (List Int) × (List Int) × Int × List Int) (a2 : List ((List Int) × Int × List Int)) (a3 : Int) (a4 : Int) (Q : (((List Int) × Int × List Int) × (List Int) × Int) -> Prop) : Prop where
 it : LH a0 a1 a2 a3 a4 Q
noncomputable def Y9 : Ent := ⟨[10, 15, 18], [.lf (.cst (.ptr 0 0)), .lf (.int .i64), .lf (.cst (.ptr 1 0))], [.box [.cst (.pl (.slice none 0 0)), .int .i64, .cst (.pl (.slice none 0 0))] false, .box [.cst (.own 2), .int .i64, .cst (.own 3)] false, .lst true (.int .i64) false, .lst true (.int .i8) false], fun x k => xL (fun (y8 : Unit) => k .ret ⟨[(10, .ptr 0 0), (11, .pl (.slice none 0 0)), (12, .pl (.int .i64 x.1.2.1))], [.box [.own 1, .pl (.int .i64 x.2.2.1.2.1), .own 2] false, .lst true (.int .i64) x.2.2.2.1 false, .lst true (.int .i8) x.2.2.2.2.1 false]⟩)⟩
noncomputable def xP : Tab := fun n => match n with | 63 => some Y9 | _ => none
noncomputable def HQ : Go.Mach.Ends := fun n => match n with | 2 => some ([], [2, 3, 4, 5, 6, 10]) | 6 => some ([], [2, 3, 4, 5, 10, 13, 14, 15]) | 30 => some ([], [5, 10, 18]) | 56 => some ([], [2, 3, 4, 5, 10, 13, 14, 15, 27]) | 124 => some ([], [5, 10, 18, 50]) | 126 => some ([], [10, 11, 12]) | 127 => some ([], [10, 11, 12]) | 228 => some ([], [10, 11, 12]) | 229 => some ([], [10, 11, 12]) | 230 => some ([], [2, 3, 4, 5, 10, 13, 32]) | 463 => some ([], [2, 5, 10]) | 500 => some ([], [5, 10, 18, 50, 56]) | 924 => some ([], [10, 16, 17]) | 1850 => some ([], [10, 11, 12]) | 1851 => some ([], [10, 11, 12]) | 2004 => some ([], [10, 11, 12]) | 2005 => some ([], [10, 11, 12]) | 2006 => some ([], [10, 18, 67]) | 4014 => some ([], [10, 15, 18]) | 4015 => some ([], [10, 15, 18]) | _ => none
noncomputable def MQ : Code := Try.f22.body.getD .skip
theorem W0 : aL RR xP HQ MQ := by
 intro n E hn f c hs x k h
 unfold xP at hn
 split at hn
 ·cases hn; exact bT hs (by kernel_rfl) (by kernel_rfl) h.it
 ·cases hn
def kF : List Sh := [.agg [.int .i64, .int .i64, .int .i64, .int .i64, .int .i64, .int .i64, .bool], .agg [.fz false (.int .i64), .int .i64, .fz false (.int .i8), .fz false (.int .i32), .fz false (.int .i64), .int .i64, .fz false (.int .i8)], .lf (.fz false (.pair (.slc (.int .i64)) (.pair (.int .i64) (.slc (.int .i8))))), .lf (.int .u64), .lf (.int .u64)]
def AV (x : aI kF) (Q : List (Bool × List VV) -> Prop) : Prop := F9 (x.1.1, (x.1.2.1, (x.1.2.2.1, (x.1.2.2.2.1, (x.1.2.2.2.2.1, (x.1.2.2.2.2.2.1, x.1.2.2.2.2.2.2.1)))))) ((x.2.1.1, (x.2.1.2.1, x.2.1.2.2.1)), (x.2.1.2.2.2.1, (x.2.1.2.2.2.2.1, (x.2.1.2.2.2.2.2.1, x.2.1.2.2.2.2.2.2.1)))) x.2.2.1 x.2.2.2.1 x.2.2.2.2.1 (fun (r : ((List Int) × Int × List Int) × (List Int) × Int) => Q (aH [(true, (.pair (.slc (.int .i64)) (.pair (.int .i64) (.slc (.int .i8))))), (false, (.slc (.int .i64))), (false, (.int .i64))] [.n, .n, .n] (r.1, (r.2.1, (r.2.2, ())))))
theorem WY (x : aI kF) (Q : List (Bool × List VV) -> Prop) (h : AV x Q) : aD Try.prog 22 (aM kF x) Q :=
 aC [.n, .n, .n] (G := RR) (ct := xP) (en := HQ) (fn := Try.f22) (cd := MQ) (rt := [(true, (.pair (.slc (.int .i64)) (.pair (.int .i64) (.slc (.int .i8))))), (false, (.slc (.int .i64))), (false, (.int .i64))]) Try.func22 (by kernel_rfl) (by kernel_rfl) (Nat.le_of_ble_eq_true rfl) W0 HF (aG rfl) h.it (by kernel_rfl)
noncomputable def C2 : FuncId -> List VV -> (List (Bool × List VV) -> Prop) -> Prop := fun f args Q => if f = 22 then unA kF args (fun x => AV x Q) else F5 f args Q
theorem D8 : ∀ f args Q, C2 f args Q -> aD Try.prog f args Q := aE HF (f0 := 22) kF (fun x Q => AV x Q) WY
noncomputable def PH : Cfg := ⟨Try.prog, tt, C2, fun _ _ _ => False, none, false⟩
def fN (x0 : List (((List Int) × Int × List Int) × (List Int) × (List Int) × Int × List Int)) (x1 : Int) (x2 : Int) (x3 : List (Int × Int × Int × Int × Int × Int × Bool)) (x4 : Int) (K0 : ((List ((List Int) × Int × List Int)) × List (List Int)) -> Prop) (K1 : (Int × Int) -> Prop) (s : Int × (List ((List Int) × Int × List Int)) × List (List Int)) (nx : (Int × (List ((List Int) × Int × List Int)) × List (List Int)) -> Prop) : Prop :=
 if (decide (s.1 < x4)) = true then ck ((0 : Int) <= s.1 /\ s.1 < (x3.length : Int)) (ck ((0 : Int) <= s.1 /\ s.1 < (x0.length : Int)) (vE x2 (IntKind.i64.wrap (s.1 + 1)) 0 (fun (r13 : Int) => F9 ((x3.getD ((s.1).toNat) (0, (0, (0, (0, (0, (0, false))))))).1, (((x3.getD ((s.1).toNat) (0, (0, (0, (0, (0, (0, false))))))).2).1, ((((x3.getD ((s.1).toNat) (0, (0, (0, (0, (0, (0, false))))))).2).2).1, (((((x3.getD ((s.1).toNat) (0, (0, (0, (0, (0, (0, false))))))).2).2).2).1, ((((((x3.getD ((s.1).toNat) (0, (0, (0, (0, (0, (0, false))))))).2).2).2).2).1, (((((((x3.getD ((s.1).toNat) (0, (0, (0, (0, (0, (0, false))))))).2).2).2).2).2).1, ((((((x3.getD ((s.1).toNat) (0, (0, (0, (0, (0, (0, false))))))).2).2).2).2).2).2)))))) ((((x0.getD ((s.1).toNat) (([], (0, [])), ([], ([], (0, []))))).1).1, ((((x0.getD ((s.1).toNat) (([], (0, [])), ([], ([], (0, []))))).1).2).1, (((x0.getD ((s.1).toNat) (([], (0, [])), ([], ([], (0, []))))).1).2).2)), (((x0.getD ((s.1).toNat) (([], (0, [])), ([], ([], (0, []))))).2).1, ((((x0.getD ((s.1).toNat) (([], (0, [])), ([], ([], (0, []))))).2).2).1, (((((x0.getD ((s.1).toNat) (([], (0, [])), ([], ([], (0, []))))).2).2).2).1, ((((x0.getD ((s.1).toNat) (([], (0, [])), ([], ([], (0, []))))).2).2).2).2)))) s.2.1 x1 r13 (fun (r14 : ((List Int) × Int × List Int) × (List Int) × Int) => if (r14.2.2 != 0) = true then K1 (IntKind.i64.wrap (s.1 + 1), r14.2.2) else ck ((s.2.1.length + [(r14.1.1, (r14.1.2.1, r14.1.2.2))].length) * 56 <= 140737488355328) (ck ((s.2.2.length + [r14.2.1].length) * 24 <= 140737488355328) (nx (IntKind.i64.wrap (s.1 + 1), s.2.1 ++ [(r14.1.1, (r14.1.2.1, r14.1.2.2))], s.2.2 ++ [r14.2.1]))))))) else K0 (s.2.1, s.2.2)
structure CD (x0 : List (((List Int) × Int × List Int) × (List Int) × (List Int) × Int × List Int)) (x1 : Int) (x2 : Int) (x3 : List (Int × Int × Int × Int × Int × Int × Bool)) (x4 : Int) (K0 : ((List ((List Int) × Int × List Int)) × List (List Int)) -> Prop) (K1 : (Int × Int) -> Prop) (s : Int × (List ((List Int) × Int × List Int)) × List (List Int)) : Prop where
 it : Go.Mach.Loop (fN x0 x1 x2 x3 x4 K0 K1) s
def GB (a0 : (Int × Int × Int) × List (Int × Int × Int × Int × Int × Int × Bool)) (a1 : List (((List Int) × Int × List Int) × (List Int) × (List Int) × Int × List Int)) (a2 : (List Int) × Int × List Int) (a3 : Int) (a4 : Int) (Q : (((List ((List Int) × Int × List Int)) × List (List Int)) × Int × Int) -> Prop) : Prop :=
 xY a4 0 1000000 (fun (r1 : Bool) => jn (fun (v2 : Bool) => jn (fun (v5 : Bool) => if v5 = true then Q ((([] : List ((List Int) × Int × List Int)), ([] : List (List Int))), 0, 1) else jn (fun (v8 : Bool) => if v8 = true then Q ((([] : List ((List Int) × Int × List Int)), ([] : List (List Int))), 0, 2) else aW a2.1 (fun (r11 : List Int) => iE a2.2.2 (fun (r12 : List Int) => CD a1 a3 a4 a0.2 (a0.2.length : Int) (fun (y15 : (List ((List Int) × Int × List Int)) × List (List Int)) => Q ((y15.1, y15.2), 0, 0)) (fun (y16 : Int × Int) => Q ((([] : List ((List Int) × Int × List Int)), ([] : List (List Int))), y16.1, y16.2)) (0, [(r11, (a2.2.1, r12))], [([] : List Int)])))) (fun J9 => if ((a2.1.length : Int) != 4) = true then J9 true else ck (a2.1 ≠ [] /\ (0 : Int) <= 1 /\ (1 : Int) <= (a2.1.length : Int) /\ (a2.1.length : Int) <= (a2.1.length : Int)) (jZ ((a2.1.take ((a2.1.length : Int)).toNat).drop ((1 : Int)).toNat) ([a0.1.1, a0.1.2.1, a0.1.2.2] : List Int) (fun (r10 : Bool) => J9 (!r10))))) (fun J6 => if v2 = true then J6 true else bN (a2.1, (a2.2.1, a2.2.2)) (fun (r7 : Bool) => J6 (!r7)))) (fun J3 => if (!r1) = true then J3 true else US ((a0.1.1, (a0.1.2.1, a0.1.2.2)), a0.2) a1 (fun (r4 : Bool) => J3 (!r4))))
structure yO (a0 : (Int × Int × Int) × List (Int × Int × Int × Int × Int × Int × Bool)) (a1 : List (((List Int) × Int × List Int) × (List Int) × (List Int) × Int × List Int)) (a2 : (List Int) × Int × List Int) (a3 : Int) (a4 : Int) (Q : (((List ((List Int) × Int × List Int)) × List (List Int)) × Int × Int) -> Prop) : Prop where
 it : GB a0 a1 a2 a3 a4 Q
noncomputable def aCR : Ent := ⟨[1, 3, 4, 10, 13, 63, 64, 65], [.lf (.fz false (.pair (.pair (.slc (.int .i64)) (.pair (.int .i64) (.slc (.int .i8)))) (.pair (.slc (.int .i32)) (.pair (.slc (.int .i64)) (.pair (.int .i64) (.slc (.int .i8))))))), .lf (.int .u64), .lf (.int .i64), .lf (.cst (.ptr 0 0)), .lf (.cst (.ptr 1 0)), .lf (.fz false (.pair (.int .i64) (.pair (.int .i64) (.pair (.int .i64) (.pair (.int .i64) (.pair (.int .i64) (.pair (.int .i64) .bool))))))), .lf (.int .i64), .lf (.int .i64)], [.box [.cst (.pl (.slice none 0 0)), .cst (.pl (.slice none 0 0))] false, .box [.cst (.own 2), .cst (.own 3)] false, .lst true (.pair (.slc (.int .i64)) (.pair (.int .i64) (.slc (.int .i8)))) false, .lst true (.slc (.int .i64)) false], fun x k => CD x.1.1 x.1.2.1 x.1.2.2.1 x.1.2.2.2.2.2.1 x.1.2.2.2.2.2.2.1 (fun (y17 : (List ((List Int) × Int × List Int)) × List (List Int)) => k (.exit 1) ⟨[(10, .ptr 0 0), (13, .ptr 1 0)], [.box [.pl (.slice none 0 0), .pl (.slice none 0 0)] false, .box [.own 2, .own 3] false, .lst true (.pair (.slc (.int .i64)) (.pair (.int .i64) (.slc (.int .i8)))) y17.1 false, .lst true (.slc (.int .i64)) y17.2 false]⟩) (fun (y18 : Int × Int) => k .ret ⟨[(10, .ptr 0 0), (11, .pl (.int .i64 y18.1)), (12, .pl (.int .i64 y18.2))], [.box [.pl (.slice none 0 0), .pl (.slice none 0 0)] false]⟩) (x.1.2.2.2.2.2.2.2.1, x.2.2.2.1, x.2.2.2.2.1)⟩
noncomputable def C5 : Tab := fun n => match n with | 250 => some aCR | _ => none
noncomputable def NG : Go.Mach.Ends := fun n => match n with | 2 => some ([], [1, 3, 4, 5, 7, 10]) | 14 => some ([], [1, 3, 4, 5, 7, 10]) | 24 => some ([], [1, 3, 4, 5, 7, 10, 19]) | 30 => some ([], [1, 3, 4, 5, 10, 13]) | 100 => some ([], [10, 11, 12]) | 101 => some ([], [10, 11, 12]) | 102 => some ([], [1, 3, 4, 5, 7, 10, 35]) | 124 => some ([], [1, 3, 4, 10, 13, 63, 64, 65]) | 126 => some ([], [10, 11, 12]) | 127 => some ([], [10, 11, 12]) | 207 => some ([], [1, 3, 4, 5, 7, 10]) | 250 => some ([], [1, 3, 4, 10, 13, 63, 64, 65]) | 412 => some ([], [10, 11, 12]) | 413 => some ([], [10, 11, 12]) | 1000 => some ([], [1, 3, 4, 10, 13, 63, 64, 65, 66]) | 4004 => some ([], [1, 3, 4, 10, 13, 63, 64, 65]) | 4005 => some ([], [10, 13]) | 4007 => some ([], [1, 3, 4, 10, 13, 63, 64, 65]) | 16024 => some ([], [1, 3, 4, 10, 13, 14, 15, 63, 64, 65]) | 32050 => some ([], [1, 3, 4, 10, 13, 14, 16, 17, 18, 63, 64, 65]) | 64103 => some ([], [1, 3, 4, 10, 13, 63, 64, 65]) | 128204 => some ([], [1, 3, 4, 10, 13, 14, 16, 17, 18, 63, 64, 65, 88]) | 256411 => some ([], [1, 3, 4, 10, 13, 16, 17, 63, 64, 65]) | 512820 => some ([], [10, 11, 12]) | 512821 => some ([], [10, 11, 12]) | _ => none
noncomputable def S9 : Code := Try.f7.body.getD .skip
theorem aB3 : aL PH C5 NG S9 := by
 intro n E hn f c hs x k h
 unfold C5 at hn
 split at hn
 ·cases hn; exact aK hs (by kernel_rfl) (fun y : Int × (List ((List Int) × Int × List Int)) × List (List Int) => ⟨[(1, .fz false (.pair (.pair (.slc (.int .i64)) (.pair (.int .i64) (.slc (.int .i8)))) (.pair (.slc (.int .i32)) (.pair (.slc (.int .i64)) (.pair (.int .i64) (.slc (.int .i8)))))) x.1.1), (3, .pl (.int .u64 x.1.2.1)), (4, .pl (.int .i64 x.1.2.2.1)), (10, .ptr 0 0), (13, .ptr 1 0), (63, .fz false (.pair (.int .i64) (.pair (.int .i64) (.pair (.int .i64) (.pair (.int .i64) (.pair (.int .i64) (.pair (.int .i64) .bool)))))) x.1.2.2.2.2.2.1), (64, .pl (.int .i64 x.1.2.2.2.2.2.2.1)), (65, .pl (.int .i64 y.1))], [.box [.pl (.slice none 0 0), .pl (.slice none 0 0)] false, .box [.own 2, .own 3] false, .lst true (.pair (.slc (.int .i64)) (.pair (.int .i64) (.slc (.int .i8)))) y.2.1 false, .lst true (.slc (.int .i64)) y.2.2 false]⟩) (x.1.2.2.2.2.2.2.2.1, x.2.2.2.1, x.2.2.2.2.1) (by kernel_rfl) (fun y X => by kernel_rfl) h.it
 ·cases hn
def oX : List Sh := [.agg [.int .i64, .int .i64, .int .i64, .fz false (.pair (.int .i64) (.pair (.int .i64) (.pair (.int .i64) (.pair (.int .i64) (.pair (.int .i64) (.pair (.int .i64) .bool))))))], .lf (.fz false (.pair (.pair (.slc (.int .i64)) (.pair (.int .i64) (.slc (.int .i8)))) (.pair (.slc (.int .i32)) (.pair (.slc (.int .i64)) (.pair (.int .i64) (.slc (.int .i8))))))), .agg [.fz false (.int .i64), .int .i64, .fz false (.int .i8)], .lf (.int .u64), .lf (.int .i64)]
def E5 (x : aI oX) (Q : List (Bool × List VV) -> Prop) : Prop := yO ((x.1.1, (x.1.2.1, x.1.2.2.1)), x.1.2.2.2.1) x.2.1 (x.2.2.1.1, (x.2.2.1.2.1, x.2.2.1.2.2.1)) x.2.2.2.1 x.2.2.2.2.1 (fun (r : ((List ((List Int) × Int × List Int)) × List (List Int)) × Int × Int) => Q (aH [(true, (.pair (.slc (.pair (.slc (.int .i64)) (.pair (.int .i64) (.slc (.int .i8))))) (.slc (.slc (.int .i64))))), (false, (.int .i64)), (false, (.int .i64))] [.n, .n, .n] (r.1, (r.2.1, (r.2.2, ())))))
theorem aB8 (x : aI oX) (Q : List (Bool × List VV) -> Prop) (h : E5 x Q) : aD Try.prog 7 (aM oX x) Q :=
 aC [.n, .n, .n] (G := PH) (ct := C5) (en := NG) (fn := Try.f7) (cd := S9) (rt := [(true, (.pair (.slc (.pair (.slc (.int .i64)) (.pair (.int .i64) (.slc (.int .i8))))) (.slc (.slc (.int .i64))))), (false, (.int .i64)), (false, (.int .i64))]) Try.func7 (by kernel_rfl) (by kernel_rfl) (Nat.le_of_ble_eq_true rfl) aB3 D8 (aG rfl) h.it (by kernel_rfl)
noncomputable def I4 : FuncId -> List VV -> (List (Bool × List VV) -> Prop) -> Prop := fun f args Q => if f = 7 then unA oX args (fun x => E5 x Q) else C2 f args Q
theorem MP : ∀ f args Q, I4 f args Q -> aD Try.prog f args Q := aE D8 (f0 := 7) oX (fun x Q => E5 x Q) aB8
noncomputable def WC : Cfg := ⟨Try.prog, tt, I4, fun _ _ _ => False, none, false⟩
def MX (a0 : Int) (Q : ((Int × Int × Int) × List (Int × Int × Int × Int × Int × Int × Bool)) -> Prop) : Prop :=
 Q ((1, (1, 2)), [(6, (0, (0, (0, (0, (0, false)))))), (1, (a0, (0, (0, (0, (0, false))))))])
structure BB (a0 : Int) (Q : ((Int × Int × Int) × List (Int × Int × Int × Int × Int × Int × Bool)) -> Prop) : Prop where
 it : MX a0 Q
noncomputable def uN : Tab := fun n => none
noncomputable def vD : Go.Mach.Ends := fun n => match n with | 2 => some ([], [0, 2]) | 6 => some ([], [2]) | 7 => some ([], [2]) | _ => none
noncomputable def wH : Code := Try.f10.body.getD .skip
theorem HW : aL WC uN vD wH := by
 intro n E hn f c hs x k h
 cases hn
def eJ : List Sh := [.lf (.int .i64)]
def nI (x : aI eJ) (Q : List (Bool × List VV) -> Prop) : Prop := BB x.1 (fun (r : (Int × Int × Int) × List (Int × Int × Int × Int × Int × Int × Bool)) => Q (aH [(true, (.pair (.pair (.int .i64) (.pair (.int .i64) (.int .i64))) (.slc (.pair (.int .i64) (.pair (.int .i64) (.pair (.int .i64) (.pair (.int .i64) (.pair (.int .i64) (.pair (.int .i64) .bool)))))))))] [.n] (r, ())))
theorem HM (x : aI eJ) (Q : List (Bool × List VV) -> Prop) (h : nI x Q) : aD Try.prog 10 (aM eJ x) Q :=
 aC [.n] (G := WC) (ct := uN) (en := vD) (fn := Try.f10) (cd := wH) (rt := [(true, (.pair (.pair (.int .i64) (.pair (.int .i64) (.int .i64))) (.slc (.pair (.int .i64) (.pair (.int .i64) (.pair (.int .i64) (.pair (.int .i64) (.pair (.int .i64) (.pair (.int .i64) .bool)))))))))]) Try.func10 (by kernel_rfl) (by kernel_rfl) (Nat.le_of_ble_eq_true rfl) HW MP (aG rfl) h.it (by kernel_rfl)
noncomputable def o9 : FuncId -> List VV -> (List (Bool × List VV) -> Prop) -> Prop := fun f args Q => if f = 10 then unA eJ args (fun x => nI x Q) else I4 f args Q
theorem sR : ∀ f args Q, o9 f args Q -> aD Try.prog f args Q := aE MP (f0 := 10) eJ (fun x Q => nI x Q) HM
noncomputable def zT : Cfg := ⟨Try.prog, tt, o9, fun _ _ _ => False, none, false⟩
def LD  (Q : Bool -> Prop) : Prop :=
 BB 1 (fun (r1 : (Int × Int × Int) × List (Int × Int × Int × Int × Int × Int × Bool)) => yO ((r1.1.1, (r1.1.2.1, r1.1.2.2)), r1.2) [((([] : List Int), (0, ([] : List Int))), (([] : List Int), (([] : List Int), (0, ([] : List Int))))), (([1, 2], (0, [3, 4])), ([0, 0], ([1], (0, [5]))))] ([1, 1, 1, 2], (0, [1, 2])) 1 0 (fun (r2 : ((List ((List Int) × Int × List Int)) × List (List Int)) × Int × Int) => jn (fun (v3 : Bool) => jn (fun (v5 : Bool) => jn (fun (v7 : Bool) => Q v7) (fun J8 => if v5 = true then vE 2 3 4 (fun (r9 : Int) => J8 (r9 == 2100)) else J8 false)) (fun J6 => if v3 = true then ck ((0 : Int) <= 2 /\ 2 < (r2.1.1.length : Int)) (ck ((0 : Int) <= 0 /\ 0 < ((((r2.1.1.getD 2 ([], (0, []))).2).2).length : Int)) (J6 (((((r2.1.1.getD 2 ([], (0, []))).2).2).getD 0 0) == 16))) else J6 false)) (fun J4 => if ((r2.2.2 == 0) && ((r2.1.1.length : Int) == 3)) = true then ck ((0 : Int) <= 2 /\ 2 < (r2.1.1.length : Int)) (J4 (((((r2.1.1.getD 2 ([], (0, []))).2).2).length : Int) == 1)) else J4 false)))
structure dK  (Q : Bool -> Prop) : Prop where
 it : LD  Q
noncomputable def s9 : Tab := fun n => none
noncomputable def tK : Go.Mach.Ends := fun n => match n with | 2 => some ([], []) | 6 => some ([], [1]) | 14 => some ([], [2, 4]) | 30 => some ([], [0]) | 31 => some ([], [0]) | _ => none
noncomputable def vO : Code := Try.f5.body.getD .skip
theorem FZ : aL zT s9 tK vO := by
 intro n E hn f c hs x k h
 cases hn
def dM : List Sh := []
def lL (x : aI dM) (Q : List (Bool × List VV) -> Prop) : Prop := dK (fun (r : Bool) => Q (aH [(false, .bool)] [.n] (r, ())))
theorem FU (x : aI dM) (Q : List (Bool × List VV) -> Prop) (h : lL x Q) : aD Try.prog 5 (aM dM x) Q :=
 aC [.n] (G := zT) (ct := s9) (en := tK) (fn := Try.f5) (cd := vO) (rt := [(false, .bool)]) Try.func5 (by kernel_rfl) (by kernel_rfl) (Nat.le_of_ble_eq_true rfl) FZ sR (aG rfl) h.it (by kernel_rfl)
noncomputable def m9 : FuncId -> List VV -> (List (Bool × List VV) -> Prop) -> Prop := fun f args Q => if f = 5 then unA dM args (fun x => lL x Q) else o9 f args Q
theorem rK : ∀ f args Q, m9 f args Q -> aD Try.prog f args Q := aE sR (f0 := 5) dM (fun x Q => lL x Q) FU
noncomputable def wF : Cfg := ⟨Try.prog, tt, m9, fun _ _ _ => False, none, false⟩
end Go.Proofs.Ytbenbhdagmnapaa
