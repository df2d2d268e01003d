/- Part of the proof. No condition. -/
import Derived.Test.YtbenbhdagmnapaaZ34
import Derived.Test.YtbenbhdagmnapaaProg
import Derived.KernelRfl
namespace Go.Proofs.Ytbenbhdagmnapaa
open Go.Mach
set_option maxRecDepth 100000
set_option linter.unusedVariables false
def aBP (a0 : (List Int) × Int × List Int) (Q : Bool -> Prop) : Prop :=
 kJ a0.1 (fun (r1 : Bool) => jn (fun (v2 : Bool) => jn (fun (v5 : Bool) => Q v5) (fun J6 => if v2 = true then BX a0.2.1 128 (fun (r7 : Bool) => J6 r7) else J6 false)) (fun J3 => if r1 = true then oL a0.1 (fun (r4 : Int) => J3 ((a0.2.2.length : Int) == r4)) else J3 false))
structure yD (a0 : (List Int) × Int × List Int) (Q : Bool -> Prop) : Prop where
 it : aBP a0 Q
noncomputable def HU : Tab := fun n => none
noncomputable def HX : Go.Mach.Ends := fun n => match n with | 2 => some ([], [1]) | 6 => some ([], [2]) | 7 => some ([], [2]) | _ => none
noncomputable def LJ : Code := Try.f60.body.getD .skip
theorem WX : aL aFM HU HX LJ := by
 intro n E hn f c hs x k h
 cases hn
def kS : List Sh := [.agg [.fz false (.int .i64), .int .i64, .fz false (.int .i32)]]
def AQ (x : aI kS) (Q : List (Bool × List VV) -> Prop) : Prop := yD (x.1.1, (x.1.2.1, x.1.2.2.1)) (fun (r : Bool) => Q (aH [(false, .bool)] [.n] (r, ())))
theorem WS (x : aI kS) (Q : List (Bool × List VV) -> Prop) (h : AQ x Q) : aD Try.prog 60 (aM kS x) Q :=
 aC [.n] (G := aFM) (ct := HU) (en := HX) (fn := Try.f60) (cd := LJ) (rt := [(false, .bool)]) Try.func60 (by kernel_rfl) (by kernel_rfl) (Nat.le_of_ble_eq_true rfl) WX V7 (aG rfl) h.it (by kernel_rfl)
noncomputable def C9 : FuncId -> List VV -> (List (Bool × List VV) -> Prop) -> Prop := fun f args Q => if f = 60 then unA kS args (fun x => AQ x Q) else YL f args Q
theorem EG : ∀ f args Q, C9 f args Q -> aD Try.prog f args Q := aE V7 (f0 := 60) kS (fun x Q => AQ x Q) WS
noncomputable def NC : Cfg := ⟨Try.prog, tt, C9, fun _ _ _ => False, none, false⟩
def EN : ByteArray := ⟨#[0, 1, 2, 2, 3, 3, 3, 3, 4, 4, 4, 4, 4, 4, 4, 4, 5, 5, 5, 5, 5, 5, 5, 5, 5, 5, 5, 5, 5, 5, 5, 5, 6, 6, 6, 6, 6, 6, 6, 6, 6, 6, 6, 6, 6, 6, 6, 6, 6, 6, 6, 6, 6, 6, 6, 6, 6, 6, 6, 6, 6, 6, 6, 6, 7, 7, 7, 7, 7, 7, 7, 7, 7, 7, 7, 7, 7, 7, 7, 7, 7, 7, 7, 7, 7, 7, 7, 7, 7, 7, 7, 7, 7, 7, 7, 7, 7, 7, 7, 7, 7, 7, 7, 7, 7, 7, 7, 7, 7, 7, 7, 7, 7, 7, 7, 7, 7, 7, 7, 7, 7, 7, 7, 7, 7, 7, 7, 7, 8, 8, 8, 8, 8, 8, 8, 8, 8, 8, 8, 8, 8, 8, 8, 8, 8, 8, 8, 8, 8, 8, 8, 8, 8, 8, 8, 8, 8, 8, 8, 8, 8, 8, 8, 8, 8, 8, 8, 8, 8, 8, 8, 8, 8, 8, 8, 8, 8, 8, 8, 8, 8, 8, 8, 8, 8, 8, 8, 8, 8, 8, 8, 8, 8, 8, 8, 8, 8, 8, 8, 8, 8, 8, 8, 8, 8, 8, 8, 8, 8, 8, 8, 8, 8, 8, 8, 8, 8, 8, 8, 8, 8, 8, 8, 8, 8, 8, 8, 8, 8, 8, 8, 8, 8, 8, 8, 8, 8, 8, 8, 8, 8, 8, 8, 8, 8, 8, 8, 8, 8, 8, 8, 8, 8, 8, 8, 8]⟩
def NI (x0 : Int) (x1 : Int) (K0 : Int -> Prop) : Prop :=
 ck ((0 : Int) <= (IntKind.u8.wrap x0) /\ (IntKind.u8.wrap x0) < (EN.size : Int)) (K0 (IntKind.i64.wrap (x1 + (IntKind.i64.wrap ((EN.data.toList.getD (IntKind.u8.wrap x0).toNat 0).toNat : Nat)))))
structure mF (x0 : Int) (x1 : Int) (K0 : Int -> Prop) : Prop where
 it : NI x0 x1 K0
def AA (x0 : Int) (x1 : Int) (K0 : Int -> Prop) : Prop :=
 if (decide (256 <= x0)) = true then ck ((0 : Int) <= 8) (mF ((x0).fdiv (2 ^ (min ((8 : Int)).toNat (IntKind.u64).bits))) (IntKind.i64.wrap (x1 + 8)) (fun (y1 : Int) => K0 y1)) else mF x0 x1 (fun (y2 : Int) => K0 y2)
structure l0 (x0 : Int) (x1 : Int) (K0 : Int -> Prop) : Prop where
 it : AA x0 x1 K0
def z9 (x0 : Int) (x1 : Int) (K0 : Int -> Prop) : Prop :=
 if (decide (65536 <= x0)) = true then ck ((0 : Int) <= 16) (l0 ((x0).fdiv (2 ^ (min ((16 : Int)).toNat (IntKind.u64).bits))) (IntKind.i64.wrap (x1 + 16)) (fun (y1 : Int) => K0 y1)) else l0 x0 x1 (fun (y2 : Int) => K0 y2)
structure lN (x0 : Int) (x1 : Int) (K0 : Int -> Prop) : Prop where
 it : z9 x0 x1 K0
def EI (a0 : Int) (Q : Int -> Prop) : Prop :=
 if (decide (4294967296 <= a0)) = true then ck ((0 : Int) <= 32) (lN ((a0).fdiv (2 ^ (min ((32 : Int)).toNat (IntKind.u64).bits))) 32 (fun (y3 : Int) => Q y3)) else lN a0 0 (fun (y4 : Int) => Q y4)
structure AR (a0 : Int) (Q : Int -> Prop) : Prop where
 it : EI a0 Q
noncomputable def TX : Ent := ⟨[0, 2], [.lf (.int .u64), .lf (.int .i64)], [], fun x k => lN x.1.1 x.1.2.1 (fun (y5 : Int) => k .ret ⟨[(2, .pl (.int .i64 y5))], []⟩)⟩
noncomputable def UG : Ent := ⟨[0, 2], [.lf (.int .u64), .lf (.int .i64)], [], fun x k => l0 x.1.1 x.1.2.1 (fun (y6 : Int) => k .ret ⟨[(2, .pl (.int .i64 y6))], []⟩)⟩
noncomputable def UC : Ent := ⟨[0, 2], [.lf (.int .u64), .lf (.int .i64)], [], fun x k => mF x.1.1 x.1.2.1 (fun (y7 : Int) => k .ret ⟨[(2, .pl (.int .i64 y7))], []⟩)⟩
noncomputable def sC : Tab := fun n => match n with | 7 => some TX | 15 => some UG | 31 => some UC | _ => none
noncomputable def CY : Go.Mach.Ends := fun n => match n with | 2 => some ([], [0, 2]) | 12 => some ([], [0, 2, 4]) | 27 => some ([], [0, 2]) | 28 => some ([], [0, 2, 8]) | 52 => some ([], [0]) | 53 => some ([], [0, 2]) | 59 => some ([], [0, 2]) | 60 => some ([], [0, 2, 14]) | 62 => some ([], [2]) | 63 => some ([], [2]) | 116 => some ([], [0, 2]) | 117 => some ([], [0, 2]) | 123 => some ([], [0, 2]) | 244 => some ([], [0, 2]) | 245 => some ([], [0, 2]) | _ => none
noncomputable def EJ : Code := Try.f96.body.getD .skip
theorem QP : aL NC sC CY EJ := by
 intro n E hn f c hs x k h
 unfold sC at hn
 split at hn
 ·cases hn; exact bS hs (by kernel_rfl) (by kernel_rfl) h.it
 ·cases hn; exact bS hs (by kernel_rfl) (by kernel_rfl) h.it
 ·cases hn; exact bS hs (by kernel_rfl) (by kernel_rfl) h.it
 ·cases hn
def iM : List Sh := [.lf (.int .u64)]
def tS (x : aI iM) (Q : List (Bool × List VV) -> Prop) : Prop := AR x.1 (fun (r : Int) => Q (aH [(false, (.int .i64))] [.n] (r, ())))
theorem QH (x : aI iM) (Q : List (Bool × List VV) -> Prop) (h : tS x Q) : aD Try.prog 96 (aM iM x) Q :=
 aC [.n] (G := NC) (ct := sC) (en := CY) (fn := Try.f96) (cd := EJ) (rt := [(false, (.int .i64))]) Try.func96 (by kernel_rfl) (by kernel_rfl) (Nat.le_of_ble_eq_true rfl) QP EG (aG rfl) h.it (by kernel_rfl)
noncomputable def xS : FuncId -> List VV -> (List (Bool × List VV) -> Prop) -> Prop := fun f args Q => if f = 96 then unA iM args (fun x => tS x Q) else C9 f args Q
theorem A4 : ∀ f args Q, xS f args Q -> aD Try.prog f args Q := aE EG (f0 := 96) iM (fun x Q => tS x Q) QH
noncomputable def GU : Cfg := ⟨Try.prog, tt, xS, fun _ _ _ => False, none, false⟩
def aGr (a0 : Int) (Q : Int -> Prop) : Prop :=
 s4 a0 (fun (r1 : Int) => AR (IntKind.u64.wrap (aO r1 (IntKind.i64.wrap (0 - r1)))) (fun (r2 : Int) => Q r2))
structure TR (a0 : Int) (Q : Int -> Prop) : Prop where
 it : aGr a0 Q
noncomputable def RB : Tab := fun n => none
noncomputable def QQ : Go.Mach.Ends := fun n => match n with | 2 => some ([], [0]) | 6 => some ([], [0]) | 14 => some ([], [2]) | 15 => some ([], [2]) | _ => none
noncomputable def V3 : Code := Try.f86.body.getD .skip
theorem aCc : aL GU RB QQ V3 := by
 intro n E hn f c hs x k h
 cases hn
def rM : List Sh := [.lf (.int .i64)]
def IL (x : aI rM) (Q : List (Bool × List VV) -> Prop) : Prop := TR x.1 (fun (r : Int) => Q (aH [(false, (.int .i64))] [.n] (r, ())))
theorem aCW (x : aI rM) (Q : List (Bool × List VV) -> Prop) (h : IL x Q) : aD Try.prog 86 (aM rM x) Q :=
 aC [.n] (G := GU) (ct := RB) (en := QQ) (fn := Try.f86) (cd := V3) (rt := [(false, (.int .i64))]) Try.func86 (by kernel_rfl) (by kernel_rfl) (Nat.le_of_ble_eq_true rfl) aCc A4 (aG rfl) h.it (by kernel_rfl)
noncomputable def PQ : FuncId -> List VV -> (List (Bool × List VV) -> Prop) -> Prop := fun f args Q => if f = 86 then unA rM args (fun x => IL x Q) else xS f args Q
theorem ON : ∀ f args Q, PQ f args Q -> aD Try.prog f args Q := aE A4 (f0 := 86) rM (fun x Q => IL x Q) aCW
noncomputable def aAR : Cfg := ⟨Try.prog, tt, PQ, fun _ _ _ => False, none, false⟩
def nW (x1 : List Int) (x2 : Int) (K0 : Int -> Prop) (s : Int × Int) (nx : (Int × Int) -> Prop) : Prop :=
 if (decide (s.2 < x2)) = true then ck ((0 : Int) <= s.2 /\ s.2 < (x1.length : Int)) (TR (IntKind.i64.wrap (x1.getD ((s.2).toNat) 0)) (fun (r2 : Int) => nx (aO s.1 r2, IntKind.i64.wrap (s.2 + 1)))) else K0 s.1
structure L3 (x1 : List Int) (x2 : Int) (K0 : Int -> Prop) (s : Int × Int) : Prop where
 it : Go.Mach.Loop (nW x1 x2 K0) s
def aDn (a0 : (List Int) × Int × List Int) (Q : Int -> Prop) : Prop :=
 yD (a0.1, (a0.2.1, a0.2.2)) (fun (r1 : Bool) => if (!r1) = true then Q 0 else L3 a0.2.2 (a0.2.2.length : Int) (fun (y3 : Int) => Q y3) (0, 0))
structure KM (a0 : (List Int) × Int × List Int) (Q : Int -> Prop) : Prop where
 it : aDn a0 Q
noncomputable def aB4 : Ent := ⟨[3, 10, 11, 12], [.lf (.int .i64), .lf (.fz false (.int .i32)), .lf (.int .i64), .lf (.int .i64)], [], fun x k => L3 x.1.2.1 x.1.2.2.1 (fun (y4 : Int) => k (.exit 0) ⟨[(3, .pl (.int .i64 y4))], []⟩) (x.1.1, x.1.2.2.2.1)⟩
noncomputable def AH : Tab := fun n => match n with | 122 => some aB4 | _ => none
noncomputable def LH : Go.Mach.Ends := fun n => match n with | 2 => some ([], [1]) | 12 => some ([], [1, 8]) | 14 => some ([], [1, 3]) | 27 => some ([], [1]) | 52 => some ([], [2]) | 53 => some ([], [2]) | 60 => some ([], [3, 10, 11, 12]) | 62 => some ([], [2]) | 63 => some ([], [2]) | 122 => some ([], [3, 10, 11, 12]) | 488 => some ([], [3, 10, 11, 12, 13]) | 1956 => some ([], [3, 10, 11, 12]) | 1957 => some ([], [3]) | 1959 => some ([], [3, 10, 11, 12]) | 7832 => some ([], [3, 5, 10, 11, 12]) | 7833 => some ([], [3, 10, 11, 12]) | _ => none
noncomputable def N9 : Code := Try.f61.body.getD .skip
theorem ZL : aL aAR AH LH N9 := by
 intro n E hn f c hs x k h
 unfold AH at hn
 split at hn
 ·cases hn; exact aK hs (by kernel_rfl) (fun y : Int × Int => ⟨[(3, .pl (.int .i64 y.1)), (10, .fz false (.int .i32) x.1.2.1), (11, .pl (.int .i64 x.1.2.2.1)), (12, .pl (.int .i64 y.2))], []⟩) (x.1.1, x.1.2.2.2.1) (by kernel_rfl) (fun y X => by kernel_rfl) h.it
 ·cases hn
def mN : List Sh := [.agg [.fz false (.int .i64), .int .i64, .fz false (.int .i32)]]
def C8 (x : aI mN) (Q : List (Bool × List VV) -> Prop) : Prop := KM (x.1.1, (x.1.2.1, x.1.2.2.1)) (fun (r : Int) => Q (aH [(false, (.int .i64))] [.n] (r, ())))
theorem Y3 (x : aI mN) (Q : List (Bool × List VV) -> Prop) (h : C8 x Q) : aD Try.prog 61 (aM mN x) Q :=
 aC [.n] (G := aAR) (ct := AH) (en := LH) (fn := Try.f61) (cd := N9) (rt := [(false, (.int .i64))]) Try.func61 (by kernel_rfl) (by kernel_rfl) (Nat.le_of_ble_eq_true rfl) ZL ON (aG rfl) h.it (by kernel_rfl)
noncomputable def FD : FuncId -> List VV -> (List (Bool × List VV) -> Prop) -> Prop := fun f args Q => if f = 61 then unA mN args (fun x => C8 x Q) else PQ f args Q
theorem G6 : ∀ f args Q, FD f args Q -> aD Try.prog f args Q := aE ON (f0 := 61) mN (fun x Q => C8 x Q) Y3
noncomputable def RP : Cfg := ⟨Try.prog, tt, FD, fun _ _ _ => False, none, false⟩
def JS (a0 : List Int) (Q : (List Int) -> Prop) : Prop :=
 nq a0 (Q ([] : List Int)) (ck ((([] : List Int).length + a0.length) * 8 <= 140737488355328) (Q (([] : List Int) ++ a0)))
structure aW (a0 : List Int) (Q : (List Int) -> Prop) : Prop where
 it : JS a0 Q
noncomputable def tE : Tab := fun n => none
noncomputable def tA : Go.Mach.Ends := fun n => match n with | 2 => some ([], [0]) | 12 => some ([], [0, 4]) | 14 => some ([], [2]) | 15 => some ([], [2]) | 27 => some ([], [0]) | 52 => some ([], [2]) | 53 => some ([], [2]) | _ => none
noncomputable def uA : Code := Try.f20.body.getD .skip
theorem F5 : aL RP tE tA uA := by
 intro n E hn f c hs x k h
 cases hn
def dK : List Sh := [.lf (.fz false (.int .i64))]
def lL (x : aI dK) (Q : List (Bool × List VV) -> Prop) : Prop := aW x.1 (fun (r : List Int) => Q (aH [(false, (.slc (.int .i64)))] [.n] (r, ())))
theorem F8 (x : aI dK) (Q : List (Bool × List VV) -> Prop) (h : lL x Q) : aD Try.prog 20 (aM dK x) Q :=
 aC [.n] (G := RP) (ct := tE) (en := tA) (fn := Try.f20) (cd := uA) (rt := [(false, (.slc (.int .i64)))]) Try.func20 (by kernel_rfl) (by kernel_rfl) (Nat.le_of_ble_eq_true rfl) F5 G6 (aG rfl) h.it (by kernel_rfl)
noncomputable def nK : FuncId -> List VV -> (List (Bool × List VV) -> Prop) -> Prop := fun f args Q => if f = 20 then unA dK args (fun x => lL x Q) else FD f args Q
theorem rA : ∀ f args Q, nK f args Q -> aD Try.prog f args Q := aE G6 (f0 := 20) dK (fun x Q => lL x Q) F8
noncomputable def xA : Cfg := ⟨Try.prog, tt, nK, fun _ _ _ => False, none, false⟩
def aJ8 (a0 : Int) (Q : Int -> Prop) : Prop :=
 ck ((0 : Int) <= 30) (ck ((0 : Int) <= 27) (ck ((0 : Int) <= 31) (Q (IntKind.u64.wrap ((BitVec.ofInt (IntKind.u64).bits (IntKind.u64.wrap ((IntKind.u64.wrap ((BitVec.ofInt (IntKind.u64).bits (IntKind.u64.wrap ((IntKind.u64.wrap ((BitVec.ofInt (IntKind.u64).bits (IntKind.u64.wrap (a0 + 11400714819323198485)) ^^^ BitVec.ofInt (IntKind.u64).bits ((IntKind.u64.wrap (a0 + 11400714819323198485)).fdiv (2 ^ (min ((30 : Int)).toNat (IntKind.u64).bits)))).toNat : Nat)) * 13787848793156543929)) ^^^ BitVec.ofInt (IntKind.u64).bits ((IntKind.u64.wrap ((IntKind.u64.wrap ((BitVec.ofInt (IntKind.u64).bits (IntKind.u64.wrap (a0 + 11400714819323198485)) ^^^ BitVec.ofInt (IntKind.u64).bits ((IntKind.u64.wrap (a0 + 11400714819323198485)).fdiv (2 ^ (min ((30 : Int)).toNat (IntKind.u64).bits)))).toNat : Nat)) * 13787848793156543929)).fdiv (2 ^ (min ((27 : Int)).toNat (IntKind.u64).bits)))).toNat : Nat)) * 10723151780598845931)) ^^^ BitVec.ofInt (IntKind.u64).bits ((IntKind.u64.wrap ((IntKind.u64.wrap ((BitVec.ofInt (IntKind.u64).bits (IntKind.u64.wrap ((IntKind.u64.wrap ((BitVec.ofInt (IntKind.u64).bits (IntKind.u64.wrap (a0 + 11400714819323198485)) ^^^ BitVec.ofInt (IntKind.u64).bits ((IntKind.u64.wrap (a0 + 11400714819323198485)).fdiv (2 ^ (min ((30 : Int)).toNat (IntKind.u64).bits)))).toNat : Nat)) * 13787848793156543929)) ^^^ BitVec.ofInt (IntKind.u64).bits ((IntKind.u64.wrap ((IntKind.u64.wrap ((BitVec.ofInt (IntKind.u64).bits (IntKind.u64.wrap (a0 + 11400714819323198485)) ^^^ BitVec.ofInt (IntKind.u64).bits ((IntKind.u64.wrap (a0 + 11400714819323198485)).fdiv (2 ^ (min ((30 : Int)).toNat (IntKind.u64).bits)))).toNat : Nat)) * 13787848793156543929)).fdiv (2 ^ (min ((27 : Int)).toNat (IntKind.u64).bits)))).toNat : Nat)) * 10723151780598845931)).fdiv (2 ^ (min ((31 : Int)).toNat (IntKind.u64).bits)))).toNat : Nat)))))
structure PO (a0 : Int) (Q : Int -> Prop) : Prop where
 it : aJ8 a0 Q
noncomputable def aAb : Tab := fun n => none
noncomputable def aBE : Go.Mach.Ends := fun n => match n with | 2 => some ([], [0]) | 6 => some ([], [0]) | 14 => some ([], [0]) | 30 => some ([], [0]) | 62 => some ([], [2]) | 63 => some ([], [2]) | _ => none
noncomputable def aDI : Code := Try.f89.body.getD .skip
theorem aGX : aL xA aAb aBE aDI := by
 intro n E hn f c hs x k h
 cases hn
def zF : List Sh := [.lf (.int .u64)]
def SX (x : aI zF) (Q : List (Bool × List VV) -> Prop) : Prop := PO x.1 (fun (r : Int) => Q (aH [(false, (.int .u64))] [.n] (r, ())))
theorem aGd (x : aI zF) (Q : List (Bool × List VV) -> Prop) (h : SX x Q) : aD Try.prog 89 (aM zF x) Q :=
 aC [.n] (G := xA) (ct := aAb) (en := aBE) (fn := Try.f89) (cd := aDI) (rt := [(false, (.int .u64))]) Try.func89 (by kernel_rfl) (by kernel_rfl) (Nat.le_of_ble_eq_true rfl) aGX rA (aG rfl) h.it (by kernel_rfl)
noncomputable def YH : FuncId -> List VV -> (List (Bool × List VV) -> Prop) -> Prop := fun f args Q => if f = 89 then unA zF args (fun x => SX x Q) else nK f args Q
theorem WH : ∀ f args Q, YH f args Q -> aD Try.prog f args Q := aE rA (f0 := 89) zF (fun x Q => SX x Q) aGd
noncomputable def aFt : Cfg := ⟨Try.prog, tt, YH, fun _ _ _ => False, none, false⟩
def aKq (a0 : Int) (a1 : Int) (a2 : Int) (Q : Int -> Prop) : Prop :=
 PO a0 (fun (r1 : Int) => PO (IntKind.u64.wrap ((BitVec.ofInt (IntKind.u64).bits r1 ^^^ BitVec.ofInt (IntKind.u64).bits a1).toNat : Nat)) (fun (r2 : Int) => PO (IntKind.u64.wrap ((BitVec.ofInt (IntKind.u64).bits r2 ^^^ BitVec.ofInt (IntKind.u64).bits a2).toNat : Nat)) (fun (r3 : Int) => Q r3)))
structure aBt (a0 : Int) (a1 : Int) (a2 : Int) (Q : Int -> Prop) : Prop where
 it : aKq a0 a1 a2 Q
noncomputable def aDX : Tab := fun n => none
noncomputable def aDe : Go.Mach.Ends := fun n => match n with | 2 => some ([], [0, 1, 2]) | 6 => some ([], [6]) | 7 => some ([], [6]) | _ => none
noncomputable def aFV : Code := Try.f63.body.getD .skip
theorem aHw : aL aFt aDX aDe aFV := by
 intro n E hn f c hs x k h
 cases hn
def CD : List Sh := [.lf (.int .u64), .lf (.int .u64), .lf (.int .u64)]
def ZW (x : aI CD) (Q : List (Bool × List VV) -> Prop) : Prop := aBt x.1 x.2.1 x.2.2.1 (fun (r : Int) => Q (aH [(false, (.int .u64))] [.n] (r, ())))
theorem aIF (x : aI CD) (Q : List (Bool × List VV) -> Prop) (h : ZW x Q) : aD Try.prog 63 (aM CD x) Q :=
 aC [.n] (G := aFt) (ct := aDX) (en := aDe) (fn := Try.f63) (cd := aFV) (rt := [(false, (.int .u64))]) Try.func63 (by kernel_rfl) (by kernel_rfl) (Nat.le_of_ble_eq_true rfl) aHw WH (aG rfl) h.it (by kernel_rfl)
noncomputable def aD4 : FuncId -> List VV -> (List (Bool × List VV) -> Prop) -> Prop := fun f args Q => if f = 63 then unA CD args (fun x => ZW x Q) else YH f args Q
theorem aAT : ∀ f args Q, aD4 f args Q -> aD Try.prog f args Q := aE WH (f0 := 63) CD (fun x Q => ZW x Q) aIF
noncomputable def aHp : Cfg := ⟨Try.prog, tt, aD4, fun _ _ _ => False, none, false⟩
def aEV (a0 : Int) (Q : Int -> Prop) : Prop :=
 gX a0 0 62 (fun (r1 : Int) => Q r1)
structure M5 (a0 : Int) (Q : Int -> Prop) : Prop where
 it : aEV a0 Q
noncomputable def NL : Tab := fun n => none
noncomputable def NH : Go.Mach.Ends := fun n => match n with | 2 => some ([], [0]) | 6 => some ([], [2]) | 7 => some ([], [2]) | _ => none
noncomputable def RK : Code := Try.f87.body.getD .skip
theorem aBb : aL aHp NL NH RK := by
 intro n E hn f c hs x k h
 cases hn
def oY : List Sh := [.lf (.int .i64)]
def FH (x : aI oY) (Q : List (Bool × List VV) -> Prop) : Prop := M5 x.1 (fun (r : Int) => Q (aH [(false, (.int .i64))] [.n] (r, ())))
theorem aBK (x : aI oY) (Q : List (Bool × List VV) -> Prop) (h : FH x Q) : aD Try.prog 87 (aM oY x) Q :=
 aC [.n] (G := aHp) (ct := NL) (en := NH) (fn := Try.f87) (cd := RK) (rt := [(false, (.int .i64))]) Try.func87 (by kernel_rfl) (by kernel_rfl) (Nat.le_of_ble_eq_true rfl) aBb aAT (aG rfl) h.it (by kernel_rfl)
noncomputable def IR : FuncId -> List VV -> (List (Bool × List VV) -> Prop) -> Prop := fun f args Q => if f = 87 then unA oY args (fun x => FH x Q) else aD4 f args Q
theorem KV : ∀ f args Q, IR f args Q -> aD Try.prog f args Q := aE aAT (f0 := 87) oY (fun x Q => FH x Q) aBK
noncomputable def VY : Cfg := ⟨Try.prog, tt, IR, fun _ _ _ => False, none, false⟩
def aD2 (a0 : Int) (a1 : Int) (a2 : Int) (Q : Int -> Prop) : Prop :=
 M5 a1 (fun (r1 : Int) => s4 a0 (fun (r2 : Int) => ck ((0 : Int) <= r1) (ck ((0 : Int) <= r1) (Q ((IntKind.i64.wrap (r2 + (IntKind.i64.wrap (IntKind.u64.wrap ((BitVec.ofInt (IntKind.u64).bits a2 &&& BitVec.ofInt (IntKind.u64).bits (IntKind.u64.wrap ((IntKind.u64.wrap (1 * 2 ^ (min (r1).toNat (IntKind.u64).bits))) - 1))).toNat : Nat))))).fdiv (2 ^ (min (r1).toNat (IntKind.i64).bits)))))))
structure I2 (a0 : Int) (a1 : Int) (a2 : Int) (Q : Int -> Prop) : Prop where
 it : aD2 a0 a1 a2 Q
noncomputable def MF : Tab := fun n => none
noncomputable def LT : Go.Mach.Ends := fun n => match n with | 2 => some ([], [0, 1, 2]) | 6 => some ([], [0, 1, 2]) | 14 => some ([], [6]) | 15 => some ([], [6]) | _ => none
noncomputable def OG : Code := Try.f62.body.getD .skip
theorem XV : aL VY MF LT OG := by
 intro n E hn f c hs x k h
 cases hn
def mM : List Sh := [.lf (.int .i64), .lf (.int .i64), .lf (.int .u64)]
def DD (x : aI mM) (Q : List (Bool × List VV) -> Prop) : Prop := I2 x.1 x.2.1 x.2.2.1 (fun (r : Int) => Q (aH [(false, (.int .i64))] [.n] (r, ())))
theorem YM (x : aI mM) (Q : List (Bool × List VV) -> Prop) (h : DD x Q) : aD Try.prog 62 (aM mM x) Q :=
 aC [.n] (G := VY) (ct := MF) (en := LT) (fn := Try.f62) (cd := OG) (rt := [(false, (.int .i64))]) Try.func62 (by kernel_rfl) (by kernel_rfl) (Nat.le_of_ble_eq_true rfl) XV KV (aG rfl) h.it (by kernel_rfl)
noncomputable def FX : FuncId -> List VV -> (List (Bool × List VV) -> Prop) -> Prop := fun f args Q => if f = 62 then unA mM args (fun x => DD x Q) else IR f args Q
theorem GJ : ∀ f args Q, FX f args Q -> aD Try.prog f args Q := aE KV (f0 := 62) mM (fun x Q => DD x Q) YM
noncomputable def R4 : Cfg := ⟨Try.prog, tt, FX, fun _ _ _ => False, none, false⟩
def aEt (a0 : Int) (a1 : Int) (Q : Int -> Prop) : Prop :=
 gX a1 1 32 (fun (r1 : Int) => ck ((0 : Int) <= (IntKind.i64.wrap (r1 - 1))) (s4 a0 (fun (r2 : Int) => eX r2 (IntKind.i64.wrap (0 - (IntKind.i64.wrap ((IntKind.i64.wrap (1 * 2 ^ (min (IntKind.i64.wrap (r1 - 1)).toNat (IntKind.i64).bits))) - 1)))) (IntKind.i64.wrap ((IntKind.i64.wrap (1 * 2 ^ (min (IntKind.i64.wrap (r1 - 1)).toNat (IntKind.i64).bits))) - 1)) (fun (r3 : Int) => Q r3))))
structure PY (a0 : Int) (a1 : Int) (Q : Int -> Prop) : Prop where
 it : aEt a0 a1 Q
noncomputable def M7 : Tab := fun n => none
noncomputable def OB : Go.Mach.Ends := fun n => match n with | 2 => some ([], [0, 1]) | 6 => some ([], [0, 5]) | 14 => some ([], [4]) | 15 => some ([], [4]) | _ => none
noncomputable def SS : Code := Try.f64.body.getD .skip
theorem aBo : aL R4 M7 OB SS := by
 intro n E hn f c hs x k h
 cases hn
def oA : List Sh := [.lf (.int .i64), .lf (.int .i64)]
def E9 (x : aI oA) (Q : List (Bool × List VV) -> Prop) : Prop := PY x.1 x.2.1 (fun (r : Int) => Q (aH [(false, (.int .i64))] [.n] (r, ())))
theorem aBQ (x : aI oA) (Q : List (Bool × List VV) -> Prop) (h : E9 x Q) : aD Try.prog 64 (aM oA x) Q :=
 aC [.n] (G := R4) (ct := M7) (en := OB) (fn := Try.f64) (cd := SS) (rt := [(false, (.int .i64))]) Try.func64 (by kernel_rfl) (by kernel_rfl) (Nat.le_of_ble_eq_true rfl) aBo GJ (aG rfl) h.it (by kernel_rfl)
noncomputable def JE : FuncId -> List VV -> (List (Bool × List VV) -> Prop) -> Prop := fun f args Q => if f = 64 then unA oA args (fun x => E9 x Q) else FX f args Q
theorem L4 : ∀ f args Q, JE f args Q -> aD Try.prog f args Q := aE GJ (f0 := 64) oA (fun x Q => E9 x Q) aBQ
noncomputable def U0 : Cfg := ⟨Try.prog, tt, JE, fun _ _ _ => False, none, false⟩
def nN (x0 : Int) (x1 : Int) (x2 : Int) (x3 : Int) (x4 : List Int) (x5 : Int) (K0 : (List Int) -> Prop) (s : Int × List Int) (nx : (Int × List Int) -> Prop) : Prop :=
 if (decide (s.1 < x5)) = true then ck ((0 : Int) <= s.1 /\ s.1 < (x4.length : Int)) (aBt x1 x2 (IntKind.u64.wrap s.1) (fun (r8 : Int) => I2 (IntKind.i64.wrap (x4.getD ((s.1).toNat) 0)) x3 r8 (fun (r9 : Int) => PY r9 x0 (fun (r10 : Int) => ck ((s.2.length + [IntKind.i8.wrap r10].length) * 1 <= 140737488355328) (nx (IntKind.i64.wrap (s.1 + 1), s.2 ++ [IntKind.i8.wrap r10])))))) else K0 s.2
structure LS (x0 : Int) (x1 : Int) (x2 : Int) (x3 : Int) (x4 : List Int) (x5 : Int) (K0 : (List Int) -> Prop) (s : Int × List Int) : Prop where
 it : Go.Mach.Loop (nN x0 x1 x2 x3 x4 x5 K0) s
def OO (a0 : (List Int) × Int × List Int) (a1 : Int) (a2 : Int) (a3 : Int) (Q : (((List Int) × Int × List Int) × Int) -> Prop) : Prop :=
 yD (a0.1, (a0.2.1, a0.2.2)) (fun (r1 : Bool) => if (((!r1) || (decide (a1 < 2))) || (decide (8 < a1))) = true then Q ((([] : List Int), (0, ([] : List Int))), 1) else KM (a0.1, (a0.2.1, a0.2.2)) (fun (r2 : Int) => aW a0.1 (fun (r3 : List Int) => BX (IntKind.i64.wrap (a0.2.1 + (aO 0 (IntKind.i64.wrap (r2 - (IntKind.i64.wrap (a1 - 1))))))) 64 (fun (r4 : Bool) => if (!r4) = true then Q ((([] : List Int), (0, ([] : List Int))), 3) else LS a1 a2 a3 (aO 0 (IntKind.i64.wrap (r2 - (IntKind.i64.wrap (a1 - 1))))) a0.2.2 (a0.2.2.length : Int) (fun (y11 : List Int) => Q ((r3, ((IntKind.i64.wrap (a0.2.1 + (aO 0 (IntKind.i64.wrap (r2 - (IntKind.i64.wrap (a1 - 1))))))), y11)), 0)) (0, ([] : List Int))))))
structure JQ (a0 : (List Int) × Int × List Int) (a1 : Int) (a2 : Int) (a3 : Int) (Q : (((List Int) × Int × List Int) × Int) -> Prop) : Prop where
 it : OO a0 a1 a2 a3 Q
noncomputable def aBn : Ent := ⟨[1, 2, 3, 8, 10, 11, 47, 48, 49], [.lf (.int .i64), .lf (.int .u64), .lf (.int .u64), .lf (.cst (.ptr 0 0)), .lf (.int .i64), .lf (.cst (.ptr 1 0)), .lf (.fz false (.int .i32)), .lf (.int .i64), .lf (.int .i64)], [.box [.cst (.pl (.slice none 0 0)), .int .i64, .cst (.pl (.slice none 0 0))] false, .box [.cst (.own 2), .int .i64, .cst (.pl (.slice none 0 0))] false, .lst true (.int .i64) false], fun x k => LS x.1.1 x.1.2.1 x.1.2.2.1 x.1.2.2.2.2.1 x.1.2.2.2.2.2.2.1 x.1.2.2.2.2.2.2.2.1 (fun (y12 : List Int) => k (.exit 0) ⟨[(8, .ptr 0 0), (11, .ptr 1 0)], [.box [.pl (.slice none 0 0), .pl (.int .i64 x.2.1.2.1), .pl (.slice none 0 0)] false, .box [.own 2, .pl (.int .i64 x.2.2.1.2.1), .own 3] false, .lst true (.int .i64) x.2.2.2.1 false, .lst true (.int .i8) y12 false]⟩) (x.1.2.2.2.2.2.2.2.2.1, ([] : List Int))⟩
noncomputable def AE : Tab := fun n => match n with | 506 => some aBn | _ => none
noncomputable def MH : Go.Mach.Ends := fun n => match n with | 2 => some ([], [1, 2, 3, 4, 8]) | 12 => some ([], [1, 2, 3, 4, 8, 25]) | 14 => some ([], [1, 2, 3, 4, 8, 10]) | 27 => some ([], [1, 2, 3, 4, 8]) | 30 => some ([], [1, 2, 3, 4, 8, 10, 11]) | 52 => some ([], [8, 9]) | 53 => some ([], [8, 9]) | 124 => some ([], [1, 2, 3, 4, 8, 10, 11, 44]) | 251 => some ([], [1, 2, 3, 4, 8, 10, 11]) | 252 => some ([], [1, 2, 3, 8, 10, 11, 47, 48, 49]) | 254 => some ([], [8, 9]) | 255 => some ([], [8, 9]) | 500 => some ([], [8, 9]) | 501 => some ([], [8, 9]) | 506 => some ([⟨11, some 2, false, (.int .i8)⟩], [1, 2, 3, 8, 10, 11, 47, 48, 49]) | 2024 => some ([], [1, 2, 3, 8, 10, 11, 47, 48, 49, 50]) | 8100 => some ([], [1, 2, 3, 8, 10, 11, 47, 48, 49]) | 8101 => some ([], [8, 11]) | 8103 => some ([], [1, 2, 3, 8, 10, 11, 47, 48, 49]) | 32408 => some ([], [1, 2, 3, 8, 10, 11, 12, 13, 47, 48, 49]) | 64818 => some ([], [1, 2, 3, 8, 10, 11, 14, 47, 48, 49]) | 64819 => some ([], [1, 2, 3, 8, 10, 11, 47, 48, 49]) | _ => none
noncomputable def M4 : Code := Try.f40.body.getD .skip
theorem ZR : aL U0 AE MH M4 := by
 intro n E hn f c hs x k h
 unfold AE at hn
 split at hn
 ·cases hn; exact aK hs (by kernel_rfl) (fun y : Int × List Int => ⟨[(1, .pl (.int .i64 x.1.1)), (2, .pl (.int .u64 x.1.2.1)), (3, .pl (.int .u64 x.1.2.2.1)), (8, .ptr 0 0), (10, .pl (.int .i64 x.1.2.2.2.2.1)), (11, .ptr 1 0), (47, .fz false (.int .i32) x.1.2.2.2.2.2.2.1), (48, .pl (.int .i64 x.1.2.2.2.2.2.2.2.1)), (49, .pl (.int .i64 y.1))], [.box [.pl (.slice none 0 0), .pl (.int .i64 x.2.1.2.1), .pl (.slice none 0 0)] false, .box [.own 2, .pl (.int .i64 x.2.2.1.2.1), .own 3] false, .lst true (.int .i64) x.2.2.2.1 false, .lst true (.int .i8) y.2 false]⟩) (x.1.2.2.2.2.2.2.2.2.1, ([] : List Int)) (by kernel_rfl) (fun y X => by kernel_rfl) h.it
 ·cases hn
def mI : List Sh := [.agg [.fz false (.int .i64), .int .i64, .fz false (.int .i32)], .lf (.int .i64), .lf (.int .u64), .lf (.int .u64)]
def DH (x : aI mI) (Q : List (Bool × List VV) -> Prop) : Prop := JQ (x.1.1, (x.1.2.1, x.1.2.2.1)) x.2.1 x.2.2.1 x.2.2.2.1 (fun (r : ((List Int) × Int × List Int) × Int) => Q (aH [(true, (.pair (.slc (.int .i64)) (.pair (.int .i64) (.slc (.int .i8))))), (false, (.int .i64))] [.n, .n] (r.1, (r.2, ()))))
theorem ZB (x : aI mI) (Q : List (Bool × List VV) -> Prop) (h : DH x Q) : aD Try.prog 40 (aM mI x) Q :=
 aC [.n, .n] (G := U0) (ct := AE) (en := MH) (fn := Try.f40) (cd := M4) (rt := [(true, (.pair (.slc (.int .i64)) (.pair (.int .i64) (.slc (.int .i8))))), (false, (.int .i64))]) Try.func40 (by kernel_rfl) (by kernel_rfl) (Nat.le_of_ble_eq_true rfl) ZR L4 (aG rfl) h.it (by kernel_rfl)
noncomputable def FE : FuncId -> List VV -> (List (Bool × List VV) -> Prop) -> Prop := fun f args Q => if f = 40 then unA mI args (fun x => DH x Q) else JE f args Q
theorem GW : ∀ f args Q, FE f args Q -> aD Try.prog f args Q := aE L4 (f0 := 40) mI (fun x Q => DH x Q) ZB
noncomputable def SN : Cfg := ⟨Try.prog, tt, FE, fun _ _ _ => False, none, false⟩
def fE (x0 : List Int) (x1 : List Int) (x2 : Int) (K0 : Unit -> Prop) (K1 : Unit -> Prop) (s : Int) (nx : Int -> Prop) : Prop :=
 if (decide (s < x2)) = true then ck ((0 : Int) <= s /\ s < (x0.length : Int)) (ck ((0 : Int) <= s /\ s < (x1.length : Int)) (if ((x0.getD ((s).toNat) 0) != (x1.getD ((s).toNat) 0)) = true then K1 () else nx (IntKind.i64.wrap (s + 1)))) else K0 ()
structure tI (x0 : List Int) (x1 : List Int) (x2 : Int) (K0 : Unit -> Prop) (K1 : Unit -> Prop) (s : Int) : Prop where
 it : Go.Mach.Loop (fE x0 x1 x2 K0 K1) s
def uB (a0 : List Int) (a1 : List Int) (Q : Bool -> Prop) : Prop :=
 if ((a0.length : Int) != (a1.length : Int)) = true then Q false else tI a0 a1 (a0.length : Int) (fun (y1 : Unit) => Q true) (fun (y2 : Unit) => Q false) 0
structure gN (a0 : List Int) (a1 : List Int) (Q : Bool -> Prop) : Prop where
 it : uB a0 a1 Q
noncomputable def G2 : Ent := ⟨[0, 1, 12, 13], [.lf (.fz false (.int .i64)), .lf (.fz false (.int .i64)), .lf (.int .i64), .lf (.int .i64)], [], fun x k => tI x.1.1 x.1.2.1 x.1.2.2.1 (fun (y3 : Unit) => k (.exit 0) ⟨[], []⟩) (fun (y4 : Unit) => k .ret ⟨[(4, .pl (.bool false))], []⟩) x.1.2.2.2.1⟩
noncomputable def kW : Tab := fun n => match n with | 58 => some G2 | _ => none
noncomputable def sS : Go.Mach.Ends := fun n => match n with | 2 => some ([], [0, 1]) | 12 => some ([], [0, 1, 10]) | 27 => some ([], [0, 1]) | 28 => some ([], [0, 1, 12, 13]) | 30 => some ([], [4]) | 31 => some ([], [4]) | 52 => some ([], [4]) | 53 => some ([], [4]) | 58 => some ([], [0, 1, 12, 13]) | 232 => some ([], [0, 1, 12, 13, 14]) | 932 => some ([], [0, 1, 12, 13]) | 933 => some ([], []) | 935 => some ([], [0, 1, 12, 13]) | 3736 => some ([], [0, 1, 5, 12, 13]) | 7474 => some ([], [0, 1, 12, 13, 24]) | 14951 => some ([], [0, 1, 12, 13]) | 29900 => some ([], [4]) | 29901 => some ([], [4]) | _ => none
noncomputable def uL : Code := Try.f38.body.getD .skip
theorem EZ : aL SN kW sS uL := by
 intro n E hn f c hs x k h
 unfold kW at hn
 split at hn
 ·cases hn; exact aK hs (by kernel_rfl) (fun y : Int => ⟨[(0, .fz false (.int .i64) x.1.1), (1, .fz false (.int .i64) x.1.2.1), (12, .pl (.int .i64 x.1.2.2.1)), (13, .pl (.int .i64 y))], []⟩) x.1.2.2.2.1 (by kernel_rfl) (fun y X => by kernel_rfl) h.it
 ·cases hn
def dJ : List Sh := [.lf (.fz false (.int .i64)), .lf (.fz false (.int .i64))]
def l6 (x : aI dJ) (Q : List (Bool × List VV) -> Prop) : Prop := gN x.1 x.2.1 (fun (r : Bool) => Q (aH [(false, .bool)] [.n] (r, ())))
theorem F2 (x : aI dJ) (Q : List (Bool × List VV) -> Prop) (h : l6 x Q) : aD Try.prog 38 (aM dJ x) Q :=
 aC [.n] (G := SN) (ct := kW) (en := sS) (fn := Try.f38) (cd := uL) (rt := [(false, .bool)]) Try.func38 (by kernel_rfl) (by kernel_rfl) (Nat.le_of_ble_eq_true rfl) EZ GW (aG rfl) h.it (by kernel_rfl)
noncomputable def nB : FuncId -> List VV -> (List (Bool × List VV) -> Prop) -> Prop := fun f args Q => if f = 38 then unA dJ args (fun x => l6 x Q) else FE f args Q
theorem q8 : ∀ f args Q, nB f args Q -> aD Try.prog f args Q := aE GW (f0 := 38) dJ (fun x Q => l6 x Q) F2
noncomputable def wF : Cfg := ⟨Try.prog, tt, nB, fun _ _ _ => False, none, false⟩
def aGJ (a0 : List Int) (a1 : List Int) (Q : Bool -> Prop) : Prop :=
 gN a0 a1 (fun (r1 : Bool) => Q r1)
structure jR (a0 : List Int) (a1 : List Int) (Q : Bool -> Prop) : Prop where
 it : aGJ a0 a1 Q
noncomputable def Q8 : Tab := fun n => none
noncomputable def QX : Go.Mach.Ends := fun n => match n with | 2 => some ([], [0, 1]) | 6 => some ([], [4]) | 7 => some ([], [4]) | _ => none
noncomputable def VA : Code := Try.f19.body.getD .skip
theorem aDE : aL wF Q8 QX VA := by
 intro n E hn f c hs x k h
 cases hn
def qV : List Sh := [.lf (.fz false (.int .i64)), .lf (.fz false (.int .i64))]
def IJ (x : aI qV) (Q : List (Bool × List VV) -> Prop) : Prop := jR x.1 x.2.1 (fun (r : Bool) => Q (aH [(false, .bool)] [.n] (r, ())))
theorem aEA (x : aI qV) (Q : List (Bool × List VV) -> Prop) (h : IJ x Q) : aD Try.prog 19 (aM qV x) Q :=
 aC [.n] (G := wF) (ct := Q8) (en := QX) (fn := Try.f19) (cd := VA) (rt := [(false, .bool)]) Try.func19 (by kernel_rfl) (by kernel_rfl) (Nat.le_of_ble_eq_true rfl) aDE q8 (aG rfl) h.it (by kernel_rfl)
noncomputable def PI : FuncId -> List VV -> (List (Bool × List VV) -> Prop) -> Prop := fun f args Q => if f = 19 then unA qV args (fun x => IJ x Q) else nB f args Q
theorem NM : ∀ f args Q, PI f args Q -> aD Try.prog f args Q := aE q8 (f0 := 19) qV (fun x Q => IJ x Q) aEA
noncomputable def aAE : Cfg := ⟨Try.prog, tt, PI, fun _ _ _ => False, none, false⟩
def BE (x0 : Int) (x3 : Int) (x4 : List Int) (x6 : Int) (x7 : List Int) (x9 : Int) (K0 : (List Int) -> Prop) (s : Int × List Int) (nx : (Int × List Int) -> Prop) : Prop :=
 if (decide (s.1 < x0)) = true then ck ((0 : Int) <= s.1 /\ s.1 < (x4.length : Int)) (sV (IntKind.i64.wrap (x4.getD ((s.1).toNat) 0)) x3 x9 (fun (r9 : Int) => ck ((0 : Int) <= s.1 /\ s.1 < (x7.length : Int)) (sV (IntKind.i64.wrap (x7.getD ((s.1).toNat) 0)) x6 x9 (fun (r10 : Int) => ck ((s.2.length + [IntKind.i32.wrap (IntKind.i64.wrap (r9 + r10))].length) * 4 <= 140737488355328) (nx (IntKind.i64.wrap (s.1 + 1), s.2 ++ [IntKind.i32.wrap (IntKind.i64.wrap (r9 + r10))])))))) else K0 s.2
structure aCb (x0 : Int) (x3 : Int) (x4 : List Int) (x6 : Int) (x7 : List Int) (x9 : Int) (K0 : (List Int) -> Prop) (s : Int × List Int) : Prop where
 it : Go.Mach.Loop (BE x0 x3 x4 x6 x7 x9 K0) s
def aK3 (a0 : (List Int) × Int × List Int) (a1 : (List Int) × Int × List Int) (Q : (((List Int) × Int × List Int) × Int) -> Prop) : Prop :=
 bR (a0.1, (a0.2.1, a0.2.2)) (fun (r1 : Bool) => jn (fun (v2 : Bool) => if v2 = true then Q ((([] : List Int), (0, ([] : List Int))), 1) else jR a0.1 a1.1 (fun (r5 : Bool) => if (!r5) = true then Q ((([] : List Int), (0, ([] : List Int))), 2) else aW a0.1 (fun (r6 : List Int) => aCb (a0.2.2.length : Int) a0.2.1 a0.2.2 a1.2.1 a1.2.2 (aO (bF a0.2.1 a1.2.1) (IntKind.i64.wrap ((aO a0.2.1 a1.2.1) - 12))) (fun (y11 : List Int) => Q ((r6, ((aO (bF a0.2.1 a1.2.1) (IntKind.i64.wrap ((aO a0.2.1 a1.2.1) - 12))), y11)), 0)) (0, ([] : List Int))))) (fun J3 => if (!r1) = true then J3 true else bR (a1.1, (a1.2.1, a1.2.2)) (fun (r4 : Bool) => J3 (!r4))))
structure aG4 (a0 : (List Int) × Int × List Int) (a1 : (List Int) × Int × List Int) (Q : (((List Int) × Int × List Int) × Int) -> Prop) : Prop where
 it : aK3 a0 a1 Q
noncomputable def aJO : Ent := ⟨[2, 3, 4, 6, 45, 46], [.lf (.cst (.ptr 0 0)), .lf (.cst (.ptr 1 0)), .lf (.cst (.ptr 2 0)), .lf (.cst (.ptr 3 0)), .lf (.int .i64), .lf (.int .i64)], [.box [.fz false (.int .i64), .int .i64, .fz false (.int .i8)] false, .box [.fz false (.int .i64), .int .i64, .fz false (.int .i8)] false, .box [.cst (.pl (.slice none 0 0)), .int .i64, .cst (.pl (.slice none 0 0))] false, .box [.cst (.own 4), .int .i64, .cst (.pl (.slice none 0 0))] false, .lst true (.int .i64) false], fun x k => aCb x.1.2.2.2.2.1 x.2.1.2.1 x.2.1.2.2.1 x.2.2.1.2.1 x.2.2.1.2.2.1 x.2.2.2.2.1.2.1 (fun (y12 : List Int) => k (.exit 1) ⟨[(4, .ptr 0 0), (6, .ptr 1 0)], [.box [.pl (.slice none 0 0), .pl (.int .i64 x.2.2.2.1.2.1), .pl (.slice none 0 0)] false, .box [.own 2, .pl (.int .i64 x.2.2.2.2.1.2.1), .own 3] false, .lst true (.int .i64) x.2.2.2.2.2.1 false, .lst true (.int .i32) y12 false]⟩) (x.1.2.2.2.2.2.1, ([] : List Int))⟩
noncomputable def UJ : Tab := fun n => match n with | 122 => some aJO | _ => none
noncomputable def aCS : Go.Mach.Ends := fun n => match n with | 2 => some ([], [2, 3, 4]) | 14 => some ([], [2, 3, 4, 6]) | 24 => some ([], [2, 3, 4, 9]) | 60 => some ([], [2, 3, 4, 6, 45, 46]) | 62 => some ([], [4, 5]) | 63 => some ([], [4, 5]) | 100 => some ([], [4, 5]) | 101 => some ([], [4, 5]) | 102 => some ([], [2, 3, 4, 19]) | 122 => some ([⟨6, some 2, false, (.int .i32)⟩], [2, 3, 4, 6, 45, 46]) | 207 => some ([], [2, 3, 4]) | 412 => some ([], [4, 5]) | 413 => some ([], [4, 5]) | 488 => some ([], [2, 3, 4, 6, 45, 46, 47]) | 1956 => some ([], [2, 3, 4, 6, 45, 46]) | 1957 => some ([], [4, 6]) | 1959 => some ([], [2, 3, 4, 6, 45, 46]) | 7832 => some ([], [2, 3, 4, 6, 7, 45, 46]) | 15666 => some ([], [2, 3, 4, 6, 8, 45, 46]) | 15667 => some ([], [2, 3, 4, 6, 45, 46]) | _ => none
noncomputable def aFH : Code := Try.f59.body.getD .skip
theorem aIN : aL aAE UJ aCS aFH := by
 intro n E hn f c hs x k h
 unfold UJ at hn
 split at hn
 ·cases hn; exact aK hs (by kernel_rfl) (fun y : Int × List Int => ⟨[(2, .ptr 0 0), (3, .ptr 1 0), (4, .ptr 2 0), (6, .ptr 3 0), (45, .pl (.int .i64 x.1.2.2.2.2.1)), (46, .pl (.int .i64 y.1))], [.box [.fz false (.int .i64) x.2.1.1, .pl (.int .i64 x.2.1.2.1), .fz false (.int .i8) x.2.1.2.2.1] false, .box [.fz false (.int .i64) x.2.2.1.1, .pl (.int .i64 x.2.2.1.2.1), .fz false (.int .i8) x.2.2.1.2.2.1] false, .box [.pl (.slice none 0 0), .pl (.int .i64 x.2.2.2.1.2.1), .pl (.slice none 0 0)] false, .box [.own 4, .pl (.int .i64 x.2.2.2.2.1.2.1), .own 5] false, .lst true (.int .i64) x.2.2.2.2.2.1 false, .lst true (.int .i32) y.2 false]⟩) (x.1.2.2.2.2.2.1, ([] : List Int)) (by kernel_rfl) (fun y X => by kernel_rfl) h.it
 ·cases hn
def DJ : List Sh := [.agg [.fz false (.int .i64), .int .i64, .fz false (.int .i8)], .agg [.fz false (.int .i64), .int .i64, .fz false (.int .i8)]]
def X8 (x : aI DJ) (Q : List (Bool × List VV) -> Prop) : Prop := aG4 (x.1.1, (x.1.2.1, x.1.2.2.1)) (x.2.1.1, (x.2.1.2.1, x.2.1.2.2.1)) (fun (r : ((List Int) × Int × List Int) × Int) => Q (aH [(true, (.pair (.slc (.int .i64)) (.pair (.int .i64) (.slc (.int .i32))))), (false, (.int .i64))] [.n, .n] (r.1, (r.2, ()))))
theorem aHh (x : aI DJ) (Q : List (Bool × List VV) -> Prop) (h : X8 x Q) : aD Try.prog 59 (aM DJ x) Q :=
 aC [.n, .n] (G := aAE) (ct := UJ) (en := aCS) (fn := Try.f59) (cd := aFH) (rt := [(true, (.pair (.slc (.int .i64)) (.pair (.int .i64) (.slc (.int .i32))))), (false, (.int .i64))]) Try.func59 (by kernel_rfl) (by kernel_rfl) (Nat.le_of_ble_eq_true rfl) aIN NM (aG rfl) h.it (by kernel_rfl)
noncomputable def aD5 : FuncId -> List VV -> (List (Bool × List VV) -> Prop) -> Prop := fun f args Q => if f = 59 then unA DJ args (fun x => X8 x Q) else PI f args Q
theorem aA9 : ∀ f args Q, aD5 f args Q -> aD Try.prog f args Q := aE NM (f0 := 59) DJ (fun x Q => X8 x Q) aHh
noncomputable def aHJ : Cfg := ⟨Try.prog, tt, aD5, fun _ _ _ => False, none, false⟩
def aE8 (a0 : Int) (a1 : List Int) (a2 : Int) (a3 : List Int) (Q : Int -> Prop) : Prop :=
 ck ((0 : Int) <= a0 /\ a0 < (a3.length : Int)) (Q (aO 0 (a3.getD ((a0).toNat) 0)))
structure aBG (a0 : Int) (a1 : List Int) (a2 : Int) (a3 : List Int) (Q : Int -> Prop) : Prop where
 it : aE8 a0 a1 a2 a3 Q
noncomputable def OK : Tab := fun n => none
noncomputable def PT : Go.Mach.Ends := fun n => match n with | 2 => some ([], [0, 1]) | 6 => some ([], [3]) | 7 => some ([], [3]) | _ => none
noncomputable def QZ : Code := Try.f69.body.getD .skip
theorem aBh : aL aHJ OK PT QZ := by
 intro n E hn f c hs x k h
 cases hn
def oI : List Sh := [.lf (.int .i64), .bx [.fz false (.int .i64), .int .i64, .fz false (.int .i8)]]
def FZ (x : aI oI) (Q : List (Bool × List VV) -> Prop) : Prop := aBG x.1 x.2.1.1 x.2.1.2.1 x.2.1.2.2.1 (fun (r : Int) => Q (aH [(false, (.int .i8))] [.n] (r, ())))
theorem aB3 (x : aI oI) (Q : List (Bool × List VV) -> Prop) (h : FZ x Q) : aD Try.prog 69 (aM oI x) Q :=
 aC [.n] (G := aHJ) (ct := OK) (en := PT) (fn := Try.f69) (cd := QZ) (rt := [(false, (.int .i8))]) Try.func69 (by kernel_rfl) (by kernel_rfl) (Nat.le_of_ble_eq_true rfl) aBh aA9 (aG rfl) h.it (by kernel_rfl)
noncomputable def BC : FuncId -> List VV -> (List (Bool × List VV) -> Prop) -> Prop := fun f args Q => if f = 69 then unA oI args (fun x => FZ x Q) else aD5 f args Q
theorem KS : ∀ f args Q, BC f args Q -> aD Try.prog f args Q := aE aA9 (f0 := 69) oI (fun x Q => FZ x Q) aB3
noncomputable def WT : Cfg := ⟨Try.prog, tt, BC, fun _ _ _ => False, none, false⟩
def dW (x0 : List Int) (x1 : Int) (x2 : List Int) (x3 : Int) (K0 : (List Int) -> Prop) (s : Int × List Int) (nx : (Int × List Int) -> Prop) : Prop :=
 if (decide (s.1 < x3)) = true then aBG s.1 x0 x1 x2 (fun (r3 : Int) => ck ((s.2.length + [r3].length) * 1 <= 140737488355328) (nx (IntKind.i64.wrap (s.1 + 1), s.2 ++ [r3]))) else K0 s.2
structure p6 (x0 : List Int) (x1 : Int) (x2 : List Int) (x3 : Int) (K0 : (List Int) -> Prop) (s : Int × List Int) : Prop where
 it : Go.Mach.Loop (dW x0 x1 x2 x3 K0) s
def FT (a0 : (List Int) × Int × List Int) (a1 : List Int) (a2 : Int) (a3 : List Int) (Q : ((List Int) × Int × List Int) -> Prop) : Prop :=
 aW a0.1 (fun (r1 : List Int) => p6 a1 a2 a3 (a0.2.2.length : Int) (fun (y4 : List Int) => Q (r1, (a0.2.1, y4))) (0, ([] : List Int)))
structure vR (a0 : (List Int) × Int × List Int) (a1 : List Int) (a2 : Int) (a3 : List Int) (Q : ((List Int) × Int × List Int) -> Prop) : Prop where
 it : FT a0 a1 a2 a3 Q
noncomputable def DS : Ent := ⟨[1, 4, 5, 15, 16], [.fn 69 [.bx [.fz false (.int .i64), .int .i64, .fz false (.int .i8)]], .lf (.cst (.ptr 0 0)), .lf (.cst (.ptr 1 0)), .lf (.int .i64), .lf (.int .i64)], [.box [.cst (.pl (.slice none 0 0)), .int .i64, .cst (.pl (.slice none 0 0))] false, .box [.cst (.own 2), .int .i64, .cst (.pl (.slice none 0 0))] false, .lst true (.int .i64) false], fun x k => p6 x.1.1.1.1 x.1.1.1.2.1 x.1.1.1.2.2.1 x.1.2.2.2.1 (fun (y5 : List Int) => k (.exit 0) ⟨[(4, .ptr 0 0), (5, .ptr 1 0)], [.box [.pl (.slice none 0 0), .pl (.int .i64 x.2.1.2.1), .pl (.slice none 0 0)] false, .box [.own 2, .pl (.int .i64 x.2.2.1.2.1), .own 3] false, .lst true (.int .i64) x.2.2.2.1 false, .lst true (.int .i8) y5 false]⟩) (x.1.2.2.2.2.1, ([] : List Int))⟩
noncomputable def jB : Tab := fun n => match n with | 58 => some DS | _ => none
noncomputable def pQ : Go.Mach.Ends := fun n => match n with | 2 => some ([], [1, 2, 4]) | 6 => some ([], [1, 2, 4, 5]) | 28 => some ([], [1, 4, 5, 15, 16]) | 30 => some ([], [4]) | 31 => some ([], [4]) | 58 => some ([⟨5, some 2, false, (.int .i8)⟩], [1, 4, 5, 15, 16]) | 232 => some ([], [1, 4, 5, 15, 16, 17]) | 932 => some ([], [1, 4, 5, 15, 16]) | 933 => some ([], [4, 5]) | 935 => some ([], [1, 4, 5, 15, 16]) | 3736 => some ([], [1, 4, 5, 6, 15, 16]) | 3737 => some ([], [1, 4, 5, 15, 16]) | _ => none
noncomputable def qP : Code := Try.f68.body.getD .skip
theorem DI : aL WT jB pQ qP := by
 intro n E hn f c hs x k h
 unfold jB at hn
 split at hn
 ·cases hn; exact aK hs (by kernel_rfl) (fun y : Int × List Int => ⟨[(1, .fn 69 [.bx [.fz false (.int .i64) x.1.1.1.1, .pl (.int .i64 x.1.1.1.2.1), .fz false (.int .i8) x.1.1.1.2.2.1] 0]), (4, .ptr 0 0), (5, .ptr 1 0), (15, .pl (.int .i64 x.1.2.2.2.1)), (16, .pl (.int .i64 y.1))], [.box [.pl (.slice none 0 0), .pl (.int .i64 x.2.1.2.1), .pl (.slice none 0 0)] false, .box [.own 2, .pl (.int .i64 x.2.2.1.2.1), .own 3] false, .lst true (.int .i64) x.2.2.2.1 false, .lst true (.int .i8) y.2 false]⟩) (x.1.2.2.2.2.1, ([] : List Int)) (by kernel_rfl) (fun y X => by kernel_rfl) h.it
 ·cases hn
def cT : List Sh := [.agg [.fz false (.int .i64), .int .i64, .fz false (.int .i8)], .fn 69 [.bx [.fz false (.int .i64), .int .i64, .fz false (.int .i8)]]]
def jQ (x : aI cT) (Q : List (Bool × List VV) -> Prop) : Prop := vR (x.1.1, (x.1.2.1, x.1.2.2.1)) x.2.1.1.1 x.2.1.1.2.1 x.2.1.1.2.2.1 (fun (r : (List Int) × Int × List Int) => Q (aH [(true, (.pair (.slc (.int .i64)) (.pair (.int .i64) (.slc (.int .i8)))))] [.n] (r, ())))
theorem CG (x : aI cT) (Q : List (Bool × List VV) -> Prop) (h : jQ x Q) : aD Try.prog 68 (aM cT x) Q :=
 aC [.n] (G := WT) (ct := jB) (en := pQ) (fn := Try.f68) (cd := qP) (rt := [(true, (.pair (.slc (.int .i64)) (.pair (.int .i64) (.slc (.int .i8)))))]) Try.func68 (by kernel_rfl) (by kernel_rfl) (Nat.le_of_ble_eq_true rfl) DI KS (aG rfl) h.it (by kernel_rfl)
noncomputable def kZ : FuncId -> List VV -> (List (Bool × List VV) -> Prop) -> Prop := fun f args Q => if f = 68 then (if aJf (aAo args) [69] = true then unA cT args (fun x => jQ x Q) else BC f args Q) else BC f args Q
theorem oZ : ∀ f args Q, kZ f args Q -> aD Try.prog f args Q := P9 KS (f0 := 68) [69] cT (fun x Q => jQ x Q) CG
noncomputable def sW : Cfg := ⟨Try.prog, tt, kZ, fun _ _ _ => False, none, false⟩
def aHj (a0 : (List Int) × Int × List Int) (Q : (((List Int) × Int × List Int) × Int) -> Prop) : Prop :=
 bR (a0.1, (a0.2.1, a0.2.2)) (fun (r1 : Bool) => if (!r1) = true then Q ((([] : List Int), (0, ([] : List Int))), 1) else vR (a0.1, (a0.2.1, a0.2.2)) a0.1 a0.2.1 a0.2.2 (fun (r2 : (List Int) × Int × List Int) => Q ((r2.1, (r2.2.1, r2.2.2)), 0)))
structure YS (a0 : (List Int) × Int × List Int) (Q : (((List Int) × Int × List Int) × Int) -> Prop) : Prop where
 it : aHj a0 Q
noncomputable def V4 : Tab := fun n => none
noncomputable def XK : Go.Mach.Ends := fun n => match n with | 2 => some ([], [1, 2]) | 12 => some ([], [1, 2, 6]) | 14 => some ([], [2, 3]) | 15 => some ([], [2, 3]) | 27 => some ([], [1, 2]) | 52 => some ([], [2, 3]) | 53 => some ([], [2, 3]) | _ => none
noncomputable def aAe : Code := Try.f42.body.getD .skip
theorem aEi : aL sW V4 XK aAe := by
 intro n E hn f c hs x k h
 cases hn
def uQ : List Sh := [.agg [.fz false (.int .i64), .int .i64, .fz false (.int .i8)]]
def N2 (x : aI uQ) (Q : List (Bool × List VV) -> Prop) : Prop := YS (x.1.1, (x.1.2.1, x.1.2.2.1)) (fun (r : ((List Int) × Int × List Int) × Int) => Q (aH [(true, (.pair (.slc (.int .i64)) (.pair (.int .i64) (.slc (.int .i8))))), (false, (.int .i64))] [.n, .n] (r.1, (r.2, ()))))
theorem aEd (x : aI uQ) (Q : List (Bool × List VV) -> Prop) (h : N2 x Q) : aD Try.prog 42 (aM uQ x) Q :=
 aC [.n, .n] (G := sW) (ct := V4) (en := XK) (fn := Try.f42) (cd := aAe) (rt := [(true, (.pair (.slc (.int .i64)) (.pair (.int .i64) (.slc (.int .i8))))), (false, (.int .i64))]) Try.func42 (by kernel_rfl) (by kernel_rfl) (Nat.le_of_ble_eq_true rfl) aEi oZ (aG rfl) h.it (by kernel_rfl)
noncomputable def TI : FuncId -> List VV -> (List (Bool × List VV) -> Prop) -> Prop := fun f args Q => if f = 42 then unA uQ args (fun x => N2 x Q) else kZ f args Q
theorem RE : ∀ f args Q, TI f args Q -> aD Try.prog f args Q := aE oZ (f0 := 42) uQ (fun x Q => N2 x Q) aEd
noncomputable def aDi : Cfg := ⟨Try.prog, tt, TI, fun _ _ _ => False, none, false⟩
def FB (a0 : List Int) (Q : (List Int) -> Prop) : Prop :=
 nq a0 (Q ([] : List Int)) (ck ((([] : List Int).length + a0.length) * 1 <= 140737488355328) (Q (([] : List Int) ++ a0)))
structure iH (a0 : List Int) (Q : (List Int) -> Prop) : Prop where
 it : FB a0 Q
noncomputable def pZ : Tab := fun n => none
noncomputable def pU : Go.Mach.Ends := fun n => match n with | 2 => some ([], [0]) | 12 => some ([], [0, 4]) | 14 => some ([], [2]) | 15 => some ([], [2]) | 27 => some ([], [0]) | 52 => some ([], [2]) | 53 => some ([], [2]) | _ => none
noncomputable def rL : Code := Try.f21.body.getD .skip
theorem DN : aL aDi pZ pU rL := by
 intro n E hn f c hs x k h
 cases hn
def cW : List Sh := [.lf (.fz false (.int .i8))]
def j4 (x : aI cW) (Q : List (Bool × List VV) -> Prop) : Prop := iH x.1 (fun (r : List Int) => Q (aH [(false, (.slc (.int .i8)))] [.n] (r, ())))
theorem BV (x : aI cW) (Q : List (Bool × List VV) -> Prop) (h : j4 x Q) : aD Try.prog 21 (aM cW x) Q :=
 aC [.n] (G := aDi) (ct := pZ) (en := pU) (fn := Try.f21) (cd := rL) (rt := [(false, (.slc (.int .i8)))]) Try.func21 (by kernel_rfl) (by kernel_rfl) (Nat.le_of_ble_eq_true rfl) DN RE (aG rfl) h.it (by kernel_rfl)
noncomputable def kE : FuncId -> List VV -> (List (Bool × List VV) -> Prop) -> Prop := fun f args Q => if f = 21 then unA cW args (fun x => j4 x Q) else TI f args Q
theorem pE : ∀ f args Q, kE f args Q -> aD Try.prog f args Q := aE RE (f0 := 21) cW (fun x Q => j4 x Q) BV
noncomputable def tF : Cfg := ⟨Try.prog, tt, kE, fun _ _ _ => False, none, false⟩
def aG5 (a0 : (List Int) × Int × List Int) (a1 : List Int) (Q : (((List Int) × Int × List Int) × Int) -> Prop) : Prop :=
 bR (a0.1, (a0.2.1, a0.2.2)) (fun (r1 : Bool) => jn (fun (v2 : Bool) => if v2 = true then Q ((([] : List Int), (0, ([] : List Int))), 1) else oL a1 (fun (r5 : Int) => if (r5 != (a0.2.2.length : Int)) = true then Q ((([] : List Int), (0, ([] : List Int))), 2) else aW a1 (fun (r6 : List Int) => iH a0.2.2 (fun (r7 : List Int) => Q ((r6, (a0.2.1, r7)), 0))))) (fun J3 => if (!r1) = true then J3 true else kJ a1 (fun (r4 : Bool) => J3 (!r4))))
structure TA (a0 : (List Int) × Int × List Int) (a1 : List Int) (Q : (((List Int) × Int × List Int) × Int) -> Prop) : Prop where
 it : aG5 a0 a1 Q
noncomputable def R7 : Tab := fun n => none
noncomputable def SG : Go.Mach.Ends := fun n => match n with | 2 => some ([], [1, 2, 4]) | 14 => some ([], [4, 5]) | 15 => some ([], [4, 5]) | 24 => some ([], [1, 2, 4, 6]) | 100 => some ([], [4, 5]) | 101 => some ([], [4, 5]) | 102 => some ([], [1, 2, 4, 16]) | 207 => some ([], [1, 2, 4]) | 412 => some ([], [4, 5]) | 413 => some ([], [4, 5]) | _ => none
noncomputable def V5 : Code := Try.f70.body.getD .skip
theorem aEP : aL tF R7 SG V5 := by
 intro n E hn f c hs x k h
 cases hn
def rF : List Sh := [.agg [.fz false (.int .i64), .int .i64, .fz false (.int .i8)], .lf (.fz false (.int .i64))]
def JT (x : aI rF) (Q : List (Bool × List VV) -> Prop) : Prop := TA (x.1.1, (x.1.2.1, x.1.2.2.1)) x.2.1 (fun (r : ((List Int) × Int × List Int) × Int) => Q (aH [(true, (.pair (.slc (.int .i64)) (.pair (.int .i64) (.slc (.int .i8))))), (false, (.int .i64))] [.n, .n] (r.1, (r.2, ()))))
theorem aEC (x : aI rF) (Q : List (Bool × List VV) -> Prop) (h : JT x Q) : aD Try.prog 70 (aM rF x) Q :=
 aC [.n, .n] (G := tF) (ct := R7) (en := SG) (fn := Try.f70) (cd := V5) (rt := [(true, (.pair (.slc (.int .i64)) (.pair (.int .i64) (.slc (.int .i8))))), (false, (.int .i64))]) Try.func70 (by kernel_rfl) (by kernel_rfl) (Nat.le_of_ble_eq_true rfl) aEP pE (aG rfl) h.it (by kernel_rfl)
noncomputable def NQ : FuncId -> List VV -> (List (Bool × List VV) -> Prop) -> Prop := fun f args Q => if f = 70 then unA rF args (fun x => JT x Q) else kE f args Q
theorem PK : ∀ f args Q, NQ f args Q -> aD Try.prog f args Q := aE pE (f0 := 70) rF (fun x Q => JT x Q) aEC
noncomputable def Z7 : Cfg := ⟨Try.prog, tt, NQ, fun _ _ _ => False, none, false⟩
def aIE (a0 : (List Int) × Int × List Int) (Q : (((List Int) × Int × List Int) × Int) -> Prop) : Prop :=
 bR (a0.1, (a0.2.1, a0.2.2)) (fun (r1 : Bool) => if (!r1) = true then Q ((([] : List Int), (0, ([] : List Int))), 1) else ck ((0 : Int) <= 0 /\ 0 < (a0.1.length : Int)) (oL a0.1 (fun (r2 : Int) => ck ((0 : Int) <= 0 /\ 0 < (a0.1.length : Int)) (ck ((a0.1.getD 0 0) ≠ (0 : Int)) (TA (a0.1, (a0.2.1, a0.2.2)) [a0.1.getD 0 0, IntKind.i64.wrap ((r2).tdiv (a0.1.getD 0 0))] (fun (r3 : ((List Int) × Int × List Int) × Int) => Q ((r3.1.1, (r3.1.2.1, r3.1.2.2)), r3.2)))))))
structure YK (a0 : (List Int) × Int × List Int) (Q : (((List Int) × Int × List Int) × Int) -> Prop) : Prop where
 it : aIE a0 Q
noncomputable def WB : Tab := fun n => none
noncomputable def UQ : Go.Mach.Ends := fun n => match n with | 2 => some ([], [1, 2]) | 12 => some ([], [1, 2, 6]) | 14 => some ([], [2, 3]) | 15 => some ([], [2, 3]) | 27 => some ([], [1, 2]) | 52 => some ([], [2, 3]) | 53 => some ([], [2, 3]) | _ => none
noncomputable def Z9 : Code := Try.f43.body.getD .skip
theorem aE5 : aL Z7 WB UQ Z9 := by
 intro n E hn f c hs x k h
 cases hn
def tU : List Sh := [.agg [.fz false (.int .i64), .int .i64, .fz false (.int .i8)]]
def NA (x : aI tU) (Q : List (Bool × List VV) -> Prop) : Prop := YK (x.1.1, (x.1.2.1, x.1.2.2.1)) (fun (r : ((List Int) × Int × List Int) × Int) => Q (aH [(true, (.pair (.slc (.int .i64)) (.pair (.int .i64) (.slc (.int .i8))))), (false, (.int .i64))] [.n, .n] (r.1, (r.2, ()))))
theorem aEr (x : aI tU) (Q : List (Bool × List VV) -> Prop) (h : NA x Q) : aD Try.prog 43 (aM tU x) Q :=
 aC [.n, .n] (G := Z7) (ct := WB) (en := UQ) (fn := Try.f43) (cd := Z9) (rt := [(true, (.pair (.slc (.int .i64)) (.pair (.int .i64) (.slc (.int .i8))))), (false, (.int .i64))]) Try.func43 (by kernel_rfl) (by kernel_rfl) (Nat.le_of_ble_eq_true rfl) aE5 PK (aG rfl) h.it (by kernel_rfl)
noncomputable def UB : FuncId -> List VV -> (List (Bool × List VV) -> Prop) -> Prop := fun f args Q => if f = 43 then unA tU args (fun x => NA x Q) else NQ f args Q
theorem Q1 : ∀ f args Q, UB f args Q -> aD Try.prog f args Q := aE PK (f0 := 43) tU (fun x Q => NA x Q) aEr
noncomputable def aDG : Cfg := ⟨Try.prog, tt, UB, fun _ _ _ => False, none, false⟩
end Go.Proofs.Ytbenbhdagmnapaa

namespace Go.Proofs.Ytbenbhdagmnapaa
open Go.Mach
set_option maxRecDepth 100000
set_option linter.unusedVariables false
def aJ5 (a0 : Int) (a1 : Int) (a2 : Int) (Q : Bool -> Prop) : Prop :=
 Q ((decide (a1 <= a0)) && (decide (a0 <= a2)))
structure mS (a0 : Int) (a1 : Int) (a2 : Int) (Q : Bool -> Prop) : Prop where
 it : aJ5 a0 a1 a2 Q
noncomputable def aAl : Tab := fun n => none
noncomputable def aAh : Go.Mach.Ends := fun n => match n with | 2 => some ([], [0, 1, 2]) | 6 => some ([], [6]) | 7 => some ([], [6]) | _ => none
noncomputable def aEM : Code := Try.f73.body.getD .skip
theorem aHI : aL aDG aAl aAh aEM := by
 intro n E hn f c hs x k h
 cases hn
def yV : List Sh := [.lf (.int .i64), .lf (.int .i64), .lf (.int .i64)]
def TU (x : aI yV) (Q : List (Bool × List VV) -> Prop) : Prop := mS x.1 x.2.1 x.2.2.1 (fun (r : Bool) => Q (aH [(false, .bool)] [.n] (r, ())))
theorem aGL (x : aI yV) (Q : List (Bool × List VV) -> Prop) (h : TU x Q) : aD Try.prog 73 (aM yV x) Q :=
 aC [.n] (G := aDG) (ct := aAl) (en := aAh) (fn := Try.f73) (cd := aEM) (rt := [(false, .bool)]) Try.func73 (by kernel_rfl) (by kernel_rfl) (Nat.le_of_ble_eq_true rfl) aHI Q1 (aG rfl) h.it (by kernel_rfl)
noncomputable def X4 : FuncId -> List VV -> (List (Bool × List VV) -> Prop) -> Prop := fun f args Q => if f = 73 then unA yV args (fun x => TU x Q) else UB f args Q
theorem WZ : ∀ f args Q, X4 f args Q -> aD Try.prog f args Q := aE Q1 (f0 := 73) yV (fun x Q => TU x Q) aGL
noncomputable def aFK : Cfg := ⟨Try.prog, tt, X4, fun _ _ _ => False, none, false⟩
def aCw (a0 : Int × Int × Int) (Q : Bool -> Prop) : Prop :=
 mS a0.1 1 8 (fun (r1 : Bool) => jn (fun (v2 : Bool) => jn (fun (v5 : Bool) => Q v5) (fun J6 => if v2 = true then mS a0.2.2 1 16 (fun (r7 : Bool) => J6 r7) else J6 false)) (fun J3 => if r1 = true then mS a0.2.1 1 16 (fun (r4 : Bool) => J3 r4) else J3 false))
structure KK (a0 : Int × Int × Int) (Q : Bool -> Prop) : Prop where
 it : aCw a0 Q
noncomputable def MB : Tab := fun n => none
noncomputable def LW : Go.Mach.Ends := fun n => match n with | 2 => some ([], [1]) | 6 => some ([], [2]) | 7 => some ([], [2]) | _ => none
noncomputable def O9 : Code := Try.f72.body.getD .skip
theorem YO : aL aFK MB LW O9 := by
 intro n E hn f c hs x k h
 cases hn
def mH : List Sh := [.agg [.int .i64, .int .i64, .int .i64]]
def DE (x : aI mH) (Q : List (Bool × List VV) -> Prop) : Prop := KK (x.1.1, (x.1.2.1, x.1.2.2.1)) (fun (r : Bool) => Q (aH [(false, .bool)] [.n] (r, ())))
theorem ZE (x : aI mH) (Q : List (Bool × List VV) -> Prop) (h : DE x Q) : aD Try.prog 72 (aM mH x) Q :=
 aC [.n] (G := aFK) (ct := MB) (en := LW) (fn := Try.f72) (cd := O9) (rt := [(false, .bool)]) Try.func72 (by kernel_rfl) (by kernel_rfl) (Nat.le_of_ble_eq_true rfl) YO WZ (aG rfl) h.it (by kernel_rfl)
noncomputable def FJ : FuncId -> List VV -> (List (Bool × List VV) -> Prop) -> Prop := fun f args Q => if f = 72 then unA mH args (fun x => DE x Q) else X4 f args Q
theorem G4 : ∀ f args Q, FJ f args Q -> aD Try.prog f args Q := aE WZ (f0 := 72) mH (fun x Q => DE x Q) ZE
noncomputable def SV : Cfg := ⟨Try.prog, tt, FJ, fun _ _ _ => False, none, false⟩
def aEQ (a0 : Int × Int × Int × Int × Int × Int × Bool) (Q : Bool -> Prop) : Prop :=
 mS a0.2.2.1 1 5 (fun (r1 : Bool) => jn (fun (v2 : Bool) => Q v2) (fun J3 => if r1 = true then mS a0.2.2.2.1 1 4 (fun (r4 : Bool) => J3 r4) else J3 false))
structure BN (a0 : Int × Int × Int × Int × Int × Int × Bool) (Q : Bool -> Prop) : Prop where
 it : aEQ a0 Q
noncomputable def L6 : Tab := fun n => none
noncomputable def LR : Go.Mach.Ends := fun n => match n with | 2 => some ([], [1]) | 6 => some ([], [2]) | 7 => some ([], [2]) | _ => none
noncomputable def OA : Code := Try.f94.body.getD .skip
theorem YQ : aL SV L6 LR OA := by
 intro n E hn f c hs x k h
 cases hn
def mU : List Sh := [.agg [.int .i64, .int .i64, .int .i64, .int .i64, .int .i64, .int .i64, .bool]]
def DF (x : aI mU) (Q : List (Bool × List VV) -> Prop) : Prop := BN (x.1.1, (x.1.2.1, (x.1.2.2.1, (x.1.2.2.2.1, (x.1.2.2.2.2.1, (x.1.2.2.2.2.2.1, x.1.2.2.2.2.2.2.1)))))) (fun (r : Bool) => Q (aH [(false, .bool)] [.n] (r, ())))
theorem ZH (x : aI mU) (Q : List (Bool × List VV) -> Prop) (h : DF x Q) : aD Try.prog 94 (aM mU x) Q :=
 aC [.n] (G := SV) (ct := L6) (en := LR) (fn := Try.f94) (cd := OA) (rt := [(false, .bool)]) Try.func94 (by kernel_rfl) (by kernel_rfl) (Nat.le_of_ble_eq_true rfl) YQ G4 (aG rfl) h.it (by kernel_rfl)
noncomputable def E4 : FuncId -> List VV -> (List (Bool × List VV) -> Prop) -> Prop := fun f args Q => if f = 94 then unA mU args (fun x => DF x Q) else FJ f args Q
theorem HP : ∀ f args Q, E4 f args Q -> aD Try.prog f args Q := aE G4 (f0 := 94) mU (fun x Q => DF x Q) ZH
noncomputable def Q2 : Cfg := ⟨Try.prog, tt, E4, fun _ _ _ => False, none, false⟩
def aDK  (K0 : Unit -> Prop) : Prop :=
 K0 ()
structure pK  (K0 : Unit -> Prop) : Prop where
 it : aDK K0
def DQ (x0 : Int) (x1 : Bool) (x2 : Int) (x3 : Bool) (x9 : Int) (x16 : Int) (K0 : (Bool × Int) -> Prop) : Prop :=
 if x3 = true then K0 (x1, x16) else if (x2 == 7) = true then mS x9 0 (IntKind.i64.wrap (x0 - 1)) (fun (r12 : Bool) => K0 (r12, x9)) else K0 (false, x16)
structure JR (x0 : Int) (x1 : Bool) (x2 : Int) (x3 : Bool) (x9 : Int) (x16 : Int) (K0 : (Bool × Int) -> Prop) : Prop where
 it : DQ x0 x1 x2 x3 x9 x16 K0
def CF (x0 : Int) (x1 : Bool) (x2 : Int) (x3 : Bool) (x4 : Int) (x5 : Int) (x6 : Int) (x7 : Int) (x8 : Int) (x9 : Int) (x10 : Bool) (x13 : Int) (x14 : Int) (x16 : Int) (K0 : (Bool × Int × Int × Int) -> Prop) : Prop :=
 if x3 = true then BN (x4, (x5, (x6, (x7, (x8, (x9, x10)))))) (fun (r11 : Bool) => K0 (r11, x6, x7, x16)) else if (x2 == 5) = true then JR x0 x1 x2 (x2 == 5) x9 x16 (fun (y12 : Bool × Int) => K0 (y12.1, x13, x14, y12.2)) else JR x0 x1 x2 (x2 == 6) x9 x16 (fun (y13 : Bool × Int) => K0 (y13.1, x13, x14, y13.2))
structure I7 (x0 : Int) (x1 : Bool) (x2 : Int) (x3 : Bool) (x4 : Int) (x5 : Int) (x6 : Int) (x7 : Int) (x8 : Int) (x9 : Int) (x10 : Bool) (x13 : Int) (x14 : Int) (x16 : Int) (K0 : (Bool × Int × Int × Int) -> Prop) : Prop where
 it : CF x0 x1 x2 x3 x4 x5 x6 x7 x8 x9 x10 x13 x14 x16 K0
def aAp (a0 : Int × Int × Int × Int × Int × Int × Bool) (a1 : Int) (Q : Bool -> Prop) : Prop :=
 if (a0.1 == 1) = true then mS a0.2.1 1 4096 (fun (r1 : Bool) => pK (fun (y2 : Unit) => Q (r1 && ((a0.1 == a0.1) && ((a0.2.1 == a0.2.1) && ((a0.2.2.1 == 0) && ((a0.2.2.2.1 == 0) && ((a0.2.2.2.2.1 == 0) && ((a0.2.2.2.2.2.1 == 0) && ((a0.2.2.2.2.2.2 == a0.2.2.2.2.2.2) && (true))))))))))) else if (a0.1 == 2) = true then mS a0.2.1 1 8 (fun (r3 : Bool) => jn (fun (v4 : Bool) => jn (fun (v7 : Bool) => pK (fun (y10 : Unit) => Q (v7 && ((a0.1 == a0.1) && ((a0.2.1 == a0.2.1) && ((a0.2.2.1 == a0.2.2.1) && ((a0.2.2.2.1 == a0.2.2.2.1) && ((a0.2.2.2.2.1 == a0.2.2.2.2.1) && ((a0.2.2.2.2.2.1 == 0) && ((a0.2.2.2.2.2.2 == a0.2.2.2.2.2.2) && (true))))))))))) (fun J8 => if v4 = true then mS a0.2.2.2.2.1 0 (IntKind.i64.wrap (a0.2.2.1 - 1)) (fun (r9 : Bool) => J8 r9) else J8 false)) (fun J5 => if r3 = true then BN (a0.1, (a0.2.1, (a0.2.2.1, (a0.2.2.2.1, (a0.2.2.2.2.1, (a0.2.2.2.2.2.1, a0.2.2.2.2.2.2)))))) (fun (r6 : Bool) => J5 r6) else J5 false)) else if (a0.1 == 3) = true then I7 a1 true a0.1 (a0.1 == 3) a0.1 a0.2.1 a0.2.2.1 a0.2.2.2.1 a0.2.2.2.2.1 a0.2.2.2.2.2.1 a0.2.2.2.2.2.2 0 0 0 (fun (y14 : Bool × Int × Int × Int) => pK (fun (y15 : Unit) => Q (y14.1 && ((a0.1 == a0.1) && ((a0.2.1 == 0) && ((a0.2.2.1 == y14.2.1) && ((a0.2.2.2.1 == y14.2.2.1) && ((a0.2.2.2.2.1 == 0) && ((a0.2.2.2.2.2.1 == y14.2.2.2) && ((a0.2.2.2.2.2.2 == false) && (true))))))))))) else I7 a1 true a0.1 (a0.1 == 4) a0.1 a0.2.1 a0.2.2.1 a0.2.2.2.1 a0.2.2.2.2.1 a0.2.2.2.2.2.1 a0.2.2.2.2.2.2 0 0 0 (fun (y16 : Bool × Int × Int × Int) => pK (fun (y17 : Unit) => Q (y16.1 && ((a0.1 == a0.1) && ((a0.2.1 == 0) && ((a0.2.2.1 == y16.2.1) && ((a0.2.2.2.1 == y16.2.2.1) && ((a0.2.2.2.2.1 == 0) && ((a0.2.2.2.2.2.1 == y16.2.2.2) && ((a0.2.2.2.2.2.2 == false) && (true)))))))))))
structure YN (a0 : Int × Int × Int × Int × Int × Int × Bool) (a1 : Int) (Q : Bool -> Prop) : Prop where
 it : aAp a0 a1 Q
noncomputable def aGP : Ent := ⟨[2, 5, 6], [.lf (.cst (.ptr 0 0)), .lf (.cst (.ptr 1 0)), .lf (.bool)], [.box [.int .i64, .int .i64, .int .i64, .int .i64, .int .i64, .int .i64, .bool] false, .box [.int .i64, .int .i64, .int .i64, .int .i64, .int .i64, .int .i64, .bool] false], fun x k => pK (fun (y18 : Unit) => k .ret ⟨[(4, .pl (.bool (x.1.2.2.1 && ((x.2.1.1 == x.2.2.1.1) && ((x.2.1.2.1 == x.2.2.1.2.1) && ((x.2.1.2.2.1 == x.2.2.1.2.2.1) && ((x.2.1.2.2.2.1 == x.2.2.1.2.2.2.1) && ((x.2.1.2.2.2.2.1 == x.2.2.1.2.2.2.2.1) && ((x.2.1.2.2.2.2.2.1 == x.2.2.1.2.2.2.2.2.1) && ((x.2.1.2.2.2.2.2.2.1 == x.2.2.1.2.2.2.2.2.2.1) && (true)))))))))))], []⟩)⟩
noncomputable def aGp : Ent := ⟨[1, 2, 5, 6, 11, 42], [.lf (.int .i64), .lf (.cst (.ptr 0 0)), .lf (.cst (.ptr 1 0)), .lf (.bool), .lf (.int .i64), .lf (.bool)], [.box [.int .i64, .int .i64, .int .i64, .int .i64, .int .i64, .int .i64, .bool] false, .box [.int .i64, .int .i64, .int .i64, .int .i64, .int .i64, .int .i64, .bool] false], fun x k => I7 x.1.1 x.1.2.2.2.1 x.1.2.2.2.2.1 x.1.2.2.2.2.2.1 x.2.1.1 x.2.1.2.1 x.2.1.2.2.1 x.2.1.2.2.2.1 x.2.1.2.2.2.2.1 x.2.1.2.2.2.2.2.1 x.2.1.2.2.2.2.2.2.1 x.2.2.1.2.2.1 x.2.2.1.2.2.2.1 x.2.2.1.2.2.2.2.2.1 (fun (y19 : Bool × Int × Int × Int) => k .normal ⟨[(2, .ptr 0 0), (5, .ptr 1 0), (6, .pl (.bool y19.1))], [.box [.pl (.int .i64 x.2.1.1), .pl (.int .i64 x.2.1.2.1), .pl (.int .i64 x.2.1.2.2.1), .pl (.int .i64 x.2.1.2.2.2.1), .pl (.int .i64 x.2.1.2.2.2.2.1), .pl (.int .i64 x.2.1.2.2.2.2.2.1), .pl (.bool x.2.1.2.2.2.2.2.2.1)] false, .box [.pl (.int .i64 x.2.2.1.1), .pl (.int .i64 x.2.2.1.2.1), .pl (.int .i64 y19.2.1), .pl (.int .i64 y19.2.2.1), .pl (.int .i64 x.2.2.1.2.2.2.2.1), .pl (.int .i64 y19.2.2.2), .pl (.bool x.2.2.1.2.2.2.2.2.2.1)] false]⟩)⟩
noncomputable def aHB : Ent := ⟨[1, 2, 5, 6, 11, 53], [.lf (.int .i64), .lf (.cst (.ptr 0 0)), .lf (.cst (.ptr 1 0)), .lf (.bool), .lf (.int .i64), .lf (.bool)], [.box [.int .i64, .int .i64, .int .i64, .int .i64, .int .i64, .int .i64, .bool] false, .box [.int .i64, .int .i64, .int .i64, .int .i64, .int .i64, .int .i64, .bool] false], fun x k => JR x.1.1 x.1.2.2.2.1 x.1.2.2.2.2.1 x.1.2.2.2.2.2.1 x.2.1.2.2.2.2.2.1 x.2.2.1.2.2.2.2.2.1 (fun (y20 : Bool × Int) => k .normal ⟨[(2, .ptr 0 0), (5, .ptr 1 0), (6, .pl (.bool y20.1))], [.box [.pl (.int .i64 x.2.1.1), .pl (.int .i64 x.2.1.2.1), .pl (.int .i64 x.2.1.2.2.1), .pl (.int .i64 x.2.1.2.2.2.1), .pl (.int .i64 x.2.1.2.2.2.2.1), .pl (.int .i64 x.2.1.2.2.2.2.2.1), .pl (.bool x.2.1.2.2.2.2.2.2.1)] false, .box [.pl (.int .i64 x.2.2.1.1), .pl (.int .i64 x.2.2.1.2.1), .pl (.int .i64 x.2.2.1.2.2.1), .pl (.int .i64 x.2.2.1.2.2.2.1), .pl (.int .i64 x.2.2.1.2.2.2.2.1), .pl (.int .i64 y20.2), .pl (.bool x.2.2.1.2.2.2.2.2.2.1)] false]⟩)⟩
noncomputable def IY : Tab := fun n => match n with | 31 => some aGP | 3935 => some aGp | 15743 => some aHB | _ => none
noncomputable def W5 : Go.Mach.Ends := fun n => match n with | 2 => some ([], [1, 2]) | 6 => some ([], [1, 2, 5]) | 14 => some ([], [1, 2, 5, 6]) | 60 => some ([], [1, 2, 5, 6, 11]) | 62 => some ([], [4]) | 63 => some ([], [4]) | 244 => some ([], [1, 2, 5, 6, 11, 12]) | 980 => some ([], [2, 5]) | 981 => some ([], [2, 5, 6]) | 982 => some ([], [1, 2, 5, 6, 11, 23]) | 3932 => some ([], [2, 5]) | 7866 => some ([], [2, 5]) | 7867 => some ([], [2, 5, 6]) | 7868 => some ([], [1, 2, 5, 6, 11, 42]) | 15738 => some ([], [1, 2, 5, 6, 11, 42]) | 15739 => some ([], [1, 2, 5, 6, 11, 42]) | 15740 => some ([], [2, 5]) | 15741 => some ([], [2, 5, 6]) | 31484 => some ([], [1, 2, 5, 6, 11, 53]) | 31486 => some ([], [2, 5, 6]) | 62970 => some ([], [1, 2, 5, 6, 11, 53]) | 62971 => some ([], [1, 2, 5, 6, 11, 53]) | 62974 => some ([], [1, 2, 5, 56]) | 125951 => some ([], [2, 5, 6]) | 251900 => some ([], [1, 2, 5]) | 251901 => some ([], [2, 5, 6]) | _ => none
noncomputable def aAj : Code := Try.f74.body.getD .skip
theorem aEh : aL Q2 IY W5 aAj := by
 intro n E hn f c hs x k h
 unfold IY at hn
 split at hn
 ·cases hn; exact bS hs (by kernel_rfl) (by kernel_rfl) h.it
 ·cases hn; exact bS hs (by kernel_rfl) (by kernel_rfl) h.it
 ·cases hn; exact bS hs (by kernel_rfl) (by kernel_rfl) h.it
 ·cases hn
def uT : List Sh := [.agg [.int .i64, .int .i64, .int .i64, .int .i64, .int .i64, .int .i64, .bool], .lf (.int .i64)]
def OL (x : aI uT) (Q : List (Bool × List VV) -> Prop) : Prop := YN (x.1.1, (x.1.2.1, (x.1.2.2.1, (x.1.2.2.2.1, (x.1.2.2.2.2.1, (x.1.2.2.2.2.2.1, x.1.2.2.2.2.2.2.1)))))) x.2.1 (fun (r : Bool) => Q (aH [(false, .bool)] [.n] (r, ())))
theorem aEc (x : aI uT) (Q : List (Bool × List VV) -> Prop) (h : OL x Q) : aD Try.prog 74 (aM uT x) Q :=
 aC [.n] (G := Q2) (ct := IY) (en := W5) (fn := Try.f74) (cd := aAj) (rt := [(false, .bool)]) Try.func74 (by kernel_rfl) (by kernel_rfl) (Nat.le_of_ble_eq_true rfl) aEh HP (aG rfl) h.it (by kernel_rfl)
noncomputable def UI : FuncId -> List VV -> (List (Bool × List VV) -> Prop) -> Prop := fun f args Q => if f = 74 then unA uT args (fun x => OL x Q) else E4 f args Q
theorem R6 : ∀ f args Q, UI f args Q -> aD Try.prog f args Q := aE HP (f0 := 74) uT (fun x Q => OL x Q) aEc
noncomputable def aCs : Cfg := ⟨Try.prog, tt, UI, fun _ _ _ => False, none, false⟩
def t7 (x0 : List (Int × Int × Int × Int × Int × Int × Bool)) (x1 : Int) (K0 : Unit -> Prop) (K1 : Unit -> Prop) (s : Int) (nx : Int -> Prop) : Prop :=
 if (decide (s < x1)) = true then ck ((0 : Int) <= s /\ s < (x0.length : Int)) (YN ((x0.getD ((s).toNat) (0, (0, (0, (0, (0, (0, false))))))).1, (((x0.getD ((s).toNat) (0, (0, (0, (0, (0, (0, false))))))).2).1, ((((x0.getD ((s).toNat) (0, (0, (0, (0, (0, (0, false))))))).2).2).1, (((((x0.getD ((s).toNat) (0, (0, (0, (0, (0, (0, false))))))).2).2).2).1, ((((((x0.getD ((s).toNat) (0, (0, (0, (0, (0, (0, false))))))).2).2).2).2).1, (((((((x0.getD ((s).toNat) (0, (0, (0, (0, (0, (0, false))))))).2).2).2).2).2).1, ((((((x0.getD ((s).toNat) (0, (0, (0, (0, (0, (0, false))))))).2).2).2).2).2).2)))))) s (fun (r5 : Bool) => if (!r5) = true then K1 () else nx (IntKind.i64.wrap (s + 1)))) else K0 ()
structure UT (x0 : List (Int × Int × Int × Int × Int × Int × Bool)) (x1 : Int) (K0 : Unit -> Prop) (K1 : Unit -> Prop) (s : Int) : Prop where
 it : Go.Mach.Loop (t7 x0 x1 K0 K1) s
def aHT (a0 : (Int × Int × Int) × List (Int × Int × Int × Int × Int × Int × Bool)) (Q : Bool -> Prop) : Prop :=
 KK (a0.1.1, (a0.1.2.1, a0.1.2.2)) (fun (r1 : Bool) => jn (fun (v2 : Bool) => if v2 = true then Q false else UT a0.2 (a0.2.length : Int) (fun (y6 : Unit) => Q true) (fun (y7 : Unit) => Q false) 0) (fun J3 => if (!r1) = true then J3 true else mS (a0.2.length : Int) 1 12 (fun (r4 : Bool) => J3 (!r4))))
structure YB (a0 : (Int × Int × Int) × List (Int × Int × Int × Int × Int × Int × Bool)) (Q : Bool -> Prop) : Prop where
 it : aHT a0 Q
noncomputable def aGc : Ent := ⟨[17, 18, 19], [.lf (.fz false (.pair (.int .i64) (.pair (.int .i64) (.pair (.int .i64) (.pair (.int .i64) (.pair (.int .i64) (.pair (.int .i64) .bool))))))), .lf (.int .i64), .lf (.int .i64)], [], fun x k => UT x.1.1 x.1.2.1 (fun (y8 : Unit) => k (.exit 0) ⟨[], []⟩) (fun (y9 : Unit) => k .ret ⟨[(2, .pl (.bool false))], []⟩) x.1.2.2.1⟩
noncomputable def J1 : Tab := fun n => match n with | 58 => some aGc | _ => none
noncomputable def W4 : Go.Mach.Ends := fun n => match n with | 2 => some ([], [1]) | 12 => some ([], [1, 15]) | 27 => some ([], [1]) | 28 => some ([], [17, 18, 19]) | 30 => some ([], [2]) | 31 => some ([], [2]) | 52 => some ([], [2]) | 53 => some ([], [2]) | 58 => some ([], [17, 18, 19]) | 232 => some ([], [17, 18, 19, 20]) | 932 => some ([], [17, 18, 19]) | 933 => some ([], []) | 935 => some ([], [17, 18, 19]) | 3736 => some ([], [3, 4, 17, 18, 19]) | 7474 => some ([], [17, 18, 19, 27]) | 14951 => some ([], [17, 18, 19]) | 29900 => some ([], [2]) | 29901 => some ([], [2]) | _ => none
noncomputable def aBI : Code := Try.f50.body.getD .skip
theorem aEZ : aL aCs J1 W4 aBI := by
 intro n E hn f c hs x k h
 unfold J1 at hn
 split at hn
 ·cases hn; exact aK hs (by kernel_rfl) (fun y : Int => ⟨[(17, .fz false (.pair (.int .i64) (.pair (.int .i64) (.pair (.int .i64) (.pair (.int .i64) (.pair (.int .i64) (.pair (.int .i64) .bool)))))) x.1.1), (18, .pl (.int .i64 x.1.2.1)), (19, .pl (.int .i64 y))], []⟩) x.1.2.2.1 (by kernel_rfl) (fun y X => by kernel_rfl) h.it
 ·cases hn
def tR : List Sh := [.agg [.int .i64, .int .i64, .int .i64, .fz false (.pair (.int .i64) (.pair (.int .i64) (.pair (.int .i64) (.pair (.int .i64) (.pair (.int .i64) (.pair (.int .i64) .bool))))))]]
def M8 (x : aI tR) (Q : List (Bool × List VV) -> Prop) : Prop := YB ((x.1.1, (x.1.2.1, x.1.2.2.1)), x.1.2.2.2.1) (fun (r : Bool) => Q (aH [(false, .bool)] [.n] (r, ())))
theorem aE4 (x : aI tR) (Q : List (Bool × List VV) -> Prop) (h : M8 x Q) : aD Try.prog 50 (aM tR x) Q :=
 aC [.n] (G := aCs) (ct := J1) (en := W4) (fn := Try.f50) (cd := aBI) (rt := [(false, .bool)]) Try.func50 (by kernel_rfl) (by kernel_rfl) (Nat.le_of_ble_eq_true rfl) aEZ R6 (aG rfl) h.it (by kernel_rfl)
noncomputable def S1 : FuncId -> List VV -> (List (Bool × List VV) -> Prop) -> Prop := fun f args Q => if f = 50 then unA tR args (fun x => M8 x Q) else UI f args Q
theorem R5 : ∀ f args Q, S1 f args Q -> aD Try.prog f args Q := aE R6 (f0 := 50) tR (fun x Q => M8 x Q) aE4
noncomputable def aC3 : Cfg := ⟨Try.prog, tt, S1, fun _ _ _ => False, none, false⟩
def lO (x1 : List Int) (x2 : Int) (K0 : Int -> Prop) (s : Int × Int) (nx : (Int × Int) -> Prop) : Prop :=
 if (decide (s.2 < x2)) = true then ck ((0 : Int) <= s.2 /\ s.2 < (x1.length : Int)) (nx (IntKind.i64.wrap (s.1 * (x1.getD ((s.2).toNat) 0)), IntKind.i64.wrap (s.2 + 1))) else K0 s.1
structure HC (x1 : List Int) (x2 : Int) (K0 : Int -> Prop) (s : Int × Int) : Prop where
 it : Go.Mach.Loop (lO x1 x2 K0) s
def aBU (a0 : List Int) (Q : Int -> Prop) : Prop :=
 HC a0 (a0.length : Int) (fun (y1 : Int) => Q y1) (1, 0)
structure mY (a0 : List Int) (Q : Int -> Prop) : Prop where
 it : aBU a0 Q
noncomputable def YI : Ent := ⟨[3, 6, 7, 8], [.lf (.int .i64), .lf (.fz false (.int .i64)), .lf (.int .i64), .lf (.int .i64)], [], fun x k => HC x.1.2.1 x.1.2.2.1 (fun (y2 : Int) => k (.exit 0) ⟨[(3, .pl (.int .i64 y2))], []⟩) (x.1.1, x.1.2.2.2.1)⟩
noncomputable def xO : Tab := fun n => match n with | 58 => some YI | _ => none
noncomputable def G8 : Go.Mach.Ends := fun n => match n with | 2 => some ([], [0]) | 6 => some ([], [0, 3]) | 28 => some ([], [3, 6, 7, 8]) | 30 => some ([], [2]) | 31 => some ([], [2]) | 58 => some ([], [3, 6, 7, 8]) | 232 => some ([], [3, 6, 7, 8, 9]) | 932 => some ([], [3, 6, 7, 8]) | 933 => some ([], [3]) | 935 => some ([], [3, 6, 7, 8]) | 3736 => some ([], [3, 5, 6, 7, 8]) | 3737 => some ([], [3, 6, 7, 8]) | _ => none
noncomputable def MC : Code := Try.f51.body.getD .skip
theorem W8 : aL aC3 xO G8 MC := by
 intro n E hn f c hs x k h
 unfold xO at hn
 split at hn
 ·cases hn; exact aK hs (by kernel_rfl) (fun y : Int × Int => ⟨[(3, .pl (.int .i64 y.1)), (6, .fz false (.int .i64) x.1.2.1), (7, .pl (.int .i64 x.1.2.2.1)), (8, .pl (.int .i64 y.2))], []⟩) (x.1.1, x.1.2.2.2.1) (by kernel_rfl) (fun y X => by kernel_rfl) h.it
 ·cases hn
def kD : List Sh := [.lf (.fz false (.int .i64))]
def AJ (x : aI kD) (Q : List (Bool × List VV) -> Prop) : Prop := mY x.1 (fun (r : Int) => Q (aH [(false, (.int .i64))] [.n] (r, ())))
theorem VH (x : aI kD) (Q : List (Bool × List VV) -> Prop) (h : AJ x Q) : aD Try.prog 51 (aM kD x) Q :=
 aC [.n] (G := aC3) (ct := xO) (en := G8) (fn := Try.f51) (cd := MC) (rt := [(false, (.int .i64))]) Try.func51 (by kernel_rfl) (by kernel_rfl) (Nat.le_of_ble_eq_true rfl) W8 R5 (aG rfl) h.it (by kernel_rfl)
noncomputable def CW : FuncId -> List VV -> (List (Bool × List VV) -> Prop) -> Prop := fun f args Q => if f = 51 then unA kD args (fun x => AJ x Q) else S1 f args Q
theorem EH : ∀ f args Q, CW f args Q -> aD Try.prog f args Q := aE R5 (f0 := 51) kD (fun x Q => AJ x Q) VH
noncomputable def PZ : Cfg := ⟨Try.prog, tt, CW, fun _ _ _ => False, none, false⟩
def NP (a0 : List Int) (a1 : Int) (a2 : Int × Int × Int × Int × Int × Int × Bool) (Q : (List Int) -> Prop) : Prop :=
 if ((a0.length : Int) != 3) = true then Q ([] : List Int) else ck ((0 : Int) <= 1 /\ 1 < (a0.length : Int)) (mZ (a0.getD 1 0) a2.2.2.1 a2.2.2.2.1 a2.2.2.2.2.1 (fun (r1 : Int) => ck ((0 : Int) <= 2 /\ 2 < (a0.length : Int)) (mZ (a0.getD 2 0) a2.2.2.1 a2.2.2.2.1 a2.2.2.2.2.1 (fun (r2 : Int) => if ((r1 == 0) || (r2 == 0)) = true then Q ([] : List Int) else ck ([a1, r1, r2] ≠ []) (Q [a1, r1, r2])))))
structure pN (a0 : List Int) (a1 : Int) (a2 : Int × Int × Int × Int × Int × Int × Bool) (Q : (List Int) -> Prop) : Prop where
 it : NP a0 a1 a2 Q
noncomputable def MA : Tab := fun n => none
noncomputable def MI : Go.Mach.Ends := fun n => match n with | 2 => some ([], [0, 1, 5]) | 12 => some ([], [0, 1, 5, 11]) | 14 => some ([], [1, 7, 8]) | 27 => some ([], [0, 1, 5]) | 52 => some ([], [6]) | 53 => some ([], [6]) | 60 => some ([], [1, 7, 8, 37]) | 62 => some ([], [6]) | 63 => some ([], [6]) | 123 => some ([], [1, 7, 8]) | 244 => some ([], [6]) | 245 => some ([], [6]) | _ => none
noncomputable def PM : Code := Try.f75.body.getD .skip
theorem YJ : aL PZ MA MI PM := by
 intro n E hn f c hs x k h
 cases hn
def mL : List Sh := [.lf (.fz false (.int .i64)), .lf (.int .i64), .agg [.int .i64, .int .i64, .int .i64, .int .i64, .int .i64, .int .i64, .bool]]
def CX (x : aI mL) (Q : List (Bool × List VV) -> Prop) : Prop := pN x.1 x.2.1 (x.2.2.1.1, (x.2.2.1.2.1, (x.2.2.1.2.2.1, (x.2.2.1.2.2.2.1, (x.2.2.1.2.2.2.2.1, (x.2.2.1.2.2.2.2.2.1, x.2.2.1.2.2.2.2.2.2.1)))))) (fun (r : List Int) => Q (aH [(false, (.slc (.int .i64)))] [.z] (r, ())))
theorem Y9 (x : aI mL) (Q : List (Bool × List VV) -> Prop) (h : CX x Q) : aD Try.prog 75 (aM mL x) Q :=
 aC [.z] (G := PZ) (ct := MA) (en := MI) (fn := Try.f75) (cd := PM) (rt := [(false, (.slc (.int .i64)))]) Try.func75 (by kernel_rfl) (by kernel_rfl) (Nat.le_of_ble_eq_true rfl) YJ EH (aG rfl) h.it (by kernel_rfl)
noncomputable def FG : FuncId -> List VV -> (List (Bool × List VV) -> Prop) -> Prop := fun f args Q => if f = 75 then unA mL args (fun x => CX x Q) else CW f args Q
theorem HT : ∀ f args Q, FG f args Q -> aD Try.prog f args Q := aE EH (f0 := 75) mL (fun x Q => CX x Q) Y9
noncomputable def SO : Cfg := ⟨Try.prog, tt, FG, fun _ _ _ => False, none, false⟩
def Q9 (a0 : Int × Int × Int × Int × Int × Int × Bool) (a1 : List (List Int)) (Q : (List Int) -> Prop) : Prop :=
 ck ((0 : Int) <= (IntKind.i64.wrap ((a1.length : Int) - 1)) /\ (IntKind.i64.wrap ((a1.length : Int) - 1)) < (a1.length : Int)) (if (a0.1 == 1) = true then if (((a1.getD ((IntKind.i64.wrap ((a1.length : Int) - 1)).toNat) []).length : Int) == 1) = true then ck ([a0.2.1] ≠ []) (Q [a0.2.1]) else Q ([] : List Int) else if (a0.1 == 2) = true then pN (a1.getD ((IntKind.i64.wrap ((a1.length : Int) - 1)).toNat) []) a0.2.1 (a0.1, (a0.2.1, (a0.2.2.1, (a0.2.2.2.1, (a0.2.2.2.2.1, (a0.2.2.2.2.2.1, a0.2.2.2.2.2.2)))))) (fun (r1 : List Int) => nz r1 (Q ([] : List Int)) (ck (r1 ≠ []) (Q r1))) else if (a0.1 == 3) = true then if (a0.1 == 3) = true then ck ((0 : Int) <= 0 /\ 0 < ((a1.getD ((IntKind.i64.wrap ((a1.length : Int) - 1)).toNat) []).length : Int)) (pN (a1.getD ((IntKind.i64.wrap ((a1.length : Int) - 1)).toNat) []) ((a1.getD ((IntKind.i64.wrap ((a1.length : Int) - 1)).toNat) []).getD 0 0) (a0.1, (a0.2.1, (a0.2.2.1, (a0.2.2.2.1, (a0.2.2.2.2.1, (a0.2.2.2.2.2.1, a0.2.2.2.2.2.2)))))) (fun (r2 : List Int) => nz r2 (Q ([] : List Int)) (ck (r2 ≠ []) (Q r2)))) else if (a0.1 == 5) = true then aW (a1.getD ((IntKind.i64.wrap ((a1.length : Int) - 1)).toNat) []) (fun (r3 : List Int) => ck (r3 ≠ []) (Q r3)) else if (a0.1 == 6) = true then mY (a1.getD ((IntKind.i64.wrap ((a1.length : Int) - 1)).toNat) []) (fun (r4 : Int) => ck ([r4] ≠ []) (Q [r4])) else if (a0.1 == 7) = true then ck ((0 : Int) <= a0.2.2.2.2.2.1 /\ a0.2.2.2.2.2.1 < (a1.length : Int)) (gN (a1.getD ((a0.2.2.2.2.2.1).toNat) []) (a1.getD ((IntKind.i64.wrap ((a1.length : Int) - 1)).toNat) []) (fun (r5 : Bool) => if r5 = true then aW (a1.getD ((IntKind.i64.wrap ((a1.length : Int) - 1)).toNat) []) (fun (r6 : List Int) => ck (r6 ≠ []) (Q r6)) else Q ([] : List Int))) else Q ([] : List Int) else if (a0.1 == 4) = true then ck ((0 : Int) <= 0 /\ 0 < ((a1.getD ((IntKind.i64.wrap ((a1.length : Int) - 1)).toNat) []).length : Int)) (pN (a1.getD ((IntKind.i64.wrap ((a1.length : Int) - 1)).toNat) []) ((a1.getD ((IntKind.i64.wrap ((a1.length : Int) - 1)).toNat) []).getD 0 0) (a0.1, (a0.2.1, (a0.2.2.1, (a0.2.2.2.1, (a0.2.2.2.2.1, (a0.2.2.2.2.2.1, a0.2.2.2.2.2.2)))))) (fun (r7 : List Int) => nz r7 (Q ([] : List Int)) (ck (r7 ≠ []) (Q r7)))) else if (a0.1 == 5) = true then aW (a1.getD ((IntKind.i64.wrap ((a1.length : Int) - 1)).toNat) []) (fun (r8 : List Int) => ck (r8 ≠ []) (Q r8)) else if (a0.1 == 6) = true then mY (a1.getD ((IntKind.i64.wrap ((a1.length : Int) - 1)).toNat) []) (fun (r9 : Int) => ck ([r9] ≠ []) (Q [r9])) else if (a0.1 == 7) = true then ck ((0 : Int) <= a0.2.2.2.2.2.1 /\ a0.2.2.2.2.2.1 < (a1.length : Int)) (gN (a1.getD ((a0.2.2.2.2.2.1).toNat) []) (a1.getD ((IntKind.i64.wrap ((a1.length : Int) - 1)).toNat) []) (fun (r10 : Bool) => if r10 = true then aW (a1.getD ((IntKind.i64.wrap ((a1.length : Int) - 1)).toNat) []) (fun (r11 : List Int) => ck (r11 ≠ []) (Q r11)) else Q ([] : List Int))) else Q ([] : List Int))
structure N7 (a0 : Int × Int × Int × Int × Int × Int × Bool) (a1 : List (List Int)) (Q : (List Int) -> Prop) : Prop where
 it : Q9 a0 a1 Q
noncomputable def N0 : Tab := fun n => none
noncomputable def N5 : Go.Mach.Ends := fun n => match n with | 2 => some ([], [1, 2]) | 6 => some ([], [1, 2, 5]) | 28 => some ([], [1, 2, 5, 13]) | 30 => some ([], [4]) | 31 => some ([], [4]) | 116 => some ([], [1, 2, 5, 13, 14]) | 468 => some ([], [2, 18]) | 470 => some ([], [1, 2, 5, 13, 22]) | 939 => some ([], []) | 1876 => some ([], [4]) | 1877 => some ([], [4]) | 1884 => some ([], [4]) | 1885 => some ([], [4]) | 3772 => some ([], [1, 2, 5, 13, 29]) | 7546 => some ([], [1, 2, 5, 13, 29]) | 7547 => some ([], [1, 2, 5, 13, 29]) | 7548 => some ([], [4]) | 7549 => some ([], [4]) | 7550 => some ([], [1, 2, 5, 13, 38]) | 30204 => some ([], [4]) | 30205 => some ([], [4]) | 30206 => some ([], [1, 2, 5, 13, 42]) | 120828 => some ([], [4]) | 120829 => some ([], [4]) | 120830 => some ([], [1, 2, 5, 47]) | 241663 => some ([], []) | 483324 => some ([], [5, 55]) | 966651 => some ([], []) | 1933300 => some ([], [4]) | 1933301 => some ([], [4]) | _ => none
noncomputable def RO : Code := Try.f52.body.getD .skip
theorem aB2 : aL SO N0 N5 RO := by
 intro n E hn f c hs x k h
 cases hn
def o5 : List Sh := [.agg [.int .i64, .int .i64, .int .i64, .int .i64, .int .i64, .int .i64, .bool], .lf (.fz false (.slc (.int .i64)))]
def FS (x : aI o5) (Q : List (Bool × List VV) -> Prop) : Prop := N7 (x.1.1, (x.1.2.1, (x.1.2.2.1, (x.1.2.2.2.1, (x.1.2.2.2.2.1, (x.1.2.2.2.2.2.1, x.1.2.2.2.2.2.2.1)))))) x.2.1 (fun (r : List Int) => Q (aH [(false, (.slc (.int .i64)))] [.z] (r, ())))
theorem aB9 (x : aI o5) (Q : List (Bool × List VV) -> Prop) (h : FS x Q) : aD Try.prog 52 (aM o5 x) Q :=
 aC [.z] (G := SO) (ct := N0) (en := N5) (fn := Try.f52) (cd := RO) (rt := [(false, (.slc (.int .i64)))]) Try.func52 (by kernel_rfl) (by kernel_rfl) (Nat.le_of_ble_eq_true rfl) aB2 HT (aG rfl) h.it (by kernel_rfl)
noncomputable def JX : FuncId -> List VV -> (List (Bool × List VV) -> Prop) -> Prop := fun f args Q => if f = 52 then unA o5 args (fun x => FS x Q) else FG f args Q
theorem LV : ∀ f args Q, JX f args Q -> aD Try.prog f args Q := aE HT (f0 := 52) o5 (fun x Q => FS x Q) aB9
noncomputable def W0 : Cfg := ⟨Try.prog, tt, JX, fun _ _ _ => False, none, false⟩
def nV (x0 : List (Int × Int × Int × Int × Int × Int × Bool)) (x1 : Int) (K0 : (List (List Int)) -> Prop) (K1 : (Int × Int) -> Prop) (s : Int × List (List Int)) (nx : (Int × List (List Int)) -> Prop) : Prop :=
 if (decide (s.1 < x1)) = true then ck ((0 : Int) <= s.1 /\ s.1 < (x0.length : Int)) (N7 ((x0.getD ((s.1).toNat) (0, (0, (0, (0, (0, (0, false))))))).1, (((x0.getD ((s.1).toNat) (0, (0, (0, (0, (0, (0, false))))))).2).1, ((((x0.getD ((s.1).toNat) (0, (0, (0, (0, (0, (0, false))))))).2).2).1, (((((x0.getD ((s.1).toNat) (0, (0, (0, (0, (0, (0, false))))))).2).2).2).1, ((((((x0.getD ((s.1).toNat) (0, (0, (0, (0, (0, (0, false))))))).2).2).2).2).1, (((((((x0.getD ((s.1).toNat) (0, (0, (0, (0, (0, (0, false))))))).2).2).2).2).2).1, ((((((x0.getD ((s.1).toNat) (0, (0, (0, (0, (0, (0, false))))))).2).2).2).2).2).2)))))) s.2 (fun (r3 : List Int) => nz r3 (K1 (IntKind.i64.wrap (s.1 + 1), 2)) (nq r3 (K1 (IntKind.i64.wrap (s.1 + 1), 2)) (mY r3 (fun (r4 : Int) => if (decide (8192 < r4)) = true then K1 (IntKind.i64.wrap (s.1 + 1), 1) else ck ((s.2.length + [r3].length) * 24 <= 140737488355328) (nx (IntKind.i64.wrap (s.1 + 1), s.2 ++ [r3]))))))) else K0 s.2
structure KR (x0 : List (Int × Int × Int × Int × Int × Int × Bool)) (x1 : Int) (K0 : (List (List Int)) -> Prop) (K1 : (Int × Int) -> Prop) (s : Int × List (List Int)) : Prop where
 it : Go.Mach.Loop (nV x0 x1 K0 K1) s
def aDT (a0 : (Int × Int × Int) × List (Int × Int × Int × Int × Int × Int × Bool)) (Q : ((List (List Int)) × Int × Int) -> Prop) : Prop :=
 YB ((a0.1.1, (a0.1.2.1, a0.1.2.2)), a0.2) (fun (r1 : Bool) => if (!r1) = true then Q (([] : List (List Int)), 0, 1) else ck ((0 : Int) <= 0 /\ 0 < ([([a0.1.1, a0.1.2.1, a0.1.2.2] : List Int)].length : Int)) (mY ([a0.1.1, a0.1.2.1, a0.1.2.2] : List Int) (fun (r2 : Int) => if (decide (8192 < r2)) = true then Q (([] : List (List Int)), 0, 1) else KR a0.2 (a0.2.length : Int) (fun (y5 : List (List Int)) => Q (y5, 0, 0)) (fun (y6 : Int × Int) => Q (([] : List (List Int)), y6.1, y6.2)) (0, [([a0.1.1, a0.1.2.1, a0.1.2.2] : List Int)]))))
structure BI (a0 : (Int × Int × Int) × List (Int × Int × Int × Int × Int × Int × Bool)) (Q : ((List (List Int)) × Int × Int) -> Prop) : Prop where
 it : aDT a0 Q
noncomputable def aBi : Ent := ⟨[5, 21, 22, 23], [.lf (.cst (.own 0)), .lf (.fz false (.pair (.int .i64) (.pair (.int .i64) (.pair (.int .i64) (.pair (.int .i64) (.pair (.int .i64) (.pair (.int .i64) .bool))))))), .lf (.int .i64), .lf (.int .i64)], [.lst true (.slc (.int .i64)) false], fun x k => KR x.1.2.1 x.1.2.2.1 (fun (y7 : List (List Int)) => k (.exit 0) ⟨[(5, .own 0)], [.lst true (.slc (.int .i64)) y7 false]⟩) (fun (y8 : Int × Int) => k .ret ⟨[(2, .pl (.slice none 0 0)), (3, .pl (.int .i64 y8.1)), (4, .pl (.int .i64 y8.2))], []⟩) (x.1.2.2.2.1, x.2.1)⟩
noncomputable def AC : Tab := fun n => match n with | 250 => some aBi | _ => none
noncomputable def KY : Go.Mach.Ends := fun n => match n with | 2 => some ([], [1]) | 12 => some ([], [1, 11]) | 14 => some ([], [1, 5]) | 27 => some ([], [1]) | 52 => some ([], [2, 3, 4]) | 53 => some ([], [2, 3, 4]) | 60 => some ([], [1, 5, 19]) | 123 => some ([], [1, 5]) | 124 => some ([], [5, 21, 22, 23]) | 126 => some ([], [2, 3, 4]) | 127 => some ([], [2, 3, 4]) | 244 => some ([], [2, 3, 4]) | 245 => some ([], [2, 3, 4]) | 250 => some ([], [5, 21, 22, 23]) | 1000 => some ([], [5, 21, 22, 23, 24]) | 4004 => some ([], [5, 21, 22, 23]) | 4005 => some ([], [5]) | 4007 => some ([], [5, 21, 22, 23]) | 16024 => some ([], [5, 6, 7, 21, 22, 23]) | 32050 => some ([], [5, 6, 8, 21, 22, 23]) | 64103 => some ([], [5, 21, 22, 23]) | 256408 => some ([], [5, 6, 8, 21, 22, 23, 31]) | 1025636 => some ([], [2, 3, 4]) | 1025637 => some ([], [2, 3, 4]) | 1025638 => some ([], [5, 6, 8, 21, 22, 23, 36]) | 2051279 => some ([], [5, 8, 21, 22, 23]) | 4102556 => some ([], [2, 3, 4]) | 4102557 => some ([], [2, 3, 4]) | _ => none
noncomputable def O6 : Code := Try.f29.body.getD .skip
theorem ZD : aL W0 AC KY O6 := by
 intro n E hn f c hs x k h
 unfold AC at hn
 split at hn
 ·cases hn; exact aK hs (by kernel_rfl) (fun y : Int × List (List Int) => ⟨[(5, .own 0), (21, .fz false (.pair (.int .i64) (.pair (.int .i64) (.pair (.int .i64) (.pair (.int .i64) (.pair (.int .i64) (.pair (.int .i64) .bool)))))) x.1.2.1), (22, .pl (.int .i64 x.1.2.2.1)), (23, .pl (.int .i64 y.1))], [.lst true (.slc (.int .i64)) y.2 false]⟩) (x.1.2.2.2.1, x.2.1) (by kernel_rfl) (fun y X => by kernel_rfl) h.it
 ·cases hn
def mW : List Sh := [.agg [.int .i64, .int .i64, .int .i64, .fz false (.pair (.int .i64) (.pair (.int .i64) (.pair (.int .i64) (.pair (.int .i64) (.pair (.int .i64) (.pair (.int .i64) .bool))))))]]
def DP (x : aI mW) (Q : List (Bool × List VV) -> Prop) : Prop := BI ((x.1.1, (x.1.2.1, x.1.2.2.1)), x.1.2.2.2.1) (fun (r : (List (List Int)) × Int × Int) => Q (aH [(false, (.slc (.slc (.int .i64)))), (false, (.int .i64)), (false, (.int .i64))] [.n, .n, .n] (r.1, (r.2.1, (r.2.2, ())))))
theorem YR (x : aI mW) (Q : List (Bool × List VV) -> Prop) (h : DP x Q) : aD Try.prog 29 (aM mW x) Q :=
 aC [.n, .n, .n] (G := W0) (ct := AC) (en := KY) (fn := Try.f29) (cd := O6) (rt := [(false, (.slc (.slc (.int .i64)))), (false, (.int .i64)), (false, (.int .i64))]) Try.func29 (by kernel_rfl) (by kernel_rfl) (Nat.le_of_ble_eq_true rfl) ZD LV (aG rfl) h.it (by kernel_rfl)
noncomputable def F7 : FuncId -> List VV -> (List (Bool × List VV) -> Prop) -> Prop := fun f args Q => if f = 29 then unA mW args (fun x => DP x Q) else JX f args Q
theorem GC : ∀ f args Q, F7 f args Q -> aD Try.prog f args Q := aE LV (f0 := 29) mW (fun x Q => DP x Q) YR
noncomputable def QV : Cfg := ⟨Try.prog, tt, F7, fun _ _ _ => False, none, false⟩
def aAC (a0 : Int × Int × Int × Int × Int × Int × Bool) (a1 : List Int) (Q : ((List Int) × Int) -> Prop) : Prop :=
 if (a0.1 == 1) = true then ck ((0 : Int) <= 0 /\ 0 < (a1.length : Int)) (ck ([a0.2.1, a1.getD 0 0] ≠ []) (Q ([a0.2.1, a1.getD 0 0], a0.2.1))) else if (a0.1 == 2) = true then ck ((0 : Int) <= 0 /\ 0 < (a1.length : Int)) (ck ([a0.2.1, a1.getD 0 0, a0.2.2.1, a0.2.2.1] ≠ []) (Q ([a0.2.1, a1.getD 0 0, a0.2.2.1, a0.2.2.1], a0.2.1))) else Q (([] : List Int), 0)
structure ZX (a0 : Int × Int × Int × Int × Int × Int × Bool) (a1 : List Int) (Q : ((List Int) × Int) -> Prop) : Prop where
 it : aAC a0 a1 Q
noncomputable def W3 : Tab := fun n => none
noncomputable def V0 : Go.Mach.Ends := fun n => match n with | 2 => some ([], [1, 2]) | 12 => some ([], [1, 2, 7]) | 14 => some ([], [4, 5]) | 15 => some ([], [4, 5]) | 52 => some ([], [1, 2, 7, 8]) | 212 => some ([], [4, 5]) | 213 => some ([], [4, 5]) | 214 => some ([], [1, 2, 18]) | 431 => some ([], []) | 860 => some ([], [4, 5]) | 861 => some ([], [4, 5]) | _ => none
noncomputable def aBB : Code := Try.f53.body.getD .skip
theorem aEs : aL QV W3 V0 aBB := by
 intro n E hn f c hs x k h
 cases hn
def uC : List Sh := [.agg [.int .i64, .int .i64, .int .i64, .int .i64, .int .i64, .int .i64, .bool], .lf (.fz false (.int .i64))]
def N1 (x : aI uC) (Q : List (Bool × List VV) -> Prop) : Prop := ZX (x.1.1, (x.1.2.1, (x.1.2.2.1, (x.1.2.2.2.1, (x.1.2.2.2.2.1, (x.1.2.2.2.2.2.1, x.1.2.2.2.2.2.2.1)))))) x.2.1 (fun (r : (List Int) × Int) => Q (aH [(false, (.slc (.int .i64))), (false, (.int .i64))] [.z, .n] (r.1, (r.2, ()))))
theorem aE6 (x : aI uC) (Q : List (Bool × List VV) -> Prop) (h : N1 x Q) : aD Try.prog 53 (aM uC x) Q :=
 aC [.z, .n] (G := QV) (ct := W3) (en := V0) (fn := Try.f53) (cd := aBB) (rt := [(false, (.slc (.int .i64))), (false, (.int .i64))]) Try.func53 (by kernel_rfl) (by kernel_rfl) (Nat.le_of_ble_eq_true rfl) aEs GC (aG rfl) h.it (by kernel_rfl)
noncomputable def UA : FuncId -> List VV -> (List (Bool × List VV) -> Prop) -> Prop := fun f args Q => if f = 53 then unA uC args (fun x => N1 x Q) else F7 f args Q
theorem RX : ∀ f args Q, UA f args Q -> aD Try.prog f args Q := aE GC (f0 := 53) uC (fun x Q => N1 x Q) aE6
noncomputable def aEH : Cfg := ⟨Try.prog, tt, UA, fun _ _ _ => False, none, false⟩
def aE0 (a0 : (Int × Int × Int) × List (Int × Int × Int × Int × Int × Int × Bool)) (a1 : Int) (Q : ((List Int) × Int) -> Prop) : Prop :=
 BI ((a0.1.1, (a0.1.2.1, a0.1.2.2)), a0.2) (fun (r1 : (List (List Int)) × Int × Int) => if (((r1.2.2 != 0) || (decide (a1 < 1))) || (decide ((a0.2.length : Int) < a1))) = true then Q (([] : List Int), 0) else ck ((0 : Int) <= (IntKind.i64.wrap (a1 - 1)) /\ (IntKind.i64.wrap (a1 - 1)) < (a0.2.length : Int)) (ck ((0 : Int) <= (IntKind.i64.wrap (a1 - 1)) /\ (IntKind.i64.wrap (a1 - 1)) < (r1.1.length : Int)) (ZX ((a0.2.getD ((IntKind.i64.wrap (a1 - 1)).toNat) (0, (0, (0, (0, (0, (0, false))))))).1, (((a0.2.getD ((IntKind.i64.wrap (a1 - 1)).toNat) (0, (0, (0, (0, (0, (0, false))))))).2).1, ((((a0.2.getD ((IntKind.i64.wrap (a1 - 1)).toNat) (0, (0, (0, (0, (0, (0, false))))))).2).2).1, (((((a0.2.getD ((IntKind.i64.wrap (a1 - 1)).toNat) (0, (0, (0, (0, (0, (0, false))))))).2).2).2).1, ((((((a0.2.getD ((IntKind.i64.wrap (a1 - 1)).toNat) (0, (0, (0, (0, (0, (0, false))))))).2).2).2).2).1, (((((((a0.2.getD ((IntKind.i64.wrap (a1 - 1)).toNat) (0, (0, (0, (0, (0, (0, false))))))).2).2).2).2).2).1, ((((((a0.2.getD ((IntKind.i64.wrap (a1 - 1)).toNat) (0, (0, (0, (0, (0, (0, false))))))).2).2).2).2).2).2)))))) (r1.1.getD ((IntKind.i64.wrap (a1 - 1)).toNat) []) (fun (r2 : (List Int) × Int) => nz r2.1 (kJ ([] : List Int) (fun (r3 : Bool) => if (!r3) = true then Q (([] : List Int), 0) else Q (([] : List Int), r2.2))) (kJ r2.1 (fun (r4 : Bool) => if (!r4) = true then Q (([] : List Int), 0) else ck (r2.1 ≠ []) (Q (r2.1, r2.2))))))))
structure NT (a0 : (Int × Int × Int) × List (Int × Int × Int × Int × Int × Int × Bool)) (a1 : Int) (Q : ((List Int) × Int) -> Prop) : Prop where
 it : aE0 a0 a1 Q
noncomputable def N4 : Tab := fun n => none
noncomputable def OJ : Go.Mach.Ends := fun n => match n with | 2 => some ([], [1, 2]) | 6 => some ([], [1, 2, 6, 8]) | 28 => some ([], [1, 2, 6, 29]) | 30 => some ([], [9, 10]) | 59 => some ([], [1, 2, 6]) | 116 => some ([], [4, 5]) | 117 => some ([], [4, 5]) | 124 => some ([], [9, 10, 47]) | 126 => some ([], [4, 5]) | 127 => some ([], [4, 5]) | 251 => some ([], [9, 10]) | 500 => some ([], [4, 5]) | 501 => some ([], [4, 5]) | _ => none
noncomputable def Q5 : Code := Try.f30.body.getD .skip
theorem aBN : aL aEH N4 OJ Q5 := by
 intro n E hn f c hs x k h
 cases hn
def oE : List Sh := [.agg [.int .i64, .int .i64, .int .i64, .fz false (.pair (.int .i64) (.pair (.int .i64) (.pair (.int .i64) (.pair (.int .i64) (.pair (.int .i64) (.pair (.int .i64) .bool))))))], .lf (.int .i64)]
def FI (x : aI oE) (Q : List (Bool × List VV) -> Prop) : Prop := NT ((x.1.1, (x.1.2.1, x.1.2.2.1)), x.1.2.2.2.1) x.2.1 (fun (r : (List Int) × Int) => Q (aH [(false, (.slc (.int .i64))), (false, (.int .i64))] [.z, .n] (r.1, (r.2, ()))))
theorem aBL (x : aI oE) (Q : List (Bool × List VV) -> Prop) (h : FI x Q) : aD Try.prog 30 (aM oE x) Q :=
 aC [.z, .n] (G := aEH) (ct := N4) (en := OJ) (fn := Try.f30) (cd := Q5) (rt := [(false, (.slc (.int .i64))), (false, (.int .i64))]) Try.func30 (by kernel_rfl) (by kernel_rfl) (Nat.le_of_ble_eq_true rfl) aBN RX (aG rfl) h.it (by kernel_rfl)
noncomputable def JB : FuncId -> List VV -> (List (Bool × List VV) -> Prop) -> Prop := fun f args Q => if f = 30 then unA oE args (fun x => FI x Q) else UA f args Q
theorem L7 : ∀ f args Q, JB f args Q -> aD Try.prog f args Q := aE RX (f0 := 30) oE (fun x Q => FI x Q) aBL
noncomputable def VE : Cfg := ⟨Try.prog, tt, JB, fun _ _ _ => False, none, false⟩
def aEU (a0 : ((List Int) × Int × List Int) × (List Int) × (List Int) × Int × List Int) (Q : Bool -> Prop) : Prop :=
 Q ((((IntKind.i64.wrap ((IntKind.i64.wrap ((IntKind.i64.wrap ((IntKind.i64.wrap ((a0.1.1.length : Int) + (a0.1.2.2.length : Int))) + (a0.2.1.length : Int))) + (a0.2.2.1.length : Int))) + (a0.2.2.2.2.length : Int))) == 0) && (a0.1.2.1 == 0)) && (a0.2.2.2.1 == 0))
structure oF (a0 : ((List Int) × Int × List Int) × (List Int) × (List Int) × Int × List Int) (Q : Bool -> Prop) : Prop where
 it : aEU a0 Q
noncomputable def OC : Tab := fun n => none
noncomputable def PD : Go.Mach.Ends := fun n => match n with | 2 => some ([], [1]) | 6 => some ([], [2]) | 7 => some ([], [2]) | _ => none
noncomputable def Q7 : Code := Try.f31.body.getD .skip
theorem aBp : aL VE OC PD Q7 := by
 intro n E hn f c hs x k h
 cases hn
def oN : List Sh := [.agg [.fz false (.int .i64), .int .i64, .fz false (.int .i8), .fz false (.int .i32), .fz false (.int .i64), .int .i64, .fz false (.int .i8)]]
def E3 (x : aI oN) (Q : List (Bool × List VV) -> Prop) : Prop := oF ((x.1.1, (x.1.2.1, x.1.2.2.1)), (x.1.2.2.2.1, (x.1.2.2.2.2.1, (x.1.2.2.2.2.2.1, x.1.2.2.2.2.2.2.1)))) (fun (r : Bool) => Q (aH [(false, .bool)] [.n] (r, ())))
theorem aB7 (x : aI oN) (Q : List (Bool × List VV) -> Prop) (h : E3 x Q) : aD Try.prog 31 (aM oN x) Q :=
 aC [.n] (G := VE) (ct := OC) (en := PD) (fn := Try.f31) (cd := Q7) (rt := [(false, .bool)]) Try.func31 (by kernel_rfl) (by kernel_rfl) (Nat.le_of_ble_eq_true rfl) aBp L7 (aG rfl) h.it (by kernel_rfl)
noncomputable def JH : FuncId -> List VV -> (List (Bool × List VV) -> Prop) -> Prop := fun f args Q => if f = 31 then unA oN args (fun x => E3 x Q) else JB f args Q
theorem LI : ∀ f args Q, JH f args Q -> aD Try.prog f args Q := aE L7 (f0 := 31) oN (fun x Q => E3 x Q) aB7
noncomputable def WW : Cfg := ⟨Try.prog, tt, JH, fun _ _ _ => False, none, false⟩
def aCa (a0 : Int) (Q : Bool -> Prop) : Prop :=
 Q ((decide (a0 < (-1048576))) || (decide (1048576 < a0)))
structure IB (a0 : Int) (Q : Bool -> Prop) : Prop where
 it : aCa a0 Q
noncomputable def ME : Tab := fun n => none
noncomputable def LL : Go.Mach.Ends := fun n => match n with | 2 => some ([], [0]) | 6 => some ([], [2]) | 7 => some ([], [2]) | _ => none
noncomputable def NU : Code := Try.f33.body.getD .skip
theorem Y1 : aL WW ME LL NU := by
 intro n E hn f c hs x k h
 cases hn
def mK : List Sh := [.lf (.int .i32)]
def B5 (x : aI mK) (Q : List (Bool × List VV) -> Prop) : Prop := IB x.1 (fun (r : Bool) => Q (aH [(false, .bool)] [.n] (r, ())))
theorem XW (x : aI mK) (Q : List (Bool × List VV) -> Prop) (h : B5 x Q) : aD Try.prog 33 (aM mK x) Q :=
 aC [.n] (G := WW) (ct := ME) (en := LL) (fn := Try.f33) (cd := NU) (rt := [(false, .bool)]) Try.func33 (by kernel_rfl) (by kernel_rfl) (Nat.le_of_ble_eq_true rfl) Y1 LI (aG rfl) h.it (by kernel_rfl)
noncomputable def yF : FuncId -> List VV -> (List (Bool × List VV) -> Prop) -> Prop := fun f args Q => if f = 33 then unA mK args (fun x => B5 x Q) else JH f args Q
theorem GD : ∀ f args Q, yF f args Q -> aD Try.prog f args Q := aE LI (f0 := 33) mK (fun x Q => B5 x Q) XW
noncomputable def RU : Cfg := ⟨Try.prog, tt, yF, fun _ _ _ => False, none, false⟩
def aT (x0 : List Int) (x1 : Int) (K0 : Unit -> Prop) (K1 : Int -> Prop) (s : Int) (nx : Int -> Prop) : Prop :=
 if (decide (s < x1)) = true then ck ((0 : Int) <= s /\ s < (x0.length : Int)) (IB (x0.getD ((s).toNat) 0) (fun (r1 : Bool) => if r1 = true then K1 s else nx (IntKind.i64.wrap (s + 1)))) else K0 ()
structure dH (x0 : List Int) (x1 : Int) (K0 : Unit -> Prop) (K1 : Int -> Prop) (s : Int) : Prop where
 it : Go.Mach.Loop (aT x0 x1 K0 K1) s
def kV (a0 : List Int) (Q : Int -> Prop) : Prop :=
 dH a0 (a0.length : Int) (fun (y2 : Unit) => Q (-1)) (fun (y3 : Int) => Q y3) 0
structure eK (a0 : List Int) (Q : Int -> Prop) : Prop where
 it : kV a0 Q
noncomputable def j9 : Ent := ⟨[0, 1, 7, 8], [.lf (.fz false (.int .i32)), .lf (.cst (.fn 33 [])), .lf (.int .i64), .lf (.int .i64)], [], fun x k => dH x.1.1 x.1.2.2.1 (fun (y4 : Unit) => k (.exit 0) ⟨[], []⟩) (fun (y5 : Int) => k .ret ⟨[(4, .pl (.int .i64 y5))], []⟩) x.1.2.2.2.1⟩
noncomputable def bK : Tab := fun n => match n with | 26 => some j9 | _ => none
noncomputable def dG : Go.Mach.Ends := fun n => match n with | 2 => some ([], [0, 1]) | 12 => some ([], [0, 1, 7, 8]) | 14 => some ([], [4]) | 15 => some ([], [4]) | 26 => some ([], [0, 1, 7, 8]) | 104 => some ([], [0, 1, 7, 8, 9]) | 420 => some ([], [0, 1, 7, 8]) | 421 => some ([], []) | 423 => some ([], [0, 1, 7, 8]) | 1688 => some ([], [0, 1, 5, 7, 8]) | 3378 => some ([], [0, 1, 5, 7, 8, 16]) | 6759 => some ([], [0, 1, 7, 8]) | 13516 => some ([], [4]) | 13517 => some ([], [4]) | _ => none
noncomputable def dL : Code := Try.f54.body.getD .skip
theorem jT : aL RU bK dG dL := by
 intro n E hn f c hs x k h
 unfold bK at hn
 split at hn
 ·cases hn; exact aK hs (by kernel_rfl) (fun y : Int => ⟨[(0, .fz false (.int .i32) x.1.1), (1, .fn 33 []), (7, .pl (.int .i64 x.1.2.2.1)), (8, .pl (.int .i64 y))], []⟩) x.1.2.2.2.1 (by kernel_rfl) (fun y X => by kernel_rfl) h.it
 ·cases hn
def aQ : List Sh := [.lf (.fz false (.int .i32)), .fn 33 []]
def bP (x : aI aQ) (Q : List (Bool × List VV) -> Prop) : Prop := eK x.1 (fun (r : Int) => Q (aH [(false, (.int .i64))] [.n] (r, ())))
theorem jU (x : aI aQ) (Q : List (Bool × List VV) -> Prop) (h : bP x Q) : aD Try.prog 54 (aM aQ x) Q :=
 aC [.n] (G := RU) (ct := bK) (en := dG) (fn := Try.f54) (cd := dL) (rt := [(false, (.int .i64))]) Try.func54 (by kernel_rfl) (by kernel_rfl) (Nat.le_of_ble_eq_true rfl) jT GD (aG rfl) h.it (by kernel_rfl)
noncomputable def bB : FuncId -> List VV -> (List (Bool × List VV) -> Prop) -> Prop := fun f args Q => if f = 54 then (if aJf (aAo args) [33] = true then unA aQ args (fun x => bP x Q) else yF f args Q) else yF f args Q
theorem dD : ∀ f args Q, bB f args Q -> aD Try.prog f args Q := P9 GD (f0 := 54) [33] aQ (fun x Q => bP x Q) jU
noncomputable def dZ : Cfg := ⟨Try.prog, tt, bB, fun _ _ _ => False, none, false⟩
def jL (a0 : List Int) (Q : Bool -> Prop) : Prop :=
 eK a0 (fun (r1 : Int) => Q (decide (0 <= r1)))
structure aP (a0 : List Int) (Q : Bool -> Prop) : Prop where
 it : jL a0 Q
noncomputable def cU : Tab := fun n => none
noncomputable def cX : Go.Mach.Ends := fun n => match n with | 2 => some ([], [0, 1]) | 6 => some ([], [4]) | 7 => some ([], [4]) | _ => none
noncomputable def c0 : Code := Try.f32.body.getD .skip
theorem i5 : aL dZ cU cX c0 := by
 intro n E hn f c hs x k h
 cases hn
def aN : List Sh := [.lf (.fz false (.int .i32)), .fn 33 []]
def bH (x : aI aN) (Q : List (Bool × List VV) -> Prop) : Prop := aP x.1 (fun (r : Bool) => Q (aH [(false, .bool)] [.n] (r, ())))
theorem i4 (x : aI aN) (Q : List (Bool × List VV) -> Prop) (h : bH x Q) : aD Try.prog 32 (aM aN x) Q :=
 aC [.n] (G := dZ) (ct := cU) (en := cX) (fn := Try.f32) (cd := c0) (rt := [(false, .bool)]) Try.func32 (by kernel_rfl) (by kernel_rfl) (Nat.le_of_ble_eq_true rfl) i5 dD (aG rfl) h.it (by kernel_rfl)
noncomputable def bJ : FuncId -> List VV -> (List (Bool × List VV) -> Prop) -> Prop := fun f args Q => if f = 32 then (if aJf (aAo args) [33] = true then unA aN args (fun x => bH x Q) else bB f args Q) else bB f args Q
theorem cO : ∀ f args Q, bJ f args Q -> aD Try.prog f args Q := P9 dD (f0 := 32) [33] aN (fun x Q => bH x Q) i4
noncomputable def dB : Cfg := ⟨Try.prog, tt, bJ, fun _ _ _ => False, none, false⟩
def aBc (x2 : Int) (K0 : Int -> Prop) : Prop :=
 K0 (IntKind.i64.wrap (x2 + 1))
structure d7 (x2 : Int) (K0 : Int -> Prop) : Prop where
 it : aBc x2 K0
def rT (x0 : List (((List Int) × Int × List Int) × (List Int) × (List Int) × Int × List Int)) (x1 : Int) (x3 : Int) (x4 : Int) (x5 : Int) (x6 : List (Int × Int × Int × Int × Int × Int × Bool)) (K0 : Unit -> Prop) (K1 : Unit -> Prop) (s : Int) (nx : Int -> Prop) : Prop :=
 if (decide (s < x1)) = true then ck ((0 : Int) <= s /\ s < (x0.length : Int)) (NT ((x3, (x4, x5)), x6) (IntKind.i64.wrap (s + 1)) (fun (r2 : (List Int) × Int) => nz r2.1 (ck ((0 : Int) <= s /\ s < (x6.length : Int)) (oF ((((x0.getD ((s).toNat) (([], (0, [])), ([], ([], (0, []))))).1).1, ((((x0.getD ((s).toNat) (([], (0, [])), ([], ([], (0, []))))).1).2).1, (((x0.getD ((s).toNat) (([], (0, [])), ([], ([], (0, []))))).1).2).2)), (((x0.getD ((s).toNat) (([], (0, [])), ([], ([], (0, []))))).2).1, ((((x0.getD ((s).toNat) (([], (0, [])), ([], ([], (0, []))))).2).2).1, (((((x0.getD ((s).toNat) (([], (0, [])), ([], ([], (0, []))))).2).2).2).1, ((((x0.getD ((s).toNat) (([], (0, [])), ([], ([], (0, []))))).2).2).2).2)))) (fun (r3 : Bool) => if (((!r3) || (((x6.getD ((s).toNat) (0, (0, (0, (0, (0, (0, false))))))).1) == 1)) || (((x6.getD ((s).toNat) (0, (0, (0, (0, (0, (0, false))))))).1) == 2)) = true then K1 () else d7 s (fun (y4 : Int) => nx y4)))) (nq r2.1 (ck ((0 : Int) <= s /\ s < (x6.length : Int)) (oF ((((x0.getD ((s).toNat) (([], (0, [])), ([], ([], (0, []))))).1).1, ((((x0.getD ((s).toNat) (([], (0, [])), ([], ([], (0, []))))).1).2).1, (((x0.getD ((s).toNat) (([], (0, [])), ([], ([], (0, []))))).1).2).2)), (((x0.getD ((s).toNat) (([], (0, [])), ([], ([], (0, []))))).2).1, ((((x0.getD ((s).toNat) (([], (0, [])), ([], ([], (0, []))))).2).2).1, (((((x0.getD ((s).toNat) (([], (0, [])), ([], ([], (0, []))))).2).2).2).1, ((((x0.getD ((s).toNat) (([], (0, [])), ([], ([], (0, []))))).2).2).2).2)))) (fun (r5 : Bool) => if (((!r5) || (((x6.getD ((s).toNat) (0, (0, (0, (0, (0, (0, false))))))).1) == 1)) || (((x6.getD ((s).toNat) (0, (0, (0, (0, (0, (0, false))))))).1) == 2)) = true then K1 () else d7 s (fun (y6 : Int) => nx y6)))) (bR (((x0.getD ((s).toNat) (([], (0, [])), ([], ([], (0, []))))).1).1, ((((x0.getD ((s).toNat) (([], (0, [])), ([], ([], (0, []))))).1).2).1, (((x0.getD ((s).toNat) (([], (0, [])), ([], ([], (0, []))))).1).2).2)) (fun (r7 : Bool) => jn (fun (v8 : Bool) => jn (fun (v11 : Bool) => jn (fun (v14 : Bool) => jn (fun (v17 : Bool) => if v17 = true then K1 () else d7 s (fun (y20 : Int) => nx y20)) (fun J18 => if (v14 || (((((x0.getD ((s).toNat) (([], (0, [])), ([], ([], (0, []))))).2).1).length : Int) != (((((x0.getD ((s).toNat) (([], (0, [])), ([], ([], (0, []))))).1).2).2).length : Int))) = true then J18 true else aP (((x0.getD ((s).toNat) (([], (0, [])), ([], ([], (0, []))))).2).1) (fun (r19 : Bool) => J18 r19))) (fun J15 => if v11 = true then J15 true else jR ((((x0.getD ((s).toNat) (([], (0, [])), ([], ([], (0, []))))).2).2).1) [r2.2] (fun (r16 : Bool) => J15 (!r16)))) (fun J12 => if v8 = true then J12 true else jR (((x0.getD ((s).toNat) (([], (0, [])), ([], ([], (0, []))))).1).1) r2.1 (fun (r13 : Bool) => J12 (!r13)))) (fun J9 => if (!r7) = true then J9 true else bR ((((x0.getD ((s).toNat) (([], (0, [])), ([], ([], (0, []))))).2).2).1, (((((x0.getD ((s).toNat) (([], (0, [])), ([], ([], (0, []))))).2).2).2).1, ((((x0.getD ((s).toNat) (([], (0, [])), ([], ([], (0, []))))).2).2).2).2)) (fun (r10 : Bool) => J9 (!r10)))))))) else K0 ()
structure Q0 (x0 : List (((List Int) × Int × List Int) × (List Int) × (List Int) × Int × List Int)) (x1 : Int) (x3 : Int) (x4 : Int) (x5 : Int) (x6 : List (Int × Int × Int × Int × Int × Int × Bool)) (K0 : Unit -> Prop) (K1 : Unit -> Prop) (s : Int) : Prop where
 it : Go.Mach.Loop (rT x0 x1 x3 x4 x5 x6 K0 K1) s
def aHE (a0 : (Int × Int × Int) × List (Int × Int × Int × Int × Int × Int × Bool)) (a1 : List (((List Int) × Int × List Int) × (List Int) × (List Int) × Int × List Int)) (Q : Bool -> Prop) : Prop :=
 BI ((a0.1.1, (a0.1.2.1, a0.1.2.2)), a0.2) (fun (r1 : (List (List Int)) × Int × Int) => if ((r1.2.2 != 0) || ((a1.length : Int) != (a0.2.length : Int))) = true then Q false else Q0 a1 (a1.length : Int) a0.1.1 a0.1.2.1 a0.1.2.2 a0.2 (fun (y21 : Unit) => Q true) (fun (y22 : Unit) => Q false) 0)
structure TB (a0 : (Int × Int × Int) × List (Int × Int × Int × Int × Int × Int × Bool)) (a1 : List (((List Int) × Int × List Int) × (List Int) × (List Int) × Int × List Int)) (Q : Bool -> Prop) : Prop where
 it : aHE a0 a1 Q
noncomputable def aEf : Ent := ⟨[2, 29, 30, 31], [.lf (.cst (.ptr 0 0)), .lf (.fz false (.pair (.pair (.slc (.int .i64)) (.pair (.int .i64) (.slc (.int .i8)))) (.pair (.slc (.int .i32)) (.pair (.slc (.int .i64)) (.pair (.int .i64) (.slc (.int .i8))))))), .lf (.int .i64), .lf (.int .i64)], [.box [.int .i64, .int .i64, .int .i64, .fz false (.pair (.int .i64) (.pair (.int .i64) (.pair (.int .i64) (.pair (.int .i64) (.pair (.int .i64) (.pair (.int .i64) .bool))))))] false], fun x k => Q0 x.1.2.1 x.1.2.2.1 x.2.1.1 x.2.1.2.1 x.2.1.2.2.1 x.2.1.2.2.2.1 (fun (y23 : Unit) => k (.exit 0) ⟨[], []⟩) (fun (y24 : Unit) => k .ret ⟨[(4, .pl (.bool false))], []⟩) x.1.2.2.2.1⟩
noncomputable def aEn : Ent := ⟨[2, 29, 30, 31], [.lf (.cst (.ptr 0 0)), .lf (.fz false (.pair (.pair (.slc (.int .i64)) (.pair (.int .i64) (.slc (.int .i8)))) (.pair (.slc (.int .i32)) (.pair (.slc (.int .i64)) (.pair (.int .i64) (.slc (.int .i8))))))), .lf (.int .i64), .lf (.int .i64)], [.box [.int .i64, .int .i64, .int .i64, .fz false (.pair (.int .i64) (.pair (.int .i64) (.pair (.int .i64) (.pair (.int .i64) (.pair (.int .i64) (.pair (.int .i64) .bool))))))] false], fun x k => d7 x.1.2.2.2.1 (fun (y25 : Int) => k .normal ⟨[(2, .ptr 0 0), (29, .fz false (.pair (.pair (.slc (.int .i64)) (.pair (.int .i64) (.slc (.int .i8)))) (.pair (.slc (.int .i32)) (.pair (.slc (.int .i64)) (.pair (.int .i64) (.slc (.int .i8)))))) x.1.2.1), (30, .pl (.int .i64 x.1.2.2.1)), (31, .pl (.int .i64 y25))], [.box [.pl (.int .i64 x.2.1.1), .pl (.int .i64 x.2.1.2.1), .pl (.int .i64 x.2.1.2.2.1), .fz false (.pair (.int .i64) (.pair (.int .i64) (.pair (.int .i64) (.pair (.int .i64) (.pair (.int .i64) (.pair (.int .i64) .bool)))))) x.2.1.2.2.2.1] false]⟩)⟩
noncomputable def E2 : Tab := fun n => match n with | 58 => some aEf | 935 => some aEn | _ => none
noncomputable def SH : Go.Mach.Ends := fun n => match n with | 2 => some ([], [1, 2]) | 12 => some ([], [1, 2, 7]) | 26 => some ([], [1, 2, 28]) | 28 => some ([], [2, 29, 30, 31]) | 30 => some ([], [4]) | 31 => some ([], [4]) | 55 => some ([], [1, 2]) | 58 => some ([], [2, 29, 30, 31]) | 108 => some ([], [4]) | 109 => some ([], [4]) | 232 => some ([], [2, 29, 30, 31, 32]) | 932 => some ([], [2, 29, 30, 31]) | 933 => some ([], []) | 935 => some ([], [2, 29, 30, 31]) | 3736 => some ([], [2, 8, 9, 29, 30, 31]) | 7474 => some ([], [2, 8, 9, 10, 11, 29, 30, 31]) | 29900 => some ([], [2, 8, 9, 10, 11, 29, 30, 31, 43]) | 119604 => some ([], [2, 9, 12, 29, 30, 31]) | 119606 => some ([], [2, 29, 30, 31, 63]) | 239210 => some ([], [2, 29, 30, 31, 62]) | 239215 => some ([], [2, 29, 30, 31]) | 478423 => some ([], [2, 29, 30, 31]) | 478428 => some ([], [4]) | 478429 => some ([], [4]) | 956844 => some ([], [4]) | 956845 => some ([], [4]) | _ => none
noncomputable def XC : Code := Try.f17.body.getD .skip
theorem aC7 : aL dB E2 SH XC := by
 intro n E hn f c hs x k h
 unfold E2 at hn
 split at hn
 ·cases hn; exact aK hs (by kernel_rfl) (fun y : Int => ⟨[(2, .ptr 0 0), (29, .fz false (.pair (.pair (.slc (.int .i64)) (.pair (.int .i64) (.slc (.int .i8)))) (.pair (.slc (.int .i32)) (.pair (.slc (.int .i64)) (.pair (.int .i64) (.slc (.int .i8)))))) x.1.2.1), (30, .pl (.int .i64 x.1.2.2.1)), (31, .pl (.int .i64 y))], [.box [.pl (.int .i64 x.2.1.1), .pl (.int .i64 x.2.1.2.1), .pl (.int .i64 x.2.1.2.2.1), .fz false (.pair (.int .i64) (.pair (.int .i64) (.pair (.int .i64) (.pair (.int .i64) (.pair (.int .i64) (.pair (.int .i64) .bool)))))) x.2.1.2.2.2.1] false]⟩) x.1.2.2.2.1 (by kernel_rfl) (fun y X => by kernel_rfl) h.it
 ·cases hn; exact bS hs (by kernel_rfl) (by kernel_rfl) h.it
 ·cases hn
def qO : List Sh := [.agg [.int .i64, .int .i64, .int .i64, .fz false (.pair (.int .i64) (.pair (.int .i64) (.pair (.int .i64) (.pair (.int .i64) (.pair (.int .i64) (.pair (.int .i64) .bool))))))], .lf (.fz false (.pair (.pair (.slc (.int .i64)) (.pair (.int .i64) (.slc (.int .i8)))) (.pair (.slc (.int .i32)) (.pair (.slc (.int .i64)) (.pair (.int .i64) (.slc (.int .i8)))))))]
def JI (x : aI qO) (Q : List (Bool × List VV) -> Prop) : Prop := TB ((x.1.1, (x.1.2.1, x.1.2.2.1)), x.1.2.2.2.1) x.2.1 (fun (r : Bool) => Q (aH [(false, .bool)] [.n] (r, ())))
theorem aCD (x : aI qO) (Q : List (Bool × List VV) -> Prop) (h : JI x Q) : aD Try.prog 17 (aM qO x) Q :=
 aC [.n] (G := dB) (ct := E2) (en := SH) (fn := Try.f17) (cd := XC) (rt := [(false, .bool)]) Try.func17 (by kernel_rfl) (by kernel_rfl) (Nat.le_of_ble_eq_true rfl) aC7 cO (aG rfl) h.it (by kernel_rfl)
noncomputable def NZ : FuncId -> List VV -> (List (Bool × List VV) -> Prop) -> Prop := fun f args Q => if f = 17 then unA qO args (fun x => JI x Q) else bJ f args Q
theorem M3 : ∀ f args Q, NZ f args Q -> aD Try.prog f args Q := aE cO (f0 := 17) qO (fun x Q => JI x Q) aCD
noncomputable def ZY : Cfg := ⟨Try.prog, tt, NZ, fun _ _ _ => False, none, false⟩
def aGG (a0 : Int) (a1 : Int) (a2 : Int) (Q : Bool -> Prop) : Prop :=
 Q ((decide (a1 <= a0)) && (decide (a0 <= a2)))
structure xV (a0 : Int) (a1 : Int) (a2 : Int) (Q : Bool -> Prop) : Prop where
 it : aGG a0 a1 a2 Q
noncomputable def Q6 : Tab := fun n => none
noncomputable def SI : Go.Mach.Ends := fun n => match n with | 2 => some ([], [0, 1, 2]) | 6 => some ([], [6]) | 7 => some ([], [6]) | _ => none
noncomputable def WF : Code := Try.f16.body.getD .skip
theorem aDt : aL ZY Q6 SI WF := by
 intro n E hn f c hs x k h
 cases hn
def q9 : List Sh := [.lf (.int .i64), .lf (.int .i64), .lf (.int .i64)]
def KN (x : aI q9) (Q : List (Bool × List VV) -> Prop) : Prop := xV x.1 x.2.1 x.2.2.1 (fun (r : Bool) => Q (aH [(false, .bool)] [.n] (r, ())))
theorem aCp (x : aI q9) (Q : List (Bool × List VV) -> Prop) (h : KN x Q) : aD Try.prog 16 (aM q9 x) Q :=
 aC [.n] (G := ZY) (ct := Q6) (en := SI) (fn := Try.f16) (cd := WF) (rt := [(false, .bool)]) Try.func16 (by kernel_rfl) (by kernel_rfl) (Nat.le_of_ble_eq_true rfl) aDt M3 (aG rfl) h.it (by kernel_rfl)
noncomputable def NR : FuncId -> List VV -> (List (Bool × List VV) -> Prop) -> Prop := fun f args Q => if f = 16 then unA q9 args (fun x => KN x Q) else NZ f args Q
theorem PU : ∀ f args Q, NR f args Q -> aD Try.prog f args Q := aE M3 (f0 := 16) q9 (fun x Q => KN x Q) aCp
noncomputable def Z5 : Cfg := ⟨Try.prog, tt, NR, fun _ _ _ => False, none, false⟩
def YA (a0 : Int) (a1 : Int) (a2 : Int) (Q : Int -> Prop) : Prop :=
 xV a0 0 1000000 (fun (r1 : Bool) => jn (fun (v2 : Bool) => jn (fun (v5 : Bool) => if v5 = true then Q 0 else Q (IntKind.u64.wrap (IntKind.i64.wrap ((IntKind.i64.wrap ((IntKind.i64.wrap (a0 * 1024)) + (IntKind.i64.wrap (a1 * 16)))) + a2)))) (fun J6 => if v2 = true then J6 true else xV a2 0 15 (fun (r7 : Bool) => J6 (!r7)))) (fun J3 => if (!r1) = true then J3 true else xV a1 0 12 (fun (r4 : Bool) => J3 (!r4))))
structure tT (a0 : Int) (a1 : Int) (a2 : Int) (Q : Int -> Prop) : Prop where
 it : YA a0 a1 a2 Q
noncomputable def EU : Tab := fun n => none
noncomputable def ES : Go.Mach.Ends := fun n => match n with | 2 => some ([], [0, 1, 2]) | 12 => some ([], [0, 1, 2, 19]) | 14 => some ([], [6]) | 15 => some ([], [6]) | 27 => some ([], [0, 1, 2]) | 52 => some ([], [6]) | 53 => some ([], [6]) | _ => none
noncomputable def GS : Code := Try.f11.body.getD .skip
theorem UE : aL Z5 EU ES GS := by
 intro n E hn f c hs x k h
 cases hn
def jI : List Sh := [.lf (.int .i64), .lf (.int .i64), .lf (.int .i64)]
def xN (x : aI jI) (Q : List (Bool × List VV) -> Prop) : Prop := tT x.1 x.2.1 x.2.2.1 (fun (r : Int) => Q (aH [(false, (.int .u64))] [.n] (r, ())))
theorem UO (x : aI jI) (Q : List (Bool × List VV) -> Prop) (h : xN x Q) : aD Try.prog 11 (aM jI x) Q :=
 aC [.n] (G := Z5) (ct := EU) (en := ES) (fn := Try.f11) (cd := GS) (rt := [(false, (.int .u64))]) Try.func11 (by kernel_rfl) (by kernel_rfl) (Nat.le_of_ble_eq_true rfl) UE PU (aG rfl) h.it (by kernel_rfl)
noncomputable def AN : FuncId -> List VV -> (List (Bool × List VV) -> Prop) -> Prop := fun f args Q => if f = 11 then unA jI args (fun x => xN x Q) else NR f args Q
theorem CC : ∀ f args Q, AN f args Q -> aD Try.prog f args Q := aE PU (f0 := 11) jI (fun x Q => xN x Q) UO
noncomputable def LY : Cfg := ⟨Try.prog, tt, AN, fun _ _ _ => False, none, false⟩
def t6 (a0 : Int × Int × Int × Int × Int × Int × Bool) (a1 : ((List Int) × Int × List Int) × (List Int) × (List Int) × Int × List Int) (a2 : List ((List Int) × Int × List Int)) (Q : (((List Int) × Int × List Int) × Bool × Int) -> Prop) : Prop :=
 ck ((0 : Int) <= (IntKind.i64.wrap ((a2.length : Int) - 1)) /\ (IntKind.i64.wrap ((a2.length : Int) - 1)) < (a2.length : Int)) (if (a0.1 == 1) = true then E6 ((a2.getD ((IntKind.i64.wrap ((a2.length : Int) - 1)).toNat) ([], (0, []))).1, (((a2.getD ((IntKind.i64.wrap ((a2.length : Int) - 1)).toNat) ([], (0, []))).2).1, ((a2.getD ((IntKind.i64.wrap ((a2.length : Int) - 1)).toNat) ([], (0, []))).2).2)) (a1.1.1, (a1.1.2.1, a1.1.2.2)) (a1.2.2.1, (a1.2.2.2.1, a1.2.2.2.2)) (fun (r1 : ((List Int) × Int × List Int) × Int) => Q ((r1.1.1, (r1.1.2.1, r1.1.2.2)), true, r1.2)) else if (a0.1 == 2) = true then KH ((a2.getD ((IntKind.i64.wrap ((a2.length : Int) - 1)).toNat) ([], (0, []))).1, (((a2.getD ((IntKind.i64.wrap ((a2.length : Int) - 1)).toNat) ([], (0, []))).2).1, ((a2.getD ((IntKind.i64.wrap ((a2.length : Int) - 1)).toNat) ([], (0, []))).2).2)) (a1.1.1, (a1.1.2.1, a1.1.2.2)) (a1.2.2.1, (a1.2.2.2.1, a1.2.2.2.2)) a0.2.2.2.1 a0.2.2.2.2.1 (fun (r2 : ((List Int) × Int × List Int) × Int) => Q ((r2.1.1, (r2.1.2.1, r2.1.2.2)), true, r2.2)) else if (a0.1 == 4) = true then aCy ((a2.getD ((IntKind.i64.wrap ((a2.length : Int) - 1)).toNat) ([], (0, []))).1, (((a2.getD ((IntKind.i64.wrap ((a2.length : Int) - 1)).toNat) ([], (0, []))).2).1, ((a2.getD ((IntKind.i64.wrap ((a2.length : Int) - 1)).toNat) ([], (0, []))).2).2)) a0.2.2.1 a0.2.2.2.1 (fun (r3 : ((List Int) × Int × List Int) × Int) => Q ((r3.1.1, (r3.1.2.1, r3.1.2.2)), true, r3.2)) else if (a0.1 == 7) = true then ck ((0 : Int) <= a0.2.2.2.2.2.1 /\ a0.2.2.2.2.2.1 < (a2.length : Int)) (aG4 ((a2.getD ((IntKind.i64.wrap ((a2.length : Int) - 1)).toNat) ([], (0, []))).1, (((a2.getD ((IntKind.i64.wrap ((a2.length : Int) - 1)).toNat) ([], (0, []))).2).1, ((a2.getD ((IntKind.i64.wrap ((a2.length : Int) - 1)).toNat) ([], (0, []))).2).2)) ((a2.getD ((a0.2.2.2.2.2.1).toNat) ([], (0, []))).1, (((a2.getD ((a0.2.2.2.2.2.1).toNat) ([], (0, []))).2).1, ((a2.getD ((a0.2.2.2.2.2.1).toNat) ([], (0, []))).2).2)) (fun (r4 : ((List Int) × Int × List Int) × Int) => Q ((r4.1.1, (r4.1.2.1, r4.1.2.2)), true, r4.2))) else Q ((([] : List Int), (0, ([] : List Int))), false, 0))
structure IU (a0 : Int × Int × Int × Int × Int × Int × Bool) (a1 : ((List Int) × Int × List Int) × (List Int) × (List Int) × Int × List Int) (a2 : List ((List Int) × Int × List Int)) (Q : (((List Int) × Int × List Int) × Bool × Int) -> Prop) : Prop where
 it : t6 a0 a1 a2 Q
noncomputable def L5 : Tab := fun n => none
noncomputable def KX : Go.Mach.Ends := fun n => match n with | 2 => some ([], [2, 3, 4, 6]) | 6 => some ([], [2, 3, 4, 6, 9]) | 14 => some ([], [2, 3, 4, 6, 9, 10]) | 30 => some ([], [2, 3, 4, 6, 9, 10]) | 124 => some ([], [2, 3, 4, 6, 9, 10, 19]) | 126 => some ([], [6, 7, 8]) | 127 => some ([⟨6, some 0, true, (.int .i64)⟩], [6, 7, 8]) | 500 => some ([], [2, 3, 4, 6, 9, 10, 19, 21]) | 1002 => some ([], [6, 10, 11]) | 2006 => some ([], [2, 3, 4, 6, 9, 10, 19, 32]) | 4014 => some ([], [6, 10, 11]) | 8030 => some ([], [2, 3, 6, 9, 10, 19, 47]) | 16062 => some ([], [6, 10, 11]) | 32126 => some ([], [2, 3, 6, 9, 10, 58]) | 64254 => some ([], [6, 10, 11]) | 128510 => some ([], [6, 7, 8]) | 128511 => some ([⟨6, some 0, true, (.int .i64)⟩], [6, 7, 8]) | _ => none
noncomputable def NW : Code := Try.f39.body.getD .skip
theorem XX : aL LY L5 KX NW := by
 intro n E hn f c hs x k h
 cases hn
def mR : List Sh := [.agg [.int .i64, .int .i64, .int .i64, .int .i64, .int .i64, .int .i64, .bool], .agg [.fz false (.int .i64), .int .i64, .fz false (.int .i8), .fz false (.int .i32), .fz false (.int .i64), .int .i64, .fz false (.int .i8)], .lf (.fz false (.pair (.slc (.int .i64)) (.pair (.int .i64) (.slc (.int .i8)))))]
def DM (x : aI mR) (Q : List (Bool × List VV) -> Prop) : Prop := IU (x.1.1, (x.1.2.1, (x.1.2.2.1, (x.1.2.2.2.1, (x.1.2.2.2.2.1, (x.1.2.2.2.2.2.1, x.1.2.2.2.2.2.2.1)))))) ((x.2.1.1, (x.2.1.2.1, x.2.1.2.2.1)), (x.2.1.2.2.2.1, (x.2.1.2.2.2.2.1, (x.2.1.2.2.2.2.2.1, x.2.1.2.2.2.2.2.2.1)))) x.2.2.1 (fun (r : ((List Int) × Int × List Int) × Bool × Int) => Q (aH [(true, (.pair (.slc (.int .i64)) (.pair (.int .i64) (.slc (.int .i32))))), (false, .bool), (false, (.int .i64))] [(.p .f .n), .n, .n] (r.1, (r.2.1, (r.2.2, ())))))
theorem ZS (x : aI mR) (Q : List (Bool × List VV) -> Prop) (h : DM x Q) : aD Try.prog 39 (aM mR x) Q :=
 aC [(.p .f .n), .n, .n] (G := LY) (ct := L5) (en := KX) (fn := Try.f39) (cd := NW) (rt := [(true, (.pair (.slc (.int .i64)) (.pair (.int .i64) (.slc (.int .i32))))), (false, .bool), (false, (.int .i64))]) Try.func39 (by kernel_rfl) (by kernel_rfl) (Nat.le_of_ble_eq_true rfl) XX CC (aG rfl) h.it (by kernel_rfl)
noncomputable def FV : FuncId -> List VV -> (List (Bool × List VV) -> Prop) -> Prop := fun f args Q => if f = 39 then unA mR args (fun x => DM x Q) else AN f args Q
theorem G5 : ∀ f args Q, FV f args Q -> aD Try.prog f args Q := aE CC (f0 := 39) mR (fun x Q => DM x Q) ZS
noncomputable def QT : Cfg := ⟨Try.prog, tt, FV, fun _ _ _ => False, none, false⟩
def CT  (K0 : Unit -> Prop) : Prop :=
 K0 ()
structure xU  (K0 : Unit -> Prop) : Prop where
 it : CT K0
def LU (a0 : Int × Int × Int × Int × Int × Int × Bool) (a1 : ((List Int) × Int × List Int) × (List Int) × (List Int) × Int × List Int) (a2 : List ((List Int) × Int × List Int)) (a3 : Int) (a4 : Int) (Q : (((List Int) × Int × List Int) × (List Int) × Int) -> Prop) : Prop :=
 IU (a0.1, (a0.2.1, (a0.2.2.1, (a0.2.2.2.1, (a0.2.2.2.2.1, (a0.2.2.2.2.2.1, a0.2.2.2.2.2.2)))))) ((a1.1.1, (a1.1.2.1, a1.1.2.2)), (a1.2.1, (a1.2.2.1, (a1.2.2.2.1, a1.2.2.2.2)))) a2 (fun (r1 : ((List Int) × Int × List Int) × Bool × Int) => if (r1.2.2 != 0) = true then Q ((([] : List Int), (0, ([] : List Int))), ([] : List Int), r1.2.2) else if r1.2.1 = true then JQ (r1.1.1, (r1.1.2.1, r1.1.2.2)) 8 a3 a4 (fun (r2 : ((List Int) × Int × List Int) × Int) => Q ((r2.1.1, (r2.1.2.1, r2.1.2.2)), ([] : List Int), r2.2)) else ck ((0 : Int) <= (IntKind.i64.wrap ((a2.length : Int) - 1)) /\ (IntKind.i64.wrap ((a2.length : Int) - 1)) < (a2.length : Int)) (if (a0.1 == 3) = true then aCA ((a2.getD ((IntKind.i64.wrap ((a2.length : Int) - 1)).toNat) ([], (0, []))).1, (((a2.getD ((IntKind.i64.wrap ((a2.length : Int) - 1)).toNat) ([], (0, []))).2).1, ((a2.getD ((IntKind.i64.wrap ((a2.length : Int) - 1)).toNat) ([], (0, []))).2).2)) a0.2.2.1 a0.2.2.2.1 (fun (r3 : ((List Int) × Int × List Int) × (List Int) × Int) => Q ((r3.1.1, (r3.1.2.1, r3.1.2.2)), r3.2.1, r3.2.2)) else if (a0.1 == 5) = true then YS ((a2.getD ((IntKind.i64.wrap ((a2.length : Int) - 1)).toNat) ([], (0, []))).1, (((a2.getD ((IntKind.i64.wrap ((a2.length : Int) - 1)).toNat) ([], (0, []))).2).1, ((a2.getD ((IntKind.i64.wrap ((a2.length : Int) - 1)).toNat) ([], (0, []))).2).2)) (fun (r4 : ((List Int) × Int × List Int) × Int) => xU (fun (y5 : Unit) => Q ((r4.1.1, (r4.1.2.1, r4.1.2.2)), ([] : List Int), r4.2))) else YK ((a2.getD ((IntKind.i64.wrap ((a2.length : Int) - 1)).toNat) ([], (0, []))).1, (((a2.getD ((IntKind.i64.wrap ((a2.length : Int) - 1)).toNat) ([], (0, []))).2).1, ((a2.getD ((IntKind.i64.wrap ((a2.length : Int) - 1)).toNat) ([], (0, []))).2).2)) (fun (r6 : ((List Int) × Int × List Int) × Int) => xU (fun (y7 : Unit) => Q ((r6.1.1, (r6.1.2.1, r6.1.2.2)), ([] : List Int), r6.2)))))
structure F3 (a0 : Int × Int × Int × Int × Int × Int × Bool) (a1 : ((List Int) × Int × List Int) × (List Int) × (List Int) × Int × List Int) (a2 : List ((List Int) × Int × List Int)) (a3 : Int) (a4 : Int) (Q : (((List Int) × Int × List Int) × (List Int) × Int) -> Prop) : Prop where
 it : LU a0 a1 a2 a3 a4 Q
noncomputable def YW : Ent := ⟨[10, 15, 18], [.lf (.cst (.ptr 0 0)), .lf (.int .i64), .lf (.cst (.ptr 1 0))], [.box [.cst (.pl (.slice none 0 0)), .int .i64, .cst (.pl (.slice none 0 0))] false, .box [.cst (.own 2), .int .i64, .cst (.own 3)] false, .lst true (.int .i64) false, .lst true (.int .i8) false], fun x k => xU (fun (y8 : Unit) => k .ret ⟨[(10, .ptr 0 0), (11, .pl (.slice none 0 0)), (12, .pl (.int .i64 x.1.2.1))], [.box [.own 1, .pl (.int .i64 x.2.2.1.2.1), .own 2] false, .lst true (.int .i64) x.2.2.2.1 false, .lst true (.int .i8) x.2.2.2.2.1 false]⟩)⟩
noncomputable def xD : Tab := fun n => match n with | 63 => some YW | _ => none
noncomputable def GM : Go.Mach.Ends := fun n => match n with | 2 => some ([], [2, 3, 4, 5, 6, 10]) | 6 => some ([], [2, 3, 4, 5, 10, 13, 14, 15]) | 30 => some ([], [5, 10, 18]) | 56 => some ([], [2, 3, 4, 5, 10, 13, 14, 15, 27]) | 124 => some ([], [5, 10, 18, 50]) | 126 => some ([], [10, 11, 12]) | 127 => some ([], [10, 11, 12]) | 228 => some ([], [10, 11, 12]) | 229 => some ([], [10, 11, 12]) | 230 => some ([], [2, 3, 4, 5, 10, 13, 32]) | 463 => some ([], [2, 5, 10]) | 500 => some ([], [5, 10, 18, 50, 56]) | 924 => some ([], [10, 16, 17]) | 1850 => some ([], [10, 11, 12]) | 1851 => some ([], [10, 11, 12]) | 2004 => some ([], [10, 11, 12]) | 2005 => some ([], [10, 11, 12]) | 2006 => some ([], [10, 18, 67]) | 4014 => some ([], [10, 15, 18]) | 4015 => some ([], [10, 15, 18]) | _ => none
noncomputable def LO : Code := Try.f22.body.getD .skip
theorem VI : aL QT xD GM LO := by
 intro n E hn f c hs x k h
 unfold xD at hn
 split at hn
 ·cases hn; exact bS hs (by kernel_rfl) (by kernel_rfl) h.it
 ·cases hn
def kG : List Sh := [.agg [.int .i64, .int .i64, .int .i64, .int .i64, .int .i64, .int .i64, .bool], .agg [.fz false (.int .i64), .int .i64, .fz false (.int .i8), .fz false (.int .i32), .fz false (.int .i64), .int .i64, .fz false (.int .i8)], .lf (.fz false (.pair (.slc (.int .i64)) (.pair (.int .i64) (.slc (.int .i8))))), .lf (.int .u64), .lf (.int .u64)]
def AO (x : aI kG) (Q : List (Bool × List VV) -> Prop) : Prop := F3 (x.1.1, (x.1.2.1, (x.1.2.2.1, (x.1.2.2.2.1, (x.1.2.2.2.2.1, (x.1.2.2.2.2.2.1, x.1.2.2.2.2.2.2.1)))))) ((x.2.1.1, (x.2.1.2.1, x.2.1.2.2.1)), (x.2.1.2.2.2.1, (x.2.1.2.2.2.2.1, (x.2.1.2.2.2.2.2.1, x.2.1.2.2.2.2.2.2.1)))) x.2.2.1 x.2.2.2.1 x.2.2.2.2.1 (fun (r : ((List Int) × Int × List Int) × (List Int) × Int) => Q (aH [(true, (.pair (.slc (.int .i64)) (.pair (.int .i64) (.slc (.int .i8))))), (false, (.slc (.int .i64))), (false, (.int .i64))] [.n, .n, .n] (r.1, (r.2.1, (r.2.2, ())))))
theorem U1 (x : aI kG) (Q : List (Bool × List VV) -> Prop) (h : AO x Q) : aD Try.prog 22 (aM kG x) Q :=
 aC [.n, .n, .n] (G := QT) (ct := xD) (en := GM) (fn := Try.f22) (cd := LO) (rt := [(true, (.pair (.slc (.int .i64)) (.pair (.int .i64) (.slc (.int .i8))))), (false, (.slc (.int .i64))), (false, (.int .i64))]) Try.func22 (by kernel_rfl) (by kernel_rfl) (Nat.le_of_ble_eq_true rfl) VI G5 (aG rfl) h.it (by kernel_rfl)
noncomputable def CR : FuncId -> List VV -> (List (Bool × List VV) -> Prop) -> Prop := fun f args Q => if f = 22 then unA kG args (fun x => AO x Q) else FV f args Q
theorem EM : ∀ f args Q, CR f args Q -> aD Try.prog f args Q := aE G5 (f0 := 22) kG (fun x Q => AO x Q) U1
noncomputable def OD : Cfg := ⟨Try.prog, tt, CR, fun _ _ _ => False, none, false⟩
def fY (x0 : List (((List Int) × Int × List Int) × (List Int) × (List Int) × Int × List Int)) (x1 : Int) (x2 : Int) (x3 : List (Int × Int × Int × Int × Int × Int × Bool)) (x4 : Int) (K0 : ((List ((List Int) × Int × List Int)) × List (List Int)) -> Prop) (K1 : (Int × Int) -> Prop) (s : Int × (List ((List Int) × Int × List Int)) × List (List Int)) (nx : (Int × (List ((List Int) × Int × List Int)) × List (List Int)) -> Prop) : Prop :=
 if (decide (s.1 < x4)) = true then ck ((0 : Int) <= s.1 /\ s.1 < (x3.length : Int)) (ck ((0 : Int) <= s.1 /\ s.1 < (x0.length : Int)) (tT x2 (IntKind.i64.wrap (s.1 + 1)) 0 (fun (r13 : Int) => F3 ((x3.getD ((s.1).toNat) (0, (0, (0, (0, (0, (0, false))))))).1, (((x3.getD ((s.1).toNat) (0, (0, (0, (0, (0, (0, false))))))).2).1, ((((x3.getD ((s.1).toNat) (0, (0, (0, (0, (0, (0, false))))))).2).2).1, (((((x3.getD ((s.1).toNat) (0, (0, (0, (0, (0, (0, false))))))).2).2).2).1, ((((((x3.getD ((s.1).toNat) (0, (0, (0, (0, (0, (0, false))))))).2).2).2).2).1, (((((((x3.getD ((s.1).toNat) (0, (0, (0, (0, (0, (0, false))))))).2).2).2).2).2).1, ((((((x3.getD ((s.1).toNat) (0, (0, (0, (0, (0, (0, false))))))).2).2).2).2).2).2)))))) ((((x0.getD ((s.1).toNat) (([], (0, [])), ([], ([], (0, []))))).1).1, ((((x0.getD ((s.1).toNat) (([], (0, [])), ([], ([], (0, []))))).1).2).1, (((x0.getD ((s.1).toNat) (([], (0, [])), ([], ([], (0, []))))).1).2).2)), (((x0.getD ((s.1).toNat) (([], (0, [])), ([], ([], (0, []))))).2).1, ((((x0.getD ((s.1).toNat) (([], (0, [])), ([], ([], (0, []))))).2).2).1, (((((x0.getD ((s.1).toNat) (([], (0, [])), ([], ([], (0, []))))).2).2).2).1, ((((x0.getD ((s.1).toNat) (([], (0, [])), ([], ([], (0, []))))).2).2).2).2)))) s.2.1 x1 r13 (fun (r14 : ((List Int) × Int × List Int) × (List Int) × Int) => if (r14.2.2 != 0) = true then K1 (IntKind.i64.wrap (s.1 + 1), r14.2.2) else ck ((s.2.1.length + [(r14.1.1, (r14.1.2.1, r14.1.2.2))].length) * 56 <= 140737488355328) (ck ((s.2.2.length + [r14.2.1].length) * 24 <= 140737488355328) (nx (IntKind.i64.wrap (s.1 + 1), s.2.1 ++ [(r14.1.1, (r14.1.2.1, r14.1.2.2))], s.2.2 ++ [r14.2.1]))))))) else K0 (s.2.1, s.2.2)
structure CP (x0 : List (((List Int) × Int × List Int) × (List Int) × (List Int) × Int × List Int)) (x1 : Int) (x2 : Int) (x3 : List (Int × Int × Int × Int × Int × Int × Bool)) (x4 : Int) (K0 : ((List ((List Int) × Int × List Int)) × List (List Int)) -> Prop) (K1 : (Int × Int) -> Prop) (s : Int × (List ((List Int) × Int × List Int)) × List (List Int)) : Prop where
 it : Go.Mach.Loop (fY x0 x1 x2 x3 x4 K0 K1) s
def F1 (a0 : (Int × Int × Int) × List (Int × Int × Int × Int × Int × Int × Bool)) (a1 : List (((List Int) × Int × List Int) × (List Int) × (List Int) × Int × List Int)) (a2 : (List Int) × Int × List Int) (a3 : Int) (a4 : Int) (Q : (((List ((List Int) × Int × List Int)) × List (List Int)) × Int × Int) -> Prop) : Prop :=
 xV a4 0 1000000 (fun (r1 : Bool) => jn (fun (v2 : Bool) => jn (fun (v5 : Bool) => if v5 = true then Q ((([] : List ((List Int) × Int × List Int)), ([] : List (List Int))), 0, 1) else jn (fun (v8 : Bool) => if v8 = true then Q ((([] : List ((List Int) × Int × List Int)), ([] : List (List Int))), 0, 2) else aW a2.1 (fun (r11 : List Int) => iH a2.2.2 (fun (r12 : List Int) => CP a1 a3 a4 a0.2 (a0.2.length : Int) (fun (y15 : (List ((List Int) × Int × List Int)) × List (List Int)) => Q ((y15.1, y15.2), 0, 0)) (fun (y16 : Int × Int) => Q ((([] : List ((List Int) × Int × List Int)), ([] : List (List Int))), y16.1, y16.2)) (0, [(r11, (a2.2.1, r12))], [([] : List Int)])))) (fun J9 => if ((a2.1.length : Int) != 4) = true then J9 true else ck (a2.1 ≠ [] /\ (0 : Int) <= 1 /\ (1 : Int) <= (a2.1.length : Int) /\ (a2.1.length : Int) <= (a2.1.length : Int)) (jR ((a2.1.take ((a2.1.length : Int)).toNat).drop ((1 : Int)).toNat) ([a0.1.1, a0.1.2.1, a0.1.2.2] : List Int) (fun (r10 : Bool) => J9 (!r10))))) (fun J6 => if v2 = true then J6 true else bR (a2.1, (a2.2.1, a2.2.2)) (fun (r7 : Bool) => J6 (!r7)))) (fun J3 => if (!r1) = true then J3 true else TB ((a0.1.1, (a0.1.2.1, a0.1.2.2)), a0.2) a1 (fun (r4 : Bool) => J3 (!r4))))
structure tJ (a0 : (Int × Int × Int) × List (Int × Int × Int × Int × Int × Int × Bool)) (a1 : List (((List Int) × Int × List Int) × (List Int) × (List Int) × Int × List Int)) (a2 : (List Int) × Int × List Int) (a3 : Int) (a4 : Int) (Q : (((List ((List Int) × Int × List Int)) × List (List Int)) × Int × Int) -> Prop) : Prop where
 it : F1 a0 a1 a2 a3 a4 Q
noncomputable def aC4 : Ent := ⟨[1, 3, 4, 10, 13, 63, 64, 65], [.lf (.fz false (.pair (.pair (.slc (.int .i64)) (.pair (.int .i64) (.slc (.int .i8)))) (.pair (.slc (.int .i32)) (.pair (.slc (.int .i64)) (.pair (.int .i64) (.slc (.int .i8))))))), .lf (.int .u64), .lf (.int .i64), .lf (.cst (.ptr 0 0)), .lf (.cst (.ptr 1 0)), .lf (.fz false (.pair (.int .i64) (.pair (.int .i64) (.pair (.int .i64) (.pair (.int .i64) (.pair (.int .i64) (.pair (.int .i64) .bool))))))), .lf (.int .i64), .lf (.int .i64)], [.box [.cst (.pl (.slice none 0 0)), .cst (.pl (.slice none 0 0))] false, .box [.cst (.own 2), .cst (.own 3)] false, .lst true (.pair (.slc (.int .i64)) (.pair (.int .i64) (.slc (.int .i8)))) false, .lst true (.slc (.int .i64)) false], fun x k => CP x.1.1 x.1.2.1 x.1.2.2.1 x.1.2.2.2.2.2.1 x.1.2.2.2.2.2.2.1 (fun (y17 : (List ((List Int) × Int × List Int)) × List (List Int)) => k (.exit 1) ⟨[(10, .ptr 0 0), (13, .ptr 1 0)], [.box [.pl (.slice none 0 0), .pl (.slice none 0 0)] false, .box [.own 2, .own 3] false, .lst true (.pair (.slc (.int .i64)) (.pair (.int .i64) (.slc (.int .i8)))) y17.1 false, .lst true (.slc (.int .i64)) y17.2 false]⟩) (fun (y18 : Int × Int) => k .ret ⟨[(10, .ptr 0 0), (11, .pl (.int .i64 y18.1)), (12, .pl (.int .i64 y18.2))], [.box [.pl (.slice none 0 0), .pl (.slice none 0 0)] false]⟩) (x.1.2.2.2.2.2.2.2.1, x.2.2.2.1, x.2.2.2.2.1)⟩
noncomputable def B4 : Tab := fun n => match n with | 250 => some aC4 | _ => none
noncomputable def N8 : Go.Mach.Ends := fun n => match n with | 2 => some ([], [1, 3, 4, 5, 7, 10]) | 14 => some ([], [1, 3, 4, 5, 7, 10]) | 24 => some ([], [1, 3, 4, 5, 7, 10, 19]) | 30 => some ([], [1, 3, 4, 5, 10, 13]) | 100 => some ([], [10, 11, 12]) | 101 => some ([], [10, 11, 12]) | 102 => some ([], [1, 3, 4, 5, 7, 10, 35]) | 124 => some ([], [1, 3, 4, 10, 13, 63, 64, 65]) | 126 => some ([], [10, 11, 12]) | 127 => some ([], [10, 11, 12]) | 207 => some ([], [1, 3, 4, 5, 7, 10]) | 250 => some ([], [1, 3, 4, 10, 13, 63, 64, 65]) | 412 => some ([], [10, 11, 12]) | 413 => some ([], [10, 11, 12]) | 1000 => some ([], [1, 3, 4, 10, 13, 63, 64, 65, 66]) | 4004 => some ([], [1, 3, 4, 10, 13, 63, 64, 65]) | 4005 => some ([], [10, 13]) | 4007 => some ([], [1, 3, 4, 10, 13, 63, 64, 65]) | 16024 => some ([], [1, 3, 4, 10, 13, 14, 15, 63, 64, 65]) | 32050 => some ([], [1, 3, 4, 10, 13, 14, 16, 17, 18, 63, 64, 65]) | 64103 => some ([], [1, 3, 4, 10, 13, 63, 64, 65]) | 128204 => some ([], [1, 3, 4, 10, 13, 14, 16, 17, 18, 63, 64, 65, 88]) | 256411 => some ([], [1, 3, 4, 10, 13, 16, 17, 63, 64, 65]) | 512820 => some ([], [10, 11, 12]) | 512821 => some ([], [10, 11, 12]) | _ => none
noncomputable def SQ : Code := Try.f7.body.getD .skip
theorem aBe : aL OD B4 N8 SQ := by
 intro n E hn f c hs x k h
 unfold B4 at hn
 split at hn
 ·cases hn; exact aK hs (by kernel_rfl) (fun y : Int × (List ((List Int) × Int × List Int)) × List (List Int) => ⟨[(1, .fz false (.pair (.pair (.slc (.int .i64)) (.pair (.int .i64) (.slc (.int .i8)))) (.pair (.slc (.int .i32)) (.pair (.slc (.int .i64)) (.pair (.int .i64) (.slc (.int .i8)))))) x.1.1), (3, .pl (.int .u64 x.1.2.1)), (4, .pl (.int .i64 x.1.2.2.1)), (10, .ptr 0 0), (13, .ptr 1 0), (63, .fz false (.pair (.int .i64) (.pair (.int .i64) (.pair (.int .i64) (.pair (.int .i64) (.pair (.int .i64) (.pair (.int .i64) .bool)))))) x.1.2.2.2.2.2.1), (64, .pl (.int .i64 x.1.2.2.2.2.2.2.1)), (65, .pl (.int .i64 y.1))], [.box [.pl (.slice none 0 0), .pl (.slice none 0 0)] false, .box [.own 2, .own 3] false, .lst true (.pair (.slc (.int .i64)) (.pair (.int .i64) (.slc (.int .i8)))) y.2.1 false, .lst true (.slc (.int .i64)) y.2.2 false]⟩) (x.1.2.2.2.2.2.2.2.1, x.2.2.2.1, x.2.2.2.2.1) (by kernel_rfl) (fun y X => by kernel_rfl) h.it
 ·cases hn
def oU : List Sh := [.agg [.int .i64, .int .i64, .int .i64, .fz false (.pair (.int .i64) (.pair (.int .i64) (.pair (.int .i64) (.pair (.int .i64) (.pair (.int .i64) (.pair (.int .i64) .bool))))))], .lf (.fz false (.pair (.pair (.slc (.int .i64)) (.pair (.int .i64) (.slc (.int .i8)))) (.pair (.slc (.int .i32)) (.pair (.slc (.int .i64)) (.pair (.int .i64) (.slc (.int .i8))))))), .agg [.fz false (.int .i64), .int .i64, .fz false (.int .i8)], .lf (.int .u64), .lf (.int .i64)]
def E8 (x : aI oU) (Q : List (Bool × List VV) -> Prop) : Prop := tJ ((x.1.1, (x.1.2.1, x.1.2.2.1)), x.1.2.2.2.1) x.2.1 (x.2.2.1.1, (x.2.2.1.2.1, x.2.2.1.2.2.1)) x.2.2.2.1 x.2.2.2.2.1 (fun (r : ((List ((List Int) × Int × List Int)) × List (List Int)) × Int × Int) => Q (aH [(true, (.pair (.slc (.pair (.slc (.int .i64)) (.pair (.int .i64) (.slc (.int .i8))))) (.slc (.slc (.int .i64))))), (false, (.int .i64)), (false, (.int .i64))] [.n, .n, .n] (r.1, (r.2.1, (r.2.2, ())))))
theorem aB5 (x : aI oU) (Q : List (Bool × List VV) -> Prop) (h : E8 x Q) : aD Try.prog 7 (aM oU x) Q :=
 aC [.n, .n, .n] (G := OD) (ct := B4) (en := N8) (fn := Try.f7) (cd := SQ) (rt := [(true, (.pair (.slc (.pair (.slc (.int .i64)) (.pair (.int .i64) (.slc (.int .i8))))) (.slc (.slc (.int .i64))))), (false, (.int .i64)), (false, (.int .i64))]) Try.func7 (by kernel_rfl) (by kernel_rfl) (Nat.le_of_ble_eq_true rfl) aBe EM (aG rfl) h.it (by kernel_rfl)
noncomputable def KP : FuncId -> List VV -> (List (Bool × List VV) -> Prop) -> Prop := fun f args Q => if f = 7 then unA oU args (fun x => E8 x Q) else CR f args Q
theorem KT : ∀ f args Q, KP f args Q -> aD Try.prog f args Q := aE EM (f0 := 7) oU (fun x Q => E8 x Q) aB5
noncomputable def WC : Cfg := ⟨Try.prog, tt, KP, fun _ _ _ => False, none, false⟩
def ML (a0 : Int) (Q : ((Int × Int × Int) × List (Int × Int × Int × Int × Int × Int × Bool)) -> Prop) : Prop :=
 Q ((1, (1, 2)), [(6, (0, (0, (0, (0, (0, false)))))), (1, (a0, (0, (0, (0, (0, false))))))])
structure A9 (a0 : Int) (Q : ((Int × Int × Int) × List (Int × Int × Int × Int × Int × Int × Bool)) -> Prop) : Prop where
 it : ML a0 Q
noncomputable def vO : Tab := fun n => none
noncomputable def uR : Go.Mach.Ends := fun n => match n with | 2 => some ([], [0, 2]) | 6 => some ([], [2]) | 7 => some ([], [2]) | _ => none
noncomputable def wD : Code := Try.f10.body.getD .skip
theorem GY : aL WC vO uR wD := by
 intro n E hn f c hs x k h
 cases hn
def eV : List Sh := [.lf (.int .i64)]
def m5 (x : aI eV) (Q : List (Bool × List VV) -> Prop) : Prop := A9 x.1 (fun (r : (Int × Int × Int) × List (Int × Int × Int × Int × Int × Int × Bool)) => Q (aH [(true, (.pair (.pair (.int .i64) (.pair (.int .i64) (.int .i64))) (.slc (.pair (.int .i64) (.pair (.int .i64) (.pair (.int .i64) (.pair (.int .i64) (.pair (.int .i64) (.pair (.int .i64) .bool)))))))))] [.n] (r, ())))
theorem G0 (x : aI eV) (Q : List (Bool × List VV) -> Prop) (h : m5 x Q) : aD Try.prog 10 (aM eV x) Q :=
 aC [.n] (G := WC) (ct := vO) (en := uR) (fn := Try.f10) (cd := wD) (rt := [(true, (.pair (.pair (.int .i64) (.pair (.int .i64) (.int .i64))) (.slc (.pair (.int .i64) (.pair (.int .i64) (.pair (.int .i64) (.pair (.int .i64) (.pair (.int .i64) (.pair (.int .i64) .bool)))))))))]) Try.func10 (by kernel_rfl) (by kernel_rfl) (Nat.le_of_ble_eq_true rfl) GY KT (aG rfl) h.it (by kernel_rfl)
noncomputable def oW : FuncId -> List VV -> (List (Bool × List VV) -> Prop) -> Prop := fun f args Q => if f = 10 then unA eV args (fun x => m5 x Q) else KP f args Q
theorem s8 : ∀ f args Q, oW f args Q -> aD Try.prog f args Q := aE KT (f0 := 10) eV (fun x Q => m5 x Q) G0
noncomputable def zB : Cfg := ⟨Try.prog, tt, oW, fun _ _ _ => False, none, false⟩
def JV  (Q : Bool -> Prop) : Prop :=
 A9 1 (fun (r1 : (Int × Int × Int) × List (Int × Int × Int × Int × Int × Int × Bool)) => tJ ((r1.1.1, (r1.1.2.1, r1.1.2.2)), r1.2) [((([] : List Int), (0, ([] : List Int))), (([] : List Int), (([] : List Int), (0, ([] : List Int))))), (([1, 2], (0, [3, 4])), ([0, 0], ([1], (0, [5]))))] ([1, 1, 1, 2], (0, [1, 2])) 1 0 (fun (r2 : ((List ((List Int) × Int × List Int)) × List (List Int)) × Int × Int) => jn (fun (v3 : Bool) => jn (fun (v5 : Bool) => jn (fun (v7 : Bool) => Q v7) (fun J8 => if v5 = true then tT 2 3 4 (fun (r9 : Int) => J8 (r9 == 2100)) else J8 false)) (fun J6 => if v3 = true then ck ((0 : Int) <= 2 /\ 2 < (r2.1.1.length : Int)) (ck ((0 : Int) <= 0 /\ 0 < ((((r2.1.1.getD 2 ([], (0, []))).2).2).length : Int)) (J6 (((((r2.1.1.getD 2 ([], (0, []))).2).2).getD 0 0) == 16))) else J6 false)) (fun J4 => if ((r2.2.2 == 0) && ((r2.1.1.length : Int) == 3)) = true then ck ((0 : Int) <= 2 /\ 2 < (r2.1.1.length : Int)) (J4 (((((r2.1.1.getD 2 ([], (0, []))).2).2).length : Int) == 1)) else J4 false)))
structure dN  (Q : Bool -> Prop) : Prop where
 it : JV  Q
noncomputable def tB : Tab := fun n => none
noncomputable def sZ : Go.Mach.Ends := fun n => match n with | 2 => some ([], []) | 6 => some ([], [1]) | 14 => some ([], [2, 4]) | 30 => some ([], [0]) | 31 => some ([], [0]) | _ => none
noncomputable def t8 : Code := Try.f5.body.getD .skip
theorem F4 : aL zB tB sZ t8 := by
 intro n E hn f c hs x k h
 cases hn
def dM : List Sh := []
def lR (x : aI dM) (Q : List (Bool × List VV) -> Prop) : Prop := dN (fun (r : Bool) => Q (aH [(false, .bool)] [.n] (r, ())))
theorem FF (x : aI dM) (Q : List (Bool × List VV) -> Prop) (h : lR x Q) : aD Try.prog 5 (aM dM x) Q :=
 aC [.n] (G := zB) (ct := tB) (en := sZ) (fn := Try.f5) (cd := t8) (rt := [(false, .bool)]) Try.func5 (by kernel_rfl) (by kernel_rfl) (Nat.le_of_ble_eq_true rfl) F4 s8 (aG rfl) h.it (by kernel_rfl)
noncomputable def nL : FuncId -> List VV -> (List (Bool × List VV) -> Prop) -> Prop := fun f args Q => if f = 5 then unA dM args (fun x => lR x Q) else oW f args Q
theorem qX : ∀ f args Q, nL f args Q -> aD Try.prog f args Q := aE s8 (f0 := 5) dM (fun x Q => lR x Q) FF
noncomputable def wX : Cfg := ⟨Try.prog, tt, nL, fun _ _ _ => False, none, false⟩
end Go.Proofs.Ytbenbhdagmnapaa
