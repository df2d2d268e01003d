/- Part of the proof. No condition. -/
import Derived.Test.YtbenbhdagmnapaaZ36
import Derived.Test.YtbenbhdagmnapaaProg
import Derived.KernelRfl
import Derived.Test.YtbenbhdagmnapaaZ37
import Derived.Test.YtbenbhdagmnapaaYVTold
namespace Go.Proofs.Ytbenbhdagmnapaa
open Go.Mach
set_option maxRecDepth 100000
set_option linter.unusedVariables false
def cH (x2 : Int) (x13 : List ((List Int) × Int × List Int)) (x15 : List ((List Int) × Int × List Int)) (K0 : Unit -> Prop) (K1 : Unit -> Prop) (s : Int) (nx : Int -> Prop) : Prop :=
 if (decide (s < x2)) = true then ck ((0 : Int) <= s /\ s < (x13.length : Int)) (ck ((0 : Int) <= s /\ s < (x15.length : Int)) (iB ((x13.getD ((s).toNat) ([], (0, []))).1, (((x13.getD ((s).toNat) ([], (0, []))).2).1, ((x13.getD ((s).toNat) ([], (0, []))).2).2)) ((x15.getD ((s).toNat) ([], (0, []))).1, (((x15.getD ((s).toNat) ([], (0, []))).2).1, ((x15.getD ((s).toNat) ([], (0, []))).2).2)) (fun (r7 : Bool) => if (!r7) = true then K1 () else nx (IntKind.i64.wrap (s + 1))))) else K0 ()
structure kN (x2 : Int) (x13 : List ((List Int) × Int × List Int)) (x15 : List ((List Int) × Int × List Int)) (K0 : Unit -> Prop) (K1 : Unit -> Prop) (s : Int) : Prop where
 it : Go.Mach.Loop (cH x2 x13 x15 K0 K1) s
def cE (x0 : List (Int × Int × Int × Int × Int × Int × Bool)) (x1 : Int) (x3 : List ((List Int) × Int × List Int)) (x5 : List ((List Int) × Int × List Int)) (K0 : Unit -> Prop) (K1 : Unit -> Prop) (s : Int) (nx : Int -> Prop) : Prop :=
 if (decide (s < x1)) = true then ck ((0 : Int) <= s /\ s < (x0.length : Int)) (if ((((((x0.getD ((s).toNat) (0, (0, (0, (0, (0, (0, false))))))).1) == 1) || (((x0.getD ((s).toNat) (0, (0, (0, (0, (0, (0, false))))))).1) == 2)) || (((x0.getD ((s).toNat) (0, (0, (0, (0, (0, (0, false))))))).1) == 4)) || (((x0.getD ((s).toNat) (0, (0, (0, (0, (0, (0, false))))))).1) == 7)) = true then K0 () else ck ((0 : Int) <= (IntKind.i64.wrap (s + 1)) /\ (IntKind.i64.wrap (s + 1)) < (x3.length : Int)) (ck ((0 : Int) <= (IntKind.i64.wrap (s + 1)) /\ (IntKind.i64.wrap (s + 1)) < (x5.length : Int)) (iB ((x3.getD ((IntKind.i64.wrap (s + 1)).toNat) ([], (0, []))).1, (((x3.getD ((IntKind.i64.wrap (s + 1)).toNat) ([], (0, []))).2).1, ((x3.getD ((IntKind.i64.wrap (s + 1)).toNat) ([], (0, []))).2).2)) ((x5.getD ((IntKind.i64.wrap (s + 1)).toNat) ([], (0, []))).1, (((x5.getD ((IntKind.i64.wrap (s + 1)).toNat) ([], (0, []))).2).1, ((x5.getD ((IntKind.i64.wrap (s + 1)).toNat) ([], (0, []))).2).2)) (fun (r10 : Bool) => if (!r10) = true then K1 () else nx (IntKind.i64.wrap (s + 1)))))) else K0 ()
structure kC (x0 : List (Int × Int × Int × Int × Int × Int × Bool)) (x1 : Int) (x3 : List ((List Int) × Int × List Int)) (x5 : List ((List Int) × Int × List Int)) (K0 : Unit -> Prop) (K1 : Unit -> Prop) (s : Int) : Prop where
 it : Go.Mach.Loop (cE x0 x1 x3 x5 K0 K1) s
def jP (x0 : Int) (x1 : Int) (x5 : List (Int × Int × Int × Int × Int × Int × Bool)) (x11 : List ((List Int) × Int × List Int)) (x13 : List ((List Int) × Int × List Int)) (x15 : List ((List Int) × Int × List Int)) (K0 : Bool -> Prop) : Prop :=
 kN (x11.length : Int) x11 x13 (fun (y7 : Unit) => if ((x0 != 0) || (x1 != 0)) = true then dN (fun (r8 : Bool) => K0 r8) else if (((x11.length : Int) != (IntKind.i64.wrap ((x5.length : Int) + 1))) || ((x15.length : Int) != (x11.length : Int))) = true then K0 false else kC x5 (x5.length : Int) x11 x15 (fun (y9 : Unit) => dN (fun (r10 : Bool) => K0 r10)) (fun (y11 : Unit) => K0 false) 0) (fun (y12 : Unit) => K0 false) 0
structure fZ (x0 : Int) (x1 : Int) (x5 : List (Int × Int × Int × Int × Int × Int × Bool)) (x11 : List ((List Int) × Int × List Int)) (x13 : List ((List Int) × Int × List Int)) (x15 : List ((List Int) × Int × List Int)) (K0 : Bool -> Prop) : Prop where
 it : jP x0 x1 x5 x11 x13 x15 K0
def jJ (x0 : Int) (x1 : Int) (x2 : Int) (x3 : Int) (x4 : Int) (x5 : Int) (x6 : Int) (x7 : List (Int × Int × Int × Int × Int × Int × Bool)) (x13 : List (((List Int) × Int × List Int) × (List Int) × (List Int) × Int × List Int)) (x14 : Int) (x15 : List Int) (x16 : List Int) (x17 : List ((List Int) × Int × List Int)) (K0 : Bool -> Prop) : Prop :=
 tJ ((x4, (x5, x6)), x7) x13 (x15, (x14, x16)) x0 x2 (fun (r5 : ((List ((List Int) × Int × List Int)) × List (List Int)) × Int × Int) => tJ ((x4, (x5, x6)), x7) x13 (x15, (x14, x16)) x1 x2 (fun (r6 : ((List ((List Int) × Int × List Int)) × List (List Int)) × Int × Int) => if ((x3 != r5.2.2) || ((x17.length : Int) != (r5.1.1.length : Int))) = true then K0 false else fZ x3 r6.2.2 x7 x17 r5.1.1 r6.1.1 (fun (y7 : Bool) => K0 y7)))
structure kM (x0 : Int) (x1 : Int) (x2 : Int) (x3 : Int) (x4 : Int) (x5 : Int) (x6 : Int) (x7 : List (Int × Int × Int × Int × Int × Int × Bool)) (x13 : List (((List Int) × Int × List Int) × (List Int) × (List Int) × Int × List Int)) (x14 : Int) (x15 : List Int) (x16 : List Int) (x17 : List ((List Int) × Int × List Int)) (K0 : Bool -> Prop) : Prop where
 it : jJ x0 x1 x2 x3 x4 x5 x6 x7 x13 x14 x15 x16 x17 K0
def lD (a0 : ((Int × Int × Int) × List (Int × Int × Int × Int × Int × Int × Bool)) × Int × (List Int) × Int × (List Int) × Int) (a1 : Int) (a2 : Int) (a3 : Int) (Q : Bool -> Prop) : Prop :=
 if (decide (12 < (a0.1.2.length : Int))) = true then dN (fun (r1 : Bool) => Q r1) else qK (((a0.1.1.1, (a0.1.1.2.1, a0.1.1.2.2)), a0.1.2), (a0.2.1, (a0.2.2.1, (a0.2.2.2.1, (a0.2.2.2.2.1, a0.2.2.2.2.2))))) (fun (r2 : (List (((List Int) × Int × List Int) × (List Int) × (List Int) × Int × List Int)) × ((List Int) × Int × List Int) × Int) => if (r2.2.2 != 0) = true then dN (fun (r3 : Bool) => Q r3) else ck (1000 ≠ (0 : Int)) (tJ ((a0.1.1.1, (a0.1.1.2.1, a0.1.1.2.2)), a0.1.2) r2.1 (r2.2.1.1, (r2.2.1.2.1, r2.2.1.2.2)) a1 (IntKind.i64.wrap ((IntKind.u64.wrap a3).tmod 1000)) (fun (r4 : ((List ((List Int) × Int × List Int)) × List (List Int)) × Int × Int) => kM a1 a2 (IntKind.i64.wrap ((IntKind.u64.wrap a3).tmod 1000)) r4.2.2 a0.1.1.1 a0.1.1.2.1 a0.1.1.2.2 a0.1.2 r2.1 r2.2.1.2.1 r2.2.1.1 r2.2.1.2.2 r4.1.1 (fun (y8 : Bool) => Q y8))))
structure nT (a0 : ((Int × Int × Int) × List (Int × Int × Int × Int × Int × Int × Bool)) × Int × (List Int) × Int × (List Int) × Int) (a1 : Int) (a2 : Int) (a3 : Int) (Q : Bool -> Prop) : Prop where
 it : lD a0 a1 a2 a3 Q
noncomputable def xI : Ent := ⟨[1, 2, 3, 4, 9, 10, 12, 14], [.lf (.int .u64), .lf (.int .u64), .lf (.int .i64), .lf (.cst (.ptr 0 0)), .lf (.cst (.own 1)), .lf (.cst (.ptr 2 0)), .lf (.cst (.ptr 3 0)), .lf (.int .i64)], [.box [.int .i64, .int .i64, .int .i64, .fz false (.pair (.int .i64) (.pair (.int .i64) (.pair (.int .i64) (.pair (.int .i64) (.pair (.int .i64) (.pair (.int .i64) .bool)))))), .int .u64, .fz false (.int .i8), .int .i64, .fz false (.int .i8), .int .i64] false, .lst true (.pair (.pair (.slc (.int .i64)) (.pair (.int .i64) (.slc (.int .i8)))) (.pair (.slc (.int .i32)) (.pair (.slc (.int .i64)) (.pair (.int .i64) (.slc (.int .i8)))))) false, .box [.cst (.own 4), .int .i64, .cst (.own 5)] false, .box [.cst (.own 6), .cst (.own 7)] false, .lst true (.int .i64) false, .lst true (.int .i8) false, .lst true (.pair (.slc (.int .i64)) (.pair (.int .i64) (.slc (.int .i8)))) false, .lst true (.slc (.int .i64)) false], fun x k => kM x.1.1 x.1.2.1 x.1.2.2.1 x.1.2.2.2.2.2.2.2.1 x.2.1.1 x.2.1.2.1 x.2.1.2.2.1 x.2.1.2.2.2.1 x.2.2.1 x.2.2.2.1.2.1 x.2.2.2.2.2.1 x.2.2.2.2.2.2.1 x.2.2.2.2.2.2.2.1 (fun (y9 : Bool) => k .ret ⟨[(8, .pl (.bool y9))], []⟩)⟩
noncomputable def xK : Ent := ⟨[4, 12, 14, 15, 18, 20], [.lf (.cst (.ptr 0 0)), .lf (.cst (.ptr 1 0)), .lf (.int .i64), .lf (.cst (.ptr 2 0)), .lf (.cst (.ptr 3 0)), .lf (.int .i64)], [.box [.int .i64, .int .i64, .int .i64, .fz false (.pair (.int .i64) (.pair (.int .i64) (.pair (.int .i64) (.pair (.int .i64) (.pair (.int .i64) (.pair (.int .i64) .bool)))))), .int .u64, .fz false (.int .i8), .int .i64, .fz false (.int .i8), .int .i64] false, .box [.cst (.own 4), .cst (.own 5)] false, .box [.cst (.own 6), .cst (.own 7)] false, .box [.cst (.own 8), .cst (.own 9)] false, .lst true (.pair (.slc (.int .i64)) (.pair (.int .i64) (.slc (.int .i8)))) false, .lst true (.slc (.int .i64)) false, .lst true (.pair (.slc (.int .i64)) (.pair (.int .i64) (.slc (.int .i8)))) false, .lst true (.slc (.int .i64)) false, .lst true (.pair (.slc (.int .i64)) (.pair (.int .i64) (.slc (.int .i8)))) false, .lst true (.slc (.int .i64)) false], fun x k => fZ x.1.2.2.1 x.1.2.2.2.2.2.1 x.2.1.2.2.2.1 x.2.2.2.2.2.1 x.2.2.2.2.2.2.2.1 x.2.2.2.2.2.2.2.2.2.1 (fun (y10 : Bool) => k .ret ⟨[(8, .pl (.bool y10))], []⟩)⟩
noncomputable def xZ : Ent := ⟨[4, 12, 14, 15, 18, 20, 90, 91], [.lf (.cst (.ptr 0 0)), .lf (.cst (.ptr 1 0)), .lf (.int .i64), .lf (.cst (.ptr 2 0)), .lf (.cst (.ptr 3 0)), .lf (.int .i64), .lf (.int .i64), .lf (.int .i64)], [.box [.int .i64, .int .i64, .int .i64, .fz false (.pair (.int .i64) (.pair (.int .i64) (.pair (.int .i64) (.pair (.int .i64) (.pair (.int .i64) (.pair (.int .i64) .bool)))))), .int .u64, .fz false (.int .i8), .int .i64, .fz false (.int .i8), .int .i64] false, .box [.cst (.own 4), .cst (.own 5)] false, .box [.cst (.own 6), .cst (.own 7)] false, .box [.cst (.own 8), .cst (.own 9)] false, .lst true (.pair (.slc (.int .i64)) (.pair (.int .i64) (.slc (.int .i8)))) false, .lst true (.slc (.int .i64)) false, .lst true (.pair (.slc (.int .i64)) (.pair (.int .i64) (.slc (.int .i8)))) false, .lst true (.slc (.int .i64)) false, .lst true (.pair (.slc (.int .i64)) (.pair (.int .i64) (.slc (.int .i8)))) false, .lst true (.slc (.int .i64)) false], fun x k => kN x.1.2.2.2.2.2.2.1 x.2.2.2.2.2.1 x.2.2.2.2.2.2.2.1 (fun (y11 : Unit) => k (.exit 0) ⟨[(4, .ptr 0 0), (12, .ptr 1 0), (14, .pl (.int .i64 x.1.2.2.1)), (18, .ptr 2 0), (20, .pl (.int .i64 x.1.2.2.2.2.2.1))], [.box [.pl (.int .i64 x.2.1.1), .pl (.int .i64 x.2.1.2.1), .pl (.int .i64 x.2.1.2.2.1), .fz false (.pair (.int .i64) (.pair (.int .i64) (.pair (.int .i64) (.pair (.int .i64) (.pair (.int .i64) (.pair (.int .i64) .bool)))))) x.2.1.2.2.2.1, .pl (.int .u64 x.2.1.2.2.2.2.1), .fz false (.int .i8) x.2.1.2.2.2.2.2.1, .pl (.int .i64 x.2.1.2.2.2.2.2.2.1), .fz false (.int .i8) x.2.1.2.2.2.2.2.2.2.1, .pl (.int .i64 x.2.1.2.2.2.2.2.2.2.2.1)] false, .box [.own 3, .own 4] false, .box [.own 5, .own 6] false, .lst true (.pair (.slc (.int .i64)) (.pair (.int .i64) (.slc (.int .i8)))) x.2.2.2.2.2.1 false, .lst true (.slc (.int .i64)) x.2.2.2.2.2.2.1 false, .lst true (.pair (.slc (.int .i64)) (.pair (.int .i64) (.slc (.int .i8)))) x.2.2.2.2.2.2.2.2.2.1 false, .lst true (.slc (.int .i64)) x.2.2.2.2.2.2.2.2.2.2.1 false]⟩) (fun (y12 : Unit) => k .ret ⟨[(8, .pl (.bool false))], []⟩) x.1.2.2.2.2.2.2.2.1⟩
noncomputable def xG : Ent := ⟨[12, 18, 134, 135, 136], [.lf (.cst (.ptr 0 0)), .lf (.cst (.ptr 1 0)), .lf (.fz false (.pair (.int .i64) (.pair (.int .i64) (.pair (.int .i64) (.pair (.int .i64) (.pair (.int .i64) (.pair (.int .i64) .bool))))))), .lf (.int .i64), .lf (.int .i64)], [.box [.cst (.own 2), .cst (.own 3)] false, .box [.cst (.own 4), .cst (.own 5)] false, .lst true (.pair (.slc (.int .i64)) (.pair (.int .i64) (.slc (.int .i8)))) false, .lst true (.slc (.int .i64)) false, .lst true (.pair (.slc (.int .i64)) (.pair (.int .i64) (.slc (.int .i8)))) false, .lst true (.slc (.int .i64)) false], fun x k => kC x.1.2.2.1 x.1.2.2.2.1 x.2.2.2.1 x.2.2.2.2.2.1 (fun (y13 : Unit) => k (.exit 2) ⟨[], []⟩) (fun (y14 : Unit) => k .ret ⟨[(8, .pl (.bool false))], []⟩) x.1.2.2.2.2.1⟩
noncomputable def fK : Tab := fun n => match n with | 127 => some xI | 1023 => some xK | 8186 => some xZ | 65530 => some xG | _ => none
noncomputable def kH : Go.Mach.Ends := fun n => match n with | 2 => some ([], [1, 2, 3, 4]) | 12 => some ([], [1, 2, 3, 4, 28]) | 14 => some ([], [1, 2, 3, 4, 9, 10, 11]) | 27 => some ([], [1, 2, 3, 4]) | 52 => some ([], [8]) | 53 => some ([], [8]) | 60 => some ([], [1, 2, 3, 4, 9, 10, 37]) | 62 => some ([], [1, 2, 3, 4, 9, 10]) | 123 => some ([], [1, 2, 3, 4, 9, 10]) | 126 => some ([], [1, 2, 3, 4, 9, 10, 12, 14]) | 244 => some ([], [8]) | 245 => some ([], [8]) | 254 => some ([], [2, 3, 4, 9, 10, 12, 14, 15, 17]) | 510 => some ([], [4, 12, 14, 15, 17, 18, 20]) | 2044 => some ([], [4, 12, 14, 15, 18, 20, 87]) | 4091 => some ([], [4, 12, 14, 15, 18, 20]) | 4092 => some ([], [4, 12, 14, 15, 18, 20, 90, 91]) | 8180 => some ([], [8]) | 8181 => some ([], [8]) | 8186 => some ([], [4, 12, 14, 15, 18, 20, 90, 91]) | 8188 => some ([], [4, 12, 18, 112]) | 16379 => some ([], [4, 12, 18]) | 16380 => some ([], [4, 12, 18, 131]) | 32744 => some ([], [4, 12, 14, 15, 18, 20, 90, 91, 92]) | 32756 => some ([], [8]) | 32757 => some ([], [8]) | 32763 => some ([], [4, 12, 18]) | 32764 => some ([], [12, 18, 134, 135, 136]) | 32766 => some ([], [8]) | 32767 => some ([], [8]) | 65524 => some ([], [8]) | 65525 => some ([], [8]) | 65530 => some ([], [12, 18, 134, 135, 136]) | 130980 => some ([], [4, 12, 14, 15, 18, 20, 90, 91]) | 130981 => some ([], [4, 12, 14, 18, 20]) | 130983 => some ([], [4, 12, 14, 15, 18, 20, 90, 91]) | 262120 => some ([], [12, 18, 134, 135, 136, 137]) | 523928 => some ([], [4, 12, 14, 15, 18, 20, 21, 90, 91]) | 1047858 => some ([], [4, 12, 14, 15, 18, 20, 90, 91, 105]) | 1048484 => some ([], [12, 18, 134, 135, 136]) | 1048485 => some ([], []) | 1048487 => some ([], [12, 18, 134, 135, 136]) | 2095719 => some ([], [4, 12, 14, 15, 18, 20, 90, 91]) | 4191436 => some ([], [8]) | 4191437 => some ([], [8]) | 4193944 => some ([], [12, 18, 22, 23, 134, 135, 136]) | 16775780 => some ([], [12, 18, 22, 134, 135, 136, 158]) | 16775782 => some ([], [12, 18, 134, 135, 136, 172]) | 33551562 => some ([], []) | 33551563 => some ([], [12, 18, 22, 134, 135, 136]) | 33551567 => some ([], [12, 18, 134, 135, 136]) | 67103132 => some ([], [8]) | 67103133 => some ([], [8]) | _ => none
noncomputable def lJ : Code := Try.f4.body.getD .skip
theorem wA : aL yY fK kH lJ := by
 intro n E hn f c hs x k h
 unfold fK at hn
 split at hn
 ·cases hn; exact bS hs (by kernel_rfl) (by kernel_rfl) h.it
 ·cases hn; exact bS hs (by kernel_rfl) (by kernel_rfl) h.it
 ·cases hn; exact aK hs (by kernel_rfl) (fun y : Int => ⟨[(4, .ptr 0 0), (12, .ptr 1 0), (14, .pl (.int .i64 x.1.2.2.1)), (15, .ptr 2 0), (18, .ptr 3 0), (20, .pl (.int .i64 x.1.2.2.2.2.2.1)), (90, .pl (.int .i64 x.1.2.2.2.2.2.2.1)), (91, .pl (.int .i64 y))], [.box [.pl (.int .i64 x.2.1.1), .pl (.int .i64 x.2.1.2.1), .pl (.int .i64 x.2.1.2.2.1), .fz false (.pair (.int .i64) (.pair (.int .i64) (.pair (.int .i64) (.pair (.int .i64) (.pair (.int .i64) (.pair (.int .i64) .bool)))))) x.2.1.2.2.2.1, .pl (.int .u64 x.2.1.2.2.2.2.1), .fz false (.int .i8) x.2.1.2.2.2.2.2.1, .pl (.int .i64 x.2.1.2.2.2.2.2.2.1), .fz false (.int .i8) x.2.1.2.2.2.2.2.2.2.1, .pl (.int .i64 x.2.1.2.2.2.2.2.2.2.2.1)] false, .box [.own 4, .own 5] false, .box [.own 6, .own 7] false, .box [.own 8, .own 9] false, .lst true (.pair (.slc (.int .i64)) (.pair (.int .i64) (.slc (.int .i8)))) x.2.2.2.2.2.1 false, .lst true (.slc (.int .i64)) x.2.2.2.2.2.2.1 false, .lst true (.pair (.slc (.int .i64)) (.pair (.int .i64) (.slc (.int .i8)))) x.2.2.2.2.2.2.2.1 false, .lst true (.slc (.int .i64)) x.2.2.2.2.2.2.2.2.1 false, .lst true (.pair (.slc (.int .i64)) (.pair (.int .i64) (.slc (.int .i8)))) x.2.2.2.2.2.2.2.2.2.1 false, .lst true (.slc (.int .i64)) x.2.2.2.2.2.2.2.2.2.2.1 false]⟩) x.1.2.2.2.2.2.2.2.1 (by kernel_rfl) (fun y X => by kernel_rfl) h.it
 ·cases hn; exact aK hs (by kernel_rfl) (fun y : Int => ⟨[(12, .ptr 0 0), (18, .ptr 1 0), (134, .fz false (.pair (.int .i64) (.pair (.int .i64) (.pair (.int .i64) (.pair (.int .i64) (.pair (.int .i64) (.pair (.int .i64) .bool)))))) x.1.2.2.1), (135, .pl (.int .i64 x.1.2.2.2.1)), (136, .pl (.int .i64 y))], [.box [.own 2, .own 3] false, .box [.own 4, .own 5] false, .lst true (.pair (.slc (.int .i64)) (.pair (.int .i64) (.slc (.int .i8)))) x.2.2.2.1 false, .lst true (.slc (.int .i64)) x.2.2.2.2.1 false, .lst true (.pair (.slc (.int .i64)) (.pair (.int .i64) (.slc (.int .i8)))) x.2.2.2.2.2.1 false, .lst true (.slc (.int .i64)) x.2.2.2.2.2.2.1 false]⟩) x.1.2.2.2.2.1 (by kernel_rfl) (fun y X => by kernel_rfl) h.it
 ·cases hn
def fM : List Sh := [.agg [.int .i64, .int .i64, .int .i64, .fz false (.pair (.int .i64) (.pair (.int .i64) (.pair (.int .i64) (.pair (.int .i64) (.pair (.int .i64) (.pair (.int .i64) .bool)))))), .int .u64, .fz false (.int .i8), .int .i64, .fz false (.int .i8), .int .i64], .lf (.int .u64), .lf (.int .u64), .lf (.int .i64)]
def yT (x : aI fM) (Q : List (Bool × List VV) -> Prop) : Prop := nT (((x.1.1, (x.1.2.1, x.1.2.2.1)), x.1.2.2.2.1), (x.1.2.2.2.2.1, (x.1.2.2.2.2.2.1, (x.1.2.2.2.2.2.2.1, (x.1.2.2.2.2.2.2.2.1, x.1.2.2.2.2.2.2.2.2.1))))) x.2.1 x.2.2.1 x.2.2.2.1 (fun (r : Bool) => Q (aH [(false, .bool)] [.n] (r, ())))
theorem vX (x : aI fM) (Q : List (Bool × List VV) -> Prop) (h : yT x Q) : aD Try.prog 4 (aM fM x) Q :=
 aC [.n] (G := yY) (ct := fK) (en := kH) (fn := Try.f4) (cd := lJ) (rt := [(false, .bool)]) Try.func4 (by kernel_rfl) (by kernel_rfl) (Nat.le_of_ble_eq_true rfl) wA GH (aG rfl) h.it (by kernel_rfl)
end Go.Proofs.Ytbenbhdagmnapaa

namespace Go.Proofs.Ytbenbhdagmnapaa
open Go.Mach
set_option maxRecDepth 100000
set_option linter.unusedVariables false
set_option linter.unusedSimpArgs false
def aGW (x : Lay) : Bool := (((x.1 == 1) || (x.1 == 2)) || (x.1 == 4)) || (x.1 == 7)
theorem aJ0 {x : Lay} {p : Prm} {l : List T3} {s t s' t' : Int} (h : aGW x = false) : nM x p l s t = nM x p l s' t' := by
 unfold aGW at h
 simp only [Bool.or_eq_false_iff] at h
 have e : XT x p l = (Z3, false, 0) := by
  unfold XT
  rw [if_neg (by rw [h.1.1.1]; simp), if_neg (by rw [h.1.1.2]; simp), if_neg (by rw [h.1.2]; simp), if_neg (by rw [h.2]; simp)]
 unfold nM
 rw [e]
 simp
theorem aD7 {ps : List Prm} {s s' st : Int} : ∀ (r : List Lay) (i : Nat) (a : Act) (k : Nat), (sR ps s st r i a).2.2 = 0 -> (sR ps s' st r i a).2.2 = 0 -> TenMay a.1 -> k <= r.length -> (∀ j, j < k -> aGW (r.getD j iA) = false) ->
    ∀ j, j < k -> (sR ps s st r i a).1.1.getD (a.1.length + j) Z3 = (sR ps s' st r i a).1.1.getD (a.1.length + j) Z3
  | [], i, a, k, _, _, _, hk, _, j, hj => by simp at hk; omega
  | x :: r, i, a, k, h1, h2, hm, hk, hs, j, hj => by
    have hx : aGW x = false := by have := hs 0 (by omega); simpa using this
    unfold sR at h1 h2 ⊢
    rw [aJ0 (s := s) (s' := s') (t' := aBV st ((i : Int) + 1) 0) hx] at h1 ⊢
    split at h1
    · rename_i he
      exact absurd h1 (by simpa using he)
    rename_i he
    rw [if_neg he] at h2
    rw [if_neg he, if_neg he]
    have he' : (nM x (ps.getD i jS) a.1 s' (aBV st ((i : Int) + 1) 0)).2.2 = 0 := by simpa using he
    have hm' : TenMay (a.1 ++ [(nM x (ps.getD i jS) a.1 s' (aBV st ((i : Int) + 1) 0)).1]) := by
      intro t ht
      rcases List.mem_append.1 ht with ht | ht
      · exact hm t ht
      · rw [List.mem_singleton.1 ht]; exact aFI he'
    cases j with
    | zero =>
      obtain ⟨⟨t1, k1, _⟩, _⟩ := U9 r (i + 1) _ h1 hm'
      obtain ⟨⟨t2, k2, _⟩, _⟩ := U9 r (i + 1) _ h2 hm'
      rw [k1, k2]
      simp
    | succ j =>
      have := aD7 r (i + 1) _ (k - 1) h1 h2 hm' (by simp at hk; omega) (fun j hj => by have := hs (j + 1) (by omega); simpa using this) j (by omega)
      dsimp only at this
      rw [List.length_append, List.length_singleton, show a.1.length + 1 + j = a.1.length + (j + 1) by omega] at this
      exact this
theorem aLe {t : T3} (h : fC t = true) : t.1.length <= 1000000 /\ t.2.2.length <= 1000000 := by
 have := pH h
 omega
theorem TenMay.at_ {l : List T3} (h : TenMay l) {i : Nat} (hi : i < l.length) : fC (l.getD i Z3) = true := by
 rw [List.getD_eq_getElem?_getD, List.getElem?_eq_getElem hi]
 exact h _ (List.getElem_mem _)
theorem aHr {u w : List T3} {i : Nat} {Q : Bool -> Prop} (h1 : TenMay u) (hi : i < u.length) (h : Q (decide (u.getD i Z3 = w.getD i Z3))) : iB (u.getD i Z3) (w.getD i Z3) Q := by
 obtain ⟨a, b⟩ := aLe (h1.at_ hi)
 exact aNK a b h
theorem aKj {n : aO2} {a b st : Int} {Q : Bool -> Prop} (hl : n.1.2.length <= 10000000000000) (hb : n.2.2.1.length <= 1000000000000000) (b8 : All8 n.2.2.1) (x8 : All8 n.2.2.2.2.1) (h : Q true) : nT n a b st Q := by
  refine ⟨?_⟩
  unfold lD
  split
  · exact VT h
  rename_i hn
  have hn : ¬ (12 : Int) < (n.1.2.length : Int) := by simpa using hn
  refine aNo hl hb b8 x8 fun ps x e he => ?_
  dsimp only
  split
  · exact VT h
  rename_i he0
  obtain ⟨p1, p2, p3, _⟩ := he (by simpa using he0)
  refine ⟨by decide, aMK hl p2 p3 ⟨?_⟩⟩
  unfold jJ
  refine aMK hl p2 p3 (aMK hl p2 p3 ?_)
  generalize IntKind.i64.wrap ((IntKind.u64.wrap st).tmod 1000) = st'
  show if (((tO n.1 ps x a st').2.2 != (tO n.1 ps x a st').2.2) || (((tO n.1 ps x a st').1.1.length : Int) != ((tO n.1 ps x a st').1.1.length : Int))) = true then Q false else fZ (tO n.1 ps x a st').2.2 (tO n.1 ps x b st').2.2 n.1.2 (tO n.1 ps x a st').1.1 (tO n.1 ps x a st').1.1 (tO n.1 ps x b st').1.1 (fun y7 => Q y7)
  rw [if_neg (by simp)]
  refine ⟨?_⟩
  unfold jP
  have mA : TenMay (tO n.1 ps x a st').1.1 := aM4
  have lA : (tO n.1 ps x a st').1.1.length <= 13 := by
    by_cases h0 : (tO n.1 ps x a st').2.2 = 0
    · have := (QD h0).1; omega
    · rw [aIC h0]; simp
  refine ⟨?_⟩
  refine Loop.range (B := cH ((tO n.1 ps x a st').1.1.length : Int) _ _ _ _) (tO n.1 ps x a st').1.1.length (fun i => (i : Int)) (fun _ => True) trivial ?_ ?_
  · intro i hi _ X hX
    unfold cH
    rw [if_pos (decide_eq_true (show (i : Int) < ((tO n.1 ps x a st').1.1.length : Int) by omega))]
    refine ⟨by omega, by omega, ?_⟩
    simp only [Int.toNat_natCast]
    refine aHr mA hi ?_
    rw [decide_eq_true rfl, if_neg (by simp), aB _ (by omega) (by omega)]
    exact hX trivial
  · intro _ X
    unfold cH
    rw [if_neg (by simp)]
    split
    · exact VT h
    rename_i hf
    have hf := Bool.eq_false_iff.2 hf
    simp only [Bool.or_eq_false_iff, aHK] at hf
    obtain ⟨fA, fB⟩ := hf
    obtain ⟨a1, a2⟩ := QD fA
    obtain ⟨b1, b2⟩ := QD fB
    rw [if_neg (by
      rw [aB _ (by omega) (by omega)]
      simp only [Bool.or_eq_true, aOw]
      omega)]
    obtain ⟨⟨_, hx, _⟩, eA⟩ := aGj fA
    obtain ⟨_, eB⟩ := aGj fB
    refine ⟨?_⟩
    refine Loop.range (B := cE n.1.2 (n.1.2.length : Int) _ _ _ _) n.1.2.length (fun i => (i : Int)) (fun i => ∀ j, j < i -> aGW (n.1.2.getD j iA) = false) (fun j hj => absurd hj (by omega)) ?_ ?_
    · intro i hi hI X hX
      unfold cE
      rw [if_pos (decide_eq_true (show (i : Int) < (n.1.2.length : Int) by omega))]
      refine ⟨by omega, ?_⟩
      simp only [Int.toNat_natCast]
      cases hs : aGW (n.1.2.getD i iA) with
      | true =>
        rw [if_pos (by unfold aGW at hs; exact hs)]
        exact VT h
      | false =>
        rw [if_neg (by unfold aGW at hs; rw [hs]; simp)]
        rw [aB ((i : Int) + 1) (by omega) (by omega)]
        refine ⟨by omega, by omega, ?_⟩
        rw [show ((i : Int) + 1).toNat = 1 + i by omega]
        have hI2 : ∀ j, j < i + 1 -> aGW (n.1.2.getD j iA) = false := fun j hj => by
          by_cases hji : j = i
          · rw [hji]; exact hs
          · exact hI j (by omega)
        have key := aD7 (s := a) (s' := b) (st := st') (ps := ps) n.1.2 0 ([x], [[]]) (i + 1) (by rw [<- eA]; exact fA) (by rw [<- eB]; exact fB) (fun t ht => by rw [List.mem_singleton.1 ht]; exact hx) hi hI2 i (by omega)
        rw [<- eA, <- eB] at key
        have key : (tO n.1 ps x a st').1.1.getD (1 + i) Z3 = (tO n.1 ps x b st').1.1.getD (1 + i) Z3 := key
        refine aHr a2 (by omega) ?_
        rw [decide_eq_true key, if_neg (by simp)]
        exact hX hI2
    · intro _ X
      unfold cE
      rw [if_neg (by simp)]
      exact VT h
end Go.Proofs.Ytbenbhdagmnapaa

namespace Go.Proofs.Ytbenbhdagmnapaa
open Go.Mach Go.RowKit
set_option maxRecDepth 100000
set_option linter.unusedVariables false
abbrev aOl : Ty := .pair (.int .i64) (.pair (.int .i64) (.pair (.int .i64) (.pair (.int .i64) (.pair (.int .i64) (.pair (.int .i64) .bool)))))
abbrev aOk : Ty := .pair (.pair (.pair (.int .i64) (.pair (.int .i64) (.int .i64))) (.slc aOl)) (.pair (.int .u64) (.pair (.slc (.int .i8)) (.pair (.int .i64) (.pair (.slc (.int .i8)) (.int .i64)))))
theorem aLx {l : List Int} (h : W7 (.slc (.int .i8)) l) : l.length <= 1000000000000000 /\ All8 l := by
 obtain ⟨h1, h2⟩ := h
 refine ⟨?_, fun y hy => aNr (h2 y hy)⟩
 unfold reachBytes D5 IntKind.bits at h1
 simp at h1
 omega
theorem WK {n : aO2} (h : W7 aOk n) : n.1.2.length <= 10000000000000 /\ n.2.2.1.length <= 1000000000000000 /\ All8 n.2.2.1 /\ All8 n.2.2.2.2.1 := by
 obtain ⟨⟨_, h1, _⟩, _, h2, _, h3, _⟩ := h
 refine ⟨?_, (aLx h2).1, (aLx h2).2, (aLx h3).2⟩
 unfold reachBytes at h1
 have e : D5 aOl = 49 := by decide
 rw [e] at h1
 have h1 : n.1.2.length * 49 <= _ := h1
 omega
end Go.Proofs.Ytbenbhdagmnapaa
