/- Plain texts of functions, as the value machine comes to them. No condition. -/
import Derived.Test.YtlbapaelkdpjcaaL3
import Derived.Test.YtlbapaelkdpjcaaProg
import Derived.KernelRfl
namespace Go.Proofs.Ytlbapaelkdpjcaa
open Go.Mach
set_option maxRecDepth 100000
set_option linter.unusedVariables false
def pedagoguelaw8_awake  (Q : Bool → Prop) : Prop :=
  tensor_Small ([2], (0, [5, (-3)])) 8 1 1 (fun (r1 : ((List Int) × Int × List Int) × Int) => jn (fun (v2 : Bool) => jn (fun (v4 : Bool) => Q (v4 && (r1.1.2.1 == 0))) (fun J5 => if v2 = true then ck ((0 : Int) ≤ 1 ∧ 1 < (r1.1.2.2.length : Int)) (J5 ((r1.1.2.2.getD 1 0) == (-3))) else J5 false)) (fun J3 => if ((r1.2 == 0) && ((r1.1.2.2.length : Int) == 2)) = true then ck ((0 : Int) ≤ 0 ∧ 0 < (r1.1.2.2.length : Int)) (J3 ((r1.1.2.2.getD 0 0) == 5)) else J3 false))
noncomputable def pedagoguelaw8_awake_ct : Tab := fun n => none
noncomputable def pedagoguelaw8_awake_en : Go.Mach.Ends := fun n => match n with | 2 => some ([], []) | 6 => some ([], [1, 2]) | 14 => some ([], [0]) | 15 => some ([], [0]) | _ => none
noncomputable def pedagoguelaw8_awake_b : Code := Try.f21.body.getD .skip
theorem pedagoguelaw8_awake_tab : TabOk Gtensor_Small pedagoguelaw8_awake_ct pedagoguelaw8_awake_en pedagoguelaw8_awake_b := by
  intro n E hn f c hs x k h
  cases hn
theorem pedagoguelaw8_awake_snd (x : denS []) (Q : List (Bool × List VV) → Prop) (h : pedagoguelaw8_awake (fun (r : Bool) => Q (slotsA [(false, .bool)] [.n] (r, ())))) : Sound Try.prog 21 (packS [] x) Q :=
  vfun_told [.n] (G := Gtensor_Small) (ct := pedagoguelaw8_awake_ct) (en := pedagoguelaw8_awake_en) (fn := Try.f21) (cd := pedagoguelaw8_awake_b) (rt := [(false, .bool)]) Try.func21 (by kernel_rfl) (by kernel_rfl) (Nat.le_of_ble_eq_true rfl) pedagoguelaw8_awake_tab Otensor_Small_ok h (by kernel_rfl)
noncomputable def Opedagoguelaw8_awake : FuncId → List VV → (List (Bool × List VV) → Prop) → Prop := fun f args Q => if f = 21 then unA [] args (fun x => pedagoguelaw8_awake (fun (r : Bool) => Q (slotsA [(false, .bool)] [.n] (r, ())))) else Otensor_Small f args Q
theorem Opedagoguelaw8_awake_ok : ∀ f args Q, Opedagoguelaw8_awake f args Q → Sound Try.prog f args Q := tab_more Otensor_Small_ok (f0 := 21) [] (fun x Q => pedagoguelaw8_awake (fun (r : Bool) => Q (slotsA [(false, .bool)] [.n] (r, ())))) pedagoguelaw8_awake_snd
noncomputable def Gpedagoguelaw8_awake : Cfg := ⟨Try.prog, tt, Opedagoguelaw8_awake, fun _ _ _ => False⟩
def pedagoguelaw8_TensorZero (a0 : List Int) (a1 : Int) (a2 : Int) (Q : Bool → Prop) : Prop :=
  tensor_Zero a0 a1 (fun (r1 : ((List Int) × Int × List Int) × Int) => if (r1.2 != 0) = true then jn (fun (v2 : Bool) => Q v2) (fun J3 => if ((r1.2 == 1) && ((r1.1.2.2.length : Int) == 0)) = true then pedagoguelaw8_awake (fun (r4 : Bool) => J3 r4) else J3 false) else ck (7 ≠ (0 : Int)) (ck ((0 : Int) ≤ (r1.1.2.2.length : Int) ∧ (4 : Nat) * (r1.1.2.2.length : Int) ≤ 70368744177664) (tensor_Small (r1.1.1, (a1, List.replicate ((r1.1.2.2.length : Int)).toNat (0 : Int))) (IntKind.i64.wrap (2 + (IntKind.i64.wrap ((IntKind.u64.wrap a2).tmod 7)))) 5 6 (fun (r5 : ((List Int) × Int × List Int) × Int) => tensor_May (r1.1.1, (r1.1.2.1, r1.1.2.2)) (fun (r6 : Bool) => jn (fun (v7 : Bool) => jn (fun (v10 : Bool) => jn (fun (v13 : Bool) => Q v13) (fun J14 => if v10 = true then pedagoguelaw8_awake (fun (r15 : Bool) => J14 r15) else J14 false)) (fun J11 => if (v7 && (r5.2 == 0)) = true then tensor_Same (r5.1.1, (r5.1.2.1, r5.1.2.2)) (r1.1.1, (r1.1.2.1, r1.1.2.2)) (fun (r12 : Bool) => J11 r12) else J11 false)) (fun J8 => if r6 = true then tensor_Width (r1.1.1, (a1, List.replicate ((r1.1.2.2.length : Int)).toNat (0 : Int))) (fun (r9 : Int) => J8 (r9 == 0)) else J8 false))))))
noncomputable def pedagoguelaw8_TensorZero_ct : Tab := fun n => none
noncomputable def pedagoguelaw8_TensorZero_en : Go.Mach.Ends := fun n => match n with | 2 => some ([], [0, 1, 2]) | 6 => some ([], [1, 2, 7, 8]) | 28 => some ([], [1, 2, 7, 8, 19]) | 30 => some ([], [1, 2, 7]) | 59 => some ([], [1, 2, 7]) | 62 => some ([], [2, 7, 9]) | 116 => some ([], [6]) | 117 => some ([], [6]) | 126 => some ([], [7, 9, 10, 11]) | 254 => some ([], [6]) | 255 => some ([], [6]) | _ => none
noncomputable def pedagoguelaw8_TensorZero_b : Code := Try.f4.body.getD .skip
theorem pedagoguelaw8_TensorZero_tab : TabOk Gpedagoguelaw8_awake pedagoguelaw8_TensorZero_ct pedagoguelaw8_TensorZero_en pedagoguelaw8_TensorZero_b := by
  intro n E hn f c hs x k h
  cases hn
theorem pedagoguelaw8_TensorZero_snd (x : denS [.lf (.fz false (.int .i64)), .lf (.int .i64), .lf (.int .i64)]) (Q : List (Bool × List VV) → Prop) (h : pedagoguelaw8_TensorZero x.1 x.2.1 x.2.2.1 (fun (r : Bool) => Q (slotsA [(false, .bool)] [.n] (r, ())))) : Sound Try.prog 4 (packS [.lf (.fz false (.int .i64)), .lf (.int .i64), .lf (.int .i64)] x) Q :=
  vfun_told [.n] (G := Gpedagoguelaw8_awake) (ct := pedagoguelaw8_TensorZero_ct) (en := pedagoguelaw8_TensorZero_en) (fn := Try.f4) (cd := pedagoguelaw8_TensorZero_b) (rt := [(false, .bool)]) Try.func4 (by kernel_rfl) (by kernel_rfl) (Nat.le_of_ble_eq_true rfl) pedagoguelaw8_TensorZero_tab Opedagoguelaw8_awake_ok h (by kernel_rfl)
noncomputable def Opedagoguelaw8_TensorZero : FuncId → List VV → (List (Bool × List VV) → Prop) → Prop := fun f args Q => if f = 4 then unA [.lf (.fz false (.int .i64)), .lf (.int .i64), .lf (.int .i64)] args (fun x => pedagoguelaw8_TensorZero x.1 x.2.1 x.2.2.1 (fun (r : Bool) => Q (slotsA [(false, .bool)] [.n] (r, ())))) else Opedagoguelaw8_awake f args Q
theorem Opedagoguelaw8_TensorZero_ok : ∀ f args Q, Opedagoguelaw8_TensorZero f args Q → Sound Try.prog f args Q := tab_more Opedagoguelaw8_awake_ok (f0 := 4) [.lf (.fz false (.int .i64)), .lf (.int .i64), .lf (.int .i64)] (fun x Q => pedagoguelaw8_TensorZero x.1 x.2.1 x.2.2.1 (fun (r : Bool) => Q (slotsA [(false, .bool)] [.n] (r, ())))) pedagoguelaw8_TensorZero_snd
noncomputable def Gpedagoguelaw8_TensorZero : Cfg := ⟨Try.prog, tt, Opedagoguelaw8_TensorZero, fun _ _ _ => False⟩
end Go.Proofs.Ytlbapaelkdpjcaa
