/- Plain texts of functions, as the value machine comes to them. No condition. -/
import Derived.Test.YtejbkafligpmbaaDoorN5
import Derived.Test.YtejbkafligpmbaaDoorProg
import Derived.KernelRfl
namespace Go.Proofs.YtejbkafligpmbaaDoor
open Go.Mach
set_option maxRecDepth 100000
set_option linter.unusedVariables false
def pedagoguelaw8_TensorTexts_t (a0 : (List Int) × Int × List Int) (a1 : (List Int) × Int × List Int) (Q : Bool → Prop) : Prop :=
  tensor_May (a0.1, (a0.2.1, a0.2.2)) (fun (r1 : Bool) => jn (fun (v2 : Bool) => if ((v2 || (decide (600 < (a0.2.2.length : Int)))) || (decide (600 < (a1.2.2.length : Int)))) = true then tensor_May (a0.1, (a0.2.1, a0.2.2)) (fun (r5 : Bool) => jn (fun (v6 : Bool) => jn (fun (v9 : Bool) => Q v9) (fun J10 => if v6 = true then pedagoguelaw8_awake (fun (r11 : Bool) => J10 r11) else J10 false)) (fun J7 => if r5 = true then J7 true else tensor_Text (a0.1, (a0.2.1, a0.2.2)) (fun (r8 : ByteArray) => J7 (r8.toList == (⟨#[63]⟩ : ByteArray).toList)))) else tensor_Text (a0.1, (a0.2.1, a0.2.2)) (fun (r12 : ByteArray) => tensor_Text (a1.1, (a1.2.1, a1.2.2)) (fun (r13 : ByteArray) => pedagogueref1_SameT (a0.1, (a0.2.1, a0.2.2)) (a1.1, (a1.2.1, a1.2.2)) (fun (r14 : Bool) => jn (fun (v15 : Bool) => Q v15) (fun J16 => if ((r12.toList == r13.toList) == r14) = true then pedagoguelaw8_awake (fun (r17 : Bool) => J16 r17) else J16 false))))) (fun J3 => if (!r1) = true then J3 true else tensor_May (a1.1, (a1.2.1, a1.2.2)) (fun (r4 : Bool) => J3 (!r4))))
structure pedagoguelaw8_TensorTexts (a0 : (List Int) × Int × List Int) (a1 : (List Int) × Int × List Int) (Q : Bool → Prop) : Prop where
  it : pedagoguelaw8_TensorTexts_t a0 a1 Q
noncomputable def pedagoguelaw8_TensorTexts_ct : Tab := fun n => none
noncomputable def pedagoguelaw8_TensorTexts_en : Go.Mach.Ends := fun n => match n with | 2 => some ([], [2, 3]) | 12 => some ([], [2, 3, 24]) | 14 => some ([], [4]) | 15 => some ([], [4]) | 27 => some ([], [2, 3]) | 52 => some ([], [4]) | 53 => some ([], [4]) | _ => none
noncomputable def pedagoguelaw8_TensorTexts_b : Code := Tryd.f3.body.getD .skip
theorem pedagoguelaw8_TensorTexts_tab : TabOk Gtensor_Text pedagoguelaw8_TensorTexts_ct pedagoguelaw8_TensorTexts_en pedagoguelaw8_TensorTexts_b := by
  intro n E hn f c hs x k h
  cases hn
def pedagoguelaw8_TensorTexts_sh : List Sh := [.agg [.fz false (.int .i64), .int .i64, .fz false (.int .i8)], .agg [.fz false (.int .i64), .int .i64, .fz false (.int .i8)]]
def pedagoguelaw8_TensorTexts_d (x : denS pedagoguelaw8_TensorTexts_sh) (Q : List (Bool × List VV) → Prop) : Prop := pedagoguelaw8_TensorTexts (x.1.1, (x.1.2.1, x.1.2.2.1)) (x.2.1.1, (x.2.1.2.1, x.2.1.2.2.1)) (fun (r : Bool) => Q (slotsA [(false, .bool)] [.n] (r, ())))
theorem pedagoguelaw8_TensorTexts_snd (x : denS pedagoguelaw8_TensorTexts_sh) (Q : List (Bool × List VV) → Prop) (h : pedagoguelaw8_TensorTexts_d x Q) : Sound Tryd.prog 3 (packS pedagoguelaw8_TensorTexts_sh x) Q :=
  vfun_told [.n] (G := Gtensor_Text) (ct := pedagoguelaw8_TensorTexts_ct) (en := pedagoguelaw8_TensorTexts_en) (fn := Tryd.f3) (cd := pedagoguelaw8_TensorTexts_b) (rt := [(false, .bool)]) Tryd.func3 (by kernel_rfl) (by kernel_rfl) (Nat.le_of_ble_eq_true rfl) pedagoguelaw8_TensorTexts_tab Otensor_Text_ok h.it (by kernel_rfl)
noncomputable def Opedagoguelaw8_TensorTexts : FuncId → List VV → (List (Bool × List VV) → Prop) → Prop := fun f args Q => if f = 3 then unA pedagoguelaw8_TensorTexts_sh args (fun x => pedagoguelaw8_TensorTexts_d x Q) else Otensor_Text f args Q
theorem Opedagoguelaw8_TensorTexts_ok : ∀ f args Q, Opedagoguelaw8_TensorTexts f args Q → Sound Tryd.prog f args Q := tab_more Otensor_Text_ok (f0 := 3) pedagoguelaw8_TensorTexts_sh (fun x Q => pedagoguelaw8_TensorTexts_d x Q) pedagoguelaw8_TensorTexts_snd
noncomputable def Gpedagoguelaw8_TensorTexts : Cfg := ⟨Tryd.prog, tt, Opedagoguelaw8_TensorTexts, fun _ _ _ => False⟩
end Go.Proofs.YtejbkafligpmbaaDoor
