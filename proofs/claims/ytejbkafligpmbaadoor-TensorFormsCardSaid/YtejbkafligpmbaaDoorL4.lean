/- Plain texts of functions, as the value machine comes to them. No condition. -/
import Derived.Test.YtejbkafligpmbaaDoorL3
import Derived.Test.YtejbkafligpmbaaDoorProg
import Derived.KernelRfl
namespace Go.Proofs.YtejbkafligpmbaaDoor
open Go.Mach
set_option maxRecDepth 100000
set_option linter.unusedVariables false
def pedagoguelaw8_awake  (Q : Bool → Prop) : Prop :=
  tensor_Small ([2], (0, [5, (-3)])) 8 1 1 (fun (r1 : ((List Int) × Int × List Int) × Int) => jn (fun (v2 : Bool) => jn (fun (v4 : Bool) => Q (v4 && (r1.1.2.1 == 0))) (fun J5 => if v2 = true then ck ((0 : Int) ≤ 1 ∧ 1 < (r1.1.2.2.length : Int)) (J5 ((r1.1.2.2.getD 1 0) == (-3))) else J5 false)) (fun J3 => if ((r1.2 == 0) && ((r1.1.2.2.length : Int) == 2)) = true then ck ((0 : Int) ≤ 0 ∧ 0 < (r1.1.2.2.length : Int)) (J3 ((r1.1.2.2.getD 0 0) == 5)) else J3 false))
noncomputable def pedagoguelaw8_awake_ct : Tab := fun n => none
noncomputable def pedagoguelaw8_awake_en : Go.Mach.Ends := fun n => match n with | 2 => some ([], []) | 6 => some ([], [1, 2]) | 14 => some ([], [0]) | 15 => some ([], [0]) | _ => none
noncomputable def pedagoguelaw8_awake_b : Code := Tryd.f7.body.getD .skip
theorem pedagoguelaw8_awake_tab : TabOk Gtensor_Small pedagoguelaw8_awake_ct pedagoguelaw8_awake_en pedagoguelaw8_awake_b := by
  intro n E hn f c hs x k h
  cases hn
def pedagoguelaw8_awake_sh : List Sh := []
def pedagoguelaw8_awake_d (x : denS pedagoguelaw8_awake_sh) (Q : List (Bool × List VV) → Prop) : Prop := pedagoguelaw8_awake (fun (r : Bool) => Q (slotsA [(false, .bool)] [.n] (r, ())))
theorem pedagoguelaw8_awake_snd (x : denS pedagoguelaw8_awake_sh) (Q : List (Bool × List VV) → Prop) (h : pedagoguelaw8_awake_d x Q) : Sound Tryd.prog 7 (packS pedagoguelaw8_awake_sh x) Q :=
  vfun_told [.n] (G := Gtensor_Small) (ct := pedagoguelaw8_awake_ct) (en := pedagoguelaw8_awake_en) (fn := Tryd.f7) (cd := pedagoguelaw8_awake_b) (rt := [(false, .bool)]) Tryd.func7 (by kernel_rfl) (by kernel_rfl) (Nat.le_of_ble_eq_true rfl) pedagoguelaw8_awake_tab Otensor_Small_ok h (by kernel_rfl)
noncomputable def Opedagoguelaw8_awake : FuncId → List VV → (List (Bool × List VV) → Prop) → Prop := fun f args Q => if f = 7 then unA pedagoguelaw8_awake_sh args (fun x => pedagoguelaw8_awake_d x Q) else Otensor_Small f args Q
theorem Opedagoguelaw8_awake_ok : ∀ f args Q, Opedagoguelaw8_awake f args Q → Sound Tryd.prog f args Q := tab_more Otensor_Small_ok (f0 := 7) pedagoguelaw8_awake_sh (fun x Q => pedagoguelaw8_awake_d x Q) pedagoguelaw8_awake_snd
noncomputable def Gpedagoguelaw8_awake : Cfg := ⟨Tryd.prog, tt, Opedagoguelaw8_awake, fun _ _ _ => False⟩
end Go.Proofs.YtejbkafligpmbaaDoor
