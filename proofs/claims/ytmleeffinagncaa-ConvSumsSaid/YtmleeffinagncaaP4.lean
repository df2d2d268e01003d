/- Plain texts of functions, as the value machine comes to them. No condition. -/
import Derived.Test.YtmleeffinagncaaP3
import Derived.Test.YtmleeffinagncaaProg
import Derived.KernelRfl
namespace Go.Proofs.Ytmleeffinagncaa
open Go.Mach
set_option maxRecDepth 100000
set_option linter.unusedVariables false
def pedagogueref1_Out_t (a0 : Int) (a1 : Int) (a2 : Int) (a3 : Int) (Q : Int → Prop) : Prop :=
  if (((((((((decide (a0 < 1)) || (decide (16 < a0))) || (decide (a1 < 1))) || (decide (5 < a1))) || (decide (a2 < 1))) || (decide (4 < a2))) || (decide (a3 < 0))) || (decide (a1 ≤ a3))) || (decide ((IntKind.i64.wrap (a0 + (IntKind.i64.wrap (2 * a3)))) < a1))) = true then Q 0 else ck (a2 ≠ (0 : Int)) (Q (IntKind.i64.wrap ((IntKind.i64.wrap ((IntKind.i64.wrap ((IntKind.i64.wrap (a0 + (IntKind.i64.wrap (2 * a3)))) - a1)).tdiv a2)) + 1)))
structure pedagogueref1_Out (a0 : Int) (a1 : Int) (a2 : Int) (a3 : Int) (Q : Int → Prop) : Prop where
  it : pedagogueref1_Out_t a0 a1 a2 a3 Q
noncomputable def pedagogueref1_Out_ct : Tab := fun n => none
noncomputable def pedagogueref1_Out_en : Go.Mach.Ends := fun n => match n with | 2 => some ([], [0, 1, 2, 3]) | 12 => some ([], [0, 1, 2, 3, 47]) | 14 => some ([], [8]) | 15 => some ([], [8]) | 27 => some ([], [0, 1, 2, 3]) | 52 => some ([], [8]) | 53 => some ([], [8]) | _ => none
noncomputable def pedagogueref1_Out_b : Code := Try.f11.body.getD .skip
theorem pedagogueref1_Out_tab : TabOk Gconv_Forward pedagogueref1_Out_ct pedagogueref1_Out_en pedagogueref1_Out_b := by
  intro n E hn f c hs x k h
  cases hn
theorem pedagogueref1_Out_snd (x : denS [.lf (.int .i64), .lf (.int .i64), .lf (.int .i64), .lf (.int .i64)]) (Q : List (Bool × List VV) → Prop) (h : pedagogueref1_Out x.1 x.2.1 x.2.2.1 x.2.2.2.1 (fun (r : Int) => Q (slotsA [(false, (.int .i64))] [.n] (r, ())))) : Sound Try.prog 11 (packS [.lf (.int .i64), .lf (.int .i64), .lf (.int .i64), .lf (.int .i64)] x) Q :=
  vfun_told [.n] (G := Gconv_Forward) (ct := pedagogueref1_Out_ct) (en := pedagogueref1_Out_en) (fn := Try.f11) (cd := pedagogueref1_Out_b) (rt := [(false, (.int .i64))]) Try.func11 (by kernel_rfl) (by kernel_rfl) (Nat.le_of_ble_eq_true rfl) pedagogueref1_Out_tab Oconv_Forward_ok h.it (by kernel_rfl)
noncomputable def Opedagogueref1_Out : FuncId → List VV → (List (Bool × List VV) → Prop) → Prop := fun f args Q => if f = 11 then unA [.lf (.int .i64), .lf (.int .i64), .lf (.int .i64), .lf (.int .i64)] args (fun x => pedagogueref1_Out x.1 x.2.1 x.2.2.1 x.2.2.2.1 (fun (r : Int) => Q (slotsA [(false, (.int .i64))] [.n] (r, ())))) else Oconv_Forward f args Q
theorem Opedagogueref1_Out_ok : ∀ f args Q, Opedagogueref1_Out f args Q → Sound Try.prog f args Q := tab_more Oconv_Forward_ok (f0 := 11) [.lf (.int .i64), .lf (.int .i64), .lf (.int .i64), .lf (.int .i64)] (fun x Q => pedagogueref1_Out x.1 x.2.1 x.2.2.1 x.2.2.2.1 (fun (r : Int) => Q (slotsA [(false, (.int .i64))] [.n] (r, ())))) pedagogueref1_Out_snd
noncomputable def Gpedagogueref1_Out : Cfg := ⟨Try.prog, tt, Opedagogueref1_Out, fun _ _ _ => False⟩
def pedagogueref1_MayDims_n0_B (x1 : List Int) (x2 : Int) (K0 : Unit → Prop) (K1 : Unit → Prop) (s : Int × Int) (nx : (Int × Int) → Prop) : Prop :=
  if (decide (s.2 < x2)) = true then ck ((0 : Int) ≤ s.2 ∧ s.2 < (x1.length : Int)) (jn (fun (v1 : Bool) => if v1 = true then K1 () else nx (IntKind.i64.wrap (s.1 * (x1.getD ((s.2).toNat) 0)), IntKind.i64.wrap (s.2 + 1))) (fun J2 => if ((decide ((x1.getD ((s.2).toNat) 0) < 1)) || (decide (4096 < (x1.getD ((s.2).toNat) 0)))) = true then J2 true else ck ((x1.getD ((s.2).toNat) 0) ≠ (0 : Int)) (J2 (decide ((IntKind.i64.wrap (((8192 : Int)).tdiv (x1.getD ((s.2).toNat) 0))) < s.1))))) else K0 ()
structure pedagogueref1_MayDims_n0 (x1 : List Int) (x2 : Int) (K0 : Unit → Prop) (K1 : Unit → Prop) (s : Int × Int) : Prop where
  it : Go.Mach.Loop (pedagogueref1_MayDims_n0_B x1 x2 K0 K1) s
def pedagogueref1_MayDims_t (a0 : List Int) (Q : Bool → Prop) : Prop :=
  if ((decide ((a0.length : Int) < 1)) || (decide (4 < (a0.length : Int)))) = true then Q false else pedagogueref1_MayDims_n0 a0 (a0.length : Int) (fun (y3 : Unit) => Q true) (fun (y4 : Unit) => Q false) (1, 0)
structure pedagogueref1_MayDims (a0 : List Int) (Q : Bool → Prop) : Prop where
  it : pedagogueref1_MayDims_t a0 Q
noncomputable def pedagogueref1_MayDims_e0 : Ent := ⟨[3, 14, 15, 16], [.lf (.int .i64), .lf (.fz false (.int .i64)), .lf (.int .i64), .lf (.int .i64)], [], fun x k => pedagogueref1_MayDims_n0 x.1.2.1 x.1.2.2.1 (fun (y5 : Unit) => k (.exit 0) ⟨[], []⟩) (fun (y6 : Unit) => k .ret ⟨[(2, .pl (.bool false))], []⟩) (x.1.1, x.1.2.2.2.1)⟩
noncomputable def pedagogueref1_MayDims_ct : Tab := fun n => match n with | 122 => some pedagogueref1_MayDims_e0 | _ => none
noncomputable def pedagogueref1_MayDims_en : Go.Mach.Ends := fun n => match n with | 2 => some ([], [0]) | 12 => some ([], [0, 13]) | 14 => some ([], [0, 3]) | 27 => some ([], [0]) | 52 => some ([], [2]) | 53 => some ([], [2]) | 60 => some ([], [3, 14, 15, 16]) | 62 => some ([], [2]) | 63 => some ([], [2]) | 122 => some ([], [3, 14, 15, 16]) | 488 => some ([], [3, 14, 15, 16, 17]) | 1956 => some ([], [3, 14, 15, 16]) | 1957 => some ([], []) | 1959 => some ([], [3, 14, 15, 16]) | 7832 => some ([], [3, 5, 14, 15, 16]) | 15667 => some ([], [3, 14, 15, 16]) | 31332 => some ([], [3, 5, 14, 15, 16, 31]) | 62667 => some ([], [3, 5, 14, 15, 16]) | 125332 => some ([], [2]) | 125333 => some ([], [2]) | _ => none
noncomputable def pedagogueref1_MayDims_b : Code := Try.f42.body.getD .skip
theorem pedagogueref1_MayDims_tab : TabOk Gpedagogueref1_Out pedagogueref1_MayDims_ct pedagogueref1_MayDims_en pedagogueref1_MayDims_b := by
  intro n E hn f c hs x k h
  unfold pedagogueref1_MayDims_ct at hn
  split at hn
  · cases hn
    have e := subC_det hs (show subC 70 pedagogueref1_MayDims_b 122 = some ((subC 70 pedagogueref1_MayDims_b 122).getD .skip) by kernel_rfl)
    subst e
    exact tab_loop (b := (subC 70 pedagogueref1_MayDims_b 244).getD .skip) (by kernel_rfl) (fun y : Int × Int => ⟨[(3, .pl (.int .i64 y.1)), (14, .fz false (.int .i64) x.1.2.1), (15, .pl (.int .i64 x.1.2.2.1)), (16, .pl (.int .i64 y.2))], []⟩) (x.1.1, x.1.2.2.2.1) (by kernel_rfl) (fun y X => by kernel_rfl) h.it
  · cases hn
theorem pedagogueref1_MayDims_snd (x : denS [.lf (.fz false (.int .i64))]) (Q : List (Bool × List VV) → Prop) (h : pedagogueref1_MayDims x.1 (fun (r : Bool) => Q (slotsA [(false, .bool)] [.n] (r, ())))) : Sound Try.prog 42 (packS [.lf (.fz false (.int .i64))] x) Q :=
  vfun_told [.n] (G := Gpedagogueref1_Out) (ct := pedagogueref1_MayDims_ct) (en := pedagogueref1_MayDims_en) (fn := Try.f42) (cd := pedagogueref1_MayDims_b) (rt := [(false, .bool)]) Try.func42 (by kernel_rfl) (by kernel_rfl) (Nat.le_of_ble_eq_true rfl) pedagogueref1_MayDims_tab Opedagogueref1_Out_ok h.it (by kernel_rfl)
noncomputable def Opedagogueref1_MayDims : FuncId → List VV → (List (Bool × List VV) → Prop) → Prop := fun f args Q => if f = 42 then unA [.lf (.fz false (.int .i64))] args (fun x => pedagogueref1_MayDims x.1 (fun (r : Bool) => Q (slotsA [(false, .bool)] [.n] (r, ())))) else Opedagogueref1_Out f args Q
theorem Opedagogueref1_MayDims_ok : ∀ f args Q, Opedagogueref1_MayDims f args Q → Sound Try.prog f args Q := tab_more Opedagogueref1_Out_ok (f0 := 42) [.lf (.fz false (.int .i64))] (fun x Q => pedagogueref1_MayDims x.1 (fun (r : Bool) => Q (slotsA [(false, .bool)] [.n] (r, ())))) pedagogueref1_MayDims_snd
noncomputable def Gpedagogueref1_MayDims : Cfg := ⟨Try.prog, tt, Opedagogueref1_MayDims, fun _ _ _ => False⟩
def pedagogueref1_Size_n0_B (x1 : List Int) (x2 : Int) (K0 : Int → Prop) (s : Int × Int) (nx : (Int × Int) → Prop) : Prop :=
  if (decide (s.2 < x2)) = true then ck ((0 : Int) ≤ s.2 ∧ s.2 < (x1.length : Int)) (nx (IntKind.i64.wrap (s.1 * (x1.getD ((s.2).toNat) 0)), IntKind.i64.wrap (s.2 + 1))) else K0 s.1
structure pedagogueref1_Size_n0 (x1 : List Int) (x2 : Int) (K0 : Int → Prop) (s : Int × Int) : Prop where
  it : Go.Mach.Loop (pedagogueref1_Size_n0_B x1 x2 K0) s
def pedagogueref1_Size_t (a0 : List Int) (Q : Int → Prop) : Prop :=
  pedagogueref1_MayDims a0 (fun (r1 : Bool) => if (!r1) = true then Q 0 else pedagogueref1_Size_n0 a0 (a0.length : Int) (fun (y2 : Int) => Q y2) (1, 0))
structure pedagogueref1_Size (a0 : List Int) (Q : Int → Prop) : Prop where
  it : pedagogueref1_Size_t a0 Q
noncomputable def pedagogueref1_Size_e0 : Ent := ⟨[3, 9, 10, 11], [.lf (.int .i64), .lf (.fz false (.int .i64)), .lf (.int .i64), .lf (.int .i64)], [], fun x k => pedagogueref1_Size_n0 x.1.2.1 x.1.2.2.1 (fun (y3 : Int) => k (.exit 0) ⟨[(3, .pl (.int .i64 y3))], []⟩) (x.1.1, x.1.2.2.2.1)⟩
noncomputable def pedagogueref1_Size_ct : Tab := fun n => match n with | 122 => some pedagogueref1_Size_e0 | _ => none
noncomputable def pedagogueref1_Size_en : Go.Mach.Ends := fun n => match n with | 2 => some ([], [0]) | 12 => some ([], [0, 8]) | 14 => some ([], [0, 3]) | 27 => some ([], [0]) | 52 => some ([], [2]) | 53 => some ([], [2]) | 60 => some ([], [3, 9, 10, 11]) | 62 => some ([], [2]) | 63 => some ([], [2]) | 122 => some ([], [3, 9, 10, 11]) | 488 => some ([], [3, 9, 10, 11, 12]) | 1956 => some ([], [3, 9, 10, 11]) | 1957 => some ([], [3]) | 1959 => some ([], [3, 9, 10, 11]) | 7832 => some ([], [3, 5, 9, 10, 11]) | 7833 => some ([], [3, 9, 10, 11]) | _ => none
noncomputable def pedagogueref1_Size_b : Code := Try.f23.body.getD .skip
theorem pedagogueref1_Size_tab : TabOk Gpedagogueref1_MayDims pedagogueref1_Size_ct pedagogueref1_Size_en pedagogueref1_Size_b := by
  intro n E hn f c hs x k h
  unfold pedagogueref1_Size_ct at hn
  split at hn
  · cases hn
    have e := subC_det hs (show subC 70 pedagogueref1_Size_b 122 = some ((subC 70 pedagogueref1_Size_b 122).getD .skip) by kernel_rfl)
    subst e
    exact tab_loop (b := (subC 70 pedagogueref1_Size_b 244).getD .skip) (by kernel_rfl) (fun y : Int × Int => ⟨[(3, .pl (.int .i64 y.1)), (9, .fz false (.int .i64) x.1.2.1), (10, .pl (.int .i64 x.1.2.2.1)), (11, .pl (.int .i64 y.2))], []⟩) (x.1.1, x.1.2.2.2.1) (by kernel_rfl) (fun y X => by kernel_rfl) h.it
  · cases hn
theorem pedagogueref1_Size_snd (x : denS [.lf (.fz false (.int .i64))]) (Q : List (Bool × List VV) → Prop) (h : pedagogueref1_Size x.1 (fun (r : Int) => Q (slotsA [(false, (.int .i64))] [.n] (r, ())))) : Sound Try.prog 23 (packS [.lf (.fz false (.int .i64))] x) Q :=
  vfun_told [.n] (G := Gpedagogueref1_MayDims) (ct := pedagogueref1_Size_ct) (en := pedagogueref1_Size_en) (fn := Try.f23) (cd := pedagogueref1_Size_b) (rt := [(false, (.int .i64))]) Try.func23 (by kernel_rfl) (by kernel_rfl) (Nat.le_of_ble_eq_true rfl) pedagogueref1_Size_tab Opedagogueref1_MayDims_ok h.it (by kernel_rfl)
noncomputable def Opedagogueref1_Size : FuncId → List VV → (List (Bool × List VV) → Prop) → Prop := fun f args Q => if f = 23 then unA [.lf (.fz false (.int .i64))] args (fun x => pedagogueref1_Size x.1 (fun (r : Int) => Q (slotsA [(false, (.int .i64))] [.n] (r, ())))) else Opedagogueref1_MayDims f args Q
theorem Opedagogueref1_Size_ok : ∀ f args Q, Opedagogueref1_Size f args Q → Sound Try.prog f args Q := tab_more Opedagogueref1_MayDims_ok (f0 := 23) [.lf (.fz false (.int .i64))] (fun x Q => pedagogueref1_Size x.1 (fun (r : Int) => Q (slotsA [(false, (.int .i64))] [.n] (r, ())))) pedagogueref1_Size_snd
noncomputable def Gpedagogueref1_Size : Cfg := ⟨Try.prog, tt, Opedagogueref1_Size, fun _ _ _ => False⟩
def pedagoguelaw11_tensorOf_n1_t (x2 : Int) (K0 : Int → Prop) : Prop :=
  K0 (IntKind.i64.wrap (x2 + 1))
structure pedagoguelaw11_tensorOf_n1 (x2 : Int) (K0 : Int → Prop) : Prop where
  it : pedagoguelaw11_tensorOf_n1_t x2 K0
def pedagoguelaw11_tensorOf_n0_B (x0 : List Int) (x1 : Int) (K0 : (List Int) → Prop) (s : Int × List Int) (nx : (Int × List Int) → Prop) : Prop :=
  if (decide (s.1 < x1)) = true then jn (fun (v2 : Bool) => if v2 = true then ck ((0 : Int) ≤ s.1 ∧ s.1 < (x0.length : Int)) (ck ((0 : Int) ≤ s.1 ∧ s.1 < (s.2.length : Int)) (pedagoguelaw11_tensorOf_n1 s.1 (fun (y4 : Int) => nx (y4, (s.2.set ((s.1).toNat) (x0.getD ((s.1).toNat) 0)))))) else pedagoguelaw11_tensorOf_n1 s.1 (fun (y5 : Int) => nx (y5, s.2))) (fun J3 => if (decide (s.1 < (x0.length : Int))) = true then ck ((0 : Int) ≤ s.1 ∧ s.1 < (x0.length : Int)) (J3 ((x0.getD ((s.1).toNat) 0) != (-128))) else J3 false) else K0 s.2
structure pedagoguelaw11_tensorOf_n0 (x0 : List Int) (x1 : Int) (K0 : (List Int) → Prop) (s : Int × List Int) : Prop where
  it : Go.Mach.Loop (pedagoguelaw11_tensorOf_n0_B x0 x1 K0) s
def pedagoguelaw11_tensorOf_t (a0 : List Int) (a1 : List Int) (Q : ((List Int) × Int × List Int) → Prop) : Prop :=
  ck ((([] : List Int).length + a1.length) * 8 ≤ 140737488355328) (pedagogueref1_Size a1 (fun (r1 : Int) => ck ((0 : Int) ≤ r1 ∧ (1 : Nat) * r1 ≤ 70368744177664) (pedagoguelaw11_tensorOf_n0 a0 ((List.replicate (r1).toNat (0 : Int)).length : Int) (fun (y6 : List Int) => Q ((([] : List Int) ++ a1), (0, y6))) (0, List.replicate (r1).toNat (0 : Int)))))
structure pedagoguelaw11_tensorOf (a0 : List Int) (a1 : List Int) (Q : ((List Int) × Int × List Int) → Prop) : Prop where
  it : pedagoguelaw11_tensorOf_t a0 a1 Q
noncomputable def pedagoguelaw11_tensorOf_e0 : Ent := ⟨[0, 4, 5, 16, 17], [.lf (.fz false (.int .i8)), .lf (.cst (.ptr 0 0)), .lf (.cst (.ptr 1 0)), .lf (.int .i64), .lf (.int .i64)], [.box [.cst (.pl (.slice none 0 0)), .int .i64, .cst (.pl (.slice none 0 0))] false, .box [.cst (.own 2), .int .i64, .cst (.own 3)] false, .lst true (.int .i64) false, .lst true (.int .i8) false], fun x k => pedagoguelaw11_tensorOf_n0 x.1.1 x.1.2.2.2.1 (fun (y7 : List Int) => k (.exit 0) ⟨[(4, .ptr 0 0), (5, .ptr 1 0)], [.box [.pl (.slice none 0 0), .pl (.int .i64 x.2.1.2.1), .pl (.slice none 0 0)] false, .box [.own 2, .pl (.int .i64 x.2.2.1.2.1), .own 3] false, .lst true (.int .i64) x.2.2.2.1 false, .lst true (.int .i8) y7 false]⟩) (x.1.2.2.2.2.1, x.2.2.2.2.1)⟩
noncomputable def pedagoguelaw11_tensorOf_e1 : Ent := ⟨[0, 4, 5, 16, 17], [.lf (.fz false (.int .i8)), .lf (.cst (.ptr 0 0)), .lf (.cst (.ptr 1 0)), .lf (.int .i64), .lf (.int .i64)], [.box [.cst (.pl (.slice none 0 0)), .int .i64, .cst (.pl (.slice none 0 0))] false, .box [.cst (.own 2), .int .i64, .cst (.own 3)] false, .lst true (.int .i64) false, .lst true (.int .i8) false], fun x k => pedagoguelaw11_tensorOf_n1 x.1.2.2.2.2.1 (fun (y8 : Int) => k .normal ⟨[(0, .fz false (.int .i8) x.1.1), (4, .ptr 0 0), (5, .ptr 1 0), (16, .pl (.int .i64 x.1.2.2.2.1)), (17, .pl (.int .i64 y8))], [.box [.pl (.slice none 0 0), .pl (.int .i64 x.2.1.2.1), .pl (.slice none 0 0)] false, .box [.own 2, .pl (.int .i64 x.2.2.1.2.1), .own 3] false, .lst true (.int .i64) x.2.2.2.1 false, .lst true (.int .i8) x.2.2.2.2.1 false]⟩)⟩
noncomputable def pedagoguelaw11_tensorOf_ct : Tab := fun n => match n with | 58 => some pedagoguelaw11_tensorOf_e0 | 935 => some pedagoguelaw11_tensorOf_e1 | _ => none
noncomputable def pedagoguelaw11_tensorOf_en : Go.Mach.Ends := fun n => match n with | 2 => some ([], [0, 1, 4]) | 6 => some ([], [0, 4, 5]) | 28 => some ([], [0, 4, 5, 16, 17]) | 30 => some ([], [4]) | 31 => some ([], [4]) | 58 => some ([], [0, 4, 5, 16, 17]) | 232 => some ([], [0, 4, 5, 16, 17, 18]) | 932 => some ([], [0, 4, 5, 16, 17]) | 933 => some ([], [4, 5]) | 935 => some ([], [0, 4, 5, 16, 17]) | 3736 => some ([], [0, 4, 5, 6, 16, 17]) | 7474 => some ([], [0, 4, 5, 6, 16, 17, 30]) | 14950 => some ([], [0, 4, 5, 16, 17]) | 14951 => some ([], [0, 4, 5, 16, 17]) | _ => none
noncomputable def pedagoguelaw11_tensorOf_b : Code := Try.f9.body.getD .skip
theorem pedagoguelaw11_tensorOf_tab : TabOk Gpedagogueref1_Size pedagoguelaw11_tensorOf_ct pedagoguelaw11_tensorOf_en pedagoguelaw11_tensorOf_b := by
  intro n E hn f c hs x k h
  unfold pedagoguelaw11_tensorOf_ct at hn
  split at hn
  · cases hn
    have e := subC_det hs (show subC 70 pedagoguelaw11_tensorOf_b 58 = some ((subC 70 pedagoguelaw11_tensorOf_b 58).getD .skip) by kernel_rfl)
    subst e
    exact tab_loop (b := (subC 70 pedagoguelaw11_tensorOf_b 116).getD .skip) (by kernel_rfl) (fun y : Int × List Int => ⟨[(0, .fz false (.int .i8) x.1.1), (4, .ptr 0 0), (5, .ptr 1 0), (16, .pl (.int .i64 x.1.2.2.2.1)), (17, .pl (.int .i64 y.1))], [.box [.pl (.slice none 0 0), .pl (.int .i64 x.2.1.2.1), .pl (.slice none 0 0)] false, .box [.own 2, .pl (.int .i64 x.2.2.1.2.1), .own 3] false, .lst true (.int .i64) x.2.2.2.1 false, .lst true (.int .i8) y.2 false]⟩) (x.1.2.2.2.2.1, x.2.2.2.2.1) (by kernel_rfl) (fun y X => by kernel_rfl) h.it
  · cases hn
    have e := subC_det hs (show subC 70 pedagoguelaw11_tensorOf_b 935 = some ((subC 70 pedagoguelaw11_tensorOf_b 935).getD .skip) by kernel_rfl)
    subst e
    exact tab_node h.it (by kernel_rfl)
  · cases hn
theorem pedagoguelaw11_tensorOf_snd (x : denS [.lf (.fz false (.int .i8)), .lf (.fz false (.int .i64))]) (Q : List (Bool × List VV) → Prop) (h : pedagoguelaw11_tensorOf x.1 x.2.1 (fun (r : (List Int) × Int × List Int) => Q (slotsA [(true, (.pair (.slc (.int .i64)) (.pair (.int .i64) (.slc (.int .i8)))))] [.n] (r, ())))) : Sound Try.prog 9 (packS [.lf (.fz false (.int .i8)), .lf (.fz false (.int .i64))] x) Q :=
  vfun_told [.n] (G := Gpedagogueref1_Size) (ct := pedagoguelaw11_tensorOf_ct) (en := pedagoguelaw11_tensorOf_en) (fn := Try.f9) (cd := pedagoguelaw11_tensorOf_b) (rt := [(true, (.pair (.slc (.int .i64)) (.pair (.int .i64) (.slc (.int .i8)))))]) Try.func9 (by kernel_rfl) (by kernel_rfl) (Nat.le_of_ble_eq_true rfl) pedagoguelaw11_tensorOf_tab Opedagogueref1_Size_ok h.it (by kernel_rfl)
noncomputable def Opedagoguelaw11_tensorOf : FuncId → List VV → (List (Bool × List VV) → Prop) → Prop := fun f args Q => if f = 9 then unA [.lf (.fz false (.int .i8)), .lf (.fz false (.int .i64))] args (fun x => pedagoguelaw11_tensorOf x.1 x.2.1 (fun (r : (List Int) × Int × List Int) => Q (slotsA [(true, (.pair (.slc (.int .i64)) (.pair (.int .i64) (.slc (.int .i8)))))] [.n] (r, ())))) else Opedagogueref1_Size f args Q
theorem Opedagoguelaw11_tensorOf_ok : ∀ f args Q, Opedagoguelaw11_tensorOf f args Q → Sound Try.prog f args Q := tab_more Opedagogueref1_Size_ok (f0 := 9) [.lf (.fz false (.int .i8)), .lf (.fz false (.int .i64))] (fun x Q => pedagoguelaw11_tensorOf x.1 x.2.1 (fun (r : (List Int) × Int × List Int) => Q (slotsA [(true, (.pair (.slc (.int .i64)) (.pair (.int .i64) (.slc (.int .i8)))))] [.n] (r, ())))) pedagoguelaw11_tensorOf_snd
noncomputable def Gpedagoguelaw11_tensorOf : Cfg := ⟨Try.prog, tt, Opedagoguelaw11_tensorOf, fun _ _ _ => False⟩
def pedagoguelaw11_awake_t  (Q : Bool → Prop) : Prop :=
  conv_Forward ([1, 1, 2, 2], (0, [1, 2, 3, 4])) ([1, 1, 2, 2], (0, [1, 0, 0, 1])) ([1], (0, [0])) 1 0 (fun (r1 : ((List Int) × Int × List Int) × Int) => jn (fun (v2 : Bool) => Q v2) (fun J3 => if ((r1.2 == 0) && ((r1.1.2.2.length : Int) == 1)) = true then ck ((0 : Int) ≤ 0 ∧ 0 < (r1.1.2.2.length : Int)) (J3 ((r1.1.2.2.getD 0 0) == 5)) else J3 false))
structure pedagoguelaw11_awake  (Q : Bool → Prop) : Prop where
  it : pedagoguelaw11_awake_t  Q
noncomputable def pedagoguelaw11_awake_ct : Tab := fun n => none
noncomputable def pedagoguelaw11_awake_en : Go.Mach.Ends := fun n => match n with | 2 => some ([], []) | 6 => some ([], [1]) | 14 => some ([], [1, 2]) | 30 => some ([], [3, 4]) | 62 => some ([], [0]) | 63 => some ([], [0]) | _ => none
noncomputable def pedagoguelaw11_awake_b : Code := Try.f12.body.getD .skip
theorem pedagoguelaw11_awake_tab : TabOk Gpedagoguelaw11_tensorOf pedagoguelaw11_awake_ct pedagoguelaw11_awake_en pedagoguelaw11_awake_b := by
  intro n E hn f c hs x k h
  cases hn
theorem pedagoguelaw11_awake_snd (x : denS []) (Q : List (Bool × List VV) → Prop) (h : pedagoguelaw11_awake (fun (r : Bool) => Q (slotsA [(false, .bool)] [.n] (r, ())))) : Sound Try.prog 12 (packS [] x) Q :=
  vfun_told [.n] (G := Gpedagoguelaw11_tensorOf) (ct := pedagoguelaw11_awake_ct) (en := pedagoguelaw11_awake_en) (fn := Try.f12) (cd := pedagoguelaw11_awake_b) (rt := [(false, .bool)]) Try.func12 (by kernel_rfl) (by kernel_rfl) (Nat.le_of_ble_eq_true rfl) pedagoguelaw11_awake_tab Opedagoguelaw11_tensorOf_ok h.it (by kernel_rfl)
noncomputable def Opedagoguelaw11_awake : FuncId → List VV → (List (Bool × List VV) → Prop) → Prop := fun f args Q => if f = 12 then unA [] args (fun x => pedagoguelaw11_awake (fun (r : Bool) => Q (slotsA [(false, .bool)] [.n] (r, ())))) else Opedagoguelaw11_tensorOf f args Q
theorem Opedagoguelaw11_awake_ok : ∀ f args Q, Opedagoguelaw11_awake f args Q → Sound Try.prog f args Q := tab_more Opedagoguelaw11_tensorOf_ok (f0 := 12) [] (fun x Q => pedagoguelaw11_awake (fun (r : Bool) => Q (slotsA [(false, .bool)] [.n] (r, ())))) pedagoguelaw11_awake_snd
noncomputable def Gpedagoguelaw11_awake : Cfg := ⟨Try.prog, tt, Opedagoguelaw11_awake, fun _ _ _ => False⟩
def pedagoguelaw11_ConvMoves_n1_B (x0 : Int) (x1 : Int) (x2 : Int) (x3 : Int) (x4 : Int) (x7 : List Int) (x9 : List Int) (K0 : Unit → Prop) (K1 : Unit → Prop) (s : Int) (nx : Int → Prop) : Prop :=
  if (decide (s < x4)) = true then ck ((0 : Int) ≤ s ∧ s < (x7.length : Int)) (ck (x3 ≠ (0 : Int)) (ck (x3 ≠ (0 : Int)) (ck ((0 : Int) ≤ (IntKind.i64.wrap ((IntKind.i64.wrap ((IntKind.i64.wrap ((IntKind.i64.wrap ((IntKind.i64.wrap ((s).tdiv x3)) + x1)) * x0)) + ((s).tmod x3))) + x2)) ∧ (IntKind.i64.wrap ((IntKind.i64.wrap ((IntKind.i64.wrap ((IntKind.i64.wrap ((IntKind.i64.wrap ((s).tdiv x3)) + x1)) * x0)) + ((s).tmod x3))) + x2)) < (x9.length : Int)) (if ((x7.getD ((s).toNat) 0) != (IntKind.i32.wrap (x9.getD ((IntKind.i64.wrap ((IntKind.i64.wrap ((IntKind.i64.wrap ((IntKind.i64.wrap ((IntKind.i64.wrap ((s).tdiv x3)) + x1)) * x0)) + ((s).tmod x3))) + x2)).toNat) 0))) = true then K1 () else nx (IntKind.i64.wrap (s + 1)))))) else K0 ()
structure pedagoguelaw11_ConvMoves_n1 (x0 : Int) (x1 : Int) (x2 : Int) (x3 : Int) (x4 : Int) (x7 : List Int) (x9 : List Int) (K0 : Unit → Prop) (K1 : Unit → Prop) (s : Int) : Prop where
  it : Go.Mach.Loop (pedagoguelaw11_ConvMoves_n1_B x0 x1 x2 x3 x4 x7 x9 K0 K1) s
def pedagoguelaw11_ConvMoves_n0_t (x0 : Int) (x1 : Int) (x2 : Int) (x3 : Int) (x4 : Int) (x5 : Int) (x6 : Int) (x7 : List Int) (x8 : List Int) (x9 : List Int) (x10 : List Int) (x11 : List Int) (x12 : List Int) (K0 : Bool → Prop) : Prop :=
  ck ((0 : Int) ≤ (IntKind.i64.wrap ((IntKind.i64.wrap (x2 * x1)) + x3)) ∧ (IntKind.i64.wrap ((IntKind.i64.wrap (x2 * x1)) + x3)) < (x10.length : Int)) (conv_Forward (x7, (x4, x8)) (x9, (x5, x10.set ((IntKind.i64.wrap ((IntKind.i64.wrap (x2 * x1)) + x3)).toNat) 1)) (x11, (x6, x12)) 1 0 (fun (r4 : ((List Int) × Int × List Int) × Int) => pedagogueref1_Out x0 x1 1 0 (fun (r5 : Int) => if ((r4.2 != 0) || ((r4.1.2.2.length : Int) != (IntKind.i64.wrap (r5 * r5)))) = true then K0 false else pedagoguelaw11_ConvMoves_n1 x0 x2 x3 r5 (r4.1.2.2.length : Int) r4.1.2.2 x8 (fun (y6 : Unit) => pedagoguelaw11_awake (fun (r7 : Bool) => K0 r7)) (fun (y8 : Unit) => K0 false) 0)))
structure pedagoguelaw11_ConvMoves_n0 (x0 : Int) (x1 : Int) (x2 : Int) (x3 : Int) (x4 : Int) (x5 : Int) (x6 : Int) (x7 : List Int) (x8 : List Int) (x9 : List Int) (x10 : List Int) (x11 : List Int) (x12 : List Int) (K0 : Bool → Prop) : Prop where
  it : pedagoguelaw11_ConvMoves_n0_t x0 x1 x2 x3 x4 x5 x6 x7 x8 x9 x10 x11 x12 K0
def pedagoguelaw11_ConvMoves_t (a0 : List Int) (a1 : Int) (a2 : Int) (a3 : Int) (a4 : Int) (Q : Bool → Prop) : Prop :=
  ck (5 ≠ (0 : Int)) (ck (3 ≠ (0 : Int)) (ck ((IntKind.u64.wrap (IntKind.i64.wrap (1 + (IntKind.i64.wrap ((IntKind.u64.wrap a2).tmod 3))))) ≠ (0 : Int)) (ck ((IntKind.u64.wrap (IntKind.i64.wrap (1 + (IntKind.i64.wrap ((IntKind.u64.wrap a2).tmod 3))))) ≠ (0 : Int)) (pedagoguelaw11_tensorOf a0 [1, 1, IntKind.i64.wrap (3 + (IntKind.i64.wrap ((IntKind.u64.wrap a1).tmod 5))), IntKind.i64.wrap (3 + (IntKind.i64.wrap ((IntKind.u64.wrap a1).tmod 5)))] (fun (r1 : (List Int) × Int × List Int) => pedagoguelaw11_tensorOf ([] : List Int) [1, 1, IntKind.i64.wrap (1 + (IntKind.i64.wrap ((IntKind.u64.wrap a2).tmod 3))), IntKind.i64.wrap (1 + (IntKind.i64.wrap ((IntKind.u64.wrap a2).tmod 3)))] (fun (r2 : (List Int) × Int × List Int) => pedagoguelaw11_tensorOf ([] : List Int) [1] (fun (r3 : (List Int) × Int × List Int) => pedagoguelaw11_ConvMoves_n0 (IntKind.i64.wrap (3 + (IntKind.i64.wrap ((IntKind.u64.wrap a1).tmod 5)))) (IntKind.i64.wrap (1 + (IntKind.i64.wrap ((IntKind.u64.wrap a2).tmod 3)))) (IntKind.i64.wrap ((IntKind.u64.wrap a3).tmod (IntKind.u64.wrap (IntKind.i64.wrap (1 + (IntKind.i64.wrap ((IntKind.u64.wrap a2).tmod 3))))))) (IntKind.i64.wrap ((IntKind.u64.wrap a4).tmod (IntKind.u64.wrap (IntKind.i64.wrap (1 + (IntKind.i64.wrap ((IntKind.u64.wrap a2).tmod 3))))))) r1.2.1 r2.2.1 r3.2.1 r1.1 r1.2.2 r2.1 r2.2.2 r3.1 r3.2.2 (fun (y9 : Bool) => Q y9))))))))
structure pedagoguelaw11_ConvMoves (a0 : List Int) (a1 : Int) (a2 : Int) (a3 : Int) (a4 : Int) (Q : Bool → Prop) : Prop where
  it : pedagoguelaw11_ConvMoves_t a0 a1 a2 a3 a4 Q
noncomputable def pedagoguelaw11_ConvMoves_e0 : Ent := ⟨[1, 2, 3, 4, 11, 12, 13], [.lf (.int .i64), .lf (.int .i64), .lf (.int .i64), .lf (.int .i64), .lf (.cst (.ptr 0 0)), .lf (.cst (.ptr 1 0)), .lf (.cst (.ptr 2 0))], [.box [.cst (.own 3), .int .i64, .cst (.own 4)] false, .box [.cst (.own 5), .int .i64, .cst (.own 6)] false, .box [.cst (.own 7), .int .i64, .cst (.own 8)] false, .lst true (.int .i64) false, .lst true (.int .i8) false, .lst true (.int .i64) false, .lst true (.int .i8) false, .lst true (.int .i64) false, .lst true (.int .i8) false], fun x k => pedagoguelaw11_ConvMoves_n0 x.1.1 x.1.2.1 x.1.2.2.1 x.1.2.2.2.1 x.2.1.2.1 x.2.2.1.2.1 x.2.2.2.1.2.1 x.2.2.2.2.1 x.2.2.2.2.2.1 x.2.2.2.2.2.2.1 x.2.2.2.2.2.2.2.1 x.2.2.2.2.2.2.2.2.1 x.2.2.2.2.2.2.2.2.2.1 (fun (y10 : Bool) => k .ret ⟨[(10, .pl (.bool y10))], []⟩)⟩
noncomputable def pedagoguelaw11_ConvMoves_e1 : Ent := ⟨[1, 3, 4, 11, 16, 82, 83, 84], [.lf (.int .i64), .lf (.int .i64), .lf (.int .i64), .lf (.cst (.ptr 0 0)), .lf (.int .i64), .lf (.cst (.own 1)), .lf (.int .i64), .lf (.int .i64)], [.box [.cst (.own 2), .int .i64, .cst (.own 3)] false, .lst true (.int .i32) false, .lst true (.int .i64) true, .lst true (.int .i8) true], fun x k => pedagoguelaw11_ConvMoves_n1 x.1.1 x.1.2.1 x.1.2.2.1 x.1.2.2.2.2.1 x.1.2.2.2.2.2.2.1 x.2.2.1 x.2.2.2.2.1 (fun (y11 : Unit) => k (.exit 0) ⟨[], []⟩) (fun (y12 : Unit) => k .ret ⟨[(10, .pl (.bool false))], []⟩) x.1.2.2.2.2.2.2.2.1⟩
noncomputable def pedagoguelaw11_ConvMoves_ct : Tab := fun n => match n with | 31 => some pedagoguelaw11_ConvMoves_e0 | 4090 => some pedagoguelaw11_ConvMoves_e1 | _ => none
noncomputable def pedagoguelaw11_ConvMoves_en : Go.Mach.Ends := fun n => match n with | 2 => some ([], [0, 1, 2, 3, 4]) | 6 => some ([], [0, 1, 2, 3, 4]) | 14 => some ([], [0, 1, 2, 3, 4]) | 30 => some ([], [1, 2, 3, 4, 11, 12, 13]) | 62 => some ([], [1, 2, 3, 4, 11, 12, 13]) | 126 => some ([], [1, 2, 3, 4, 11, 14, 15]) | 254 => some ([], [1, 3, 4, 11, 14, 15, 16]) | 1020 => some ([], [1, 3, 4, 11, 14, 16, 80]) | 2043 => some ([], [1, 3, 4, 11, 14, 16]) | 2044 => some ([], [1, 3, 4, 11, 16, 82, 83, 84]) | 2046 => some ([], [10]) | 2047 => some ([], [10]) | 4084 => some ([], [10]) | 4085 => some ([], [10]) | 4090 => some ([], [1, 3, 4, 11, 16, 82, 83, 84]) | 16360 => some ([], [1, 3, 4, 11, 16, 82, 83, 84, 85]) | 65444 => some ([], [1, 3, 4, 11, 16, 82, 83, 84]) | 65445 => some ([], []) | 65447 => some ([], [1, 3, 4, 11, 16, 82, 83, 84]) | 261784 => some ([], [1, 3, 4, 11, 16, 17, 18, 82, 83, 84]) | 523570 => some ([], [1, 3, 4, 11, 16, 82, 83, 84, 108]) | 1047143 => some ([], [1, 3, 4, 11, 16, 82, 83, 84]) | 2094284 => some ([], [10]) | 2094285 => some ([], [10]) | _ => none
noncomputable def pedagoguelaw11_ConvMoves_b : Code := Try.f3.body.getD .skip
theorem pedagoguelaw11_ConvMoves_tab : TabOk Gpedagoguelaw11_awake pedagoguelaw11_ConvMoves_ct pedagoguelaw11_ConvMoves_en pedagoguelaw11_ConvMoves_b := by
  intro n E hn f c hs x k h
  unfold pedagoguelaw11_ConvMoves_ct at hn
  split at hn
  · cases hn
    have e := subC_det hs (show subC 70 pedagoguelaw11_ConvMoves_b 31 = some ((subC 70 pedagoguelaw11_ConvMoves_b 31).getD .skip) by kernel_rfl)
    subst e
    exact tab_node h.it (by kernel_rfl)
  · cases hn
    have e := subC_det hs (show subC 70 pedagoguelaw11_ConvMoves_b 4090 = some ((subC 70 pedagoguelaw11_ConvMoves_b 4090).getD .skip) by kernel_rfl)
    subst e
    exact tab_loop (b := (subC 70 pedagoguelaw11_ConvMoves_b 8180).getD .skip) (by kernel_rfl) (fun y : Int => ⟨[(1, .pl (.int .i64 x.1.1)), (3, .pl (.int .i64 x.1.2.1)), (4, .pl (.int .i64 x.1.2.2.1)), (11, .ptr 0 0), (16, .pl (.int .i64 x.1.2.2.2.2.1)), (82, .own 1), (83, .pl (.int .i64 x.1.2.2.2.2.2.2.1)), (84, .pl (.int .i64 y))], [.box [.own 2, .pl (.int .i64 x.2.1.2.1), .own 3] false, .lst true (.int .i32) x.2.2.1 false, .lst true (.int .i64) x.2.2.2.1 true, .lst true (.int .i8) x.2.2.2.2.1 true]⟩) x.1.2.2.2.2.2.2.2.1 (by kernel_rfl) (fun y X => by kernel_rfl) h.it
  · cases hn
theorem pedagoguelaw11_ConvMoves_snd (x : denS [.lf (.fz false (.int .i8)), .lf (.int .i64), .lf (.int .i64), .lf (.int .i64), .lf (.int .i64)]) (Q : List (Bool × List VV) → Prop) (h : pedagoguelaw11_ConvMoves x.1 x.2.1 x.2.2.1 x.2.2.2.1 x.2.2.2.2.1 (fun (r : Bool) => Q (slotsA [(false, .bool)] [.n] (r, ())))) : Sound Try.prog 3 (packS [.lf (.fz false (.int .i8)), .lf (.int .i64), .lf (.int .i64), .lf (.int .i64), .lf (.int .i64)] x) Q :=
  vfun_told [.n] (G := Gpedagoguelaw11_awake) (ct := pedagoguelaw11_ConvMoves_ct) (en := pedagoguelaw11_ConvMoves_en) (fn := Try.f3) (cd := pedagoguelaw11_ConvMoves_b) (rt := [(false, .bool)]) Try.func3 (by kernel_rfl) (by kernel_rfl) (Nat.le_of_ble_eq_true rfl) pedagoguelaw11_ConvMoves_tab Opedagoguelaw11_awake_ok h.it (by kernel_rfl)
noncomputable def Opedagoguelaw11_ConvMoves : FuncId → List VV → (List (Bool × List VV) → Prop) → Prop := fun f args Q => if f = 3 then unA [.lf (.fz false (.int .i8)), .lf (.int .i64), .lf (.int .i64), .lf (.int .i64), .lf (.int .i64)] args (fun x => pedagoguelaw11_ConvMoves x.1 x.2.1 x.2.2.1 x.2.2.2.1 x.2.2.2.2.1 (fun (r : Bool) => Q (slotsA [(false, .bool)] [.n] (r, ())))) else Opedagoguelaw11_awake f args Q
theorem Opedagoguelaw11_ConvMoves_ok : ∀ f args Q, Opedagoguelaw11_ConvMoves f args Q → Sound Try.prog f args Q := tab_more Opedagoguelaw11_awake_ok (f0 := 3) [.lf (.fz false (.int .i8)), .lf (.int .i64), .lf (.int .i64), .lf (.int .i64), .lf (.int .i64)] (fun x Q => pedagoguelaw11_ConvMoves x.1 x.2.1 x.2.2.1 x.2.2.2.1 x.2.2.2.2.1 (fun (r : Bool) => Q (slotsA [(false, .bool)] [.n] (r, ())))) pedagoguelaw11_ConvMoves_snd
noncomputable def Gpedagoguelaw11_ConvMoves : Cfg := ⟨Try.prog, tt, Opedagoguelaw11_ConvMoves, fun _ _ _ => False⟩
end Go.Proofs.Ytmleeffinagncaa
