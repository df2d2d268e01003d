/- Plain texts of functions, as the value machine comes to them. No condition. -/
import Derived.Test.YtpbegbmmhpencaaG1
import Derived.Test.YtpbegbmmhpencaaProg
import Derived.KernelRfl
namespace Go.Proofs.Ytpbegbmmhpencaa
open Go.Mach
set_option maxRecDepth 100000
set_option linter.unusedVariables false
def slices_Clone_int_int_t (a0 : List Int) (Q : (List Int) → Prop) : Prop :=
  nq a0 (Q ([] : List Int)) (ck ((([] : List Int).length + a0.length) * 8 ≤ 140737488355328) (Q (([] : List Int) ++ a0)))
structure slices_Clone_int_int (a0 : List Int) (Q : (List Int) → Prop) : Prop where
  it : slices_Clone_int_int_t a0 Q
noncomputable def slices_Clone_int_int_ct : Tab := fun n => none
noncomputable def slices_Clone_int_int_en : Go.Mach.Ends := fun n => match n with | 2 => some ([], [0]) | 12 => some ([], [0, 4]) | 14 => some ([], [2]) | 15 => some ([], [2]) | 27 => some ([], [0]) | 52 => some ([], [2]) | 53 => some ([], [2]) | _ => none
noncomputable def slices_Clone_int_int_b : Code := Try.f22.body.getD .skip
theorem slices_Clone_int_int_tab : TabOk Gloss_top slices_Clone_int_int_ct slices_Clone_int_int_en slices_Clone_int_int_b := by
  intro n E hn f c hs x k h
  cases hn
def slices_Clone_int_int_sh : List Sh := [.lf (.fz false (.int .i64))]
def slices_Clone_int_int_d (x : denS slices_Clone_int_int_sh) (Q : List (Bool × List VV) → Prop) : Prop := slices_Clone_int_int x.1 (fun (r : List Int) => Q (slotsA [(false, (.slc (.int .i64)))] [.n] (r, ())))
theorem slices_Clone_int_int_snd (x : denS slices_Clone_int_int_sh) (Q : List (Bool × List VV) → Prop) (h : slices_Clone_int_int_d x Q) : Sound Try.prog 22 (packS slices_Clone_int_int_sh x) Q :=
  vfun_told [.n] (G := Gloss_top) (ct := slices_Clone_int_int_ct) (en := slices_Clone_int_int_en) (fn := Try.f22) (cd := slices_Clone_int_int_b) (rt := [(false, (.slc (.int .i64)))]) Try.func22 (by kernel_rfl) (by kernel_rfl) (Nat.le_of_ble_eq_true rfl) slices_Clone_int_int_tab Oloss_top_ok h.it (by kernel_rfl)
noncomputable def Oslices_Clone_int_int : FuncId → List VV → (List (Bool × List VV) → Prop) → Prop := fun f args Q => if f = 22 then unA slices_Clone_int_int_sh args (fun x => slices_Clone_int_int_d x Q) else Oloss_top f args Q
theorem Oslices_Clone_int_int_ok : ∀ f args Q, Oslices_Clone_int_int f args Q → Sound Try.prog f args Q := tab_more Oloss_top_ok (f0 := 22) slices_Clone_int_int_sh (fun x Q => slices_Clone_int_int_d x Q) slices_Clone_int_int_snd
noncomputable def Gslices_Clone_int_int : Cfg := ⟨Try.prog, tt, Oslices_Clone_int_int, fun _ _ _ => False⟩
def loss_Grad_n1_B (x4 : Int) (x11 : List Int) (K0 : (List Int) → Prop) (s : Int × List Int) (nx : (Int × List Int) → Prop) : Prop :=
  if (decide (s.1 < x4)) = true then ck ((0 : Int) ≤ s.1 ∧ s.1 < (x11.length : Int)) (ck ((s.2.length + [IntKind.i8.wrap (x11.getD ((s.1).toNat) 0)].length) * 1 ≤ 140737488355328) (nx (IntKind.i64.wrap (s.1 + 1), s.2 ++ [IntKind.i8.wrap (x11.getD ((s.1).toNat) 0)]))) else K0 s.2
structure loss_Grad_n1 (x4 : Int) (x11 : List Int) (K0 : (List Int) → Prop) (s : Int × List Int) : Prop where
  it : Go.Mach.Loop (loss_Grad_n1_B x4 x11 K0) s
def loss_Grad_n0_B (x0 : List Int) (x1 : List (List Int)) (x2 : Int) (x5 : Int) (K0 : (List Int) → Prop) (s : Int × List Int) (nx : (Int × List Int) → Prop) : Prop :=
  if (decide (s.1 < x2)) = true then ck ((0 : Int) ≤ s.1 ∧ s.1 < (x1.length : Int)) (loss_Soft (x1.getD ((s.1).toNat) []) x5 (fun (r5 : List Int) => ck ((0 : Int) ≤ s.1 ∧ s.1 < (x0.length : Int)) (ck ((0 : Int) ≤ (x0.getD ((s.1).toNat) 0) ∧ (x0.getD ((s.1).toNat) 0) < (r5.length : Int)) (ck ((0 : Int) ≤ (x0.getD ((s.1).toNat) 0) ∧ (x0.getD ((s.1).toNat) 0) < (r5.length : Int)) (loss_Grad_n1 ((r5.set ((x0.getD ((s.1).toNat) 0).toNat) (IntKind.i64.wrap ((r5.getD ((x0.getD ((s.1).toNat) 0).toNat) 0) - 127))).length : Int) (r5.set ((x0.getD ((s.1).toNat) 0).toNat) (IntKind.i64.wrap ((r5.getD ((x0.getD ((s.1).toNat) 0).toNat) 0) - 127))) (fun (y6 : List Int) => nx (IntKind.i64.wrap (s.1 + 1), y6)) (0, s.2)))))) else K0 s.2
structure loss_Grad_n0 (x0 : List Int) (x1 : List (List Int)) (x2 : Int) (x5 : Int) (K0 : (List Int) → Prop) (s : Int × List Int) : Prop where
  it : Go.Mach.Loop (loss_Grad_n0_B x0 x1 x2 x5 K0) s
def loss_Grad_t (a0 : (List Int) × Int × List Int) (a1 : List Int) (Q : (((List Int) × Int × List Int) × Int) → Prop) : Prop :=
  loss_labelled (a0.1, (a0.2.1, a0.2.2)) a1 (fun (r1 : (List (List Int)) × Int) => if (r1.2 != 0) = true then Q ((([] : List Int), (0, ([] : List Int))), r1.2) else slices_Clone_int_int a0.1 (fun (r2 : List Int) => loss_Grad_n0 a1 r1.1 (r1.1.length : Int) a0.2.1 (fun (y7 : List Int) => Q ((r2, ((-7), y7)), 0)) (0, ([] : List Int))))
structure loss_Grad (a0 : (List Int) × Int × List Int) (a1 : List Int) (Q : (((List Int) × Int × List Int) × Int) → Prop) : Prop where
  it : loss_Grad_t a0 a1 Q
noncomputable def loss_Grad_e0 : Ent := ⟨[1, 2, 4, 8, 28, 29, 30], [.lf (.fz false (.int .i64)), .lf (.cst (.ptr 0 0)), .lf (.cst (.ptr 1 0)), .lf (.cst (.ptr 2 0)), .lf (.fz false (.slc (.int .i8))), .lf (.int .i64), .lf (.int .i64)], [.box [.fz false (.int .i64), .int .i64, .fz false (.int .i8)] false, .box [.cst (.pl (.slice none 0 0)), .int .i64, .cst (.pl (.slice none 0 0))] false, .box [.cst (.own 3), .int .i64, .cst (.pl (.slice none 0 0))] false, .lst true (.int .i64) false], fun x k => loss_Grad_n0 x.1.1 x.1.2.2.2.2.1 x.1.2.2.2.2.2.1 x.2.1.2.1 (fun (y8 : List Int) => k (.exit 0) ⟨[(4, .ptr 0 0), (8, .ptr 1 0)], [.box [.pl (.slice none 0 0), .pl (.int .i64 x.2.2.1.2.1), .pl (.slice none 0 0)] false, .box [.own 2, .pl (.int .i64 x.2.2.2.1.2.1), .own 3] false, .lst true (.int .i64) x.2.2.2.2.1 false, .lst true (.int .i8) y8 false]⟩) (x.1.2.2.2.2.2.2.1, ([] : List Int))⟩
noncomputable def loss_Grad_e1 : Ent := ⟨[1, 2, 4, 8, 28, 29, 30, 48, 49, 50], [.lf (.fz false (.int .i64)), .lf (.cst (.ptr 0 0)), .lf (.cst (.ptr 1 0)), .lf (.cst (.ptr 2 0)), .lf (.fz false (.slc (.int .i8))), .lf (.int .i64), .lf (.int .i64), .lf (.cst (.own 3)), .lf (.int .i64), .lf (.int .i64)], [.box [.fz false (.int .i64), .int .i64, .fz false (.int .i8)] false, .box [.cst (.pl (.slice none 0 0)), .int .i64, .cst (.pl (.slice none 0 0))] false, .box [.cst (.own 4), .int .i64, .cst (.own 5)] false, .lst true (.int .i64) false, .lst true (.int .i64) false, .lst true (.int .i8) false], fun x k => loss_Grad_n1 x.1.2.2.2.2.2.2.2.2.1 x.2.2.2.2.1 (fun (y9 : List Int) => k (.exit 2) ⟨[(1, .fz false (.int .i64) x.1.1), (2, .ptr 0 0), (4, .ptr 1 0), (8, .ptr 2 0), (28, .fz false (.slc (.int .i8)) x.1.2.2.2.2.1), (29, .pl (.int .i64 x.1.2.2.2.2.2.1)), (30, .pl (.int .i64 x.1.2.2.2.2.2.2.1))], [.box [.fz false (.int .i64) x.2.1.1, .pl (.int .i64 x.2.1.2.1), .fz false (.int .i8) x.2.1.2.2.1] false, .box [.pl (.slice none 0 0), .pl (.int .i64 x.2.2.1.2.1), .pl (.slice none 0 0)] false, .box [.own 3, .pl (.int .i64 x.2.2.2.1.2.1), .own 4] false, .lst true (.int .i64) x.2.2.2.2.2.1 false, .lst true (.int .i8) y9 false]⟩) (x.1.2.2.2.2.2.2.2.2.2.1, x.2.2.2.2.2.2.1)⟩
noncomputable def loss_Grad_ct : Tab := fun n => match n with | 250 => some loss_Grad_e0 | 256414 => some loss_Grad_e1 | _ => none
noncomputable def loss_Grad_en : Go.Mach.Ends := fun n => match n with | 2 => some ([], [1, 2, 4]) | 6 => some ([], [1, 2, 4, 6, 7]) | 28 => some ([], [1, 2, 4, 6, 7, 21]) | 30 => some ([], [1, 2, 4, 6, 8]) | 59 => some ([], [1, 2, 4, 6]) | 116 => some ([], [4, 5]) | 117 => some ([], [4, 5]) | 124 => some ([], [1, 2, 4, 8, 28, 29, 30]) | 126 => some ([], [4, 5]) | 127 => some ([], [4, 5]) | 250 => some ([⟨8, some 2, false, (.int .i8)⟩], [1, 2, 4, 8, 28, 29, 30]) | 1000 => some ([], [1, 2, 4, 8, 28, 29, 30, 31]) | 4004 => some ([], [1, 2, 4, 8, 28, 29, 30]) | 4005 => some ([], [4, 8]) | 4007 => some ([], [1, 2, 4, 8, 28, 29, 30]) | 16024 => some ([], [1, 2, 4, 8, 9, 10, 28, 29, 30]) | 32050 => some ([], [1, 2, 4, 8, 9, 11, 28, 29, 30]) | 64102 => some ([], [1, 2, 4, 8, 11, 28, 29, 30]) | 128206 => some ([], [1, 2, 4, 8, 28, 29, 30, 48, 49, 50]) | 256414 => some ([⟨8, some 2, false, (.int .i8)⟩], [1, 2, 4, 8, 28, 29, 30, 48, 49, 50]) | 1025656 => some ([], [1, 2, 4, 8, 28, 29, 30, 48, 49, 50, 51]) | 4102628 => some ([], [1, 2, 4, 8, 28, 29, 30, 48, 49, 50]) | 4102629 => some ([], [1, 2, 4, 8, 28, 29, 30]) | 4102631 => some ([], [1, 2, 4, 8, 28, 29, 30, 48, 49, 50]) | 16410520 => some ([], [1, 2, 4, 8, 13, 28, 29, 30, 48, 49, 50]) | 16410521 => some ([], [1, 2, 4, 8, 28, 29, 30, 48, 49, 50]) | _ => none
noncomputable def loss_Grad_b : Code := Try.f11.body.getD .skip
theorem loss_Grad_tab : TabOk Gslices_Clone_int_int loss_Grad_ct loss_Grad_en loss_Grad_b := by
  intro n E hn f c hs x k h
  unfold loss_Grad_ct at hn
  split at hn
  · cases hn; exact tab_loop2 hs (by kernel_rfl) (fun y : Int × List Int => ⟨[(1, .fz false (.int .i64) x.1.1), (2, .ptr 0 0), (4, .ptr 1 0), (8, .ptr 2 0), (28, .fz false (.slc (.int .i8)) x.1.2.2.2.2.1), (29, .pl (.int .i64 x.1.2.2.2.2.2.1)), (30, .pl (.int .i64 y.1))], [.box [.fz false (.int .i64) x.2.1.1, .pl (.int .i64 x.2.1.2.1), .fz false (.int .i8) x.2.1.2.2.1] false, .box [.pl (.slice none 0 0), .pl (.int .i64 x.2.2.1.2.1), .pl (.slice none 0 0)] false, .box [.own 3, .pl (.int .i64 x.2.2.2.1.2.1), .own 4] false, .lst true (.int .i64) x.2.2.2.2.1 false, .lst true (.int .i8) y.2 false]⟩) (x.1.2.2.2.2.2.2.1, ([] : List Int)) (by kernel_rfl) (fun y X => by kernel_rfl) h.it
  · cases hn; exact tab_loop2 hs (by kernel_rfl) (fun y : Int × List Int => ⟨[(1, .fz false (.int .i64) x.1.1), (2, .ptr 0 0), (4, .ptr 1 0), (8, .ptr 2 0), (28, .fz false (.slc (.int .i8)) x.1.2.2.2.2.1), (29, .pl (.int .i64 x.1.2.2.2.2.2.1)), (30, .pl (.int .i64 x.1.2.2.2.2.2.2.1)), (48, .own 3), (49, .pl (.int .i64 x.1.2.2.2.2.2.2.2.2.1)), (50, .pl (.int .i64 y.1))], [.box [.fz false (.int .i64) x.2.1.1, .pl (.int .i64 x.2.1.2.1), .fz false (.int .i8) x.2.1.2.2.1] false, .box [.pl (.slice none 0 0), .pl (.int .i64 x.2.2.1.2.1), .pl (.slice none 0 0)] false, .box [.own 4, .pl (.int .i64 x.2.2.2.1.2.1), .own 5] false, .lst true (.int .i64) x.2.2.2.2.1 false, .lst true (.int .i64) x.2.2.2.2.2.1 false, .lst true (.int .i8) y.2 false]⟩) (x.1.2.2.2.2.2.2.2.2.2.1, x.2.2.2.2.2.2.1) (by kernel_rfl) (fun y X => by kernel_rfl) h.it
  · cases hn
def loss_Grad_sh : List Sh := [.agg [.fz false (.int .i64), .int .i64, .fz false (.int .i8)], .lf (.fz false (.int .i64))]
def loss_Grad_d (x : denS loss_Grad_sh) (Q : List (Bool × List VV) → Prop) : Prop := loss_Grad (x.1.1, (x.1.2.1, x.1.2.2.1)) x.2.1 (fun (r : ((List Int) × Int × List Int) × Int) => Q (slotsA [(true, (.pair (.slc (.int .i64)) (.pair (.int .i64) (.slc (.int .i8))))), (false, (.int .i64))] [.n, .n] (r.1, (r.2, ()))))
theorem loss_Grad_snd (x : denS loss_Grad_sh) (Q : List (Bool × List VV) → Prop) (h : loss_Grad_d x Q) : Sound Try.prog 11 (packS loss_Grad_sh x) Q :=
  vfun_told [.n, .n] (G := Gslices_Clone_int_int) (ct := loss_Grad_ct) (en := loss_Grad_en) (fn := Try.f11) (cd := loss_Grad_b) (rt := [(true, (.pair (.slc (.int .i64)) (.pair (.int .i64) (.slc (.int .i8))))), (false, (.int .i64))]) Try.func11 (by kernel_rfl) (by kernel_rfl) (Nat.le_of_ble_eq_true rfl) loss_Grad_tab Oslices_Clone_int_int_ok h.it (by kernel_rfl)
noncomputable def Oloss_Grad : FuncId → List VV → (List (Bool × List VV) → Prop) → Prop := fun f args Q => if f = 11 then unA loss_Grad_sh args (fun x => loss_Grad_d x Q) else Oslices_Clone_int_int f args Q
theorem Oloss_Grad_ok : ∀ f args Q, Oloss_Grad f args Q → Sound Try.prog f args Q := tab_more Oslices_Clone_int_int_ok (f0 := 11) loss_Grad_sh (fun x Q => loss_Grad_d x Q) loss_Grad_snd
noncomputable def Gloss_Grad : Cfg := ⟨Try.prog, tt, Oloss_Grad, fun _ _ _ => False⟩
def pedagoguelaw19_awake_t  (Q : Bool → Prop) : Prop :=
  loss_Grad ([1, 2], (0, [0, 0])) [1] (fun (r1 : ((List Int) × Int × List Int) × Int) => jn (fun (v2 : Bool) => jn (fun (v4 : Bool) => Q v4) (fun J5 => if v2 = true then ck ((0 : Int) ≤ 1 ∧ 1 < (r1.1.2.2.length : Int)) (J5 ((r1.1.2.2.getD 1 0) == (-64))) else J5 false)) (fun J3 => if ((r1.2 == 0) && ((r1.1.2.2.length : Int) == 2)) = true then ck ((0 : Int) ≤ 0 ∧ 0 < (r1.1.2.2.length : Int)) (J3 ((r1.1.2.2.getD 0 0) == 63)) else J3 false))
structure pedagoguelaw19_awake  (Q : Bool → Prop) : Prop where
  it : pedagoguelaw19_awake_t  Q
noncomputable def pedagoguelaw19_awake_ct : Tab := fun n => none
noncomputable def pedagoguelaw19_awake_en : Go.Mach.Ends := fun n => match n with | 2 => some ([], []) | 6 => some ([], [1, 2]) | 14 => some ([], [0]) | 15 => some ([], [0]) | _ => none
noncomputable def pedagoguelaw19_awake_b : Code := Try.f9.body.getD .skip
theorem pedagoguelaw19_awake_tab : TabOk Gloss_Grad pedagoguelaw19_awake_ct pedagoguelaw19_awake_en pedagoguelaw19_awake_b := by
  intro n E hn f c hs x k h
  cases hn
def pedagoguelaw19_awake_sh : List Sh := []
def pedagoguelaw19_awake_d (x : denS pedagoguelaw19_awake_sh) (Q : List (Bool × List VV) → Prop) : Prop := pedagoguelaw19_awake (fun (r : Bool) => Q (slotsA [(false, .bool)] [.n] (r, ())))
theorem pedagoguelaw19_awake_snd (x : denS pedagoguelaw19_awake_sh) (Q : List (Bool × List VV) → Prop) (h : pedagoguelaw19_awake_d x Q) : Sound Try.prog 9 (packS pedagoguelaw19_awake_sh x) Q :=
  vfun_told [.n] (G := Gloss_Grad) (ct := pedagoguelaw19_awake_ct) (en := pedagoguelaw19_awake_en) (fn := Try.f9) (cd := pedagoguelaw19_awake_b) (rt := [(false, .bool)]) Try.func9 (by kernel_rfl) (by kernel_rfl) (Nat.le_of_ble_eq_true rfl) pedagoguelaw19_awake_tab Oloss_Grad_ok h.it (by kernel_rfl)
noncomputable def Opedagoguelaw19_awake : FuncId → List VV → (List (Bool × List VV) → Prop) → Prop := fun f args Q => if f = 9 then unA pedagoguelaw19_awake_sh args (fun x => pedagoguelaw19_awake_d x Q) else Oloss_Grad f args Q
theorem Opedagoguelaw19_awake_ok : ∀ f args Q, Opedagoguelaw19_awake f args Q → Sound Try.prog f args Q := tab_more Oloss_Grad_ok (f0 := 9) pedagoguelaw19_awake_sh (fun x Q => pedagoguelaw19_awake_d x Q) pedagoguelaw19_awake_snd
noncomputable def Gpedagoguelaw19_awake : Cfg := ⟨Try.prog, tt, Opedagoguelaw19_awake, fun _ _ _ => False⟩
end Go.Proofs.Ytpbegbmmhpencaa
