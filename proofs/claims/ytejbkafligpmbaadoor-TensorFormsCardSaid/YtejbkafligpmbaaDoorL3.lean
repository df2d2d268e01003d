/- Plain texts of functions, as the value machine comes to them. No condition. -/
import Derived.Test.YtejbkafligpmbaaDoorL2
import Derived.Test.YtejbkafligpmbaaDoorProg
import Derived.KernelRfl
namespace Go.Proofs.YtejbkafligpmbaaDoor
open Go.Mach
set_option maxRecDepth 100000
set_option linter.unusedVariables false
def slices_Equal_int8_int8_n0_B (x0 : List Int) (x1 : List Int) (x2 : Int) (K0 : Unit → Prop) (K1 : Unit → Prop) (s : Int) (nx : Int → Prop) : Prop :=
  if (decide (s < x2)) = true then ck ((0 : Int) ≤ s ∧ s < (x0.length : Int)) (ck ((0 : Int) ≤ s ∧ s < (x1.length : Int)) (if ((x0.getD ((s).toNat) 0) != (x1.getD ((s).toNat) 0)) = true then K1 () else nx (IntKind.i64.wrap (s + 1)))) else K0 ()
def slices_Equal_int8_int8_n0 (x0 : List Int) (x1 : List Int) (x2 : Int) (K0 : Unit → Prop) (K1 : Unit → Prop) (s : Int) : Prop := Go.Mach.Loop (slices_Equal_int8_int8_n0_B x0 x1 x2 K0 K1) s
def slices_Equal_int8_int8 (a0 : List Int) (a1 : List Int) (Q : Bool → Prop) : Prop :=
  if ((a0.length : Int) != (a1.length : Int)) = true then Q false else slices_Equal_int8_int8_n0 a0 a1 (a0.length : Int) (fun (y1 : Unit) => Q true) (fun (y2 : Unit) => Q false) 0
noncomputable def slices_Equal_int8_int8_e0 : Ent := ⟨[0, 1, 12, 13], [.lf (.fz false (.int .i8)), .lf (.fz false (.int .i8)), .lf (.int .i64), .lf (.int .i64)], [], fun x k => slices_Equal_int8_int8_n0 x.1.1 x.1.2.1 x.1.2.2.1 (fun (y3 : Unit) => k (.exit 0) ⟨[], []⟩) (fun (y4 : Unit) => k .ret ⟨[(4, .pl (.bool false))], []⟩) x.1.2.2.2.1⟩
noncomputable def slices_Equal_int8_int8_ct : Tab := fun n => match n with | 58 => some slices_Equal_int8_int8_e0 | _ => none
noncomputable def slices_Equal_int8_int8_en : Go.Mach.Ends := fun n => match n with | 2 => some ([], [0, 1]) | 12 => some ([], [0, 1, 10]) | 27 => some ([], [0, 1]) | 28 => some ([], [0, 1, 12, 13]) | 30 => some ([], [4]) | 31 => some ([], [4]) | 52 => some ([], [4]) | 53 => some ([], [4]) | 58 => some ([], [0, 1, 12, 13]) | 232 => some ([], [0, 1, 12, 13, 14]) | 932 => some ([], [0, 1, 12, 13]) | 933 => some ([], []) | 935 => some ([], [0, 1, 12, 13]) | 3736 => some ([], [0, 1, 5, 12, 13]) | 7474 => some ([], [0, 1, 12, 13, 24]) | 14951 => some ([], [0, 1, 12, 13]) | 29900 => some ([], [4]) | 29901 => some ([], [4]) | _ => none
noncomputable def slices_Equal_int8_int8_b : Code := Tryd.f41.body.getD .skip
theorem slices_Equal_int8_int8_tab : TabOk Gslices_Clone_int_int slices_Equal_int8_int8_ct slices_Equal_int8_int8_en slices_Equal_int8_int8_b := by
  intro n E hn f c hs x k h
  unfold slices_Equal_int8_int8_ct at hn
  split at hn
  · cases hn; exact tab_loop2 hs (by kernel_rfl) (fun y : Int => ⟨[(0, .fz false (.int .i8) x.1.1), (1, .fz false (.int .i8) x.1.2.1), (12, .pl (.int .i64 x.1.2.2.1)), (13, .pl (.int .i64 y))], []⟩) x.1.2.2.2.1 (by kernel_rfl) (fun y X => by kernel_rfl) h
  · cases hn
def slices_Equal_int8_int8_sh : List Sh := [.lf (.fz false (.int .i8)), .lf (.fz false (.int .i8))]
def slices_Equal_int8_int8_d (x : denS slices_Equal_int8_int8_sh) (Q : List (Bool × List VV) → Prop) : Prop := slices_Equal_int8_int8 x.1 x.2.1 (fun (r : Bool) => Q (slotsA [(false, .bool)] [.n] (r, ())))
theorem slices_Equal_int8_int8_snd (x : denS slices_Equal_int8_int8_sh) (Q : List (Bool × List VV) → Prop) (h : slices_Equal_int8_int8_d x Q) : Sound Tryd.prog 41 (packS slices_Equal_int8_int8_sh x) Q :=
  vfun_told [.n] (G := Gslices_Clone_int_int) (ct := slices_Equal_int8_int8_ct) (en := slices_Equal_int8_int8_en) (fn := Tryd.f41) (cd := slices_Equal_int8_int8_b) (rt := [(false, .bool)]) Tryd.func41 (by kernel_rfl) (by kernel_rfl) (Nat.le_of_ble_eq_true rfl) slices_Equal_int8_int8_tab Oslices_Clone_int_int_ok h (by kernel_rfl)
noncomputable def Oslices_Equal_int8_int8 : FuncId → List VV → (List (Bool × List VV) → Prop) → Prop := fun f args Q => if f = 41 then unA slices_Equal_int8_int8_sh args (fun x => slices_Equal_int8_int8_d x Q) else Oslices_Clone_int_int f args Q
theorem Oslices_Equal_int8_int8_ok : ∀ f args Q, Oslices_Equal_int8_int8 f args Q → Sound Tryd.prog f args Q := tab_more Oslices_Clone_int_int_ok (f0 := 41) slices_Equal_int8_int8_sh (fun x Q => slices_Equal_int8_int8_d x Q) slices_Equal_int8_int8_snd
noncomputable def Gslices_Equal_int8_int8 : Cfg := ⟨Tryd.prog, tt, Oslices_Equal_int8_int8, fun _ _ _ => False⟩
def slices_Equal_int_int_n0_B (x0 : List Int) (x1 : List Int) (x2 : Int) (K0 : Unit → Prop) (K1 : Unit → Prop) (s : Int) (nx : Int → Prop) : Prop :=
  if (decide (s < x2)) = true then ck ((0 : Int) ≤ s ∧ s < (x0.length : Int)) (ck ((0 : Int) ≤ s ∧ s < (x1.length : Int)) (if ((x0.getD ((s).toNat) 0) != (x1.getD ((s).toNat) 0)) = true then K1 () else nx (IntKind.i64.wrap (s + 1)))) else K0 ()
def slices_Equal_int_int_n0 (x0 : List Int) (x1 : List Int) (x2 : Int) (K0 : Unit → Prop) (K1 : Unit → Prop) (s : Int) : Prop := Go.Mach.Loop (slices_Equal_int_int_n0_B x0 x1 x2 K0 K1) s
def slices_Equal_int_int (a0 : List Int) (a1 : List Int) (Q : Bool → Prop) : Prop :=
  if ((a0.length : Int) != (a1.length : Int)) = true then Q false else slices_Equal_int_int_n0 a0 a1 (a0.length : Int) (fun (y1 : Unit) => Q true) (fun (y2 : Unit) => Q false) 0
noncomputable def slices_Equal_int_int_e0 : Ent := ⟨[0, 1, 12, 13], [.lf (.fz false (.int .i64)), .lf (.fz false (.int .i64)), .lf (.int .i64), .lf (.int .i64)], [], fun x k => slices_Equal_int_int_n0 x.1.1 x.1.2.1 x.1.2.2.1 (fun (y3 : Unit) => k (.exit 0) ⟨[], []⟩) (fun (y4 : Unit) => k .ret ⟨[(4, .pl (.bool false))], []⟩) x.1.2.2.2.1⟩
noncomputable def slices_Equal_int_int_ct : Tab := fun n => match n with | 58 => some slices_Equal_int_int_e0 | _ => none
noncomputable def slices_Equal_int_int_en : Go.Mach.Ends := fun n => match n with | 2 => some ([], [0, 1]) | 12 => some ([], [0, 1, 10]) | 27 => some ([], [0, 1]) | 28 => some ([], [0, 1, 12, 13]) | 30 => some ([], [4]) | 31 => some ([], [4]) | 52 => some ([], [4]) | 53 => some ([], [4]) | 58 => some ([], [0, 1, 12, 13]) | 232 => some ([], [0, 1, 12, 13, 14]) | 932 => some ([], [0, 1, 12, 13]) | 933 => some ([], []) | 935 => some ([], [0, 1, 12, 13]) | 3736 => some ([], [0, 1, 5, 12, 13]) | 7474 => some ([], [0, 1, 12, 13, 24]) | 14951 => some ([], [0, 1, 12, 13]) | 29900 => some ([], [4]) | 29901 => some ([], [4]) | _ => none
noncomputable def slices_Equal_int_int_b : Code := Tryd.f57.body.getD .skip
theorem slices_Equal_int_int_tab : TabOk Gslices_Equal_int8_int8 slices_Equal_int_int_ct slices_Equal_int_int_en slices_Equal_int_int_b := by
  intro n E hn f c hs x k h
  unfold slices_Equal_int_int_ct at hn
  split at hn
  · cases hn; exact tab_loop2 hs (by kernel_rfl) (fun y : Int => ⟨[(0, .fz false (.int .i64) x.1.1), (1, .fz false (.int .i64) x.1.2.1), (12, .pl (.int .i64 x.1.2.2.1)), (13, .pl (.int .i64 y))], []⟩) x.1.2.2.2.1 (by kernel_rfl) (fun y X => by kernel_rfl) h
  · cases hn
def slices_Equal_int_int_sh : List Sh := [.lf (.fz false (.int .i64)), .lf (.fz false (.int .i64))]
def slices_Equal_int_int_d (x : denS slices_Equal_int_int_sh) (Q : List (Bool × List VV) → Prop) : Prop := slices_Equal_int_int x.1 x.2.1 (fun (r : Bool) => Q (slotsA [(false, .bool)] [.n] (r, ())))
theorem slices_Equal_int_int_snd (x : denS slices_Equal_int_int_sh) (Q : List (Bool × List VV) → Prop) (h : slices_Equal_int_int_d x Q) : Sound Tryd.prog 57 (packS slices_Equal_int_int_sh x) Q :=
  vfun_told [.n] (G := Gslices_Equal_int8_int8) (ct := slices_Equal_int_int_ct) (en := slices_Equal_int_int_en) (fn := Tryd.f57) (cd := slices_Equal_int_int_b) (rt := [(false, .bool)]) Tryd.func57 (by kernel_rfl) (by kernel_rfl) (Nat.le_of_ble_eq_true rfl) slices_Equal_int_int_tab Oslices_Equal_int8_int8_ok h (by kernel_rfl)
noncomputable def Oslices_Equal_int_int : FuncId → List VV → (List (Bool × List VV) → Prop) → Prop := fun f args Q => if f = 57 then unA slices_Equal_int_int_sh args (fun x => slices_Equal_int_int_d x Q) else Oslices_Equal_int8_int8 f args Q
theorem Oslices_Equal_int_int_ok : ∀ f args Q, Oslices_Equal_int_int f args Q → Sound Tryd.prog f args Q := tab_more Oslices_Equal_int8_int8_ok (f0 := 57) slices_Equal_int_int_sh (fun x Q => slices_Equal_int_int_d x Q) slices_Equal_int_int_snd
noncomputable def Gslices_Equal_int_int : Cfg := ⟨Tryd.prog, tt, Oslices_Equal_int_int, fun _ _ _ => False⟩
def shape_Same (a0 : List Int) (a1 : List Int) (Q : Bool → Prop) : Prop :=
  slices_Equal_int_int a0 a1 (fun (r1 : Bool) => Q r1)
noncomputable def shape_Same_ct : Tab := fun n => none
noncomputable def shape_Same_en : Go.Mach.Ends := fun n => match n with | 2 => some ([], [0, 1]) | 6 => some ([], [4]) | 7 => some ([], [4]) | _ => none
noncomputable def shape_Same_b : Code := Tryd.f40.body.getD .skip
theorem shape_Same_tab : TabOk Gslices_Equal_int_int shape_Same_ct shape_Same_en shape_Same_b := by
  intro n E hn f c hs x k h
  cases hn
def shape_Same_sh : List Sh := [.lf (.fz false (.int .i64)), .lf (.fz false (.int .i64))]
def shape_Same_d (x : denS shape_Same_sh) (Q : List (Bool × List VV) → Prop) : Prop := shape_Same x.1 x.2.1 (fun (r : Bool) => Q (slotsA [(false, .bool)] [.n] (r, ())))
theorem shape_Same_snd (x : denS shape_Same_sh) (Q : List (Bool × List VV) → Prop) (h : shape_Same_d x Q) : Sound Tryd.prog 40 (packS shape_Same_sh x) Q :=
  vfun_told [.n] (G := Gslices_Equal_int_int) (ct := shape_Same_ct) (en := shape_Same_en) (fn := Tryd.f40) (cd := shape_Same_b) (rt := [(false, .bool)]) Tryd.func40 (by kernel_rfl) (by kernel_rfl) (Nat.le_of_ble_eq_true rfl) shape_Same_tab Oslices_Equal_int_int_ok h (by kernel_rfl)
noncomputable def Oshape_Same : FuncId → List VV → (List (Bool × List VV) → Prop) → Prop := fun f args Q => if f = 40 then unA shape_Same_sh args (fun x => shape_Same_d x Q) else Oslices_Equal_int_int f args Q
theorem Oshape_Same_ok : ∀ f args Q, Oshape_Same f args Q → Sound Tryd.prog f args Q := tab_more Oslices_Equal_int_int_ok (f0 := 40) shape_Same_sh (fun x Q => shape_Same_d x Q) shape_Same_snd
noncomputable def Gshape_Same : Cfg := ⟨Tryd.prog, tt, Oshape_Same, fun _ _ _ => False⟩
def tensor_Same (a0 : (List Int) × Int × List Int) (a1 : (List Int) × Int × List Int) (Q : Bool → Prop) : Prop :=
  shape_Same a0.1 a1.1 (fun (r1 : Bool) => jn (fun (v2 : Bool) => Q v2) (fun J3 => if (r1 && (a0.2.1 == a1.2.1)) = true then slices_Equal_int8_int8 a0.2.2 a1.2.2 (fun (r4 : Bool) => J3 r4) else J3 false))
noncomputable def tensor_Same_ct : Tab := fun n => none
noncomputable def tensor_Same_en : Go.Mach.Ends := fun n => match n with | 2 => some ([], [2, 3]) | 6 => some ([], [4]) | 7 => some ([], [4]) | _ => none
noncomputable def tensor_Same_b : Code := Tryd.f20.body.getD .skip
theorem tensor_Same_tab : TabOk Gshape_Same tensor_Same_ct tensor_Same_en tensor_Same_b := by
  intro n E hn f c hs x k h
  cases hn
def tensor_Same_sh : List Sh := [.agg [.fz false (.int .i64), .int .i64, .fz false (.int .i8)], .agg [.fz false (.int .i64), .int .i64, .fz false (.int .i8)]]
def tensor_Same_d (x : denS tensor_Same_sh) (Q : List (Bool × List VV) → Prop) : Prop := tensor_Same (x.1.1, (x.1.2.1, x.1.2.2.1)) (x.2.1.1, (x.2.1.2.1, x.2.1.2.2.1)) (fun (r : Bool) => Q (slotsA [(false, .bool)] [.n] (r, ())))
theorem tensor_Same_snd (x : denS tensor_Same_sh) (Q : List (Bool × List VV) → Prop) (h : tensor_Same_d x Q) : Sound Tryd.prog 20 (packS tensor_Same_sh x) Q :=
  vfun_told [.n] (G := Gshape_Same) (ct := tensor_Same_ct) (en := tensor_Same_en) (fn := Tryd.f20) (cd := tensor_Same_b) (rt := [(false, .bool)]) Tryd.func20 (by kernel_rfl) (by kernel_rfl) (Nat.le_of_ble_eq_true rfl) tensor_Same_tab Oshape_Same_ok h (by kernel_rfl)
noncomputable def Otensor_Same : FuncId → List VV → (List (Bool × List VV) → Prop) → Prop := fun f args Q => if f = 20 then unA tensor_Same_sh args (fun x => tensor_Same_d x Q) else Oshape_Same f args Q
theorem Otensor_Same_ok : ∀ f args Q, Otensor_Same f args Q → Sound Tryd.prog f args Q := tab_more Oshape_Same_ok (f0 := 20) tensor_Same_sh (fun x Q => tensor_Same_d x Q) tensor_Same_snd
noncomputable def Gtensor_Same : Cfg := ⟨Tryd.prog, tt, Otensor_Same, fun _ _ _ => False⟩
def tensor_Zero (a0 : List Int) (a1 : Int) (Q : (((List Int) × Int × List Int) × Int) → Prop) : Prop :=
  slices_Clone_int_int a0 (fun (r1 : List Int) => shape_Size a0 (fun (r2 : Int) => ck ((0 : Int) ≤ r2 ∧ (1 : Nat) * r2 ≤ 70368744177664) (tensor_May (r1, (a1, List.replicate (r2).toNat (0 : Int))) (fun (r3 : Bool) => if (!r3) = true then Q ((([] : List Int), (0, ([] : List Int))), 1) else Q ((r1, (a1, List.replicate (r2).toNat (0 : Int))), 0)))))
noncomputable def tensor_Zero_ct : Tab := fun n => none
noncomputable def tensor_Zero_en : Go.Mach.Ends := fun n => match n with | 2 => some ([], [0, 1, 4]) | 6 => some ([], [4, 6]) | 28 => some ([], [4, 6, 16]) | 30 => some ([], [4, 5]) | 31 => some ([], [4, 5]) | 59 => some ([], [4, 6]) | 116 => some ([], [4, 5]) | 117 => some ([], [4, 5]) | _ => none
noncomputable def tensor_Zero_b : Code := Tryd.f12.body.getD .skip
theorem tensor_Zero_tab : TabOk Gtensor_Same tensor_Zero_ct tensor_Zero_en tensor_Zero_b := by
  intro n E hn f c hs x k h
  cases hn
def tensor_Zero_sh : List Sh := [.lf (.fz false (.int .i64)), .lf (.int .i64)]
def tensor_Zero_d (x : denS tensor_Zero_sh) (Q : List (Bool × List VV) → Prop) : Prop := tensor_Zero x.1 x.2.1 (fun (r : ((List Int) × Int × List Int) × Int) => Q (slotsA [(true, (.pair (.slc (.int .i64)) (.pair (.int .i64) (.slc (.int .i8))))), (false, (.int .i64))] [.n, .n] (r.1, (r.2, ()))))
theorem tensor_Zero_snd (x : denS tensor_Zero_sh) (Q : List (Bool × List VV) → Prop) (h : tensor_Zero_d x Q) : Sound Tryd.prog 12 (packS tensor_Zero_sh x) Q :=
  vfun_told [.n, .n] (G := Gtensor_Same) (ct := tensor_Zero_ct) (en := tensor_Zero_en) (fn := Tryd.f12) (cd := tensor_Zero_b) (rt := [(true, (.pair (.slc (.int .i64)) (.pair (.int .i64) (.slc (.int .i8))))), (false, (.int .i64))]) Tryd.func12 (by kernel_rfl) (by kernel_rfl) (Nat.le_of_ble_eq_true rfl) tensor_Zero_tab Otensor_Same_ok h (by kernel_rfl)
noncomputable def Otensor_Zero : FuncId → List VV → (List (Bool × List VV) → Prop) → Prop := fun f args Q => if f = 12 then unA tensor_Zero_sh args (fun x => tensor_Zero_d x Q) else Otensor_Same f args Q
theorem Otensor_Zero_ok : ∀ f args Q, Otensor_Zero f args Q → Sound Tryd.prog f args Q := tab_more Otensor_Same_ok (f0 := 12) tensor_Zero_sh (fun x Q => tensor_Zero_d x Q) tensor_Zero_snd
noncomputable def Gtensor_Zero : Cfg := ⟨Tryd.prog, tt, Otensor_Zero, fun _ _ _ => False⟩
def tensor_Small_n0_B (x0 : Int) (x1 : Int) (x2 : Int) (x3 : Int) (x4 : List Int) (x5 : Int) (K0 : (List Int) → Prop) (s : Int × List Int) (nx : (Int × List Int) → Prop) : Prop :=
  if (decide (s.1 < x5)) = true then ck ((0 : Int) ≤ s.1 ∧ s.1 < (x4.length : Int)) (prng_At x1 x2 (IntKind.u64.wrap s.1) (fun (r8 : Int) => round_Chance (IntKind.i64.wrap (x4.getD ((s.1).toNat) 0)) x3 r8 (fun (r9 : Int) => round_Clamp r9 x0 (fun (r10 : Int) => ck ((s.2.length + [IntKind.i8.wrap r10].length) * 1 ≤ 140737488355328) (nx (IntKind.i64.wrap (s.1 + 1), s.2 ++ [IntKind.i8.wrap r10])))))) else K0 s.2
def tensor_Small_n0 (x0 : Int) (x1 : Int) (x2 : Int) (x3 : Int) (x4 : List Int) (x5 : Int) (K0 : (List Int) → Prop) (s : Int × List Int) : Prop := Go.Mach.Loop (tensor_Small_n0_B x0 x1 x2 x3 x4 x5 K0) s
def tensor_Small (a0 : (List Int) × Int × List Int) (a1 : Int) (a2 : Int) (a3 : Int) (Q : (((List Int) × Int × List Int) × Int) → Prop) : Prop :=
  tensor_MayAcc (a0.1, (a0.2.1, a0.2.2)) (fun (r1 : Bool) => if (((!r1) || (decide (a1 < 2))) || (decide (8 < a1))) = true then Q ((([] : List Int), (0, ([] : List Int))), 1) else tensor_Width (a0.1, (a0.2.1, a0.2.2)) (fun (r2 : Int) => slices_Clone_int_int a0.1 (fun (r3 : List Int) => tensor_exp (IntKind.i64.wrap (a0.2.1 + (greater 0 (IntKind.i64.wrap (r2 - (IntKind.i64.wrap (a1 - 1))))))) 64 (fun (r4 : Bool) => if (!r4) = true then Q ((([] : List Int), (0, ([] : List Int))), 3) else tensor_Small_n0 a1 a2 a3 (greater 0 (IntKind.i64.wrap (r2 - (IntKind.i64.wrap (a1 - 1))))) a0.2.2 (a0.2.2.length : Int) (fun (y11 : List Int) => Q ((r3, ((IntKind.i64.wrap (a0.2.1 + (greater 0 (IntKind.i64.wrap (r2 - (IntKind.i64.wrap (a1 - 1))))))), y11)), 0)) (0, ([] : List Int))))))
noncomputable def tensor_Small_e0 : Ent := ⟨[1, 2, 3, 8, 10, 11, 47, 48, 49], [.lf (.int .i64), .lf (.int .u64), .lf (.int .u64), .lf (.cst (.ptr 0 0)), .lf (.int .i64), .lf (.cst (.ptr 1 0)), .lf (.fz false (.int .i32)), .lf (.int .i64), .lf (.int .i64)], [.box [.cst (.pl (.slice none 0 0)), .int .i64, .cst (.pl (.slice none 0 0))] false, .box [.cst (.own 2), .int .i64, .cst (.pl (.slice none 0 0))] false, .lst true (.int .i64) false], fun x k => tensor_Small_n0 x.1.1 x.1.2.1 x.1.2.2.1 x.1.2.2.2.2.1 x.1.2.2.2.2.2.2.1 x.1.2.2.2.2.2.2.2.1 (fun (y12 : List Int) => k (.exit 0) ⟨[(8, .ptr 0 0), (11, .ptr 1 0)], [.box [.pl (.slice none 0 0), .pl (.int .i64 x.2.1.2.1), .pl (.slice none 0 0)] false, .box [.own 2, .pl (.int .i64 x.2.2.1.2.1), .own 3] false, .lst true (.int .i64) x.2.2.2.1 false, .lst true (.int .i8) y12 false]⟩) (x.1.2.2.2.2.2.2.2.2.1, ([] : List Int))⟩
noncomputable def tensor_Small_ct : Tab := fun n => match n with | 506 => some tensor_Small_e0 | _ => none
noncomputable def tensor_Small_en : Go.Mach.Ends := fun n => match n with | 2 => some ([], [1, 2, 3, 4, 8]) | 12 => some ([], [1, 2, 3, 4, 8, 25]) | 14 => some ([], [1, 2, 3, 4, 8, 10]) | 27 => some ([], [1, 2, 3, 4, 8]) | 30 => some ([], [1, 2, 3, 4, 8, 10, 11]) | 52 => some ([], [8, 9]) | 53 => some ([], [8, 9]) | 124 => some ([], [1, 2, 3, 4, 8, 10, 11, 44]) | 251 => some ([], [1, 2, 3, 4, 8, 10, 11]) | 252 => some ([], [1, 2, 3, 8, 10, 11, 47, 48, 49]) | 254 => some ([], [8, 9]) | 255 => some ([], [8, 9]) | 500 => some ([], [8, 9]) | 501 => some ([], [8, 9]) | 506 => some ([⟨11, some 2, false, (.int .i8)⟩], [1, 2, 3, 8, 10, 11, 47, 48, 49]) | 2024 => some ([], [1, 2, 3, 8, 10, 11, 47, 48, 49, 50]) | 8100 => some ([], [1, 2, 3, 8, 10, 11, 47, 48, 49]) | 8101 => some ([], [8, 11]) | 8103 => some ([], [1, 2, 3, 8, 10, 11, 47, 48, 49]) | 32408 => some ([], [1, 2, 3, 8, 10, 11, 12, 13, 47, 48, 49]) | 64818 => some ([], [1, 2, 3, 8, 10, 11, 14, 47, 48, 49]) | 64819 => some ([], [1, 2, 3, 8, 10, 11, 47, 48, 49]) | _ => none
noncomputable def tensor_Small_b : Code := Tryd.f10.body.getD .skip
theorem tensor_Small_tab : TabOk Gtensor_Zero tensor_Small_ct tensor_Small_en tensor_Small_b := by
  intro n E hn f c hs x k h
  unfold tensor_Small_ct at hn
  split at hn
  · cases hn; exact tab_loop2 hs (by kernel_rfl) (fun y : Int × List Int => ⟨[(1, .pl (.int .i64 x.1.1)), (2, .pl (.int .u64 x.1.2.1)), (3, .pl (.int .u64 x.1.2.2.1)), (8, .ptr 0 0), (10, .pl (.int .i64 x.1.2.2.2.2.1)), (11, .ptr 1 0), (47, .fz false (.int .i32) x.1.2.2.2.2.2.2.1), (48, .pl (.int .i64 x.1.2.2.2.2.2.2.2.1)), (49, .pl (.int .i64 y.1))], [.box [.pl (.slice none 0 0), .pl (.int .i64 x.2.1.2.1), .pl (.slice none 0 0)] false, .box [.own 2, .pl (.int .i64 x.2.2.1.2.1), .own 3] false, .lst true (.int .i64) x.2.2.2.1 false, .lst true (.int .i8) y.2 false]⟩) (x.1.2.2.2.2.2.2.2.2.1, ([] : List Int)) (by kernel_rfl) (fun y X => by kernel_rfl) h
  · cases hn
def tensor_Small_sh : List Sh := [.agg [.fz false (.int .i64), .int .i64, .fz false (.int .i32)], .lf (.int .i64), .lf (.int .u64), .lf (.int .u64)]
def tensor_Small_d (x : denS tensor_Small_sh) (Q : List (Bool × List VV) → Prop) : Prop := tensor_Small (x.1.1, (x.1.2.1, x.1.2.2.1)) x.2.1 x.2.2.1 x.2.2.2.1 (fun (r : ((List Int) × Int × List Int) × Int) => Q (slotsA [(true, (.pair (.slc (.int .i64)) (.pair (.int .i64) (.slc (.int .i8))))), (false, (.int .i64))] [.n, .n] (r.1, (r.2, ()))))
theorem tensor_Small_snd (x : denS tensor_Small_sh) (Q : List (Bool × List VV) → Prop) (h : tensor_Small_d x Q) : Sound Tryd.prog 10 (packS tensor_Small_sh x) Q :=
  vfun_told [.n, .n] (G := Gtensor_Zero) (ct := tensor_Small_ct) (en := tensor_Small_en) (fn := Tryd.f10) (cd := tensor_Small_b) (rt := [(true, (.pair (.slc (.int .i64)) (.pair (.int .i64) (.slc (.int .i8))))), (false, (.int .i64))]) Tryd.func10 (by kernel_rfl) (by kernel_rfl) (Nat.le_of_ble_eq_true rfl) tensor_Small_tab Otensor_Zero_ok h (by kernel_rfl)
noncomputable def Otensor_Small : FuncId → List VV → (List (Bool × List VV) → Prop) → Prop := fun f args Q => if f = 10 then unA tensor_Small_sh args (fun x => tensor_Small_d x Q) else Otensor_Zero f args Q
theorem Otensor_Small_ok : ∀ f args Q, Otensor_Small f args Q → Sound Tryd.prog f args Q := tab_more Otensor_Zero_ok (f0 := 10) tensor_Small_sh (fun x Q => tensor_Small_d x Q) tensor_Small_snd
noncomputable def Gtensor_Small : Cfg := ⟨Tryd.prog, tt, Otensor_Small, fun _ _ _ => False⟩
end Go.Proofs.YtejbkafligpmbaaDoor
