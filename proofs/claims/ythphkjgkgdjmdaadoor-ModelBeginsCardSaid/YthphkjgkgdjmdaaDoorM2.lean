/- Plain texts of functions, as the value machine comes to them. No condition. -/
import Derived.Test.YthphkjgkgdjmdaaDoorM1
import Derived.Test.YthphkjgkgdjmdaaDoorProg
import Derived.KernelRfl
namespace Go.Proofs.YthphkjgkgdjmdaaDoor
open Go.Mach
set_option maxRecDepth 100000
set_option linter.unusedVariables false
structure internal_stringslite_HasSuffix (a0 a1 : ByteArray) (Q : Bool → Prop) : Prop where
  it : jn (fun (v1 : Bool) => Q v1) (fun J2 => if (decide ((a1.size : Int) ≤ (a0.size : Int))) = true then ck (True ∧ (0 : Int) ≤ (IntKind.i64.wrap ((a0.size : Int) - (a1.size : Int))) ∧ (IntKind.i64.wrap ((a0.size : Int) - (a1.size : Int))) ≤ (a0.data.toList.length : Int) ∧ (a0.data.toList.length : Int) ≤ (a0.data.toList.length : Int)) (J2 ((⟨((a0.data.toList.take ((a0.data.toList.length : Int)).toNat).drop (IntKind.i64.wrap ((a0.size : Int) - (a1.size : Int))).toNat).toArray⟩ : ByteArray).toList == a1.toList)) else J2 false)
noncomputable def internal_stringslite_HasSuffix_ct : Tab := fun n => none
noncomputable def internal_stringslite_HasSuffix_b : Code := (bod Tryd.f52).getD .skip
noncomputable def internal_stringslite_HasSuffix_en : Go.Mach.Ends := mkEn internal_stringslite_HasSuffix_b [4] []
theorem internal_stringslite_HasSuffix_tab : TabOk (T_model_Text.cfg tt none false 0) internal_stringslite_HasSuffix_ct internal_stringslite_HasSuffix_en internal_stringslite_HasSuffix_b := by
  intro n E hn f c hs x k h
  cases hn
def internal_stringslite_HasSuffix_sh : List Sh := [.lf (.str), .lf (.str)]
theorem internal_stringslite_HasSuffix_snd (x : denS internal_stringslite_HasSuffix_sh) (Q : QT) (h : internal_stringslite_HasSuffix x.1 x.2.1 (fun (r : Bool) => Q (slotsA [(false, .bool)] [.n] (r, ())))) : Sound Tryd.prog 52 (packS internal_stringslite_HasSuffix_sh x) Q := T_model_Text.told [.n] (rt := [(false, .bool)]) hI0 internal_stringslite_HasSuffix_tab Tryd.func52 (by kernel_rfl) (by kernel_rfl) (Nat.le_of_ble_eq_true rfl) h.it (by kernel_rfl)
noncomputable def T_internal_stringslite_HasSuffix : Tb Tryd.prog := T_model_Text.add 52 internal_stringslite_HasSuffix_sh internal_stringslite_HasSuffix_snd
structure internal_stringslite_CutSuffix (a0 a1 : ByteArray) (Q : (ByteArray × Bool) → Prop) : Prop where
  it : internal_stringslite_HasSuffix a0 a1 (fun (r1 : Bool) => if (!r1) = true then Q (a0, false) else ck (True ∧ (0 : Int) ≤ 0 ∧ (0 : Int) ≤ (IntKind.i64.wrap ((a0.size : Int) - (a1.size : Int))) ∧ (IntKind.i64.wrap ((a0.size : Int) - (a1.size : Int))) ≤ (a0.data.toList.length : Int)) (Q ((⟨((a0.data.toList.take (IntKind.i64.wrap ((a0.size : Int) - (a1.size : Int))).toNat).drop ((0 : Int)).toNat).toArray⟩ : ByteArray), true)))
noncomputable def internal_stringslite_CutSuffix_ct : Tab := fun n => none
noncomputable def internal_stringslite_CutSuffix_b : Code := (bod Tryd.f43).getD .skip
noncomputable def internal_stringslite_CutSuffix_en : Go.Mach.Ends := mkEn internal_stringslite_CutSuffix_b [4, 5] []
theorem internal_stringslite_CutSuffix_tab : TabOk (T_internal_stringslite_HasSuffix.cfg tt none false 0) internal_stringslite_CutSuffix_ct internal_stringslite_CutSuffix_en internal_stringslite_CutSuffix_b := by
  intro n E hn f c hs x k h
  cases hn
def internal_stringslite_CutSuffix_sh : List Sh := [.lf (.str), .lf (.str)]
theorem internal_stringslite_CutSuffix_snd (x : denS internal_stringslite_CutSuffix_sh) (Q : QT) (h : internal_stringslite_CutSuffix x.1 x.2.1 (fun (r : ByteArray × Bool) => Q (slotsA [(false, .str), (false, .bool)] [.n, .n] (r.1, (r.2, ()))))) : Sound Tryd.prog 43 (packS internal_stringslite_CutSuffix_sh x) Q := T_internal_stringslite_HasSuffix.told [.n, .n] (rt := [(false, .str), (false, .bool)]) hI0 internal_stringslite_CutSuffix_tab Tryd.func43 (by kernel_rfl) (by kernel_rfl) (Nat.le_of_ble_eq_true rfl) h.it (by kernel_rfl)
noncomputable def T_internal_stringslite_CutSuffix : Tb Tryd.prog := T_internal_stringslite_HasSuffix.add 43 internal_stringslite_CutSuffix_sh internal_stringslite_CutSuffix_snd
structure strings_CutSuffix (a0 a1 : ByteArray) (Q : (ByteArray × Bool) → Prop) : Prop where
  it : internal_stringslite_CutSuffix a0 a1 (fun (r1 : ByteArray × Bool) => Q (r1.1, r1.2))
noncomputable def strings_CutSuffix_ct : Tab := fun n => none
noncomputable def strings_CutSuffix_b : Code := (bod Tryd.f35).getD .skip
noncomputable def strings_CutSuffix_en : Go.Mach.Ends := mkEn strings_CutSuffix_b [4, 5] []
theorem strings_CutSuffix_tab : TabOk (T_internal_stringslite_CutSuffix.cfg tt none false 0) strings_CutSuffix_ct strings_CutSuffix_en strings_CutSuffix_b := by
  intro n E hn f c hs x k h
  cases hn
def strings_CutSuffix_sh : List Sh := [.lf (.str), .lf (.str)]
theorem strings_CutSuffix_snd (x : denS strings_CutSuffix_sh) (Q : QT) (h : strings_CutSuffix x.1 x.2.1 (fun (r : ByteArray × Bool) => Q (slotsA [(false, .str), (false, .bool)] [.n, .n] (r.1, (r.2, ()))))) : Sound Tryd.prog 35 (packS strings_CutSuffix_sh x) Q := T_internal_stringslite_CutSuffix.told [.n, .n] (rt := [(false, .str), (false, .bool)]) hI0 strings_CutSuffix_tab Tryd.func35 (by kernel_rfl) (by kernel_rfl) (Nat.le_of_ble_eq_true rfl) h.it (by kernel_rfl)
noncomputable def T_strings_CutSuffix : Tb Tryd.prog := T_internal_stringslite_CutSuffix.add 35 strings_CutSuffix_sh strings_CutSuffix_snd
def strings_Split (a0 : ByteArray) (a1 : ByteArray) (Q : List ByteArray → Prop) : Prop := (a0.size < 4294967281 ∧ 1 ≤ a1.size) ∧ Q (Go.Mach.splitS a0 a1)
def strings_Split_sh : List Sh := [.lf (.str), .lf (.str)]
def strings_Split_d (x : denS strings_Split_sh) (Q : List (Bool × List VV) → Prop) : Prop := strings_Split x.1 x.2.1 (fun (r : List ByteArray) => Q (slotsA [(false, .slc .str)] [.n] (r, ())))
theorem strings_Split_snd (x : denS strings_Split_sh) (Q : List (Bool × List VV) → Prop) (h : strings_Split_d x Q) : Sound Tryd.prog 41 (packS strings_Split_sh x) Q := by
  exact Go.Mach.split_snd _ _ Q h.1 h.2
noncomputable def T_strings_Split : Tb Tryd.prog := T_strings_CutSuffix.add 41 strings_Split_sh strings_Split_snd
def strconv_Atoi (a0 : ByteArray) (Q : Int × Bool → Prop) : Prop := (a0.size ≤ 281474976710656) ∧ Q (Go.Mach.atoiS a0)
def strconv_Atoi_sh : List Sh := [.lf (.str)]
def strconv_Atoi_d (x : denS strconv_Atoi_sh) (Q : List (Bool × List VV) → Prop) : Prop := strconv_Atoi x.1 (fun (r : Int × Bool) => Q [(false, [.pl (.int .i64 r.1)]), (false, [.er r.2])])
theorem strconv_Atoi_snd (x : denS strconv_Atoi_sh) (Q : List (Bool × List VV) → Prop) (h : strconv_Atoi_d x Q) : Sound Tryd.prog 42 (packS strconv_Atoi_sh x) Q := by
  exact Go.Mach.atoi_snd _ Q h.1 h.2
noncomputable def T_strconv_Atoi : Tb Tryd.prog := T_strings_Split.add 42 strconv_Atoi_sh strconv_Atoi_snd
def model_cut_n0_B (x0 : List ByteArray) (x1 : Int) (K0 : (List Int) → Prop) (K1 : ByteArray → Prop) (s : Int × List Int) (nx : (Int × List Int) → Prop) : Prop :=
  if (decide (s.1 < x1)) = true then ck ((0 : Int) ≤ s.1 ∧ s.1 < (x0.length : Int)) (strconv_Atoi (x0.getD ((s.1).toNat) ByteArray.empty) (fun (r6 : Int × Bool) => jn (fun (v7 : Bool) => if v7 = true then K1 ByteArray.empty else ck ((s.2.length + [r6.1].length) * 8 ≤ 140737488355328) (nx (IntKind.i64.wrap (s.1 + 1), s.2 ++ [r6.1]))) (fun J8 => if (((!r6.2) || (decide (r6.1 < 0))) || (decide (4 < ((x0.getD ((s.1).toNat) ByteArray.empty).size : Int)))) = true then J8 true else strconv_Itoa r6.1 (fun (r9 : ByteArray) => J8 (!(r9.toList == (x0.getD ((s.1).toNat) ByteArray.empty).toList)))))) else K0 s.2
structure model_cut_n0 (x0 : List ByteArray) (x1 : Int) (K0 : (List Int) → Prop) (K1 : ByteArray → Prop) (s : Int × List Int) : Prop where
  it : Go.Mach.Loop (model_cut_n0_B x0 x1 K0 K1) s
structure model_cut (a0 : ByteArray) (Q : (DD55 × Bool) → Prop) : Prop where
  it : strings_Split a0 (⟨#[32]⟩ : ByteArray) (fun (r1 : List ByteArray) => ck ((0 : Int) ≤ 0 ∧ 0 < (r1.length : Int)) (ck (True ∧ (0 : Int) ≤ 1 ∧ (1 : Int) ≤ (r1.length : Int) ∧ (r1.length : Int) ≤ (r1.length : Int)) (model_cut_n0 ((r1.take ((r1.length : Int)).toNat).drop ((1 : Int)).toNat) (((r1.take ((r1.length : Int)).toNat).drop ((1 : Int)).toNat).length : Int) (fun (y10 : List Int) => Q (((r1.getD 0 ByteArray.empty), y10), true)) (fun (y11 : ByteArray) => Q ((y11, ([] : List Int)), false)) (0, ([] : List Int)))))
noncomputable def model_cut_e0 : Ent := ⟨[2, 5, 17, 18, 19], [sC (.ptr 0 0), sC (.ptr 1 0), .lf (.fz true .str), sI, sI], [.box [.str, .cst (.pl (.slice none 0 0))] false, .box [.str, .cst (.pl (.slice none 0 0))] false], fun x k => model_cut_n0 x.1.2.2.1 x.1.2.2.2.1 (fun (y12 : List Int) => k (.exit 0) ⟨[(2, .ptr 0 0), (5, .ptr 1 0)], [.box [.pl (.string x.2.1.1), .pl (.slice none 0 0)] false, .box [.pl (.string x.2.2.1.1), .own 2] false, .lst true (.int .i64) y12 false]⟩) (fun (y13 : ByteArray) => k .ret ⟨[(2, .ptr 0 0), (3, vB false)], [.box [.pl (.string y13), .pl (.slice none 0 0)] false]⟩) (x.1.2.2.2.2.1, ([] : List Int))⟩
noncomputable def model_cut_ct : Tab := fun n => match n with | 122 => some model_cut_e0 | _ => none
noncomputable def model_cut_b : Code := (bod Tryd.f34).getD .skip
noncomputable def model_cut_en : Go.Mach.Ends := mkEn model_cut_b [2, 3] [(122, [⟨5, some 1, false, (.int .i64)⟩])]
theorem model_cut_tab : TabOk (T_strconv_Atoi.cfg tt none false 0) model_cut_ct model_cut_en model_cut_b := by
  intro n E hn f c hs x k h
  unfold model_cut_ct at hn
  split at hn
  · cases hn; exact tab_loop2 rfl hs (by kernel_rfl) (fun y : Int × List Int => ⟨[(2, .ptr 0 0), (5, .ptr 1 0), (17, vT .str x.1.2.2.1), (18, vI x.1.2.2.2.1), (19, vI y.1)], [.box [.pl (.string x.2.1.1), .pl (.slice none 0 0)] false, .box [.pl (.string x.2.2.1.1), .own 2] false, .lst true (.int .i64) y.2 false]⟩) (x.1.2.2.2.2.1, ([] : List Int)) (by kernel_rfl) (fun y X => by kernel_rfl) h.it
  · cases hn
def model_cut_sh : List Sh := [.lf (.str)]
theorem model_cut_snd (x : denS model_cut_sh) (Q : QT) (h : model_cut x.1 (fun (r : DD55 × Bool) => Q (slotsA [(true, TT55), (false, .bool)] [.n, .n] (r.1, (r.2, ()))))) : Sound Tryd.prog 34 (packS model_cut_sh x) Q := T_strconv_Atoi.told [.n, .n] (rt := [(true, TT55), (false, .bool)]) hI0 model_cut_tab Tryd.func34 (by kernel_rfl) (by kernel_rfl) (Nat.le_of_ble_eq_true rfl) h.it (by kernel_rfl)
noncomputable def T_model_cut : Tb Tryd.prog := T_strconv_Atoi.add 34 model_cut_sh model_cut_snd
structure model_layer (a0 : ByteArray) (Q : (DD34 × Bool) → Prop) : Prop where
  it : strings_CutSuffix a0 sc_0481102b (fun (r1 : ByteArray × Bool) => model_cut r1.1 (fun (r2 : DD55 × Bool) => if ((!r2.2) || ((r1.2 && (!(r2.1.1.toList == sc_d6a98598.toList))) && (!(r2.1.1.toList == (⟨#[99, 111, 110, 118]⟩ : ByteArray).toList)))) = true then Q ((0, (0, (0, (0, (0, (0, false)))))), false) else if (r2.1.1.toList == sc_d6a98598.toList) = true then if (((1 : Int) == 0) || ((r2.1.2.length : Int) != 1)) = true then Q ((0, (0, (0, (0, (0, (0, false)))))), false) else ck ((0 : Int) ≤ 0 ∧ 0 < (r2.1.2.length : Int)) (Q ((1, (r2.1.2.getD 0 0, (0, (0, (0, (0, r1.2)))))), true)) else if (r2.1.1.toList == (⟨#[99, 111, 110, 118]⟩ : ByteArray).toList) = true then if (((2 : Int) == 0) || ((r2.1.2.length : Int) != 4)) = true then Q ((0, (0, (0, (0, (0, (0, false)))))), false) else ck ((0 : Int) ≤ 0 ∧ 0 < (r2.1.2.length : Int)) (ck ((0 : Int) ≤ 1 ∧ 1 < (r2.1.2.length : Int)) (ck ((0 : Int) ≤ 2 ∧ 2 < (r2.1.2.length : Int)) (ck ((0 : Int) ≤ 3 ∧ 3 < (r2.1.2.length : Int)) (Q ((2, (r2.1.2.getD 0 0, (r2.1.2.getD 1 0, (r2.1.2.getD 2 0, (r2.1.2.getD 3 0, (0, r1.2)))))), true))))) else if (r2.1.1.toList == (⟨#[109, 97, 120]⟩ : ByteArray).toList) = true then if (((3 : Int) == 0) || ((r2.1.2.length : Int) != 2)) = true then Q ((0, (0, (0, (0, (0, (0, false)))))), false) else ck ((0 : Int) ≤ 0 ∧ 0 < (r2.1.2.length : Int)) (ck ((0 : Int) ≤ 1 ∧ 1 < (r2.1.2.length : Int)) (Q ((3, (0, (r2.1.2.getD 0 0, (r2.1.2.getD 1 0, (0, (0, r1.2)))))), true))) else if (r2.1.1.toList == (⟨#[97, 118, 103]⟩ : ByteArray).toList) = true then if (((4 : Int) == 0) || ((r2.1.2.length : Int) != 2)) = true then Q ((0, (0, (0, (0, (0, (0, false)))))), false) else ck ((0 : Int) ≤ 0 ∧ 0 < (r2.1.2.length : Int)) (ck ((0 : Int) ≤ 1 ∧ 1 < (r2.1.2.length : Int)) (Q ((4, (0, (r2.1.2.getD 0 0, (r2.1.2.getD 1 0, (0, (0, r1.2)))))), true))) else if (r2.1.1.toList == (⟨#[114, 101, 108, 117]⟩ : ByteArray).toList) = true then if (((5 : Int) == 0) || ((r2.1.2.length : Int) != 0)) = true then Q ((0, (0, (0, (0, (0, (0, false)))))), false) else Q ((5, (0, (0, (0, (0, (0, r1.2)))))), true) else if (r2.1.1.toList == (⟨#[102, 108, 97, 116]⟩ : ByteArray).toList) = true then if (((6 : Int) == 0) || ((r2.1.2.length : Int) != 0)) = true then Q ((0, (0, (0, (0, (0, (0, false)))))), false) else Q ((6, (0, (0, (0, (0, (0, r1.2)))))), true) else if (r2.1.1.toList == (⟨#[97, 100, 100]⟩ : ByteArray).toList) = true then if (((7 : Int) == 0) || ((r2.1.2.length : Int) != 1)) = true then Q ((0, (0, (0, (0, (0, (0, false)))))), false) else ck ((0 : Int) ≤ 0 ∧ 0 < (r2.1.2.length : Int)) (Q ((7, (0, (0, (0, (0, (r2.1.2.getD 0 0, r1.2)))))), true)) else if (((0 : Int) == 0) || ((r2.1.2.length : Int) != 0)) = true then Q ((0, (0, (0, (0, (0, (0, false)))))), false) else Q ((0, (0, (0, (0, (0, (0, r1.2)))))), true)))
noncomputable def model_layer_ct : Tab := fun n => none
noncomputable def model_layer_b : Code := (bod Tryd.f19).getD .skip
noncomputable def model_layer_en : Go.Mach.Ends := mkEn model_layer_b [2, 3] []
theorem model_layer_tab : TabOk (T_model_cut.cfg tt none false 5) model_layer_ct model_layer_en model_layer_b := by
  intro n E hn f c hs x k h
  cases hn
def model_layer_sh : List Sh := [.lf (.str)]
theorem model_layer_snd (x : denS model_layer_sh) (Q : QT) (h : model_layer x.1 (fun (r : DD34 × Bool) => Q (slotsA [(true, TT34), (false, .bool)] [.n, .n] (r.1, (r.2, ()))))) : Sound Tryd.prog 19 (packS model_layer_sh x) Q := T_model_cut.told [.n, .n] (rt := [(true, TT34), (false, .bool)]) hI0 model_layer_tab Tryd.func19 (by kernel_rfl) (by kernel_rfl) (Nat.le_of_ble_eq_true rfl) h.it (by kernel_rfl)
noncomputable def T_model_layer : Tb Tryd.prog := T_model_cut.add 19 model_layer_sh model_layer_snd
structure model_first (a0 : ByteArray) (Q : ((Int × Int × Int) × Bool) → Prop) : Prop where
  it : model_cut a0 (fun (r1 : DD55 × Bool) => jn (fun (v2 : Bool) => if v2 = true then Q ((0, (0, 0)), false) else ck (3 ≤ List.length r1.1.2) (ck (0 + 3 ≤ List.length r1.1.2) (Q ((r1.1.2.getD 0 0, (r1.1.2.getD 1 0, r1.1.2.getD 2 0)), true)))) (fun J3 => if (((!r1.2) || (!(r1.1.1.toList == (⟨#[105, 110]⟩ : ByteArray).toList))) || ((r1.1.2.length : Int) != 3)) = true then J3 true else ck (3 ≤ List.length r1.1.2) (ck (0 + 3 ≤ List.length r1.1.2) (model_enters (r1.1.2.getD 0 0, (r1.1.2.getD 1 0, r1.1.2.getD 2 0)) (fun (r4 : Bool) => J3 (!r4))))))
noncomputable def model_first_ct : Tab := fun n => none
noncomputable def model_first_b : Code := (bod Tryd.f18).getD .skip
noncomputable def model_first_en : Go.Mach.Ends := mkEn model_first_b [2, 3] []
theorem model_first_tab : TabOk (T_model_layer.cfg tt none false 0) model_first_ct model_first_en model_first_b := by
  intro n E hn f c hs x k h
  cases hn
def model_first_sh : List Sh := [.lf (.str)]
theorem model_first_snd (x : denS model_first_sh) (Q : QT) (h : model_first x.1 (fun (r : (Int × Int × Int) × Bool) => Q (slotsA [(true, (.pair (.int .i64) (.pair (.int .i64) (.int .i64)))), (false, .bool)] [.n, .n] (r.1, (r.2, ()))))) : Sound Tryd.prog 18 (packS model_first_sh x) Q := T_model_layer.told [.n, .n] (rt := [(true, (.pair (.int .i64) (.pair (.int .i64) (.int .i64)))), (false, .bool)]) hI0 model_first_tab Tryd.func18 (by kernel_rfl) (by kernel_rfl) (Nat.le_of_ble_eq_true rfl) h.it (by kernel_rfl)
noncomputable def T_model_first : Tb Tryd.prog := T_model_layer.add 18 model_first_sh model_first_snd
def strings_Cut (a0 : ByteArray) (a1 : ByteArray) (Q : ByteArray × ByteArray × Bool → Prop) : Prop := (a0.size < 4294967281) ∧ Q (Go.Mach.cutS a0 a1)
def strings_Cut_sh : List Sh := [.lf (.str), .lf (.str)]
def strings_Cut_d (x : denS strings_Cut_sh) (Q : List (Bool × List VV) → Prop) : Prop := strings_Cut x.1 x.2.1 (fun (r : ByteArray × ByteArray × Bool) => Q (slotsA [(false, .str), (false, .str), (false, .bool)] [.n, .n, .n] (r.1, r.2.1, r.2.2, ())))
theorem strings_Cut_snd (x : denS strings_Cut_sh) (Q : List (Bool × List VV) → Prop) (h : strings_Cut_d x Q) : Sound Tryd.prog 17 (packS strings_Cut_sh x) Q := by
  exact Go.Mach.cut_snd _ _ Q h.1 h.2
noncomputable def T_strings_Cut : Tb Tryd.prog := T_model_first.add 17 strings_Cut_sh strings_Cut_snd
structure model_Parse_n0  (K0 : Unit → Prop) : Prop where
  it : K0 ()
def model_Parse_n1_B  (K0 : (Int × Int) → Prop) (K1 : (Int × Int × Int × List DD34) → Prop) (s : ByteArray × Int × Int × Int × Int × Int × Int × Int × Int × Int × Int × Bool × List DD34) (nx : (ByteArray × Int × Int × Int × Int × Int × Int × Int × Int × Int × Int × Bool × List DD34) → Prop) : Prop :=
  if ((s.1.toList == (⟨#[]⟩ : ByteArray).toList) && (decide (2 < (IntKind.i64.wrap (s.2.1 + 1))))) = true then K1 (s.2.2.1, s.2.2.2.1, s.2.2.2.2.1, s.2.2.2.2.2.2.2.2.2.2.2.2) else strings_Cut s.1 (⟨#[10]⟩ : ByteArray) (fun (r8 : ByteArray × ByteArray × Bool) => if (!r8.2.2) = true then K0 (IntKind.i64.wrap (s.2.1 + 1), 5) else if ((IntKind.i64.wrap (s.2.1 + 1)) == 1) = true then model_first r8.1 (fun (r9 : (Int × Int × Int) × Bool) => if (!r9.2) = true then K0 (IntKind.i64.wrap (s.2.1 + 1), 5) else nx (r8.2.1, IntKind.i64.wrap (s.2.1 + 1), r9.1.1, r9.1.2.1, r9.1.2.2, s.2.2.2.2.2.1, s.2.2.2.2.2.2.1, s.2.2.2.2.2.2.2.1, s.2.2.2.2.2.2.2.2.1, s.2.2.2.2.2.2.2.2.2.1, s.2.2.2.2.2.2.2.2.2.2.1, s.2.2.2.2.2.2.2.2.2.2.2.1, s.2.2.2.2.2.2.2.2.2.2.2.2)) else model_layer r8.1 (fun (r10 : DD34 × Bool) => jn (fun (v11 : Bool) => if v11 = true then K0 (IntKind.i64.wrap (s.2.1 + 1), 5) else if ((s.2.2.2.2.2.2.2.2.2.2.2.2.length : Int) == 12) = true then K0 (IntKind.i64.wrap (s.2.1 + 1), 10) else ck ((s.2.2.2.2.2.2.2.2.2.2.2.2.length + [r10.1].length) * 56 ≤ 140737488355328) (nx (r8.2.1, IntKind.i64.wrap (s.2.1 + 1), s.2.2.1, s.2.2.2.1, s.2.2.2.2.1, r10.1.1, r10.1.2.1, r10.1.2.2.1, r10.1.2.2.2.1, r10.1.2.2.2.2.1, r10.1.2.2.2.2.2.1, r10.1.2.2.2.2.2.2, s.2.2.2.2.2.2.2.2.2.2.2.2 ++ [r10.1]))) (fun J12 => if (!r10.2) = true then J12 true else model_may r10.1 (s.2.2.2.2.2.2.2.2.2.2.2.2.length : Int) (fun (r13 : Bool) => J12 (!r13)))))
structure model_Parse_n1  (K0 : (Int × Int) → Prop) (K1 : (Int × Int × Int × List DD34) → Prop) (s : ByteArray × Int × Int × Int × Int × Int × Int × Int × Int × Int × Int × Bool × List DD34) : Prop where
  it : Go.Mach.Loop (model_Parse_n1_B K0 K1) s
structure model_Parse (a0 : ByteArray) (Q : (DD25 × Int × Int) → Prop) : Prop where
  it : if (decide (2000 < (a0.size : Int))) = true then model_Parse_n0 (fun (y1 : Unit) => Q (((0, (0, 0)), ([] : List DD34)), 0, 10)) else model_Parse_n1 (fun (y14 : Int × Int) => model_Parse_n0 (fun (y15 : Unit) => Q (((0, (0, 0)), ([] : List DD34)), y14.1, y14.2))) (fun (y16 : Int × Int × Int × List DD34) => Q (((y16.1, (y16.2.1, y16.2.2.1)), y16.2.2.2), 0, 0)) (a0, 0, 0, 0, 0, 0, 0, 0, 0, 0, 0, false, ([] : List DD34))
noncomputable def model_Parse_e0 : Ent := ⟨[2, 7, 8], [sC (.ptr 0 0), sI, sI], [.box [lI, lI, lI, .cst (.pl (.slice none 0 0))] false], fun x k => model_Parse_n0 (fun (y17 : Unit) => k .ret ⟨[(2, .ptr 0 0), (3, vI x.1.2.1), (4, vI x.1.2.2.1)], [.box [vI 0, vI 0, vI 0, .pl (.slice none 0 0)] false]⟩)⟩
noncomputable def model_Parse_e1 : Ent := ⟨[0, 2, 5, 6, 7], [.lf (.str), sC (.ptr 0 0), sC (.ptr 1 0), sC (.ptr 2 0), sI], [.box [lI, lI, lI, .cst (.pl (.slice none 0 0))] false, .box [lI, lI, lI, .cst (.pl (.slice none 0 0))] false, .box [lI, lI, lI, lI, lI, lI, lB] false], fun x k => model_Parse_n1 (fun (y18 : Int × Int) => k (.exit 1000002) ⟨[(2, .ptr 0 0), (7, vI y18.1), (8, vI y18.2)], [.box [vI x.2.1.1, vI x.2.1.2.1, vI x.2.1.2.2.1, .pl (.slice none 0 0)] false]⟩) (fun (y19 : Int × Int × Int × List DD34) => k .ret ⟨[(2, .ptr 0 0), (3, vI 0), (4, vI 0)], [.box [vI y19.1, vI y19.2.1, vI y19.2.2.1, .own 1] false, .lst true TT34 y19.2.2.2 false]⟩) (x.1.1, x.1.2.2.2.2.1, x.2.2.1.1, x.2.2.1.2.1, x.2.2.1.2.2.1, x.2.2.2.1.1, x.2.2.2.1.2.1, x.2.2.2.1.2.2.1, x.2.2.2.1.2.2.2.1, x.2.2.2.1.2.2.2.2.1, x.2.2.2.1.2.2.2.2.2.1, x.2.2.2.1.2.2.2.2.2.2.1, ([] : List DD34))⟩
noncomputable def model_Parse_ct : Tab := fun n => match n with | 7 => some model_Parse_e0 | 25 => some model_Parse_e1 | _ => none
noncomputable def model_Parse_b : Code := (bod Tryd.f9).getD .skip
noncomputable def model_Parse_en : Go.Mach.Ends := mkEn model_Parse_b [2, 3, 4] [(25, [⟨5, some 3, false, TT34⟩])]
theorem model_Parse_tab : TabOk (T_strings_Cut.cfg tt none false 0) model_Parse_ct model_Parse_en model_Parse_b := by
  intro n E hn f c hs x k h
  unfold model_Parse_ct at hn
  split at hn
  · cases hn; exact tab_node2 hs (by kernel_rfl) (by kernel_rfl) h.it
  · cases hn; exact tab_loop2 rfl hs (by kernel_rfl) (fun y : ByteArray × Int × Int × Int × Int × Int × Int × Int × Int × Int × Int × Bool × List DD34 => ⟨[(0, .pl (.string y.1)), (2, .ptr 0 0), (5, .ptr 1 0), (6, .ptr 2 0), (7, vI y.2.1)], [.box [vI x.2.1.1, vI x.2.1.2.1, vI x.2.1.2.2.1, .pl (.slice none 0 0)] false, .box [vI y.2.2.1, vI y.2.2.2.1, vI y.2.2.2.2.1, .own 3] false, .box [vI y.2.2.2.2.2.1, vI y.2.2.2.2.2.2.1, vI y.2.2.2.2.2.2.2.1, vI y.2.2.2.2.2.2.2.2.1, vI y.2.2.2.2.2.2.2.2.2.1, vI y.2.2.2.2.2.2.2.2.2.2.1, vB y.2.2.2.2.2.2.2.2.2.2.2.1] false, .lst true TT34 y.2.2.2.2.2.2.2.2.2.2.2.2 false]⟩) (x.1.1, x.1.2.2.2.2.1, x.2.2.1.1, x.2.2.1.2.1, x.2.2.1.2.2.1, x.2.2.2.1.1, x.2.2.2.1.2.1, x.2.2.2.1.2.2.1, x.2.2.2.1.2.2.2.1, x.2.2.2.1.2.2.2.2.1, x.2.2.2.1.2.2.2.2.2.1, x.2.2.2.1.2.2.2.2.2.2.1, ([] : List DD34)) (by kernel_rfl) (fun y X => by kernel_rfl) h.it
  · cases hn
def model_Parse_sh : List Sh := [.lf (.str)]
theorem model_Parse_snd (x : denS model_Parse_sh) (Q : QT) (h : model_Parse x.1 (fun (r : DD25 × Int × Int) => Q (slotsA [(true, TT25), (false, (.int .i64)), (false, (.int .i64))] [.n, .n, .n] (r.1, (r.2.1, (r.2.2, ())))))) : Sound Tryd.prog 9 (packS model_Parse_sh x) Q := T_strings_Cut.told [.n, .n, .n] (rt := [(true, TT25), (false, (.int .i64)), (false, (.int .i64))]) hI0 model_Parse_tab Tryd.func9 (by kernel_rfl) (by kernel_rfl) (Nat.le_of_ble_eq_true rfl) h.it (by kernel_rfl)
noncomputable def T_model_Parse : Tb Tryd.prog := T_strings_Cut.add 9 model_Parse_sh model_Parse_snd
def sc_e1296f34 : ByteArray := ⟨#[105, 110, 32, 49, 32, 49, 32, 50, 10, 102, 108, 97, 116, 10, 100, 101, 110, 115, 101, 32, 51, 10]⟩
structure pedagoguelaw15_awake  (Q : Bool → Prop) : Prop where
  it : model_Parse sc_e1296f34 (fun (r1 : DD25 × Int × Int) => jn (fun (v2 : Bool) => Q v2) (fun J3 => if (((r1.2.2 == 0) && (r1.2.1 == 0)) && ((r1.1.2.length : Int) == 2)) = true then ck ((0 : Int) ≤ 1 ∧ 1 < (r1.1.2.length : Int)) (J3 ((((r1.1.2.getD 1 (0, (0, (0, (0, (0, (0, false))))))).2).1) == 3)) else J3 false))
noncomputable def pedagoguelaw15_awake_ct : Tab := fun n => none
noncomputable def pedagoguelaw15_awake_b : Code := (bod Tryd.f8).getD .skip
noncomputable def pedagoguelaw15_awake_en : Go.Mach.Ends := mkEn pedagoguelaw15_awake_b [0] []
theorem pedagoguelaw15_awake_tab : TabOk (T_model_Parse.cfg tt none false 0) pedagoguelaw15_awake_ct pedagoguelaw15_awake_en pedagoguelaw15_awake_b := by
  intro n E hn f c hs x k h
  cases hn
def pedagoguelaw15_awake_sh : List Sh := []
theorem pedagoguelaw15_awake_snd (x : denS pedagoguelaw15_awake_sh) (Q : QT) (h : pedagoguelaw15_awake (fun (r : Bool) => Q (slotsA [(false, .bool)] [.n] (r, ())))) : Sound Tryd.prog 8 (packS pedagoguelaw15_awake_sh x) Q := T_model_Parse.told [.n] (rt := [(false, .bool)]) hI0 pedagoguelaw15_awake_tab Tryd.func8 (by kernel_rfl) (by kernel_rfl) (Nat.le_of_ble_eq_true rfl) h.it (by kernel_rfl)
noncomputable def T_pedagoguelaw15_awake : Tb Tryd.prog := T_model_Parse.add 8 pedagoguelaw15_awake_sh pedagoguelaw15_awake_snd
end Go.Proofs.YthphkjgkgdjmdaaDoor
