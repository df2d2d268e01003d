/- Plain texts of functions, as the value machine comes to them. No condition. -/
import Derived.Test.YtmleeffinagncaaP4
import Derived.Test.YtmleeffinagncaaProg
import Derived.KernelRfl
namespace Go.Proofs.Ytmleeffinagncaa
open Go.Mach
set_option maxRecDepth 100000
set_option linter.unusedVariables false
def pedagogueref1_Out_t (a0 : Int) (a1 : Int) (a2 : Int) (a3 : Int) (Q : Int → Prop) : Prop :=
  if (((((((((decide (a0 < 1)) || (decide (16 < a0))) || (decide (a1 < 1))) || (decide (5 < a1))) || (decide (a2 < 1))) || (decide (4 < a2))) || (decide (a3 < 0))) || (decide (a1 ≤ a3))) || (decide ((IntKind.i64.wrap (a0 + (IntKind.i64.wrap (2 * a3)))) < a1))) = true then Q 0 else ck (a2 ≠ (0 : Int)) (Q (IntKind.i64.wrap ((IntKind.i64.wrap ((IntKind.i64.wrap ((IntKind.i64.wrap (a0 + (IntKind.i64.wrap (2 * a3)))) - a1)).tdiv a2)) + 1)))
structure pedagogueref1_Out (a0 : Int) (a1 : Int) (a2 : Int) (a3 : Int) (Q : Int → Prop) : Prop where
  it : pedagogueref1_Out_t a0 a1 a2 a3 Q
noncomputable def pedagogueref1_Out_ct : Tab := fun n => none
noncomputable def pedagogueref1_Out_en : Go.Mach.Ends := fun n => match n with | 2 => some ([], [0, 1, 2, 3]) | 12 => some ([], [0, 1, 2, 3, 47]) | 14 => some ([], [8]) | 15 => some ([], [8]) | 27 => some ([], [0, 1, 2, 3]) | 52 => some ([], [8]) | 53 => some ([], [8]) | _ => none
noncomputable def pedagogueref1_Out_b : Code := Try.f11.body.getD .skip
theorem pedagogueref1_Out_tab : TabOk Gconv_Input pedagogueref1_Out_ct pedagogueref1_Out_en pedagogueref1_Out_b := by
  intro n E hn f c hs x k h
  cases hn
def pedagogueref1_Out_sh : List Sh := [.lf (.int .i64), .lf (.int .i64), .lf (.int .i64), .lf (.int .i64)]
def pedagogueref1_Out_d (x : denS pedagogueref1_Out_sh) (Q : List (Bool × List VV) → Prop) : Prop := pedagogueref1_Out x.1 x.2.1 x.2.2.1 x.2.2.2.1 (fun (r : Int) => Q (slotsA [(false, (.int .i64))] [.n] (r, ())))
theorem pedagogueref1_Out_snd (x : denS pedagogueref1_Out_sh) (Q : List (Bool × List VV) → Prop) (h : pedagogueref1_Out_d x Q) : Sound Try.prog 11 (packS pedagogueref1_Out_sh x) Q :=
  vfun_told [.n] (G := Gconv_Input) (ct := pedagogueref1_Out_ct) (en := pedagogueref1_Out_en) (fn := Try.f11) (cd := pedagogueref1_Out_b) (rt := [(false, (.int .i64))]) Try.func11 (by kernel_rfl) (by kernel_rfl) (Nat.le_of_ble_eq_true rfl) pedagogueref1_Out_tab Oconv_Input_ok h.it (by kernel_rfl)
noncomputable def Opedagogueref1_Out : FuncId → List VV → (List (Bool × List VV) → Prop) → Prop := fun f args Q => if f = 11 then unA pedagogueref1_Out_sh args (fun x => pedagogueref1_Out_d x Q) else Oconv_Input f args Q
theorem Opedagogueref1_Out_ok : ∀ f args Q, Opedagogueref1_Out f args Q → Sound Try.prog f args Q := tab_more Oconv_Input_ok (f0 := 11) pedagogueref1_Out_sh (fun x Q => pedagogueref1_Out_d x Q) pedagogueref1_Out_snd
noncomputable def Gpedagogueref1_Out : Cfg := ⟨Try.prog, tt, Opedagogueref1_Out, fun _ _ _ => False⟩
def pedagogueref1_MayDims_n0_B (x1 : List Int) (x2 : Int) (K0 : Unit → Prop) (K1 : Unit → Prop) (s : Int × Int) (nx : (Int × Int) → Prop) : Prop :=
  if (decide (s.2 < x2)) = true then ck ((0 : Int) ≤ s.2 ∧ s.2 < (x1.length : Int)) (jn (fun (v1 : Bool) => if v1 = true then K1 () else nx (IntKind.i64.wrap (s.1 * (x1.getD ((s.2).toNat) 0)), IntKind.i64.wrap (s.2 + 1))) (fun J2 => if ((decide ((x1.getD ((s.2).toNat) 0) < 1)) || (decide (4096 < (x1.getD ((s.2).toNat) 0)))) = true then J2 true else ck ((x1.getD ((s.2).toNat) 0) ≠ (0 : Int)) (J2 (decide ((IntKind.i64.wrap (((8192 : Int)).tdiv (x1.getD ((s.2).toNat) 0))) < s.1))))) else K0 ()
structure pedagogueref1_MayDims_n0 (x1 : List Int) (x2 : Int) (K0 : Unit → Prop) (K1 : Unit → Prop) (s : Int × Int) : Prop where
  it : Go.Mach.Loop (pedagogueref1_MayDims_n0_B x1 x2 K0 K1) s
def pedagogueref1_MayDims_t (a0 : List Int) (Q : Bool → Prop) : Prop :=
  if ((decide ((a0.length : Int) < 1)) || (decide (4 < (a0.length : Int)))) = true then Q false else pedagogueref1_MayDims_n0 a0 (a0.length : Int) (fun (y3 : Unit) => Q true) (fun (y4 : Unit) => Q false) (1, 0)
structure pedagogueref1_MayDims (a0 : List Int) (Q : Bool → Prop) : Prop where
  it : pedagogueref1_MayDims_t a0 Q
noncomputable def pedagogueref1_MayDims_e0 : Ent := ⟨[3, 14, 15, 16], [.lf (.int .i64), .lf (.fz false (.int .i64)), .lf (.int .i64), .lf (.int .i64)], [], fun x k => pedagogueref1_MayDims_n0 x.1.2.1 x.1.2.2.1 (fun (y5 : Unit) => k (.exit 0) ⟨[], []⟩) (fun (y6 : Unit) => k .ret ⟨[(2, .pl (.bool false))], []⟩) (x.1.1, x.1.2.2.2.1)⟩
noncomputable def pedagogueref1_MayDims_ct : Tab := fun n => match n with | 122 => some pedagogueref1_MayDims_e0 | _ => none
noncomputable def pedagogueref1_MayDims_en : Go.Mach.Ends := fun n => match n with | 2 => some ([], [0]) | 12 => some ([], [0, 13]) | 14 => some ([], [0, 3]) | 27 => some ([], [0]) | 52 => some ([], [2]) | 53 => some ([], [2]) | 60 => some ([], [3, 14, 15, 16]) | 62 => some ([], [2]) | 63 => some ([], [2]) | 122 => some ([], [3, 14, 15, 16]) | 488 => some ([], [3, 14, 15, 16, 17]) | 1956 => some ([], [3, 14, 15, 16]) | 1957 => some ([], []) | 1959 => some ([], [3, 14, 15, 16]) | 7832 => some ([], [3, 5, 14, 15, 16]) | 15667 => some ([], [3, 14, 15, 16]) | 31332 => some ([], [3, 5, 14, 15, 16, 31]) | 62667 => some ([], [3, 5, 14, 15, 16]) | 125332 => some ([], [2]) | 125333 => some ([], [2]) | _ => none
noncomputable def pedagogueref1_MayDims_b : Code := Try.f42.body.getD .skip
theorem pedagogueref1_MayDims_tab : TabOk Gpedagogueref1_Out pedagogueref1_MayDims_ct pedagogueref1_MayDims_en pedagogueref1_MayDims_b := by
  intro n E hn f c hs x k h
  unfold pedagogueref1_MayDims_ct at hn
  split at hn
  · cases hn; exact tab_loop2 hs (by kernel_rfl) (fun y : Int × Int => ⟨[(3, .pl (.int .i64 y.1)), (14, .fz false (.int .i64) x.1.2.1), (15, .pl (.int .i64 x.1.2.2.1)), (16, .pl (.int .i64 y.2))], []⟩) (x.1.1, x.1.2.2.2.1) (by kernel_rfl) (fun y X => by kernel_rfl) h.it
  · cases hn
def pedagogueref1_MayDims_sh : List Sh := [.lf (.fz false (.int .i64))]
def pedagogueref1_MayDims_d (x : denS pedagogueref1_MayDims_sh) (Q : List (Bool × List VV) → Prop) : Prop := pedagogueref1_MayDims x.1 (fun (r : Bool) => Q (slotsA [(false, .bool)] [.n] (r, ())))
theorem pedagogueref1_MayDims_snd (x : denS pedagogueref1_MayDims_sh) (Q : List (Bool × List VV) → Prop) (h : pedagogueref1_MayDims_d x Q) : Sound Try.prog 42 (packS pedagogueref1_MayDims_sh x) Q :=
  vfun_told [.n] (G := Gpedagogueref1_Out) (ct := pedagogueref1_MayDims_ct) (en := pedagogueref1_MayDims_en) (fn := Try.f42) (cd := pedagogueref1_MayDims_b) (rt := [(false, .bool)]) Try.func42 (by kernel_rfl) (by kernel_rfl) (Nat.le_of_ble_eq_true rfl) pedagogueref1_MayDims_tab Opedagogueref1_Out_ok h.it (by kernel_rfl)
noncomputable def Opedagogueref1_MayDims : FuncId → List VV → (List (Bool × List VV) → Prop) → Prop := fun f args Q => if f = 42 then unA pedagogueref1_MayDims_sh args (fun x => pedagogueref1_MayDims_d x Q) else Opedagogueref1_Out f args Q
theorem Opedagogueref1_MayDims_ok : ∀ f args Q, Opedagogueref1_MayDims f args Q → Sound Try.prog f args Q := tab_more Opedagogueref1_Out_ok (f0 := 42) pedagogueref1_MayDims_sh (fun x Q => pedagogueref1_MayDims_d x Q) pedagogueref1_MayDims_snd
noncomputable def Gpedagogueref1_MayDims : Cfg := ⟨Try.prog, tt, Opedagogueref1_MayDims, fun _ _ _ => False⟩
def pedagogueref1_Size_n0_B (x1 : List Int) (x2 : Int) (K0 : Int → Prop) (s : Int × Int) (nx : (Int × Int) → Prop) : Prop :=
  if (decide (s.2 < x2)) = true then ck ((0 : Int) ≤ s.2 ∧ s.2 < (x1.length : Int)) (nx (IntKind.i64.wrap (s.1 * (x1.getD ((s.2).toNat) 0)), IntKind.i64.wrap (s.2 + 1))) else K0 s.1
structure pedagogueref1_Size_n0 (x1 : List Int) (x2 : Int) (K0 : Int → Prop) (s : Int × Int) : Prop where
  it : Go.Mach.Loop (pedagogueref1_Size_n0_B x1 x2 K0) s
def pedagogueref1_Size_t (a0 : List Int) (Q : Int → Prop) : Prop :=
  pedagogueref1_MayDims a0 (fun (r1 : Bool) => if (!r1) = true then Q 0 else pedagogueref1_Size_n0 a0 (a0.length : Int) (fun (y2 : Int) => Q y2) (1, 0))
structure pedagogueref1_Size (a0 : List Int) (Q : Int → Prop) : Prop where
  it : pedagogueref1_Size_t a0 Q
noncomputable def pedagogueref1_Size_e0 : Ent := ⟨[3, 9, 10, 11], [.lf (.int .i64), .lf (.fz false (.int .i64)), .lf (.int .i64), .lf (.int .i64)], [], fun x k => pedagogueref1_Size_n0 x.1.2.1 x.1.2.2.1 (fun (y3 : Int) => k (.exit 0) ⟨[(3, .pl (.int .i64 y3))], []⟩) (x.1.1, x.1.2.2.2.1)⟩
noncomputable def pedagogueref1_Size_ct : Tab := fun n => match n with | 122 => some pedagogueref1_Size_e0 | _ => none
noncomputable def pedagogueref1_Size_en : Go.Mach.Ends := fun n => match n with | 2 => some ([], [0]) | 12 => some ([], [0, 8]) | 14 => some ([], [0, 3]) | 27 => some ([], [0]) | 52 => some ([], [2]) | 53 => some ([], [2]) | 60 => some ([], [3, 9, 10, 11]) | 62 => some ([], [2]) | 63 => some ([], [2]) | 122 => some ([], [3, 9, 10, 11]) | 488 => some ([], [3, 9, 10, 11, 12]) | 1956 => some ([], [3, 9, 10, 11]) | 1957 => some ([], [3]) | 1959 => some ([], [3, 9, 10, 11]) | 7832 => some ([], [3, 5, 9, 10, 11]) | 7833 => some ([], [3, 9, 10, 11]) | _ => none
noncomputable def pedagogueref1_Size_b : Code := Try.f23.body.getD .skip
theorem pedagogueref1_Size_tab : TabOk Gpedagogueref1_MayDims pedagogueref1_Size_ct pedagogueref1_Size_en pedagogueref1_Size_b := by
  intro n E hn f c hs x k h
  unfold pedagogueref1_Size_ct at hn
  split at hn
  · cases hn; exact tab_loop2 hs (by kernel_rfl) (fun y : Int × Int => ⟨[(3, .pl (.int .i64 y.1)), (9, .fz false (.int .i64) x.1.2.1), (10, .pl (.int .i64 x.1.2.2.1)), (11, .pl (.int .i64 y.2))], []⟩) (x.1.1, x.1.2.2.2.1) (by kernel_rfl) (fun y X => by kernel_rfl) h.it
  · cases hn
def pedagogueref1_Size_sh : List Sh := [.lf (.fz false (.int .i64))]
def pedagogueref1_Size_d (x : denS pedagogueref1_Size_sh) (Q : List (Bool × List VV) → Prop) : Prop := pedagogueref1_Size x.1 (fun (r : Int) => Q (slotsA [(false, (.int .i64))] [.n] (r, ())))
theorem pedagogueref1_Size_snd (x : denS pedagogueref1_Size_sh) (Q : List (Bool × List VV) → Prop) (h : pedagogueref1_Size_d x Q) : Sound Try.prog 23 (packS pedagogueref1_Size_sh x) Q :=
  vfun_told [.n] (G := Gpedagogueref1_MayDims) (ct := pedagogueref1_Size_ct) (en := pedagogueref1_Size_en) (fn := Try.f23) (cd := pedagogueref1_Size_b) (rt := [(false, (.int .i64))]) Try.func23 (by kernel_rfl) (by kernel_rfl) (Nat.le_of_ble_eq_true rfl) pedagogueref1_Size_tab Opedagogueref1_MayDims_ok h.it (by kernel_rfl)
noncomputable def Opedagogueref1_Size : FuncId → List VV → (List (Bool × List VV) → Prop) → Prop := fun f args Q => if f = 23 then unA pedagogueref1_Size_sh args (fun x => pedagogueref1_Size_d x Q) else Opedagogueref1_MayDims f args Q
theorem Opedagogueref1_Size_ok : ∀ f args Q, Opedagogueref1_Size f args Q → Sound Try.prog f args Q := tab_more Opedagogueref1_MayDims_ok (f0 := 23) pedagogueref1_Size_sh (fun x Q => pedagogueref1_Size_d x Q) pedagogueref1_Size_snd
noncomputable def Gpedagogueref1_Size : Cfg := ⟨Try.prog, tt, Opedagogueref1_Size, fun _ _ _ => False⟩
def pedagogueref1_SameInts_n0_B (x0 : List Int) (x1 : List Int) (x2 : Int) (K0 : Unit → Prop) (K1 : Unit → Prop) (s : Int) (nx : Int → Prop) : Prop :=
  if (decide (s < x2)) = true then ck ((0 : Int) ≤ s ∧ s < (x0.length : Int)) (ck ((0 : Int) ≤ s ∧ s < (x1.length : Int)) (if ((x0.getD ((s).toNat) 0) != (x1.getD ((s).toNat) 0)) = true then K1 () else nx (IntKind.i64.wrap (s + 1)))) else K0 ()
structure pedagogueref1_SameInts_n0 (x0 : List Int) (x1 : List Int) (x2 : Int) (K0 : Unit → Prop) (K1 : Unit → Prop) (s : Int) : Prop where
  it : Go.Mach.Loop (pedagogueref1_SameInts_n0_B x0 x1 x2 K0 K1) s
def pedagogueref1_SameInts_t (a0 : List Int) (a1 : List Int) (Q : Bool → Prop) : Prop :=
  if ((a0.length : Int) != (a1.length : Int)) = true then Q false else pedagogueref1_SameInts_n0 a0 a1 (a0.length : Int) (fun (y1 : Unit) => Q true) (fun (y2 : Unit) => Q false) 0
structure pedagogueref1_SameInts (a0 : List Int) (a1 : List Int) (Q : Bool → Prop) : Prop where
  it : pedagogueref1_SameInts_t a0 a1 Q
noncomputable def pedagogueref1_SameInts_e0 : Ent := ⟨[0, 1, 12, 13], [.lf (.fz false (.int .i64)), .lf (.fz false (.int .i64)), .lf (.int .i64), .lf (.int .i64)], [], fun x k => pedagogueref1_SameInts_n0 x.1.1 x.1.2.1 x.1.2.2.1 (fun (y3 : Unit) => k (.exit 0) ⟨[], []⟩) (fun (y4 : Unit) => k .ret ⟨[(4, .pl (.bool false))], []⟩) x.1.2.2.2.1⟩
noncomputable def pedagogueref1_SameInts_ct : Tab := fun n => match n with | 58 => some pedagogueref1_SameInts_e0 | _ => none
noncomputable def pedagogueref1_SameInts_en : Go.Mach.Ends := fun n => match n with | 2 => some ([], [0, 1]) | 12 => some ([], [0, 1, 10]) | 27 => some ([], [0, 1]) | 28 => some ([], [0, 1, 12, 13]) | 30 => some ([], [4]) | 31 => some ([], [4]) | 52 => some ([], [4]) | 53 => some ([], [4]) | 58 => some ([], [0, 1, 12, 13]) | 232 => some ([], [0, 1, 12, 13, 14]) | 932 => some ([], [0, 1, 12, 13]) | 933 => some ([], []) | 935 => some ([], [0, 1, 12, 13]) | 3736 => some ([], [0, 1, 5, 12, 13]) | 7474 => some ([], [0, 1, 12, 13, 24]) | 14951 => some ([], [0, 1, 12, 13]) | 29900 => some ([], [4]) | 29901 => some ([], [4]) | _ => none
noncomputable def pedagogueref1_SameInts_b : Code := Try.f30.body.getD .skip
theorem pedagogueref1_SameInts_tab : TabOk Gpedagogueref1_Size pedagogueref1_SameInts_ct pedagogueref1_SameInts_en pedagogueref1_SameInts_b := by
  intro n E hn f c hs x k h
  unfold pedagogueref1_SameInts_ct at hn
  split at hn
  · cases hn; exact tab_loop2 hs (by kernel_rfl) (fun y : Int => ⟨[(0, .fz false (.int .i64) x.1.1), (1, .fz false (.int .i64) x.1.2.1), (12, .pl (.int .i64 x.1.2.2.1)), (13, .pl (.int .i64 y))], []⟩) x.1.2.2.2.1 (by kernel_rfl) (fun y X => by kernel_rfl) h.it
  · cases hn
def pedagogueref1_SameInts_sh : List Sh := [.lf (.fz false (.int .i64)), .lf (.fz false (.int .i64))]
def pedagogueref1_SameInts_d (x : denS pedagogueref1_SameInts_sh) (Q : List (Bool × List VV) → Prop) : Prop := pedagogueref1_SameInts x.1 x.2.1 (fun (r : Bool) => Q (slotsA [(false, .bool)] [.n] (r, ())))
theorem pedagogueref1_SameInts_snd (x : denS pedagogueref1_SameInts_sh) (Q : List (Bool × List VV) → Prop) (h : pedagogueref1_SameInts_d x Q) : Sound Try.prog 30 (packS pedagogueref1_SameInts_sh x) Q :=
  vfun_told [.n] (G := Gpedagogueref1_Size) (ct := pedagogueref1_SameInts_ct) (en := pedagogueref1_SameInts_en) (fn := Try.f30) (cd := pedagogueref1_SameInts_b) (rt := [(false, .bool)]) Try.func30 (by kernel_rfl) (by kernel_rfl) (Nat.le_of_ble_eq_true rfl) pedagogueref1_SameInts_tab Opedagogueref1_Size_ok h.it (by kernel_rfl)
noncomputable def Opedagogueref1_SameInts : FuncId → List VV → (List (Bool × List VV) → Prop) → Prop := fun f args Q => if f = 30 then unA pedagogueref1_SameInts_sh args (fun x => pedagogueref1_SameInts_d x Q) else Opedagogueref1_Size f args Q
theorem Opedagogueref1_SameInts_ok : ∀ f args Q, Opedagogueref1_SameInts f args Q → Sound Try.prog f args Q := tab_more Opedagogueref1_Size_ok (f0 := 30) pedagogueref1_SameInts_sh (fun x Q => pedagogueref1_SameInts_d x Q) pedagogueref1_SameInts_snd
noncomputable def Gpedagogueref1_SameInts : Cfg := ⟨Try.prog, tt, Opedagogueref1_SameInts, fun _ _ _ => False⟩
def pedagogueref1_SameAcc_n0_B (x0 : Int) (x4 : List Int) (x7 : List Int) (K0 : Unit → Prop) (K1 : Unit → Prop) (s : Int) (nx : Int → Prop) : Prop :=
  if (decide (s < x0)) = true then ck ((0 : Int) ≤ s ∧ s < (x4.length : Int)) (ck ((0 : Int) ≤ s ∧ s < (x7.length : Int)) (if ((x4.getD ((s).toNat) 0) != (x7.getD ((s).toNat) 0)) = true then K1 () else nx (IntKind.i64.wrap (s + 1)))) else K0 ()
structure pedagogueref1_SameAcc_n0 (x0 : Int) (x4 : List Int) (x7 : List Int) (K0 : Unit → Prop) (K1 : Unit → Prop) (s : Int) : Prop where
  it : Go.Mach.Loop (pedagogueref1_SameAcc_n0_B x0 x4 x7 K0 K1) s
def pedagogueref1_SameAcc_t (a0 : (List Int) × Int × List Int) (a1 : (List Int) × Int × List Int) (Q : Bool → Prop) : Prop :=
  pedagogueref1_SameInts a0.1 a1.1 (fun (r1 : Bool) => if (((!r1) || (a0.2.1 != a1.2.1)) || ((a0.2.2.length : Int) != (a1.2.2.length : Int))) = true then Q false else pedagogueref1_SameAcc_n0 (a0.2.2.length : Int) a0.2.2 a1.2.2 (fun (y2 : Unit) => Q true) (fun (y3 : Unit) => Q false) 0)
structure pedagogueref1_SameAcc (a0 : (List Int) × Int × List Int) (a1 : (List Int) × Int × List Int) (Q : Bool → Prop) : Prop where
  it : pedagogueref1_SameAcc_t a0 a1 Q
noncomputable def pedagogueref1_SameAcc_e0 : Ent := ⟨[2, 3, 30, 31], [.lf (.cst (.ptr 0 0)), .lf (.cst (.ptr 1 0)), .lf (.int .i64), .lf (.int .i64)], [.box [.fz false (.int .i64), .int .i64, .fz false (.int .i32)] false, .box [.fz false (.int .i64), .int .i64, .fz false (.int .i32)] false], fun x k => pedagogueref1_SameAcc_n0 x.1.2.2.1 x.2.1.2.2.1 x.2.2.1.2.2.1 (fun (y4 : Unit) => k (.exit 0) ⟨[], []⟩) (fun (y5 : Unit) => k .ret ⟨[(4, .pl (.bool false))], []⟩) x.1.2.2.2.1⟩
noncomputable def pedagogueref1_SameAcc_ct : Tab := fun n => match n with | 58 => some pedagogueref1_SameAcc_e0 | _ => none
noncomputable def pedagogueref1_SameAcc_en : Go.Mach.Ends := fun n => match n with | 2 => some ([], [2, 3]) | 12 => some ([], [2, 3, 27]) | 27 => some ([], [2, 3]) | 28 => some ([], [2, 3, 30, 31]) | 30 => some ([], [4]) | 31 => some ([], [4]) | 52 => some ([], [4]) | 53 => some ([], [4]) | 58 => some ([], [2, 3, 30, 31]) | 232 => some ([], [2, 3, 30, 31, 32]) | 932 => some ([], [2, 3, 30, 31]) | 933 => some ([], []) | 935 => some ([], [2, 3, 30, 31]) | 3736 => some ([], [2, 3, 5, 30, 31]) | 7474 => some ([], [2, 3, 30, 31, 44]) | 14951 => some ([], [2, 3, 30, 31]) | 29900 => some ([], [4]) | 29901 => some ([], [4]) | _ => none
noncomputable def pedagogueref1_SameAcc_b : Code := Try.f13.body.getD .skip
theorem pedagogueref1_SameAcc_tab : TabOk Gpedagogueref1_SameInts pedagogueref1_SameAcc_ct pedagogueref1_SameAcc_en pedagogueref1_SameAcc_b := by
  intro n E hn f c hs x k h
  unfold pedagogueref1_SameAcc_ct at hn
  split at hn
  · cases hn; exact tab_loop2 hs (by kernel_rfl) (fun y : Int => ⟨[(2, .ptr 0 0), (3, .ptr 1 0), (30, .pl (.int .i64 x.1.2.2.1)), (31, .pl (.int .i64 y))], [.box [.fz false (.int .i64) x.2.1.1, .pl (.int .i64 x.2.1.2.1), .fz false (.int .i32) x.2.1.2.2.1] false, .box [.fz false (.int .i64) x.2.2.1.1, .pl (.int .i64 x.2.2.1.2.1), .fz false (.int .i32) x.2.2.1.2.2.1] false]⟩) x.1.2.2.2.1 (by kernel_rfl) (fun y X => by kernel_rfl) h.it
  · cases hn
def pedagogueref1_SameAcc_sh : List Sh := [.agg [.fz false (.int .i64), .int .i64, .fz false (.int .i32)], .agg [.fz false (.int .i64), .int .i64, .fz false (.int .i32)]]
def pedagogueref1_SameAcc_d (x : denS pedagogueref1_SameAcc_sh) (Q : List (Bool × List VV) → Prop) : Prop := pedagogueref1_SameAcc (x.1.1, (x.1.2.1, x.1.2.2.1)) (x.2.1.1, (x.2.1.2.1, x.2.1.2.2.1)) (fun (r : Bool) => Q (slotsA [(false, .bool)] [.n] (r, ())))
theorem pedagogueref1_SameAcc_snd (x : denS pedagogueref1_SameAcc_sh) (Q : List (Bool × List VV) → Prop) (h : pedagogueref1_SameAcc_d x Q) : Sound Try.prog 13 (packS pedagogueref1_SameAcc_sh x) Q :=
  vfun_told [.n] (G := Gpedagogueref1_SameInts) (ct := pedagogueref1_SameAcc_ct) (en := pedagogueref1_SameAcc_en) (fn := Try.f13) (cd := pedagogueref1_SameAcc_b) (rt := [(false, .bool)]) Try.func13 (by kernel_rfl) (by kernel_rfl) (Nat.le_of_ble_eq_true rfl) pedagogueref1_SameAcc_tab Opedagogueref1_SameInts_ok h.it (by kernel_rfl)
noncomputable def Opedagogueref1_SameAcc : FuncId → List VV → (List (Bool × List VV) → Prop) → Prop := fun f args Q => if f = 13 then unA pedagogueref1_SameAcc_sh args (fun x => pedagogueref1_SameAcc_d x Q) else Opedagogueref1_SameInts f args Q
theorem Opedagogueref1_SameAcc_ok : ∀ f args Q, Opedagogueref1_SameAcc f args Q → Sound Try.prog f args Q := tab_more Opedagogueref1_SameInts_ok (f0 := 13) pedagogueref1_SameAcc_sh (fun x Q => pedagogueref1_SameAcc_d x Q) pedagogueref1_SameAcc_snd
noncomputable def Gpedagogueref1_SameAcc : Cfg := ⟨Try.prog, tt, Opedagogueref1_SameAcc, fun _ _ _ => False⟩
def pedagoguelaw11_tensorOf_n1_t (x2 : Int) (K0 : Int → Prop) : Prop :=
  K0 (IntKind.i64.wrap (x2 + 1))
structure pedagoguelaw11_tensorOf_n1 (x2 : Int) (K0 : Int → Prop) : Prop where
  it : pedagoguelaw11_tensorOf_n1_t x2 K0
def pedagoguelaw11_tensorOf_n0_B (x0 : List Int) (x1 : Int) (K0 : (List Int) → Prop) (s : Int × List Int) (nx : (Int × List Int) → Prop) : Prop :=
  if (decide (s.1 < x1)) = true then jn (fun (v2 : Bool) => if v2 = true then ck ((0 : Int) ≤ s.1 ∧ s.1 < (x0.length : Int)) (ck ((0 : Int) ≤ s.1 ∧ s.1 < (s.2.length : Int)) (pedagoguelaw11_tensorOf_n1 s.1 (fun (y4 : Int) => nx (y4, (s.2.set ((s.1).toNat) (x0.getD ((s.1).toNat) 0)))))) else pedagoguelaw11_tensorOf_n1 s.1 (fun (y5 : Int) => nx (y5, s.2))) (fun J3 => if (decide (s.1 < (x0.length : Int))) = true then ck ((0 : Int) ≤ s.1 ∧ s.1 < (x0.length : Int)) (J3 ((x0.getD ((s.1).toNat) 0) != (-128))) else J3 false) else K0 s.2
structure pedagoguelaw11_tensorOf_n0 (x0 : List Int) (x1 : Int) (K0 : (List Int) → Prop) (s : Int × List Int) : Prop where
  it : Go.Mach.Loop (pedagoguelaw11_tensorOf_n0_B x0 x1 K0) s
def pedagoguelaw11_tensorOf_t (a0 : List Int) (a1 : List Int) (Q : ((List Int) × Int × List Int) → Prop) : Prop :=
  ck ((([] : List Int).length + a1.length) * 8 ≤ 140737488355328) (pedagogueref1_Size a1 (fun (r1 : Int) => ck ((0 : Int) ≤ r1 ∧ (1 : Nat) * r1 ≤ 70368744177664) (pedagoguelaw11_tensorOf_n0 a0 ((List.replicate (r1).toNat (0 : Int)).length : Int) (fun (y6 : List Int) => Q ((([] : List Int) ++ a1), (0, y6))) (0, List.replicate (r1).toNat (0 : Int)))))
structure pedagoguelaw11_tensorOf (a0 : List Int) (a1 : List Int) (Q : ((List Int) × Int × List Int) → Prop) : Prop where
  it : pedagoguelaw11_tensorOf_t a0 a1 Q
noncomputable def pedagoguelaw11_tensorOf_e0 : Ent := ⟨[0, 4, 5, 16, 17], [.lf (.fz false (.int .i8)), .lf (.cst (.ptr 0 0)), .lf (.cst (.ptr 1 0)), .lf (.int .i64), .lf (.int .i64)], [.box [.cst (.pl (.slice none 0 0)), .int .i64, .cst (.pl (.slice none 0 0))] false, .box [.cst (.own 2), .int .i64, .cst (.own 3)] false, .lst true (.int .i64) false, .lst true (.int .i8) false], fun x k => pedagoguelaw11_tensorOf_n0 x.1.1 x.1.2.2.2.1 (fun (y7 : List Int) => k (.exit 0) ⟨[(4, .ptr 0 0), (5, .ptr 1 0)], [.box [.pl (.slice none 0 0), .pl (.int .i64 x.2.1.2.1), .pl (.slice none 0 0)] false, .box [.own 2, .pl (.int .i64 x.2.2.1.2.1), .own 3] false, .lst true (.int .i64) x.2.2.2.1 false, .lst true (.int .i8) y7 false]⟩) (x.1.2.2.2.2.1, x.2.2.2.2.1)⟩
noncomputable def pedagoguelaw11_tensorOf_e1 : Ent := ⟨[0, 4, 5, 16, 17], [.lf (.fz false (.int .i8)), .lf (.cst (.ptr 0 0)), .lf (.cst (.ptr 1 0)), .lf (.int .i64), .lf (.int .i64)], [.box [.cst (.pl (.slice none 0 0)), .int .i64, .cst (.pl (.slice none 0 0))] false, .box [.cst (.own 2), .int .i64, .cst (.own 3)] false, .lst true (.int .i64) false, .lst true (.int .i8) false], fun x k => pedagoguelaw11_tensorOf_n1 x.1.2.2.2.2.1 (fun (y8 : Int) => k .normal ⟨[(0, .fz false (.int .i8) x.1.1), (4, .ptr 0 0), (5, .ptr 1 0), (16, .pl (.int .i64 x.1.2.2.2.1)), (17, .pl (.int .i64 y8))], [.box [.pl (.slice none 0 0), .pl (.int .i64 x.2.1.2.1), .pl (.slice none 0 0)] false, .box [.own 2, .pl (.int .i64 x.2.2.1.2.1), .own 3] false, .lst true (.int .i64) x.2.2.2.1 false, .lst true (.int .i8) x.2.2.2.2.1 false]⟩)⟩
noncomputable def pedagoguelaw11_tensorOf_ct : Tab := fun n => match n with | 58 => some pedagoguelaw11_tensorOf_e0 | 935 => some pedagoguelaw11_tensorOf_e1 | _ => none
noncomputable def pedagoguelaw11_tensorOf_en : Go.Mach.Ends := fun n => match n with | 2 => some ([], [0, 1, 4]) | 6 => some ([], [0, 4, 5]) | 28 => some ([], [0, 4, 5, 16, 17]) | 30 => some ([], [4]) | 31 => some ([], [4]) | 58 => some ([], [0, 4, 5, 16, 17]) | 232 => some ([], [0, 4, 5, 16, 17, 18]) | 932 => some ([], [0, 4, 5, 16, 17]) | 933 => some ([], [4, 5]) | 935 => some ([], [0, 4, 5, 16, 17]) | 3736 => some ([], [0, 4, 5, 6, 16, 17]) | 7474 => some ([], [0, 4, 5, 6, 16, 17, 30]) | 14950 => some ([], [0, 4, 5, 16, 17]) | 14951 => some ([], [0, 4, 5, 16, 17]) | _ => none
noncomputable def pedagoguelaw11_tensorOf_b : Code := Try.f9.body.getD .skip
theorem pedagoguelaw11_tensorOf_tab : TabOk Gpedagogueref1_SameAcc pedagoguelaw11_tensorOf_ct pedagoguelaw11_tensorOf_en pedagoguelaw11_tensorOf_b := by
  intro n E hn f c hs x k h
  unfold pedagoguelaw11_tensorOf_ct at hn
  split at hn
  · cases hn; exact tab_loop2 hs (by kernel_rfl) (fun y : Int × List Int => ⟨[(0, .fz false (.int .i8) x.1.1), (4, .ptr 0 0), (5, .ptr 1 0), (16, .pl (.int .i64 x.1.2.2.2.1)), (17, .pl (.int .i64 y.1))], [.box [.pl (.slice none 0 0), .pl (.int .i64 x.2.1.2.1), .pl (.slice none 0 0)] false, .box [.own 2, .pl (.int .i64 x.2.2.1.2.1), .own 3] false, .lst true (.int .i64) x.2.2.2.1 false, .lst true (.int .i8) y.2 false]⟩) (x.1.2.2.2.2.1, x.2.2.2.2.1) (by kernel_rfl) (fun y X => by kernel_rfl) h.it
  · cases hn; exact tab_node2 hs (by kernel_rfl) (by kernel_rfl) h.it
  · cases hn
def pedagoguelaw11_tensorOf_sh : List Sh := [.lf (.fz false (.int .i8)), .lf (.fz false (.int .i64))]
def pedagoguelaw11_tensorOf_d (x : denS pedagoguelaw11_tensorOf_sh) (Q : List (Bool × List VV) → Prop) : Prop := pedagoguelaw11_tensorOf x.1 x.2.1 (fun (r : (List Int) × Int × List Int) => Q (slotsA [(true, (.pair (.slc (.int .i64)) (.pair (.int .i64) (.slc (.int .i8)))))] [.n] (r, ())))
theorem pedagoguelaw11_tensorOf_snd (x : denS pedagoguelaw11_tensorOf_sh) (Q : List (Bool × List VV) → Prop) (h : pedagoguelaw11_tensorOf_d x Q) : Sound Try.prog 9 (packS pedagoguelaw11_tensorOf_sh x) Q :=
  vfun_told [.n] (G := Gpedagogueref1_SameAcc) (ct := pedagoguelaw11_tensorOf_ct) (en := pedagoguelaw11_tensorOf_en) (fn := Try.f9) (cd := pedagoguelaw11_tensorOf_b) (rt := [(true, (.pair (.slc (.int .i64)) (.pair (.int .i64) (.slc (.int .i8)))))]) Try.func9 (by kernel_rfl) (by kernel_rfl) (Nat.le_of_ble_eq_true rfl) pedagoguelaw11_tensorOf_tab Opedagogueref1_SameAcc_ok h.it (by kernel_rfl)
noncomputable def Opedagoguelaw11_tensorOf : FuncId → List VV → (List (Bool × List VV) → Prop) → Prop := fun f args Q => if f = 9 then unA pedagoguelaw11_tensorOf_sh args (fun x => pedagoguelaw11_tensorOf_d x Q) else Opedagogueref1_SameAcc f args Q
theorem Opedagoguelaw11_tensorOf_ok : ∀ f args Q, Opedagoguelaw11_tensorOf f args Q → Sound Try.prog f args Q := tab_more Opedagogueref1_SameAcc_ok (f0 := 9) pedagoguelaw11_tensorOf_sh (fun x Q => pedagoguelaw11_tensorOf_d x Q) pedagoguelaw11_tensorOf_snd
noncomputable def Gpedagoguelaw11_tensorOf : Cfg := ⟨Try.prog, tt, Opedagoguelaw11_tensorOf, fun _ _ _ => False⟩
def pedagoguelaw11_awake_t  (Q : Bool → Prop) : Prop :=
  conv_Forward ([1, 1, 2, 2], (0, [1, 2, 3, 4])) ([1, 1, 2, 2], (0, [1, 0, 0, 1])) ([1], (0, [0])) 1 0 (fun (r1 : ((List Int) × Int × List Int) × Int) => jn (fun (v2 : Bool) => Q v2) (fun J3 => if ((r1.2 == 0) && ((r1.1.2.2.length : Int) == 1)) = true then ck ((0 : Int) ≤ 0 ∧ 0 < (r1.1.2.2.length : Int)) (J3 ((r1.1.2.2.getD 0 0) == 5)) else J3 false))
structure pedagoguelaw11_awake  (Q : Bool → Prop) : Prop where
  it : pedagoguelaw11_awake_t  Q
noncomputable def pedagoguelaw11_awake_ct : Tab := fun n => none
noncomputable def pedagoguelaw11_awake_en : Go.Mach.Ends := fun n => match n with | 2 => some ([], []) | 6 => some ([], [1]) | 14 => some ([], [1, 2]) | 30 => some ([], [3, 4]) | 62 => some ([], [0]) | 63 => some ([], [0]) | _ => none
noncomputable def pedagoguelaw11_awake_b : Code := Try.f12.body.getD .skip
theorem pedagoguelaw11_awake_tab : TabOk Gpedagoguelaw11_tensorOf pedagoguelaw11_awake_ct pedagoguelaw11_awake_en pedagoguelaw11_awake_b := by
  intro n E hn f c hs x k h
  cases hn
def pedagoguelaw11_awake_sh : List Sh := []
def pedagoguelaw11_awake_d (x : denS pedagoguelaw11_awake_sh) (Q : List (Bool × List VV) → Prop) : Prop := pedagoguelaw11_awake (fun (r : Bool) => Q (slotsA [(false, .bool)] [.n] (r, ())))
theorem pedagoguelaw11_awake_snd (x : denS pedagoguelaw11_awake_sh) (Q : List (Bool × List VV) → Prop) (h : pedagoguelaw11_awake_d x Q) : Sound Try.prog 12 (packS pedagoguelaw11_awake_sh x) Q :=
  vfun_told [.n] (G := Gpedagoguelaw11_tensorOf) (ct := pedagoguelaw11_awake_ct) (en := pedagoguelaw11_awake_en) (fn := Try.f12) (cd := pedagoguelaw11_awake_b) (rt := [(false, .bool)]) Try.func12 (by kernel_rfl) (by kernel_rfl) (Nat.le_of_ble_eq_true rfl) pedagoguelaw11_awake_tab Opedagoguelaw11_tensorOf_ok h.it (by kernel_rfl)
noncomputable def Opedagoguelaw11_awake : FuncId → List VV → (List (Bool × List VV) → Prop) → Prop := fun f args Q => if f = 12 then unA pedagoguelaw11_awake_sh args (fun x => pedagoguelaw11_awake_d x Q) else Opedagoguelaw11_tensorOf f args Q
theorem Opedagoguelaw11_awake_ok : ∀ f args Q, Opedagoguelaw11_awake f args Q → Sound Try.prog f args Q := tab_more Opedagoguelaw11_tensorOf_ok (f0 := 12) pedagoguelaw11_awake_sh (fun x Q => pedagoguelaw11_awake_d x Q) pedagoguelaw11_awake_snd
noncomputable def Gpedagoguelaw11_awake : Cfg := ⟨Try.prog, tt, Opedagoguelaw11_awake, fun _ _ _ => False⟩
end Go.Proofs.Ytmleeffinagncaa
