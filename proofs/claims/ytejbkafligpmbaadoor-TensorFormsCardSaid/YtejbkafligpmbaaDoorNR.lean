/- Plain texts of functions, as the value machine comes to them. No condition. -/
import Derived.Test.YtejbkafligpmbaaDoorN5
import Derived.Test.YtejbkafligpmbaaDoorProg
import Derived.KernelRfl
namespace Go.Proofs.YtejbkafligpmbaaDoor
open Go.Mach
set_option maxRecDepth 100000
set_option linter.unusedVariables false
def slices_Equal_int32_int32_n0_B (x0 : List Int) (x1 : List Int) (x2 : Int) (K0 : Unit → Prop) (K1 : Unit → Prop) (s : Int) (nx : Int → Prop) : Prop :=
  if (decide (s < x2)) = true then ck ((0 : Int) ≤ s ∧ s < (x0.length : Int)) (ck ((0 : Int) ≤ s ∧ s < (x1.length : Int)) (if ((x0.getD ((s).toNat) 0) != (x1.getD ((s).toNat) 0)) = true then K1 () else nx (IntKind.i64.wrap (s + 1)))) else K0 ()
structure slices_Equal_int32_int32_n0 (x0 : List Int) (x1 : List Int) (x2 : Int) (K0 : Unit → Prop) (K1 : Unit → Prop) (s : Int) : Prop where
  it : Go.Mach.Loop (slices_Equal_int32_int32_n0_B x0 x1 x2 K0 K1) s
def slices_Equal_int32_int32_t (a0 : List Int) (a1 : List Int) (Q : Bool → Prop) : Prop :=
  if ((a0.length : Int) != (a1.length : Int)) = true then Q false else slices_Equal_int32_int32_n0 a0 a1 (a0.length : Int) (fun (y1 : Unit) => Q true) (fun (y2 : Unit) => Q false) 0
structure slices_Equal_int32_int32 (a0 : List Int) (a1 : List Int) (Q : Bool → Prop) : Prop where
  it : slices_Equal_int32_int32_t a0 a1 Q
noncomputable def slices_Equal_int32_int32_e0 : Ent := ⟨[0, 1, 12, 13], [.lf (.fz false (.int .i32)), .lf (.fz false (.int .i32)), .lf (.int .i64), .lf (.int .i64)], [], fun x k => slices_Equal_int32_int32_n0 x.1.1 x.1.2.1 x.1.2.2.1 (fun (y3 : Unit) => k (.exit 0) ⟨[], []⟩) (fun (y4 : Unit) => k .ret ⟨[(4, .pl (.bool false))], []⟩) x.1.2.2.2.1⟩
noncomputable def slices_Equal_int32_int32_ct : Tab := fun n => match n with | 58 => some slices_Equal_int32_int32_e0 | _ => none
noncomputable def slices_Equal_int32_int32_en : Go.Mach.Ends := fun n => match n with | 2 => some ([], [0, 1]) | 12 => some ([], [0, 1, 10]) | 27 => some ([], [0, 1]) | 28 => some ([], [0, 1, 12, 13]) | 30 => some ([], [4]) | 31 => some ([], [4]) | 52 => some ([], [4]) | 53 => some ([], [4]) | 58 => some ([], [0, 1, 12, 13]) | 232 => some ([], [0, 1, 12, 13, 14]) | 932 => some ([], [0, 1, 12, 13]) | 933 => some ([], []) | 935 => some ([], [0, 1, 12, 13]) | 3736 => some ([], [0, 1, 5, 12, 13]) | 7474 => some ([], [0, 1, 12, 13, 24]) | 14951 => some ([], [0, 1, 12, 13]) | 29900 => some ([], [4]) | 29901 => some ([], [4]) | _ => none
noncomputable def slices_Equal_int32_int32_b : Code := Tryd.f42.body.getD .skip
theorem slices_Equal_int32_int32_tab : TabOk Gtensor_Text slices_Equal_int32_int32_ct slices_Equal_int32_int32_en slices_Equal_int32_int32_b := by
  intro n E hn f c hs x k h
  unfold slices_Equal_int32_int32_ct at hn
  split at hn
  · cases hn; exact tab_loop2 hs (by kernel_rfl) (fun y : Int => ⟨[(0, .fz false (.int .i32) x.1.1), (1, .fz false (.int .i32) x.1.2.1), (12, .pl (.int .i64 x.1.2.2.1)), (13, .pl (.int .i64 y))], []⟩) x.1.2.2.2.1 (by kernel_rfl) (fun y X => by kernel_rfl) h.it
  · cases hn
def slices_Equal_int32_int32_sh : List Sh := [.lf (.fz false (.int .i32)), .lf (.fz false (.int .i32))]
def slices_Equal_int32_int32_d (x : denS slices_Equal_int32_int32_sh) (Q : List (Bool × List VV) → Prop) : Prop := slices_Equal_int32_int32 x.1 x.2.1 (fun (r : Bool) => Q (slotsA [(false, .bool)] [.n] (r, ())))
theorem slices_Equal_int32_int32_snd (x : denS slices_Equal_int32_int32_sh) (Q : List (Bool × List VV) → Prop) (h : slices_Equal_int32_int32_d x Q) : Sound Tryd.prog 42 (packS slices_Equal_int32_int32_sh x) Q :=
  vfun_told [.n] (G := Gtensor_Text) (ct := slices_Equal_int32_int32_ct) (en := slices_Equal_int32_int32_en) (fn := Tryd.f42) (cd := slices_Equal_int32_int32_b) (rt := [(false, .bool)]) Tryd.func42 (by kernel_rfl) (by kernel_rfl) (Nat.le_of_ble_eq_true rfl) slices_Equal_int32_int32_tab Otensor_Text_ok h.it (by kernel_rfl)
noncomputable def Oslices_Equal_int32_int32 : FuncId → List VV → (List (Bool × List VV) → Prop) → Prop := fun f args Q => if f = 42 then unA slices_Equal_int32_int32_sh args (fun x => slices_Equal_int32_int32_d x Q) else Otensor_Text f args Q
theorem Oslices_Equal_int32_int32_ok : ∀ f args Q, Oslices_Equal_int32_int32 f args Q → Sound Tryd.prog f args Q := tab_more Otensor_Text_ok (f0 := 42) slices_Equal_int32_int32_sh (fun x Q => slices_Equal_int32_int32_d x Q) slices_Equal_int32_int32_snd
noncomputable def Gslices_Equal_int32_int32 : Cfg := ⟨Tryd.prog, tt, Oslices_Equal_int32_int32, fun _ _ _ => False⟩
def tensor_SameAcc_t (a0 : (List Int) × Int × List Int) (a1 : (List Int) × Int × List Int) (Q : Bool → Prop) : Prop :=
  shape_Same a0.1 a1.1 (fun (r1 : Bool) => jn (fun (v2 : Bool) => Q v2) (fun J3 => if (r1 && (a0.2.1 == a1.2.1)) = true then slices_Equal_int32_int32 a0.2.2 a1.2.2 (fun (r4 : Bool) => J3 r4) else J3 false))
structure tensor_SameAcc (a0 : (List Int) × Int × List Int) (a1 : (List Int) × Int × List Int) (Q : Bool → Prop) : Prop where
  it : tensor_SameAcc_t a0 a1 Q
noncomputable def tensor_SameAcc_ct : Tab := fun n => none
noncomputable def tensor_SameAcc_en : Go.Mach.Ends := fun n => match n with | 2 => some ([], [2, 3]) | 6 => some ([], [4]) | 7 => some ([], [4]) | _ => none
noncomputable def tensor_SameAcc_b : Code := Tryd.f21.body.getD .skip
theorem tensor_SameAcc_tab : TabOk Gslices_Equal_int32_int32 tensor_SameAcc_ct tensor_SameAcc_en tensor_SameAcc_b := by
  intro n E hn f c hs x k h
  cases hn
def tensor_SameAcc_sh : List Sh := [.agg [.fz false (.int .i64), .int .i64, .fz false (.int .i32)], .agg [.fz false (.int .i64), .int .i64, .fz false (.int .i32)]]
def tensor_SameAcc_d (x : denS tensor_SameAcc_sh) (Q : List (Bool × List VV) → Prop) : Prop := tensor_SameAcc (x.1.1, (x.1.2.1, x.1.2.2.1)) (x.2.1.1, (x.2.1.2.1, x.2.1.2.2.1)) (fun (r : Bool) => Q (slotsA [(false, .bool)] [.n] (r, ())))
theorem tensor_SameAcc_snd (x : denS tensor_SameAcc_sh) (Q : List (Bool × List VV) → Prop) (h : tensor_SameAcc_d x Q) : Sound Tryd.prog 21 (packS tensor_SameAcc_sh x) Q :=
  vfun_told [.n] (G := Gslices_Equal_int32_int32) (ct := tensor_SameAcc_ct) (en := tensor_SameAcc_en) (fn := Tryd.f21) (cd := tensor_SameAcc_b) (rt := [(false, .bool)]) Tryd.func21 (by kernel_rfl) (by kernel_rfl) (Nat.le_of_ble_eq_true rfl) tensor_SameAcc_tab Oslices_Equal_int32_int32_ok h.it (by kernel_rfl)
noncomputable def Otensor_SameAcc : FuncId → List VV → (List (Bool × List VV) → Prop) → Prop := fun f args Q => if f = 21 then unA tensor_SameAcc_sh args (fun x => tensor_SameAcc_d x Q) else Oslices_Equal_int32_int32 f args Q
theorem Otensor_SameAcc_ok : ∀ f args Q, Otensor_SameAcc f args Q → Sound Tryd.prog f args Q := tab_more Oslices_Equal_int32_int32_ok (f0 := 21) tensor_SameAcc_sh (fun x Q => tensor_SameAcc_d x Q) tensor_SameAcc_snd
noncomputable def Gtensor_SameAcc : Cfg := ⟨Tryd.prog, tt, Otensor_SameAcc, fun _ _ _ => False⟩
def pedagogueref1_SameAcc_n0_B (x0 : Int) (x4 : List Int) (x7 : List Int) (K0 : Unit → Prop) (K1 : Unit → Prop) (s : Int) (nx : Int → Prop) : Prop :=
  if (decide (s < x0)) = true then ck ((0 : Int) ≤ s ∧ s < (x4.length : Int)) (ck ((0 : Int) ≤ s ∧ s < (x7.length : Int)) (if ((x4.getD ((s).toNat) 0) != (x7.getD ((s).toNat) 0)) = true then K1 () else nx (IntKind.i64.wrap (s + 1)))) else K0 ()
structure pedagogueref1_SameAcc_n0 (x0 : Int) (x4 : List Int) (x7 : List Int) (K0 : Unit → Prop) (K1 : Unit → Prop) (s : Int) : Prop where
  it : Go.Mach.Loop (pedagogueref1_SameAcc_n0_B x0 x4 x7 K0 K1) s
def pedagogueref1_SameAcc_t (a0 : (List Int) × Int × List Int) (a1 : (List Int) × Int × List Int) (Q : Bool → Prop) : Prop :=
  pedagogueref1_SameInts a0.1 a1.1 (fun (r1 : Bool) => if (((!r1) || (a0.2.1 != a1.2.1)) || ((a0.2.2.length : Int) != (a1.2.2.length : Int))) = true then Q false else pedagogueref1_SameAcc_n0 (a0.2.2.length : Int) a0.2.2 a1.2.2 (fun (y2 : Unit) => Q true) (fun (y3 : Unit) => Q false) 0)
structure pedagogueref1_SameAcc (a0 : (List Int) × Int × List Int) (a1 : (List Int) × Int × List Int) (Q : Bool → Prop) : Prop where
  it : pedagogueref1_SameAcc_t a0 a1 Q
noncomputable def pedagogueref1_SameAcc_e0 : Ent := ⟨[2, 3, 30, 31], [.lf (.cst (.ptr 0 0)), .lf (.cst (.ptr 1 0)), .lf (.int .i64), .lf (.int .i64)], [.box [.fz false (.int .i64), .int .i64, .fz false (.int .i32)] false, .box [.fz false (.int .i64), .int .i64, .fz false (.int .i32)] false], fun x k => pedagogueref1_SameAcc_n0 x.1.2.2.1 x.2.1.2.2.1 x.2.2.1.2.2.1 (fun (y4 : Unit) => k (.exit 0) ⟨[], []⟩) (fun (y5 : Unit) => k .ret ⟨[(4, .pl (.bool false))], []⟩) x.1.2.2.2.1⟩
noncomputable def pedagogueref1_SameAcc_ct : Tab := fun n => match n with | 58 => some pedagogueref1_SameAcc_e0 | _ => none
noncomputable def pedagogueref1_SameAcc_en : Go.Mach.Ends := fun n => match n with | 2 => some ([], [2, 3]) | 12 => some ([], [2, 3, 27]) | 27 => some ([], [2, 3]) | 28 => some ([], [2, 3, 30, 31]) | 30 => some ([], [4]) | 31 => some ([], [4]) | 52 => some ([], [4]) | 53 => some ([], [4]) | 58 => some ([], [2, 3, 30, 31]) | 232 => some ([], [2, 3, 30, 31, 32]) | 932 => some ([], [2, 3, 30, 31]) | 933 => some ([], []) | 935 => some ([], [2, 3, 30, 31]) | 3736 => some ([], [2, 3, 5, 30, 31]) | 7474 => some ([], [2, 3, 30, 31, 44]) | 14951 => some ([], [2, 3, 30, 31]) | 29900 => some ([], [4]) | 29901 => some ([], [4]) | _ => none
noncomputable def pedagogueref1_SameAcc_b : Code := Tryd.f22.body.getD .skip
theorem pedagogueref1_SameAcc_tab : TabOk Gtensor_SameAcc pedagogueref1_SameAcc_ct pedagogueref1_SameAcc_en pedagogueref1_SameAcc_b := by
  intro n E hn f c hs x k h
  unfold pedagogueref1_SameAcc_ct at hn
  split at hn
  · cases hn; exact tab_loop2 hs (by kernel_rfl) (fun y : Int => ⟨[(2, .ptr 0 0), (3, .ptr 1 0), (30, .pl (.int .i64 x.1.2.2.1)), (31, .pl (.int .i64 y))], [.box [.fz false (.int .i64) x.2.1.1, .pl (.int .i64 x.2.1.2.1), .fz false (.int .i32) x.2.1.2.2.1] false, .box [.fz false (.int .i64) x.2.2.1.1, .pl (.int .i64 x.2.2.1.2.1), .fz false (.int .i32) x.2.2.1.2.2.1] false]⟩) x.1.2.2.2.1 (by kernel_rfl) (fun y X => by kernel_rfl) h.it
  · cases hn
def pedagogueref1_SameAcc_sh : List Sh := [.agg [.fz false (.int .i64), .int .i64, .fz false (.int .i32)], .agg [.fz false (.int .i64), .int .i64, .fz false (.int .i32)]]
def pedagogueref1_SameAcc_d (x : denS pedagogueref1_SameAcc_sh) (Q : List (Bool × List VV) → Prop) : Prop := pedagogueref1_SameAcc (x.1.1, (x.1.2.1, x.1.2.2.1)) (x.2.1.1, (x.2.1.2.1, x.2.1.2.2.1)) (fun (r : Bool) => Q (slotsA [(false, .bool)] [.n] (r, ())))
theorem pedagogueref1_SameAcc_snd (x : denS pedagogueref1_SameAcc_sh) (Q : List (Bool × List VV) → Prop) (h : pedagogueref1_SameAcc_d x Q) : Sound Tryd.prog 22 (packS pedagogueref1_SameAcc_sh x) Q :=
  vfun_told [.n] (G := Gtensor_SameAcc) (ct := pedagogueref1_SameAcc_ct) (en := pedagogueref1_SameAcc_en) (fn := Tryd.f22) (cd := pedagogueref1_SameAcc_b) (rt := [(false, .bool)]) Tryd.func22 (by kernel_rfl) (by kernel_rfl) (Nat.le_of_ble_eq_true rfl) pedagogueref1_SameAcc_tab Otensor_SameAcc_ok h.it (by kernel_rfl)
noncomputable def Opedagogueref1_SameAcc : FuncId → List VV → (List (Bool × List VV) → Prop) → Prop := fun f args Q => if f = 22 then unA pedagogueref1_SameAcc_sh args (fun x => pedagogueref1_SameAcc_d x Q) else Otensor_SameAcc f args Q
theorem Opedagogueref1_SameAcc_ok : ∀ f args Q, Opedagogueref1_SameAcc f args Q → Sound Tryd.prog f args Q := tab_more Otensor_SameAcc_ok (f0 := 22) pedagogueref1_SameAcc_sh (fun x Q => pedagogueref1_SameAcc_d x Q) pedagogueref1_SameAcc_snd
noncomputable def Gpedagogueref1_SameAcc : Cfg := ⟨Tryd.prog, tt, Opedagogueref1_SameAcc, fun _ _ _ => False⟩
def pedagogueref1_MayAcc_t (a0 : (List Int) × Int × List Int) (Q : Bool → Prop) : Prop :=
  pedagogueref1_MayDims a0.1 (fun (r1 : Bool) => jn (fun (v2 : Bool) => Q ((v2 && (decide ((-128) ≤ a0.2.1))) && (decide (a0.2.1 ≤ 128)))) (fun J3 => if r1 = true then pedagogueref1_Size a0.1 (fun (r4 : Int) => J3 ((a0.2.2.length : Int) == r4)) else J3 false))
structure pedagogueref1_MayAcc (a0 : (List Int) × Int × List Int) (Q : Bool → Prop) : Prop where
  it : pedagogueref1_MayAcc_t a0 Q
noncomputable def pedagogueref1_MayAcc_ct : Tab := fun n => none
noncomputable def pedagogueref1_MayAcc_en : Go.Mach.Ends := fun n => match n with | 2 => some ([], [1]) | 6 => some ([], [2]) | 7 => some ([], [2]) | _ => none
noncomputable def pedagogueref1_MayAcc_b : Code := Tryd.f17.body.getD .skip
theorem pedagogueref1_MayAcc_tab : TabOk Gpedagogueref1_SameAcc pedagogueref1_MayAcc_ct pedagogueref1_MayAcc_en pedagogueref1_MayAcc_b := by
  intro n E hn f c hs x k h
  cases hn
def pedagogueref1_MayAcc_sh : List Sh := [.agg [.fz false (.int .i64), .int .i64, .fz false (.int .i32)]]
def pedagogueref1_MayAcc_d (x : denS pedagogueref1_MayAcc_sh) (Q : List (Bool × List VV) → Prop) : Prop := pedagogueref1_MayAcc (x.1.1, (x.1.2.1, x.1.2.2.1)) (fun (r : Bool) => Q (slotsA [(false, .bool)] [.n] (r, ())))
theorem pedagogueref1_MayAcc_snd (x : denS pedagogueref1_MayAcc_sh) (Q : List (Bool × List VV) → Prop) (h : pedagogueref1_MayAcc_d x Q) : Sound Tryd.prog 17 (packS pedagogueref1_MayAcc_sh x) Q :=
  vfun_told [.n] (G := Gpedagogueref1_SameAcc) (ct := pedagogueref1_MayAcc_ct) (en := pedagogueref1_MayAcc_en) (fn := Tryd.f17) (cd := pedagogueref1_MayAcc_b) (rt := [(false, .bool)]) Tryd.func17 (by kernel_rfl) (by kernel_rfl) (Nat.le_of_ble_eq_true rfl) pedagogueref1_MayAcc_tab Opedagogueref1_SameAcc_ok h.it (by kernel_rfl)
noncomputable def Opedagogueref1_MayAcc : FuncId → List VV → (List (Bool × List VV) → Prop) → Prop := fun f args Q => if f = 17 then unA pedagogueref1_MayAcc_sh args (fun x => pedagogueref1_MayAcc_d x Q) else Opedagogueref1_SameAcc f args Q
theorem Opedagogueref1_MayAcc_ok : ∀ f args Q, Opedagogueref1_MayAcc f args Q → Sound Tryd.prog f args Q := tab_more Opedagogueref1_SameAcc_ok (f0 := 17) pedagogueref1_MayAcc_sh (fun x Q => pedagogueref1_MayAcc_d x Q) pedagogueref1_MayAcc_snd
noncomputable def Gpedagogueref1_MayAcc : Cfg := ⟨Tryd.prog, tt, Opedagogueref1_MayAcc, fun _ _ _ => False⟩
def pedagogueref1_within_t (a0 : Int) (a1 : Int) (a2 : Int) (Q : Int → Prop) : Prop :=
  Q (greater a1 (smaller a0 a2))
structure pedagogueref1_within (a0 : Int) (a1 : Int) (a2 : Int) (Q : Int → Prop) : Prop where
  it : pedagogueref1_within_t a0 a1 a2 Q
noncomputable def pedagogueref1_within_ct : Tab := fun n => none
noncomputable def pedagogueref1_within_en : Go.Mach.Ends := fun n => match n with | 2 => some ([], [0, 1, 2]) | 6 => some ([], [6]) | 7 => some ([], [6]) | _ => none
noncomputable def pedagogueref1_within_b : Code := Tryd.f53.body.getD .skip
theorem pedagogueref1_within_tab : TabOk Gpedagogueref1_MayAcc pedagogueref1_within_ct pedagogueref1_within_en pedagogueref1_within_b := by
  intro n E hn f c hs x k h
  cases hn
def pedagogueref1_within_sh : List Sh := [.lf (.int .i64), .lf (.int .i64), .lf (.int .i64)]
def pedagogueref1_within_d (x : denS pedagogueref1_within_sh) (Q : List (Bool × List VV) → Prop) : Prop := pedagogueref1_within x.1 x.2.1 x.2.2.1 (fun (r : Int) => Q (slotsA [(false, (.int .i64))] [.n] (r, ())))
theorem pedagogueref1_within_snd (x : denS pedagogueref1_within_sh) (Q : List (Bool × List VV) → Prop) (h : pedagogueref1_within_d x Q) : Sound Tryd.prog 53 (packS pedagogueref1_within_sh x) Q :=
  vfun_told [.n] (G := Gpedagogueref1_MayAcc) (ct := pedagogueref1_within_ct) (en := pedagogueref1_within_en) (fn := Tryd.f53) (cd := pedagogueref1_within_b) (rt := [(false, (.int .i64))]) Tryd.func53 (by kernel_rfl) (by kernel_rfl) (Nat.le_of_ble_eq_true rfl) pedagogueref1_within_tab Opedagogueref1_MayAcc_ok h.it (by kernel_rfl)
noncomputable def Opedagogueref1_within : FuncId → List VV → (List (Bool × List VV) → Prop) → Prop := fun f args Q => if f = 53 then unA pedagogueref1_within_sh args (fun x => pedagogueref1_within_d x Q) else Opedagogueref1_MayAcc f args Q
theorem Opedagogueref1_within_ok : ∀ f args Q, Opedagogueref1_within f args Q → Sound Tryd.prog f args Q := tab_more Opedagogueref1_MayAcc_ok (f0 := 53) pedagogueref1_within_sh (fun x Q => pedagogueref1_within_d x Q) pedagogueref1_within_snd
noncomputable def Gpedagogueref1_within : Cfg := ⟨Tryd.prog, tt, Opedagogueref1_within, fun _ _ _ => False⟩
def pedagogueref1_taken_t (a0 : Int) (a1 : Int) (Q : (Int × Int) → Prop) : Prop :=
  pedagogueref1_within a0 (-4611686018427387904) 4611686018427387904 (fun (r1 : Int) => pedagogueref1_within a1 0 62 (fun (r2 : Int) => Q (r1, IntKind.u64.wrap r2)))
structure pedagogueref1_taken (a0 : Int) (a1 : Int) (Q : (Int × Int) → Prop) : Prop where
  it : pedagogueref1_taken_t a0 a1 Q
noncomputable def pedagogueref1_taken_ct : Tab := fun n => none
noncomputable def pedagogueref1_taken_en : Go.Mach.Ends := fun n => match n with | 2 => some ([], [0, 1]) | 6 => some ([], [4, 5]) | 7 => some ([], [4, 5]) | _ => none
noncomputable def pedagogueref1_taken_b : Code := Tryd.f54.body.getD .skip
theorem pedagogueref1_taken_tab : TabOk Gpedagogueref1_within pedagogueref1_taken_ct pedagogueref1_taken_en pedagogueref1_taken_b := by
  intro n E hn f c hs x k h
  cases hn
def pedagogueref1_taken_sh : List Sh := [.lf (.int .i64), .lf (.int .i64)]
def pedagogueref1_taken_d (x : denS pedagogueref1_taken_sh) (Q : List (Bool × List VV) → Prop) : Prop := pedagogueref1_taken x.1 x.2.1 (fun (r : Int × Int) => Q (slotsA [(false, (.int .i64)), (false, (.int .u64))] [.n, .n] (r.1, (r.2, ()))))
theorem pedagogueref1_taken_snd (x : denS pedagogueref1_taken_sh) (Q : List (Bool × List VV) → Prop) (h : pedagogueref1_taken_d x Q) : Sound Tryd.prog 54 (packS pedagogueref1_taken_sh x) Q :=
  vfun_told [.n, .n] (G := Gpedagogueref1_within) (ct := pedagogueref1_taken_ct) (en := pedagogueref1_taken_en) (fn := Tryd.f54) (cd := pedagogueref1_taken_b) (rt := [(false, (.int .i64)), (false, (.int .u64))]) Tryd.func54 (by kernel_rfl) (by kernel_rfl) (Nat.le_of_ble_eq_true rfl) pedagogueref1_taken_tab Opedagogueref1_within_ok h.it (by kernel_rfl)
noncomputable def Opedagogueref1_taken : FuncId → List VV → (List (Bool × List VV) → Prop) → Prop := fun f args Q => if f = 54 then unA pedagogueref1_taken_sh args (fun x => pedagogueref1_taken_d x Q) else Opedagogueref1_within f args Q
theorem Opedagogueref1_taken_ok : ∀ f args Q, Opedagogueref1_taken f args Q → Sound Tryd.prog f args Q := tab_more Opedagogueref1_within_ok (f0 := 54) pedagogueref1_taken_sh (fun x Q => pedagogueref1_taken_d x Q) pedagogueref1_taken_snd
noncomputable def Gpedagogueref1_taken : Cfg := ⟨Tryd.prog, tt, Opedagogueref1_taken, fun _ _ _ => False⟩
def pedagogueref1_Bits_n0_B  (K0 : Int → Prop) (s : Int × Int) (nx : (Int × Int) → Prop) : Prop :=
  if (decide (0 < s.2)) = true then ck ((0 : Int) ≤ 1) (nx (IntKind.i64.wrap (s.1 + 1), (s.2).fdiv (2 ^ (min ((1 : Int)).toNat (IntKind.i64).bits)))) else K0 s.1
structure pedagogueref1_Bits_n0  (K0 : Int → Prop) (s : Int × Int) : Prop where
  it : Go.Mach.Loop (pedagogueref1_Bits_n0_B K0) s
def pedagogueref1_Bits_t (a0 : Int) (Q : Int → Prop) : Prop :=
  pedagogueref1_taken a0 0 (fun (r1 : Int × Int) => pedagogueref1_Bits_n0 (fun (y2 : Int) => Q y2) (0, greater r1.1 (IntKind.i64.wrap (0 - r1.1))))
structure pedagogueref1_Bits (a0 : Int) (Q : Int → Prop) : Prop where
  it : pedagogueref1_Bits_t a0 Q
noncomputable def pedagogueref1_Bits_e0 : Ent := ⟨[3, 4], [.lf (.int .i64), .lf (.int .i64)], [], fun x k => pedagogueref1_Bits_n0 (fun (y3 : Int) => k (.exit 0) ⟨[(3, .pl (.int .i64 y3))], []⟩) (x.1.1, x.1.2.1)⟩
noncomputable def pedagogueref1_Bits_ct : Tab := fun n => match n with | 122 => some pedagogueref1_Bits_e0 | _ => none
noncomputable def pedagogueref1_Bits_en : Go.Mach.Ends := fun n => match n with | 2 => some ([], [0]) | 6 => some ([], [0]) | 14 => some ([], [0, 3]) | 60 => some ([], [3, 4]) | 62 => some ([], [2]) | 63 => some ([], [2]) | 122 => some ([], [3, 4]) | 976 => some ([], [3, 4, 15]) | 979 => some ([], [3, 4]) | 1954 => some ([], [3, 4]) | 1955 => some ([], [3]) | 1956 => some ([], [3, 4]) | _ => none
noncomputable def pedagogueref1_Bits_b : Code := Tryd.f39.body.getD .skip
theorem pedagogueref1_Bits_tab : TabOk Gpedagogueref1_taken pedagogueref1_Bits_ct pedagogueref1_Bits_en pedagogueref1_Bits_b := by
  intro n E hn f c hs x k h
  unfold pedagogueref1_Bits_ct at hn
  split at hn
  · cases hn; exact tab_loop2 hs (by kernel_rfl) (fun y : Int × Int => ⟨[(3, .pl (.int .i64 y.1)), (4, .pl (.int .i64 y.2))], []⟩) (x.1.1, x.1.2.1) (by kernel_rfl) (fun y X => by kernel_rfl) h.it
  · cases hn
def pedagogueref1_Bits_sh : List Sh := [.lf (.int .i64)]
def pedagogueref1_Bits_d (x : denS pedagogueref1_Bits_sh) (Q : List (Bool × List VV) → Prop) : Prop := pedagogueref1_Bits x.1 (fun (r : Int) => Q (slotsA [(false, (.int .i64))] [.n] (r, ())))
theorem pedagogueref1_Bits_snd (x : denS pedagogueref1_Bits_sh) (Q : List (Bool × List VV) → Prop) (h : pedagogueref1_Bits_d x Q) : Sound Tryd.prog 39 (packS pedagogueref1_Bits_sh x) Q :=
  vfun_told [.n] (G := Gpedagogueref1_taken) (ct := pedagogueref1_Bits_ct) (en := pedagogueref1_Bits_en) (fn := Tryd.f39) (cd := pedagogueref1_Bits_b) (rt := [(false, (.int .i64))]) Tryd.func39 (by kernel_rfl) (by kernel_rfl) (Nat.le_of_ble_eq_true rfl) pedagogueref1_Bits_tab Opedagogueref1_taken_ok h.it (by kernel_rfl)
noncomputable def Opedagogueref1_Bits : FuncId → List VV → (List (Bool × List VV) → Prop) → Prop := fun f args Q => if f = 39 then unA pedagogueref1_Bits_sh args (fun x => pedagogueref1_Bits_d x Q) else Opedagogueref1_taken f args Q
theorem Opedagogueref1_Bits_ok : ∀ f args Q, Opedagogueref1_Bits f args Q → Sound Tryd.prog f args Q := tab_more Opedagogueref1_taken_ok (f0 := 39) pedagogueref1_Bits_sh (fun x Q => pedagogueref1_Bits_d x Q) pedagogueref1_Bits_snd
noncomputable def Gpedagogueref1_Bits : Cfg := ⟨Tryd.prog, tt, Opedagogueref1_Bits, fun _ _ _ => False⟩
def pedagogueref1_Width_n0_B (x1 : List Int) (x2 : Int) (K0 : Int → Prop) (s : Int × Int) (nx : (Int × Int) → Prop) : Prop :=
  if (decide (s.2 < x2)) = true then ck ((0 : Int) ≤ s.2 ∧ s.2 < (x1.length : Int)) (pedagogueref1_Bits (IntKind.i64.wrap (x1.getD ((s.2).toNat) 0)) (fun (r2 : Int) => nx (greater s.1 r2, IntKind.i64.wrap (s.2 + 1)))) else K0 s.1
structure pedagogueref1_Width_n0 (x1 : List Int) (x2 : Int) (K0 : Int → Prop) (s : Int × Int) : Prop where
  it : Go.Mach.Loop (pedagogueref1_Width_n0_B x1 x2 K0) s
def pedagogueref1_Width_t (a0 : (List Int) × Int × List Int) (Q : Int → Prop) : Prop :=
  pedagogueref1_MayAcc (a0.1, (a0.2.1, a0.2.2)) (fun (r1 : Bool) => if (!r1) = true then Q 0 else pedagogueref1_Width_n0 a0.2.2 (a0.2.2.length : Int) (fun (y3 : Int) => Q y3) (0, 0))
structure pedagogueref1_Width (a0 : (List Int) × Int × List Int) (Q : Int → Prop) : Prop where
  it : pedagogueref1_Width_t a0 Q
noncomputable def pedagogueref1_Width_e0 : Ent := ⟨[3, 10, 11, 12], [.lf (.int .i64), .lf (.fz false (.int .i32)), .lf (.int .i64), .lf (.int .i64)], [], fun x k => pedagogueref1_Width_n0 x.1.2.1 x.1.2.2.1 (fun (y4 : Int) => k (.exit 0) ⟨[(3, .pl (.int .i64 y4))], []⟩) (x.1.1, x.1.2.2.2.1)⟩
noncomputable def pedagogueref1_Width_ct : Tab := fun n => match n with | 122 => some pedagogueref1_Width_e0 | _ => none
noncomputable def pedagogueref1_Width_en : Go.Mach.Ends := fun n => match n with | 2 => some ([], [1]) | 6 => some ([], [1, 3]) | 28 => some ([], [1, 3, 8]) | 59 => some ([], [1, 3]) | 60 => some ([], [3, 10, 11, 12]) | 62 => some ([], [2]) | 63 => some ([], [2]) | 116 => some ([], [2]) | 117 => some ([], [2]) | 122 => some ([], [3, 10, 11, 12]) | 488 => some ([], [3, 10, 11, 12, 13]) | 1956 => some ([], [3, 10, 11, 12]) | 1957 => some ([], [3]) | 1959 => some ([], [3, 10, 11, 12]) | 7832 => some ([], [3, 5, 10, 11, 12]) | 7833 => some ([], [3, 10, 11, 12]) | _ => none
noncomputable def pedagogueref1_Width_b : Code := Tryd.f19.body.getD .skip
theorem pedagogueref1_Width_tab : TabOk Gpedagogueref1_Bits pedagogueref1_Width_ct pedagogueref1_Width_en pedagogueref1_Width_b := by
  intro n E hn f c hs x k h
  unfold pedagogueref1_Width_ct at hn
  split at hn
  · cases hn; exact tab_loop2 hs (by kernel_rfl) (fun y : Int × Int => ⟨[(3, .pl (.int .i64 y.1)), (10, .fz false (.int .i32) x.1.2.1), (11, .pl (.int .i64 x.1.2.2.1)), (12, .pl (.int .i64 y.2))], []⟩) (x.1.1, x.1.2.2.2.1) (by kernel_rfl) (fun y X => by kernel_rfl) h.it
  · cases hn
def pedagogueref1_Width_sh : List Sh := [.agg [.fz false (.int .i64), .int .i64, .fz false (.int .i32)]]
def pedagogueref1_Width_d (x : denS pedagogueref1_Width_sh) (Q : List (Bool × List VV) → Prop) : Prop := pedagogueref1_Width (x.1.1, (x.1.2.1, x.1.2.2.1)) (fun (r : Int) => Q (slotsA [(false, (.int .i64))] [.n] (r, ())))
theorem pedagogueref1_Width_snd (x : denS pedagogueref1_Width_sh) (Q : List (Bool × List VV) → Prop) (h : pedagogueref1_Width_d x Q) : Sound Tryd.prog 19 (packS pedagogueref1_Width_sh x) Q :=
  vfun_told [.n] (G := Gpedagogueref1_Bits) (ct := pedagogueref1_Width_ct) (en := pedagogueref1_Width_en) (fn := Tryd.f19) (cd := pedagogueref1_Width_b) (rt := [(false, (.int .i64))]) Tryd.func19 (by kernel_rfl) (by kernel_rfl) (Nat.le_of_ble_eq_true rfl) pedagogueref1_Width_tab Opedagogueref1_Bits_ok h.it (by kernel_rfl)
noncomputable def Opedagogueref1_Width : FuncId → List VV → (List (Bool × List VV) → Prop) → Prop := fun f args Q => if f = 19 then unA pedagogueref1_Width_sh args (fun x => pedagogueref1_Width_d x Q) else Opedagogueref1_Bits f args Q
theorem Opedagogueref1_Width_ok : ∀ f args Q, Opedagogueref1_Width f args Q → Sound Tryd.prog f args Q := tab_more Opedagogueref1_Bits_ok (f0 := 19) pedagogueref1_Width_sh (fun x Q => pedagogueref1_Width_d x Q) pedagogueref1_Width_snd
noncomputable def Gpedagogueref1_Width : Cfg := ⟨Tryd.prog, tt, Opedagogueref1_Width, fun _ _ _ => False⟩
def pedagogueref1_Mix_t (a0 : Int) (Q : Int → Prop) : Prop :=
  ck ((0 : Int) ≤ 30) (ck ((0 : Int) ≤ 27) (ck ((0 : Int) ≤ 31) (Q (IntKind.u64.wrap ((BitVec.ofInt (IntKind.u64).bits (IntKind.u64.wrap ((IntKind.u64.wrap ((BitVec.ofInt (IntKind.u64).bits (IntKind.u64.wrap ((IntKind.u64.wrap ((BitVec.ofInt (IntKind.u64).bits (IntKind.u64.wrap (a0 + 11400714819323198485)) ^^^ BitVec.ofInt (IntKind.u64).bits ((IntKind.u64.wrap (a0 + 11400714819323198485)).fdiv (2 ^ (min ((30 : Int)).toNat (IntKind.u64).bits)))).toNat : Nat)) * 13787848793156543929)) ^^^ BitVec.ofInt (IntKind.u64).bits ((IntKind.u64.wrap ((IntKind.u64.wrap ((BitVec.ofInt (IntKind.u64).bits (IntKind.u64.wrap (a0 + 11400714819323198485)) ^^^ BitVec.ofInt (IntKind.u64).bits ((IntKind.u64.wrap (a0 + 11400714819323198485)).fdiv (2 ^ (min ((30 : Int)).toNat (IntKind.u64).bits)))).toNat : Nat)) * 13787848793156543929)).fdiv (2 ^ (min ((27 : Int)).toNat (IntKind.u64).bits)))).toNat : Nat)) * 10723151780598845931)) ^^^ BitVec.ofInt (IntKind.u64).bits ((IntKind.u64.wrap ((IntKind.u64.wrap ((BitVec.ofInt (IntKind.u64).bits (IntKind.u64.wrap ((IntKind.u64.wrap ((BitVec.ofInt (IntKind.u64).bits (IntKind.u64.wrap (a0 + 11400714819323198485)) ^^^ BitVec.ofInt (IntKind.u64).bits ((IntKind.u64.wrap (a0 + 11400714819323198485)).fdiv (2 ^ (min ((30 : Int)).toNat (IntKind.u64).bits)))).toNat : Nat)) * 13787848793156543929)) ^^^ BitVec.ofInt (IntKind.u64).bits ((IntKind.u64.wrap ((IntKind.u64.wrap ((BitVec.ofInt (IntKind.u64).bits (IntKind.u64.wrap (a0 + 11400714819323198485)) ^^^ BitVec.ofInt (IntKind.u64).bits ((IntKind.u64.wrap (a0 + 11400714819323198485)).fdiv (2 ^ (min ((30 : Int)).toNat (IntKind.u64).bits)))).toNat : Nat)) * 13787848793156543929)).fdiv (2 ^ (min ((27 : Int)).toNat (IntKind.u64).bits)))).toNat : Nat)) * 10723151780598845931)).fdiv (2 ^ (min ((31 : Int)).toNat (IntKind.u64).bits)))).toNat : Nat)))))
structure pedagogueref1_Mix (a0 : Int) (Q : Int → Prop) : Prop where
  it : pedagogueref1_Mix_t a0 Q
noncomputable def pedagogueref1_Mix_ct : Tab := fun n => none
noncomputable def pedagogueref1_Mix_en : Go.Mach.Ends := fun n => match n with | 2 => some ([], [0]) | 6 => some ([], [0]) | 14 => some ([], [0]) | 30 => some ([], [0]) | 62 => some ([], [2]) | 63 => some ([], [2]) | _ => none
noncomputable def pedagogueref1_Mix_b : Code := Tryd.f55.body.getD .skip
theorem pedagogueref1_Mix_tab : TabOk Gpedagogueref1_Width pedagogueref1_Mix_ct pedagogueref1_Mix_en pedagogueref1_Mix_b := by
  intro n E hn f c hs x k h
  cases hn
def pedagogueref1_Mix_sh : List Sh := [.lf (.int .u64)]
def pedagogueref1_Mix_d (x : denS pedagogueref1_Mix_sh) (Q : List (Bool × List VV) → Prop) : Prop := pedagogueref1_Mix x.1 (fun (r : Int) => Q (slotsA [(false, (.int .u64))] [.n] (r, ())))
theorem pedagogueref1_Mix_snd (x : denS pedagogueref1_Mix_sh) (Q : List (Bool × List VV) → Prop) (h : pedagogueref1_Mix_d x Q) : Sound Tryd.prog 55 (packS pedagogueref1_Mix_sh x) Q :=
  vfun_told [.n] (G := Gpedagogueref1_Width) (ct := pedagogueref1_Mix_ct) (en := pedagogueref1_Mix_en) (fn := Tryd.f55) (cd := pedagogueref1_Mix_b) (rt := [(false, (.int .u64))]) Tryd.func55 (by kernel_rfl) (by kernel_rfl) (Nat.le_of_ble_eq_true rfl) pedagogueref1_Mix_tab Opedagogueref1_Width_ok h.it (by kernel_rfl)
noncomputable def Opedagogueref1_Mix : FuncId → List VV → (List (Bool × List VV) → Prop) → Prop := fun f args Q => if f = 55 then unA pedagogueref1_Mix_sh args (fun x => pedagogueref1_Mix_d x Q) else Opedagogueref1_Width f args Q
theorem Opedagogueref1_Mix_ok : ∀ f args Q, Opedagogueref1_Mix f args Q → Sound Tryd.prog f args Q := tab_more Opedagogueref1_Width_ok (f0 := 55) pedagogueref1_Mix_sh (fun x Q => pedagogueref1_Mix_d x Q) pedagogueref1_Mix_snd
noncomputable def Gpedagogueref1_Mix : Cfg := ⟨Tryd.prog, tt, Opedagogueref1_Mix, fun _ _ _ => False⟩
def pedagogueref1_At_t (a0 : Int) (a1 : Int) (a2 : Int) (Q : Int → Prop) : Prop :=
  pedagogueref1_Mix a0 (fun (r1 : Int) => pedagogueref1_Mix (IntKind.u64.wrap ((BitVec.ofInt (IntKind.u64).bits r1 ^^^ BitVec.ofInt (IntKind.u64).bits a1).toNat : Nat)) (fun (r2 : Int) => pedagogueref1_Mix (IntKind.u64.wrap ((BitVec.ofInt (IntKind.u64).bits r2 ^^^ BitVec.ofInt (IntKind.u64).bits a2).toNat : Nat)) (fun (r3 : Int) => Q r3)))
structure pedagogueref1_At (a0 : Int) (a1 : Int) (a2 : Int) (Q : Int → Prop) : Prop where
  it : pedagogueref1_At_t a0 a1 a2 Q
noncomputable def pedagogueref1_At_ct : Tab := fun n => none
noncomputable def pedagogueref1_At_en : Go.Mach.Ends := fun n => match n with | 2 => some ([], [0, 1, 2]) | 6 => some ([], [6]) | 7 => some ([], [6]) | _ => none
noncomputable def pedagogueref1_At_b : Code := Tryd.f37.body.getD .skip
theorem pedagogueref1_At_tab : TabOk Gpedagogueref1_Mix pedagogueref1_At_ct pedagogueref1_At_en pedagogueref1_At_b := by
  intro n E hn f c hs x k h
  cases hn
def pedagogueref1_At_sh : List Sh := [.lf (.int .u64), .lf (.int .u64), .lf (.int .u64)]
def pedagogueref1_At_d (x : denS pedagogueref1_At_sh) (Q : List (Bool × List VV) → Prop) : Prop := pedagogueref1_At x.1 x.2.1 x.2.2.1 (fun (r : Int) => Q (slotsA [(false, (.int .u64))] [.n] (r, ())))
theorem pedagogueref1_At_snd (x : denS pedagogueref1_At_sh) (Q : List (Bool × List VV) → Prop) (h : pedagogueref1_At_d x Q) : Sound Tryd.prog 37 (packS pedagogueref1_At_sh x) Q :=
  vfun_told [.n] (G := Gpedagogueref1_Mix) (ct := pedagogueref1_At_ct) (en := pedagogueref1_At_en) (fn := Tryd.f37) (cd := pedagogueref1_At_b) (rt := [(false, (.int .u64))]) Tryd.func37 (by kernel_rfl) (by kernel_rfl) (Nat.le_of_ble_eq_true rfl) pedagogueref1_At_tab Opedagogueref1_Mix_ok h.it (by kernel_rfl)
noncomputable def Opedagogueref1_At : FuncId → List VV → (List (Bool × List VV) → Prop) → Prop := fun f args Q => if f = 37 then unA pedagogueref1_At_sh args (fun x => pedagogueref1_At_d x Q) else Opedagogueref1_Mix f args Q
theorem Opedagogueref1_At_ok : ∀ f args Q, Opedagogueref1_At f args Q → Sound Tryd.prog f args Q := tab_more Opedagogueref1_Mix_ok (f0 := 37) pedagogueref1_At_sh (fun x Q => pedagogueref1_At_d x Q) pedagogueref1_At_snd
noncomputable def Gpedagogueref1_At : Cfg := ⟨Tryd.prog, tt, Opedagogueref1_At, fun _ _ _ => False⟩
def pedagogueref1_Chance_t (a0 : Int) (a1 : Int) (a2 : Int) (Q : Int → Prop) : Prop :=
  pedagogueref1_taken a0 a1 (fun (r1 : Int × Int) => ck ((0 : Int) ≤ r1.2) (ck ((0 : Int) ≤ r1.2) (Q ((IntKind.i64.wrap (r1.1 + (IntKind.i64.wrap (IntKind.u64.wrap ((BitVec.ofInt (IntKind.u64).bits a2 &&& BitVec.ofInt (IntKind.u64).bits (IntKind.u64.wrap ((IntKind.u64.wrap (1 * 2 ^ (min (r1.2).toNat (IntKind.u64).bits))) - 1))).toNat : Nat))))).fdiv (2 ^ (min (r1.2).toNat (IntKind.i64).bits))))))
structure pedagogueref1_Chance (a0 : Int) (a1 : Int) (a2 : Int) (Q : Int → Prop) : Prop where
  it : pedagogueref1_Chance_t a0 a1 a2 Q
noncomputable def pedagogueref1_Chance_ct : Tab := fun n => none
noncomputable def pedagogueref1_Chance_en : Go.Mach.Ends := fun n => match n with | 2 => some ([], [0, 1, 2]) | 6 => some ([], [0, 2, 7]) | 14 => some ([], [6]) | 15 => some ([], [6]) | _ => none
noncomputable def pedagogueref1_Chance_b : Code := Tryd.f36.body.getD .skip
theorem pedagogueref1_Chance_tab : TabOk Gpedagogueref1_At pedagogueref1_Chance_ct pedagogueref1_Chance_en pedagogueref1_Chance_b := by
  intro n E hn f c hs x k h
  cases hn
def pedagogueref1_Chance_sh : List Sh := [.lf (.int .i64), .lf (.int .i64), .lf (.int .u64)]
def pedagogueref1_Chance_d (x : denS pedagogueref1_Chance_sh) (Q : List (Bool × List VV) → Prop) : Prop := pedagogueref1_Chance x.1 x.2.1 x.2.2.1 (fun (r : Int) => Q (slotsA [(false, (.int .i64))] [.n] (r, ())))
theorem pedagogueref1_Chance_snd (x : denS pedagogueref1_Chance_sh) (Q : List (Bool × List VV) → Prop) (h : pedagogueref1_Chance_d x Q) : Sound Tryd.prog 36 (packS pedagogueref1_Chance_sh x) Q :=
  vfun_told [.n] (G := Gpedagogueref1_At) (ct := pedagogueref1_Chance_ct) (en := pedagogueref1_Chance_en) (fn := Tryd.f36) (cd := pedagogueref1_Chance_b) (rt := [(false, (.int .i64))]) Tryd.func36 (by kernel_rfl) (by kernel_rfl) (Nat.le_of_ble_eq_true rfl) pedagogueref1_Chance_tab Opedagogueref1_At_ok h.it (by kernel_rfl)
noncomputable def Opedagogueref1_Chance : FuncId → List VV → (List (Bool × List VV) → Prop) → Prop := fun f args Q => if f = 36 then unA pedagogueref1_Chance_sh args (fun x => pedagogueref1_Chance_d x Q) else Opedagogueref1_At f args Q
theorem Opedagogueref1_Chance_ok : ∀ f args Q, Opedagogueref1_Chance f args Q → Sound Tryd.prog f args Q := tab_more Opedagogueref1_At_ok (f0 := 36) pedagogueref1_Chance_sh (fun x Q => pedagogueref1_Chance_d x Q) pedagogueref1_Chance_snd
noncomputable def Gpedagogueref1_Chance : Cfg := ⟨Tryd.prog, tt, Opedagogueref1_Chance, fun _ _ _ => False⟩
def pedagogueref1_Clamp_t (a0 : Int) (a1 : Int) (Q : Int → Prop) : Prop :=
  pedagogueref1_within a1 1 32 (fun (r1 : Int) => ck ((0 : Int) ≤ (IntKind.u64.wrap (IntKind.i64.wrap (r1 - 1)))) (pedagogueref1_within a0 (IntKind.i64.wrap (0 - (IntKind.i64.wrap ((IntKind.i64.wrap (1 * 2 ^ (min (IntKind.u64.wrap (IntKind.i64.wrap (r1 - 1))).toNat (IntKind.i64).bits))) - 1)))) (IntKind.i64.wrap ((IntKind.i64.wrap (1 * 2 ^ (min (IntKind.u64.wrap (IntKind.i64.wrap (r1 - 1))).toNat (IntKind.i64).bits))) - 1)) (fun (r2 : Int) => Q r2)))
structure pedagogueref1_Clamp (a0 : Int) (a1 : Int) (Q : Int → Prop) : Prop where
  it : pedagogueref1_Clamp_t a0 a1 Q
noncomputable def pedagogueref1_Clamp_ct : Tab := fun n => none
noncomputable def pedagogueref1_Clamp_en : Go.Mach.Ends := fun n => match n with | 2 => some ([], [0, 1]) | 6 => some ([], [0, 5]) | 14 => some ([], [4]) | 15 => some ([], [4]) | _ => none
noncomputable def pedagogueref1_Clamp_b : Code := Tryd.f35.body.getD .skip
theorem pedagogueref1_Clamp_tab : TabOk Gpedagogueref1_Chance pedagogueref1_Clamp_ct pedagogueref1_Clamp_en pedagogueref1_Clamp_b := by
  intro n E hn f c hs x k h
  cases hn
def pedagogueref1_Clamp_sh : List Sh := [.lf (.int .i64), .lf (.int .i64)]
def pedagogueref1_Clamp_d (x : denS pedagogueref1_Clamp_sh) (Q : List (Bool × List VV) → Prop) : Prop := pedagogueref1_Clamp x.1 x.2.1 (fun (r : Int) => Q (slotsA [(false, (.int .i64))] [.n] (r, ())))
theorem pedagogueref1_Clamp_snd (x : denS pedagogueref1_Clamp_sh) (Q : List (Bool × List VV) → Prop) (h : pedagogueref1_Clamp_d x Q) : Sound Tryd.prog 35 (packS pedagogueref1_Clamp_sh x) Q :=
  vfun_told [.n] (G := Gpedagogueref1_Chance) (ct := pedagogueref1_Clamp_ct) (en := pedagogueref1_Clamp_en) (fn := Tryd.f35) (cd := pedagogueref1_Clamp_b) (rt := [(false, (.int .i64))]) Tryd.func35 (by kernel_rfl) (by kernel_rfl) (Nat.le_of_ble_eq_true rfl) pedagogueref1_Clamp_tab Opedagogueref1_Chance_ok h.it (by kernel_rfl)
noncomputable def Opedagogueref1_Clamp : FuncId → List VV → (List (Bool × List VV) → Prop) → Prop := fun f args Q => if f = 35 then unA pedagogueref1_Clamp_sh args (fun x => pedagogueref1_Clamp_d x Q) else Opedagogueref1_Chance f args Q
theorem Opedagogueref1_Clamp_ok : ∀ f args Q, Opedagogueref1_Clamp f args Q → Sound Tryd.prog f args Q := tab_more Opedagogueref1_Chance_ok (f0 := 35) pedagogueref1_Clamp_sh (fun x Q => pedagogueref1_Clamp_d x Q) pedagogueref1_Clamp_snd
noncomputable def Gpedagogueref1_Clamp : Cfg := ⟨Tryd.prog, tt, Opedagogueref1_Clamp, fun _ _ _ => False⟩
def pedagogueref1_Small_n0_B (x0 : Int) (x1 : Int) (x2 : Int) (x3 : Int) (x4 : List Int) (x5 : Int) (K0 : (List Int) → Prop) (s : Int × List Int) (nx : (Int × List Int) → Prop) : Prop :=
  if (decide (s.1 < x5)) = true then ck ((0 : Int) ≤ s.1 ∧ s.1 < (x4.length : Int)) (pedagogueref1_At x1 x2 (IntKind.u64.wrap s.1) (fun (r6 : Int) => pedagogueref1_Chance (IntKind.i64.wrap (x4.getD ((s.1).toNat) 0)) x3 r6 (fun (r7 : Int) => pedagogueref1_Clamp r7 x0 (fun (r8 : Int) => ck ((s.2.length + [IntKind.i8.wrap r8].length) * 1 ≤ 140737488355328) (nx (IntKind.i64.wrap (s.1 + 1), s.2 ++ [IntKind.i8.wrap r8])))))) else K0 s.2
structure pedagogueref1_Small_n0 (x0 : Int) (x1 : Int) (x2 : Int) (x3 : Int) (x4 : List Int) (x5 : Int) (K0 : (List Int) → Prop) (s : Int × List Int) : Prop where
  it : Go.Mach.Loop (pedagogueref1_Small_n0_B x0 x1 x2 x3 x4 x5 K0) s
def pedagogueref1_Small_t (a0 : (List Int) × Int × List Int) (a1 : Int) (a2 : Int) (a3 : Int) (Q : (((List Int) × Int × List Int) × Int) → Prop) : Prop :=
  pedagogueref1_MayAcc (a0.1, (a0.2.1, a0.2.2)) (fun (r1 : Bool) => if (((!r1) || (decide (a1 < 2))) || (decide (8 < a1))) = true then Q ((([] : List Int), (0, ([] : List Int))), 1) else pedagogueref1_Width (a0.1, (a0.2.1, a0.2.2)) (fun (r2 : Int) => ck (a0.1.length * 8 ≤ 140737488355328) (if ((decide ((IntKind.i64.wrap (a0.2.1 + (greater 0 (IntKind.i64.wrap (r2 - (IntKind.i64.wrap (a1 - 1))))))) < (-64))) || (decide (64 < (IntKind.i64.wrap (a0.2.1 + (greater 0 (IntKind.i64.wrap (r2 - (IntKind.i64.wrap (a1 - 1)))))))))) = true then Q ((([] : List Int), (0, ([] : List Int))), 3) else pedagogueref1_Small_n0 a1 a2 a3 (greater 0 (IntKind.i64.wrap (r2 - (IntKind.i64.wrap (a1 - 1))))) a0.2.2 (a0.2.2.length : Int) (fun (y9 : List Int) => Q ((a0.1, ((IntKind.i64.wrap (a0.2.1 + (greater 0 (IntKind.i64.wrap (r2 - (IntKind.i64.wrap (a1 - 1))))))), y9)), 0)) (0, ([] : List Int)))))
structure pedagogueref1_Small (a0 : (List Int) × Int × List Int) (a1 : Int) (a2 : Int) (a3 : Int) (Q : (((List Int) × Int × List Int) × Int) → Prop) : Prop where
  it : pedagogueref1_Small_t a0 a1 a2 a3 Q
noncomputable def pedagogueref1_Small_e0 : Ent := ⟨[1, 2, 3, 8, 10, 11, 50, 51, 52], [.lf (.int .i64), .lf (.int .u64), .lf (.int .u64), .lf (.cst (.ptr 0 0)), .lf (.int .i64), .lf (.cst (.ptr 1 0)), .lf (.fz false (.int .i32)), .lf (.int .i64), .lf (.int .i64)], [.box [.cst (.pl (.slice none 0 0)), .int .i64, .cst (.pl (.slice none 0 0))] false, .box [.cst (.own 2), .int .i64, .cst (.pl (.slice none 0 0))] false, .lst true (.int .i64) false], fun x k => pedagogueref1_Small_n0 x.1.1 x.1.2.1 x.1.2.2.1 x.1.2.2.2.2.1 x.1.2.2.2.2.2.2.1 x.1.2.2.2.2.2.2.2.1 (fun (y10 : List Int) => k (.exit 0) ⟨[(8, .ptr 0 0), (11, .ptr 1 0)], [.box [.pl (.slice none 0 0), .pl (.int .i64 x.2.1.2.1), .pl (.slice none 0 0)] false, .box [.own 2, .pl (.int .i64 x.2.2.1.2.1), .own 3] false, .lst true (.int .i64) x.2.2.2.1 false, .lst true (.int .i8) y10 false]⟩) (x.1.2.2.2.2.2.2.2.2.1, ([] : List Int))⟩
noncomputable def pedagogueref1_Small_ct : Tab := fun n => match n with | 506 => some pedagogueref1_Small_e0 | _ => none
noncomputable def pedagogueref1_Small_en : Go.Mach.Ends := fun n => match n with | 2 => some ([], [1, 2, 3, 4, 8]) | 12 => some ([], [1, 2, 3, 4, 8, 24]) | 14 => some ([], [1, 2, 3, 4, 8, 10]) | 27 => some ([], [1, 2, 3, 4, 8]) | 30 => some ([], [1, 2, 3, 4, 8, 10, 11]) | 52 => some ([], [8, 9]) | 53 => some ([], [8, 9]) | 124 => some ([], [1, 2, 3, 4, 8, 10, 11, 47]) | 251 => some ([], [1, 2, 3, 4, 8, 10, 11]) | 252 => some ([], [1, 2, 3, 8, 10, 11, 50, 51, 52]) | 254 => some ([], [8, 9]) | 255 => some ([], [8, 9]) | 500 => some ([], [8, 9]) | 501 => some ([], [8, 9]) | 506 => some ([⟨11, some 2, false, (.int .i8)⟩], [1, 2, 3, 8, 10, 11, 50, 51, 52]) | 2024 => some ([], [1, 2, 3, 8, 10, 11, 50, 51, 52, 53]) | 8100 => some ([], [1, 2, 3, 8, 10, 11, 50, 51, 52]) | 8101 => some ([], [8, 11]) | 8103 => some ([], [1, 2, 3, 8, 10, 11, 50, 51, 52]) | 32408 => some ([], [1, 2, 3, 8, 10, 11, 12, 13, 50, 51, 52]) | 32409 => some ([], [1, 2, 3, 8, 10, 11, 50, 51, 52]) | _ => none
noncomputable def pedagogueref1_Small_b : Code := Tryd.f11.body.getD .skip
theorem pedagogueref1_Small_tab : TabOk Gpedagogueref1_Clamp pedagogueref1_Small_ct pedagogueref1_Small_en pedagogueref1_Small_b := by
  intro n E hn f c hs x k h
  unfold pedagogueref1_Small_ct at hn
  split at hn
  · cases hn; exact tab_loop2 hs (by kernel_rfl) (fun y : Int × List Int => ⟨[(1, .pl (.int .i64 x.1.1)), (2, .pl (.int .u64 x.1.2.1)), (3, .pl (.int .u64 x.1.2.2.1)), (8, .ptr 0 0), (10, .pl (.int .i64 x.1.2.2.2.2.1)), (11, .ptr 1 0), (50, .fz false (.int .i32) x.1.2.2.2.2.2.2.1), (51, .pl (.int .i64 x.1.2.2.2.2.2.2.2.1)), (52, .pl (.int .i64 y.1))], [.box [.pl (.slice none 0 0), .pl (.int .i64 x.2.1.2.1), .pl (.slice none 0 0)] false, .box [.own 2, .pl (.int .i64 x.2.2.1.2.1), .own 3] false, .lst true (.int .i64) x.2.2.2.1 false, .lst true (.int .i8) y.2 false]⟩) (x.1.2.2.2.2.2.2.2.2.1, ([] : List Int)) (by kernel_rfl) (fun y X => by kernel_rfl) h.it
  · cases hn
def pedagogueref1_Small_sh : List Sh := [.agg [.fz false (.int .i64), .int .i64, .fz false (.int .i32)], .lf (.int .i64), .lf (.int .u64), .lf (.int .u64)]
def pedagogueref1_Small_d (x : denS pedagogueref1_Small_sh) (Q : List (Bool × List VV) → Prop) : Prop := pedagogueref1_Small (x.1.1, (x.1.2.1, x.1.2.2.1)) x.2.1 x.2.2.1 x.2.2.2.1 (fun (r : ((List Int) × Int × List Int) × Int) => Q (slotsA [(true, (.pair (.slc (.int .i64)) (.pair (.int .i64) (.slc (.int .i8))))), (false, (.int .i64))] [.n, .n] (r.1, (r.2, ()))))
theorem pedagogueref1_Small_snd (x : denS pedagogueref1_Small_sh) (Q : List (Bool × List VV) → Prop) (h : pedagogueref1_Small_d x Q) : Sound Tryd.prog 11 (packS pedagogueref1_Small_sh x) Q :=
  vfun_told [.n, .n] (G := Gpedagogueref1_Clamp) (ct := pedagogueref1_Small_ct) (en := pedagogueref1_Small_en) (fn := Tryd.f11) (cd := pedagogueref1_Small_b) (rt := [(true, (.pair (.slc (.int .i64)) (.pair (.int .i64) (.slc (.int .i8))))), (false, (.int .i64))]) Tryd.func11 (by kernel_rfl) (by kernel_rfl) (Nat.le_of_ble_eq_true rfl) pedagogueref1_Small_tab Opedagogueref1_Clamp_ok h.it (by kernel_rfl)
noncomputable def Opedagogueref1_Small : FuncId → List VV → (List (Bool × List VV) → Prop) → Prop := fun f args Q => if f = 11 then unA pedagogueref1_Small_sh args (fun x => pedagogueref1_Small_d x Q) else Opedagogueref1_Clamp f args Q
theorem Opedagogueref1_Small_ok : ∀ f args Q, Opedagogueref1_Small f args Q → Sound Tryd.prog f args Q := tab_more Opedagogueref1_Clamp_ok (f0 := 11) pedagogueref1_Small_sh (fun x Q => pedagogueref1_Small_d x Q) pedagogueref1_Small_snd
noncomputable def Gpedagogueref1_Small : Cfg := ⟨Tryd.prog, tt, Opedagogueref1_Small, fun _ _ _ => False⟩
def pedagogueref1_TensorText_n2_t (x0 : ByteArray) (x1 : Int) (K0 : ByteArray → Prop) : Prop :=
  strconv_Itoa x1 (fun (r2 : ByteArray) => ck (x0.size + r2.size ≤ 2 ^ 60) (K0 (x0 ++ r2)))
structure pedagogueref1_TensorText_n2 (x0 : ByteArray) (x1 : Int) (K0 : ByteArray → Prop) : Prop where
  it : pedagogueref1_TensorText_n2_t x0 x1 K0
def pedagogueref1_TensorText_n0_B (x1 : List Int) (x2 : Int) (K0 : ByteArray → Prop) (s : ByteArray × Int) (nx : (ByteArray × Int) → Prop) : Prop :=
  if (decide (s.2 < x2)) = true then ck ((0 : Int) ≤ s.2 ∧ s.2 < (x1.length : Int)) (if (decide (0 < s.2)) = true then ck (s.1.size + (⟨#[120]⟩ : ByteArray).size ≤ 2 ^ 60) (pedagogueref1_TensorText_n2 (s.1 ++ (⟨#[120]⟩ : ByteArray)) (x1.getD ((s.2).toNat) 0) (fun (y2 : ByteArray) => nx (y2, IntKind.i64.wrap (s.2 + 1)))) else pedagogueref1_TensorText_n2 s.1 (x1.getD ((s.2).toNat) 0) (fun (y3 : ByteArray) => nx (y3, IntKind.i64.wrap (s.2 + 1)))) else K0 s.1
structure pedagogueref1_TensorText_n0 (x1 : List Int) (x2 : Int) (K0 : ByteArray → Prop) (s : ByteArray × Int) : Prop where
  it : Go.Mach.Loop (pedagogueref1_TensorText_n0_B x1 x2 K0) s
def pedagogueref1_TensorText_n3_t (x0 : ByteArray) (x1 : Int) (K0 : ByteArray → Prop) : Prop :=
  strconv_Itoa (IntKind.i64.wrap x1) (fun (r6 : ByteArray) => ck (x0.size + r6.size ≤ 2 ^ 60) (K0 (x0 ++ r6)))
structure pedagogueref1_TensorText_n3 (x0 : ByteArray) (x1 : Int) (K0 : ByteArray → Prop) : Prop where
  it : pedagogueref1_TensorText_n3_t x0 x1 K0
def pedagogueref1_TensorText_n1_B (x1 : List Int) (x2 : Int) (K0 : ByteArray → Prop) (s : ByteArray × Int) (nx : (ByteArray × Int) → Prop) : Prop :=
  if (decide (s.2 < x2)) = true then ck ((0 : Int) ≤ s.2 ∧ s.2 < (x1.length : Int)) (if (decide (0 < s.2)) = true then ck (s.1.size + (⟨#[44]⟩ : ByteArray).size ≤ 2 ^ 60) (pedagogueref1_TensorText_n3 (s.1 ++ (⟨#[44]⟩ : ByteArray)) (x1.getD ((s.2).toNat) 0) (fun (y6 : ByteArray) => nx (y6, IntKind.i64.wrap (s.2 + 1)))) else pedagogueref1_TensorText_n3 s.1 (x1.getD ((s.2).toNat) 0) (fun (y7 : ByteArray) => nx (y7, IntKind.i64.wrap (s.2 + 1)))) else K0 s.1
structure pedagogueref1_TensorText_n1 (x1 : List Int) (x2 : Int) (K0 : ByteArray → Prop) (s : ByteArray × Int) : Prop where
  it : Go.Mach.Loop (pedagogueref1_TensorText_n1_B x1 x2 K0) s
def pedagogueref1_TensorText_t (a0 : (List Int) × Int × List Int) (Q : ByteArray → Prop) : Prop :=
  pedagogueref1_MayT (a0.1, (a0.2.1, a0.2.2)) (fun (r1 : Bool) => if (!r1) = true then Q (⟨#[63]⟩ : ByteArray) else pedagogueref1_TensorText_n0 a0.1 (a0.1.length : Int) (fun (y4 : ByteArray) => strconv_Itoa a0.2.1 (fun (r5 : ByteArray) => ck ((⟨#[64]⟩ : ByteArray).size + r5.size ≤ 2 ^ 60) (ck (((⟨#[64]⟩ : ByteArray) ++ r5).size + (⟨#[58]⟩ : ByteArray).size ≤ 2 ^ 60) (ck (y4.size + (((⟨#[64]⟩ : ByteArray) ++ r5) ++ (⟨#[58]⟩ : ByteArray)).size ≤ 2 ^ 60) (pedagogueref1_TensorText_n1 a0.2.2 (a0.2.2.length : Int) (fun (y8 : ByteArray) => Q y8) (y4 ++ (((⟨#[64]⟩ : ByteArray) ++ r5) ++ (⟨#[58]⟩ : ByteArray)), 0)))))) ((⟨#[]⟩ : ByteArray), 0))
structure pedagogueref1_TensorText (a0 : (List Int) × Int × List Int) (Q : ByteArray → Prop) : Prop where
  it : pedagogueref1_TensorText_t a0 Q
noncomputable def pedagogueref1_TensorText_e0 : Ent := ⟨[1, 3, 12, 13, 14], [.lf (.cst (.ptr 0 0)), .lf (.str), .lf (.fz false (.int .i64)), .lf (.int .i64), .lf (.int .i64)], [.box [.fz false (.int .i64), .int .i64, .fz false (.int .i8)] false], fun x k => pedagogueref1_TensorText_n0 x.1.2.2.1 x.1.2.2.2.1 (fun (y9 : ByteArray) => k (.exit 0) ⟨[(1, .ptr 0 0), (3, .pl (.string y9))], [.box [.fz false (.int .i64) x.2.1.1, .pl (.int .i64 x.2.1.2.1), .fz false (.int .i8) x.2.1.2.2.1] false]⟩) (x.1.2.1, x.1.2.2.2.2.1)⟩
noncomputable def pedagogueref1_TensorText_e1 : Ent := ⟨[3, 36, 37, 38], [.lf (.str), .lf (.fz false (.int .i8)), .lf (.int .i64), .lf (.int .i64)], [], fun x k => pedagogueref1_TensorText_n1 x.1.2.1 x.1.2.2.1 (fun (y10 : ByteArray) => k (.exit 2) ⟨[(3, .pl (.string y10))], []⟩) (x.1.1, x.1.2.2.2.1)⟩
noncomputable def pedagogueref1_TensorText_e2 : Ent := ⟨[1, 3, 5, 12, 13, 14], [.lf (.cst (.ptr 0 0)), .lf (.str), .lf (.int .i64), .lf (.fz false (.int .i64)), .lf (.int .i64), .lf (.int .i64)], [.box [.fz false (.int .i64), .int .i64, .fz false (.int .i8)] false], fun x k => pedagogueref1_TensorText_n2 x.1.2.1 x.1.2.2.1 (fun (y11 : ByteArray) => k .normal ⟨[(1, .ptr 0 0), (3, .pl (.string y11)), (12, .fz false (.int .i64) x.1.2.2.2.1), (13, .pl (.int .i64 x.1.2.2.2.2.1)), (14, .pl (.int .i64 x.1.2.2.2.2.2.1))], [.box [.fz false (.int .i64) x.2.1.1, .pl (.int .i64 x.2.1.2.1), .fz false (.int .i8) x.2.1.2.2.1] false]⟩)⟩
noncomputable def pedagogueref1_TensorText_e3 : Ent := ⟨[3, 7, 36, 37, 38], [.lf (.str), .lf (.int .i8), .lf (.fz false (.int .i8)), .lf (.int .i64), .lf (.int .i64)], [], fun x k => pedagogueref1_TensorText_n3 x.1.1 x.1.2.1 (fun (y12 : ByteArray) => k .normal ⟨[(3, .pl (.string y12)), (36, .fz false (.int .i8) x.1.2.2.1), (37, .pl (.int .i64 x.1.2.2.2.1)), (38, .pl (.int .i64 x.1.2.2.2.2.1))], []⟩)⟩
noncomputable def pedagogueref1_TensorText_ct : Tab := fun n => match n with | 122 => some pedagogueref1_TensorText_e0 | 506 => some pedagogueref1_TensorText_e1 | 15667 => some pedagogueref1_TensorText_e2 | 64819 => some pedagogueref1_TensorText_e3 | _ => none
noncomputable def pedagogueref1_TensorText_en : Go.Mach.Ends := fun n => match n with | 2 => some ([], [1]) | 12 => some ([], [1, 10]) | 14 => some ([], [1, 3]) | 27 => some ([], [1]) | 52 => some ([], [2]) | 53 => some ([], [2]) | 60 => some ([], [1, 3, 12, 13, 14]) | 62 => some ([], [1, 3]) | 122 => some ([], [1, 3, 12, 13, 14]) | 252 => some ([], [3, 36, 37, 38]) | 254 => some ([], [2]) | 255 => some ([], [2]) | 488 => some ([], [1, 3, 12, 13, 14, 15]) | 506 => some ([], [3, 36, 37, 38]) | 1956 => some ([], [1, 3, 12, 13, 14]) | 1957 => some ([], [1, 3]) | 1959 => some ([], [1, 3, 12, 13, 14]) | 2024 => some ([], [3, 36, 37, 38, 39]) | 7832 => some ([], [1, 3, 4, 5, 12, 13, 14]) | 8100 => some ([], [3, 36, 37, 38]) | 8101 => some ([], [3]) | 8103 => some ([], [3, 36, 37, 38]) | 15667 => some ([], [1, 3, 12, 13, 14]) | 31332 => some ([], [1, 3, 5, 12, 13, 14, 20]) | 32408 => some ([], [3, 6, 7, 36, 37, 38]) | 62666 => some ([], [1, 3, 5, 12, 13, 14]) | 62667 => some ([], [1, 3, 5, 12, 13, 14]) | 64819 => some ([], [3, 36, 37, 38]) | 129636 => some ([], [3, 7, 36, 37, 38, 44]) | 259274 => some ([], [3, 7, 36, 37, 38]) | 259275 => some ([], [3, 7, 36, 37, 38]) | _ => none
noncomputable def pedagogueref1_TensorText_b : Code := Tryd.f23.body.getD .skip
theorem pedagogueref1_TensorText_tab : TabOk Gpedagogueref1_Small pedagogueref1_TensorText_ct pedagogueref1_TensorText_en pedagogueref1_TensorText_b := by
  intro n E hn f c hs x k h
  unfold pedagogueref1_TensorText_ct at hn
  split at hn
  · cases hn; exact tab_loop2 hs (by kernel_rfl) (fun y : ByteArray × Int => ⟨[(1, .ptr 0 0), (3, .pl (.string y.1)), (12, .fz false (.int .i64) x.1.2.2.1), (13, .pl (.int .i64 x.1.2.2.2.1)), (14, .pl (.int .i64 y.2))], [.box [.fz false (.int .i64) x.2.1.1, .pl (.int .i64 x.2.1.2.1), .fz false (.int .i8) x.2.1.2.2.1] false]⟩) (x.1.2.1, x.1.2.2.2.2.1) (by kernel_rfl) (fun y X => by kernel_rfl) h.it
  · cases hn; exact tab_loop2 hs (by kernel_rfl) (fun y : ByteArray × Int => ⟨[(3, .pl (.string y.1)), (36, .fz false (.int .i8) x.1.2.1), (37, .pl (.int .i64 x.1.2.2.1)), (38, .pl (.int .i64 y.2))], []⟩) (x.1.1, x.1.2.2.2.1) (by kernel_rfl) (fun y X => by kernel_rfl) h.it
  · cases hn; exact tab_node2 hs (by kernel_rfl) (by kernel_rfl) h.it
  · cases hn; exact tab_node2 hs (by kernel_rfl) (by kernel_rfl) h.it
  · cases hn
def pedagogueref1_TensorText_sh : List Sh := [.agg [.fz false (.int .i64), .int .i64, .fz false (.int .i8)]]
def pedagogueref1_TensorText_d (x : denS pedagogueref1_TensorText_sh) (Q : List (Bool × List VV) → Prop) : Prop := pedagogueref1_TensorText (x.1.1, (x.1.2.1, x.1.2.2.1)) (fun (r : ByteArray) => Q (slotsA [(false, .str)] [.n] (r, ())))
theorem pedagogueref1_TensorText_snd (x : denS pedagogueref1_TensorText_sh) (Q : List (Bool × List VV) → Prop) (h : pedagogueref1_TensorText_d x Q) : Sound Tryd.prog 23 (packS pedagogueref1_TensorText_sh x) Q :=
  vfun_told [.n] (G := Gpedagogueref1_Small) (ct := pedagogueref1_TensorText_ct) (en := pedagogueref1_TensorText_en) (fn := Tryd.f23) (cd := pedagogueref1_TensorText_b) (rt := [(false, .str)]) Tryd.func23 (by kernel_rfl) (by kernel_rfl) (Nat.le_of_ble_eq_true rfl) pedagogueref1_TensorText_tab Opedagogueref1_Small_ok h.it (by kernel_rfl)
noncomputable def Opedagogueref1_TensorText : FuncId → List VV → (List (Bool × List VV) → Prop) → Prop := fun f args Q => if f = 23 then unA pedagogueref1_TensorText_sh args (fun x => pedagogueref1_TensorText_d x Q) else Opedagogueref1_Small f args Q
theorem Opedagogueref1_TensorText_ok : ∀ f args Q, Opedagogueref1_TensorText f args Q → Sound Tryd.prog f args Q := tab_more Opedagogueref1_Small_ok (f0 := 23) pedagogueref1_TensorText_sh (fun x Q => pedagogueref1_TensorText_d x Q) pedagogueref1_TensorText_snd
noncomputable def Gpedagogueref1_TensorText : Cfg := ⟨Tryd.prog, tt, Opedagogueref1_TensorText, fun _ _ _ => False⟩
def pedagoguelaw8_light_t (a0 : (List Int) × Int × List Int) (Q : Bool → Prop) : Prop :=
  Q (decide ((a0.2.2.length : Int) ≤ 600))
structure pedagoguelaw8_light (a0 : (List Int) × Int × List Int) (Q : Bool → Prop) : Prop where
  it : pedagoguelaw8_light_t a0 Q
noncomputable def pedagoguelaw8_light_ct : Tab := fun n => none
noncomputable def pedagoguelaw8_light_en : Go.Mach.Ends := fun n => match n with | 2 => some ([], [1]) | 6 => some ([], [2]) | 7 => some ([], [2]) | _ => none
noncomputable def pedagoguelaw8_light_b : Code := Tryd.f9.body.getD .skip
theorem pedagoguelaw8_light_tab : TabOk Gpedagogueref1_TensorText pedagoguelaw8_light_ct pedagoguelaw8_light_en pedagoguelaw8_light_b := by
  intro n E hn f c hs x k h
  cases hn
def pedagoguelaw8_light_sh : List Sh := [.agg [.fz false (.int .i64), .int .i64, .fz false (.int .i32)]]
def pedagoguelaw8_light_d (x : denS pedagoguelaw8_light_sh) (Q : List (Bool × List VV) → Prop) : Prop := pedagoguelaw8_light (x.1.1, (x.1.2.1, x.1.2.2.1)) (fun (r : Bool) => Q (slotsA [(false, .bool)] [.n] (r, ())))
theorem pedagoguelaw8_light_snd (x : denS pedagoguelaw8_light_sh) (Q : List (Bool × List VV) → Prop) (h : pedagoguelaw8_light_d x Q) : Sound Tryd.prog 9 (packS pedagoguelaw8_light_sh x) Q :=
  vfun_told [.n] (G := Gpedagogueref1_TensorText) (ct := pedagoguelaw8_light_ct) (en := pedagoguelaw8_light_en) (fn := Tryd.f9) (cd := pedagoguelaw8_light_b) (rt := [(false, .bool)]) Tryd.func9 (by kernel_rfl) (by kernel_rfl) (Nat.le_of_ble_eq_true rfl) pedagoguelaw8_light_tab Opedagogueref1_TensorText_ok h.it (by kernel_rfl)
noncomputable def Opedagoguelaw8_light : FuncId → List VV → (List (Bool × List VV) → Prop) → Prop := fun f args Q => if f = 9 then unA pedagoguelaw8_light_sh args (fun x => pedagoguelaw8_light_d x Q) else Opedagogueref1_TensorText f args Q
theorem Opedagoguelaw8_light_ok : ∀ f args Q, Opedagoguelaw8_light f args Q → Sound Tryd.prog f args Q := tab_more Opedagogueref1_TensorText_ok (f0 := 9) pedagoguelaw8_light_sh (fun x Q => pedagoguelaw8_light_d x Q) pedagoguelaw8_light_snd
noncomputable def Gpedagoguelaw8_light : Cfg := ⟨Tryd.prog, tt, Opedagoguelaw8_light, fun _ _ _ => False⟩
def pedagoguelaw8_TensorForms_n1_t (x0 : Int) (x1 : Int) (x2 : Int) (x3 : Int) (x4 : Int) (x5 : List Int) (x6 : Int) (x7 : List Int) (x8 : List Int) (x9 : Int) (x10 : List Int) (x11 : List Int) (x12 : Int) (x13 : List Int) (x14 : List Int) (x15 : Int) (x16 : List Int) (x17 : Int) (x18 : Int) (x19 : Int) (x20 : List Int) (x21 : List Int) (x22 : List Int) (x23 : List Int) (x24 : List Int) (x25 : List Int) (K0 : Bool → Prop) : Prop :=
  jn (fun (v10 : Bool) => if v10 = true then K0 false else tensor_May (x5, (x6, x7)) (fun (r16 : Bool) => pedagogueref1_MayT (x5, (x6, x7)) (fun (r17 : Bool) => jn (fun (v18 : Bool) => jn (fun (v22 : Bool) => jn (fun (v26 : Bool) => jn (fun (v29 : Bool) => jn (fun (v33 : Bool) => jn (fun (v37 : Bool) => jn (fun (v41 : Bool) => K0 v41) (fun J42 => if v37 = true then pedagoguelaw8_awake (fun (r43 : Bool) => J42 r43) else J42 false)) (fun J38 => if v33 = true then tensor_Text (x5, (x6, x7)) (fun (r39 : ByteArray) => pedagogueref1_TensorText (x5, (x6, x7)) (fun (r40 : ByteArray) => J38 (r39.toList == r40.toList))) else J38 false)) (fun J34 => if v29 = true then tensor_SameAcc (x11, (x12, x13)) (x14, (x15, x16)) (fun (r35 : Bool) => pedagogueref1_SameAcc (x11, (x12, x13)) (x14, (x15, x16)) (fun (r36 : Bool) => J34 (r35 == r36))) else J34 false)) (fun J30 => if (v26 && (x1 == x2)) = true then tensor_Same (x5, (x6, x7)) (x8, (x9, x10)) (fun (r31 : Bool) => pedagogueref1_SameT (x5, (x6, x7)) (x8, (x9, x10)) (fun (r32 : Bool) => J30 (r31 == r32))) else J30 false)) (fun J27 => if v22 = true then pedagogueref1_SameT (x20, (x17, x21)) (x22, (x18, x23)) (fun (r28 : Bool) => J27 r28) else J27 false)) (fun J23 => if v18 = true then tensor_Width (x11, (x12, x13)) (fun (r24 : Int) => pedagogueref1_Width (x11, (x12, x13)) (fun (r25 : Int) => J23 (r24 == r25))) else J23 false)) (fun J19 => if (r16 == r17) = true then tensor_MayAcc (x11, (x12, x13)) (fun (r20 : Bool) => pedagogueref1_MayAcc (x11, (x12, x13)) (fun (r21 : Bool) => J19 (r20 == r21))) else J19 false)))) (fun J11 => if (x3 != x4) = true then J11 true else jn (fun (v12 : Bool) => J11 v12) (fun J13 => if (x3 == 0) = true then pedagogueref1_Size x5 (fun (r14 : Int) => ck ((0 : Int) ≤ r14 ∧ (1 : Nat) * r14 ≤ 70368744177664) (pedagogueref1_SameT (x24, (x19, x25)) (x5, (x0, List.replicate (r14).toNat (0 : Int))) (fun (r15 : Bool) => J13 (!r15)))) else J13 false))
structure pedagoguelaw8_TensorForms_n1 (x0 : Int) (x1 : Int) (x2 : Int) (x3 : Int) (x4 : Int) (x5 : List Int) (x6 : Int) (x7 : List Int) (x8 : List Int) (x9 : Int) (x10 : List Int) (x11 : List Int) (x12 : Int) (x13 : List Int) (x14 : List Int) (x15 : Int) (x16 : List Int) (x17 : Int) (x18 : Int) (x19 : Int) (x20 : List Int) (x21 : List Int) (x22 : List Int) (x23 : List Int) (x24 : List Int) (x25 : List Int) (K0 : Bool → Prop) : Prop where
  it : pedagoguelaw8_TensorForms_n1_t x0 x1 x2 x3 x4 x5 x6 x7 x8 x9 x10 x11 x12 x13 x14 x15 x16 x17 x18 x19 x20 x21 x22 x23 x24 x25 K0
def pedagoguelaw8_TensorForms_n0_t (x0 : Int) (x1 : Int) (x2 : Int) (x3 : List Int) (x4 : Int) (x5 : List Int) (x6 : List Int) (x7 : Int) (x8 : List Int) (x9 : List Int) (x10 : Int) (x11 : List Int) (x12 : List Int) (x13 : Int) (x14 : List Int) (x15 : Int) (x16 : Int) (x17 : List Int) (x18 : List Int) (x19 : List Int) (x20 : List Int) (K0 : Bool → Prop) : Prop :=
  tensor_Zero x3 x0 (fun (r8 : ((List Int) × Int × List Int) × Int) => pedagogueref1_MayDims x3 (fun (r9 : Bool) => if (((!r9) || (decide (x0 < (-64)))) || (decide (64 < x0))) = true then pedagoguelaw8_TensorForms_n1 x0 x1 x2 r8.2 1 x3 x4 x5 x6 x7 x8 x9 x10 x11 x12 x13 x14 x15 x16 r8.1.2.1 x17 x18 x19 x20 r8.1.1 r8.1.2.2 (fun (y10 : Bool) => K0 y10) else pedagoguelaw8_TensorForms_n1 x0 x1 x2 r8.2 0 x3 x4 x5 x6 x7 x8 x9 x10 x11 x12 x13 x14 x15 x16 r8.1.2.1 x17 x18 x19 x20 r8.1.1 r8.1.2.2 (fun (y11 : Bool) => K0 y11)))
structure pedagoguelaw8_TensorForms_n0 (x0 : Int) (x1 : Int) (x2 : Int) (x3 : List Int) (x4 : Int) (x5 : List Int) (x6 : List Int) (x7 : Int) (x8 : List Int) (x9 : List Int) (x10 : Int) (x11 : List Int) (x12 : List Int) (x13 : Int) (x14 : List Int) (x15 : Int) (x16 : Int) (x17 : List Int) (x18 : List Int) (x19 : List Int) (x20 : List Int) (K0 : Bool → Prop) : Prop where
  it : pedagoguelaw8_TensorForms_n0_t x0 x1 x2 x3 x4 x5 x6 x7 x8 x9 x10 x11 x12 x13 x14 x15 x16 x17 x18 x19 x20 K0
def pedagoguelaw8_TensorForms_t (a0 : (List Int) × Int × List Int) (a1 : (List Int) × Int × List Int) (a2 : (List Int) × Int × List Int) (a3 : (List Int) × Int × List Int) (a4 : Int) (a5 : Int) (a6 : Int) (a7 : Int) (Q : Bool → Prop) : Prop :=
  pedagoguelaw8_light (a2.1, (a2.2.1, a2.2.2)) (fun (r1 : Bool) => jn (fun (v2 : Bool) => if ((v2 || (decide (600 < (a0.2.2.length : Int)))) || (decide (600 < (a1.2.2.length : Int)))) = true then pedagoguelaw8_awake (fun (r5 : Bool) => Q r5) else tensor_Small (a2.1, (a2.2.1, a2.2.2)) a4 a5 a6 (fun (r6 : ((List Int) × Int × List Int) × Int) => pedagogueref1_Small (a2.1, (a2.2.1, a2.2.2)) a4 a5 a6 (fun (r7 : ((List Int) × Int × List Int) × Int) => pedagoguelaw8_TensorForms_n0 a7 r6.2 r7.2 a0.1 a0.2.1 a0.2.2 a1.1 a1.2.1 a1.2.2 a2.1 a2.2.1 a2.2.2 a3.1 a3.2.1 a3.2.2 r6.1.2.1 r7.1.2.1 r6.1.1 r6.1.2.2 r7.1.1 r7.1.2.2 (fun (y12 : Bool) => Q y12)))) (fun J3 => if (!r1) = true then J3 true else pedagoguelaw8_light (a3.1, (a3.2.1, a3.2.2)) (fun (r4 : Bool) => J3 (!r4))))
structure pedagoguelaw8_TensorForms (a0 : (List Int) × Int × List Int) (a1 : (List Int) × Int × List Int) (a2 : (List Int) × Int × List Int) (a3 : (List Int) × Int × List Int) (a4 : Int) (a5 : Int) (a6 : Int) (a7 : Int) (Q : Bool → Prop) : Prop where
  it : pedagoguelaw8_TensorForms_t a0 a1 a2 a3 a4 a5 a6 a7 Q
noncomputable def pedagoguelaw8_TensorForms_e0 : Ent := ⟨[7, 8, 9, 10, 11, 17, 18, 19, 20], [.lf (.int .i64), .lf (.cst (.ptr 0 0)), .lf (.cst (.ptr 1 0)), .lf (.cst (.ptr 2 0)), .lf (.cst (.ptr 3 0)), .lf (.cst (.ptr 4 0)), .lf (.int .i64), .lf (.cst (.ptr 5 0)), .lf (.int .i64)], [.box [.fz false (.int .i64), .int .i64, .fz false (.int .i8)] false, .box [.fz false (.int .i64), .int .i64, .fz false (.int .i8)] false, .box [.fz false (.int .i64), .int .i64, .fz false (.int .i32)] false, .box [.fz false (.int .i64), .int .i64, .fz false (.int .i32)] false, .box [.cst (.own 6), .int .i64, .cst (.own 7)] false, .box [.cst (.own 8), .int .i64, .cst (.own 9)] false, .lst true (.int .i64) false, .lst true (.int .i8) false, .lst true (.int .i64) false, .lst true (.int .i8) false], fun x k => pedagoguelaw8_TensorForms_n0 x.1.1 x.1.2.2.2.2.2.2.1 x.1.2.2.2.2.2.2.2.2.1 x.2.1.1 x.2.1.2.1 x.2.1.2.2.1 x.2.2.1.1 x.2.2.1.2.1 x.2.2.1.2.2.1 x.2.2.2.1.1 x.2.2.2.1.2.1 x.2.2.2.1.2.2.1 x.2.2.2.2.1.1 x.2.2.2.2.1.2.1 x.2.2.2.2.1.2.2.1 x.2.2.2.2.2.1.2.1 x.2.2.2.2.2.2.1.2.1 x.2.2.2.2.2.2.2.1 x.2.2.2.2.2.2.2.2.1 x.2.2.2.2.2.2.2.2.2.1 x.2.2.2.2.2.2.2.2.2.2.1 (fun (y13 : Bool) => k .ret ⟨[(16, .pl (.bool y13))], []⟩)⟩
noncomputable def pedagoguelaw8_TensorForms_e1 : Ent := ⟨[7, 8, 9, 10, 11, 17, 18, 19, 20, 21, 22, 23], [.lf (.int .i64), .lf (.cst (.ptr 0 0)), .lf (.cst (.ptr 1 0)), .lf (.cst (.ptr 2 0)), .lf (.cst (.ptr 3 0)), .lf (.cst (.ptr 4 0)), .lf (.int .i64), .lf (.cst (.ptr 5 0)), .lf (.int .i64), .lf (.cst (.ptr 6 0)), .lf (.int .i64), .lf (.int .i64)], [.box [.fz false (.int .i64), .int .i64, .fz false (.int .i8)] false, .box [.fz false (.int .i64), .int .i64, .fz false (.int .i8)] false, .box [.fz false (.int .i64), .int .i64, .fz false (.int .i32)] false, .box [.fz false (.int .i64), .int .i64, .fz false (.int .i32)] false, .box [.cst (.own 7), .int .i64, .cst (.own 8)] false, .box [.cst (.own 9), .int .i64, .cst (.own 10)] false, .box [.cst (.own 11), .int .i64, .cst (.own 12)] false, .lst true (.int .i64) false, .lst true (.int .i8) false, .lst true (.int .i64) false, .lst true (.int .i8) false, .lst true (.int .i64) false, .lst true (.int .i8) false], fun x k => pedagoguelaw8_TensorForms_n1 x.1.1 x.1.2.2.2.2.2.2.1 x.1.2.2.2.2.2.2.2.2.1 x.1.2.2.2.2.2.2.2.2.2.2.1 x.1.2.2.2.2.2.2.2.2.2.2.2.1 x.2.1.1 x.2.1.2.1 x.2.1.2.2.1 x.2.2.1.1 x.2.2.1.2.1 x.2.2.1.2.2.1 x.2.2.2.1.1 x.2.2.2.1.2.1 x.2.2.2.1.2.2.1 x.2.2.2.2.1.1 x.2.2.2.2.1.2.1 x.2.2.2.2.1.2.2.1 x.2.2.2.2.2.1.2.1 x.2.2.2.2.2.2.1.2.1 x.2.2.2.2.2.2.2.1.2.1 x.2.2.2.2.2.2.2.2.1 x.2.2.2.2.2.2.2.2.2.1 x.2.2.2.2.2.2.2.2.2.2.1 x.2.2.2.2.2.2.2.2.2.2.2.1 x.2.2.2.2.2.2.2.2.2.2.2.2.1 x.2.2.2.2.2.2.2.2.2.2.2.2.2.1 (fun (y14 : Bool) => k .ret ⟨[(16, .pl (.bool y14))], []⟩)⟩
noncomputable def pedagoguelaw8_TensorForms_ct : Tab := fun n => match n with | 31 => some pedagoguelaw8_TensorForms_e0 | 255 => some pedagoguelaw8_TensorForms_e1 | _ => none
noncomputable def pedagoguelaw8_TensorForms_en : Go.Mach.Ends := fun n => match n with | 2 => some ([], [4, 5, 6, 7, 8, 9, 10, 11]) | 12 => some ([], [4, 5, 6, 7, 8, 9, 10, 11, 43]) | 14 => some ([], [4, 5, 6, 7, 8, 9, 10, 11, 17, 18]) | 27 => some ([], [4, 5, 6, 7, 8, 9, 10, 11]) | 30 => some ([], [7, 8, 9, 10, 11, 17, 18, 19, 20]) | 52 => some ([], [16]) | 53 => some ([], [16]) | 62 => some ([], [7, 8, 9, 10, 11, 17, 18, 19, 20, 21, 22]) | 126 => some ([], [7, 8, 9, 10, 11, 17, 18, 19, 20, 21, 22, 23]) | 508 => some ([], [7, 8, 9, 10, 11, 17, 18, 19, 20, 21, 22, 23, 79]) | 1018 => some ([], [7, 8, 9, 10, 11, 17, 18, 19, 20, 21, 22, 23]) | 1019 => some ([], [7, 8, 9, 10, 11, 17, 18, 19, 20, 21, 22, 23]) | 1020 => some ([], [8, 9, 10, 11, 17, 18, 19, 20, 99]) | 1022 => some ([], [16]) | 1023 => some ([], [16]) | 2043 => some ([], [8, 9, 10, 11, 17, 18, 19, 20]) | 4084 => some ([], [16]) | 4085 => some ([], [16]) | _ => none
noncomputable def pedagoguelaw8_TensorForms_b : Code := Tryd.f4.body.getD .skip
theorem pedagoguelaw8_TensorForms_tab : TabOk Gpedagoguelaw8_light pedagoguelaw8_TensorForms_ct pedagoguelaw8_TensorForms_en pedagoguelaw8_TensorForms_b := by
  intro n E hn f c hs x k h
  unfold pedagoguelaw8_TensorForms_ct at hn
  split at hn
  · cases hn; exact tab_node2 hs (by kernel_rfl) (by kernel_rfl) h.it
  · cases hn; exact tab_node2 hs (by kernel_rfl) (by kernel_rfl) h.it
  · cases hn
def pedagoguelaw8_TensorForms_sh : List Sh := [.agg [.fz false (.int .i64), .int .i64, .fz false (.int .i8)], .agg [.fz false (.int .i64), .int .i64, .fz false (.int .i8)], .agg [.fz false (.int .i64), .int .i64, .fz false (.int .i32)], .agg [.fz false (.int .i64), .int .i64, .fz false (.int .i32)], .lf (.int .i64), .lf (.int .u64), .lf (.int .u64), .lf (.int .i64)]
def pedagoguelaw8_TensorForms_d (x : denS pedagoguelaw8_TensorForms_sh) (Q : List (Bool × List VV) → Prop) : Prop := pedagoguelaw8_TensorForms (x.1.1, (x.1.2.1, x.1.2.2.1)) (x.2.1.1, (x.2.1.2.1, x.2.1.2.2.1)) (x.2.2.1.1, (x.2.2.1.2.1, x.2.2.1.2.2.1)) (x.2.2.2.1.1, (x.2.2.2.1.2.1, x.2.2.2.1.2.2.1)) x.2.2.2.2.1 x.2.2.2.2.2.1 x.2.2.2.2.2.2.1 x.2.2.2.2.2.2.2.1 (fun (r : Bool) => Q (slotsA [(false, .bool)] [.n] (r, ())))
theorem pedagoguelaw8_TensorForms_snd (x : denS pedagoguelaw8_TensorForms_sh) (Q : List (Bool × List VV) → Prop) (h : pedagoguelaw8_TensorForms_d x Q) : Sound Tryd.prog 4 (packS pedagoguelaw8_TensorForms_sh x) Q :=
  vfun_told [.n] (G := Gpedagoguelaw8_light) (ct := pedagoguelaw8_TensorForms_ct) (en := pedagoguelaw8_TensorForms_en) (fn := Tryd.f4) (cd := pedagoguelaw8_TensorForms_b) (rt := [(false, .bool)]) Tryd.func4 (by kernel_rfl) (by kernel_rfl) (Nat.le_of_ble_eq_true rfl) pedagoguelaw8_TensorForms_tab Opedagoguelaw8_light_ok h.it (by kernel_rfl)
noncomputable def Opedagoguelaw8_TensorForms : FuncId → List VV → (List (Bool × List VV) → Prop) → Prop := fun f args Q => if f = 4 then unA pedagoguelaw8_TensorForms_sh args (fun x => pedagoguelaw8_TensorForms_d x Q) else Opedagoguelaw8_light f args Q
theorem Opedagoguelaw8_TensorForms_ok : ∀ f args Q, Opedagoguelaw8_TensorForms f args Q → Sound Tryd.prog f args Q := tab_more Opedagoguelaw8_light_ok (f0 := 4) pedagoguelaw8_TensorForms_sh (fun x Q => pedagoguelaw8_TensorForms_d x Q) pedagoguelaw8_TensorForms_snd
noncomputable def Gpedagoguelaw8_TensorForms : Cfg := ⟨Tryd.prog, tt, Opedagoguelaw8_TensorForms, fun _ _ _ => False⟩
end Go.Proofs.YtejbkafligpmbaaDoor
