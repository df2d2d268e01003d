/- Plain texts of functions, as the value machine comes to them. No condition. -/
import Derived.Test.YtejbkafligpmbaaDoorVStr
import Derived.Test.YtejbkafligpmbaaDoorProg
import Derived.KernelRfl
namespace Go.Proofs.YtejbkafligpmbaaDoor
open Go.Mach
set_option maxRecDepth 100000
set_option linter.unusedVariables false
noncomputable def tt : TypeId → Option Ty := fun t => match t with
  | 2 => some (.int .i64)
  | 3 => some (.int .i64)
  | 4 => some .bool
  | 5 => some (.int .u8)
  | 6 => some (.int .u8)
  | 7 => some (.pair (.int .i64) (.pair (.int .i64) (.pair .bool (.int .u8))))
  | 8 => some (.pair (.int .i64) (.pair (.int .i64) (.pair .bool (.int .u8))))
  | 9 => some .str
  | 10 => some .str
  | 11 => some .str
  | 12 => some (.int .u64)
  | 13 => some (.pair .str (.int .u64))
  | 14 => some (.pair .str (.int .u64))
  | 21 => some (.int .i32)
  | 22 => some (.slc (.int .i64))
  | 23 => some (.slc (.int .i8))
  | 24 => some (.pair (.slc (.int .i64)) (.pair (.int .i64) (.slc (.int .i8))))
  | 25 => some (.pair (.slc (.int .i64)) (.pair (.int .i64) (.slc (.int .i8))))
  | 30 => some (.slc (.int .i32))
  | 31 => some (.pair (.slc (.int .i64)) (.pair (.int .i64) (.slc (.int .i32))))
  | 32 => some (.pair (.slc (.int .i64)) (.pair (.int .i64) (.slc (.int .i32))))
  | 33 => some (.int .u64)
  | 35 => some (.int .i64)
  | 46 => some (.int .i8)
  | 47 => some (.slc .str)
  | 60 => some (.slc (.int .u8))
  | 74 => some (.int .u64)
  | 80 => some (.pair (.int .u8) (.pair (.int .u8) (.pair (.int .u8) (.pair (.int .u8) (.pair (.int .u8) (.pair (.int .u8) (.pair (.int .u8) (.pair (.int .u8) (.pair (.int .u8) (.pair (.int .u8) (.pair (.int .u8) (.pair (.int .u8) (.pair (.int .u8) (.pair (.int .u8) (.pair (.int .u8) (.pair (.int .u8) (.pair (.int .u8) (.pair (.int .u8) (.pair (.int .u8) (.pair (.int .u8) (.pair (.int .u8) (.pair (.int .u8) (.pair (.int .u8) (.int .u8))))))))))))))))))))))))
  | 88 => some (.pair (.int .u64) (.pair (.int .u64) (.pair (.int .u64) (.pair (.int .u64) (.pair (.int .u64) (.pair (.int .u64) (.pair (.int .u64) (.pair (.int .u64) (.pair (.int .u64) (.pair (.int .u64) (.pair (.int .u64) (.pair (.int .u64) (.pair (.int .u64) (.pair (.int .u64) (.pair (.int .u64) (.pair (.int .u64) (.pair (.int .u64) (.pair (.int .u64) (.pair (.int .u64) (.int .u64))))))))))))))))))))
  | 89 => some (.int .u32)
  | 94 => some (.pair (.int .u8) (.pair (.int .u8) (.pair (.int .u8) (.pair (.int .u8) (.pair (.int .u8) (.pair (.int .u8) (.pair (.int .u8) (.pair (.int .u8) (.pair (.int .u8) (.pair (.int .u8) (.pair (.int .u8) (.pair (.int .u8) (.pair (.int .u8) (.pair (.int .u8) (.pair (.int .u8) (.pair (.int .u8) (.pair (.int .u8) (.pair (.int .u8) (.pair (.int .u8) (.pair (.int .u8) (.pair (.int .u8) (.pair (.int .u8) (.pair (.int .u8) (.pair (.int .u8) (.pair (.int .u8) (.pair (.int .u8) (.pair (.int .u8) (.pair (.int .u8) (.pair (.int .u8) (.pair (.int .u8) (.pair (.int .u8) (.int .u8))))))))))))))))))))))))))))))))
  | 95 => some (.pair (.int .u8) (.pair (.int .u8) (.pair (.int .u8) (.pair (.int .u8) (.pair (.int .u8) (.pair (.int .u8) (.pair (.int .u8) (.pair (.int .u8) (.pair (.int .u8) (.pair (.int .u8) (.pair (.int .u8) (.pair (.int .u8) (.pair (.int .u8) (.pair (.int .u8) (.pair (.int .u8) (.pair (.int .u8) (.pair (.int .u8) (.pair (.int .u8) (.pair (.int .u8) (.pair (.int .u8) (.pair (.int .u8) (.pair (.int .u8) (.pair (.int .u8) (.pair (.int .u8) (.pair (.int .u8) (.pair (.int .u8) (.pair (.int .u8) (.pair (.int .u8) (.pair (.int .u8) (.pair (.int .u8) (.pair (.int .u8) (.pair (.int .u8) (.pair (.int .u8) (.pair (.int .u8) (.pair (.int .u8) (.pair (.int .u8) (.pair (.int .u8) (.pair (.int .u8) (.pair (.int .u8) (.pair (.int .u8) (.pair (.int .u8) (.pair (.int .u8) (.pair (.int .u8) (.pair (.int .u8) (.pair (.int .u8) (.pair (.int .u8) (.pair (.int .u8) (.pair (.int .u8) (.pair (.int .u8) (.pair (.int .u8) (.pair (.int .u8) (.pair (.int .u8) (.pair (.int .u8) (.pair (.int .u8) (.pair (.int .u8) (.pair (.int .u8) (.pair (.int .u8) (.pair (.int .u8) (.pair (.int .u8) (.pair (.int .u8) (.pair (.int .u8) (.pair (.int .u8) (.pair (.int .u8) (.int .u8))))))))))))))))))))))))))))))))))))))))))))))))))))))))))))))))
  | 102 => some (.int .u8)
  | 103 => some (.int .u8)
  | 105 => some (.int .i32)
  | 106 => some (.int .i32)
  | _ => none
noncomputable def O_ : FuncId → List VV → (List (Bool × List VV) → Prop) → Prop := fun _ _ _ => False
theorem O__ok : ∀ f args Q, O_ f args Q → Sound Tryd.prog f args Q := fun _ _ _ h => h.elim
noncomputable def G_ : Cfg := ⟨Tryd.prog, tt, O_, fun _ _ _ => False⟩
def shape_Size_n0_B (x1 : List Int) (x2 : Int) (K0 : Int → Prop) (K1 : Unit → Prop) (s : Int × Int) (nx : (Int × Int) → Prop) : Prop :=
  if (decide (s.2 < x2)) = true then ck ((0 : Int) ≤ s.2 ∧ s.2 < (x1.length : Int)) (if (((decide ((x1.getD ((s.2).toNat) 0) < 1)) || (decide (4096 < (x1.getD ((s.2).toNat) 0)))) || (decide (8192 < (IntKind.i64.wrap (s.1 * (x1.getD ((s.2).toNat) 0)))))) = true then K1 () else nx (IntKind.i64.wrap (s.1 * (x1.getD ((s.2).toNat) 0)), IntKind.i64.wrap (s.2 + 1))) else K0 s.1
def shape_Size_n0 (x1 : List Int) (x2 : Int) (K0 : Int → Prop) (K1 : Unit → Prop) (s : Int × Int) : Prop := Go.Mach.Loop (shape_Size_n0_B x1 x2 K0 K1) s
def shape_Size (a0 : List Int) (Q : Int → Prop) : Prop :=
  if ((decide ((a0.length : Int) < 1)) || (decide (4 < (a0.length : Int)))) = true then Q 0 else shape_Size_n0 a0 (a0.length : Int) (fun (y1 : Int) => Q y1) (fun (y2 : Unit) => Q 0) (1, 0)
noncomputable def shape_Size_e0 : Ent := ⟨[3, 14, 15, 16], [.lf (.int .i64), .lf (.fz false (.int .i64)), .lf (.int .i64), .lf (.int .i64)], [], fun x k => shape_Size_n0 x.1.2.1 x.1.2.2.1 (fun (y3 : Int) => k (.exit 0) ⟨[(3, .pl (.int .i64 y3))], []⟩) (fun (y4 : Unit) => k .ret ⟨[(2, .pl (.int .i64 0))], []⟩) (x.1.1, x.1.2.2.2.1)⟩
noncomputable def shape_Size_ct : Tab := fun n => match n with | 122 => some shape_Size_e0 | _ => none
noncomputable def shape_Size_en : Go.Mach.Ends := fun n => match n with | 2 => some ([], [0]) | 12 => some ([], [0, 13]) | 14 => some ([], [0, 3]) | 27 => some ([], [0]) | 52 => some ([], [2]) | 53 => some ([], [2]) | 60 => some ([], [3, 14, 15, 16]) | 62 => some ([], [2]) | 63 => some ([], [2]) | 122 => some ([], [3, 14, 15, 16]) | 488 => some ([], [3, 14, 15, 16, 17]) | 1956 => some ([], [3, 14, 15, 16]) | 1957 => some ([], [3]) | 1959 => some ([], [3, 14, 15, 16]) | 7832 => some ([], [3, 5, 14, 15, 16]) | 15667 => some ([], [3, 14, 15, 16]) | 31332 => some ([], [3, 5, 14, 15, 16, 31]) | 62667 => some ([], [3, 5, 14, 15, 16]) | 125332 => some ([], [2]) | 125333 => some ([], [2]) | _ => none
noncomputable def shape_Size_b : Code := Tryd.f25.body.getD .skip
theorem shape_Size_tab : TabOk G_ shape_Size_ct shape_Size_en shape_Size_b := by
  intro n E hn f c hs x k h
  unfold shape_Size_ct at hn
  split at hn
  · cases hn; exact tab_loop2 hs (by kernel_rfl) (fun y : Int × Int => ⟨[(3, .pl (.int .i64 y.1)), (14, .fz false (.int .i64) x.1.2.1), (15, .pl (.int .i64 x.1.2.2.1)), (16, .pl (.int .i64 y.2))], []⟩) (x.1.1, x.1.2.2.2.1) (by kernel_rfl) (fun y X => by kernel_rfl) h
  · cases hn
def shape_Size_sh : List Sh := [.lf (.fz false (.int .i64))]
def shape_Size_d (x : denS shape_Size_sh) (Q : List (Bool × List VV) → Prop) : Prop := shape_Size x.1 (fun (r : Int) => Q (slotsA [(false, (.int .i64))] [.n] (r, ())))
theorem shape_Size_snd (x : denS shape_Size_sh) (Q : List (Bool × List VV) → Prop) (h : shape_Size_d x Q) : Sound Tryd.prog 25 (packS shape_Size_sh x) Q :=
  vfun_told [.n] (G := G_) (ct := shape_Size_ct) (en := shape_Size_en) (fn := Tryd.f25) (cd := shape_Size_b) (rt := [(false, (.int .i64))]) Tryd.func25 (by kernel_rfl) (by kernel_rfl) (Nat.le_of_ble_eq_true rfl) shape_Size_tab O__ok h (by kernel_rfl)
noncomputable def Oshape_Size : FuncId → List VV → (List (Bool × List VV) → Prop) → Prop := fun f args Q => if f = 25 then unA shape_Size_sh args (fun x => shape_Size_d x Q) else O_ f args Q
theorem Oshape_Size_ok : ∀ f args Q, Oshape_Size f args Q → Sound Tryd.prog f args Q := tab_more O__ok (f0 := 25) shape_Size_sh (fun x Q => shape_Size_d x Q) shape_Size_snd
noncomputable def Gshape_Size : Cfg := ⟨Tryd.prog, tt, Oshape_Size, fun _ _ _ => False⟩
def shape_May (a0 : List Int) (Q : Bool → Prop) : Prop :=
  shape_Size a0 (fun (r1 : Int) => Q (decide (0 < r1)))
noncomputable def shape_May_ct : Tab := fun n => none
noncomputable def shape_May_en : Go.Mach.Ends := fun n => match n with | 2 => some ([], [0]) | 6 => some ([], [2]) | 7 => some ([], [2]) | _ => none
noncomputable def shape_May_b : Code := Tryd.f24.body.getD .skip
theorem shape_May_tab : TabOk Gshape_Size shape_May_ct shape_May_en shape_May_b := by
  intro n E hn f c hs x k h
  cases hn
def shape_May_sh : List Sh := [.lf (.fz false (.int .i64))]
def shape_May_d (x : denS shape_May_sh) (Q : List (Bool × List VV) → Prop) : Prop := shape_May x.1 (fun (r : Bool) => Q (slotsA [(false, .bool)] [.n] (r, ())))
theorem shape_May_snd (x : denS shape_May_sh) (Q : List (Bool × List VV) → Prop) (h : shape_May_d x Q) : Sound Tryd.prog 24 (packS shape_May_sh x) Q :=
  vfun_told [.n] (G := Gshape_Size) (ct := shape_May_ct) (en := shape_May_en) (fn := Tryd.f24) (cd := shape_May_b) (rt := [(false, .bool)]) Tryd.func24 (by kernel_rfl) (by kernel_rfl) (Nat.le_of_ble_eq_true rfl) shape_May_tab Oshape_Size_ok h (by kernel_rfl)
noncomputable def Oshape_May : FuncId → List VV → (List (Bool × List VV) → Prop) → Prop := fun f args Q => if f = 24 then unA shape_May_sh args (fun x => shape_May_d x Q) else Oshape_Size f args Q
theorem Oshape_May_ok : ∀ f args Q, Oshape_May f args Q → Sound Tryd.prog f args Q := tab_more Oshape_Size_ok (f0 := 24) shape_May_sh (fun x Q => shape_May_d x Q) shape_May_snd
noncomputable def Gshape_May : Cfg := ⟨Tryd.prog, tt, Oshape_May, fun _ _ _ => False⟩
def tensor_exp (a0 : Int) (a1 : Int) (Q : Bool → Prop) : Prop :=
  Q ((decide ((IntKind.i64.wrap (0 - a1)) ≤ a0)) && (decide (a0 ≤ a1)))
noncomputable def tensor_exp_ct : Tab := fun n => none
noncomputable def tensor_exp_en : Go.Mach.Ends := fun n => match n with | 2 => some ([], [0, 1]) | 6 => some ([], [4]) | 7 => some ([], [4]) | _ => none
noncomputable def tensor_exp_b : Code := Tryd.f26.body.getD .skip
theorem tensor_exp_tab : TabOk Gshape_May tensor_exp_ct tensor_exp_en tensor_exp_b := by
  intro n E hn f c hs x k h
  cases hn
def tensor_exp_sh : List Sh := [.lf (.int .i64), .lf (.int .i64)]
def tensor_exp_d (x : denS tensor_exp_sh) (Q : List (Bool × List VV) → Prop) : Prop := tensor_exp x.1 x.2.1 (fun (r : Bool) => Q (slotsA [(false, .bool)] [.n] (r, ())))
theorem tensor_exp_snd (x : denS tensor_exp_sh) (Q : List (Bool × List VV) → Prop) (h : tensor_exp_d x Q) : Sound Tryd.prog 26 (packS tensor_exp_sh x) Q :=
  vfun_told [.n] (G := Gshape_May) (ct := tensor_exp_ct) (en := tensor_exp_en) (fn := Tryd.f26) (cd := tensor_exp_b) (rt := [(false, .bool)]) Tryd.func26 (by kernel_rfl) (by kernel_rfl) (Nat.le_of_ble_eq_true rfl) tensor_exp_tab Oshape_May_ok h (by kernel_rfl)
noncomputable def Otensor_exp : FuncId → List VV → (List (Bool × List VV) → Prop) → Prop := fun f args Q => if f = 26 then unA tensor_exp_sh args (fun x => tensor_exp_d x Q) else Oshape_May f args Q
theorem Otensor_exp_ok : ∀ f args Q, Otensor_exp f args Q → Sound Tryd.prog f args Q := tab_more Oshape_May_ok (f0 := 26) tensor_exp_sh (fun x Q => tensor_exp_d x Q) tensor_exp_snd
noncomputable def Gtensor_exp : Cfg := ⟨Tryd.prog, tt, Otensor_exp, fun _ _ _ => False⟩
def round_between_int (a0 : Int) (a1 : Int) (a2 : Int) (Q : Int → Prop) : Prop :=
  Q (greater a1 (smaller a0 a2))
noncomputable def round_between_int_ct : Tab := fun n => none
noncomputable def round_between_int_en : Go.Mach.Ends := fun n => match n with | 2 => some ([], [0, 1, 2]) | 6 => some ([], [6]) | 7 => some ([], [6]) | _ => none
noncomputable def round_between_int_b : Code := Tryd.f51.body.getD .skip
theorem round_between_int_tab : TabOk Gtensor_exp round_between_int_ct round_between_int_en round_between_int_b := by
  intro n E hn f c hs x k h
  cases hn
def round_between_int_sh : List Sh := [.lf (.int .i64), .lf (.int .i64), .lf (.int .i64)]
def round_between_int_d (x : denS round_between_int_sh) (Q : List (Bool × List VV) → Prop) : Prop := round_between_int x.1 x.2.1 x.2.2.1 (fun (r : Int) => Q (slotsA [(false, (.int .i64))] [.n] (r, ())))
theorem round_between_int_snd (x : denS round_between_int_sh) (Q : List (Bool × List VV) → Prop) (h : round_between_int_d x Q) : Sound Tryd.prog 51 (packS round_between_int_sh x) Q :=
  vfun_told [.n] (G := Gtensor_exp) (ct := round_between_int_ct) (en := round_between_int_en) (fn := Tryd.f51) (cd := round_between_int_b) (rt := [(false, (.int .i64))]) Tryd.func51 (by kernel_rfl) (by kernel_rfl) (Nat.le_of_ble_eq_true rfl) round_between_int_tab Otensor_exp_ok h (by kernel_rfl)
noncomputable def Oround_between_int : FuncId → List VV → (List (Bool × List VV) → Prop) → Prop := fun f args Q => if f = 51 then unA round_between_int_sh args (fun x => round_between_int_d x Q) else Otensor_exp f args Q
theorem Oround_between_int_ok : ∀ f args Q, Oround_between_int f args Q → Sound Tryd.prog f args Q := tab_more Otensor_exp_ok (f0 := 51) round_between_int_sh (fun x Q => round_between_int_d x Q) round_between_int_snd
noncomputable def Ground_between_int : Cfg := ⟨Tryd.prog, tt, Oround_between_int, fun _ _ _ => False⟩
def round_between_int64 (a0 : Int) (a1 : Int) (a2 : Int) (Q : Int → Prop) : Prop :=
  Q (greater a1 (smaller a0 a2))
noncomputable def round_between_int64_ct : Tab := fun n => none
noncomputable def round_between_int64_en : Go.Mach.Ends := fun n => match n with | 2 => some ([], [0, 1, 2]) | 6 => some ([], [6]) | 7 => some ([], [6]) | _ => none
noncomputable def round_between_int64_b : Code := Tryd.f52.body.getD .skip
theorem round_between_int64_tab : TabOk Ground_between_int round_between_int64_ct round_between_int64_en round_between_int64_b := by
  intro n E hn f c hs x k h
  cases hn
def round_between_int64_sh : List Sh := [.lf (.int .i64), .lf (.int .i64), .lf (.int .i64)]
def round_between_int64_d (x : denS round_between_int64_sh) (Q : List (Bool × List VV) → Prop) : Prop := round_between_int64 x.1 x.2.1 x.2.2.1 (fun (r : Int) => Q (slotsA [(false, (.int .i64))] [.n] (r, ())))
theorem round_between_int64_snd (x : denS round_between_int64_sh) (Q : List (Bool × List VV) → Prop) (h : round_between_int64_d x Q) : Sound Tryd.prog 52 (packS round_between_int64_sh x) Q :=
  vfun_told [.n] (G := Ground_between_int) (ct := round_between_int64_ct) (en := round_between_int64_en) (fn := Tryd.f52) (cd := round_between_int64_b) (rt := [(false, (.int .i64))]) Tryd.func52 (by kernel_rfl) (by kernel_rfl) (Nat.le_of_ble_eq_true rfl) round_between_int64_tab Oround_between_int_ok h (by kernel_rfl)
noncomputable def Oround_between_int64 : FuncId → List VV → (List (Bool × List VV) → Prop) → Prop := fun f args Q => if f = 52 then unA round_between_int64_sh args (fun x => round_between_int64_d x Q) else Oround_between_int f args Q
theorem Oround_between_int64_ok : ∀ f args Q, Oround_between_int64 f args Q → Sound Tryd.prog f args Q := tab_more Oround_between_int_ok (f0 := 52) round_between_int64_sh (fun x Q => round_between_int64_d x Q) round_between_int64_snd
noncomputable def Ground_between_int64 : Cfg := ⟨Tryd.prog, tt, Oround_between_int64, fun _ _ _ => False⟩
def round_value (a0 : Int) (Q : Int → Prop) : Prop :=
  round_between_int64 a0 (-4611686018427387904) 4611686018427387904 (fun (r1 : Int) => Q r1)
noncomputable def round_value_ct : Tab := fun n => none
noncomputable def round_value_en : Go.Mach.Ends := fun n => match n with | 2 => some ([], [0]) | 6 => some ([], [2]) | 7 => some ([], [2]) | _ => none
noncomputable def round_value_b : Code := Tryd.f49.body.getD .skip
theorem round_value_tab : TabOk Ground_between_int64 round_value_ct round_value_en round_value_b := by
  intro n E hn f c hs x k h
  cases hn
def round_value_sh : List Sh := [.lf (.int .i64)]
def round_value_d (x : denS round_value_sh) (Q : List (Bool × List VV) → Prop) : Prop := round_value x.1 (fun (r : Int) => Q (slotsA [(false, (.int .i64))] [.n] (r, ())))
theorem round_value_snd (x : denS round_value_sh) (Q : List (Bool × List VV) → Prop) (h : round_value_d x Q) : Sound Tryd.prog 49 (packS round_value_sh x) Q :=
  vfun_told [.n] (G := Ground_between_int64) (ct := round_value_ct) (en := round_value_en) (fn := Tryd.f49) (cd := round_value_b) (rt := [(false, (.int .i64))]) Tryd.func49 (by kernel_rfl) (by kernel_rfl) (Nat.le_of_ble_eq_true rfl) round_value_tab Oround_between_int64_ok h (by kernel_rfl)
noncomputable def Oround_value : FuncId → List VV → (List (Bool × List VV) → Prop) → Prop := fun f args Q => if f = 49 then unA round_value_sh args (fun x => round_value_d x Q) else Oround_between_int64 f args Q
theorem Oround_value_ok : ∀ f args Q, Oround_value f args Q → Sound Tryd.prog f args Q := tab_more Oround_between_int64_ok (f0 := 49) round_value_sh (fun x Q => round_value_d x Q) round_value_snd
noncomputable def Ground_value : Cfg := ⟨Tryd.prog, tt, Oround_value, fun _ _ _ => False⟩
def round_shift (a0 : Int) (Q : Int → Prop) : Prop :=
  round_between_int a0 0 62 (fun (r1 : Int) => Q r1)
noncomputable def round_shift_ct : Tab := fun n => none
noncomputable def round_shift_en : Go.Mach.Ends := fun n => match n with | 2 => some ([], [0]) | 6 => some ([], [2]) | 7 => some ([], [2]) | _ => none
noncomputable def round_shift_b : Code := Tryd.f48.body.getD .skip
theorem round_shift_tab : TabOk Ground_value round_shift_ct round_shift_en round_shift_b := by
  intro n E hn f c hs x k h
  cases hn
def round_shift_sh : List Sh := [.lf (.int .i64)]
def round_shift_d (x : denS round_shift_sh) (Q : List (Bool × List VV) → Prop) : Prop := round_shift x.1 (fun (r : Int) => Q (slotsA [(false, (.int .i64))] [.n] (r, ())))
theorem round_shift_snd (x : denS round_shift_sh) (Q : List (Bool × List VV) → Prop) (h : round_shift_d x Q) : Sound Tryd.prog 48 (packS round_shift_sh x) Q :=
  vfun_told [.n] (G := Ground_value) (ct := round_shift_ct) (en := round_shift_en) (fn := Tryd.f48) (cd := round_shift_b) (rt := [(false, (.int .i64))]) Tryd.func48 (by kernel_rfl) (by kernel_rfl) (Nat.le_of_ble_eq_true rfl) round_shift_tab Oround_value_ok h (by kernel_rfl)
noncomputable def Oround_shift : FuncId → List VV → (List (Bool × List VV) → Prop) → Prop := fun f args Q => if f = 48 then unA round_shift_sh args (fun x => round_shift_d x Q) else Oround_value f args Q
theorem Oround_shift_ok : ∀ f args Q, Oround_shift f args Q → Sound Tryd.prog f args Q := tab_more Oround_value_ok (f0 := 48) round_shift_sh (fun x Q => round_shift_d x Q) round_shift_snd
noncomputable def Ground_shift : Cfg := ⟨Tryd.prog, tt, Oround_shift, fun _ _ _ => False⟩
def round_Clamp (a0 : Int) (a1 : Int) (Q : Int → Prop) : Prop :=
  round_between_int a1 1 32 (fun (r1 : Int) => ck ((0 : Int) ≤ (IntKind.i64.wrap (r1 - 1))) (round_value a0 (fun (r2 : Int) => round_between_int64 r2 (IntKind.i64.wrap (0 - (IntKind.i64.wrap ((IntKind.i64.wrap (1 * 2 ^ (min (IntKind.i64.wrap (r1 - 1)).toNat (IntKind.i64).bits))) - 1)))) (IntKind.i64.wrap ((IntKind.i64.wrap (1 * 2 ^ (min (IntKind.i64.wrap (r1 - 1)).toNat (IntKind.i64).bits))) - 1)) (fun (r3 : Int) => Q r3))))
noncomputable def round_Clamp_ct : Tab := fun n => none
noncomputable def round_Clamp_en : Go.Mach.Ends := fun n => match n with | 2 => some ([], [0, 1]) | 6 => some ([], [0, 5]) | 14 => some ([], [4]) | 15 => some ([], [4]) | _ => none
noncomputable def round_Clamp_b : Code := Tryd.f34.body.getD .skip
theorem round_Clamp_tab : TabOk Ground_shift round_Clamp_ct round_Clamp_en round_Clamp_b := by
  intro n E hn f c hs x k h
  cases hn
def round_Clamp_sh : List Sh := [.lf (.int .i64), .lf (.int .i64)]
def round_Clamp_d (x : denS round_Clamp_sh) (Q : List (Bool × List VV) → Prop) : Prop := round_Clamp x.1 x.2.1 (fun (r : Int) => Q (slotsA [(false, (.int .i64))] [.n] (r, ())))
theorem round_Clamp_snd (x : denS round_Clamp_sh) (Q : List (Bool × List VV) → Prop) (h : round_Clamp_d x Q) : Sound Tryd.prog 34 (packS round_Clamp_sh x) Q :=
  vfun_told [.n] (G := Ground_shift) (ct := round_Clamp_ct) (en := round_Clamp_en) (fn := Tryd.f34) (cd := round_Clamp_b) (rt := [(false, (.int .i64))]) Tryd.func34 (by kernel_rfl) (by kernel_rfl) (Nat.le_of_ble_eq_true rfl) round_Clamp_tab Oround_shift_ok h (by kernel_rfl)
noncomputable def Oround_Clamp : FuncId → List VV → (List (Bool × List VV) → Prop) → Prop := fun f args Q => if f = 34 then unA round_Clamp_sh args (fun x => round_Clamp_d x Q) else Oround_shift f args Q
theorem Oround_Clamp_ok : ∀ f args Q, Oround_Clamp f args Q → Sound Tryd.prog f args Q := tab_more Oround_shift_ok (f0 := 34) round_Clamp_sh (fun x Q => round_Clamp_d x Q) round_Clamp_snd
noncomputable def Ground_Clamp : Cfg := ⟨Tryd.prog, tt, Oround_Clamp, fun _ _ _ => False⟩
def sc_14a5d850 : ByteArray := ⟨#[0, 1, 2, 2, 3, 3, 3, 3, 4, 4, 4, 4, 4, 4, 4, 4, 5, 5, 5, 5, 5, 5, 5, 5, 5, 5, 5, 5, 5, 5, 5, 5, 6, 6, 6, 6, 6, 6, 6, 6, 6, 6, 6, 6, 6, 6, 6, 6, 6, 6, 6, 6, 6, 6, 6, 6, 6, 6, 6, 6, 6, 6, 6, 6, 7, 7, 7, 7, 7, 7, 7, 7, 7, 7, 7, 7, 7, 7, 7, 7, 7, 7, 7, 7, 7, 7, 7, 7, 7, 7, 7, 7, 7, 7, 7, 7, 7, 7, 7, 7, 7, 7, 7, 7, 7, 7, 7, 7, 7, 7, 7, 7, 7, 7, 7, 7, 7, 7, 7, 7, 7, 7, 7, 7, 7, 7, 7, 7, 8, 8, 8, 8, 8, 8, 8, 8, 8, 8, 8, 8, 8, 8, 8, 8, 8, 8, 8, 8, 8, 8, 8, 8, 8, 8, 8, 8, 8, 8, 8, 8, 8, 8, 8, 8, 8, 8, 8, 8, 8, 8, 8, 8, 8, 8, 8, 8, 8, 8, 8, 8, 8, 8, 8, 8, 8, 8, 8, 8, 8, 8, 8, 8, 8, 8, 8, 8, 8, 8, 8, 8, 8, 8, 8, 8, 8, 8, 8, 8, 8, 8, 8, 8, 8, 8, 8, 8, 8, 8, 8, 8, 8, 8, 8, 8, 8, 8, 8, 8, 8, 8, 8, 8, 8, 8, 8, 8, 8, 8, 8, 8, 8, 8, 8, 8, 8, 8, 8, 8, 8, 8, 8, 8, 8, 8, 8, 8]⟩
def math_bits_Len64_n2 (x0 : Int) (x1 : Int) (K0 : Int → Prop) : Prop :=
  ck ((0 : Int) ≤ (IntKind.u8.wrap x0) ∧ (IntKind.u8.wrap x0) < (sc_14a5d850.size : Int)) (K0 (IntKind.i64.wrap (x1 + (IntKind.i64.wrap ((sc_14a5d850.data.toList.getD (IntKind.u8.wrap x0).toNat 0).toNat : Nat)))))
def math_bits_Len64_n1 (x0 : Int) (x1 : Int) (K0 : Int → Prop) : Prop :=
  if (decide (256 ≤ x0)) = true then ck ((0 : Int) ≤ 8) (math_bits_Len64_n2 ((x0).fdiv (2 ^ (min ((8 : Int)).toNat (IntKind.u64).bits))) (IntKind.i64.wrap (x1 + 8)) (fun (y1 : Int) => K0 y1)) else math_bits_Len64_n2 x0 x1 (fun (y2 : Int) => K0 y2)
def math_bits_Len64_n0 (x0 : Int) (x1 : Int) (K0 : Int → Prop) : Prop :=
  if (decide (65536 ≤ x0)) = true then ck ((0 : Int) ≤ 16) (math_bits_Len64_n1 ((x0).fdiv (2 ^ (min ((16 : Int)).toNat (IntKind.u64).bits))) (IntKind.i64.wrap (x1 + 16)) (fun (y1 : Int) => K0 y1)) else math_bits_Len64_n1 x0 x1 (fun (y2 : Int) => K0 y2)
def math_bits_Len64 (a0 : Int) (Q : Int → Prop) : Prop :=
  if (decide (4294967296 ≤ a0)) = true then ck ((0 : Int) ≤ 32) (math_bits_Len64_n0 ((a0).fdiv (2 ^ (min ((32 : Int)).toNat (IntKind.u64).bits))) 32 (fun (y3 : Int) => Q y3)) else math_bits_Len64_n0 a0 0 (fun (y4 : Int) => Q y4)
noncomputable def math_bits_Len64_e0 : Ent := ⟨[0, 2], [.lf (.int .u64), .lf (.int .i64)], [], fun x k => math_bits_Len64_n0 x.1.1 x.1.2.1 (fun (y5 : Int) => k .ret ⟨[(2, .pl (.int .i64 y5))], []⟩)⟩
noncomputable def math_bits_Len64_e1 : Ent := ⟨[0, 2], [.lf (.int .u64), .lf (.int .i64)], [], fun x k => math_bits_Len64_n1 x.1.1 x.1.2.1 (fun (y6 : Int) => k .ret ⟨[(2, .pl (.int .i64 y6))], []⟩)⟩
noncomputable def math_bits_Len64_e2 : Ent := ⟨[0, 2], [.lf (.int .u64), .lf (.int .i64)], [], fun x k => math_bits_Len64_n2 x.1.1 x.1.2.1 (fun (y7 : Int) => k .ret ⟨[(2, .pl (.int .i64 y7))], []⟩)⟩
noncomputable def math_bits_Len64_ct : Tab := fun n => match n with | 7 => some math_bits_Len64_e0 | 15 => some math_bits_Len64_e1 | 31 => some math_bits_Len64_e2 | _ => none
noncomputable def math_bits_Len64_en : Go.Mach.Ends := fun n => match n with | 2 => some ([], [0, 2]) | 12 => some ([], [0, 2, 4]) | 27 => some ([], [0, 2]) | 28 => some ([], [0, 2, 8]) | 52 => some ([], [0]) | 53 => some ([], [0, 2]) | 59 => some ([], [0, 2]) | 60 => some ([], [0, 2, 14]) | 62 => some ([], [2]) | 63 => some ([], [2]) | 116 => some ([], [0, 2]) | 117 => some ([], [0, 2]) | 123 => some ([], [0, 2]) | 244 => some ([], [0, 2]) | 245 => some ([], [0, 2]) | _ => none
noncomputable def math_bits_Len64_b : Code := Tryd.f56.body.getD .skip
theorem math_bits_Len64_tab : TabOk Ground_Clamp math_bits_Len64_ct math_bits_Len64_en math_bits_Len64_b := by
  intro n E hn f c hs x k h
  unfold math_bits_Len64_ct at hn
  split at hn
  · cases hn; exact tab_node2 hs (by kernel_rfl) (by kernel_rfl) h
  · cases hn; exact tab_node2 hs (by kernel_rfl) (by kernel_rfl) h
  · cases hn; exact tab_node2 hs (by kernel_rfl) (by kernel_rfl) h
  · cases hn
def math_bits_Len64_sh : List Sh := [.lf (.int .u64)]
def math_bits_Len64_d (x : denS math_bits_Len64_sh) (Q : List (Bool × List VV) → Prop) : Prop := math_bits_Len64 x.1 (fun (r : Int) => Q (slotsA [(false, (.int .i64))] [.n] (r, ())))
theorem math_bits_Len64_snd (x : denS math_bits_Len64_sh) (Q : List (Bool × List VV) → Prop) (h : math_bits_Len64_d x Q) : Sound Tryd.prog 56 (packS math_bits_Len64_sh x) Q :=
  vfun_told [.n] (G := Ground_Clamp) (ct := math_bits_Len64_ct) (en := math_bits_Len64_en) (fn := Tryd.f56) (cd := math_bits_Len64_b) (rt := [(false, (.int .i64))]) Tryd.func56 (by kernel_rfl) (by kernel_rfl) (Nat.le_of_ble_eq_true rfl) math_bits_Len64_tab Oround_Clamp_ok h (by kernel_rfl)
noncomputable def Omath_bits_Len64 : FuncId → List VV → (List (Bool × List VV) → Prop) → Prop := fun f args Q => if f = 56 then unA math_bits_Len64_sh args (fun x => math_bits_Len64_d x Q) else Oround_Clamp f args Q
theorem Omath_bits_Len64_ok : ∀ f args Q, Omath_bits_Len64 f args Q → Sound Tryd.prog f args Q := tab_more Oround_Clamp_ok (f0 := 56) math_bits_Len64_sh (fun x Q => math_bits_Len64_d x Q) math_bits_Len64_snd
noncomputable def Gmath_bits_Len64 : Cfg := ⟨Tryd.prog, tt, Omath_bits_Len64, fun _ _ _ => False⟩
end Go.Proofs.YtejbkafligpmbaaDoor
