/- Plain texts of functions, as the value machine comes to them. No condition. -/
import Derived.Test.YtmleeffinagncaaVFun3
import Derived.Test.YtmleeffinagncaaProg
import Derived.KernelRfl
namespace Go.Proofs.Ytmleeffinagncaa
open Go.Mach
set_option maxRecDepth 100000
set_option linter.unusedVariables false
noncomputable def tt : TypeId → Option Ty := fun t => match t with
  | 2 => some (.int .i64)
  | 3 => some (.int .i64)
  | 4 => some .bool
  | 5 => some (.int .u8)
  | 6 => some (.int .u8)
  | 7 => some (.pair (.int .i64) (.pair (.int .i64) (.pair .bool (.int .u8))))
  | 8 => some (.pair (.int .i64) (.pair (.int .i64) (.pair .bool (.int .u8))))
  | 9 => some .str
  | 10 => some .str
  | 11 => some .str
  | 12 => some (.int .u64)
  | 13 => some (.pair .str (.int .u64))
  | 14 => some (.pair .str (.int .u64))
  | 21 => some (.int .i32)
  | 22 => some (.slc (.int .i8))
  | 23 => some (.int .u64)
  | 24 => some (.slc (.int .i64))
  | 25 => some (.pair (.slc (.int .i64)) (.pair (.int .i64) (.slc (.int .i8))))
  | 26 => some (.pair (.slc (.int .i64)) (.pair (.int .i64) (.slc (.int .i8))))
  | 28 => some (.int .i8)
  | 29 => some (.slc (.int .i32))
  | 30 => some (.pair (.slc (.int .i64)) (.pair (.int .i64) (.slc (.int .i32))))
  | 31 => some (.pair (.slc (.int .i64)) (.pair (.int .i64) (.slc (.int .i32))))
  | 32 => some (.int .i64)
  | 46 => some (.pair (.int .i64) (.pair (.int .i64) (.pair (.int .i64) (.pair (.int .i64) (.int .i64)))))
  | 53 => some (.pair (.int .i64) (.pair (.int .i64) (.pair (.int .i64) (.pair (.int .i64) (.pair (.int .i64) (.pair (.int .i64) (.int .i64)))))))
  | 54 => some (.pair (.int .i64) (.pair (.int .i64) (.pair (.int .i64) (.pair (.int .i64) (.pair (.int .i64) (.pair (.int .i64) (.int .i64)))))))
  | 58 => some (.slc (.pair (.int .i64) (.pair (.int .i64) (.int .i64))))
  | 61 => some (.pair (.int .i64) (.pair (.int .i64) (.int .i64)))
  | 62 => some (.pair (.int .i64) (.pair (.int .i64) (.int .i64)))
  | 67 => some (.slc (.pair (.slc (.int .i64)) (.pair (.int .i64) (.slc (.int .i8)))))
  | 82 => some (.int .u64)
  | 87 => some (.pair (.int .i64) (.pair (.int .i64) (.pair (.int .i64) (.pair (.int .i64) (.int .i64)))))
  | 88 => some (.pair (.int .i64) (.pair (.int .i64) (.pair (.int .i64) (.pair (.int .i64) (.int .i64)))))
  | 90 => some .cpx
  | 94 => some .flt
  | 104 => some (.int .u32)
  | 105 => some (.int .u8)
  | 106 => some (.int .u8)
  | 109 => some (.int .i32)
  | 110 => some (.int .i32)
  | _ => none
noncomputable def O_ : FuncId → List VV → (List (Bool × List VV) → Prop) → Prop := fun _ _ _ => False
theorem O__ok : ∀ f args Q, O_ f args Q → Sound Try.prog f args Q := fun _ _ _ h => h.elim
noncomputable def G_ : Cfg := ⟨Try.prog, tt, O_, fun _ _ _ => False⟩
def shape_Size_n0_B (x1 : List Int) (x2 : Int) (K0 : Int → Prop) (K1 : Unit → Prop) (s : Int × Int) (nx : (Int × Int) → Prop) : Prop :=
  if (decide (s.2 < x2)) = true then ck ((0 : Int) ≤ s.2 ∧ s.2 < (x1.length : Int)) (if (((decide ((x1.getD ((s.2).toNat) 0) < 1)) || (decide (4096 < (x1.getD ((s.2).toNat) 0)))) || (decide (8192 < (IntKind.i64.wrap (s.1 * (x1.getD ((s.2).toNat) 0)))))) = true then K1 () else nx (IntKind.i64.wrap (s.1 * (x1.getD ((s.2).toNat) 0)), IntKind.i64.wrap (s.2 + 1))) else K0 s.1
structure shape_Size_n0 (x1 : List Int) (x2 : Int) (K0 : Int → Prop) (K1 : Unit → Prop) (s : Int × Int) : Prop where
  it : Go.Mach.Loop (shape_Size_n0_B x1 x2 K0 K1) s
def shape_Size_t (a0 : List Int) (Q : Int → Prop) : Prop :=
  if ((decide ((a0.length : Int) < 1)) || (decide (4 < (a0.length : Int)))) = true then Q 0 else shape_Size_n0 a0 (a0.length : Int) (fun (y1 : Int) => Q y1) (fun (y2 : Unit) => Q 0) (1, 0)
structure shape_Size (a0 : List Int) (Q : Int → Prop) : Prop where
  it : shape_Size_t a0 Q
noncomputable def shape_Size_e0 : Ent := ⟨[3, 14, 15, 16], [.lf (.int .i64), .lf (.fz false (.int .i64)), .lf (.int .i64), .lf (.int .i64)], [], fun x k => shape_Size_n0 x.1.2.1 x.1.2.2.1 (fun (y3 : Int) => k (.exit 0) ⟨[(3, .pl (.int .i64 y3))], []⟩) (fun (y4 : Unit) => k .ret ⟨[(2, .pl (.int .i64 0))], []⟩) (x.1.1, x.1.2.2.2.1)⟩
noncomputable def shape_Size_ct : Tab := fun n => match n with | 122 => some shape_Size_e0 | _ => none
noncomputable def shape_Size_en : Go.Mach.Ends := fun n => match n with | 2 => some ([], [0]) | 12 => some ([], [0, 13]) | 14 => some ([], [0, 3]) | 27 => some ([], [0]) | 52 => some ([], [2]) | 53 => some ([], [2]) | 60 => some ([], [3, 14, 15, 16]) | 62 => some ([], [2]) | 63 => some ([], [2]) | 122 => some ([], [3, 14, 15, 16]) | 488 => some ([], [3, 14, 15, 16, 17]) | 1956 => some ([], [3, 14, 15, 16]) | 1957 => some ([], [3]) | 1959 => some ([], [3, 14, 15, 16]) | 7832 => some ([], [3, 5, 14, 15, 16]) | 15667 => some ([], [3, 14, 15, 16]) | 31332 => some ([], [3, 5, 14, 15, 16, 31]) | 62667 => some ([], [3, 5, 14, 15, 16]) | 125332 => some ([], [2]) | 125333 => some ([], [2]) | _ => none
noncomputable def shape_Size_b : Code := Try.f44.body.getD .skip
theorem shape_Size_tab : TabOk G_ shape_Size_ct shape_Size_en shape_Size_b := by
  intro n E hn f c hs x k h
  unfold shape_Size_ct at hn
  split at hn
  · cases hn; exact tab_loop2 hs (by kernel_rfl) (fun y : Int × Int => ⟨[(3, .pl (.int .i64 y.1)), (14, .fz false (.int .i64) x.1.2.1), (15, .pl (.int .i64 x.1.2.2.1)), (16, .pl (.int .i64 y.2))], []⟩) (x.1.1, x.1.2.2.2.1) (by kernel_rfl) (fun y X => by kernel_rfl) h.it
  · cases hn
def shape_Size_sh : List Sh := [.lf (.fz false (.int .i64))]
def shape_Size_d (x : denS shape_Size_sh) (Q : List (Bool × List VV) → Prop) : Prop := shape_Size x.1 (fun (r : Int) => Q (slotsA [(false, (.int .i64))] [.n] (r, ())))
theorem shape_Size_snd (x : denS shape_Size_sh) (Q : List (Bool × List VV) → Prop) (h : shape_Size_d x Q) : Sound Try.prog 44 (packS shape_Size_sh x) Q :=
  vfun_told [.n] (G := G_) (ct := shape_Size_ct) (en := shape_Size_en) (fn := Try.f44) (cd := shape_Size_b) (rt := [(false, (.int .i64))]) Try.func44 (by kernel_rfl) (by kernel_rfl) (Nat.le_of_ble_eq_true rfl) shape_Size_tab O__ok h.it (by kernel_rfl)
noncomputable def Oshape_Size : FuncId → List VV → (List (Bool × List VV) → Prop) → Prop := fun f args Q => if f = 44 then unA shape_Size_sh args (fun x => shape_Size_d x Q) else O_ f args Q
theorem Oshape_Size_ok : ∀ f args Q, Oshape_Size f args Q → Sound Try.prog f args Q := tab_more O__ok (f0 := 44) shape_Size_sh (fun x Q => shape_Size_d x Q) shape_Size_snd
noncomputable def Gshape_Size : Cfg := ⟨Try.prog, tt, Oshape_Size, fun _ _ _ => False⟩
def shape_May_t (a0 : List Int) (Q : Bool → Prop) : Prop :=
  shape_Size a0 (fun (r1 : Int) => Q (decide (0 < r1)))
structure shape_May (a0 : List Int) (Q : Bool → Prop) : Prop where
  it : shape_May_t a0 Q
noncomputable def shape_May_ct : Tab := fun n => none
noncomputable def shape_May_en : Go.Mach.Ends := fun n => match n with | 2 => some ([], [0]) | 6 => some ([], [2]) | 7 => some ([], [2]) | _ => none
noncomputable def shape_May_b : Code := Try.f43.body.getD .skip
theorem shape_May_tab : TabOk Gshape_Size shape_May_ct shape_May_en shape_May_b := by
  intro n E hn f c hs x k h
  cases hn
def shape_May_sh : List Sh := [.lf (.fz false (.int .i64))]
def shape_May_d (x : denS shape_May_sh) (Q : List (Bool × List VV) → Prop) : Prop := shape_May x.1 (fun (r : Bool) => Q (slotsA [(false, .bool)] [.n] (r, ())))
theorem shape_May_snd (x : denS shape_May_sh) (Q : List (Bool × List VV) → Prop) (h : shape_May_d x Q) : Sound Try.prog 43 (packS shape_May_sh x) Q :=
  vfun_told [.n] (G := Gshape_Size) (ct := shape_May_ct) (en := shape_May_en) (fn := Try.f43) (cd := shape_May_b) (rt := [(false, .bool)]) Try.func43 (by kernel_rfl) (by kernel_rfl) (Nat.le_of_ble_eq_true rfl) shape_May_tab Oshape_Size_ok h.it (by kernel_rfl)
noncomputable def Oshape_May : FuncId → List VV → (List (Bool × List VV) → Prop) → Prop := fun f args Q => if f = 43 then unA shape_May_sh args (fun x => shape_May_d x Q) else Oshape_Size f args Q
theorem Oshape_May_ok : ∀ f args Q, Oshape_May f args Q → Sound Try.prog f args Q := tab_more Oshape_Size_ok (f0 := 43) shape_May_sh (fun x Q => shape_May_d x Q) shape_May_snd
noncomputable def Gshape_May : Cfg := ⟨Try.prog, tt, Oshape_May, fun _ _ _ => False⟩
def tensor_exp_t (a0 : Int) (a1 : Int) (Q : Bool → Prop) : Prop :=
  Q ((decide ((IntKind.i64.wrap (0 - a1)) ≤ a0)) && (decide (a0 ≤ a1)))
structure tensor_exp (a0 : Int) (a1 : Int) (Q : Bool → Prop) : Prop where
  it : tensor_exp_t a0 a1 Q
noncomputable def tensor_exp_ct : Tab := fun n => none
noncomputable def tensor_exp_en : Go.Mach.Ends := fun n => match n with | 2 => some ([], [0, 1]) | 6 => some ([], [4]) | 7 => some ([], [4]) | _ => none
noncomputable def tensor_exp_b : Code := Try.f45.body.getD .skip
theorem tensor_exp_tab : TabOk Gshape_May tensor_exp_ct tensor_exp_en tensor_exp_b := by
  intro n E hn f c hs x k h
  cases hn
def tensor_exp_sh : List Sh := [.lf (.int .i64), .lf (.int .i64)]
def tensor_exp_d (x : denS tensor_exp_sh) (Q : List (Bool × List VV) → Prop) : Prop := tensor_exp x.1 x.2.1 (fun (r : Bool) => Q (slotsA [(false, .bool)] [.n] (r, ())))
theorem tensor_exp_snd (x : denS tensor_exp_sh) (Q : List (Bool × List VV) → Prop) (h : tensor_exp_d x Q) : Sound Try.prog 45 (packS tensor_exp_sh x) Q :=
  vfun_told [.n] (G := Gshape_May) (ct := tensor_exp_ct) (en := tensor_exp_en) (fn := Try.f45) (cd := tensor_exp_b) (rt := [(false, .bool)]) Try.func45 (by kernel_rfl) (by kernel_rfl) (Nat.le_of_ble_eq_true rfl) tensor_exp_tab Oshape_May_ok h.it (by kernel_rfl)
noncomputable def Otensor_exp : FuncId → List VV → (List (Bool × List VV) → Prop) → Prop := fun f args Q => if f = 45 then unA tensor_exp_sh args (fun x => tensor_exp_d x Q) else Oshape_May f args Q
theorem Otensor_exp_ok : ∀ f args Q, Otensor_exp f args Q → Sound Try.prog f args Q := tab_more Oshape_May_ok (f0 := 45) tensor_exp_sh (fun x Q => tensor_exp_d x Q) tensor_exp_snd
noncomputable def Gtensor_exp : Cfg := ⟨Try.prog, tt, Otensor_exp, fun _ _ _ => False⟩
def round_between_int_t (a0 : Int) (a1 : Int) (a2 : Int) (Q : Int → Prop) : Prop :=
  Q (greater a1 (smaller a0 a2))
structure round_between_int (a0 : Int) (a1 : Int) (a2 : Int) (Q : Int → Prop) : Prop where
  it : round_between_int_t a0 a1 a2 Q
noncomputable def round_between_int_ct : Tab := fun n => none
noncomputable def round_between_int_en : Go.Mach.Ends := fun n => match n with | 2 => some ([], [0, 1, 2]) | 6 => some ([], [6]) | 7 => some ([], [6]) | _ => none
noncomputable def round_between_int_b : Code := Try.f51.body.getD .skip
theorem round_between_int_tab : TabOk Gtensor_exp round_between_int_ct round_between_int_en round_between_int_b := by
  intro n E hn f c hs x k h
  cases hn
def round_between_int_sh : List Sh := [.lf (.int .i64), .lf (.int .i64), .lf (.int .i64)]
def round_between_int_d (x : denS round_between_int_sh) (Q : List (Bool × List VV) → Prop) : Prop := round_between_int x.1 x.2.1 x.2.2.1 (fun (r : Int) => Q (slotsA [(false, (.int .i64))] [.n] (r, ())))
theorem round_between_int_snd (x : denS round_between_int_sh) (Q : List (Bool × List VV) → Prop) (h : round_between_int_d x Q) : Sound Try.prog 51 (packS round_between_int_sh x) Q :=
  vfun_told [.n] (G := Gtensor_exp) (ct := round_between_int_ct) (en := round_between_int_en) (fn := Try.f51) (cd := round_between_int_b) (rt := [(false, (.int .i64))]) Try.func51 (by kernel_rfl) (by kernel_rfl) (Nat.le_of_ble_eq_true rfl) round_between_int_tab Otensor_exp_ok h.it (by kernel_rfl)
noncomputable def Oround_between_int : FuncId → List VV → (List (Bool × List VV) → Prop) → Prop := fun f args Q => if f = 51 then unA round_between_int_sh args (fun x => round_between_int_d x Q) else Otensor_exp f args Q
theorem Oround_between_int_ok : ∀ f args Q, Oround_between_int f args Q → Sound Try.prog f args Q := tab_more Otensor_exp_ok (f0 := 51) round_between_int_sh (fun x Q => round_between_int_d x Q) round_between_int_snd
noncomputable def Ground_between_int : Cfg := ⟨Try.prog, tt, Oround_between_int, fun _ _ _ => False⟩
def round_between_int64_t (a0 : Int) (a1 : Int) (a2 : Int) (Q : Int → Prop) : Prop :=
  Q (greater a1 (smaller a0 a2))
structure round_between_int64 (a0 : Int) (a1 : Int) (a2 : Int) (Q : Int → Prop) : Prop where
  it : round_between_int64_t a0 a1 a2 Q
noncomputable def round_between_int64_ct : Tab := fun n => none
noncomputable def round_between_int64_en : Go.Mach.Ends := fun n => match n with | 2 => some ([], [0, 1, 2]) | 6 => some ([], [6]) | 7 => some ([], [6]) | _ => none
noncomputable def round_between_int64_b : Code := Try.f52.body.getD .skip
theorem round_between_int64_tab : TabOk Ground_between_int round_between_int64_ct round_between_int64_en round_between_int64_b := by
  intro n E hn f c hs x k h
  cases hn
def round_between_int64_sh : List Sh := [.lf (.int .i64), .lf (.int .i64), .lf (.int .i64)]
def round_between_int64_d (x : denS round_between_int64_sh) (Q : List (Bool × List VV) → Prop) : Prop := round_between_int64 x.1 x.2.1 x.2.2.1 (fun (r : Int) => Q (slotsA [(false, (.int .i64))] [.n] (r, ())))
theorem round_between_int64_snd (x : denS round_between_int64_sh) (Q : List (Bool × List VV) → Prop) (h : round_between_int64_d x Q) : Sound Try.prog 52 (packS round_between_int64_sh x) Q :=
  vfun_told [.n] (G := Ground_between_int) (ct := round_between_int64_ct) (en := round_between_int64_en) (fn := Try.f52) (cd := round_between_int64_b) (rt := [(false, (.int .i64))]) Try.func52 (by kernel_rfl) (by kernel_rfl) (Nat.le_of_ble_eq_true rfl) round_between_int64_tab Oround_between_int_ok h.it (by kernel_rfl)
noncomputable def Oround_between_int64 : FuncId → List VV → (List (Bool × List VV) → Prop) → Prop := fun f args Q => if f = 52 then unA round_between_int64_sh args (fun x => round_between_int64_d x Q) else Oround_between_int f args Q
theorem Oround_between_int64_ok : ∀ f args Q, Oround_between_int64 f args Q → Sound Try.prog f args Q := tab_more Oround_between_int_ok (f0 := 52) round_between_int64_sh (fun x Q => round_between_int64_d x Q) round_between_int64_snd
noncomputable def Ground_between_int64 : Cfg := ⟨Try.prog, tt, Oround_between_int64, fun _ _ _ => False⟩
def round_value_t (a0 : Int) (Q : Int → Prop) : Prop :=
  round_between_int64 a0 (-4611686018427387904) 4611686018427387904 (fun (r1 : Int) => Q r1)
structure round_value (a0 : Int) (Q : Int → Prop) : Prop where
  it : round_value_t a0 Q
noncomputable def round_value_ct : Tab := fun n => none
noncomputable def round_value_en : Go.Mach.Ends := fun n => match n with | 2 => some ([], [0]) | 6 => some ([], [2]) | 7 => some ([], [2]) | _ => none
noncomputable def round_value_b : Code := Try.f50.body.getD .skip
theorem round_value_tab : TabOk Ground_between_int64 round_value_ct round_value_en round_value_b := by
  intro n E hn f c hs x k h
  cases hn
def round_value_sh : List Sh := [.lf (.int .i64)]
def round_value_d (x : denS round_value_sh) (Q : List (Bool × List VV) → Prop) : Prop := round_value x.1 (fun (r : Int) => Q (slotsA [(false, (.int .i64))] [.n] (r, ())))
theorem round_value_snd (x : denS round_value_sh) (Q : List (Bool × List VV) → Prop) (h : round_value_d x Q) : Sound Try.prog 50 (packS round_value_sh x) Q :=
  vfun_told [.n] (G := Ground_between_int64) (ct := round_value_ct) (en := round_value_en) (fn := Try.f50) (cd := round_value_b) (rt := [(false, (.int .i64))]) Try.func50 (by kernel_rfl) (by kernel_rfl) (Nat.le_of_ble_eq_true rfl) round_value_tab Oround_between_int64_ok h.it (by kernel_rfl)
noncomputable def Oround_value : FuncId → List VV → (List (Bool × List VV) → Prop) → Prop := fun f args Q => if f = 50 then unA round_value_sh args (fun x => round_value_d x Q) else Oround_between_int64 f args Q
theorem Oround_value_ok : ∀ f args Q, Oround_value f args Q → Sound Try.prog f args Q := tab_more Oround_between_int64_ok (f0 := 50) round_value_sh (fun x Q => round_value_d x Q) round_value_snd
noncomputable def Ground_value : Cfg := ⟨Try.prog, tt, Oround_value, fun _ _ _ => False⟩
def slices_Index_int8_int8_n0_B (x0 : List Int) (x1 : Int) (x2 : Int) (K0 : Unit → Prop) (K1 : Int → Prop) (s : Int) (nx : Int → Prop) : Prop :=
  if (decide (s < x2)) = true then ck ((0 : Int) ≤ s ∧ s < (x0.length : Int)) (if (x1 == (x0.getD ((s).toNat) 0)) = true then K1 s else nx (IntKind.i64.wrap (s + 1))) else K0 ()
structure slices_Index_int8_int8_n0 (x0 : List Int) (x1 : Int) (x2 : Int) (K0 : Unit → Prop) (K1 : Int → Prop) (s : Int) : Prop where
  it : Go.Mach.Loop (slices_Index_int8_int8_n0_B x0 x1 x2 K0 K1) s
def slices_Index_int8_int8_t (a0 : List Int) (a1 : Int) (Q : Int → Prop) : Prop :=
  slices_Index_int8_int8_n0 a0 a1 (a0.length : Int) (fun (y1 : Unit) => Q (-1)) (fun (y2 : Int) => Q y2) 0
structure slices_Index_int8_int8 (a0 : List Int) (a1 : Int) (Q : Int → Prop) : Prop where
  it : slices_Index_int8_int8_t a0 a1 Q
noncomputable def slices_Index_int8_int8_e0 : Ent := ⟨[0, 1, 7, 8], [.lf (.fz false (.int .i8)), .lf (.int .i8), .lf (.int .i64), .lf (.int .i64)], [], fun x k => slices_Index_int8_int8_n0 x.1.1 x.1.2.1 x.1.2.2.1 (fun (y3 : Unit) => k (.exit 0) ⟨[], []⟩) (fun (y4 : Int) => k .ret ⟨[(4, .pl (.int .i64 y4))], []⟩) x.1.2.2.2.1⟩
noncomputable def slices_Index_int8_int8_ct : Tab := fun n => match n with | 26 => some slices_Index_int8_int8_e0 | _ => none
noncomputable def slices_Index_int8_int8_en : Go.Mach.Ends := fun n => match n with | 2 => some ([], [0, 1]) | 12 => some ([], [0, 1, 7, 8]) | 14 => some ([], [4]) | 15 => some ([], [4]) | 26 => some ([], [0, 1, 7, 8]) | 104 => some ([], [0, 1, 7, 8, 9]) | 420 => some ([], [0, 1, 7, 8]) | 421 => some ([], []) | 423 => some ([], [0, 1, 7, 8]) | 1688 => some ([], [0, 1, 5, 7, 8]) | 3378 => some ([], [0, 1, 5, 7, 8, 16]) | 6759 => some ([], [0, 1, 7, 8]) | 13516 => some ([], [4]) | 13517 => some ([], [4]) | _ => none
noncomputable def slices_Index_int8_int8_b : Code := Try.f60.body.getD .skip
theorem slices_Index_int8_int8_tab : TabOk Ground_value slices_Index_int8_int8_ct slices_Index_int8_int8_en slices_Index_int8_int8_b := by
  intro n E hn f c hs x k h
  unfold slices_Index_int8_int8_ct at hn
  split at hn
  · cases hn; exact tab_loop2 hs (by kernel_rfl) (fun y : Int => ⟨[(0, .fz false (.int .i8) x.1.1), (1, .pl (.int .i8 x.1.2.1)), (7, .pl (.int .i64 x.1.2.2.1)), (8, .pl (.int .i64 y))], []⟩) x.1.2.2.2.1 (by kernel_rfl) (fun y X => by kernel_rfl) h.it
  · cases hn
def slices_Index_int8_int8_sh : List Sh := [.lf (.fz false (.int .i8)), .lf (.int .i8)]
def slices_Index_int8_int8_d (x : denS slices_Index_int8_int8_sh) (Q : List (Bool × List VV) → Prop) : Prop := slices_Index_int8_int8 x.1 x.2.1 (fun (r : Int) => Q (slotsA [(false, (.int .i64))] [.n] (r, ())))
theorem slices_Index_int8_int8_snd (x : denS slices_Index_int8_int8_sh) (Q : List (Bool × List VV) → Prop) (h : slices_Index_int8_int8_d x Q) : Sound Try.prog 60 (packS slices_Index_int8_int8_sh x) Q :=
  vfun_told [.n] (G := Ground_value) (ct := slices_Index_int8_int8_ct) (en := slices_Index_int8_int8_en) (fn := Try.f60) (cd := slices_Index_int8_int8_b) (rt := [(false, (.int .i64))]) Try.func60 (by kernel_rfl) (by kernel_rfl) (Nat.le_of_ble_eq_true rfl) slices_Index_int8_int8_tab Oround_value_ok h.it (by kernel_rfl)
noncomputable def Oslices_Index_int8_int8 : FuncId → List VV → (List (Bool × List VV) → Prop) → Prop := fun f args Q => if f = 60 then unA slices_Index_int8_int8_sh args (fun x => slices_Index_int8_int8_d x Q) else Oround_value f args Q
theorem Oslices_Index_int8_int8_ok : ∀ f args Q, Oslices_Index_int8_int8 f args Q → Sound Try.prog f args Q := tab_more Oround_value_ok (f0 := 60) slices_Index_int8_int8_sh (fun x Q => slices_Index_int8_int8_d x Q) slices_Index_int8_int8_snd
noncomputable def Gslices_Index_int8_int8 : Cfg := ⟨Try.prog, tt, Oslices_Index_int8_int8, fun _ _ _ => False⟩
def slices_Contains_int8_int8_t (a0 : List Int) (a1 : Int) (Q : Bool → Prop) : Prop :=
  slices_Index_int8_int8 a0 a1 (fun (r1 : Int) => Q (decide (0 ≤ r1)))
structure slices_Contains_int8_int8 (a0 : List Int) (a1 : Int) (Q : Bool → Prop) : Prop where
  it : slices_Contains_int8_int8_t a0 a1 Q
noncomputable def slices_Contains_int8_int8_ct : Tab := fun n => none
noncomputable def slices_Contains_int8_int8_en : Go.Mach.Ends := fun n => match n with | 2 => some ([], [0, 1]) | 6 => some ([], [4]) | 7 => some ([], [4]) | _ => none
noncomputable def slices_Contains_int8_int8_b : Code := Try.f46.body.getD .skip
theorem slices_Contains_int8_int8_tab : TabOk Gslices_Index_int8_int8 slices_Contains_int8_int8_ct slices_Contains_int8_int8_en slices_Contains_int8_int8_b := by
  intro n E hn f c hs x k h
  cases hn
def slices_Contains_int8_int8_sh : List Sh := [.lf (.fz false (.int .i8)), .lf (.int .i8)]
def slices_Contains_int8_int8_d (x : denS slices_Contains_int8_int8_sh) (Q : List (Bool × List VV) → Prop) : Prop := slices_Contains_int8_int8 x.1 x.2.1 (fun (r : Bool) => Q (slotsA [(false, .bool)] [.n] (r, ())))
theorem slices_Contains_int8_int8_snd (x : denS slices_Contains_int8_int8_sh) (Q : List (Bool × List VV) → Prop) (h : slices_Contains_int8_int8_d x Q) : Sound Try.prog 46 (packS slices_Contains_int8_int8_sh x) Q :=
  vfun_told [.n] (G := Gslices_Index_int8_int8) (ct := slices_Contains_int8_int8_ct) (en := slices_Contains_int8_int8_en) (fn := Try.f46) (cd := slices_Contains_int8_int8_b) (rt := [(false, .bool)]) Try.func46 (by kernel_rfl) (by kernel_rfl) (Nat.le_of_ble_eq_true rfl) slices_Contains_int8_int8_tab Oslices_Index_int8_int8_ok h.it (by kernel_rfl)
noncomputable def Oslices_Contains_int8_int8 : FuncId → List VV → (List (Bool × List VV) → Prop) → Prop := fun f args Q => if f = 46 then unA slices_Contains_int8_int8_sh args (fun x => slices_Contains_int8_int8_d x Q) else Oslices_Index_int8_int8 f args Q
theorem Oslices_Contains_int8_int8_ok : ∀ f args Q, Oslices_Contains_int8_int8 f args Q → Sound Try.prog f args Q := tab_more Oslices_Index_int8_int8_ok (f0 := 46) slices_Contains_int8_int8_sh (fun x Q => slices_Contains_int8_int8_d x Q) slices_Contains_int8_int8_snd
noncomputable def Gslices_Contains_int8_int8 : Cfg := ⟨Try.prog, tt, Oslices_Contains_int8_int8, fun _ _ _ => False⟩
def tensor_May_t (a0 : (List Int) × Int × List Int) (Q : Bool → Prop) : Prop :=
  shape_May a0.1 (fun (r1 : Bool) => jn (fun (v2 : Bool) => jn (fun (v5 : Bool) => jn (fun (v8 : Bool) => Q v8) (fun J9 => if v5 = true then slices_Contains_int8_int8 a0.2.2 (-128) (fun (r10 : Bool) => J9 (!r10)) else J9 false)) (fun J6 => if v2 = true then tensor_exp a0.2.1 64 (fun (r7 : Bool) => J6 r7) else J6 false)) (fun J3 => if r1 = true then shape_Size a0.1 (fun (r4 : Int) => J3 ((a0.2.2.length : Int) == r4)) else J3 false))
structure tensor_May (a0 : (List Int) × Int × List Int) (Q : Bool → Prop) : Prop where
  it : tensor_May_t a0 Q
noncomputable def tensor_May_ct : Tab := fun n => none
noncomputable def tensor_May_en : Go.Mach.Ends := fun n => match n with | 2 => some ([], [1]) | 6 => some ([], [2]) | 7 => some ([], [2]) | _ => none
noncomputable def tensor_May_b : Code := Try.f24.body.getD .skip
theorem tensor_May_tab : TabOk Gslices_Contains_int8_int8 tensor_May_ct tensor_May_en tensor_May_b := by
  intro n E hn f c hs x k h
  cases hn
def tensor_May_sh : List Sh := [.agg [.fz false (.int .i64), .int .i64, .fz false (.int .i8)]]
def tensor_May_d (x : denS tensor_May_sh) (Q : List (Bool × List VV) → Prop) : Prop := tensor_May (x.1.1, (x.1.2.1, x.1.2.2.1)) (fun (r : Bool) => Q (slotsA [(false, .bool)] [.n] (r, ())))
theorem tensor_May_snd (x : denS tensor_May_sh) (Q : List (Bool × List VV) → Prop) (h : tensor_May_d x Q) : Sound Try.prog 24 (packS tensor_May_sh x) Q :=
  vfun_told [.n] (G := Gslices_Contains_int8_int8) (ct := tensor_May_ct) (en := tensor_May_en) (fn := Try.f24) (cd := tensor_May_b) (rt := [(false, .bool)]) Try.func24 (by kernel_rfl) (by kernel_rfl) (Nat.le_of_ble_eq_true rfl) tensor_May_tab Oslices_Contains_int8_int8_ok h.it (by kernel_rfl)
noncomputable def Otensor_May : FuncId → List VV → (List (Bool × List VV) → Prop) → Prop := fun f args Q => if f = 24 then unA tensor_May_sh args (fun x => tensor_May_d x Q) else Oslices_Contains_int8_int8 f args Q
theorem Otensor_May_ok : ∀ f args Q, Otensor_May f args Q → Sound Try.prog f args Q := tab_more Oslices_Contains_int8_int8_ok (f0 := 24) tensor_May_sh (fun x Q => tensor_May_d x Q) tensor_May_snd
noncomputable def Gtensor_May : Cfg := ⟨Try.prog, tt, Otensor_May, fun _ _ _ => False⟩
def round_Align_t (a0 : Int) (a1 : Int) (a2 : Int) (Q : Int → Prop) : Prop :=
  round_value a0 (fun (r1 : Int) => round_between_int a1 (-1000) 1000 (fun (r2 : Int) => round_between_int a2 (-1000) 1000 (fun (r3 : Int) => if (decide ((IntKind.i64.wrap (r2 - r3)) < 0)) = true then ck ((0 : Int) ≤ (smaller (IntKind.i64.wrap (0 - (IntKind.i64.wrap (r2 - r3)))) 62)) (Q ((r1).fdiv (2 ^ (min (smaller (IntKind.i64.wrap (0 - (IntKind.i64.wrap (r2 - r3)))) 62).toNat (IntKind.i64).bits)))) else if ((decide (20 < (IntKind.i64.wrap (r2 - r3)))) && (decide (0 < r1))) = true then Q 1048576 else if ((decide (20 < (IntKind.i64.wrap (r2 - r3)))) && (decide (r1 < 0))) = true then Q (-1048576) else if (decide (20 < (IntKind.i64.wrap (r2 - r3)))) = true then Q 0 else round_between_int64 r1 (-1048576) 1048576 (fun (r4 : Int) => ck ((0 : Int) ≤ (IntKind.i64.wrap (r2 - r3))) (round_between_int64 (IntKind.i64.wrap (r4 * 2 ^ (min (IntKind.i64.wrap (r2 - r3)).toNat (IntKind.i64).bits))) (-1048576) 1048576 (fun (r5 : Int) => Q r5))))))
structure round_Align (a0 : Int) (a1 : Int) (a2 : Int) (Q : Int → Prop) : Prop where
  it : round_Align_t a0 a1 a2 Q
noncomputable def round_Align_ct : Tab := fun n => none
noncomputable def round_Align_en : Go.Mach.Ends := fun n => match n with | 2 => some ([], [0, 1, 2]) | 6 => some ([], [0, 1, 2]) | 14 => some ([], [0, 7]) | 62 => some ([], [6]) | 63 => some ([], [6]) | 120 => some ([], [0, 7, 15]) | 484 => some ([], [6]) | 485 => some ([], [6]) | 486 => some ([], [0, 7, 23]) | 1948 => some ([], [6]) | 1949 => some ([], [6]) | 1950 => some ([], [0, 7, 30]) | 7804 => some ([], [6]) | 7805 => some ([], [6]) | 7806 => some ([], [0, 7, 37]) | 15615 => some ([], [0, 7]) | 31228 => some ([], [6]) | 31229 => some ([], [6]) | _ => none
noncomputable def round_Align_b : Code := Try.f29.body.getD .skip
theorem round_Align_tab : TabOk Gtensor_May round_Align_ct round_Align_en round_Align_b := by
  intro n E hn f c hs x k h
  cases hn
def round_Align_sh : List Sh := [.lf (.int .i64), .lf (.int .i64), .lf (.int .i64)]
def round_Align_d (x : denS round_Align_sh) (Q : List (Bool × List VV) → Prop) : Prop := round_Align x.1 x.2.1 x.2.2.1 (fun (r : Int) => Q (slotsA [(false, (.int .i64))] [.n] (r, ())))
theorem round_Align_snd (x : denS round_Align_sh) (Q : List (Bool × List VV) → Prop) (h : round_Align_d x Q) : Sound Try.prog 29 (packS round_Align_sh x) Q :=
  vfun_told [.n] (G := Gtensor_May) (ct := round_Align_ct) (en := round_Align_en) (fn := Try.f29) (cd := round_Align_b) (rt := [(false, (.int .i64))]) Try.func29 (by kernel_rfl) (by kernel_rfl) (Nat.le_of_ble_eq_true rfl) round_Align_tab Otensor_May_ok h.it (by kernel_rfl)
noncomputable def Oround_Align : FuncId → List VV → (List (Bool × List VV) → Prop) → Prop := fun f args Q => if f = 29 then unA round_Align_sh args (fun x => round_Align_d x Q) else Otensor_May f args Q
theorem Oround_Align_ok : ∀ f args Q, Oround_Align f args Q → Sound Try.prog f args Q := tab_more Otensor_May_ok (f0 := 29) round_Align_sh (fun x Q => round_Align_d x Q) round_Align_snd
noncomputable def Ground_Align : Cfg := ⟨Try.prog, tt, Oround_Align, fun _ _ _ => False⟩
def shape_in_t (a0 : Int) (a1 : Int) (a2 : Int) (Q : Bool → Prop) : Prop :=
  Q ((decide (a1 ≤ a0)) && (decide (a0 ≤ a2)))
structure shape_in (a0 : Int) (a1 : Int) (a2 : Int) (Q : Bool → Prop) : Prop where
  it : shape_in_t a0 a1 a2 Q
noncomputable def shape_in_ct : Tab := fun n => none
noncomputable def shape_in_en : Go.Mach.Ends := fun n => match n with | 2 => some ([], [0, 1, 2]) | 6 => some ([], [6]) | 7 => some ([], [6]) | _ => none
noncomputable def shape_in_b : Code := Try.f61.body.getD .skip
theorem shape_in_tab : TabOk Ground_Align shape_in_ct shape_in_en shape_in_b := by
  intro n E hn f c hs x k h
  cases hn
def shape_in_sh : List Sh := [.lf (.int .i64), .lf (.int .i64), .lf (.int .i64)]
def shape_in_d (x : denS shape_in_sh) (Q : List (Bool × List VV) → Prop) : Prop := shape_in x.1 x.2.1 x.2.2.1 (fun (r : Bool) => Q (slotsA [(false, .bool)] [.n] (r, ())))
theorem shape_in_snd (x : denS shape_in_sh) (Q : List (Bool × List VV) → Prop) (h : shape_in_d x Q) : Sound Try.prog 61 (packS shape_in_sh x) Q :=
  vfun_told [.n] (G := Ground_Align) (ct := shape_in_ct) (en := shape_in_en) (fn := Try.f61) (cd := shape_in_b) (rt := [(false, .bool)]) Try.func61 (by kernel_rfl) (by kernel_rfl) (Nat.le_of_ble_eq_true rfl) shape_in_tab Oround_Align_ok h.it (by kernel_rfl)
noncomputable def Oshape_in : FuncId → List VV → (List (Bool × List VV) → Prop) → Prop := fun f args Q => if f = 61 then unA shape_in_sh args (fun x => shape_in_d x Q) else Oround_Align f args Q
theorem Oshape_in_ok : ∀ f args Q, Oshape_in f args Q → Sound Try.prog f args Q := tab_more Oround_Align_ok (f0 := 61) shape_in_sh (fun x Q => shape_in_d x Q) shape_in_snd
noncomputable def Gshape_in : Cfg := ⟨Try.prog, tt, Oshape_in, fun _ _ _ => False⟩
def shape_Out_t (a0 : Int) (a1 : Int) (a2 : Int) (a3 : Int) (Q : Int → Prop) : Prop :=
  shape_in a0 1 16 (fun (r1 : Bool) => jn (fun (v2 : Bool) => jn (fun (v5 : Bool) => jn (fun (v8 : Bool) => if (v8 || (decide ((IntKind.i64.wrap (a0 + (IntKind.i64.wrap (2 * a3)))) < a1))) = true then Q 0 else ck (a2 ≠ (0 : Int)) (Q (IntKind.i64.wrap ((IntKind.i64.wrap ((IntKind.i64.wrap ((IntKind.i64.wrap (a0 + (IntKind.i64.wrap (2 * a3)))) - a1)).tdiv a2)) + 1)))) (fun J9 => if v5 = true then J9 true else shape_in a3 0 (IntKind.i64.wrap (a1 - 1)) (fun (r10 : Bool) => J9 (!r10)))) (fun J6 => if v2 = true then J6 true else shape_in a2 1 4 (fun (r7 : Bool) => J6 (!r7)))) (fun J3 => if (!r1) = true then J3 true else shape_in a1 1 5 (fun (r4 : Bool) => J3 (!r4))))
structure shape_Out (a0 : Int) (a1 : Int) (a2 : Int) (a3 : Int) (Q : Int → Prop) : Prop where
  it : shape_Out_t a0 a1 a2 a3 Q
noncomputable def shape_Out_ct : Tab := fun n => none
noncomputable def shape_Out_en : Go.Mach.Ends := fun n => match n with | 2 => some ([], [0, 1, 2, 3]) | 12 => some ([], [0, 1, 2, 3, 36]) | 14 => some ([], [8]) | 15 => some ([], [8]) | 27 => some ([], [0, 1, 2, 3]) | 52 => some ([], [8]) | 53 => some ([], [8]) | _ => none
noncomputable def shape_Out_b : Code := Try.f47.body.getD .skip
theorem shape_Out_tab : TabOk Gshape_in shape_Out_ct shape_Out_en shape_Out_b := by
  intro n E hn f c hs x k h
  cases hn
def shape_Out_sh : List Sh := [.lf (.int .i64), .lf (.int .i64), .lf (.int .i64), .lf (.int .i64)]
def shape_Out_d (x : denS shape_Out_sh) (Q : List (Bool × List VV) → Prop) : Prop := shape_Out x.1 x.2.1 x.2.2.1 x.2.2.2.1 (fun (r : Int) => Q (slotsA [(false, (.int .i64))] [.n] (r, ())))
theorem shape_Out_snd (x : denS shape_Out_sh) (Q : List (Bool × List VV) → Prop) (h : shape_Out_d x Q) : Sound Try.prog 47 (packS shape_Out_sh x) Q :=
  vfun_told [.n] (G := Gshape_in) (ct := shape_Out_ct) (en := shape_Out_en) (fn := Try.f47) (cd := shape_Out_b) (rt := [(false, (.int .i64))]) Try.func47 (by kernel_rfl) (by kernel_rfl) (Nat.le_of_ble_eq_true rfl) shape_Out_tab Oshape_in_ok h.it (by kernel_rfl)
noncomputable def Oshape_Out : FuncId → List VV → (List (Bool × List VV) → Prop) → Prop := fun f args Q => if f = 47 then unA shape_Out_sh args (fun x => shape_Out_d x Q) else Oshape_in f args Q
theorem Oshape_Out_ok : ∀ f args Q, Oshape_Out f args Q → Sound Try.prog f args Q := tab_more Oshape_in_ok (f0 := 47) shape_Out_sh (fun x Q => shape_Out_d x Q) shape_Out_snd
noncomputable def Gshape_Out : Cfg := ⟨Try.prog, tt, Oshape_Out, fun _ _ _ => False⟩
def place_in_t (a0 : Int) (a1 : Int) (a2 : Int) (Q : Bool → Prop) : Prop :=
  Q ((decide (a1 ≤ a0)) && (decide (a0 ≤ a2)))
structure place_in (a0 : Int) (a1 : Int) (a2 : Int) (Q : Bool → Prop) : Prop where
  it : place_in_t a0 a1 a2 Q
noncomputable def place_in_ct : Tab := fun n => none
noncomputable def place_in_en : Go.Mach.Ends := fun n => match n with | 2 => some ([], [0, 1, 2]) | 6 => some ([], [6]) | 7 => some ([], [6]) | _ => none
noncomputable def place_in_b : Code := Try.f63.body.getD .skip
theorem place_in_tab : TabOk Gshape_Out place_in_ct place_in_en place_in_b := by
  intro n E hn f c hs x k h
  cases hn
def place_in_sh : List Sh := [.lf (.int .i64), .lf (.int .i64), .lf (.int .i64)]
def place_in_d (x : denS place_in_sh) (Q : List (Bool × List VV) → Prop) : Prop := place_in x.1 x.2.1 x.2.2.1 (fun (r : Bool) => Q (slotsA [(false, .bool)] [.n] (r, ())))
theorem place_in_snd (x : denS place_in_sh) (Q : List (Bool × List VV) → Prop) (h : place_in_d x Q) : Sound Try.prog 63 (packS place_in_sh x) Q :=
  vfun_told [.n] (G := Gshape_Out) (ct := place_in_ct) (en := place_in_en) (fn := Try.f63) (cd := place_in_b) (rt := [(false, .bool)]) Try.func63 (by kernel_rfl) (by kernel_rfl) (Nat.le_of_ble_eq_true rfl) place_in_tab Oshape_Out_ok h.it (by kernel_rfl)
noncomputable def Oplace_in : FuncId → List VV → (List (Bool × List VV) → Prop) → Prop := fun f args Q => if f = 63 then unA place_in_sh args (fun x => place_in_d x Q) else Oshape_Out f args Q
theorem Oplace_in_ok : ∀ f args Q, Oplace_in f args Q → Sound Try.prog f args Q := tab_more Oshape_Out_ok (f0 := 63) place_in_sh (fun x Q => place_in_d x Q) place_in_snd
noncomputable def Gplace_in : Cfg := ⟨Try.prog, tt, Oplace_in, fun _ _ _ => False⟩
def place_Of_t (a0 : Int) (a1 : Int) (Q : (Nat × Nat) → Prop) : Prop :=
  place_in a0 (-1000) 1000 (fun (r1 : Bool) => jn (fun (v2 : Bool) => if v2 = true then Q (0, 0) else Q (floatOfInt .f64 a0, floatOfInt .f64 a1)) (fun J3 => if (!r1) = true then J3 true else place_in a1 (-1000) 1000 (fun (r4 : Bool) => J3 (!r4))))
structure place_Of (a0 : Int) (a1 : Int) (Q : (Nat × Nat) → Prop) : Prop where
  it : place_Of_t a0 a1 Q
noncomputable def place_Of_ct : Tab := fun n => none
noncomputable def place_Of_en : Go.Mach.Ends := fun n => match n with | 2 => some ([], [0, 1]) | 12 => some ([], [0, 1, 12]) | 14 => some ([], [4]) | 15 => some ([], [4]) | 27 => some ([], [0, 1]) | 52 => some ([], [4]) | 53 => some ([], [4]) | _ => none
noncomputable def place_Of_b : Code := Try.f65.body.getD .skip
theorem place_Of_tab : TabOk Gplace_in place_Of_ct place_Of_en place_Of_b := by
  intro n E hn f c hs x k h
  cases hn
def place_Of_sh : List Sh := [.lf (.int .i64), .lf (.int .i64)]
def place_Of_d (x : denS place_Of_sh) (Q : List (Bool × List VV) → Prop) : Prop := place_Of x.1 x.2.1 (fun (r : Nat × Nat) => Q (slotsA [(false, .cpx)] [.n] (r, ())))
theorem place_Of_snd (x : denS place_Of_sh) (Q : List (Bool × List VV) → Prop) (h : place_Of_d x Q) : Sound Try.prog 65 (packS place_Of_sh x) Q :=
  vfun_told [.n] (G := Gplace_in) (ct := place_Of_ct) (en := place_Of_en) (fn := Try.f65) (cd := place_Of_b) (rt := [(false, .cpx)]) Try.func65 (by kernel_rfl) (by kernel_rfl) (Nat.le_of_ble_eq_true rfl) place_Of_tab Oplace_in_ok h.it (by kernel_rfl)
noncomputable def Oplace_Of : FuncId → List VV → (List (Bool × List VV) → Prop) → Prop := fun f args Q => if f = 65 then unA place_Of_sh args (fun x => place_Of_d x Q) else Oplace_in f args Q
theorem Oplace_Of_ok : ∀ f args Q, Oplace_Of f args Q → Sound Try.prog f args Q := tab_more Oplace_in_ok (f0 := 65) place_Of_sh (fun x Q => place_Of_d x Q) place_Of_snd
noncomputable def Gplace_Of : Cfg := ⟨Try.prog, tt, Oplace_Of, fun _ _ _ => False⟩
def place_whole_t (a0 : Nat) (Q : (Int × Bool) → Prop) : Prop :=
  if (!(((FloatKind.f64.format.order a0 13875379345695965184 == some Ordering.gt) || (FloatKind.f64.format.order a0 13875379345695965184 == some Ordering.eq)) && ((FloatKind.f64.format.order a0 4652007308841189376 == some Ordering.lt) || (FloatKind.f64.format.order a0 4652007308841189376 == some Ordering.eq)))) = true then Q (0, false) else got (floatToIntVal .f64 a0 .i64) (fun (r1 : Int) => Q (r1, FloatKind.f64.format.order (floatOfInt .f64 r1) a0 == some Ordering.eq))
structure place_whole (a0 : Nat) (Q : (Int × Bool) → Prop) : Prop where
  it : place_whole_t a0 Q
noncomputable def place_whole_ct : Tab := fun n => none
noncomputable def place_whole_en : Go.Mach.Ends := fun n => match n with | 2 => some ([], [0]) | 12 => some ([], [0, 11]) | 14 => some ([], [0, 4]) | 27 => some ([], [0]) | 30 => some ([], [2, 3]) | 31 => some ([], [2, 3]) | 52 => some ([], [2, 3]) | 53 => some ([], [2, 3]) | _ => none
noncomputable def place_whole_b : Code := Try.f67.body.getD .skip
theorem place_whole_tab : TabOk Gplace_Of place_whole_ct place_whole_en place_whole_b := by
  intro n E hn f c hs x k h
  cases hn
def place_whole_sh : List Sh := [.lf (.flt)]
def place_whole_d (x : denS place_whole_sh) (Q : List (Bool × List VV) → Prop) : Prop := place_whole x.1 (fun (r : Int × Bool) => Q (slotsA [(false, (.int .i64)), (false, .bool)] [.n, .n] (r.1, (r.2, ()))))
theorem place_whole_snd (x : denS place_whole_sh) (Q : List (Bool × List VV) → Prop) (h : place_whole_d x Q) : Sound Try.prog 67 (packS place_whole_sh x) Q :=
  vfun_told [.n, .n] (G := Gplace_Of) (ct := place_whole_ct) (en := place_whole_en) (fn := Try.f67) (cd := place_whole_b) (rt := [(false, (.int .i64)), (false, .bool)]) Try.func67 (by kernel_rfl) (by kernel_rfl) (Nat.le_of_ble_eq_true rfl) place_whole_tab Oplace_Of_ok h.it (by kernel_rfl)
noncomputable def Oplace_whole : FuncId → List VV → (List (Bool × List VV) → Prop) → Prop := fun f args Q => if f = 67 then unA place_whole_sh args (fun x => place_whole_d x Q) else Oplace_Of f args Q
theorem Oplace_whole_ok : ∀ f args Q, Oplace_whole f args Q → Sound Try.prog f args Q := tab_more Oplace_Of_ok (f0 := 67) place_whole_sh (fun x Q => place_whole_d x Q) place_whole_snd
noncomputable def Gplace_whole : Cfg := ⟨Try.prog, tt, Oplace_whole, fun _ _ _ => False⟩
def place_To_t (a0 : Nat × Nat) (Q : (Int × Int × Bool) → Prop) : Prop :=
  place_whole a0.1 (fun (r1 : Int × Bool) => place_whole a0.2 (fun (r2 : Int × Bool) => if ((!r1.2) || (!r2.2)) = true then Q (0, 0, false) else Q (r1.1, r2.1, true)))
structure place_To (a0 : Nat × Nat) (Q : (Int × Int × Bool) → Prop) : Prop where
  it : place_To_t a0 Q
noncomputable def place_To_ct : Tab := fun n => none
noncomputable def place_To_en : Go.Mach.Ends := fun n => match n with | 2 => some ([], [0]) | 6 => some ([], [0, 5, 6]) | 14 => some ([], [5, 6, 7, 8]) | 60 => some ([], [5, 7, 26]) | 62 => some ([], [2, 3, 4]) | 63 => some ([], [2, 3, 4]) | 123 => some ([], [5, 7]) | 244 => some ([], [2, 3, 4]) | 245 => some ([], [2, 3, 4]) | _ => none
noncomputable def place_To_b : Code := Try.f66.body.getD .skip
theorem place_To_tab : TabOk Gplace_whole place_To_ct place_To_en place_To_b := by
  intro n E hn f c hs x k h
  cases hn
def place_To_sh : List Sh := [.lf (.cpx)]
def place_To_d (x : denS place_To_sh) (Q : List (Bool × List VV) → Prop) : Prop := place_To x.1 (fun (r : Int × Int × Bool) => Q (slotsA [(false, (.int .i64)), (false, (.int .i64)), (false, .bool)] [.n, .n, .n] (r.1, (r.2.1, (r.2.2, ())))))
theorem place_To_snd (x : denS place_To_sh) (Q : List (Bool × List VV) → Prop) (h : place_To_d x Q) : Sound Try.prog 66 (packS place_To_sh x) Q :=
  vfun_told [.n, .n, .n] (G := Gplace_whole) (ct := place_To_ct) (en := place_To_en) (fn := Try.f66) (cd := place_To_b) (rt := [(false, (.int .i64)), (false, (.int .i64)), (false, .bool)]) Try.func66 (by kernel_rfl) (by kernel_rfl) (Nat.le_of_ble_eq_true rfl) place_To_tab Oplace_whole_ok h.it (by kernel_rfl)
noncomputable def Oplace_To : FuncId → List VV → (List (Bool × List VV) → Prop) → Prop := fun f args Q => if f = 66 then unA place_To_sh args (fun x => place_To_d x Q) else Oplace_whole f args Q
theorem Oplace_To_ok : ∀ f args Q, Oplace_To f args Q → Sound Try.prog f args Q := tab_more Oplace_whole_ok (f0 := 66) place_To_sh (fun x Q => place_To_d x Q) place_To_snd
noncomputable def Gplace_To : Cfg := ⟨Try.prog, tt, Oplace_To, fun _ _ _ => False⟩
end Go.Proofs.Ytmleeffinagncaa
