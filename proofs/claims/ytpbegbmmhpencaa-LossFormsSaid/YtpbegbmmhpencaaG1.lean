/- Plain texts of functions, as the value machine comes to them. No condition. -/
import Derived.Test.YtpbegbmmhpencaaVClo
import Derived.Test.YtpbegbmmhpencaaProg
import Derived.KernelRfl
namespace Go.Proofs.Ytpbegbmmhpencaa
open Go.Mach
set_option maxRecDepth 100000
set_option linter.unusedVariables false
noncomputable def tt : TypeId → Option Ty := fun t => match t with
  | 2 => some (.int .i64)
  | 3 => some (.int .i64)
  | 4 => some .bool
  | 5 => some (.int .u8)
  | 6 => some (.int .u8)
  | 7 => some (.pair (.int .i64) (.pair (.int .i64) (.pair .bool (.int .u8))))
  | 8 => some (.pair (.int .i64) (.pair (.int .i64) (.pair .bool (.int .u8))))
  | 9 => some .str
  | 10 => some .str
  | 11 => some .str
  | 12 => some (.int .u64)
  | 13 => some (.pair .str (.int .u64))
  | 14 => some (.pair .str (.int .u64))
  | 21 => some (.int .i32)
  | 22 => some (.slc (.int .i8))
  | 23 => some (.int .i8)
  | 24 => some (.slc (.int .i64))
  | 30 => some (.pair (.slc (.int .i64)) (.pair (.int .i64) (.slc (.int .i8))))
  | 31 => some (.pair (.slc (.int .i64)) (.pair (.int .i64) (.slc (.int .i8))))
  | 32 => some (.int .u64)
  | 33 => some (.int .i64)
  | 46 => some (.slc (.slc (.int .i8)))
  | 54 => some (.int .u64)
  | 74 => some (.int .u32)
  | 75 => some (.int .u8)
  | 76 => some (.int .u8)
  | 79 => some (.int .i32)
  | 80 => some (.int .i32)
  | _ => none
noncomputable def O_ : FuncId → List VV → (List (Bool × List VV) → Prop) → Prop := fun _ _ _ => False
theorem O__ok : ∀ f args Q, O_ f args Q → Sound Try.prog f args Q := fun _ _ _ h => h.elim
noncomputable def G_ : Cfg := ⟨Try.prog, tt, O_, fun _ _ _ => False⟩
def shape_Size_n0_B (x1 : List Int) (x2 : Int) (K0 : Int → Prop) (K1 : Unit → Prop) (s : Int × Int) (nx : (Int × Int) → Prop) : Prop :=
  if (decide (s.2 < x2)) = true then ck ((0 : Int) ≤ s.2 ∧ s.2 < (x1.length : Int)) (if (((decide ((x1.getD ((s.2).toNat) 0) < 1)) || (decide (4096 < (x1.getD ((s.2).toNat) 0)))) || (decide (8192 < (IntKind.i64.wrap (s.1 * (x1.getD ((s.2).toNat) 0)))))) = true then K1 () else nx (IntKind.i64.wrap (s.1 * (x1.getD ((s.2).toNat) 0)), IntKind.i64.wrap (s.2 + 1))) else K0 s.1
structure shape_Size_n0 (x1 : List Int) (x2 : Int) (K0 : Int → Prop) (K1 : Unit → Prop) (s : Int × Int) : Prop where
  it : Go.Mach.Loop (shape_Size_n0_B x1 x2 K0 K1) s
def shape_Size_t (a0 : List Int) (Q : Int → Prop) : Prop :=
  if ((decide ((a0.length : Int) < 1)) || (decide (4 < (a0.length : Int)))) = true then Q 0 else shape_Size_n0 a0 (a0.length : Int) (fun (y1 : Int) => Q y1) (fun (y2 : Unit) => Q 0) (1, 0)
structure shape_Size (a0 : List Int) (Q : Int → Prop) : Prop where
  it : shape_Size_t a0 Q
noncomputable def shape_Size_e0 : Ent := ⟨[3, 14, 15, 16], [.lf (.int .i64), .lf (.fz false (.int .i64)), .lf (.int .i64), .lf (.int .i64)], [], fun x k => shape_Size_n0 x.1.2.1 x.1.2.2.1 (fun (y3 : Int) => k (.exit 0) ⟨[(3, .pl (.int .i64 y3))], []⟩) (fun (y4 : Unit) => k .ret ⟨[(2, .pl (.int .i64 0))], []⟩) (x.1.1, x.1.2.2.2.1)⟩
noncomputable def shape_Size_ct : Tab := fun n => match n with | 122 => some shape_Size_e0 | _ => none
noncomputable def shape_Size_en : Go.Mach.Ends := fun n => match n with | 2 => some ([], [0]) | 12 => some ([], [0, 13]) | 14 => some ([], [0, 3]) | 27 => some ([], [0]) | 52 => some ([], [2]) | 53 => some ([], [2]) | 60 => some ([], [3, 14, 15, 16]) | 62 => some ([], [2]) | 63 => some ([], [2]) | 122 => some ([], [3, 14, 15, 16]) | 488 => some ([], [3, 14, 15, 16, 17]) | 1956 => some ([], [3, 14, 15, 16]) | 1957 => some ([], [3]) | 1959 => some ([], [3, 14, 15, 16]) | 7832 => some ([], [3, 5, 14, 15, 16]) | 15667 => some ([], [3, 14, 15, 16]) | 31332 => some ([], [3, 5, 14, 15, 16, 31]) | 62667 => some ([], [3, 5, 14, 15, 16]) | 125332 => some ([], [2]) | 125333 => some ([], [2]) | _ => none
noncomputable def shape_Size_b : Code := Try.f33.body.getD .skip
theorem shape_Size_tab : TabOk G_ shape_Size_ct shape_Size_en shape_Size_b := by
  intro n E hn f c hs x k h
  unfold shape_Size_ct at hn
  split at hn
  · cases hn; exact tab_loop2 hs (by kernel_rfl) (fun y : Int × Int => ⟨[(3, .pl (.int .i64 y.1)), (14, .fz false (.int .i64) x.1.2.1), (15, .pl (.int .i64 x.1.2.2.1)), (16, .pl (.int .i64 y.2))], []⟩) (x.1.1, x.1.2.2.2.1) (by kernel_rfl) (fun y X => by kernel_rfl) h.it
  · cases hn
def shape_Size_sh : List Sh := [.lf (.fz false (.int .i64))]
def shape_Size_d (x : denS shape_Size_sh) (Q : List (Bool × List VV) → Prop) : Prop := shape_Size x.1 (fun (r : Int) => Q (slotsA [(false, (.int .i64))] [.n] (r, ())))
theorem shape_Size_snd (x : denS shape_Size_sh) (Q : List (Bool × List VV) → Prop) (h : shape_Size_d x Q) : Sound Try.prog 33 (packS shape_Size_sh x) Q :=
  vfun_told [.n] (G := G_) (ct := shape_Size_ct) (en := shape_Size_en) (fn := Try.f33) (cd := shape_Size_b) (rt := [(false, (.int .i64))]) Try.func33 (by kernel_rfl) (by kernel_rfl) (Nat.le_of_ble_eq_true rfl) shape_Size_tab O__ok h.it (by kernel_rfl)
noncomputable def Oshape_Size : FuncId → List VV → (List (Bool × List VV) → Prop) → Prop := fun f args Q => if f = 33 then unA shape_Size_sh args (fun x => shape_Size_d x Q) else O_ f args Q
theorem Oshape_Size_ok : ∀ f args Q, Oshape_Size f args Q → Sound Try.prog f args Q := tab_more O__ok (f0 := 33) shape_Size_sh (fun x Q => shape_Size_d x Q) shape_Size_snd
noncomputable def Gshape_Size : Cfg := ⟨Try.prog, tt, Oshape_Size, fun _ _ _ => False⟩
def shape_May_t (a0 : List Int) (Q : Bool → Prop) : Prop :=
  shape_Size a0 (fun (r1 : Int) => Q (decide (0 < r1)))
structure shape_May (a0 : List Int) (Q : Bool → Prop) : Prop where
  it : shape_May_t a0 Q
noncomputable def shape_May_ct : Tab := fun n => none
noncomputable def shape_May_en : Go.Mach.Ends := fun n => match n with | 2 => some ([], [0]) | 6 => some ([], [2]) | 7 => some ([], [2]) | _ => none
noncomputable def shape_May_b : Code := Try.f32.body.getD .skip
theorem shape_May_tab : TabOk Gshape_Size shape_May_ct shape_May_en shape_May_b := by
  intro n E hn f c hs x k h
  cases hn
def shape_May_sh : List Sh := [.lf (.fz false (.int .i64))]
def shape_May_d (x : denS shape_May_sh) (Q : List (Bool × List VV) → Prop) : Prop := shape_May x.1 (fun (r : Bool) => Q (slotsA [(false, .bool)] [.n] (r, ())))
theorem shape_May_snd (x : denS shape_May_sh) (Q : List (Bool × List VV) → Prop) (h : shape_May_d x Q) : Sound Try.prog 32 (packS shape_May_sh x) Q :=
  vfun_told [.n] (G := Gshape_Size) (ct := shape_May_ct) (en := shape_May_en) (fn := Try.f32) (cd := shape_May_b) (rt := [(false, .bool)]) Try.func32 (by kernel_rfl) (by kernel_rfl) (Nat.le_of_ble_eq_true rfl) shape_May_tab Oshape_Size_ok h.it (by kernel_rfl)
noncomputable def Oshape_May : FuncId → List VV → (List (Bool × List VV) → Prop) → Prop := fun f args Q => if f = 32 then unA shape_May_sh args (fun x => shape_May_d x Q) else Oshape_Size f args Q
theorem Oshape_May_ok : ∀ f args Q, Oshape_May f args Q → Sound Try.prog f args Q := tab_more Oshape_Size_ok (f0 := 32) shape_May_sh (fun x Q => shape_May_d x Q) shape_May_snd
noncomputable def Gshape_May : Cfg := ⟨Try.prog, tt, Oshape_May, fun _ _ _ => False⟩
def tensor_exp_t (a0 : Int) (a1 : Int) (Q : Bool → Prop) : Prop :=
  Q ((decide ((IntKind.i64.wrap (0 - a1)) ≤ a0)) && (decide (a0 ≤ a1)))
structure tensor_exp (a0 : Int) (a1 : Int) (Q : Bool → Prop) : Prop where
  it : tensor_exp_t a0 a1 Q
noncomputable def tensor_exp_ct : Tab := fun n => none
noncomputable def tensor_exp_en : Go.Mach.Ends := fun n => match n with | 2 => some ([], [0, 1]) | 6 => some ([], [4]) | 7 => some ([], [4]) | _ => none
noncomputable def tensor_exp_b : Code := Try.f34.body.getD .skip
theorem tensor_exp_tab : TabOk Gshape_May tensor_exp_ct tensor_exp_en tensor_exp_b := by
  intro n E hn f c hs x k h
  cases hn
def tensor_exp_sh : List Sh := [.lf (.int .i64), .lf (.int .i64)]
def tensor_exp_d (x : denS tensor_exp_sh) (Q : List (Bool × List VV) → Prop) : Prop := tensor_exp x.1 x.2.1 (fun (r : Bool) => Q (slotsA [(false, .bool)] [.n] (r, ())))
theorem tensor_exp_snd (x : denS tensor_exp_sh) (Q : List (Bool × List VV) → Prop) (h : tensor_exp_d x Q) : Sound Try.prog 34 (packS tensor_exp_sh x) Q :=
  vfun_told [.n] (G := Gshape_May) (ct := tensor_exp_ct) (en := tensor_exp_en) (fn := Try.f34) (cd := tensor_exp_b) (rt := [(false, .bool)]) Try.func34 (by kernel_rfl) (by kernel_rfl) (Nat.le_of_ble_eq_true rfl) tensor_exp_tab Oshape_May_ok h.it (by kernel_rfl)
noncomputable def Otensor_exp : FuncId → List VV → (List (Bool × List VV) → Prop) → Prop := fun f args Q => if f = 34 then unA tensor_exp_sh args (fun x => tensor_exp_d x Q) else Oshape_May f args Q
theorem Otensor_exp_ok : ∀ f args Q, Otensor_exp f args Q → Sound Try.prog f args Q := tab_more Oshape_May_ok (f0 := 34) tensor_exp_sh (fun x Q => tensor_exp_d x Q) tensor_exp_snd
noncomputable def Gtensor_exp : Cfg := ⟨Try.prog, tt, Otensor_exp, fun _ _ _ => False⟩
def slices_Index_int8_int8_n0_B (x0 : List Int) (x1 : Int) (x2 : Int) (K0 : Unit → Prop) (K1 : Int → Prop) (s : Int) (nx : Int → Prop) : Prop :=
  if (decide (s < x2)) = true then ck ((0 : Int) ≤ s ∧ s < (x0.length : Int)) (if (x1 == (x0.getD ((s).toNat) 0)) = true then K1 s else nx (IntKind.i64.wrap (s + 1))) else K0 ()
structure slices_Index_int8_int8_n0 (x0 : List Int) (x1 : Int) (x2 : Int) (K0 : Unit → Prop) (K1 : Int → Prop) (s : Int) : Prop where
  it : Go.Mach.Loop (slices_Index_int8_int8_n0_B x0 x1 x2 K0 K1) s
def slices_Index_int8_int8_t (a0 : List Int) (a1 : Int) (Q : Int → Prop) : Prop :=
  slices_Index_int8_int8_n0 a0 a1 (a0.length : Int) (fun (y1 : Unit) => Q (-1)) (fun (y2 : Int) => Q y2) 0
structure slices_Index_int8_int8 (a0 : List Int) (a1 : Int) (Q : Int → Prop) : Prop where
  it : slices_Index_int8_int8_t a0 a1 Q
noncomputable def slices_Index_int8_int8_e0 : Ent := ⟨[0, 1, 7, 8], [.lf (.fz false (.int .i8)), .lf (.int .i8), .lf (.int .i64), .lf (.int .i64)], [], fun x k => slices_Index_int8_int8_n0 x.1.1 x.1.2.1 x.1.2.2.1 (fun (y3 : Unit) => k (.exit 0) ⟨[], []⟩) (fun (y4 : Int) => k .ret ⟨[(4, .pl (.int .i64 y4))], []⟩) x.1.2.2.2.1⟩
noncomputable def slices_Index_int8_int8_ct : Tab := fun n => match n with | 26 => some slices_Index_int8_int8_e0 | _ => none
noncomputable def slices_Index_int8_int8_en : Go.Mach.Ends := fun n => match n with | 2 => some ([], [0, 1]) | 12 => some ([], [0, 1, 7, 8]) | 14 => some ([], [4]) | 15 => some ([], [4]) | 26 => some ([], [0, 1, 7, 8]) | 104 => some ([], [0, 1, 7, 8, 9]) | 420 => some ([], [0, 1, 7, 8]) | 421 => some ([], []) | 423 => some ([], [0, 1, 7, 8]) | 1688 => some ([], [0, 1, 5, 7, 8]) | 3378 => some ([], [0, 1, 5, 7, 8, 16]) | 6759 => some ([], [0, 1, 7, 8]) | 13516 => some ([], [4]) | 13517 => some ([], [4]) | _ => none
noncomputable def slices_Index_int8_int8_b : Code := Try.f30.body.getD .skip
theorem slices_Index_int8_int8_tab : TabOk Gtensor_exp slices_Index_int8_int8_ct slices_Index_int8_int8_en slices_Index_int8_int8_b := by
  intro n E hn f c hs x k h
  unfold slices_Index_int8_int8_ct at hn
  split at hn
  · cases hn; exact tab_loop2 hs (by kernel_rfl) (fun y : Int => ⟨[(0, .fz false (.int .i8) x.1.1), (1, .pl (.int .i8 x.1.2.1)), (7, .pl (.int .i64 x.1.2.2.1)), (8, .pl (.int .i64 y))], []⟩) x.1.2.2.2.1 (by kernel_rfl) (fun y X => by kernel_rfl) h.it
  · cases hn
def slices_Index_int8_int8_sh : List Sh := [.lf (.fz false (.int .i8)), .lf (.int .i8)]
def slices_Index_int8_int8_d (x : denS slices_Index_int8_int8_sh) (Q : List (Bool × List VV) → Prop) : Prop := slices_Index_int8_int8 x.1 x.2.1 (fun (r : Int) => Q (slotsA [(false, (.int .i64))] [.n] (r, ())))
theorem slices_Index_int8_int8_snd (x : denS slices_Index_int8_int8_sh) (Q : List (Bool × List VV) → Prop) (h : slices_Index_int8_int8_d x Q) : Sound Try.prog 30 (packS slices_Index_int8_int8_sh x) Q :=
  vfun_told [.n] (G := Gtensor_exp) (ct := slices_Index_int8_int8_ct) (en := slices_Index_int8_int8_en) (fn := Try.f30) (cd := slices_Index_int8_int8_b) (rt := [(false, (.int .i64))]) Try.func30 (by kernel_rfl) (by kernel_rfl) (Nat.le_of_ble_eq_true rfl) slices_Index_int8_int8_tab Otensor_exp_ok h.it (by kernel_rfl)
noncomputable def Oslices_Index_int8_int8 : FuncId → List VV → (List (Bool × List VV) → Prop) → Prop := fun f args Q => if f = 30 then unA slices_Index_int8_int8_sh args (fun x => slices_Index_int8_int8_d x Q) else Otensor_exp f args Q
theorem Oslices_Index_int8_int8_ok : ∀ f args Q, Oslices_Index_int8_int8 f args Q → Sound Try.prog f args Q := tab_more Otensor_exp_ok (f0 := 30) slices_Index_int8_int8_sh (fun x Q => slices_Index_int8_int8_d x Q) slices_Index_int8_int8_snd
noncomputable def Gslices_Index_int8_int8 : Cfg := ⟨Try.prog, tt, Oslices_Index_int8_int8, fun _ _ _ => False⟩
def slices_Contains_int8_int8_t (a0 : List Int) (a1 : Int) (Q : Bool → Prop) : Prop :=
  slices_Index_int8_int8 a0 a1 (fun (r1 : Int) => Q (decide (0 ≤ r1)))
structure slices_Contains_int8_int8 (a0 : List Int) (a1 : Int) (Q : Bool → Prop) : Prop where
  it : slices_Contains_int8_int8_t a0 a1 Q
noncomputable def slices_Contains_int8_int8_ct : Tab := fun n => none
noncomputable def slices_Contains_int8_int8_en : Go.Mach.Ends := fun n => match n with | 2 => some ([], [0, 1]) | 6 => some ([], [4]) | 7 => some ([], [4]) | _ => none
noncomputable def slices_Contains_int8_int8_b : Code := Try.f35.body.getD .skip
theorem slices_Contains_int8_int8_tab : TabOk Gslices_Index_int8_int8 slices_Contains_int8_int8_ct slices_Contains_int8_int8_en slices_Contains_int8_int8_b := by
  intro n E hn f c hs x k h
  cases hn
def slices_Contains_int8_int8_sh : List Sh := [.lf (.fz false (.int .i8)), .lf (.int .i8)]
def slices_Contains_int8_int8_d (x : denS slices_Contains_int8_int8_sh) (Q : List (Bool × List VV) → Prop) : Prop := slices_Contains_int8_int8 x.1 x.2.1 (fun (r : Bool) => Q (slotsA [(false, .bool)] [.n] (r, ())))
theorem slices_Contains_int8_int8_snd (x : denS slices_Contains_int8_int8_sh) (Q : List (Bool × List VV) → Prop) (h : slices_Contains_int8_int8_d x Q) : Sound Try.prog 35 (packS slices_Contains_int8_int8_sh x) Q :=
  vfun_told [.n] (G := Gslices_Index_int8_int8) (ct := slices_Contains_int8_int8_ct) (en := slices_Contains_int8_int8_en) (fn := Try.f35) (cd := slices_Contains_int8_int8_b) (rt := [(false, .bool)]) Try.func35 (by kernel_rfl) (by kernel_rfl) (Nat.le_of_ble_eq_true rfl) slices_Contains_int8_int8_tab Oslices_Index_int8_int8_ok h.it (by kernel_rfl)
noncomputable def Oslices_Contains_int8_int8 : FuncId → List VV → (List (Bool × List VV) → Prop) → Prop := fun f args Q => if f = 35 then unA slices_Contains_int8_int8_sh args (fun x => slices_Contains_int8_int8_d x Q) else Oslices_Index_int8_int8 f args Q
theorem Oslices_Contains_int8_int8_ok : ∀ f args Q, Oslices_Contains_int8_int8 f args Q → Sound Try.prog f args Q := tab_more Oslices_Index_int8_int8_ok (f0 := 35) slices_Contains_int8_int8_sh (fun x Q => slices_Contains_int8_int8_d x Q) slices_Contains_int8_int8_snd
noncomputable def Gslices_Contains_int8_int8 : Cfg := ⟨Try.prog, tt, Oslices_Contains_int8_int8, fun _ _ _ => False⟩
def tensor_May_t (a0 : (List Int) × Int × List Int) (Q : Bool → Prop) : Prop :=
  shape_May a0.1 (fun (r1 : Bool) => jn (fun (v2 : Bool) => jn (fun (v5 : Bool) => jn (fun (v8 : Bool) => Q v8) (fun J9 => if v5 = true then slices_Contains_int8_int8 a0.2.2 (-128) (fun (r10 : Bool) => J9 (!r10)) else J9 false)) (fun J6 => if v2 = true then tensor_exp a0.2.1 64 (fun (r7 : Bool) => J6 r7) else J6 false)) (fun J3 => if r1 = true then shape_Size a0.1 (fun (r4 : Int) => J3 ((a0.2.2.length : Int) == r4)) else J3 false))
structure tensor_May (a0 : (List Int) × Int × List Int) (Q : Bool → Prop) : Prop where
  it : tensor_May_t a0 Q
noncomputable def tensor_May_ct : Tab := fun n => none
noncomputable def tensor_May_en : Go.Mach.Ends := fun n => match n with | 2 => some ([], [1]) | 6 => some ([], [2]) | 7 => some ([], [2]) | _ => none
noncomputable def tensor_May_b : Code := Try.f27.body.getD .skip
theorem tensor_May_tab : TabOk Gslices_Contains_int8_int8 tensor_May_ct tensor_May_en tensor_May_b := by
  intro n E hn f c hs x k h
  cases hn
def tensor_May_sh : List Sh := [.agg [.fz false (.int .i64), .int .i64, .fz false (.int .i8)]]
def tensor_May_d (x : denS tensor_May_sh) (Q : List (Bool × List VV) → Prop) : Prop := tensor_May (x.1.1, (x.1.2.1, x.1.2.2.1)) (fun (r : Bool) => Q (slotsA [(false, .bool)] [.n] (r, ())))
theorem tensor_May_snd (x : denS tensor_May_sh) (Q : List (Bool × List VV) → Prop) (h : tensor_May_d x Q) : Sound Try.prog 27 (packS tensor_May_sh x) Q :=
  vfun_told [.n] (G := Gslices_Contains_int8_int8) (ct := tensor_May_ct) (en := tensor_May_en) (fn := Try.f27) (cd := tensor_May_b) (rt := [(false, .bool)]) Try.func27 (by kernel_rfl) (by kernel_rfl) (Nat.le_of_ble_eq_true rfl) tensor_May_tab Oslices_Contains_int8_int8_ok h.it (by kernel_rfl)
noncomputable def Otensor_May : FuncId → List VV → (List (Bool × List VV) → Prop) → Prop := fun f args Q => if f = 27 then unA tensor_May_sh args (fun x => tensor_May_d x Q) else Oslices_Contains_int8_int8 f args Q
theorem Otensor_May_ok : ∀ f args Q, Otensor_May f args Q → Sound Try.prog f args Q := tab_more Oslices_Contains_int8_int8_ok (f0 := 27) tensor_May_sh (fun x Q => tensor_May_d x Q) tensor_May_snd
noncomputable def Gtensor_May : Cfg := ⟨Try.prog, tt, Otensor_May, fun _ _ _ => False⟩
def slices_Chunk_int8_int8 (a0 : List Int) (a1 : Int) (Q : Unit → Prop) : Prop := 1 ≤ a1 ∧ Q ()
def slices_Chunk_int8_int8_sh : List Sh := [.lf (.fz false (.int .i8)), .lf (.int .i64)]
def slices_Chunk_int8_int8_d (x : denS slices_Chunk_int8_int8_sh) (Q : List (Bool × List VV) → Prop) : Prop := slices_Chunk_int8_int8 x.1 x.2.1 (fun (r : Unit) => Q [(false, [.fn 37 [.bx [.fz false (.int .i8) x.1] 0, .bx [.pl (.int .i64 x.2.1)] 0]])])
noncomputable def slices_Chunk_int8_int8_b : Code := Try.f29.body.getD .skip
theorem slices_Chunk_int8_int8_tab : TabOk Gtensor_May (fun _ => none) (fun _ => none) slices_Chunk_int8_int8_b := by
  intro n E hn f c hs x k h
  cases hn
theorem slices_Chunk_int8_int8_snd (x : denS slices_Chunk_int8_int8_sh) (Q : List (Bool × List VV) → Prop) (h : slices_Chunk_int8_int8_d x Q) : Sound Try.prog 29 (packS slices_Chunk_int8_int8_sh x) Q :=
  vfunC_told (G := Gtensor_May) (ct := fun _ => none) (en := fun _ => none) (fn := Try.f29) (cd := slices_Chunk_int8_int8_b) (R := if decide (x.2.1 < (1 : Int)) = true then False else Q [(false, [.fn 37 [.bx [.fz false (.int .i8) x.1] 0, .bx [.pl (.int .i64 x.2.1)] 0]])]) Try.func29 (by kernel_rfl) (by kernel_rfl) (Nat.le_of_ble_eq_true rfl) slices_Chunk_int8_int8_tab Otensor_May_ok (by rw [if_neg (by have := h.1; simp; exact this)]; exact h.2) (by kernel_rfl)
noncomputable def Oslices_Chunk_int8_int8 : FuncId → List VV → (List (Bool × List VV) → Prop) → Prop := fun f args Q => if f = 29 then unA slices_Chunk_int8_int8_sh args (fun x => slices_Chunk_int8_int8_d x Q) else Otensor_May f args Q
theorem Oslices_Chunk_int8_int8_ok : ∀ f args Q, Oslices_Chunk_int8_int8 f args Q → Sound Try.prog f args Q := tab_more Otensor_May_ok (f0 := 29) slices_Chunk_int8_int8_sh (fun x Q => slices_Chunk_int8_int8_d x Q) slices_Chunk_int8_int8_snd
noncomputable def Gslices_Chunk_int8_int8 : Cfg := ⟨Try.prog, tt, Oslices_Chunk_int8_int8, fun _ _ _ => False⟩
def slices_AppendSeq_int8_int8 (a0 : List Int) (a1 : Int) (Q : List (List Int) → Prop) : Prop := ((1 ≤ a0.length ∧ a0.length ≤ 16777216) ∧ 1 ≤ a1 ∧ a1 ≤ 16777216) ∧ Q (Go.Mach.chunksF a0 a1.toNat)
def slices_AppendSeq_int8_int8_sh : List Sh := [.lf (.cst (.pl (.slice none 0 0))), .fn 37 [.bx [.fz false (.int .i8)], .bx [.int .i64]]]
def slices_AppendSeq_int8_int8_d (x : denS slices_AppendSeq_int8_int8_sh) (Q : List (Bool × List VV) → Prop) : Prop := slices_AppendSeq_int8_int8 x.2.1.1.1 x.2.1.2.1.1 (fun (r : List (List Int)) => Q (slotsA [(false, (.slc (.slc (.int .i8))))] [.f] (r, ())))
theorem slices_AppendSeq_int8_int8_snd (x : denS slices_AppendSeq_int8_int8_sh) (Q : List (Bool × List VV) → Prop) (h : slices_AppendSeq_int8_int8_d x Q) : Sound Try.prog 36 (packS slices_AppendSeq_int8_int8_sh x) Q := by
  exact Go.Mach.appendSeq_sndI _ _ Q h.1 h.2
noncomputable def Oslices_AppendSeq_int8_int8 : FuncId → List VV → (List (Bool × List VV) → Prop) → Prop := fun f args Q => if f = 36 then (if eqNs (fnsOf args) [37] = true then unA slices_AppendSeq_int8_int8_sh args (fun x => slices_AppendSeq_int8_int8_d x Q) else Oslices_Chunk_int8_int8 f args Q) else Oslices_Chunk_int8_int8 f args Q
theorem Oslices_AppendSeq_int8_int8_ok : ∀ f args Q, Oslices_AppendSeq_int8_int8 f args Q → Sound Try.prog f args Q := tab_moreF Oslices_Chunk_int8_int8_ok (f0 := 36) [37] slices_AppendSeq_int8_int8_sh (fun x Q => slices_AppendSeq_int8_int8_d x Q) slices_AppendSeq_int8_int8_snd
noncomputable def Gslices_AppendSeq_int8_int8 : Cfg := ⟨Try.prog, tt, Oslices_AppendSeq_int8_int8, fun _ _ _ => False⟩
def slices_Collect_int8__slices_Chunk_int8_int8_1_t (a0 : List Int) (a1 : Int) (Q : (List (List Int)) → Prop) : Prop :=
  slices_AppendSeq_int8_int8 a0 a1 (fun (r1 : List (List Int)) => Q r1)
structure slices_Collect_int8__slices_Chunk_int8_int8_1 (a0 : List Int) (a1 : Int) (Q : (List (List Int)) → Prop) : Prop where
  it : slices_Collect_int8__slices_Chunk_int8_int8_1_t a0 a1 Q
noncomputable def slices_Collect_int8__slices_Chunk_int8_int8_1_ct : Tab := fun n => none
noncomputable def slices_Collect_int8__slices_Chunk_int8_int8_1_en : Go.Mach.Ends := fun n => match n with | 2 => some ([], [0]) | 6 => some ([], [2]) | 7 => some ([], [2]) | _ => none
noncomputable def slices_Collect_int8__slices_Chunk_int8_int8_1_b : Code := Try.f28.body.getD .skip
theorem slices_Collect_int8__slices_Chunk_int8_int8_1_tab : TabOk Gslices_AppendSeq_int8_int8 slices_Collect_int8__slices_Chunk_int8_int8_1_ct slices_Collect_int8__slices_Chunk_int8_int8_1_en slices_Collect_int8__slices_Chunk_int8_int8_1_b := by
  intro n E hn f c hs x k h
  cases hn
def slices_Collect_int8__slices_Chunk_int8_int8_1_sh : List Sh := [.fn 37 [.bx [.fz false (.int .i8)], .bx [.int .i64]]]
def slices_Collect_int8__slices_Chunk_int8_int8_1_d (x : denS slices_Collect_int8__slices_Chunk_int8_int8_1_sh) (Q : List (Bool × List VV) → Prop) : Prop := slices_Collect_int8__slices_Chunk_int8_int8_1 x.1.1.1 x.1.2.1.1 (fun (r : List (List Int)) => Q (slotsA [(false, (.slc (.slc (.int .i8))))] [.f] (r, ())))
theorem slices_Collect_int8__slices_Chunk_int8_int8_1_snd (x : denS slices_Collect_int8__slices_Chunk_int8_int8_1_sh) (Q : List (Bool × List VV) → Prop) (h : slices_Collect_int8__slices_Chunk_int8_int8_1_d x Q) : Sound Try.prog 28 (packS slices_Collect_int8__slices_Chunk_int8_int8_1_sh x) Q :=
  vfun_told [.f] (G := Gslices_AppendSeq_int8_int8) (ct := slices_Collect_int8__slices_Chunk_int8_int8_1_ct) (en := slices_Collect_int8__slices_Chunk_int8_int8_1_en) (fn := Try.f28) (cd := slices_Collect_int8__slices_Chunk_int8_int8_1_b) (rt := [(false, (.slc (.slc (.int .i8))))]) Try.func28 (by kernel_rfl) (by kernel_rfl) (Nat.le_of_ble_eq_true rfl) slices_Collect_int8__slices_Chunk_int8_int8_1_tab Oslices_AppendSeq_int8_int8_ok h.it (by kernel_rfl)
noncomputable def Oslices_Collect_int8__slices_Chunk_int8_int8_1 : FuncId → List VV → (List (Bool × List VV) → Prop) → Prop := fun f args Q => if f = 28 then (if eqNs (fnsOf args) [37] = true then unA slices_Collect_int8__slices_Chunk_int8_int8_1_sh args (fun x => slices_Collect_int8__slices_Chunk_int8_int8_1_d x Q) else Oslices_AppendSeq_int8_int8 f args Q) else Oslices_AppendSeq_int8_int8 f args Q
theorem Oslices_Collect_int8__slices_Chunk_int8_int8_1_ok : ∀ f args Q, Oslices_Collect_int8__slices_Chunk_int8_int8_1 f args Q → Sound Try.prog f args Q := tab_moreF Oslices_AppendSeq_int8_int8_ok (f0 := 28) [37] slices_Collect_int8__slices_Chunk_int8_int8_1_sh (fun x Q => slices_Collect_int8__slices_Chunk_int8_int8_1_d x Q) slices_Collect_int8__slices_Chunk_int8_int8_1_snd
noncomputable def Gslices_Collect_int8__slices_Chunk_int8_int8_1 : Cfg := ⟨Try.prog, tt, Oslices_Collect_int8__slices_Chunk_int8_int8_1, fun _ _ _ => False⟩
def loss_rows_t (a0 : (List Int) × Int × List Int) (Q : ((List (List Int)) × Int) → Prop) : Prop :=
  tensor_May (a0.1, (a0.2.1, a0.2.2)) (fun (r1 : Bool) => if (!r1) = true then Q (([] : List (List Int)), 1) else jn (fun (v2 : Bool) => jn (fun (v4 : Bool) => if v4 = true then Q (([] : List (List Int)), 2) else ck ((0 : Int) ≤ 1 ∧ 1 < (a0.1.length : Int)) (slices_Chunk_int8_int8 a0.2.2 (a0.1.getD 1 0) (fun (r6 : Unit) => slices_Collect_int8__slices_Chunk_int8_int8_1 a0.2.2 (a0.1.getD 1 0) (fun (r7 : List (List Int)) => Q (r7, 0))))) (fun J5 => if v2 = true then J5 true else ck ((0 : Int) ≤ 1 ∧ 1 < (a0.1.length : Int)) (J5 (decide (10 < (a0.1.getD 1 0)))))) (fun J3 => if ((a0.1.length : Int) != 2) = true then J3 true else ck ((0 : Int) ≤ 1 ∧ 1 < (a0.1.length : Int)) (J3 (decide ((a0.1.getD 1 0) < 2)))))
structure loss_rows (a0 : (List Int) × Int × List Int) (Q : ((List (List Int)) × Int) → Prop) : Prop where
  it : loss_rows_t a0 Q
noncomputable def loss_rows_ct : Tab := fun n => none
noncomputable def loss_rows_en : Go.Mach.Ends := fun n => match n with | 2 => some ([], [1]) | 14 => some ([], [2, 3]) | 15 => some ([], [2, 3]) | 24 => some ([], [1, 4]) | 100 => some ([], [2, 3]) | 101 => some ([], [2, 3]) | 102 => some ([], [1, 8]) | 207 => some ([], [1]) | 412 => some ([], [2, 3]) | 413 => some ([], [2, 3]) | _ => none
noncomputable def loss_rows_b : Code := Try.f24.body.getD .skip
theorem loss_rows_tab : TabOk Gslices_Collect_int8__slices_Chunk_int8_int8_1 loss_rows_ct loss_rows_en loss_rows_b := by
  intro n E hn f c hs x k h
  cases hn
def loss_rows_sh : List Sh := [.agg [.fz false (.int .i64), .int .i64, .fz false (.int .i8)]]
def loss_rows_d (x : denS loss_rows_sh) (Q : List (Bool × List VV) → Prop) : Prop := loss_rows (x.1.1, (x.1.2.1, x.1.2.2.1)) (fun (r : (List (List Int)) × Int) => Q (slotsA [(false, (.slc (.slc (.int .i8)))), (false, (.int .i64))] [.f, .n] (r.1, (r.2, ()))))
theorem loss_rows_snd (x : denS loss_rows_sh) (Q : List (Bool × List VV) → Prop) (h : loss_rows_d x Q) : Sound Try.prog 24 (packS loss_rows_sh x) Q :=
  vfun_told [.f, .n] (G := Gslices_Collect_int8__slices_Chunk_int8_int8_1) (ct := loss_rows_ct) (en := loss_rows_en) (fn := Try.f24) (cd := loss_rows_b) (rt := [(false, (.slc (.slc (.int .i8)))), (false, (.int .i64))]) Try.func24 (by kernel_rfl) (by kernel_rfl) (Nat.le_of_ble_eq_true rfl) loss_rows_tab Oslices_Collect_int8__slices_Chunk_int8_int8_1_ok h.it (by kernel_rfl)
noncomputable def Oloss_rows : FuncId → List VV → (List (Bool × List VV) → Prop) → Prop := fun f args Q => if f = 24 then unA loss_rows_sh args (fun x => loss_rows_d x Q) else Oslices_Collect_int8__slices_Chunk_int8_int8_1 f args Q
theorem Oloss_rows_ok : ∀ f args Q, Oloss_rows f args Q → Sound Try.prog f args Q := tab_more Oslices_Collect_int8__slices_Chunk_int8_int8_1_ok (f0 := 24) loss_rows_sh (fun x Q => loss_rows_d x Q) loss_rows_snd
noncomputable def Gloss_rows : Cfg := ⟨Try.prog, tt, Oloss_rows, fun _ _ _ => False⟩
def loss_below_t (a0 : Int) (a1 : Int) (Q : Int → Prop) : Prop :=
  if (a0 == 0) = true then Q 0 else if (decide (4 ≤ a1)) = true then Q 15 else if (decide (0 ≤ a1)) = true then ck ((0 : Int) ≤ a1) (Q (smaller 15 (IntKind.i64.wrap (a0 * 2 ^ (min (a1).toNat (IntKind.i64).bits))))) else ck ((0 : Int) ≤ (smaller (IntKind.i64.wrap (0 - a1)) 62)) (Q (smaller 15 ((a0).fdiv (2 ^ (min (smaller (IntKind.i64.wrap (0 - a1)) 62).toNat (IntKind.i64).bits)))))
structure loss_below (a0 : Int) (a1 : Int) (Q : Int → Prop) : Prop where
  it : loss_below_t a0 a1 Q
noncomputable def loss_below_ct : Tab := fun n => none
noncomputable def loss_below_en : Go.Mach.Ends := fun n => match n with | 2 => some ([], [0, 1]) | 14 => some ([], [4]) | 15 => some ([], [4]) | 24 => some ([], [0, 1, 5]) | 100 => some ([], [4]) | 101 => some ([], [4]) | 102 => some ([], [0, 1, 8]) | 412 => some ([], [4]) | 413 => some ([], [4]) | 414 => some ([], [0, 1, 11]) | 831 => some ([], [0, 1]) | 1660 => some ([], [4]) | 1661 => some ([], [4]) | _ => none
noncomputable def loss_below_b : Code := Try.f20.body.getD .skip
theorem loss_below_tab : TabOk Gloss_rows loss_below_ct loss_below_en loss_below_b := by
  intro n E hn f c hs x k h
  cases hn
def loss_below_sh : List Sh := [.lf (.int .i64), .lf (.int .i64)]
def loss_below_d (x : denS loss_below_sh) (Q : List (Bool × List VV) → Prop) : Prop := loss_below x.1 x.2.1 (fun (r : Int) => Q (slotsA [(false, (.int .i64))] [.n] (r, ())))
theorem loss_below_snd (x : denS loss_below_sh) (Q : List (Bool × List VV) → Prop) (h : loss_below_d x Q) : Sound Try.prog 20 (packS loss_below_sh x) Q :=
  vfun_told [.n] (G := Gloss_rows) (ct := loss_below_ct) (en := loss_below_en) (fn := Try.f20) (cd := loss_below_b) (rt := [(false, (.int .i64))]) Try.func20 (by kernel_rfl) (by kernel_rfl) (Nat.le_of_ble_eq_true rfl) loss_below_tab Oloss_rows_ok h.it (by kernel_rfl)
noncomputable def Oloss_below : FuncId → List VV → (List (Bool × List VV) → Prop) → Prop := fun f args Q => if f = 20 then unA loss_below_sh args (fun x => loss_below_d x Q) else Oloss_rows f args Q
theorem Oloss_below_ok : ∀ f args Q, Oloss_below f args Q → Sound Try.prog f args Q := tab_more Oloss_rows_ok (f0 := 20) loss_below_sh (fun x Q => loss_below_d x Q) loss_below_snd
noncomputable def Gloss_below : Cfg := ⟨Try.prog, tt, Oloss_below, fun _ _ _ => False⟩
def slices_Max_int8_int8_n1_B (x0 : List Int) (K0 : Int → Prop) (s : Int × Int) (nx : (Int × Int) → Prop) : Prop :=
  if (decide (s.2 < (x0.length : Int))) = true then ck ((0 : Int) ≤ s.2 ∧ s.2 < (x0.length : Int)) (nx (greater s.1 (x0.getD ((s.2).toNat) 0), IntKind.i64.wrap (s.2 + 1))) else K0 s.1
structure slices_Max_int8_int8_n1 (x0 : List Int) (K0 : Int → Prop) (s : Int × Int) : Prop where
  it : Go.Mach.Loop (slices_Max_int8_int8_n1_B x0 K0) s
def slices_Max_int8_int8_n0_t (x0 : List Int) (K0 : Int → Prop) : Prop :=
  ck ((0 : Int) ≤ 0 ∧ 0 < (x0.length : Int)) (slices_Max_int8_int8_n1 x0 (fun (y1 : Int) => K0 y1) (x0.getD 0 0, 1))
structure slices_Max_int8_int8_n0 (x0 : List Int) (K0 : Int → Prop) : Prop where
  it : slices_Max_int8_int8_n0_t x0 K0
def slices_Max_int8_int8_t (a0 : List Int) (Q : Int → Prop) : Prop :=
  if (decide ((a0.length : Int) < 1)) = true then False else slices_Max_int8_int8_n0 a0 (fun (y2 : Int) => Q y2)
structure slices_Max_int8_int8 (a0 : List Int) (Q : Int → Prop) : Prop where
  it : slices_Max_int8_int8_t a0 Q
noncomputable def slices_Max_int8_int8_e0 : Ent := ⟨[0], [.lf (.fz false (.int .i8))], [], fun x k => slices_Max_int8_int8_n0 x.1.1 (fun (y3 : Int) => k .ret ⟨[(2, .pl (.int .i8 y3))], []⟩)⟩
noncomputable def slices_Max_int8_int8_e1 : Ent := ⟨[0, 3, 4], [.lf (.fz false (.int .i8)), .lf (.int .i8), .lf (.int .i64)], [], fun x k => slices_Max_int8_int8_n1 x.1.1 (fun (y4 : Int) => k (.exit 0) ⟨[(3, .pl (.int .i8 y4))], []⟩) (x.1.2.1, x.1.2.2.1)⟩
noncomputable def slices_Max_int8_int8_ct : Tab := fun n => match n with | 7 => some slices_Max_int8_int8_e0 | 122 => some slices_Max_int8_int8_e1 | _ => none
noncomputable def slices_Max_int8_int8_en : Go.Mach.Ends := fun n => match n with | 2 => some ([], [0]) | 12 => some ([], [0, 7]) | 14 => some ([], [0, 3]) | 26 => some ([], [0]) | 27 => some ([], [0]) | 60 => some ([], [0, 3, 4]) | 62 => some ([], [2]) | 63 => some ([], [2]) | 122 => some ([], [0, 3, 4]) | 976 => some ([], [0, 3, 4, 15]) | 979 => some ([], [0, 3, 4]) | 1954 => some ([], [0, 3, 4]) | 1955 => some ([], [3]) | 1956 => some ([], [0, 3, 4]) | _ => none
noncomputable def slices_Max_int8_int8_b : Code := Try.f19.body.getD .skip
theorem slices_Max_int8_int8_tab : TabOk Gloss_below slices_Max_int8_int8_ct slices_Max_int8_int8_en slices_Max_int8_int8_b := by
  intro n E hn f c hs x k h
  unfold slices_Max_int8_int8_ct at hn
  split at hn
  · cases hn; exact tab_node2 hs (by kernel_rfl) (by kernel_rfl) h.it
  · cases hn; exact tab_loop2 hs (by kernel_rfl) (fun y : Int × Int => ⟨[(0, .fz false (.int .i8) x.1.1), (3, .pl (.int .i8 y.1)), (4, .pl (.int .i64 y.2))], []⟩) (x.1.2.1, x.1.2.2.1) (by kernel_rfl) (fun y X => by kernel_rfl) h.it
  · cases hn
def slices_Max_int8_int8_sh : List Sh := [.lf (.fz false (.int .i8))]
def slices_Max_int8_int8_d (x : denS slices_Max_int8_int8_sh) (Q : List (Bool × List VV) → Prop) : Prop := slices_Max_int8_int8 x.1 (fun (r : Int) => Q (slotsA [(false, (.int .i8))] [.n] (r, ())))
theorem slices_Max_int8_int8_snd (x : denS slices_Max_int8_int8_sh) (Q : List (Bool × List VV) → Prop) (h : slices_Max_int8_int8_d x Q) : Sound Try.prog 19 (packS slices_Max_int8_int8_sh x) Q :=
  vfun_told [.n] (G := Gloss_below) (ct := slices_Max_int8_int8_ct) (en := slices_Max_int8_int8_en) (fn := Try.f19) (cd := slices_Max_int8_int8_b) (rt := [(false, (.int .i8))]) Try.func19 (by kernel_rfl) (by kernel_rfl) (Nat.le_of_ble_eq_true rfl) slices_Max_int8_int8_tab Oloss_below_ok h.it (by kernel_rfl)
noncomputable def Oslices_Max_int8_int8 : FuncId → List VV → (List (Bool × List VV) → Prop) → Prop := fun f args Q => if f = 19 then unA slices_Max_int8_int8_sh args (fun x => slices_Max_int8_int8_d x Q) else Oloss_below f args Q
theorem Oslices_Max_int8_int8_ok : ∀ f args Q, Oslices_Max_int8_int8 f args Q → Sound Try.prog f args Q := tab_more Oloss_below_ok (f0 := 19) slices_Max_int8_int8_sh (fun x Q => slices_Max_int8_int8_d x Q) slices_Max_int8_int8_snd
noncomputable def Gslices_Max_int8_int8 : Cfg := ⟨Try.prog, tt, Oslices_Max_int8_int8, fun _ _ _ => False⟩
def loss_Soft_n0_B (x0 : Int) (x1 : Int) (x3 : List Int) (x4 : Int) (K0 : (Int × List Int) → Prop) (s : Int × Int × List Int) (nx : (Int × Int × List Int) → Prop) : Prop :=
  if (decide (s.2.1 < x4)) = true then ck ((0 : Int) ≤ s.2.1 ∧ s.2.1 < (x3.length : Int)) (loss_below (IntKind.i64.wrap (x1 - (IntKind.i64.wrap (x3.getD ((s.2.1).toNat) 0)))) x0 (fun (r3 : Int) => ck ((0 : Int) ≤ (IntKind.i64.wrap (15 - r3))) (ck ((s.2.2.length + [IntKind.i64.wrap (1 * 2 ^ (min (IntKind.i64.wrap (15 - r3)).toNat (IntKind.i64).bits))].length) * 8 ≤ 140737488355328) (nx (IntKind.i64.wrap (s.1 + (IntKind.i64.wrap (1 * 2 ^ (min (IntKind.i64.wrap (15 - r3)).toNat (IntKind.i64).bits)))), IntKind.i64.wrap (s.2.1 + 1), s.2.2 ++ [IntKind.i64.wrap (1 * 2 ^ (min (IntKind.i64.wrap (15 - r3)).toNat (IntKind.i64).bits))]))))) else K0 (s.1, s.2.2)
structure loss_Soft_n0 (x0 : Int) (x1 : Int) (x3 : List Int) (x4 : Int) (K0 : (Int × List Int) → Prop) (s : Int × Int × List Int) : Prop where
  it : Go.Mach.Loop (loss_Soft_n0_B x0 x1 x3 x4 K0) s
def loss_Soft_n1_B (x0 : Int) (x1 : Int) (K0 : (List Int) → Prop) (s : Int × List Int) (nx : (Int × List Int) → Prop) : Prop :=
  if (decide (s.1 < x1)) = true then ck ((0 : Int) ≤ s.1 ∧ s.1 < (s.2.length : Int)) (ck (x0 ≠ (0 : Int)) (ck ((0 : Int) ≤ s.1 ∧ s.1 < (s.2.length : Int)) (nx (IntKind.i64.wrap (s.1 + 1), s.2.set ((s.1).toNat) (IntKind.i64.wrap ((IntKind.i64.wrap ((s.2.getD ((s.1).toNat) 0) * 127)).tdiv x0)))))) else K0 s.2
structure loss_Soft_n1 (x0 : Int) (x1 : Int) (K0 : (List Int) → Prop) (s : Int × List Int) : Prop where
  it : Go.Mach.Loop (loss_Soft_n1_B x0 x1 K0) s
def loss_Soft_t (a0 : List Int) (a1 : Int) (Q : (List Int) → Prop) : Prop :=
  if ((decide ((a0.length : Int) < 1)) || (decide (10 < (a0.length : Int)))) = true then Q ([] : List Int) else slices_Max_int8_int8 a0 (fun (r1 : Int) => loss_Soft_n0 (greater (-64) (smaller a1 64)) (IntKind.i64.wrap r1) a0 (a0.length : Int) (fun (y4 : Int × List Int) => loss_Soft_n1 y4.1 (y4.2.length : Int) (fun (y5 : List Int) => Q y5) (0, y4.2)) (0, 0, ([] : List Int)))
structure loss_Soft (a0 : List Int) (a1 : Int) (Q : (List Int) → Prop) : Prop where
  it : loss_Soft_t a0 a1 Q
noncomputable def loss_Soft_e0 : Ent := ⟨[1, 5, 6, 7, 26, 27, 28], [.lf (.int .i64), .lf (.int .i64), .lf (.cst (.pl (.slice none 0 0))), .lf (.int .i64), .lf (.fz false (.int .i8)), .lf (.int .i64), .lf (.int .i64)], [], fun x k => loss_Soft_n0 x.1.1 x.1.2.1 x.1.2.2.2.2.1 x.1.2.2.2.2.2.1 (fun (y6 : Int × List Int) => k (.exit 0) ⟨[(6, .own 0), (7, .pl (.int .i64 y6.1))], [.lst true (.int .i64) y6.2 false]⟩) (x.1.2.2.2.1, x.1.2.2.2.2.2.2.1, ([] : List Int))⟩
noncomputable def loss_Soft_e1 : Ent := ⟨[6, 7, 49, 50], [.lf (.cst (.own 0)), .lf (.int .i64), .lf (.int .i64), .lf (.int .i64)], [.lst true (.int .i64) false], fun x k => loss_Soft_n1 x.1.2.1 x.1.2.2.1 (fun (y7 : List Int) => k (.exit 2) ⟨[(6, .own 0)], [.lst true (.int .i64) y7 false]⟩) (x.1.2.2.2.1, x.2.1)⟩
noncomputable def loss_Soft_ct : Tab := fun n => match n with | 1018 => some loss_Soft_e0 | 2042 => some loss_Soft_e1 | _ => none
noncomputable def loss_Soft_en : Go.Mach.Ends := fun n => match n with | 2 => some ([], [0, 1]) | 12 => some ([], [0, 1, 19]) | 14 => some ([], [0, 1]) | 27 => some ([], [0, 1]) | 30 => some ([], [0, 1, 5]) | 52 => some ([], [4]) | 53 => some ([], [4]) | 62 => some ([], [0, 1, 5, 6]) | 126 => some ([], [0, 1, 5, 6, 7]) | 508 => some ([], [1, 5, 6, 7, 26, 27, 28]) | 1018 => some ([⟨6, none, false, (.int .i64)⟩], [1, 5, 6, 7, 26, 27, 28]) | 1020 => some ([], [6, 7, 49, 50]) | 1022 => some ([], [4]) | 1023 => some ([], [4]) | 2042 => some ([], [6, 7, 49, 50]) | 4072 => some ([], [1, 5, 6, 7, 26, 27, 28, 29]) | 8168 => some ([], [6, 7, 49, 50, 51]) | 16292 => some ([], [1, 5, 6, 7, 26, 27, 28]) | 16293 => some ([], [6, 7]) | 16295 => some ([], [1, 5, 6, 7, 26, 27, 28]) | 32676 => some ([], [6, 7, 49, 50]) | 32677 => some ([], [6]) | 32679 => some ([], [6, 7, 49, 50]) | 65176 => some ([], [1, 5, 6, 7, 9, 26, 27, 28]) | 130354 => some ([], [1, 5, 6, 7, 10, 26, 27, 28]) | 130712 => some ([], [6, 7, 11, 49, 50]) | 130713 => some ([], [6, 7, 49, 50]) | 260710 => some ([], [1, 5, 6, 7, 10, 26, 27, 28]) | 260711 => some ([], [1, 5, 6, 7, 26, 27, 28]) | _ => none
noncomputable def loss_Soft_b : Code := Try.f8.body.getD .skip
theorem loss_Soft_tab : TabOk Gslices_Max_int8_int8 loss_Soft_ct loss_Soft_en loss_Soft_b := by
  intro n E hn f c hs x k h
  unfold loss_Soft_ct at hn
  split at hn
  · cases hn; exact tab_loop2 hs (by kernel_rfl) (fun y : Int × Int × List Int => ⟨[(1, .pl (.int .i64 x.1.1)), (5, .pl (.int .i64 x.1.2.1)), (6, .own 0), (7, .pl (.int .i64 y.1)), (26, .fz false (.int .i8) x.1.2.2.2.2.1), (27, .pl (.int .i64 x.1.2.2.2.2.2.1)), (28, .pl (.int .i64 y.2.1))], [.lst true (.int .i64) y.2.2 false]⟩) (x.1.2.2.2.1, x.1.2.2.2.2.2.2.1, ([] : List Int)) (by kernel_rfl) (fun y X => by kernel_rfl) h.it
  · cases hn; exact tab_loop2 hs (by kernel_rfl) (fun y : Int × List Int => ⟨[(6, .own 0), (7, .pl (.int .i64 x.1.2.1)), (49, .pl (.int .i64 x.1.2.2.1)), (50, .pl (.int .i64 y.1))], [.lst true (.int .i64) y.2 false]⟩) (x.1.2.2.2.1, x.2.1) (by kernel_rfl) (fun y X => by kernel_rfl) h.it
  · cases hn
def loss_Soft_sh : List Sh := [.lf (.fz false (.int .i8)), .lf (.int .i64)]
def loss_Soft_d (x : denS loss_Soft_sh) (Q : List (Bool × List VV) → Prop) : Prop := loss_Soft x.1 x.2.1 (fun (r : List Int) => Q (slotsA [(false, (.slc (.int .i64)))] [.n] (r, ())))
theorem loss_Soft_snd (x : denS loss_Soft_sh) (Q : List (Bool × List VV) → Prop) (h : loss_Soft_d x Q) : Sound Try.prog 8 (packS loss_Soft_sh x) Q :=
  vfun_told [.n] (G := Gslices_Max_int8_int8) (ct := loss_Soft_ct) (en := loss_Soft_en) (fn := Try.f8) (cd := loss_Soft_b) (rt := [(false, (.slc (.int .i64)))]) Try.func8 (by kernel_rfl) (by kernel_rfl) (Nat.le_of_ble_eq_true rfl) loss_Soft_tab Oslices_Max_int8_int8_ok h.it (by kernel_rfl)
noncomputable def Oloss_Soft : FuncId → List VV → (List (Bool × List VV) → Prop) → Prop := fun f args Q => if f = 8 then unA loss_Soft_sh args (fun x => loss_Soft_d x Q) else Oslices_Max_int8_int8 f args Q
theorem Oloss_Soft_ok : ∀ f args Q, Oloss_Soft f args Q → Sound Try.prog f args Q := tab_more Oslices_Max_int8_int8_ok (f0 := 8) loss_Soft_sh (fun x Q => loss_Soft_d x Q) loss_Soft_snd
noncomputable def Gloss_Soft : Cfg := ⟨Try.prog, tt, Oloss_Soft, fun _ _ _ => False⟩
def loss_labelled_n0_B (x1 : List Int) (x2 : Int) (x4 : List Int) (K0 : Unit → Prop) (K1 : Unit → Prop) (s : Int) (nx : Int → Prop) : Prop :=
  if (decide (s < x2)) = true then ck ((0 : Int) ≤ s ∧ s < (x1.length : Int)) (jn (fun (v2 : Bool) => if v2 = true then K1 () else nx (IntKind.i64.wrap (s + 1))) (fun J3 => if (decide ((x1.getD ((s).toNat) 0) < 0)) = true then J3 true else ck ((0 : Int) ≤ 1 ∧ 1 < (x4.length : Int)) (J3 (decide ((x4.getD 1 0) ≤ (x1.getD ((s).toNat) 0)))))) else K0 ()
structure loss_labelled_n0 (x1 : List Int) (x2 : Int) (x4 : List Int) (K0 : Unit → Prop) (K1 : Unit → Prop) (s : Int) : Prop where
  it : Go.Mach.Loop (loss_labelled_n0_B x1 x2 x4 K0 K1) s
def loss_labelled_t (a0 : (List Int) × Int × List Int) (a1 : List Int) (Q : ((List (List Int)) × Int) → Prop) : Prop :=
  loss_rows (a0.1, (a0.2.1, a0.2.2)) (fun (r1 : (List (List Int)) × Int) => if (r1.2 != 0) = true then Q (([] : List (List Int)), r1.2) else if ((r1.1.length : Int) != (a1.length : Int)) = true then Q (([] : List (List Int)), 2) else loss_labelled_n0 a1 (a1.length : Int) a0.1 (fun (y4 : Unit) => Q (r1.1, 0)) (fun (y5 : Unit) => Q (([] : List (List Int)), 1)) 0)
structure loss_labelled (a0 : (List Int) × Int × List Int) (a1 : List Int) (Q : ((List (List Int)) × Int) → Prop) : Prop where
  it : loss_labelled_t a0 a1 Q
noncomputable def loss_labelled_e0 : Ent := ⟨[2, 6, 23, 24, 25], [.lf (.cst (.ptr 0 0)), .lf (.fz false (.slc (.int .i8))), .lf (.fz false (.int .i64)), .lf (.int .i64), .lf (.int .i64)], [.box [.fz false (.int .i64), .int .i64, .fz false (.int .i8)] false], fun x k => loss_labelled_n0 x.1.2.2.1 x.1.2.2.2.1 x.2.1.1 (fun (y6 : Unit) => k (.exit 0) ⟨[(6, .fz false (.slc (.int .i8)) x.1.2.1)], []⟩) (fun (y7 : Unit) => k .ret ⟨[(4, .pl (.slice none 0 0)), (5, .pl (.int .i64 1))], []⟩) x.1.2.2.2.2.1⟩
noncomputable def loss_labelled_ct : Tab := fun n => match n with | 250 => some loss_labelled_e0 | _ => none
noncomputable def loss_labelled_en : Go.Mach.Ends := fun n => match n with | 2 => some ([], [1, 2]) | 6 => some ([], [1, 2, 6, 7]) | 28 => some ([], [1, 2, 6, 7, 16]) | 59 => some ([], [1, 2, 6]) | 60 => some ([], [1, 2, 6, 22]) | 116 => some ([], [4, 5]) | 117 => some ([], [4, 5]) | 123 => some ([], [1, 2, 6]) | 124 => some ([], [2, 6, 23, 24, 25]) | 126 => some ([], [4, 5]) | 127 => some ([], [4, 5]) | 244 => some ([], [4, 5]) | 245 => some ([], [4, 5]) | 250 => some ([], [2, 6, 23, 24, 25]) | 1000 => some ([], [2, 6, 23, 24, 25, 26]) | 4004 => some ([], [2, 6, 23, 24, 25]) | 4005 => some ([], [6]) | 4007 => some ([], [2, 6, 23, 24, 25]) | 16024 => some ([], [2, 6, 9, 23, 24, 25]) | 32050 => some ([], [2, 6, 23, 24, 25, 38]) | 64103 => some ([], [2, 6, 23, 24, 25]) | 128204 => some ([], [4, 5]) | 128205 => some ([], [4, 5]) | _ => none
noncomputable def loss_labelled_b : Code := Try.f21.body.getD .skip
theorem loss_labelled_tab : TabOk Gloss_Soft loss_labelled_ct loss_labelled_en loss_labelled_b := by
  intro n E hn f c hs x k h
  unfold loss_labelled_ct at hn
  split at hn
  · cases hn; exact tab_loop2 hs (by kernel_rfl) (fun y : Int => ⟨[(2, .ptr 0 0), (6, .fz false (.slc (.int .i8)) x.1.2.1), (23, .fz false (.int .i64) x.1.2.2.1), (24, .pl (.int .i64 x.1.2.2.2.1)), (25, .pl (.int .i64 y))], [.box [.fz false (.int .i64) x.2.1.1, .pl (.int .i64 x.2.1.2.1), .fz false (.int .i8) x.2.1.2.2.1] false]⟩) x.1.2.2.2.2.1 (by kernel_rfl) (fun y X => by kernel_rfl) h.it
  · cases hn
def loss_labelled_sh : List Sh := [.agg [.fz false (.int .i64), .int .i64, .fz false (.int .i8)], .lf (.fz false (.int .i64))]
def loss_labelled_d (x : denS loss_labelled_sh) (Q : List (Bool × List VV) → Prop) : Prop := loss_labelled (x.1.1, (x.1.2.1, x.1.2.2.1)) x.2.1 (fun (r : (List (List Int)) × Int) => Q (slotsA [(false, (.slc (.slc (.int .i8)))), (false, (.int .i64))] [.f, .n] (r.1, (r.2, ()))))
theorem loss_labelled_snd (x : denS loss_labelled_sh) (Q : List (Bool × List VV) → Prop) (h : loss_labelled_d x Q) : Sound Try.prog 21 (packS loss_labelled_sh x) Q :=
  vfun_told [.f, .n] (G := Gloss_Soft) (ct := loss_labelled_ct) (en := loss_labelled_en) (fn := Try.f21) (cd := loss_labelled_b) (rt := [(false, (.slc (.slc (.int .i8)))), (false, (.int .i64))]) Try.func21 (by kernel_rfl) (by kernel_rfl) (Nat.le_of_ble_eq_true rfl) loss_labelled_tab Oloss_Soft_ok h.it (by kernel_rfl)
noncomputable def Oloss_labelled : FuncId → List VV → (List (Bool × List VV) → Prop) → Prop := fun f args Q => if f = 21 then unA loss_labelled_sh args (fun x => loss_labelled_d x Q) else Oloss_Soft f args Q
theorem Oloss_labelled_ok : ∀ f args Q, Oloss_labelled f args Q → Sound Try.prog f args Q := tab_more Oloss_Soft_ok (f0 := 21) loss_labelled_sh (fun x Q => loss_labelled_d x Q) loss_labelled_snd
noncomputable def Gloss_labelled : Cfg := ⟨Try.prog, tt, Oloss_labelled, fun _ _ _ => False⟩
def loss_top_t (a0 : List Int) (Q : Int → Prop) : Prop :=
  slices_Max_int8_int8 a0 (fun (r1 : Int) => slices_Index_int8_int8 a0 r1 (fun (r2 : Int) => Q r2))
structure loss_top (a0 : List Int) (Q : Int → Prop) : Prop where
  it : loss_top_t a0 Q
noncomputable def loss_top_ct : Tab := fun n => none
noncomputable def loss_top_en : Go.Mach.Ends := fun n => match n with | 2 => some ([], [0]) | 6 => some ([], [2]) | 7 => some ([], [2]) | _ => none
noncomputable def loss_top_b : Code := Try.f25.body.getD .skip
theorem loss_top_tab : TabOk Gloss_labelled loss_top_ct loss_top_en loss_top_b := by
  intro n E hn f c hs x k h
  cases hn
def loss_top_sh : List Sh := [.lf (.fz false (.int .i8))]
def loss_top_d (x : denS loss_top_sh) (Q : List (Bool × List VV) → Prop) : Prop := loss_top x.1 (fun (r : Int) => Q (slotsA [(false, (.int .i64))] [.n] (r, ())))
theorem loss_top_snd (x : denS loss_top_sh) (Q : List (Bool × List VV) → Prop) (h : loss_top_d x Q) : Sound Try.prog 25 (packS loss_top_sh x) Q :=
  vfun_told [.n] (G := Gloss_labelled) (ct := loss_top_ct) (en := loss_top_en) (fn := Try.f25) (cd := loss_top_b) (rt := [(false, (.int .i64))]) Try.func25 (by kernel_rfl) (by kernel_rfl) (Nat.le_of_ble_eq_true rfl) loss_top_tab Oloss_labelled_ok h.it (by kernel_rfl)
noncomputable def Oloss_top : FuncId → List VV → (List (Bool × List VV) → Prop) → Prop := fun f args Q => if f = 25 then unA loss_top_sh args (fun x => loss_top_d x Q) else Oloss_labelled f args Q
theorem Oloss_top_ok : ∀ f args Q, Oloss_top f args Q → Sound Try.prog f args Q := tab_more Oloss_labelled_ok (f0 := 25) loss_top_sh (fun x Q => loss_top_d x Q) loss_top_snd
noncomputable def Gloss_top : Cfg := ⟨Try.prog, tt, Oloss_top, fun _ _ _ => False⟩
end Go.Proofs.Ytpbegbmmhpencaa
