/- Plain texts of functions, as the value machine comes to them. No condition. -/
import Derived.Test.YteencpiamangfaaVTold
import Derived.Test.YteencpiamangfaaProg
import Derived.KernelRfl
namespace Go.Proofs.Yteencpiamangfaa
open Go.Mach
set_option maxRecDepth 100000
set_option linter.unusedVariables false
noncomputable def tt : TypeId → Option Ty := fun t => match t with
  | 2 => some (.int .i64)
  | 3 => some (.int .i64)
  | 4 => some .bool
  | 5 => some (.int .u8)
  | 6 => some (.int .u8)
  | 7 => some (.pair (.int .i64) (.pair (.int .i64) (.pair .bool (.int .u8))))
  | 8 => some (.pair (.int .i64) (.pair (.int .i64) (.pair .bool (.int .u8))))
  | 9 => some .str
  | 10 => some .str
  | 11 => some .str
  | 12 => some (.int .u64)
  | 13 => some (.pair .str (.int .u64))
  | 14 => some (.pair .str (.int .u64))
  | 21 => some (.int .i32)
  | 22 => some (.pair (.int .i64) (.pair (.int .i64) (.int .i64)))
  | 23 => some (.slc (.pair (.int .i64) (.pair (.int .i64) (.pair (.int .i64) (.pair (.int .i64) (.pair (.int .i64) (.pair (.int .i64) .bool)))))))
  | 24 => some (.pair (.pair (.int .i64) (.pair (.int .i64) (.int .i64))) (.slc (.pair (.int .i64) (.pair (.int .i64) (.pair (.int .i64) (.pair (.int .i64) (.pair (.int .i64) (.pair (.int .i64) .bool))))))))
  | 25 => some (.pair (.pair (.int .i64) (.pair (.int .i64) (.int .i64))) (.slc (.pair (.int .i64) (.pair (.int .i64) (.pair (.int .i64) (.pair (.int .i64) (.pair (.int .i64) (.pair (.int .i64) .bool))))))))
  | 26 => some (.int .u64)
  | 27 => some (.slc (.int .i8))
  | 28 => some (.pair (.pair (.pair (.int .i64) (.pair (.int .i64) (.int .i64))) (.slc (.pair (.int .i64) (.pair (.int .i64) (.pair (.int .i64) (.pair (.int .i64) (.pair (.int .i64) (.pair (.int .i64) .bool)))))))) (.pair (.int .u64) (.pair (.slc (.int .i8)) (.pair (.int .i64) (.pair (.slc (.int .i8)) (.int .i64))))))
  | 29 => some (.pair (.pair (.pair (.int .i64) (.pair (.int .i64) (.int .i64))) (.slc (.pair (.int .i64) (.pair (.int .i64) (.pair (.int .i64) (.pair (.int .i64) (.pair (.int .i64) (.pair (.int .i64) .bool)))))))) (.pair (.int .u64) (.pair (.slc (.int .i8)) (.pair (.int .i64) (.pair (.slc (.int .i8)) (.int .i64))))))
  | 31 => some (.slc (.pair (.pair (.slc (.int .i64)) (.pair (.int .i64) (.slc (.int .i8)))) (.pair (.slc (.int .i32)) (.pair (.slc (.int .i64)) (.pair (.int .i64) (.slc (.int .i8)))))))
  | 32 => some (.slc (.int .i64))
  | 33 => some (.pair (.slc (.int .i64)) (.pair (.int .i64) (.slc (.int .i8))))
  | 34 => some (.pair (.slc (.int .i64)) (.pair (.int .i64) (.slc (.int .i8))))
  | 35 => some (.int .i64)
  | 38 => some (.slc (.pair (.slc (.int .i64)) (.pair (.int .i64) (.slc (.int .i8)))))
  | 39 => some (.slc (.slc (.int .i64)))
  | 40 => some (.pair (.slc (.pair (.slc (.int .i64)) (.pair (.int .i64) (.slc (.int .i8))))) (.slc (.slc (.int .i64))))
  | 41 => some (.pair (.slc (.pair (.slc (.int .i64)) (.pair (.int .i64) (.slc (.int .i8))))) (.slc (.slc (.int .i64))))
  | 47 => some (.pair (.int .i64) (.pair (.int .i64) (.pair (.int .i64) (.pair (.int .i64) (.pair (.int .i64) (.pair (.int .i64) .bool))))))
  | 48 => some (.pair (.int .i64) (.pair (.int .i64) (.pair (.int .i64) (.pair (.int .i64) (.pair (.int .i64) (.pair (.int .i64) .bool))))))
  | 52 => some (.slc (.int .i32))
  | 53 => some (.pair (.pair (.slc (.int .i64)) (.pair (.int .i64) (.slc (.int .i8)))) (.pair (.slc (.int .i32)) (.pair (.slc (.int .i64)) (.pair (.int .i64) (.slc (.int .i8))))))
  | 54 => some (.pair (.pair (.slc (.int .i64)) (.pair (.int .i64) (.slc (.int .i8)))) (.pair (.slc (.int .i32)) (.pair (.slc (.int .i64)) (.pair (.int .i64) (.slc (.int .i8))))))
  | 55 => some (.int .i8)
  | 82 => some (.pair (.slc (.int .i64)) (.pair (.int .i64) (.slc (.int .i32))))
  | 83 => some (.pair (.slc (.int .i64)) (.pair (.int .i64) (.slc (.int .i32))))
  | 108 => some (.pair (.int .i64) (.pair (.int .i64) (.pair (.int .i64) (.pair (.int .i64) (.pair (.int .i64) (.int .i64))))))
  | 109 => some (.pair (.int .i64) (.pair (.int .i64) (.pair (.int .i64) (.pair (.int .i64) (.pair (.int .i64) (.int .i64))))))
  | 118 => some (.int .u64)
  | 125 => some (.pair (.int .i64) (.pair (.int .i64) (.pair (.int .i64) (.pair (.int .i64) (.pair (.int .i64) (.pair (.int .i64) (.int .i64)))))))
  | 126 => some (.pair (.int .i64) (.pair (.int .i64) (.pair (.int .i64) (.pair (.int .i64) (.pair (.int .i64) (.pair (.int .i64) (.int .i64)))))))
  | 130 => some (.slc (.pair (.int .i64) (.pair (.int .i64) (.int .i64))))
  | 132 => some (.pair (.int .i64) (.pair (.int .i64) (.int .i64)))
  | 133 => some (.pair (.int .i64) (.pair (.int .i64) (.int .i64)))
  | 143 => some (.pair (.int .i64) (.pair (.int .i64) (.pair (.int .i64) (.pair (.int .i64) (.int .i64)))))
  | 144 => some (.pair (.int .i64) (.pair (.int .i64) (.pair (.int .i64) (.pair (.int .i64) (.int .i64)))))
  | 146 => some .cpx
  | 150 => some .flt
  | 160 => some (.int .u32)
  | 161 => some (.int .u8)
  | 162 => some (.int .u8)
  | 165 => some (.int .i32)
  | 166 => some (.int .i32)
  | _ => none
noncomputable def O_ : FuncId → List VV → (List (Bool × List VV) → Prop) → Prop := fun _ _ _ => False
theorem O__ok : ∀ f args Q, O_ f args Q → Sound Try.prog f args Q := fun _ _ _ h => h.elim
noncomputable def G_ : Cfg := ⟨Try.prog, tt, O_, fun _ _ _ => False⟩
def shape_Size_n0_B (x1 : List Int) (x2 : Int) (K0 : Int → Prop) (K1 : Unit → Prop) (s : Int × Int) (nx : (Int × Int) → Prop) : Prop :=
  if (decide (s.2 < x2)) = true then ck ((0 : Int) ≤ s.2 ∧ s.2 < (x1.length : Int)) (if (((decide ((x1.getD ((s.2).toNat) 0) < 1)) || (decide (4096 < (x1.getD ((s.2).toNat) 0)))) || (decide (8192 < (IntKind.i64.wrap (s.1 * (x1.getD ((s.2).toNat) 0)))))) = true then K1 () else nx (IntKind.i64.wrap (s.1 * (x1.getD ((s.2).toNat) 0)), IntKind.i64.wrap (s.2 + 1))) else K0 s.1
structure shape_Size_n0 (x1 : List Int) (x2 : Int) (K0 : Int → Prop) (K1 : Unit → Prop) (s : Int × Int) : Prop where
  it : Go.Mach.Loop (shape_Size_n0_B x1 x2 K0 K1) s
def shape_Size_t (a0 : List Int) (Q : Int → Prop) : Prop :=
  if ((decide ((a0.length : Int) < 1)) || (decide (4 < (a0.length : Int)))) = true then Q 0 else shape_Size_n0 a0 (a0.length : Int) (fun (y1 : Int) => Q y1) (fun (y2 : Unit) => Q 0) (1, 0)
structure shape_Size (a0 : List Int) (Q : Int → Prop) : Prop where
  it : shape_Size_t a0 Q
noncomputable def shape_Size_e0 : Ent := ⟨[3, 14, 15, 16], [.lf (.int .i64), .lf (.fz false (.int .i64)), .lf (.int .i64), .lf (.int .i64)], [], fun x k => shape_Size_n0 x.1.2.1 x.1.2.2.1 (fun (y3 : Int) => k (.exit 0) ⟨[(3, .pl (.int .i64 y3))], []⟩) (fun (y4 : Unit) => k .ret ⟨[(2, .pl (.int .i64 0))], []⟩) (x.1.1, x.1.2.2.2.1)⟩
noncomputable def shape_Size_ct : Tab := fun n => match n with | 122 => some shape_Size_e0 | _ => none
noncomputable def shape_Size_en : Go.Mach.Ends := fun n => match n with | 2 => some ([], [0]) | 12 => some ([], [0, 13]) | 14 => some ([], [0, 3]) | 27 => some ([], [0]) | 52 => some ([], [2]) | 53 => some ([], [2]) | 60 => some ([], [3, 14, 15, 16]) | 62 => some ([], [2]) | 63 => some ([], [2]) | 122 => some ([], [3, 14, 15, 16]) | 488 => some ([], [3, 14, 15, 16, 17]) | 1956 => some ([], [3, 14, 15, 16]) | 1957 => some ([], [3]) | 1959 => some ([], [3, 14, 15, 16]) | 7832 => some ([], [3, 5, 14, 15, 16]) | 15667 => some ([], [3, 14, 15, 16]) | 31332 => some ([], [3, 5, 14, 15, 16, 31]) | 62667 => some ([], [3, 5, 14, 15, 16]) | 125332 => some ([], [2]) | 125333 => some ([], [2]) | _ => none
noncomputable def shape_Size_b : Code := Try.f36.body.getD .skip
theorem shape_Size_tab : TabOk G_ shape_Size_ct shape_Size_en shape_Size_b := by
  intro n E hn f c hs x k h
  unfold shape_Size_ct at hn
  split at hn
  · cases hn; exact tab_loop2 hs (by kernel_rfl) (fun y : Int × Int => ⟨[(3, .pl (.int .i64 y.1)), (14, .fz false (.int .i64) x.1.2.1), (15, .pl (.int .i64 x.1.2.2.1)), (16, .pl (.int .i64 y.2))], []⟩) (x.1.1, x.1.2.2.2.1) (by kernel_rfl) (fun y X => by kernel_rfl) h.it
  · cases hn
def shape_Size_sh : List Sh := [.lf (.fz false (.int .i64))]
def shape_Size_d (x : denS shape_Size_sh) (Q : List (Bool × List VV) → Prop) : Prop := shape_Size x.1 (fun (r : Int) => Q (slotsA [(false, (.int .i64))] [.n] (r, ())))
theorem shape_Size_snd (x : denS shape_Size_sh) (Q : List (Bool × List VV) → Prop) (h : shape_Size_d x Q) : Sound Try.prog 36 (packS shape_Size_sh x) Q :=
  vfun_told [.n] (G := G_) (ct := shape_Size_ct) (en := shape_Size_en) (fn := Try.f36) (cd := shape_Size_b) (rt := [(false, (.int .i64))]) Try.func36 (by kernel_rfl) (by kernel_rfl) (Nat.le_of_ble_eq_true rfl) shape_Size_tab O__ok h.it (by kernel_rfl)
noncomputable def Oshape_Size : FuncId → List VV → (List (Bool × List VV) → Prop) → Prop := fun f args Q => if f = 36 then unA shape_Size_sh args (fun x => shape_Size_d x Q) else O_ f args Q
theorem Oshape_Size_ok : ∀ f args Q, Oshape_Size f args Q → Sound Try.prog f args Q := tab_more O__ok (f0 := 36) shape_Size_sh (fun x Q => shape_Size_d x Q) shape_Size_snd
noncomputable def Gshape_Size : Cfg := ⟨Try.prog, tt, Oshape_Size, fun _ _ _ => False⟩
def shape_May_t (a0 : List Int) (Q : Bool → Prop) : Prop :=
  shape_Size a0 (fun (r1 : Int) => Q (decide (0 < r1)))
structure shape_May (a0 : List Int) (Q : Bool → Prop) : Prop where
  it : shape_May_t a0 Q
noncomputable def shape_May_ct : Tab := fun n => none
noncomputable def shape_May_en : Go.Mach.Ends := fun n => match n with | 2 => some ([], [0]) | 6 => some ([], [2]) | 7 => some ([], [2]) | _ => none
noncomputable def shape_May_b : Code := Try.f35.body.getD .skip
theorem shape_May_tab : TabOk Gshape_Size shape_May_ct shape_May_en shape_May_b := by
  intro n E hn f c hs x k h
  cases hn
def shape_May_sh : List Sh := [.lf (.fz false (.int .i64))]
def shape_May_d (x : denS shape_May_sh) (Q : List (Bool × List VV) → Prop) : Prop := shape_May x.1 (fun (r : Bool) => Q (slotsA [(false, .bool)] [.n] (r, ())))
theorem shape_May_snd (x : denS shape_May_sh) (Q : List (Bool × List VV) → Prop) (h : shape_May_d x Q) : Sound Try.prog 35 (packS shape_May_sh x) Q :=
  vfun_told [.n] (G := Gshape_Size) (ct := shape_May_ct) (en := shape_May_en) (fn := Try.f35) (cd := shape_May_b) (rt := [(false, .bool)]) Try.func35 (by kernel_rfl) (by kernel_rfl) (Nat.le_of_ble_eq_true rfl) shape_May_tab Oshape_Size_ok h.it (by kernel_rfl)
noncomputable def Oshape_May : FuncId → List VV → (List (Bool × List VV) → Prop) → Prop := fun f args Q => if f = 35 then unA shape_May_sh args (fun x => shape_May_d x Q) else Oshape_Size f args Q
theorem Oshape_May_ok : ∀ f args Q, Oshape_May f args Q → Sound Try.prog f args Q := tab_more Oshape_Size_ok (f0 := 35) shape_May_sh (fun x Q => shape_May_d x Q) shape_May_snd
noncomputable def Gshape_May : Cfg := ⟨Try.prog, tt, Oshape_May, fun _ _ _ => False⟩
def tensor_exp_t (a0 : Int) (a1 : Int) (Q : Bool → Prop) : Prop :=
  Q ((decide ((IntKind.i64.wrap (0 - a1)) ≤ a0)) && (decide (a0 ≤ a1)))
structure tensor_exp (a0 : Int) (a1 : Int) (Q : Bool → Prop) : Prop where
  it : tensor_exp_t a0 a1 Q
noncomputable def tensor_exp_ct : Tab := fun n => none
noncomputable def tensor_exp_en : Go.Mach.Ends := fun n => match n with | 2 => some ([], [0, 1]) | 6 => some ([], [4]) | 7 => some ([], [4]) | _ => none
noncomputable def tensor_exp_b : Code := Try.f37.body.getD .skip
theorem tensor_exp_tab : TabOk Gshape_May tensor_exp_ct tensor_exp_en tensor_exp_b := by
  intro n E hn f c hs x k h
  cases hn
def tensor_exp_sh : List Sh := [.lf (.int .i64), .lf (.int .i64)]
def tensor_exp_d (x : denS tensor_exp_sh) (Q : List (Bool × List VV) → Prop) : Prop := tensor_exp x.1 x.2.1 (fun (r : Bool) => Q (slotsA [(false, .bool)] [.n] (r, ())))
theorem tensor_exp_snd (x : denS tensor_exp_sh) (Q : List (Bool × List VV) → Prop) (h : tensor_exp_d x Q) : Sound Try.prog 37 (packS tensor_exp_sh x) Q :=
  vfun_told [.n] (G := Gshape_May) (ct := tensor_exp_ct) (en := tensor_exp_en) (fn := Try.f37) (cd := tensor_exp_b) (rt := [(false, .bool)]) Try.func37 (by kernel_rfl) (by kernel_rfl) (Nat.le_of_ble_eq_true rfl) tensor_exp_tab Oshape_May_ok h.it (by kernel_rfl)
noncomputable def Otensor_exp : FuncId → List VV → (List (Bool × List VV) → Prop) → Prop := fun f args Q => if f = 37 then unA tensor_exp_sh args (fun x => tensor_exp_d x Q) else Oshape_May f args Q
theorem Otensor_exp_ok : ∀ f args Q, Otensor_exp f args Q → Sound Try.prog f args Q := tab_more Oshape_May_ok (f0 := 37) tensor_exp_sh (fun x Q => tensor_exp_d x Q) tensor_exp_snd
noncomputable def Gtensor_exp : Cfg := ⟨Try.prog, tt, Otensor_exp, fun _ _ _ => False⟩
def slices_Index_int8_int8_n0_B (x0 : List Int) (x1 : Int) (x2 : Int) (K0 : Unit → Prop) (K1 : Int → Prop) (s : Int) (nx : Int → Prop) : Prop :=
  if (decide (s < x2)) = true then ck ((0 : Int) ≤ s ∧ s < (x0.length : Int)) (if (x1 == (x0.getD ((s).toNat) 0)) = true then K1 s else nx (IntKind.i64.wrap (s + 1))) else K0 ()
structure slices_Index_int8_int8_n0 (x0 : List Int) (x1 : Int) (x2 : Int) (K0 : Unit → Prop) (K1 : Int → Prop) (s : Int) : Prop where
  it : Go.Mach.Loop (slices_Index_int8_int8_n0_B x0 x1 x2 K0 K1) s
def slices_Index_int8_int8_t (a0 : List Int) (a1 : Int) (Q : Int → Prop) : Prop :=
  slices_Index_int8_int8_n0 a0 a1 (a0.length : Int) (fun (y1 : Unit) => Q (-1)) (fun (y2 : Int) => Q y2) 0
structure slices_Index_int8_int8 (a0 : List Int) (a1 : Int) (Q : Int → Prop) : Prop where
  it : slices_Index_int8_int8_t a0 a1 Q
noncomputable def slices_Index_int8_int8_e0 : Ent := ⟨[0, 1, 7, 8], [.lf (.fz false (.int .i8)), .lf (.int .i8), .lf (.int .i64), .lf (.int .i64)], [], fun x k => slices_Index_int8_int8_n0 x.1.1 x.1.2.1 x.1.2.2.1 (fun (y3 : Unit) => k (.exit 0) ⟨[], []⟩) (fun (y4 : Int) => k .ret ⟨[(4, .pl (.int .i64 y4))], []⟩) x.1.2.2.2.1⟩
noncomputable def slices_Index_int8_int8_ct : Tab := fun n => match n with | 26 => some slices_Index_int8_int8_e0 | _ => none
noncomputable def slices_Index_int8_int8_en : Go.Mach.Ends := fun n => match n with | 2 => some ([], [0, 1]) | 12 => some ([], [0, 1, 7, 8]) | 14 => some ([], [4]) | 15 => some ([], [4]) | 26 => some ([], [0, 1, 7, 8]) | 104 => some ([], [0, 1, 7, 8, 9]) | 420 => some ([], [0, 1, 7, 8]) | 421 => some ([], []) | 423 => some ([], [0, 1, 7, 8]) | 1688 => some ([], [0, 1, 5, 7, 8]) | 3378 => some ([], [0, 1, 5, 7, 8, 16]) | 6759 => some ([], [0, 1, 7, 8]) | 13516 => some ([], [4]) | 13517 => some ([], [4]) | _ => none
noncomputable def slices_Index_int8_int8_b : Code := Try.f56.body.getD .skip
theorem slices_Index_int8_int8_tab : TabOk Gtensor_exp slices_Index_int8_int8_ct slices_Index_int8_int8_en slices_Index_int8_int8_b := by
  intro n E hn f c hs x k h
  unfold slices_Index_int8_int8_ct at hn
  split at hn
  · cases hn; exact tab_loop2 hs (by kernel_rfl) (fun y : Int => ⟨[(0, .fz false (.int .i8) x.1.1), (1, .pl (.int .i8 x.1.2.1)), (7, .pl (.int .i64 x.1.2.2.1)), (8, .pl (.int .i64 y))], []⟩) x.1.2.2.2.1 (by kernel_rfl) (fun y X => by kernel_rfl) h.it
  · cases hn
def slices_Index_int8_int8_sh : List Sh := [.lf (.fz false (.int .i8)), .lf (.int .i8)]
def slices_Index_int8_int8_d (x : denS slices_Index_int8_int8_sh) (Q : List (Bool × List VV) → Prop) : Prop := slices_Index_int8_int8 x.1 x.2.1 (fun (r : Int) => Q (slotsA [(false, (.int .i64))] [.n] (r, ())))
theorem slices_Index_int8_int8_snd (x : denS slices_Index_int8_int8_sh) (Q : List (Bool × List VV) → Prop) (h : slices_Index_int8_int8_d x Q) : Sound Try.prog 56 (packS slices_Index_int8_int8_sh x) Q :=
  vfun_told [.n] (G := Gtensor_exp) (ct := slices_Index_int8_int8_ct) (en := slices_Index_int8_int8_en) (fn := Try.f56) (cd := slices_Index_int8_int8_b) (rt := [(false, (.int .i64))]) Try.func56 (by kernel_rfl) (by kernel_rfl) (Nat.le_of_ble_eq_true rfl) slices_Index_int8_int8_tab Otensor_exp_ok h.it (by kernel_rfl)
noncomputable def Oslices_Index_int8_int8 : FuncId → List VV → (List (Bool × List VV) → Prop) → Prop := fun f args Q => if f = 56 then unA slices_Index_int8_int8_sh args (fun x => slices_Index_int8_int8_d x Q) else Otensor_exp f args Q
theorem Oslices_Index_int8_int8_ok : ∀ f args Q, Oslices_Index_int8_int8 f args Q → Sound Try.prog f args Q := tab_more Otensor_exp_ok (f0 := 56) slices_Index_int8_int8_sh (fun x Q => slices_Index_int8_int8_d x Q) slices_Index_int8_int8_snd
noncomputable def Gslices_Index_int8_int8 : Cfg := ⟨Try.prog, tt, Oslices_Index_int8_int8, fun _ _ _ => False⟩
def slices_Contains_int8_int8_t (a0 : List Int) (a1 : Int) (Q : Bool → Prop) : Prop :=
  slices_Index_int8_int8 a0 a1 (fun (r1 : Int) => Q (decide (0 ≤ r1)))
structure slices_Contains_int8_int8 (a0 : List Int) (a1 : Int) (Q : Bool → Prop) : Prop where
  it : slices_Contains_int8_int8_t a0 a1 Q
noncomputable def slices_Contains_int8_int8_ct : Tab := fun n => none
noncomputable def slices_Contains_int8_int8_en : Go.Mach.Ends := fun n => match n with | 2 => some ([], [0, 1]) | 6 => some ([], [4]) | 7 => some ([], [4]) | _ => none
noncomputable def slices_Contains_int8_int8_b : Code := Try.f38.body.getD .skip
theorem slices_Contains_int8_int8_tab : TabOk Gslices_Index_int8_int8 slices_Contains_int8_int8_ct slices_Contains_int8_int8_en slices_Contains_int8_int8_b := by
  intro n E hn f c hs x k h
  cases hn
def slices_Contains_int8_int8_sh : List Sh := [.lf (.fz false (.int .i8)), .lf (.int .i8)]
def slices_Contains_int8_int8_d (x : denS slices_Contains_int8_int8_sh) (Q : List (Bool × List VV) → Prop) : Prop := slices_Contains_int8_int8 x.1 x.2.1 (fun (r : Bool) => Q (slotsA [(false, .bool)] [.n] (r, ())))
theorem slices_Contains_int8_int8_snd (x : denS slices_Contains_int8_int8_sh) (Q : List (Bool × List VV) → Prop) (h : slices_Contains_int8_int8_d x Q) : Sound Try.prog 38 (packS slices_Contains_int8_int8_sh x) Q :=
  vfun_told [.n] (G := Gslices_Index_int8_int8) (ct := slices_Contains_int8_int8_ct) (en := slices_Contains_int8_int8_en) (fn := Try.f38) (cd := slices_Contains_int8_int8_b) (rt := [(false, .bool)]) Try.func38 (by kernel_rfl) (by kernel_rfl) (Nat.le_of_ble_eq_true rfl) slices_Contains_int8_int8_tab Oslices_Index_int8_int8_ok h.it (by kernel_rfl)
noncomputable def Oslices_Contains_int8_int8 : FuncId → List VV → (List (Bool × List VV) → Prop) → Prop := fun f args Q => if f = 38 then unA slices_Contains_int8_int8_sh args (fun x => slices_Contains_int8_int8_d x Q) else Oslices_Index_int8_int8 f args Q
theorem Oslices_Contains_int8_int8_ok : ∀ f args Q, Oslices_Contains_int8_int8 f args Q → Sound Try.prog f args Q := tab_more Oslices_Index_int8_int8_ok (f0 := 38) slices_Contains_int8_int8_sh (fun x Q => slices_Contains_int8_int8_d x Q) slices_Contains_int8_int8_snd
noncomputable def Gslices_Contains_int8_int8 : Cfg := ⟨Try.prog, tt, Oslices_Contains_int8_int8, fun _ _ _ => False⟩
def tensor_May_t (a0 : (List Int) × Int × List Int) (Q : Bool → Prop) : Prop :=
  shape_May a0.1 (fun (r1 : Bool) => jn (fun (v2 : Bool) => jn (fun (v5 : Bool) => jn (fun (v8 : Bool) => Q v8) (fun J9 => if v5 = true then slices_Contains_int8_int8 a0.2.2 (-128) (fun (r10 : Bool) => J9 (!r10)) else J9 false)) (fun J6 => if v2 = true then tensor_exp a0.2.1 64 (fun (r7 : Bool) => J6 r7) else J6 false)) (fun J3 => if r1 = true then shape_Size a0.1 (fun (r4 : Int) => J3 ((a0.2.2.length : Int) == r4)) else J3 false))
structure tensor_May (a0 : (List Int) × Int × List Int) (Q : Bool → Prop) : Prop where
  it : tensor_May_t a0 Q
noncomputable def tensor_May_ct : Tab := fun n => none
noncomputable def tensor_May_en : Go.Mach.Ends := fun n => match n with | 2 => some ([], [1]) | 6 => some ([], [2]) | 7 => some ([], [2]) | _ => none
noncomputable def tensor_May_b : Code := Try.f19.body.getD .skip
theorem tensor_May_tab : TabOk Gslices_Contains_int8_int8 tensor_May_ct tensor_May_en tensor_May_b := by
  intro n E hn f c hs x k h
  cases hn
def tensor_May_sh : List Sh := [.agg [.fz false (.int .i64), .int .i64, .fz false (.int .i8)]]
def tensor_May_d (x : denS tensor_May_sh) (Q : List (Bool × List VV) → Prop) : Prop := tensor_May (x.1.1, (x.1.2.1, x.1.2.2.1)) (fun (r : Bool) => Q (slotsA [(false, .bool)] [.n] (r, ())))
theorem tensor_May_snd (x : denS tensor_May_sh) (Q : List (Bool × List VV) → Prop) (h : tensor_May_d x Q) : Sound Try.prog 19 (packS tensor_May_sh x) Q :=
  vfun_told [.n] (G := Gslices_Contains_int8_int8) (ct := tensor_May_ct) (en := tensor_May_en) (fn := Try.f19) (cd := tensor_May_b) (rt := [(false, .bool)]) Try.func19 (by kernel_rfl) (by kernel_rfl) (Nat.le_of_ble_eq_true rfl) tensor_May_tab Oslices_Contains_int8_int8_ok h.it (by kernel_rfl)
noncomputable def Otensor_May : FuncId → List VV → (List (Bool × List VV) → Prop) → Prop := fun f args Q => if f = 19 then unA tensor_May_sh args (fun x => tensor_May_d x Q) else Oslices_Contains_int8_int8 f args Q
theorem Otensor_May_ok : ∀ f args Q, Otensor_May f args Q → Sound Try.prog f args Q := tab_more Oslices_Contains_int8_int8_ok (f0 := 19) tensor_May_sh (fun x Q => tensor_May_d x Q) tensor_May_snd
noncomputable def Gtensor_May : Cfg := ⟨Try.prog, tt, Otensor_May, fun _ _ _ => False⟩
def dense_may_n0_B (x2 : List ((List Int) × Int × List Int)) (x3 : Int) (K0 : Unit → Prop) (K1 : Unit → Prop) (s : Int) (nx : Int → Prop) : Prop :=
  if (decide (s < x3)) = true then ck ((0 : Int) ≤ s ∧ s < (x2.length : Int)) (tensor_May ((x2.getD ((s).toNat) ([], (0, []))).1, (((x2.getD ((s).toNat) ([], (0, []))).2).1, ((x2.getD ((s).toNat) ([], (0, []))).2).2)) (fun (r1 : Bool) => if (!r1) = true then K1 () else nx (IntKind.i64.wrap (s + 1)))) else K0 ()
structure dense_may_n0 (x2 : List ((List Int) × Int × List Int)) (x3 : Int) (K0 : Unit → Prop) (K1 : Unit → Prop) (s : Int) : Prop where
  it : Go.Mach.Loop (dense_may_n0_B x2 x3 K0 K1) s
def dense_may_n1_B (x0 : Int) (x1 : List ((List Int) × Int × List Int)) (x2 : Int) (K0 : Unit → Prop) (K1 : Unit → Prop) (s : Int) (nx : Int → Prop) : Prop :=
  if (decide (s < x2)) = true then ck ((0 : Int) ≤ s ∧ s < (x1.length : Int)) (if ((((x1.getD ((s).toNat) ([], (0, []))).1).length : Int) != x0) = true then K1 () else nx (IntKind.i64.wrap (s + 1))) else K0 ()
structure dense_may_n1 (x0 : Int) (x1 : List ((List Int) × Int × List Int)) (x2 : Int) (K0 : Unit → Prop) (K1 : Unit → Prop) (s : Int) : Prop where
  it : Go.Mach.Loop (dense_may_n1_B x0 x1 x2 K0 K1) s
def dense_may_t (a0 : Int) (a1 : List ((List Int) × Int × List Int)) (Q : Int → Prop) : Prop :=
  dense_may_n0 a1 (a1.length : Int) (fun (y2 : Unit) => dense_may_n1 a0 a1 (a1.length : Int) (fun (y3 : Unit) => Q 0) (fun (y4 : Unit) => Q 2) 0) (fun (y5 : Unit) => Q 1) 0
structure dense_may (a0 : Int) (a1 : List ((List Int) × Int × List Int)) (Q : Int → Prop) : Prop where
  it : dense_may_t a0 a1 Q
noncomputable def dense_may_e0 : Ent := ⟨[0, 1, 9, 10, 11], [.lf (.int .i64), .lf (.fz false (.pair (.slc (.int .i64)) (.pair (.int .i64) (.slc (.int .i8))))), .lf (.fz false (.pair (.slc (.int .i64)) (.pair (.int .i64) (.slc (.int .i8))))), .lf (.int .i64), .lf (.int .i64)], [], fun x k => dense_may_n0 x.1.2.2.1 x.1.2.2.2.1 (fun (y6 : Unit) => k (.exit 0) ⟨[(0, .pl (.int .i64 x.1.1)), (1, .fz false (.pair (.slc (.int .i64)) (.pair (.int .i64) (.slc (.int .i8)))) x.1.2.1)], []⟩) (fun (y7 : Unit) => k .ret ⟨[(4, .pl (.int .i64 1))], []⟩) x.1.2.2.2.2.1⟩
noncomputable def dense_may_e1 : Ent := ⟨[0, 19, 20, 21], [.lf (.int .i64), .lf (.fz false (.pair (.slc (.int .i64)) (.pair (.int .i64) (.slc (.int .i8))))), .lf (.int .i64), .lf (.int .i64)], [], fun x k => dense_may_n1 x.1.1 x.1.2.1 x.1.2.2.1 (fun (y8 : Unit) => k (.exit 2) ⟨[], []⟩) (fun (y9 : Unit) => k .ret ⟨[(4, .pl (.int .i64 2))], []⟩) x.1.2.2.2.1⟩
noncomputable def dense_may_ct : Tab := fun n => match n with | 26 => some dense_may_e0 | 58 => some dense_may_e1 | _ => none
noncomputable def dense_may_en : Go.Mach.Ends := fun n => match n with | 2 => some ([], [0, 1]) | 12 => some ([], [0, 1, 9, 10, 11]) | 26 => some ([], [0, 1, 9, 10, 11]) | 28 => some ([], [0, 19, 20, 21]) | 30 => some ([], [4]) | 31 => some ([], [4]) | 58 => some ([], [0, 19, 20, 21]) | 104 => some ([], [0, 1, 9, 10, 11, 12]) | 232 => some ([], [0, 19, 20, 21, 22]) | 420 => some ([], [0, 1, 9, 10, 11]) | 421 => some ([], [0, 1]) | 423 => some ([], [0, 1, 9, 10, 11]) | 932 => some ([], [0, 19, 20, 21]) | 933 => some ([], []) | 935 => some ([], [0, 19, 20, 21]) | 1688 => some ([], [0, 1, 6, 9, 10, 11]) | 3378 => some ([], [0, 1, 9, 10, 11, 17]) | 3736 => some ([], [0, 8, 19, 20, 21]) | 6759 => some ([], [0, 1, 9, 10, 11]) | 7474 => some ([], [0, 19, 20, 21, 29]) | 13516 => some ([], [4]) | 13517 => some ([], [4]) | 14951 => some ([], [0, 19, 20, 21]) | 29900 => some ([], [4]) | 29901 => some ([], [4]) | _ => none
noncomputable def dense_may_b : Code := Try.f77.body.getD .skip
theorem dense_may_tab : TabOk Gtensor_May dense_may_ct dense_may_en dense_may_b := by
  intro n E hn f c hs x k h
  unfold dense_may_ct at hn
  split at hn
  · cases hn; exact tab_loop2 hs (by kernel_rfl) (fun y : Int => ⟨[(0, .pl (.int .i64 x.1.1)), (1, .fz false (.pair (.slc (.int .i64)) (.pair (.int .i64) (.slc (.int .i8)))) x.1.2.1), (9, .fz false (.pair (.slc (.int .i64)) (.pair (.int .i64) (.slc (.int .i8)))) x.1.2.2.1), (10, .pl (.int .i64 x.1.2.2.2.1)), (11, .pl (.int .i64 y))], []⟩) x.1.2.2.2.2.1 (by kernel_rfl) (fun y X => by kernel_rfl) h.it
  · cases hn; exact tab_loop2 hs (by kernel_rfl) (fun y : Int => ⟨[(0, .pl (.int .i64 x.1.1)), (19, .fz false (.pair (.slc (.int .i64)) (.pair (.int .i64) (.slc (.int .i8)))) x.1.2.1), (20, .pl (.int .i64 x.1.2.2.1)), (21, .pl (.int .i64 y))], []⟩) x.1.2.2.2.1 (by kernel_rfl) (fun y X => by kernel_rfl) h.it
  · cases hn
def dense_may_sh : List Sh := [.lf (.int .i64), .lf (.fz false (.pair (.slc (.int .i64)) (.pair (.int .i64) (.slc (.int .i8)))))]
def dense_may_d (x : denS dense_may_sh) (Q : List (Bool × List VV) → Prop) : Prop := dense_may x.1 x.2.1 (fun (r : Int) => Q (slotsA [(false, (.int .i64))] [.n] (r, ())))
theorem dense_may_snd (x : denS dense_may_sh) (Q : List (Bool × List VV) → Prop) (h : dense_may_d x Q) : Sound Try.prog 77 (packS dense_may_sh x) Q :=
  vfun_told [.n] (G := Gtensor_May) (ct := dense_may_ct) (en := dense_may_en) (fn := Try.f77) (cd := dense_may_b) (rt := [(false, (.int .i64))]) Try.func77 (by kernel_rfl) (by kernel_rfl) (Nat.le_of_ble_eq_true rfl) dense_may_tab Otensor_May_ok h.it (by kernel_rfl)
noncomputable def Odense_may : FuncId → List VV → (List (Bool × List VV) → Prop) → Prop := fun f args Q => if f = 77 then unA dense_may_sh args (fun x => dense_may_d x Q) else Otensor_May f args Q
theorem Odense_may_ok : ∀ f args Q, Odense_may f args Q → Sound Try.prog f args Q := tab_more Otensor_May_ok (f0 := 77) dense_may_sh (fun x Q => dense_may_d x Q) dense_may_snd
noncomputable def Gdense_may : Cfg := ⟨Try.prog, tt, Odense_may, fun _ _ _ => False⟩
def dense_Fits_t (a0 : Int) (Q : Bool → Prop) : Prop :=
  Q (((decide (0 ≤ a0)) && (decide (a0 ≤ 1023))) && (decide ((IntKind.i64.wrap ((IntKind.i64.wrap (a0 * 16384)) + 1048576)) < 16777216)))
structure dense_Fits (a0 : Int) (Q : Bool → Prop) : Prop where
  it : dense_Fits_t a0 Q
noncomputable def dense_Fits_ct : Tab := fun n => none
noncomputable def dense_Fits_en : Go.Mach.Ends := fun n => match n with | 2 => some ([], [0]) | 6 => some ([], [2]) | 7 => some ([], [2]) | _ => none
noncomputable def dense_Fits_b : Code := Try.f96.body.getD .skip
theorem dense_Fits_tab : TabOk Gdense_may dense_Fits_ct dense_Fits_en dense_Fits_b := by
  intro n E hn f c hs x k h
  cases hn
def dense_Fits_sh : List Sh := [.lf (.int .i64)]
def dense_Fits_d (x : denS dense_Fits_sh) (Q : List (Bool × List VV) → Prop) : Prop := dense_Fits x.1 (fun (r : Bool) => Q (slotsA [(false, .bool)] [.n] (r, ())))
theorem dense_Fits_snd (x : denS dense_Fits_sh) (Q : List (Bool × List VV) → Prop) (h : dense_Fits_d x Q) : Sound Try.prog 96 (packS dense_Fits_sh x) Q :=
  vfun_told [.n] (G := Gdense_may) (ct := dense_Fits_ct) (en := dense_Fits_en) (fn := Try.f96) (cd := dense_Fits_b) (rt := [(false, .bool)]) Try.func96 (by kernel_rfl) (by kernel_rfl) (Nat.le_of_ble_eq_true rfl) dense_Fits_tab Odense_may_ok h.it (by kernel_rfl)
noncomputable def Odense_Fits : FuncId → List VV → (List (Bool × List VV) → Prop) → Prop := fun f args Q => if f = 96 then unA dense_Fits_sh args (fun x => dense_Fits_d x Q) else Odense_may f args Q
theorem Odense_Fits_ok : ∀ f args Q, Odense_Fits f args Q → Sound Try.prog f args Q := tab_more Odense_may_ok (f0 := 96) dense_Fits_sh (fun x Q => dense_Fits_d x Q) dense_Fits_snd
noncomputable def Gdense_Fits : Cfg := ⟨Try.prog, tt, Odense_Fits, fun _ _ _ => False⟩
def round_between_int64_t (a0 : Int) (a1 : Int) (a2 : Int) (Q : Int → Prop) : Prop :=
  Q (greater a1 (smaller a0 a2))
structure round_between_int64 (a0 : Int) (a1 : Int) (a2 : Int) (Q : Int → Prop) : Prop where
  it : round_between_int64_t a0 a1 a2 Q
noncomputable def round_between_int64_ct : Tab := fun n => none
noncomputable def round_between_int64_en : Go.Mach.Ends := fun n => match n with | 2 => some ([], [0, 1, 2]) | 6 => some ([], [6]) | 7 => some ([], [6]) | _ => none
noncomputable def round_between_int64_b : Code := Try.f92.body.getD .skip
theorem round_between_int64_tab : TabOk Gdense_Fits round_between_int64_ct round_between_int64_en round_between_int64_b := by
  intro n E hn f c hs x k h
  cases hn
def round_between_int64_sh : List Sh := [.lf (.int .i64), .lf (.int .i64), .lf (.int .i64)]
def round_between_int64_d (x : denS round_between_int64_sh) (Q : List (Bool × List VV) → Prop) : Prop := round_between_int64 x.1 x.2.1 x.2.2.1 (fun (r : Int) => Q (slotsA [(false, (.int .i64))] [.n] (r, ())))
theorem round_between_int64_snd (x : denS round_between_int64_sh) (Q : List (Bool × List VV) → Prop) (h : round_between_int64_d x Q) : Sound Try.prog 92 (packS round_between_int64_sh x) Q :=
  vfun_told [.n] (G := Gdense_Fits) (ct := round_between_int64_ct) (en := round_between_int64_en) (fn := Try.f92) (cd := round_between_int64_b) (rt := [(false, (.int .i64))]) Try.func92 (by kernel_rfl) (by kernel_rfl) (Nat.le_of_ble_eq_true rfl) round_between_int64_tab Odense_Fits_ok h.it (by kernel_rfl)
noncomputable def Oround_between_int64 : FuncId → List VV → (List (Bool × List VV) → Prop) → Prop := fun f args Q => if f = 92 then unA round_between_int64_sh args (fun x => round_between_int64_d x Q) else Odense_Fits f args Q
theorem Oround_between_int64_ok : ∀ f args Q, Oround_between_int64 f args Q → Sound Try.prog f args Q := tab_more Odense_Fits_ok (f0 := 92) round_between_int64_sh (fun x Q => round_between_int64_d x Q) round_between_int64_snd
noncomputable def Ground_between_int64 : Cfg := ⟨Try.prog, tt, Oround_between_int64, fun _ _ _ => False⟩
def round_value_t (a0 : Int) (Q : Int → Prop) : Prop :=
  round_between_int64 a0 (-4611686018427387904) 4611686018427387904 (fun (r1 : Int) => Q r1)
structure round_value (a0 : Int) (Q : Int → Prop) : Prop where
  it : round_value_t a0 Q
noncomputable def round_value_ct : Tab := fun n => none
noncomputable def round_value_en : Go.Mach.Ends := fun n => match n with | 2 => some ([], [0]) | 6 => some ([], [2]) | 7 => some ([], [2]) | _ => none
noncomputable def round_value_b : Code := Try.f89.body.getD .skip
theorem round_value_tab : TabOk Ground_between_int64 round_value_ct round_value_en round_value_b := by
  intro n E hn f c hs x k h
  cases hn
def round_value_sh : List Sh := [.lf (.int .i64)]
def round_value_d (x : denS round_value_sh) (Q : List (Bool × List VV) → Prop) : Prop := round_value x.1 (fun (r : Int) => Q (slotsA [(false, (.int .i64))] [.n] (r, ())))
theorem round_value_snd (x : denS round_value_sh) (Q : List (Bool × List VV) → Prop) (h : round_value_d x Q) : Sound Try.prog 89 (packS round_value_sh x) Q :=
  vfun_told [.n] (G := Ground_between_int64) (ct := round_value_ct) (en := round_value_en) (fn := Try.f89) (cd := round_value_b) (rt := [(false, (.int .i64))]) Try.func89 (by kernel_rfl) (by kernel_rfl) (Nat.le_of_ble_eq_true rfl) round_value_tab Oround_between_int64_ok h.it (by kernel_rfl)
noncomputable def Oround_value : FuncId → List VV → (List (Bool × List VV) → Prop) → Prop := fun f args Q => if f = 89 then unA round_value_sh args (fun x => round_value_d x Q) else Oround_between_int64 f args Q
theorem Oround_value_ok : ∀ f args Q, Oround_value f args Q → Sound Try.prog f args Q := tab_more Oround_between_int64_ok (f0 := 89) round_value_sh (fun x Q => round_value_d x Q) round_value_snd
noncomputable def Ground_value : Cfg := ⟨Try.prog, tt, Oround_value, fun _ _ _ => False⟩
def round_between_int_t (a0 : Int) (a1 : Int) (a2 : Int) (Q : Int → Prop) : Prop :=
  Q (greater a1 (smaller a0 a2))
structure round_between_int (a0 : Int) (a1 : Int) (a2 : Int) (Q : Int → Prop) : Prop where
  it : round_between_int_t a0 a1 a2 Q
noncomputable def round_between_int_ct : Tab := fun n => none
noncomputable def round_between_int_en : Go.Mach.Ends := fun n => match n with | 2 => some ([], [0, 1, 2]) | 6 => some ([], [6]) | 7 => some ([], [6]) | _ => none
noncomputable def round_between_int_b : Code := Try.f91.body.getD .skip
theorem round_between_int_tab : TabOk Ground_value round_between_int_ct round_between_int_en round_between_int_b := by
  intro n E hn f c hs x k h
  cases hn
def round_between_int_sh : List Sh := [.lf (.int .i64), .lf (.int .i64), .lf (.int .i64)]
def round_between_int_d (x : denS round_between_int_sh) (Q : List (Bool × List VV) → Prop) : Prop := round_between_int x.1 x.2.1 x.2.2.1 (fun (r : Int) => Q (slotsA [(false, (.int .i64))] [.n] (r, ())))
theorem round_between_int_snd (x : denS round_between_int_sh) (Q : List (Bool × List VV) → Prop) (h : round_between_int_d x Q) : Sound Try.prog 91 (packS round_between_int_sh x) Q :=
  vfun_told [.n] (G := Ground_value) (ct := round_between_int_ct) (en := round_between_int_en) (fn := Try.f91) (cd := round_between_int_b) (rt := [(false, (.int .i64))]) Try.func91 (by kernel_rfl) (by kernel_rfl) (Nat.le_of_ble_eq_true rfl) round_between_int_tab Oround_value_ok h.it (by kernel_rfl)
noncomputable def Oround_between_int : FuncId → List VV → (List (Bool × List VV) → Prop) → Prop := fun f args Q => if f = 91 then unA round_between_int_sh args (fun x => round_between_int_d x Q) else Oround_value f args Q
theorem Oround_between_int_ok : ∀ f args Q, Oround_between_int f args Q → Sound Try.prog f args Q := tab_more Oround_value_ok (f0 := 91) round_between_int_sh (fun x Q => round_between_int_d x Q) round_between_int_snd
noncomputable def Ground_between_int : Cfg := ⟨Try.prog, tt, Oround_between_int, fun _ _ _ => False⟩
def round_Align_t (a0 : Int) (a1 : Int) (a2 : Int) (Q : Int → Prop) : Prop :=
  round_value a0 (fun (r1 : Int) => round_between_int a1 (-1000) 1000 (fun (r2 : Int) => round_between_int a2 (-1000) 1000 (fun (r3 : Int) => if (decide ((IntKind.i64.wrap (r2 - r3)) < 0)) = true then ck ((0 : Int) ≤ (smaller (IntKind.i64.wrap (0 - (IntKind.i64.wrap (r2 - r3)))) 62)) (Q ((r1).fdiv (2 ^ (min (smaller (IntKind.i64.wrap (0 - (IntKind.i64.wrap (r2 - r3)))) 62).toNat (IntKind.i64).bits)))) else if ((decide (20 < (IntKind.i64.wrap (r2 - r3)))) && (decide (0 < r1))) = true then Q 1048576 else if ((decide (20 < (IntKind.i64.wrap (r2 - r3)))) && (decide (r1 < 0))) = true then Q (-1048576) else if (decide (20 < (IntKind.i64.wrap (r2 - r3)))) = true then Q 0 else round_between_int64 r1 (-1048576) 1048576 (fun (r4 : Int) => ck ((0 : Int) ≤ (IntKind.i64.wrap (r2 - r3))) (round_between_int64 (IntKind.i64.wrap (r4 * 2 ^ (min (IntKind.i64.wrap (r2 - r3)).toNat (IntKind.i64).bits))) (-1048576) 1048576 (fun (r5 : Int) => Q r5))))))
structure round_Align (a0 : Int) (a1 : Int) (a2 : Int) (Q : Int → Prop) : Prop where
  it : round_Align_t a0 a1 a2 Q
noncomputable def round_Align_ct : Tab := fun n => none
noncomputable def round_Align_en : Go.Mach.Ends := fun n => match n with | 2 => some ([], [0, 1, 2]) | 6 => some ([], [0, 1, 2]) | 14 => some ([], [0, 7]) | 62 => some ([], [6]) | 63 => some ([], [6]) | 120 => some ([], [0, 7, 15]) | 484 => some ([], [6]) | 485 => some ([], [6]) | 486 => some ([], [0, 7, 23]) | 1948 => some ([], [6]) | 1949 => some ([], [6]) | 1950 => some ([], [0, 7, 30]) | 7804 => some ([], [6]) | 7805 => some ([], [6]) | 7806 => some ([], [0, 7, 37]) | 15615 => some ([], [0, 7]) | 31228 => some ([], [6]) | 31229 => some ([], [6]) | _ => none
noncomputable def round_Align_b : Code := Try.f80.body.getD .skip
theorem round_Align_tab : TabOk Ground_between_int round_Align_ct round_Align_en round_Align_b := by
  intro n E hn f c hs x k h
  cases hn
def round_Align_sh : List Sh := [.lf (.int .i64), .lf (.int .i64), .lf (.int .i64)]
def round_Align_d (x : denS round_Align_sh) (Q : List (Bool × List VV) → Prop) : Prop := round_Align x.1 x.2.1 x.2.2.1 (fun (r : Int) => Q (slotsA [(false, (.int .i64))] [.n] (r, ())))
theorem round_Align_snd (x : denS round_Align_sh) (Q : List (Bool × List VV) → Prop) (h : round_Align_d x Q) : Sound Try.prog 80 (packS round_Align_sh x) Q :=
  vfun_told [.n] (G := Ground_between_int) (ct := round_Align_ct) (en := round_Align_en) (fn := Try.f80) (cd := round_Align_b) (rt := [(false, (.int .i64))]) Try.func80 (by kernel_rfl) (by kernel_rfl) (Nat.le_of_ble_eq_true rfl) round_Align_tab Oround_between_int_ok h.it (by kernel_rfl)
noncomputable def Oround_Align : FuncId → List VV → (List (Bool × List VV) → Prop) → Prop := fun f args Q => if f = 80 then unA round_Align_sh args (fun x => round_Align_d x Q) else Oround_between_int f args Q
theorem Oround_Align_ok : ∀ f args Q, Oround_Align f args Q → Sound Try.prog f args Q := tab_more Oround_between_int_ok (f0 := 80) round_Align_sh (fun x Q => round_Align_d x Q) round_Align_snd
noncomputable def Ground_Align : Cfg := ⟨Try.prog, tt, Oround_Align, fun _ _ _ => False⟩
def dense_Forward_1_n0_B (x0 : Int) (x1 : Int) (x2 : Int) (x5 : List Int) (x8 : List Int) (x10 : Int) (K0 : Int → Prop) (s : Int × Int) (nx : (Int × Int) → Prop) : Prop :=
  if (decide (s.2 < x10)) = true then ck ((0 : Int) ≤ (IntKind.i64.wrap ((IntKind.i64.wrap (x0 * x2)) + s.2)) ∧ (IntKind.i64.wrap ((IntKind.i64.wrap (x0 * x2)) + s.2)) < (x5.length : Int)) (ck ((0 : Int) ≤ (IntKind.i64.wrap ((IntKind.i64.wrap (x1 * x2)) + s.2)) ∧ (IntKind.i64.wrap ((IntKind.i64.wrap (x1 * x2)) + s.2)) < (x8.length : Int)) (nx (IntKind.i64.wrap (s.1 + (IntKind.i64.wrap ((IntKind.i64.wrap (x5.getD ((IntKind.i64.wrap ((IntKind.i64.wrap (x0 * x2)) + s.2)).toNat) 0)) * (IntKind.i64.wrap (x8.getD ((IntKind.i64.wrap ((IntKind.i64.wrap (x1 * x2)) + s.2)).toNat) 0))))), IntKind.i64.wrap (s.2 + 1)))) else K0 s.1
structure dense_Forward_1_n0 (x0 : Int) (x1 : Int) (x2 : Int) (x5 : List Int) (x8 : List Int) (x10 : Int) (K0 : Int → Prop) (s : Int × Int) : Prop where
  it : Go.Mach.Loop (dense_Forward_1_n0_B x0 x1 x2 x5 x8 x10 K0) s
def dense_Forward_1_t (a0 : Int) (a1 : Int) (a2 : List Int) (a3 : Int) (a4 : List Int) (a5 : Int) (a6 : Int) (a7 : List Int) (a8 : Int) (a9 : List Int) (a10 : List Int) (a11 : Int) (a12 : List Int) (Q : Int → Prop) : Prop :=
  ck ((0 : Int) ≤ a1 ∧ a1 < (a4.length : Int)) (round_Align (IntKind.i64.wrap (a4.getD ((a1).toNat) 0)) a3 a5 (fun (r1 : Int) => dense_Forward_1_n0 a0 a1 a6 a9 a12 a6 (fun (y2 : Int) => Q y2) (r1, 0)))
structure dense_Forward_1 (a0 : Int) (a1 : Int) (a2 : List Int) (a3 : Int) (a4 : List Int) (a5 : Int) (a6 : Int) (a7 : List Int) (a8 : Int) (a9 : List Int) (a10 : List Int) (a11 : Int) (a12 : List Int) (Q : Int → Prop) : Prop where
  it : dense_Forward_1_t a0 a1 a2 a3 a4 a5 a6 a7 a8 a9 a10 a11 a12 Q
noncomputable def dense_Forward_1_e0 : Ent := ⟨[0, 1, 4, 5, 6, 10, 22, 23], [.lf (.int .i64), .lf (.int .i64), .bx [.int .i64], .bx [.fz false (.int .i64), .int .i64, .fz false (.int .i8)], .bx [.fz false (.int .i64), .int .i64, .fz false (.int .i8)], .lf (.int .i64), .lf (.int .i64), .lf (.int .i64)], [], fun x k => dense_Forward_1_n0 x.1.1 x.1.2.1 x.1.2.2.1.1 x.1.2.2.2.1.2.2.1 x.1.2.2.2.2.1.2.2.1 x.1.2.2.2.2.2.2.1 (fun (y3 : Int) => k (.exit 0) ⟨[(10, .pl (.int .i64 y3))], []⟩) (x.1.2.2.2.2.2.1, x.1.2.2.2.2.2.2.2.1)⟩
noncomputable def dense_Forward_1_ct : Tab := fun n => match n with | 58 => some dense_Forward_1_e0 | _ => none
noncomputable def dense_Forward_1_en : Go.Mach.Ends := fun n => match n with | 2 => some ([], [0, 1, 2, 3, 4, 5, 6]) | 6 => some ([], [0, 1, 4, 5, 6, 10]) | 28 => some ([], [0, 1, 4, 5, 6, 10, 22, 23]) | 30 => some ([], [9]) | 31 => some ([], [9]) | 58 => some ([], [0, 1, 4, 5, 6, 10, 22, 23]) | 232 => some ([], [0, 1, 4, 5, 6, 10, 22, 23, 24]) | 932 => some ([], [0, 1, 4, 5, 6, 10, 22, 23]) | 933 => some ([], [10]) | 935 => some ([], [0, 1, 4, 5, 6, 10, 22, 23]) | 3736 => some ([], [0, 1, 4, 5, 6, 10, 11, 22, 23]) | 3737 => some ([], [0, 1, 4, 5, 6, 10, 22, 23]) | _ => none
noncomputable def dense_Forward_1_b : Code := Try.f79.body.getD .skip
theorem dense_Forward_1_tab : TabOk Ground_Align dense_Forward_1_ct dense_Forward_1_en dense_Forward_1_b := by
  intro n E hn f c hs x k h
  unfold dense_Forward_1_ct at hn
  split at hn
  · cases hn; exact tab_loop2 hs (by kernel_rfl) (fun y : Int × Int => ⟨[(0, .pl (.int .i64 x.1.1)), (1, .pl (.int .i64 x.1.2.1)), (4, .bx [.pl (.int .i64 x.1.2.2.1.1)] 0), (5, .bx [.fz false (.int .i64) x.1.2.2.2.1.1, .pl (.int .i64 x.1.2.2.2.1.2.1), .fz false (.int .i8) x.1.2.2.2.1.2.2.1] 0), (6, .bx [.fz false (.int .i64) x.1.2.2.2.2.1.1, .pl (.int .i64 x.1.2.2.2.2.1.2.1), .fz false (.int .i8) x.1.2.2.2.2.1.2.2.1] 0), (10, .pl (.int .i64 y.1)), (22, .pl (.int .i64 x.1.2.2.2.2.2.2.1)), (23, .pl (.int .i64 y.2))], []⟩) (x.1.2.2.2.2.2.1, x.1.2.2.2.2.2.2.2.1) (by kernel_rfl) (fun y X => by kernel_rfl) h.it
  · cases hn
def dense_Forward_1_sh : List Sh := [.lf (.int .i64), .lf (.int .i64), .bx [.fz false (.int .i64), .int .i64, .fz false (.int .i8)], .bx [.int .i64], .bx [.int .i64], .bx [.fz false (.int .i64), .int .i64, .fz false (.int .i8)], .bx [.fz false (.int .i64), .int .i64, .fz false (.int .i8)]]
def dense_Forward_1_d (x : denS dense_Forward_1_sh) (Q : List (Bool × List VV) → Prop) : Prop := dense_Forward_1 x.1 x.2.1 x.2.2.1.1 x.2.2.1.2.1 x.2.2.1.2.2.1 x.2.2.2.1.1 x.2.2.2.2.1.1 x.2.2.2.2.2.1.1 x.2.2.2.2.2.1.2.1 x.2.2.2.2.2.1.2.2.1 x.2.2.2.2.2.2.1.1 x.2.2.2.2.2.2.1.2.1 x.2.2.2.2.2.2.1.2.2.1 (fun (r : Int) => Q (slotsA [(false, (.int .i64))] [.n] (r, ())))
theorem dense_Forward_1_snd (x : denS dense_Forward_1_sh) (Q : List (Bool × List VV) → Prop) (h : dense_Forward_1_d x Q) : Sound Try.prog 79 (packS dense_Forward_1_sh x) Q :=
  vfun_told [.n] (G := Ground_Align) (ct := dense_Forward_1_ct) (en := dense_Forward_1_en) (fn := Try.f79) (cd := dense_Forward_1_b) (rt := [(false, (.int .i64))]) Try.func79 (by kernel_rfl) (by kernel_rfl) (Nat.le_of_ble_eq_true rfl) dense_Forward_1_tab Oround_Align_ok h.it (by kernel_rfl)
noncomputable def Odense_Forward_1 : FuncId → List VV → (List (Bool × List VV) → Prop) → Prop := fun f args Q => if f = 79 then unA dense_Forward_1_sh args (fun x => dense_Forward_1_d x Q) else Oround_Align f args Q
theorem Odense_Forward_1_ok : ∀ f args Q, Odense_Forward_1 f args Q → Sound Try.prog f args Q := tab_more Oround_Align_ok (f0 := 79) dense_Forward_1_sh (fun x Q => dense_Forward_1_d x Q) dense_Forward_1_snd
noncomputable def Gdense_Forward_1 : Cfg := ⟨Try.prog, tt, Odense_Forward_1, fun _ _ _ => False⟩
def dense_made__dense_Forward_1_n1_B (x1 : List Int) (x2 : Int) (x3 : List Int) (x4 : Int) (x5 : Int) (x6 : List Int) (x7 : Int) (x8 : List Int) (x9 : List Int) (x10 : Int) (x11 : List Int) (x12 : Int) (x15 : Int) (K0 : (List Int) → Prop) (s : Int × List Int) (nx : (Int × List Int) → Prop) : Prop :=
  if (decide (s.1 < x15)) = true then dense_Forward_1 x12 s.1 x1 x2 x3 x4 x5 x6 x7 x8 x9 x10 x11 (fun (r6 : Int) => ck ((s.2.length + [IntKind.i32.wrap r6].length) * 4 ≤ 140737488355328) (nx (IntKind.i64.wrap (s.1 + 1), s.2 ++ [IntKind.i32.wrap r6]))) else K0 s.2
structure dense_made__dense_Forward_1_n1 (x1 : List Int) (x2 : Int) (x3 : List Int) (x4 : Int) (x5 : Int) (x6 : List Int) (x7 : Int) (x8 : List Int) (x9 : List Int) (x10 : Int) (x11 : List Int) (x12 : Int) (x15 : Int) (K0 : (List Int) → Prop) (s : Int × List Int) : Prop where
  it : Go.Mach.Loop (dense_made__dense_Forward_1_n1_B x1 x2 x3 x4 x5 x6 x7 x8 x9 x10 x11 x12 x15 K0) s
def dense_made__dense_Forward_1_n0_B (x0 : Int) (x1 : List Int) (x2 : Int) (x3 : List Int) (x4 : Int) (x5 : Int) (x6 : List Int) (x7 : Int) (x8 : List Int) (x9 : List Int) (x10 : Int) (x11 : List Int) (x12 : Int) (K0 : (List Int) → Prop) (s : Int × List Int) (nx : (Int × List Int) → Prop) : Prop :=
  if (decide (s.1 < x12)) = true then dense_made__dense_Forward_1_n1 x1 x2 x3 x4 x5 x6 x7 x8 x9 x10 x11 s.1 x0 (fun (y6 : List Int) => nx (IntKind.i64.wrap (s.1 + 1), y6)) (0, s.2) else K0 s.2
structure dense_made__dense_Forward_1_n0 (x0 : Int) (x1 : List Int) (x2 : Int) (x3 : List Int) (x4 : Int) (x5 : Int) (x6 : List Int) (x7 : Int) (x8 : List Int) (x9 : List Int) (x10 : Int) (x11 : List Int) (x12 : Int) (K0 : (List Int) → Prop) (s : Int × List Int) : Prop where
  it : Go.Mach.Loop (dense_made__dense_Forward_1_n0_B x0 x1 x2 x3 x4 x5 x6 x7 x8 x9 x10 x11 x12 K0) s
def dense_made__dense_Forward_1_t (a0 : Int) (a1 : Int) (a2 : Int) (a3 : Int) (a4 : List Int) (a5 : Int) (a6 : List Int) (a7 : Int) (a8 : Int) (a9 : List Int) (a10 : Int) (a11 : List Int) (a12 : List Int) (a13 : Int) (a14 : List Int) (Q : (((List Int) × Int × List Int) × Int) → Prop) : Prop :=
  dense_Fits a2 (fun (r1 : Bool) => if (((!r1) || (decide (128 < a3))) || (decide (a3 < (-128)))) = true then Q ((([] : List Int), (0, ([] : List Int))), 3) else shape_May [a0, a1] (fun (r2 : Bool) => if (!r2) = true then Q ((([] : List Int), (0, ([] : List Int))), 1) else dense_made__dense_Forward_1_n0 a1 a4 a5 a6 a7 a8 a9 a10 a11 a12 a13 a14 a0 (fun (y7 : List Int) => Q (([a0, a1], (a3, y7)), 0)) (0, ([] : List Int))))
structure dense_made__dense_Forward_1 (a0 : Int) (a1 : Int) (a2 : Int) (a3 : Int) (a4 : List Int) (a5 : Int) (a6 : List Int) (a7 : Int) (a8 : Int) (a9 : List Int) (a10 : Int) (a11 : List Int) (a12 : List Int) (a13 : Int) (a14 : List Int) (Q : (((List Int) × Int × List Int) × Int) → Prop) : Prop where
  it : dense_made__dense_Forward_1_t a0 a1 a2 a3 a4 a5 a6 a7 a8 a9 a10 a11 a12 a13 a14 Q
noncomputable def dense_made__dense_Forward_1_e0 : Ent := ⟨[1, 4, 10, 12, 39, 40], [.lf (.int .i64), .fn 79 [.bx [.fz false (.int .i64), .int .i64, .fz false (.int .i8)], .bx [.int .i64], .bx [.int .i64], .bx [.fz false (.int .i64), .int .i64, .fz false (.int .i8)], .bx [.fz false (.int .i64), .int .i64, .fz false (.int .i8)]], .lf (.cst (.ptr 0 0)), .lf (.cst (.ptr 1 0)), .lf (.int .i64), .lf (.int .i64)], [.box [.cst (.pl (.slice none 0 0)), .int .i64, .cst (.pl (.slice none 0 0))] false, .box [.cst (.own 2), .int .i64, .cst (.pl (.slice none 0 0))] false, .lst true (.int .i64) false], fun x k => dense_made__dense_Forward_1_n0 x.1.1 x.1.2.1.1.1 x.1.2.1.1.2.1 x.1.2.1.1.2.2.1 x.1.2.1.2.1.1 x.1.2.1.2.2.1.1 x.1.2.1.2.2.2.1.1 x.1.2.1.2.2.2.1.2.1 x.1.2.1.2.2.2.1.2.2.1 x.1.2.1.2.2.2.2.1.1 x.1.2.1.2.2.2.2.1.2.1 x.1.2.1.2.2.2.2.1.2.2.1 x.1.2.2.2.2.1 (fun (y8 : List Int) => k (.exit 1) ⟨[(10, .ptr 0 0), (12, .ptr 1 0)], [.box [.pl (.slice none 0 0), .pl (.int .i64 x.2.1.2.1), .pl (.slice none 0 0)] false, .box [.own 2, .pl (.int .i64 x.2.2.1.2.1), .own 3] false, .lst true (.int .i64) x.2.2.2.1 false, .lst true (.int .i32) y8 false]⟩) (x.1.2.2.2.2.2.1, ([] : List Int))⟩
noncomputable def dense_made__dense_Forward_1_e1 : Ent := ⟨[1, 4, 10, 12, 13, 39, 40, 43, 44], [.lf (.int .i64), .fn 79 [.bx [.fz false (.int .i64), .int .i64, .fz false (.int .i8)], .bx [.int .i64], .bx [.int .i64], .bx [.fz false (.int .i64), .int .i64, .fz false (.int .i8)], .bx [.fz false (.int .i64), .int .i64, .fz false (.int .i8)]], .lf (.cst (.ptr 0 0)), .lf (.cst (.ptr 1 0)), .lf (.int .i64), .lf (.int .i64), .lf (.int .i64), .lf (.int .i64), .lf (.int .i64)], [.box [.cst (.pl (.slice none 0 0)), .int .i64, .cst (.pl (.slice none 0 0))] false, .box [.cst (.own 2), .int .i64, .cst (.own 3)] false, .lst true (.int .i64) false, .lst true (.int .i32) false], fun x k => dense_made__dense_Forward_1_n1 x.1.2.1.1.1 x.1.2.1.1.2.1 x.1.2.1.1.2.2.1 x.1.2.1.2.1.1 x.1.2.1.2.2.1.1 x.1.2.1.2.2.2.1.1 x.1.2.1.2.2.2.1.2.1 x.1.2.1.2.2.2.1.2.2.1 x.1.2.1.2.2.2.2.1.1 x.1.2.1.2.2.2.2.1.2.1 x.1.2.1.2.2.2.2.1.2.2.1 x.1.2.2.2.2.1 x.1.2.2.2.2.2.2.2.1 (fun (y9 : List Int) => k (.exit 3) ⟨[(1, .pl (.int .i64 x.1.1)), (4, .fn 79 [.bx [.fz false (.int .i64) x.1.2.1.1.1, .pl (.int .i64 x.1.2.1.1.2.1), .fz false (.int .i8) x.1.2.1.1.2.2.1] 0, .bx [.pl (.int .i64 x.1.2.1.2.1.1)] 0, .bx [.pl (.int .i64 x.1.2.1.2.2.1.1)] 0, .bx [.fz false (.int .i64) x.1.2.1.2.2.2.1.1, .pl (.int .i64 x.1.2.1.2.2.2.1.2.1), .fz false (.int .i8) x.1.2.1.2.2.2.1.2.2.1] 0, .bx [.fz false (.int .i64) x.1.2.1.2.2.2.2.1.1, .pl (.int .i64 x.1.2.1.2.2.2.2.1.2.1), .fz false (.int .i8) x.1.2.1.2.2.2.2.1.2.2.1] 0]), (10, .ptr 0 0), (12, .ptr 1 0), (39, .pl (.int .i64 x.1.2.2.2.2.2.1)), (40, .pl (.int .i64 x.1.2.2.2.2.2.2.1))], [.box [.pl (.slice none 0 0), .pl (.int .i64 x.2.1.2.1), .pl (.slice none 0 0)] false, .box [.own 2, .pl (.int .i64 x.2.2.1.2.1), .own 3] false, .lst true (.int .i64) x.2.2.2.1 false, .lst true (.int .i32) y9 false]⟩) (x.1.2.2.2.2.2.2.2.2.1, x.2.2.2.2.1)⟩
noncomputable def dense_made__dense_Forward_1_ct : Tab := fun n => match n with | 122 => some dense_made__dense_Forward_1_e0 | 31334 => some dense_made__dense_Forward_1_e1 | _ => none
noncomputable def dense_made__dense_Forward_1_en : Go.Mach.Ends := fun n => match n with | 2 => some ([], [0, 1, 2, 3, 4, 10]) | 6 => some ([], [0, 1, 2, 3, 4, 10, 12]) | 56 => some ([], [0, 1, 4, 10, 12, 20]) | 60 => some ([], [1, 4, 10, 12, 39, 40]) | 62 => some ([], [10, 11]) | 63 => some ([], [10, 11]) | 122 => some ([⟨12, some 2, false, (.int .i32)⟩], [1, 4, 10, 12, 39, 40]) | 228 => some ([], [10, 11]) | 229 => some ([], [10, 11]) | 230 => some ([], [0, 1, 4, 10, 12, 33]) | 463 => some ([], [0, 1, 4, 10, 12]) | 488 => some ([], [1, 4, 10, 12, 39, 40, 41]) | 924 => some ([], [10, 11]) | 925 => some ([], [10, 11]) | 1956 => some ([], [1, 4, 10, 12, 39, 40]) | 1957 => some ([], [10, 12]) | 1959 => some ([], [1, 4, 10, 12, 39, 40]) | 7832 => some ([], [1, 4, 10, 12, 13, 39, 40]) | 15666 => some ([], [1, 4, 10, 12, 13, 39, 40, 43, 44]) | 31334 => some ([⟨12, some 2, false, (.int .i32)⟩], [1, 4, 10, 12, 13, 39, 40, 43, 44]) | 125336 => some ([], [1, 4, 10, 12, 13, 39, 40, 43, 44, 45]) | 501348 => some ([], [1, 4, 10, 12, 13, 39, 40, 43, 44]) | 501349 => some ([], [1, 4, 10, 12, 39, 40]) | 501351 => some ([], [1, 4, 10, 12, 13, 39, 40, 43, 44]) | 2005400 => some ([], [1, 4, 10, 12, 13, 14, 39, 40, 43, 44]) | 2005401 => some ([], [1, 4, 10, 12, 13, 39, 40, 43, 44]) | _ => none
noncomputable def dense_made__dense_Forward_1_b : Code := Try.f78.body.getD .skip
theorem dense_made__dense_Forward_1_tab : TabOk Gdense_Forward_1 dense_made__dense_Forward_1_ct dense_made__dense_Forward_1_en dense_made__dense_Forward_1_b := by
  intro n E hn f c hs x k h
  unfold dense_made__dense_Forward_1_ct at hn
  split at hn
  · cases hn; exact tab_loop2 hs (by kernel_rfl) (fun y : Int × List Int => ⟨[(1, .pl (.int .i64 x.1.1)), (4, .fn 79 [.bx [.fz false (.int .i64) x.1.2.1.1.1, .pl (.int .i64 x.1.2.1.1.2.1), .fz false (.int .i8) x.1.2.1.1.2.2.1] 0, .bx [.pl (.int .i64 x.1.2.1.2.1.1)] 0, .bx [.pl (.int .i64 x.1.2.1.2.2.1.1)] 0, .bx [.fz false (.int .i64) x.1.2.1.2.2.2.1.1, .pl (.int .i64 x.1.2.1.2.2.2.1.2.1), .fz false (.int .i8) x.1.2.1.2.2.2.1.2.2.1] 0, .bx [.fz false (.int .i64) x.1.2.1.2.2.2.2.1.1, .pl (.int .i64 x.1.2.1.2.2.2.2.1.2.1), .fz false (.int .i8) x.1.2.1.2.2.2.2.1.2.2.1] 0]), (10, .ptr 0 0), (12, .ptr 1 0), (39, .pl (.int .i64 x.1.2.2.2.2.1)), (40, .pl (.int .i64 y.1))], [.box [.pl (.slice none 0 0), .pl (.int .i64 x.2.1.2.1), .pl (.slice none 0 0)] false, .box [.own 2, .pl (.int .i64 x.2.2.1.2.1), .own 3] false, .lst true (.int .i64) x.2.2.2.1 false, .lst true (.int .i32) y.2 false]⟩) (x.1.2.2.2.2.2.1, ([] : List Int)) (by kernel_rfl) (fun y X => by kernel_rfl) h.it
  · cases hn; exact tab_loop2 hs (by kernel_rfl) (fun y : Int × List Int => ⟨[(1, .pl (.int .i64 x.1.1)), (4, .fn 79 [.bx [.fz false (.int .i64) x.1.2.1.1.1, .pl (.int .i64 x.1.2.1.1.2.1), .fz false (.int .i8) x.1.2.1.1.2.2.1] 0, .bx [.pl (.int .i64 x.1.2.1.2.1.1)] 0, .bx [.pl (.int .i64 x.1.2.1.2.2.1.1)] 0, .bx [.fz false (.int .i64) x.1.2.1.2.2.2.1.1, .pl (.int .i64 x.1.2.1.2.2.2.1.2.1), .fz false (.int .i8) x.1.2.1.2.2.2.1.2.2.1] 0, .bx [.fz false (.int .i64) x.1.2.1.2.2.2.2.1.1, .pl (.int .i64 x.1.2.1.2.2.2.2.1.2.1), .fz false (.int .i8) x.1.2.1.2.2.2.2.1.2.2.1] 0]), (10, .ptr 0 0), (12, .ptr 1 0), (13, .pl (.int .i64 x.1.2.2.2.2.1)), (39, .pl (.int .i64 x.1.2.2.2.2.2.1)), (40, .pl (.int .i64 x.1.2.2.2.2.2.2.1)), (43, .pl (.int .i64 x.1.2.2.2.2.2.2.2.1)), (44, .pl (.int .i64 y.1))], [.box [.pl (.slice none 0 0), .pl (.int .i64 x.2.1.2.1), .pl (.slice none 0 0)] false, .box [.own 2, .pl (.int .i64 x.2.2.1.2.1), .own 3] false, .lst true (.int .i64) x.2.2.2.1 false, .lst true (.int .i32) y.2 false]⟩) (x.1.2.2.2.2.2.2.2.2.1, x.2.2.2.2.1) (by kernel_rfl) (fun y X => by kernel_rfl) h.it
  · cases hn
def dense_made__dense_Forward_1_sh : List Sh := [.lf (.int .i64), .lf (.int .i64), .lf (.int .i64), .lf (.int .i64), .fn 79 [.bx [.fz false (.int .i64), .int .i64, .fz false (.int .i8)], .bx [.int .i64], .bx [.int .i64], .bx [.fz false (.int .i64), .int .i64, .fz false (.int .i8)], .bx [.fz false (.int .i64), .int .i64, .fz false (.int .i8)]]]
def dense_made__dense_Forward_1_d (x : denS dense_made__dense_Forward_1_sh) (Q : List (Bool × List VV) → Prop) : Prop := dense_made__dense_Forward_1 x.1 x.2.1 x.2.2.1 x.2.2.2.1 x.2.2.2.2.1.1.1 x.2.2.2.2.1.1.2.1 x.2.2.2.2.1.1.2.2.1 x.2.2.2.2.1.2.1.1 x.2.2.2.2.1.2.2.1.1 x.2.2.2.2.1.2.2.2.1.1 x.2.2.2.2.1.2.2.2.1.2.1 x.2.2.2.2.1.2.2.2.1.2.2.1 x.2.2.2.2.1.2.2.2.2.1.1 x.2.2.2.2.1.2.2.2.2.1.2.1 x.2.2.2.2.1.2.2.2.2.1.2.2.1 (fun (r : ((List Int) × Int × List Int) × Int) => Q (slotsA [(true, (.pair (.slc (.int .i64)) (.pair (.int .i64) (.slc (.int .i32))))), (false, (.int .i64))] [.n, .n] (r.1, (r.2, ()))))
theorem dense_made__dense_Forward_1_snd (x : denS dense_made__dense_Forward_1_sh) (Q : List (Bool × List VV) → Prop) (h : dense_made__dense_Forward_1_d x Q) : Sound Try.prog 78 (packS dense_made__dense_Forward_1_sh x) Q :=
  vfun_told [.n, .n] (G := Gdense_Forward_1) (ct := dense_made__dense_Forward_1_ct) (en := dense_made__dense_Forward_1_en) (fn := Try.f78) (cd := dense_made__dense_Forward_1_b) (rt := [(true, (.pair (.slc (.int .i64)) (.pair (.int .i64) (.slc (.int .i32))))), (false, (.int .i64))]) Try.func78 (by kernel_rfl) (by kernel_rfl) (Nat.le_of_ble_eq_true rfl) dense_made__dense_Forward_1_tab Odense_Forward_1_ok h.it (by kernel_rfl)
noncomputable def Odense_made__dense_Forward_1 : FuncId → List VV → (List (Bool × List VV) → Prop) → Prop := fun f args Q => if f = 78 then (if eqNs (fnsOf args) [79] = true then unA dense_made__dense_Forward_1_sh args (fun x => dense_made__dense_Forward_1_d x Q) else Odense_Forward_1 f args Q) else Odense_Forward_1 f args Q
theorem Odense_made__dense_Forward_1_ok : ∀ f args Q, Odense_made__dense_Forward_1 f args Q → Sound Try.prog f args Q := tab_moreF Odense_Forward_1_ok (f0 := 78) [79] dense_made__dense_Forward_1_sh (fun x Q => dense_made__dense_Forward_1_d x Q) dense_made__dense_Forward_1_snd
noncomputable def Gdense_made__dense_Forward_1 : Cfg := ⟨Try.prog, tt, Odense_made__dense_Forward_1, fun _ _ _ => False⟩
def dense_Forward_t (a0 : (List Int) × Int × List Int) (a1 : (List Int) × Int × List Int) (a2 : (List Int) × Int × List Int) (Q : (((List Int) × Int × List Int) × Int) → Prop) : Prop :=
  tensor_May (a2.1, (a2.2.1, a2.2.2)) (fun (r1 : Bool) => if (!r1) = true then Q ((([] : List Int), (0, ([] : List Int))), 1) else dense_may 2 [(a0.1, (a0.2.1, a0.2.2)), (a1.1, (a1.2.1, a1.2.2))] (fun (r2 : Int) => if (r2 != 0) = true then Q ((([] : List Int), (0, ([] : List Int))), r2) else ck ((0 : Int) ≤ 0 ∧ 0 < (a0.1.length : Int)) (ck ((0 : Int) ≤ 1 ∧ 1 < (a0.1.length : Int)) (ck ((0 : Int) ≤ 0 ∧ 0 < (a1.1.length : Int)) (ck ((0 : Int) ≤ 1 ∧ 1 < (a1.1.length : Int)) (jn (fun (v3 : Bool) => if v3 = true then Q ((([] : List Int), (0, ([] : List Int))), 2) else dense_made__dense_Forward_1 (a0.1.getD 0 0) (a1.1.getD 0 0) (a0.1.getD 1 0) (IntKind.i64.wrap (a0.2.1 + a1.2.1)) a2.1 a2.2.1 a2.2.2 (IntKind.i64.wrap (a0.2.1 + a1.2.1)) (a0.1.getD 1 0) a0.1 a0.2.1 a0.2.2 a1.1 a1.2.1 a1.2.2 (fun (r5 : ((List Int) × Int × List Int) × Int) => Q ((r5.1.1, (r5.1.2.1, r5.1.2.2)), r5.2))) (fun J4 => if (((a1.1.getD 1 0) != (a0.1.getD 1 0)) || ((a2.1.length : Int) != 1)) = true then J4 true else ck ((0 : Int) ≤ 0 ∧ 0 < (a2.1.length : Int)) (J4 ((a2.1.getD 0 0) != (a1.1.getD 0 0))))))))))
structure dense_Forward (a0 : (List Int) × Int × List Int) (a1 : (List Int) × Int × List Int) (a2 : (List Int) × Int × List Int) (Q : (((List Int) × Int × List Int) × Int) → Prop) : Prop where
  it : dense_Forward_t a0 a1 a2 Q
noncomputable def dense_Forward_ct : Tab := fun n => none
noncomputable def dense_Forward_en : Go.Mach.Ends := fun n => match n with | 2 => some ([], [3, 4, 5, 6]) | 12 => some ([], [3, 4, 5, 6, 15]) | 27 => some ([], [3, 4, 5, 6]) | 28 => some ([], [3, 4, 5, 6, 8]) | 30 => some ([], [3, 4, 5, 6, 9, 10, 11]) | 52 => some ([], [6, 7]) | 53 => some ([], [6, 7]) | 58 => some ([], [3, 4, 5, 6, 8, 22]) | 119 => some ([], [3, 4, 5, 6]) | 124 => some ([], [3, 4, 5, 6, 9, 10, 11, 56]) | 126 => some ([], [3, 4, 5, 6, 9, 10, 11, 12]) | 236 => some ([], [6, 7]) | 237 => some ([], [6, 7]) | 251 => some ([], [3, 4, 5, 6, 9, 10, 11]) | 254 => some ([], [6, 7]) | 255 => some ([], [6, 7]) | 500 => some ([], [6, 7]) | 501 => some ([], [6, 7]) | _ => none
noncomputable def dense_Forward_b : Code := Try.f57.body.getD .skip
theorem dense_Forward_tab : TabOk Gdense_made__dense_Forward_1 dense_Forward_ct dense_Forward_en dense_Forward_b := by
  intro n E hn f c hs x k h
  cases hn
def dense_Forward_sh : List Sh := [.agg [.fz false (.int .i64), .int .i64, .fz false (.int .i8)], .agg [.fz false (.int .i64), .int .i64, .fz false (.int .i8)], .agg [.fz false (.int .i64), .int .i64, .fz false (.int .i8)]]
def dense_Forward_d (x : denS dense_Forward_sh) (Q : List (Bool × List VV) → Prop) : Prop := dense_Forward (x.1.1, (x.1.2.1, x.1.2.2.1)) (x.2.1.1, (x.2.1.2.1, x.2.1.2.2.1)) (x.2.2.1.1, (x.2.2.1.2.1, x.2.2.1.2.2.1)) (fun (r : ((List Int) × Int × List Int) × Int) => Q (slotsA [(true, (.pair (.slc (.int .i64)) (.pair (.int .i64) (.slc (.int .i32))))), (false, (.int .i64))] [.n, .n] (r.1, (r.2, ()))))
theorem dense_Forward_snd (x : denS dense_Forward_sh) (Q : List (Bool × List VV) → Prop) (h : dense_Forward_d x Q) : Sound Try.prog 57 (packS dense_Forward_sh x) Q :=
  vfun_told [.n, .n] (G := Gdense_made__dense_Forward_1) (ct := dense_Forward_ct) (en := dense_Forward_en) (fn := Try.f57) (cd := dense_Forward_b) (rt := [(true, (.pair (.slc (.int .i64)) (.pair (.int .i64) (.slc (.int .i32))))), (false, (.int .i64))]) Try.func57 (by kernel_rfl) (by kernel_rfl) (Nat.le_of_ble_eq_true rfl) dense_Forward_tab Odense_made__dense_Forward_1_ok h.it (by kernel_rfl)
noncomputable def Odense_Forward : FuncId → List VV → (List (Bool × List VV) → Prop) → Prop := fun f args Q => if f = 57 then unA dense_Forward_sh args (fun x => dense_Forward_d x Q) else Odense_made__dense_Forward_1 f args Q
theorem Odense_Forward_ok : ∀ f args Q, Odense_Forward f args Q → Sound Try.prog f args Q := tab_more Odense_made__dense_Forward_1_ok (f0 := 57) dense_Forward_sh (fun x Q => dense_Forward_d x Q) dense_Forward_snd
noncomputable def Gdense_Forward : Cfg := ⟨Try.prog, tt, Odense_Forward, fun _ _ _ => False⟩
end Go.Proofs.Yteencpiamangfaa
