/- Plain texts of functions, as the value machine comes to them. No condition. -/
import Derived.Test.YtlbapaelkdpjcaaVFun3
import Derived.Test.YtlbapaelkdpjcaaProg
import Derived.KernelRfl
namespace Go.Proofs.Ytlbapaelkdpjcaa
open Go.Mach
set_option maxRecDepth 100000
set_option linter.unusedVariables false
noncomputable def tt : TypeId → Option Ty := fun t => match t with
  | 2 => some (.int .i64)
  | 3 => some (.int .i64)
  | 4 => some .bool
  | 5 => some (.int .u8)
  | 6 => some (.int .u8)
  | 7 => some (.pair (.int .i64) (.pair (.int .i64) (.pair .bool (.int .u8))))
  | 8 => some (.pair (.int .i64) (.pair (.int .i64) (.pair .bool (.int .u8))))
  | 9 => some .str
  | 10 => some .str
  | 11 => some .str
  | 12 => some (.int .u64)
  | 13 => some (.pair .str (.int .u64))
  | 14 => some (.pair .str (.int .u64))
  | 21 => some (.int .i32)
  | 22 => some (.slc (.int .i8))
  | 23 => some (.int .u64)
  | 24 => some (.slc (.int .i64))
  | 25 => some (.pair (.slc (.int .i64)) (.pair (.int .i64) (.slc (.int .i8))))
  | 26 => some (.pair (.slc (.int .i64)) (.pair (.int .i64) (.slc (.int .i8))))
  | 29 => some (.slc (.int .i32))
  | 30 => some (.pair (.slc (.int .i64)) (.pair (.int .i64) (.slc (.int .i32))))
  | 31 => some (.pair (.slc (.int .i64)) (.pair (.int .i64) (.slc (.int .i32))))
  | 32 => some (.int .i64)
  | 36 => some (.int .i8)
  | 56 => some (.pair (.pair (.slc (.int .i64)) (.pair (.int .i64) (.slc (.int .i8)))) (.pair (.slc (.int .i32)) (.pair (.slc (.int .i64)) (.pair (.int .i64) (.slc (.int .i8))))))
  | 57 => some (.pair (.pair (.slc (.int .i64)) (.pair (.int .i64) (.slc (.int .i8)))) (.pair (.slc (.int .i32)) (.pair (.slc (.int .i64)) (.pair (.int .i64) (.slc (.int .i8))))))
  | 58 => some (.pair .bool (.pair (.pair (.slc (.int .i64)) (.pair (.int .i64) (.slc (.int .i32)))) (.pair (.slc (.int .i64)) (.pair (.int .i64) (.slc (.int .i32))))))
  | 59 => some (.pair .bool (.pair (.pair (.slc (.int .i64)) (.pair (.int .i64) (.slc (.int .i32)))) (.pair (.slc (.int .i64)) (.pair (.int .i64) (.slc (.int .i32))))))
  | 60 => some (.pair (.int .i64) (.pair (.int .i64) (.pair (.int .i64) (.pair (.int .i64) (.pair (.int .i64) (.int .i64))))))
  | 61 => some (.pair (.int .i64) (.pair (.int .i64) (.pair (.int .i64) (.pair (.int .i64) (.pair (.int .i64) (.int .i64))))))
  | 66 => some (.slc (.pair (.pair (.slc (.int .i64)) (.pair (.int .i64) (.slc (.int .i8)))) (.pair (.slc (.int .i32)) (.pair (.slc (.int .i64)) (.pair (.int .i64) (.slc (.int .i8)))))))
  | 72 => some (.slc (.int .i64))
  | 79 => some (.slc (.pair .bool (.pair (.pair (.slc (.int .i64)) (.pair (.int .i64) (.slc (.int .i32)))) (.pair (.slc (.int .i64)) (.pair (.int .i64) (.slc (.int .i32)))))))
  | 98 => some (.slc (.pair (.slc (.int .i64)) (.pair (.int .i64) (.slc (.int .i8)))))
  | 100 => some (.int .u64)
  | 105 => some (.pair (.pair (.int .i64) (.pair (.int .i64) (.pair (.int .i64) (.pair (.int .i64) (.pair (.int .i64) (.int .i64)))))) (.pair (.int .u64) (.pair (.int .i64) (.int .i64))))
  | 106 => some (.pair (.pair (.int .i64) (.pair (.int .i64) (.pair (.int .i64) (.pair (.int .i64) (.pair (.int .i64) (.int .i64)))))) (.pair (.int .u64) (.pair (.int .i64) (.int .i64))))
  | 119 => some (.slc (.slc (.int .i8)))
  | 144 => some (.int .u32)
  | 145 => some (.int .u8)
  | 146 => some (.int .u8)
  | 149 => some (.int .i32)
  | 150 => some (.int .i32)
  | _ => none
noncomputable def O_ : FuncId → List VV → (List (Bool × List VV) → Prop) → Prop := fun _ _ _ => False
theorem O__ok : ∀ f args Q, O_ f args Q → Sound Try.prog f args Q := fun _ _ _ h => h.elim
noncomputable def G_ : Cfg := ⟨Try.prog, tt, O_, fun _ _ _ => False⟩
def shape_Size_n122_B (x122_1 : List Int) (x122_2 : Int) (K0 : Int → Prop) (K1 : Unit → Prop) (s : Int × Int) (nx : (Int × Int) → Prop) : Prop :=
  if (decide (s.2 < x122_2)) = true then ck ((0 : Int) ≤ s.2 ∧ s.2 < (x122_1.length : Int)) (if (((decide ((x122_1.getD ((s.2).toNat) 0) < 1)) || (decide (4096 < (x122_1.getD ((s.2).toNat) 0)))) || (decide (8192 < (IntKind.i64.wrap (s.1 * (x122_1.getD ((s.2).toNat) 0)))))) = true then K1 () else nx (IntKind.i64.wrap (s.1 * (x122_1.getD ((s.2).toNat) 0)), IntKind.i64.wrap (s.2 + 1))) else K0 s.1
def shape_Size_n122 (x122_1 : List Int) (x122_2 : Int) (K0 : Int → Prop) (K1 : Unit → Prop) (s : Int × Int) : Prop := Go.Mach.Loop (shape_Size_n122_B x122_1 x122_2 K0 K1) s
def shape_Size (a0 : List Int) (Q : Int → Prop) : Prop :=
  if ((decide ((a0.length : Int) < 1)) || (decide (4 < (a0.length : Int)))) = true then Q 0 else shape_Size_n122 a0 (a0.length : Int) (fun (y1 : Int) => Q y1) (fun (y2 : Unit) => Q 0) (1, 0)
noncomputable def shape_Size_e122 : Ent := ⟨[3, 14, 15, 16], [.lf (.int .i64), .lf (.fz false (.int .i64)), .lf (.int .i64), .lf (.int .i64)], [], fun x k => shape_Size_n122 x.1.2.1 x.1.2.2.1 (fun (y3 : Int) => k (.exit 0) ⟨[(3, .pl (.int .i64 y3))], []⟩) (fun (y4 : Unit) => k .ret ⟨[(2, .pl (.int .i64 0))], []⟩) (x.1.1, x.1.2.2.2.1)⟩
noncomputable def shape_Size_ct : Tab := fun n => match n with | 122 => some shape_Size_e122 | _ => none
noncomputable def shape_Size_en : Go.Mach.Ends := fun n => match n with | 2 => some ([], [0]) | 12 => some ([], [0, 13]) | 14 => some ([], [0, 3]) | 27 => some ([], [0]) | 52 => some ([], [2]) | 53 => some ([], [2]) | 60 => some ([], [3, 14, 15, 16]) | 62 => some ([], [2]) | 63 => some ([], [2]) | 122 => some ([], [3, 14, 15, 16]) | 488 => some ([], [3, 14, 15, 16, 17]) | 1956 => some ([], [3, 14, 15, 16]) | 1957 => some ([], [3]) | 1959 => some ([], [3, 14, 15, 16]) | 7832 => some ([], [3, 5, 14, 15, 16]) | 15667 => some ([], [3, 14, 15, 16]) | 31332 => some ([], [3, 5, 14, 15, 16, 31]) | 62667 => some ([], [3, 5, 14, 15, 16]) | 125332 => some ([], [2]) | 125333 => some ([], [2]) | _ => none
noncomputable def shape_Size_b : Code := Try.f62.body.getD .skip
theorem shape_Size_tab : TabOk G_ shape_Size_ct shape_Size_en shape_Size_b := by
  intro n E hn f c hs x k h
  unfold shape_Size_ct at hn
  split at hn
  · cases hn
    have e := subC_det hs (show subC 70 shape_Size_b 122 = some ((subC 70 shape_Size_b 122).getD .skip) by kernel_rfl)
    subst e
    exact tab_loop (b := (subC 70 shape_Size_b 244).getD .skip) (by kernel_rfl) (fun y : Int × Int => ⟨[(3, .pl (.int .i64 y.1)), (14, .fz false (.int .i64) x.1.2.1), (15, .pl (.int .i64 x.1.2.2.1)), (16, .pl (.int .i64 y.2))], []⟩) (x.1.1, x.1.2.2.2.1) (B := shape_Size_n122_B x.1.2.1 x.1.2.2.1 (fun (y5 : Int) => k (.exit 0) ⟨[(3, .pl (.int .i64 y5))], []⟩) (fun (y6 : Unit) => k .ret ⟨[(2, .pl (.int .i64 0))], []⟩)) (by kernel_rfl) (fun y X => by kernel_rfl) h
  · cases hn
theorem shape_Size_snd (x : denS [.lf (.fz false (.int .i64))]) (Q : List (Bool × List VV) → Prop) (h : shape_Size x.1 (fun (r : Int) => Q (slotsA [(false, (.int .i64))] [.n] (r, ())))) : Sound Try.prog 62 (packS [.lf (.fz false (.int .i64))] x) Q :=
  vfun_told [.n] (G := G_) (ct := shape_Size_ct) (en := shape_Size_en) (fn := Try.f62) (cd := shape_Size_b) (rt := [(false, (.int .i64))]) Try.func62 (by kernel_rfl) (by kernel_rfl) (Nat.le_of_ble_eq_true rfl) shape_Size_tab O__ok h (by kernel_rfl)
noncomputable def Oshape_Size : FuncId → List VV → (List (Bool × List VV) → Prop) → Prop := fun f args Q => if f = 62 then unA [.lf (.fz false (.int .i64))] args (fun x => shape_Size x.1 (fun (r : Int) => Q (slotsA [(false, (.int .i64))] [.n] (r, ())))) else O_ f args Q
theorem Oshape_Size_ok : ∀ f args Q, Oshape_Size f args Q → Sound Try.prog f args Q := tab_more O__ok (f0 := 62) [.lf (.fz false (.int .i64))] (fun x Q => shape_Size x.1 (fun (r : Int) => Q (slotsA [(false, (.int .i64))] [.n] (r, ())))) shape_Size_snd
noncomputable def Gshape_Size : Cfg := ⟨Try.prog, tt, Oshape_Size, fun _ _ _ => False⟩
def shape_May (a0 : List Int) (Q : Bool → Prop) : Prop :=
  shape_Size a0 (fun (r1 : Int) => Q (decide (0 < r1)))
noncomputable def shape_May_ct : Tab := fun n => none
noncomputable def shape_May_en : Go.Mach.Ends := fun n => match n with | 2 => some ([], [0]) | 6 => some ([], [2]) | 7 => some ([], [2]) | _ => none
noncomputable def shape_May_b : Code := Try.f65.body.getD .skip
theorem shape_May_tab : TabOk Gshape_Size shape_May_ct shape_May_en shape_May_b := by
  intro n E hn f c hs x k h
  cases hn
theorem shape_May_snd (x : denS [.lf (.fz false (.int .i64))]) (Q : List (Bool × List VV) → Prop) (h : shape_May x.1 (fun (r : Bool) => Q (slotsA [(false, .bool)] [.n] (r, ())))) : Sound Try.prog 65 (packS [.lf (.fz false (.int .i64))] x) Q :=
  vfun_told [.n] (G := Gshape_Size) (ct := shape_May_ct) (en := shape_May_en) (fn := Try.f65) (cd := shape_May_b) (rt := [(false, .bool)]) Try.func65 (by kernel_rfl) (by kernel_rfl) (Nat.le_of_ble_eq_true rfl) shape_May_tab Oshape_Size_ok h (by kernel_rfl)
noncomputable def Oshape_May : FuncId → List VV → (List (Bool × List VV) → Prop) → Prop := fun f args Q => if f = 65 then unA [.lf (.fz false (.int .i64))] args (fun x => shape_May x.1 (fun (r : Bool) => Q (slotsA [(false, .bool)] [.n] (r, ())))) else Oshape_Size f args Q
theorem Oshape_May_ok : ∀ f args Q, Oshape_May f args Q → Sound Try.prog f args Q := tab_more Oshape_Size_ok (f0 := 65) [.lf (.fz false (.int .i64))] (fun x Q => shape_May x.1 (fun (r : Bool) => Q (slotsA [(false, .bool)] [.n] (r, ())))) shape_May_snd
noncomputable def Gshape_May : Cfg := ⟨Try.prog, tt, Oshape_May, fun _ _ _ => False⟩
def tensor_exp (a0 : Int) (a1 : Int) (Q : Bool → Prop) : Prop :=
  Q ((decide ((IntKind.i64.wrap (0 - a1)) ≤ a0)) && (decide (a0 ≤ a1)))
noncomputable def tensor_exp_ct : Tab := fun n => none
noncomputable def tensor_exp_en : Go.Mach.Ends := fun n => match n with | 2 => some ([], [0, 1]) | 6 => some ([], [4]) | 7 => some ([], [4]) | _ => none
noncomputable def tensor_exp_b : Code := Try.f64.body.getD .skip
theorem tensor_exp_tab : TabOk Gshape_May tensor_exp_ct tensor_exp_en tensor_exp_b := by
  intro n E hn f c hs x k h
  cases hn
theorem tensor_exp_snd (x : denS [.lf (.int .i64), .lf (.int .i64)]) (Q : List (Bool × List VV) → Prop) (h : tensor_exp x.1 x.2.1 (fun (r : Bool) => Q (slotsA [(false, .bool)] [.n] (r, ())))) : Sound Try.prog 64 (packS [.lf (.int .i64), .lf (.int .i64)] x) Q :=
  vfun_told [.n] (G := Gshape_May) (ct := tensor_exp_ct) (en := tensor_exp_en) (fn := Try.f64) (cd := tensor_exp_b) (rt := [(false, .bool)]) Try.func64 (by kernel_rfl) (by kernel_rfl) (Nat.le_of_ble_eq_true rfl) tensor_exp_tab Oshape_May_ok h (by kernel_rfl)
noncomputable def Otensor_exp : FuncId → List VV → (List (Bool × List VV) → Prop) → Prop := fun f args Q => if f = 64 then unA [.lf (.int .i64), .lf (.int .i64)] args (fun x => tensor_exp x.1 x.2.1 (fun (r : Bool) => Q (slotsA [(false, .bool)] [.n] (r, ())))) else Oshape_May f args Q
theorem Otensor_exp_ok : ∀ f args Q, Otensor_exp f args Q → Sound Try.prog f args Q := tab_more Oshape_May_ok (f0 := 64) [.lf (.int .i64), .lf (.int .i64)] (fun x Q => tensor_exp x.1 x.2.1 (fun (r : Bool) => Q (slotsA [(false, .bool)] [.n] (r, ())))) tensor_exp_snd
noncomputable def Gtensor_exp : Cfg := ⟨Try.prog, tt, Otensor_exp, fun _ _ _ => False⟩
def round_between_int (a0 : Int) (a1 : Int) (a2 : Int) (Q : Int → Prop) : Prop :=
  Q (greater a1 (smaller a0 a2))
noncomputable def round_between_int_ct : Tab := fun n => none
noncomputable def round_between_int_en : Go.Mach.Ends := fun n => match n with | 2 => some ([], [0, 1, 2]) | 6 => some ([], [6]) | 7 => some ([], [6]) | _ => none
noncomputable def round_between_int_b : Code := Try.f102.body.getD .skip
theorem round_between_int_tab : TabOk Gtensor_exp round_between_int_ct round_between_int_en round_between_int_b := by
  intro n E hn f c hs x k h
  cases hn
theorem round_between_int_snd (x : denS [.lf (.int .i64), .lf (.int .i64), .lf (.int .i64)]) (Q : List (Bool × List VV) → Prop) (h : round_between_int x.1 x.2.1 x.2.2.1 (fun (r : Int) => Q (slotsA [(false, (.int .i64))] [.n] (r, ())))) : Sound Try.prog 102 (packS [.lf (.int .i64), .lf (.int .i64), .lf (.int .i64)] x) Q :=
  vfun_told [.n] (G := Gtensor_exp) (ct := round_between_int_ct) (en := round_between_int_en) (fn := Try.f102) (cd := round_between_int_b) (rt := [(false, (.int .i64))]) Try.func102 (by kernel_rfl) (by kernel_rfl) (Nat.le_of_ble_eq_true rfl) round_between_int_tab Otensor_exp_ok h (by kernel_rfl)
noncomputable def Oround_between_int : FuncId → List VV → (List (Bool × List VV) → Prop) → Prop := fun f args Q => if f = 102 then unA [.lf (.int .i64), .lf (.int .i64), .lf (.int .i64)] args (fun x => round_between_int x.1 x.2.1 x.2.2.1 (fun (r : Int) => Q (slotsA [(false, (.int .i64))] [.n] (r, ())))) else Otensor_exp f args Q
theorem Oround_between_int_ok : ∀ f args Q, Oround_between_int f args Q → Sound Try.prog f args Q := tab_more Otensor_exp_ok (f0 := 102) [.lf (.int .i64), .lf (.int .i64), .lf (.int .i64)] (fun x Q => round_between_int x.1 x.2.1 x.2.2.1 (fun (r : Int) => Q (slotsA [(false, (.int .i64))] [.n] (r, ())))) round_between_int_snd
noncomputable def Ground_between_int : Cfg := ⟨Try.prog, tt, Oround_between_int, fun _ _ _ => False⟩
def round_between_int64 (a0 : Int) (a1 : Int) (a2 : Int) (Q : Int → Prop) : Prop :=
  Q (greater a1 (smaller a0 a2))
noncomputable def round_between_int64_ct : Tab := fun n => none
noncomputable def round_between_int64_en : Go.Mach.Ends := fun n => match n with | 2 => some ([], [0, 1, 2]) | 6 => some ([], [6]) | 7 => some ([], [6]) | _ => none
noncomputable def round_between_int64_b : Code := Try.f103.body.getD .skip
theorem round_between_int64_tab : TabOk Ground_between_int round_between_int64_ct round_between_int64_en round_between_int64_b := by
  intro n E hn f c hs x k h
  cases hn
theorem round_between_int64_snd (x : denS [.lf (.int .i64), .lf (.int .i64), .lf (.int .i64)]) (Q : List (Bool × List VV) → Prop) (h : round_between_int64 x.1 x.2.1 x.2.2.1 (fun (r : Int) => Q (slotsA [(false, (.int .i64))] [.n] (r, ())))) : Sound Try.prog 103 (packS [.lf (.int .i64), .lf (.int .i64), .lf (.int .i64)] x) Q :=
  vfun_told [.n] (G := Ground_between_int) (ct := round_between_int64_ct) (en := round_between_int64_en) (fn := Try.f103) (cd := round_between_int64_b) (rt := [(false, (.int .i64))]) Try.func103 (by kernel_rfl) (by kernel_rfl) (Nat.le_of_ble_eq_true rfl) round_between_int64_tab Oround_between_int_ok h (by kernel_rfl)
noncomputable def Oround_between_int64 : FuncId → List VV → (List (Bool × List VV) → Prop) → Prop := fun f args Q => if f = 103 then unA [.lf (.int .i64), .lf (.int .i64), .lf (.int .i64)] args (fun x => round_between_int64 x.1 x.2.1 x.2.2.1 (fun (r : Int) => Q (slotsA [(false, (.int .i64))] [.n] (r, ())))) else Oround_between_int f args Q
theorem Oround_between_int64_ok : ∀ f args Q, Oround_between_int64 f args Q → Sound Try.prog f args Q := tab_more Oround_between_int_ok (f0 := 103) [.lf (.int .i64), .lf (.int .i64), .lf (.int .i64)] (fun x Q => round_between_int64 x.1 x.2.1 x.2.2.1 (fun (r : Int) => Q (slotsA [(false, (.int .i64))] [.n] (r, ())))) round_between_int64_snd
noncomputable def Ground_between_int64 : Cfg := ⟨Try.prog, tt, Oround_between_int64, fun _ _ _ => False⟩
def round_value (a0 : Int) (Q : Int → Prop) : Prop :=
  round_between_int64 a0 (-4611686018427387904) 4611686018427387904 (fun (r1 : Int) => Q r1)
noncomputable def round_value_ct : Tab := fun n => none
noncomputable def round_value_en : Go.Mach.Ends := fun n => match n with | 2 => some ([], [0]) | 6 => some ([], [2]) | 7 => some ([], [2]) | _ => none
noncomputable def round_value_b : Code := Try.f99.body.getD .skip
theorem round_value_tab : TabOk Ground_between_int64 round_value_ct round_value_en round_value_b := by
  intro n E hn f c hs x k h
  cases hn
theorem round_value_snd (x : denS [.lf (.int .i64)]) (Q : List (Bool × List VV) → Prop) (h : round_value x.1 (fun (r : Int) => Q (slotsA [(false, (.int .i64))] [.n] (r, ())))) : Sound Try.prog 99 (packS [.lf (.int .i64)] x) Q :=
  vfun_told [.n] (G := Ground_between_int64) (ct := round_value_ct) (en := round_value_en) (fn := Try.f99) (cd := round_value_b) (rt := [(false, (.int .i64))]) Try.func99 (by kernel_rfl) (by kernel_rfl) (Nat.le_of_ble_eq_true rfl) round_value_tab Oround_between_int64_ok h (by kernel_rfl)
noncomputable def Oround_value : FuncId → List VV → (List (Bool × List VV) → Prop) → Prop := fun f args Q => if f = 99 then unA [.lf (.int .i64)] args (fun x => round_value x.1 (fun (r : Int) => Q (slotsA [(false, (.int .i64))] [.n] (r, ())))) else Oround_between_int64 f args Q
theorem Oround_value_ok : ∀ f args Q, Oround_value f args Q → Sound Try.prog f args Q := tab_more Oround_between_int64_ok (f0 := 99) [.lf (.int .i64)] (fun x Q => round_value x.1 (fun (r : Int) => Q (slotsA [(false, (.int .i64))] [.n] (r, ())))) round_value_snd
noncomputable def Ground_value : Cfg := ⟨Try.prog, tt, Oround_value, fun _ _ _ => False⟩
def round_shift (a0 : Int) (Q : Int → Prop) : Prop :=
  round_between_int a0 0 62 (fun (r1 : Int) => Q r1)
noncomputable def round_shift_ct : Tab := fun n => none
noncomputable def round_shift_en : Go.Mach.Ends := fun n => match n with | 2 => some ([], [0]) | 6 => some ([], [2]) | 7 => some ([], [2]) | _ => none
noncomputable def round_shift_b : Code := Try.f98.body.getD .skip
theorem round_shift_tab : TabOk Ground_value round_shift_ct round_shift_en round_shift_b := by
  intro n E hn f c hs x k h
  cases hn
theorem round_shift_snd (x : denS [.lf (.int .i64)]) (Q : List (Bool × List VV) → Prop) (h : round_shift x.1 (fun (r : Int) => Q (slotsA [(false, (.int .i64))] [.n] (r, ())))) : Sound Try.prog 98 (packS [.lf (.int .i64)] x) Q :=
  vfun_told [.n] (G := Ground_value) (ct := round_shift_ct) (en := round_shift_en) (fn := Try.f98) (cd := round_shift_b) (rt := [(false, (.int .i64))]) Try.func98 (by kernel_rfl) (by kernel_rfl) (Nat.le_of_ble_eq_true rfl) round_shift_tab Oround_value_ok h (by kernel_rfl)
noncomputable def Oround_shift : FuncId → List VV → (List (Bool × List VV) → Prop) → Prop := fun f args Q => if f = 98 then unA [.lf (.int .i64)] args (fun x => round_shift x.1 (fun (r : Int) => Q (slotsA [(false, (.int .i64))] [.n] (r, ())))) else Oround_value f args Q
theorem Oround_shift_ok : ∀ f args Q, Oround_shift f args Q → Sound Try.prog f args Q := tab_more Oround_value_ok (f0 := 98) [.lf (.int .i64)] (fun x Q => round_shift x.1 (fun (r : Int) => Q (slotsA [(false, (.int .i64))] [.n] (r, ())))) round_shift_snd
noncomputable def Ground_shift : Cfg := ⟨Try.prog, tt, Oround_shift, fun _ _ _ => False⟩
def round_Clamp (a0 : Int) (a1 : Int) (Q : Int → Prop) : Prop :=
  round_between_int a1 1 32 (fun (r1 : Int) => ck ((0 : Int) ≤ (IntKind.i64.wrap (r1 - 1))) (round_value a0 (fun (r2 : Int) => round_between_int64 r2 (IntKind.i64.wrap (0 - (IntKind.i64.wrap ((IntKind.i64.wrap (1 * 2 ^ (min (IntKind.i64.wrap (r1 - 1)).toNat (IntKind.i64).bits))) - 1)))) (IntKind.i64.wrap ((IntKind.i64.wrap (1 * 2 ^ (min (IntKind.i64.wrap (r1 - 1)).toNat (IntKind.i64).bits))) - 1)) (fun (r3 : Int) => Q r3))))
noncomputable def round_Clamp_ct : Tab := fun n => none
noncomputable def round_Clamp_en : Go.Mach.Ends := fun n => match n with | 2 => some ([], [0, 1]) | 6 => some ([], [0, 5]) | 14 => some ([], [4]) | 15 => some ([], [4]) | _ => none
noncomputable def round_Clamp_b : Code := Try.f52.body.getD .skip
theorem round_Clamp_tab : TabOk Ground_shift round_Clamp_ct round_Clamp_en round_Clamp_b := by
  intro n E hn f c hs x k h
  cases hn
theorem round_Clamp_snd (x : denS [.lf (.int .i64), .lf (.int .i64)]) (Q : List (Bool × List VV) → Prop) (h : round_Clamp x.1 x.2.1 (fun (r : Int) => Q (slotsA [(false, (.int .i64))] [.n] (r, ())))) : Sound Try.prog 52 (packS [.lf (.int .i64), .lf (.int .i64)] x) Q :=
  vfun_told [.n] (G := Ground_shift) (ct := round_Clamp_ct) (en := round_Clamp_en) (fn := Try.f52) (cd := round_Clamp_b) (rt := [(false, (.int .i64))]) Try.func52 (by kernel_rfl) (by kernel_rfl) (Nat.le_of_ble_eq_true rfl) round_Clamp_tab Oround_shift_ok h (by kernel_rfl)
noncomputable def Oround_Clamp : FuncId → List VV → (List (Bool × List VV) → Prop) → Prop := fun f args Q => if f = 52 then unA [.lf (.int .i64), .lf (.int .i64)] args (fun x => round_Clamp x.1 x.2.1 (fun (r : Int) => Q (slotsA [(false, (.int .i64))] [.n] (r, ())))) else Oround_shift f args Q
theorem Oround_Clamp_ok : ∀ f args Q, Oround_Clamp f args Q → Sound Try.prog f args Q := tab_more Oround_shift_ok (f0 := 52) [.lf (.int .i64), .lf (.int .i64)] (fun x Q => round_Clamp x.1 x.2.1 (fun (r : Int) => Q (slotsA [(false, (.int .i64))] [.n] (r, ())))) round_Clamp_snd
noncomputable def Ground_Clamp : Cfg := ⟨Try.prog, tt, Oround_Clamp, fun _ _ _ => False⟩
def sc_14a5d850 : ByteArray := ⟨#[0, 1, 2, 2, 3, 3, 3, 3, 4, 4, 4, 4, 4, 4, 4, 4, 5, 5, 5, 5, 5, 5, 5, 5, 5, 5, 5, 5, 5, 5, 5, 5, 6, 6, 6, 6, 6, 6, 6, 6, 6, 6, 6, 6, 6, 6, 6, 6, 6, 6, 6, 6, 6, 6, 6, 6, 6, 6, 6, 6, 6, 6, 6, 6, 7, 7, 7, 7, 7, 7, 7, 7, 7, 7, 7, 7, 7, 7, 7, 7, 7, 7, 7, 7, 7, 7, 7, 7, 7, 7, 7, 7, 7, 7, 7, 7, 7, 7, 7, 7, 7, 7, 7, 7, 7, 7, 7, 7, 7, 7, 7, 7, 7, 7, 7, 7, 7, 7, 7, 7, 7, 7, 7, 7, 7, 7, 7, 7, 8, 8, 8, 8, 8, 8, 8, 8, 8, 8, 8, 8, 8, 8, 8, 8, 8, 8, 8, 8, 8, 8, 8, 8, 8, 8, 8, 8, 8, 8, 8, 8, 8, 8, 8, 8, 8, 8, 8, 8, 8, 8, 8, 8, 8, 8, 8, 8, 8, 8, 8, 8, 8, 8, 8, 8, 8, 8, 8, 8, 8, 8, 8, 8, 8, 8, 8, 8, 8, 8, 8, 8, 8, 8, 8, 8, 8, 8, 8, 8, 8, 8, 8, 8, 8, 8, 8, 8, 8, 8, 8, 8, 8, 8, 8, 8, 8, 8, 8, 8, 8, 8, 8, 8, 8, 8, 8, 8, 8, 8, 8, 8, 8, 8, 8, 8, 8, 8, 8, 8, 8, 8, 8, 8, 8, 8, 8, 8]⟩
def math_bits_Len64_n31 (x31_0 : Int) (x31_1 : Int) (K0 : Int → Prop) : Prop :=
  ck ((0 : Int) ≤ (IntKind.u8.wrap x31_0) ∧ (IntKind.u8.wrap x31_0) < (sc_14a5d850.size : Int)) (K0 (IntKind.i64.wrap (x31_1 + (IntKind.i64.wrap ((sc_14a5d850.data.toList.getD (IntKind.u8.wrap x31_0).toNat 0).toNat : Nat)))))
def math_bits_Len64_n15 (x15_0 : Int) (x15_1 : Int) (K0 : Int → Prop) : Prop :=
  if (decide (256 ≤ x15_0)) = true then ck ((0 : Int) ≤ 8) (math_bits_Len64_n31 ((x15_0).fdiv (2 ^ (min ((8 : Int)).toNat (IntKind.u64).bits))) (IntKind.i64.wrap (x15_1 + 8)) (fun (y1 : Int) => K0 y1)) else math_bits_Len64_n31 x15_0 x15_1 (fun (y2 : Int) => K0 y2)
def math_bits_Len64_n7 (x7_0 : Int) (x7_1 : Int) (K0 : Int → Prop) : Prop :=
  if (decide (65536 ≤ x7_0)) = true then ck ((0 : Int) ≤ 16) (math_bits_Len64_n15 ((x7_0).fdiv (2 ^ (min ((16 : Int)).toNat (IntKind.u64).bits))) (IntKind.i64.wrap (x7_1 + 16)) (fun (y1 : Int) => K0 y1)) else math_bits_Len64_n15 x7_0 x7_1 (fun (y2 : Int) => K0 y2)
def math_bits_Len64 (a0 : Int) (Q : Int → Prop) : Prop :=
  if (decide (4294967296 ≤ a0)) = true then ck ((0 : Int) ≤ 32) (math_bits_Len64_n7 ((a0).fdiv (2 ^ (min ((32 : Int)).toNat (IntKind.u64).bits))) 32 (fun (y3 : Int) => Q y3)) else math_bits_Len64_n7 a0 0 (fun (y4 : Int) => Q y4)
noncomputable def math_bits_Len64_e7 : Ent := ⟨[0, 2], [.lf (.int .u64), .lf (.int .i64)], [], fun x k => math_bits_Len64_n7 x.1.1 x.1.2.1 (fun (y5 : Int) => k .ret ⟨[(2, .pl (.int .i64 y5))], []⟩)⟩
noncomputable def math_bits_Len64_e15 : Ent := ⟨[0, 2], [.lf (.int .u64), .lf (.int .i64)], [], fun x k => math_bits_Len64_n15 x.1.1 x.1.2.1 (fun (y6 : Int) => k .ret ⟨[(2, .pl (.int .i64 y6))], []⟩)⟩
noncomputable def math_bits_Len64_e31 : Ent := ⟨[0, 2], [.lf (.int .u64), .lf (.int .i64)], [], fun x k => math_bits_Len64_n31 x.1.1 x.1.2.1 (fun (y7 : Int) => k .ret ⟨[(2, .pl (.int .i64 y7))], []⟩)⟩
noncomputable def math_bits_Len64_ct : Tab := fun n => match n with | 7 => some math_bits_Len64_e7 | 15 => some math_bits_Len64_e15 | 31 => some math_bits_Len64_e31 | _ => none
noncomputable def math_bits_Len64_en : Go.Mach.Ends := fun n => match n with | 2 => some ([], [0, 2]) | 12 => some ([], [0, 2, 4]) | 27 => some ([], [0, 2]) | 28 => some ([], [0, 2, 8]) | 52 => some ([], [0]) | 53 => some ([], [0, 2]) | 59 => some ([], [0, 2]) | 60 => some ([], [0, 2, 14]) | 62 => some ([], [2]) | 63 => some ([], [2]) | 116 => some ([], [0, 2]) | 117 => some ([], [0, 2]) | 123 => some ([], [0, 2]) | 244 => some ([], [0, 2]) | 245 => some ([], [0, 2]) | _ => none
noncomputable def math_bits_Len64_b : Code := Try.f107.body.getD .skip
theorem math_bits_Len64_tab : TabOk Ground_Clamp math_bits_Len64_ct math_bits_Len64_en math_bits_Len64_b := by
  intro n E hn f c hs x k h
  unfold math_bits_Len64_ct at hn
  split at hn
  · cases hn
    have e := subC_det hs (show subC 70 math_bits_Len64_b 7 = some ((subC 70 math_bits_Len64_b 7).getD .skip) by kernel_rfl)
    subst e
    exact tab_node h (by kernel_rfl)
  · cases hn
    have e := subC_det hs (show subC 70 math_bits_Len64_b 15 = some ((subC 70 math_bits_Len64_b 15).getD .skip) by kernel_rfl)
    subst e
    exact tab_node h (by kernel_rfl)
  · cases hn
    have e := subC_det hs (show subC 70 math_bits_Len64_b 31 = some ((subC 70 math_bits_Len64_b 31).getD .skip) by kernel_rfl)
    subst e
    exact tab_node h (by kernel_rfl)
  · cases hn
theorem math_bits_Len64_snd (x : denS [.lf (.int .u64)]) (Q : List (Bool × List VV) → Prop) (h : math_bits_Len64 x.1 (fun (r : Int) => Q (slotsA [(false, (.int .i64))] [.n] (r, ())))) : Sound Try.prog 107 (packS [.lf (.int .u64)] x) Q :=
  vfun_told [.n] (G := Ground_Clamp) (ct := math_bits_Len64_ct) (en := math_bits_Len64_en) (fn := Try.f107) (cd := math_bits_Len64_b) (rt := [(false, (.int .i64))]) Try.func107 (by kernel_rfl) (by kernel_rfl) (Nat.le_of_ble_eq_true rfl) math_bits_Len64_tab Oround_Clamp_ok h (by kernel_rfl)
noncomputable def Omath_bits_Len64 : FuncId → List VV → (List (Bool × List VV) → Prop) → Prop := fun f args Q => if f = 107 then unA [.lf (.int .u64)] args (fun x => math_bits_Len64 x.1 (fun (r : Int) => Q (slotsA [(false, (.int .i64))] [.n] (r, ())))) else Oround_Clamp f args Q
theorem Omath_bits_Len64_ok : ∀ f args Q, Omath_bits_Len64 f args Q → Sound Try.prog f args Q := tab_more Oround_Clamp_ok (f0 := 107) [.lf (.int .u64)] (fun x Q => math_bits_Len64 x.1 (fun (r : Int) => Q (slotsA [(false, (.int .i64))] [.n] (r, ())))) math_bits_Len64_snd
noncomputable def Gmath_bits_Len64 : Cfg := ⟨Try.prog, tt, Omath_bits_Len64, fun _ _ _ => False⟩
end Go.Proofs.Ytlbapaelkdpjcaa
