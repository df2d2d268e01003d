/- Plain texts of functions, as the value machine comes to them. No condition. -/
import Derived.Test.YteencpiamangfaaF2
import Derived.Test.YteencpiamangfaaProg
import Derived.KernelRfl
namespace Go.Proofs.Yteencpiamangfaa
open Go.Mach
set_option maxRecDepth 100000
set_option linter.unusedVariables false
def tensor_MayAcc_t (a0 : (List Int) × Int × List Int) (Q : Bool → Prop) : Prop :=
  shape_May a0.1 (fun (r1 : Bool) => jn (fun (v2 : Bool) => jn (fun (v5 : Bool) => Q v5) (fun J6 => if v2 = true then tensor_exp a0.2.1 128 (fun (r7 : Bool) => J6 r7) else J6 false)) (fun J3 => if r1 = true then shape_Size a0.1 (fun (r4 : Int) => J3 ((a0.2.2.length : Int) == r4)) else J3 false))
structure tensor_MayAcc (a0 : (List Int) × Int × List Int) (Q : Bool → Prop) : Prop where
  it : tensor_MayAcc_t a0 Q
noncomputable def tensor_MayAcc_ct : Tab := fun n => none
noncomputable def tensor_MayAcc_en : Go.Mach.Ends := fun n => match n with | 2 => some ([], [1]) | 6 => some ([], [2]) | 7 => some ([], [2]) | _ => none
noncomputable def tensor_MayAcc_b : Code := Try.f61.body.getD .skip
theorem tensor_MayAcc_tab : TabOk Gconv_Forward tensor_MayAcc_ct tensor_MayAcc_en tensor_MayAcc_b := by
  intro n E hn f c hs x k h
  cases hn
def tensor_MayAcc_sh : List Sh := [.agg [.fz false (.int .i64), .int .i64, .fz false (.int .i32)]]
def tensor_MayAcc_d (x : denS tensor_MayAcc_sh) (Q : List (Bool × List VV) → Prop) : Prop := tensor_MayAcc (x.1.1, (x.1.2.1, x.1.2.2.1)) (fun (r : Bool) => Q (slotsA [(false, .bool)] [.n] (r, ())))
theorem tensor_MayAcc_snd (x : denS tensor_MayAcc_sh) (Q : List (Bool × List VV) → Prop) (h : tensor_MayAcc_d x Q) : Sound Try.prog 61 (packS tensor_MayAcc_sh x) Q :=
  vfun_told [.n] (G := Gconv_Forward) (ct := tensor_MayAcc_ct) (en := tensor_MayAcc_en) (fn := Try.f61) (cd := tensor_MayAcc_b) (rt := [(false, .bool)]) Try.func61 (by kernel_rfl) (by kernel_rfl) (Nat.le_of_ble_eq_true rfl) tensor_MayAcc_tab Oconv_Forward_ok h.it (by kernel_rfl)
noncomputable def Otensor_MayAcc : FuncId → List VV → (List (Bool × List VV) → Prop) → Prop := fun f args Q => if f = 61 then unA tensor_MayAcc_sh args (fun x => tensor_MayAcc_d x Q) else Oconv_Forward f args Q
theorem Otensor_MayAcc_ok : ∀ f args Q, Otensor_MayAcc f args Q → Sound Try.prog f args Q := tab_more Oconv_Forward_ok (f0 := 61) tensor_MayAcc_sh (fun x Q => tensor_MayAcc_d x Q) tensor_MayAcc_snd
noncomputable def Gtensor_MayAcc : Cfg := ⟨Try.prog, tt, Otensor_MayAcc, fun _ _ _ => False⟩
def sc_14a5d850 : ByteArray := ⟨#[0, 1, 2, 2, 3, 3, 3, 3, 4, 4, 4, 4, 4, 4, 4, 4, 5, 5, 5, 5, 5, 5, 5, 5, 5, 5, 5, 5, 5, 5, 5, 5, 6, 6, 6, 6, 6, 6, 6, 6, 6, 6, 6, 6, 6, 6, 6, 6, 6, 6, 6, 6, 6, 6, 6, 6, 6, 6, 6, 6, 6, 6, 6, 6, 7, 7, 7, 7, 7, 7, 7, 7, 7, 7, 7, 7, 7, 7, 7, 7, 7, 7, 7, 7, 7, 7, 7, 7, 7, 7, 7, 7, 7, 7, 7, 7, 7, 7, 7, 7, 7, 7, 7, 7, 7, 7, 7, 7, 7, 7, 7, 7, 7, 7, 7, 7, 7, 7, 7, 7, 7, 7, 7, 7, 7, 7, 7, 7, 8, 8, 8, 8, 8, 8, 8, 8, 8, 8, 8, 8, 8, 8, 8, 8, 8, 8, 8, 8, 8, 8, 8, 8, 8, 8, 8, 8, 8, 8, 8, 8, 8, 8, 8, 8, 8, 8, 8, 8, 8, 8, 8, 8, 8, 8, 8, 8, 8, 8, 8, 8, 8, 8, 8, 8, 8, 8, 8, 8, 8, 8, 8, 8, 8, 8, 8, 8, 8, 8, 8, 8, 8, 8, 8, 8, 8, 8, 8, 8, 8, 8, 8, 8, 8, 8, 8, 8, 8, 8, 8, 8, 8, 8, 8, 8, 8, 8, 8, 8, 8, 8, 8, 8, 8, 8, 8, 8, 8, 8, 8, 8, 8, 8, 8, 8, 8, 8, 8, 8, 8, 8, 8, 8, 8, 8, 8, 8]⟩
def math_bits_Len64_n2_t (x0 : Int) (x1 : Int) (K0 : Int → Prop) : Prop :=
  ck ((0 : Int) ≤ (IntKind.u8.wrap x0) ∧ (IntKind.u8.wrap x0) < (sc_14a5d850.size : Int)) (K0 (IntKind.i64.wrap (x1 + (IntKind.i64.wrap ((sc_14a5d850.data.toList.getD (IntKind.u8.wrap x0).toNat 0).toNat : Nat)))))
structure math_bits_Len64_n2 (x0 : Int) (x1 : Int) (K0 : Int → Prop) : Prop where
  it : math_bits_Len64_n2_t x0 x1 K0
def math_bits_Len64_n1_t (x0 : Int) (x1 : Int) (K0 : Int → Prop) : Prop :=
  if (decide (256 ≤ x0)) = true then ck ((0 : Int) ≤ 8) (math_bits_Len64_n2 ((x0).fdiv (2 ^ (min ((8 : Int)).toNat (IntKind.u64).bits))) (IntKind.i64.wrap (x1 + 8)) (fun (y1 : Int) => K0 y1)) else math_bits_Len64_n2 x0 x1 (fun (y2 : Int) => K0 y2)
structure math_bits_Len64_n1 (x0 : Int) (x1 : Int) (K0 : Int → Prop) : Prop where
  it : math_bits_Len64_n1_t x0 x1 K0
def math_bits_Len64_n0_t (x0 : Int) (x1 : Int) (K0 : Int → Prop) : Prop :=
  if (decide (65536 ≤ x0)) = true then ck ((0 : Int) ≤ 16) (math_bits_Len64_n1 ((x0).fdiv (2 ^ (min ((16 : Int)).toNat (IntKind.u64).bits))) (IntKind.i64.wrap (x1 + 16)) (fun (y1 : Int) => K0 y1)) else math_bits_Len64_n1 x0 x1 (fun (y2 : Int) => K0 y2)
structure math_bits_Len64_n0 (x0 : Int) (x1 : Int) (K0 : Int → Prop) : Prop where
  it : math_bits_Len64_n0_t x0 x1 K0
def math_bits_Len64_t (a0 : Int) (Q : Int → Prop) : Prop :=
  if (decide (4294967296 ≤ a0)) = true then ck ((0 : Int) ≤ 32) (math_bits_Len64_n0 ((a0).fdiv (2 ^ (min ((32 : Int)).toNat (IntKind.u64).bits))) 32 (fun (y3 : Int) => Q y3)) else math_bits_Len64_n0 a0 0 (fun (y4 : Int) => Q y4)
structure math_bits_Len64 (a0 : Int) (Q : Int → Prop) : Prop where
  it : math_bits_Len64_t a0 Q
noncomputable def math_bits_Len64_e0 : Ent := ⟨[0, 2], [.lf (.int .u64), .lf (.int .i64)], [], fun x k => math_bits_Len64_n0 x.1.1 x.1.2.1 (fun (y5 : Int) => k .ret ⟨[(2, .pl (.int .i64 y5))], []⟩)⟩
noncomputable def math_bits_Len64_e1 : Ent := ⟨[0, 2], [.lf (.int .u64), .lf (.int .i64)], [], fun x k => math_bits_Len64_n1 x.1.1 x.1.2.1 (fun (y6 : Int) => k .ret ⟨[(2, .pl (.int .i64 y6))], []⟩)⟩
noncomputable def math_bits_Len64_e2 : Ent := ⟨[0, 2], [.lf (.int .u64), .lf (.int .i64)], [], fun x k => math_bits_Len64_n2 x.1.1 x.1.2.1 (fun (y7 : Int) => k .ret ⟨[(2, .pl (.int .i64 y7))], []⟩)⟩
noncomputable def math_bits_Len64_ct : Tab := fun n => match n with | 7 => some math_bits_Len64_e0 | 15 => some math_bits_Len64_e1 | 31 => some math_bits_Len64_e2 | _ => none
noncomputable def math_bits_Len64_en : Go.Mach.Ends := fun n => match n with | 2 => some ([], [0, 2]) | 12 => some ([], [0, 2, 4]) | 27 => some ([], [0, 2]) | 28 => some ([], [0, 2, 8]) | 52 => some ([], [0]) | 53 => some ([], [0, 2]) | 59 => some ([], [0, 2]) | 60 => some ([], [0, 2, 14]) | 62 => some ([], [2]) | 63 => some ([], [2]) | 116 => some ([], [0, 2]) | 117 => some ([], [0, 2]) | 123 => some ([], [0, 2]) | 244 => some ([], [0, 2]) | 245 => some ([], [0, 2]) | _ => none
noncomputable def math_bits_Len64_b : Code := Try.f97.body.getD .skip
theorem math_bits_Len64_tab : TabOk Gtensor_MayAcc math_bits_Len64_ct math_bits_Len64_en math_bits_Len64_b := by
  intro n E hn f c hs x k h
  unfold math_bits_Len64_ct at hn
  split at hn
  · cases hn; exact tab_node2 hs (by kernel_rfl) (by kernel_rfl) h.it
  · cases hn; exact tab_node2 hs (by kernel_rfl) (by kernel_rfl) h.it
  · cases hn; exact tab_node2 hs (by kernel_rfl) (by kernel_rfl) h.it
  · cases hn
def math_bits_Len64_sh : List Sh := [.lf (.int .u64)]
def math_bits_Len64_d (x : denS math_bits_Len64_sh) (Q : List (Bool × List VV) → Prop) : Prop := math_bits_Len64 x.1 (fun (r : Int) => Q (slotsA [(false, (.int .i64))] [.n] (r, ())))
theorem math_bits_Len64_snd (x : denS math_bits_Len64_sh) (Q : List (Bool × List VV) → Prop) (h : math_bits_Len64_d x Q) : Sound Try.prog 97 (packS math_bits_Len64_sh x) Q :=
  vfun_told [.n] (G := Gtensor_MayAcc) (ct := math_bits_Len64_ct) (en := math_bits_Len64_en) (fn := Try.f97) (cd := math_bits_Len64_b) (rt := [(false, (.int .i64))]) Try.func97 (by kernel_rfl) (by kernel_rfl) (Nat.le_of_ble_eq_true rfl) math_bits_Len64_tab Otensor_MayAcc_ok h.it (by kernel_rfl)
noncomputable def Omath_bits_Len64 : FuncId → List VV → (List (Bool × List VV) → Prop) → Prop := fun f args Q => if f = 97 then unA math_bits_Len64_sh args (fun x => math_bits_Len64_d x Q) else Otensor_MayAcc f args Q
theorem Omath_bits_Len64_ok : ∀ f args Q, Omath_bits_Len64 f args Q → Sound Try.prog f args Q := tab_more Otensor_MayAcc_ok (f0 := 97) math_bits_Len64_sh (fun x Q => math_bits_Len64_d x Q) math_bits_Len64_snd
noncomputable def Gmath_bits_Len64 : Cfg := ⟨Try.prog, tt, Omath_bits_Len64, fun _ _ _ => False⟩
def round_Bits_t (a0 : Int) (Q : Int → Prop) : Prop :=
  round_value a0 (fun (r1 : Int) => math_bits_Len64 (IntKind.u64.wrap (greater r1 (IntKind.i64.wrap (0 - r1)))) (fun (r2 : Int) => Q r2))
structure round_Bits (a0 : Int) (Q : Int → Prop) : Prop where
  it : round_Bits_t a0 Q
noncomputable def round_Bits_ct : Tab := fun n => none
noncomputable def round_Bits_en : Go.Mach.Ends := fun n => match n with | 2 => some ([], [0]) | 6 => some ([], [0]) | 14 => some ([], [2]) | 15 => some ([], [2]) | _ => none
noncomputable def round_Bits_b : Code := Try.f87.body.getD .skip
theorem round_Bits_tab : TabOk Gmath_bits_Len64 round_Bits_ct round_Bits_en round_Bits_b := by
  intro n E hn f c hs x k h
  cases hn
def round_Bits_sh : List Sh := [.lf (.int .i64)]
def round_Bits_d (x : denS round_Bits_sh) (Q : List (Bool × List VV) → Prop) : Prop := round_Bits x.1 (fun (r : Int) => Q (slotsA [(false, (.int .i64))] [.n] (r, ())))
theorem round_Bits_snd (x : denS round_Bits_sh) (Q : List (Bool × List VV) → Prop) (h : round_Bits_d x Q) : Sound Try.prog 87 (packS round_Bits_sh x) Q :=
  vfun_told [.n] (G := Gmath_bits_Len64) (ct := round_Bits_ct) (en := round_Bits_en) (fn := Try.f87) (cd := round_Bits_b) (rt := [(false, (.int .i64))]) Try.func87 (by kernel_rfl) (by kernel_rfl) (Nat.le_of_ble_eq_true rfl) round_Bits_tab Omath_bits_Len64_ok h.it (by kernel_rfl)
noncomputable def Oround_Bits : FuncId → List VV → (List (Bool × List VV) → Prop) → Prop := fun f args Q => if f = 87 then unA round_Bits_sh args (fun x => round_Bits_d x Q) else Omath_bits_Len64 f args Q
theorem Oround_Bits_ok : ∀ f args Q, Oround_Bits f args Q → Sound Try.prog f args Q := tab_more Omath_bits_Len64_ok (f0 := 87) round_Bits_sh (fun x Q => round_Bits_d x Q) round_Bits_snd
noncomputable def Ground_Bits : Cfg := ⟨Try.prog, tt, Oround_Bits, fun _ _ _ => False⟩
def tensor_Width_n0_B (x1 : List Int) (x2 : Int) (K0 : Int → Prop) (s : Int × Int) (nx : (Int × Int) → Prop) : Prop :=
  if (decide (s.2 < x2)) = true then ck ((0 : Int) ≤ s.2 ∧ s.2 < (x1.length : Int)) (round_Bits (IntKind.i64.wrap (x1.getD ((s.2).toNat) 0)) (fun (r2 : Int) => nx (greater s.1 r2, IntKind.i64.wrap (s.2 + 1)))) else K0 s.1
structure tensor_Width_n0 (x1 : List Int) (x2 : Int) (K0 : Int → Prop) (s : Int × Int) : Prop where
  it : Go.Mach.Loop (tensor_Width_n0_B x1 x2 K0) s
def tensor_Width_t (a0 : (List Int) × Int × List Int) (Q : Int → Prop) : Prop :=
  tensor_MayAcc (a0.1, (a0.2.1, a0.2.2)) (fun (r1 : Bool) => if (!r1) = true then Q 0 else tensor_Width_n0 a0.2.2 (a0.2.2.length : Int) (fun (y3 : Int) => Q y3) (0, 0))
structure tensor_Width (a0 : (List Int) × Int × List Int) (Q : Int → Prop) : Prop where
  it : tensor_Width_t a0 Q
noncomputable def tensor_Width_e0 : Ent := ⟨[3, 10, 11, 12], [.lf (.int .i64), .lf (.fz false (.int .i32)), .lf (.int .i64), .lf (.int .i64)], [], fun x k => tensor_Width_n0 x.1.2.1 x.1.2.2.1 (fun (y4 : Int) => k (.exit 0) ⟨[(3, .pl (.int .i64 y4))], []⟩) (x.1.1, x.1.2.2.2.1)⟩
noncomputable def tensor_Width_ct : Tab := fun n => match n with | 122 => some tensor_Width_e0 | _ => none
noncomputable def tensor_Width_en : Go.Mach.Ends := fun n => match n with | 2 => some ([], [1]) | 12 => some ([], [1, 8]) | 14 => some ([], [1, 3]) | 27 => some ([], [1]) | 52 => some ([], [2]) | 53 => some ([], [2]) | 60 => some ([], [3, 10, 11, 12]) | 62 => some ([], [2]) | 63 => some ([], [2]) | 122 => some ([], [3, 10, 11, 12]) | 488 => some ([], [3, 10, 11, 12, 13]) | 1956 => some ([], [3, 10, 11, 12]) | 1957 => some ([], [3]) | 1959 => some ([], [3, 10, 11, 12]) | 7832 => some ([], [3, 5, 10, 11, 12]) | 7833 => some ([], [3, 10, 11, 12]) | _ => none
noncomputable def tensor_Width_b : Code := Try.f62.body.getD .skip
theorem tensor_Width_tab : TabOk Ground_Bits tensor_Width_ct tensor_Width_en tensor_Width_b := by
  intro n E hn f c hs x k h
  unfold tensor_Width_ct at hn
  split at hn
  · cases hn; exact tab_loop2 hs (by kernel_rfl) (fun y : Int × Int => ⟨[(3, .pl (.int .i64 y.1)), (10, .fz false (.int .i32) x.1.2.1), (11, .pl (.int .i64 x.1.2.2.1)), (12, .pl (.int .i64 y.2))], []⟩) (x.1.1, x.1.2.2.2.1) (by kernel_rfl) (fun y X => by kernel_rfl) h.it
  · cases hn
def tensor_Width_sh : List Sh := [.agg [.fz false (.int .i64), .int .i64, .fz false (.int .i32)]]
def tensor_Width_d (x : denS tensor_Width_sh) (Q : List (Bool × List VV) → Prop) : Prop := tensor_Width (x.1.1, (x.1.2.1, x.1.2.2.1)) (fun (r : Int) => Q (slotsA [(false, (.int .i64))] [.n] (r, ())))
theorem tensor_Width_snd (x : denS tensor_Width_sh) (Q : List (Bool × List VV) → Prop) (h : tensor_Width_d x Q) : Sound Try.prog 62 (packS tensor_Width_sh x) Q :=
  vfun_told [.n] (G := Ground_Bits) (ct := tensor_Width_ct) (en := tensor_Width_en) (fn := Try.f62) (cd := tensor_Width_b) (rt := [(false, (.int .i64))]) Try.func62 (by kernel_rfl) (by kernel_rfl) (Nat.le_of_ble_eq_true rfl) tensor_Width_tab Oround_Bits_ok h.it (by kernel_rfl)
noncomputable def Otensor_Width : FuncId → List VV → (List (Bool × List VV) → Prop) → Prop := fun f args Q => if f = 62 then unA tensor_Width_sh args (fun x => tensor_Width_d x Q) else Oround_Bits f args Q
theorem Otensor_Width_ok : ∀ f args Q, Otensor_Width f args Q → Sound Try.prog f args Q := tab_more Oround_Bits_ok (f0 := 62) tensor_Width_sh (fun x Q => tensor_Width_d x Q) tensor_Width_snd
noncomputable def Gtensor_Width : Cfg := ⟨Try.prog, tt, Otensor_Width, fun _ _ _ => False⟩
def slices_Clone_int_int_t (a0 : List Int) (Q : (List Int) → Prop) : Prop :=
  nq a0 (Q ([] : List Int)) (ck ((([] : List Int).length + a0.length) * 8 ≤ 140737488355328) (Q (([] : List Int) ++ a0)))
structure slices_Clone_int_int (a0 : List Int) (Q : (List Int) → Prop) : Prop where
  it : slices_Clone_int_int_t a0 Q
noncomputable def slices_Clone_int_int_ct : Tab := fun n => none
noncomputable def slices_Clone_int_int_en : Go.Mach.Ends := fun n => match n with | 2 => some ([], [0]) | 12 => some ([], [0, 4]) | 14 => some ([], [2]) | 15 => some ([], [2]) | 27 => some ([], [0]) | 52 => some ([], [2]) | 53 => some ([], [2]) | _ => none
noncomputable def slices_Clone_int_int_b : Code := Try.f21.body.getD .skip
theorem slices_Clone_int_int_tab : TabOk Gtensor_Width slices_Clone_int_int_ct slices_Clone_int_int_en slices_Clone_int_int_b := by
  intro n E hn f c hs x k h
  cases hn
def slices_Clone_int_int_sh : List Sh := [.lf (.fz false (.int .i64))]
def slices_Clone_int_int_d (x : denS slices_Clone_int_int_sh) (Q : List (Bool × List VV) → Prop) : Prop := slices_Clone_int_int x.1 (fun (r : List Int) => Q (slotsA [(false, (.slc (.int .i64)))] [.n] (r, ())))
theorem slices_Clone_int_int_snd (x : denS slices_Clone_int_int_sh) (Q : List (Bool × List VV) → Prop) (h : slices_Clone_int_int_d x Q) : Sound Try.prog 21 (packS slices_Clone_int_int_sh x) Q :=
  vfun_told [.n] (G := Gtensor_Width) (ct := slices_Clone_int_int_ct) (en := slices_Clone_int_int_en) (fn := Try.f21) (cd := slices_Clone_int_int_b) (rt := [(false, (.slc (.int .i64)))]) Try.func21 (by kernel_rfl) (by kernel_rfl) (Nat.le_of_ble_eq_true rfl) slices_Clone_int_int_tab Otensor_Width_ok h.it (by kernel_rfl)
noncomputable def Oslices_Clone_int_int : FuncId → List VV → (List (Bool × List VV) → Prop) → Prop := fun f args Q => if f = 21 then unA slices_Clone_int_int_sh args (fun x => slices_Clone_int_int_d x Q) else Otensor_Width f args Q
theorem Oslices_Clone_int_int_ok : ∀ f args Q, Oslices_Clone_int_int f args Q → Sound Try.prog f args Q := tab_more Otensor_Width_ok (f0 := 21) slices_Clone_int_int_sh (fun x Q => slices_Clone_int_int_d x Q) slices_Clone_int_int_snd
noncomputable def Gslices_Clone_int_int : Cfg := ⟨Try.prog, tt, Oslices_Clone_int_int, fun _ _ _ => False⟩
def prng_Mix_t (a0 : Int) (Q : Int → Prop) : Prop :=
  ck ((0 : Int) ≤ 30) (ck ((0 : Int) ≤ 27) (ck ((0 : Int) ≤ 31) (Q (IntKind.u64.wrap ((BitVec.ofInt (IntKind.u64).bits (IntKind.u64.wrap ((IntKind.u64.wrap ((BitVec.ofInt (IntKind.u64).bits (IntKind.u64.wrap ((IntKind.u64.wrap ((BitVec.ofInt (IntKind.u64).bits (IntKind.u64.wrap (a0 + 11400714819323198485)) ^^^ BitVec.ofInt (IntKind.u64).bits ((IntKind.u64.wrap (a0 + 11400714819323198485)).fdiv (2 ^ (min ((30 : Int)).toNat (IntKind.u64).bits)))).toNat : Nat)) * 13787848793156543929)) ^^^ BitVec.ofInt (IntKind.u64).bits ((IntKind.u64.wrap ((IntKind.u64.wrap ((BitVec.ofInt (IntKind.u64).bits (IntKind.u64.wrap (a0 + 11400714819323198485)) ^^^ BitVec.ofInt (IntKind.u64).bits ((IntKind.u64.wrap (a0 + 11400714819323198485)).fdiv (2 ^ (min ((30 : Int)).toNat (IntKind.u64).bits)))).toNat : Nat)) * 13787848793156543929)).fdiv (2 ^ (min ((27 : Int)).toNat (IntKind.u64).bits)))).toNat : Nat)) * 10723151780598845931)) ^^^ BitVec.ofInt (IntKind.u64).bits ((IntKind.u64.wrap ((IntKind.u64.wrap ((BitVec.ofInt (IntKind.u64).bits (IntKind.u64.wrap ((IntKind.u64.wrap ((BitVec.ofInt (IntKind.u64).bits (IntKind.u64.wrap (a0 + 11400714819323198485)) ^^^ BitVec.ofInt (IntKind.u64).bits ((IntKind.u64.wrap (a0 + 11400714819323198485)).fdiv (2 ^ (min ((30 : Int)).toNat (IntKind.u64).bits)))).toNat : Nat)) * 13787848793156543929)) ^^^ BitVec.ofInt (IntKind.u64).bits ((IntKind.u64.wrap ((IntKind.u64.wrap ((BitVec.ofInt (IntKind.u64).bits (IntKind.u64.wrap (a0 + 11400714819323198485)) ^^^ BitVec.ofInt (IntKind.u64).bits ((IntKind.u64.wrap (a0 + 11400714819323198485)).fdiv (2 ^ (min ((30 : Int)).toNat (IntKind.u64).bits)))).toNat : Nat)) * 13787848793156543929)).fdiv (2 ^ (min ((27 : Int)).toNat (IntKind.u64).bits)))).toNat : Nat)) * 10723151780598845931)).fdiv (2 ^ (min ((31 : Int)).toNat (IntKind.u64).bits)))).toNat : Nat)))))
structure prng_Mix (a0 : Int) (Q : Int → Prop) : Prop where
  it : prng_Mix_t a0 Q
noncomputable def prng_Mix_ct : Tab := fun n => none
noncomputable def prng_Mix_en : Go.Mach.Ends := fun n => match n with | 2 => some ([], [0]) | 6 => some ([], [0]) | 14 => some ([], [0]) | 30 => some ([], [0]) | 62 => some ([], [2]) | 63 => some ([], [2]) | _ => none
noncomputable def prng_Mix_b : Code := Try.f90.body.getD .skip
theorem prng_Mix_tab : TabOk Gslices_Clone_int_int prng_Mix_ct prng_Mix_en prng_Mix_b := by
  intro n E hn f c hs x k h
  cases hn
def prng_Mix_sh : List Sh := [.lf (.int .u64)]
def prng_Mix_d (x : denS prng_Mix_sh) (Q : List (Bool × List VV) → Prop) : Prop := prng_Mix x.1 (fun (r : Int) => Q (slotsA [(false, (.int .u64))] [.n] (r, ())))
theorem prng_Mix_snd (x : denS prng_Mix_sh) (Q : List (Bool × List VV) → Prop) (h : prng_Mix_d x Q) : Sound Try.prog 90 (packS prng_Mix_sh x) Q :=
  vfun_told [.n] (G := Gslices_Clone_int_int) (ct := prng_Mix_ct) (en := prng_Mix_en) (fn := Try.f90) (cd := prng_Mix_b) (rt := [(false, (.int .u64))]) Try.func90 (by kernel_rfl) (by kernel_rfl) (Nat.le_of_ble_eq_true rfl) prng_Mix_tab Oslices_Clone_int_int_ok h.it (by kernel_rfl)
noncomputable def Oprng_Mix : FuncId → List VV → (List (Bool × List VV) → Prop) → Prop := fun f args Q => if f = 90 then unA prng_Mix_sh args (fun x => prng_Mix_d x Q) else Oslices_Clone_int_int f args Q
theorem Oprng_Mix_ok : ∀ f args Q, Oprng_Mix f args Q → Sound Try.prog f args Q := tab_more Oslices_Clone_int_int_ok (f0 := 90) prng_Mix_sh (fun x Q => prng_Mix_d x Q) prng_Mix_snd
noncomputable def Gprng_Mix : Cfg := ⟨Try.prog, tt, Oprng_Mix, fun _ _ _ => False⟩
def prng_At_t (a0 : Int) (a1 : Int) (a2 : Int) (Q : Int → Prop) : Prop :=
  prng_Mix a0 (fun (r1 : Int) => prng_Mix (IntKind.u64.wrap ((BitVec.ofInt (IntKind.u64).bits r1 ^^^ BitVec.ofInt (IntKind.u64).bits a1).toNat : Nat)) (fun (r2 : Int) => prng_Mix (IntKind.u64.wrap ((BitVec.ofInt (IntKind.u64).bits r2 ^^^ BitVec.ofInt (IntKind.u64).bits a2).toNat : Nat)) (fun (r3 : Int) => Q r3)))
structure prng_At (a0 : Int) (a1 : Int) (a2 : Int) (Q : Int → Prop) : Prop where
  it : prng_At_t a0 a1 a2 Q
noncomputable def prng_At_ct : Tab := fun n => none
noncomputable def prng_At_en : Go.Mach.Ends := fun n => match n with | 2 => some ([], [0, 1, 2]) | 6 => some ([], [6]) | 7 => some ([], [6]) | _ => none
noncomputable def prng_At_b : Code := Try.f64.body.getD .skip
theorem prng_At_tab : TabOk Gprng_Mix prng_At_ct prng_At_en prng_At_b := by
  intro n E hn f c hs x k h
  cases hn
def prng_At_sh : List Sh := [.lf (.int .u64), .lf (.int .u64), .lf (.int .u64)]
def prng_At_d (x : denS prng_At_sh) (Q : List (Bool × List VV) → Prop) : Prop := prng_At x.1 x.2.1 x.2.2.1 (fun (r : Int) => Q (slotsA [(false, (.int .u64))] [.n] (r, ())))
theorem prng_At_snd (x : denS prng_At_sh) (Q : List (Bool × List VV) → Prop) (h : prng_At_d x Q) : Sound Try.prog 64 (packS prng_At_sh x) Q :=
  vfun_told [.n] (G := Gprng_Mix) (ct := prng_At_ct) (en := prng_At_en) (fn := Try.f64) (cd := prng_At_b) (rt := [(false, (.int .u64))]) Try.func64 (by kernel_rfl) (by kernel_rfl) (Nat.le_of_ble_eq_true rfl) prng_At_tab Oprng_Mix_ok h.it (by kernel_rfl)
noncomputable def Oprng_At : FuncId → List VV → (List (Bool × List VV) → Prop) → Prop := fun f args Q => if f = 64 then unA prng_At_sh args (fun x => prng_At_d x Q) else Oprng_Mix f args Q
theorem Oprng_At_ok : ∀ f args Q, Oprng_At f args Q → Sound Try.prog f args Q := tab_more Oprng_Mix_ok (f0 := 64) prng_At_sh (fun x Q => prng_At_d x Q) prng_At_snd
noncomputable def Gprng_At : Cfg := ⟨Try.prog, tt, Oprng_At, fun _ _ _ => False⟩
def round_shift_t (a0 : Int) (Q : Int → Prop) : Prop :=
  round_between_int a0 0 62 (fun (r1 : Int) => Q r1)
structure round_shift (a0 : Int) (Q : Int → Prop) : Prop where
  it : round_shift_t a0 Q
noncomputable def round_shift_ct : Tab := fun n => none
noncomputable def round_shift_en : Go.Mach.Ends := fun n => match n with | 2 => some ([], [0]) | 6 => some ([], [2]) | 7 => some ([], [2]) | _ => none
noncomputable def round_shift_b : Code := Try.f88.body.getD .skip
theorem round_shift_tab : TabOk Gprng_At round_shift_ct round_shift_en round_shift_b := by
  intro n E hn f c hs x k h
  cases hn
def round_shift_sh : List Sh := [.lf (.int .i64)]
def round_shift_d (x : denS round_shift_sh) (Q : List (Bool × List VV) → Prop) : Prop := round_shift x.1 (fun (r : Int) => Q (slotsA [(false, (.int .i64))] [.n] (r, ())))
theorem round_shift_snd (x : denS round_shift_sh) (Q : List (Bool × List VV) → Prop) (h : round_shift_d x Q) : Sound Try.prog 88 (packS round_shift_sh x) Q :=
  vfun_told [.n] (G := Gprng_At) (ct := round_shift_ct) (en := round_shift_en) (fn := Try.f88) (cd := round_shift_b) (rt := [(false, (.int .i64))]) Try.func88 (by kernel_rfl) (by kernel_rfl) (Nat.le_of_ble_eq_true rfl) round_shift_tab Oprng_At_ok h.it (by kernel_rfl)
noncomputable def Oround_shift : FuncId → List VV → (List (Bool × List VV) → Prop) → Prop := fun f args Q => if f = 88 then unA round_shift_sh args (fun x => round_shift_d x Q) else Oprng_At f args Q
theorem Oround_shift_ok : ∀ f args Q, Oround_shift f args Q → Sound Try.prog f args Q := tab_more Oprng_At_ok (f0 := 88) round_shift_sh (fun x Q => round_shift_d x Q) round_shift_snd
noncomputable def Ground_shift : Cfg := ⟨Try.prog, tt, Oround_shift, fun _ _ _ => False⟩
def round_Chance_t (a0 : Int) (a1 : Int) (a2 : Int) (Q : Int → Prop) : Prop :=
  round_shift a1 (fun (r1 : Int) => round_value a0 (fun (r2 : Int) => ck ((0 : Int) ≤ r1) (ck ((0 : Int) ≤ r1) (Q ((IntKind.i64.wrap (r2 + (IntKind.i64.wrap (IntKind.u64.wrap ((BitVec.ofInt (IntKind.u64).bits a2 &&& BitVec.ofInt (IntKind.u64).bits (IntKind.u64.wrap ((IntKind.u64.wrap (1 * 2 ^ (min (r1).toNat (IntKind.u64).bits))) - 1))).toNat : Nat))))).fdiv (2 ^ (min (r1).toNat (IntKind.i64).bits)))))))
structure round_Chance (a0 : Int) (a1 : Int) (a2 : Int) (Q : Int → Prop) : Prop where
  it : round_Chance_t a0 a1 a2 Q
noncomputable def round_Chance_ct : Tab := fun n => none
noncomputable def round_Chance_en : Go.Mach.Ends := fun n => match n with | 2 => some ([], [0, 1, 2]) | 6 => some ([], [0, 1, 2]) | 14 => some ([], [6]) | 15 => some ([], [6]) | _ => none
noncomputable def round_Chance_b : Code := Try.f63.body.getD .skip
theorem round_Chance_tab : TabOk Ground_shift round_Chance_ct round_Chance_en round_Chance_b := by
  intro n E hn f c hs x k h
  cases hn
def round_Chance_sh : List Sh := [.lf (.int .i64), .lf (.int .i64), .lf (.int .u64)]
def round_Chance_d (x : denS round_Chance_sh) (Q : List (Bool × List VV) → Prop) : Prop := round_Chance x.1 x.2.1 x.2.2.1 (fun (r : Int) => Q (slotsA [(false, (.int .i64))] [.n] (r, ())))
theorem round_Chance_snd (x : denS round_Chance_sh) (Q : List (Bool × List VV) → Prop) (h : round_Chance_d x Q) : Sound Try.prog 63 (packS round_Chance_sh x) Q :=
  vfun_told [.n] (G := Ground_shift) (ct := round_Chance_ct) (en := round_Chance_en) (fn := Try.f63) (cd := round_Chance_b) (rt := [(false, (.int .i64))]) Try.func63 (by kernel_rfl) (by kernel_rfl) (Nat.le_of_ble_eq_true rfl) round_Chance_tab Oround_shift_ok h.it (by kernel_rfl)
noncomputable def Oround_Chance : FuncId → List VV → (List (Bool × List VV) → Prop) → Prop := fun f args Q => if f = 63 then unA round_Chance_sh args (fun x => round_Chance_d x Q) else Oround_shift f args Q
theorem Oround_Chance_ok : ∀ f args Q, Oround_Chance f args Q → Sound Try.prog f args Q := tab_more Oround_shift_ok (f0 := 63) round_Chance_sh (fun x Q => round_Chance_d x Q) round_Chance_snd
noncomputable def Ground_Chance : Cfg := ⟨Try.prog, tt, Oround_Chance, fun _ _ _ => False⟩
def round_Clamp_t (a0 : Int) (a1 : Int) (Q : Int → Prop) : Prop :=
  round_between_int a1 1 32 (fun (r1 : Int) => ck ((0 : Int) ≤ (IntKind.i64.wrap (r1 - 1))) (round_value a0 (fun (r2 : Int) => round_between_int64 r2 (IntKind.i64.wrap (0 - (IntKind.i64.wrap ((IntKind.i64.wrap (1 * 2 ^ (min (IntKind.i64.wrap (r1 - 1)).toNat (IntKind.i64).bits))) - 1)))) (IntKind.i64.wrap ((IntKind.i64.wrap (1 * 2 ^ (min (IntKind.i64.wrap (r1 - 1)).toNat (IntKind.i64).bits))) - 1)) (fun (r3 : Int) => Q r3))))
structure round_Clamp (a0 : Int) (a1 : Int) (Q : Int → Prop) : Prop where
  it : round_Clamp_t a0 a1 Q
noncomputable def round_Clamp_ct : Tab := fun n => none
noncomputable def round_Clamp_en : Go.Mach.Ends := fun n => match n with | 2 => some ([], [0, 1]) | 6 => some ([], [0, 5]) | 14 => some ([], [4]) | 15 => some ([], [4]) | _ => none
noncomputable def round_Clamp_b : Code := Try.f65.body.getD .skip
theorem round_Clamp_tab : TabOk Ground_Chance round_Clamp_ct round_Clamp_en round_Clamp_b := by
  intro n E hn f c hs x k h
  cases hn
def round_Clamp_sh : List Sh := [.lf (.int .i64), .lf (.int .i64)]
def round_Clamp_d (x : denS round_Clamp_sh) (Q : List (Bool × List VV) → Prop) : Prop := round_Clamp x.1 x.2.1 (fun (r : Int) => Q (slotsA [(false, (.int .i64))] [.n] (r, ())))
theorem round_Clamp_snd (x : denS round_Clamp_sh) (Q : List (Bool × List VV) → Prop) (h : round_Clamp_d x Q) : Sound Try.prog 65 (packS round_Clamp_sh x) Q :=
  vfun_told [.n] (G := Ground_Chance) (ct := round_Clamp_ct) (en := round_Clamp_en) (fn := Try.f65) (cd := round_Clamp_b) (rt := [(false, (.int .i64))]) Try.func65 (by kernel_rfl) (by kernel_rfl) (Nat.le_of_ble_eq_true rfl) round_Clamp_tab Oround_Chance_ok h.it (by kernel_rfl)
noncomputable def Oround_Clamp : FuncId → List VV → (List (Bool × List VV) → Prop) → Prop := fun f args Q => if f = 65 then unA round_Clamp_sh args (fun x => round_Clamp_d x Q) else Oround_Chance f args Q
theorem Oround_Clamp_ok : ∀ f args Q, Oround_Clamp f args Q → Sound Try.prog f args Q := tab_more Oround_Chance_ok (f0 := 65) round_Clamp_sh (fun x Q => round_Clamp_d x Q) round_Clamp_snd
noncomputable def Ground_Clamp : Cfg := ⟨Try.prog, tt, Oround_Clamp, fun _ _ _ => False⟩
def tensor_Small_n0_B (x0 : Int) (x1 : Int) (x2 : Int) (x3 : Int) (x4 : List Int) (x5 : Int) (K0 : (List Int) → Prop) (s : Int × List Int) (nx : (Int × List Int) → Prop) : Prop :=
  if (decide (s.1 < x5)) = true then ck ((0 : Int) ≤ s.1 ∧ s.1 < (x4.length : Int)) (prng_At x1 x2 (IntKind.u64.wrap s.1) (fun (r8 : Int) => round_Chance (IntKind.i64.wrap (x4.getD ((s.1).toNat) 0)) x3 r8 (fun (r9 : Int) => round_Clamp r9 x0 (fun (r10 : Int) => ck ((s.2.length + [IntKind.i8.wrap r10].length) * 1 ≤ 140737488355328) (nx (IntKind.i64.wrap (s.1 + 1), s.2 ++ [IntKind.i8.wrap r10])))))) else K0 s.2
structure tensor_Small_n0 (x0 : Int) (x1 : Int) (x2 : Int) (x3 : Int) (x4 : List Int) (x5 : Int) (K0 : (List Int) → Prop) (s : Int × List Int) : Prop where
  it : Go.Mach.Loop (tensor_Small_n0_B x0 x1 x2 x3 x4 x5 K0) s
def tensor_Small_t (a0 : (List Int) × Int × List Int) (a1 : Int) (a2 : Int) (a3 : Int) (Q : (((List Int) × Int × List Int) × Int) → Prop) : Prop :=
  tensor_MayAcc (a0.1, (a0.2.1, a0.2.2)) (fun (r1 : Bool) => if (((!r1) || (decide (a1 < 2))) || (decide (8 < a1))) = true then Q ((([] : List Int), (0, ([] : List Int))), 1) else tensor_Width (a0.1, (a0.2.1, a0.2.2)) (fun (r2 : Int) => slices_Clone_int_int a0.1 (fun (r3 : List Int) => tensor_exp (IntKind.i64.wrap (a0.2.1 + (greater 0 (IntKind.i64.wrap (r2 - (IntKind.i64.wrap (a1 - 1))))))) 64 (fun (r4 : Bool) => if (!r4) = true then Q ((([] : List Int), (0, ([] : List Int))), 3) else tensor_Small_n0 a1 a2 a3 (greater 0 (IntKind.i64.wrap (r2 - (IntKind.i64.wrap (a1 - 1))))) a0.2.2 (a0.2.2.length : Int) (fun (y11 : List Int) => Q ((r3, ((IntKind.i64.wrap (a0.2.1 + (greater 0 (IntKind.i64.wrap (r2 - (IntKind.i64.wrap (a1 - 1))))))), y11)), 0)) (0, ([] : List Int))))))
structure tensor_Small (a0 : (List Int) × Int × List Int) (a1 : Int) (a2 : Int) (a3 : Int) (Q : (((List Int) × Int × List Int) × Int) → Prop) : Prop where
  it : tensor_Small_t a0 a1 a2 a3 Q
noncomputable def tensor_Small_e0 : Ent := ⟨[1, 2, 3, 8, 10, 11, 47, 48, 49], [.lf (.int .i64), .lf (.int .u64), .lf (.int .u64), .lf (.cst (.ptr 0 0)), .lf (.int .i64), .lf (.cst (.ptr 1 0)), .lf (.fz false (.int .i32)), .lf (.int .i64), .lf (.int .i64)], [.box [.cst (.pl (.slice none 0 0)), .int .i64, .cst (.pl (.slice none 0 0))] false, .box [.cst (.own 2), .int .i64, .cst (.pl (.slice none 0 0))] false, .lst true (.int .i64) false], fun x k => tensor_Small_n0 x.1.1 x.1.2.1 x.1.2.2.1 x.1.2.2.2.2.1 x.1.2.2.2.2.2.2.1 x.1.2.2.2.2.2.2.2.1 (fun (y12 : List Int) => k (.exit 0) ⟨[(8, .ptr 0 0), (11, .ptr 1 0)], [.box [.pl (.slice none 0 0), .pl (.int .i64 x.2.1.2.1), .pl (.slice none 0 0)] false, .box [.own 2, .pl (.int .i64 x.2.2.1.2.1), .own 3] false, .lst true (.int .i64) x.2.2.2.1 false, .lst true (.int .i8) y12 false]⟩) (x.1.2.2.2.2.2.2.2.2.1, ([] : List Int))⟩
noncomputable def tensor_Small_ct : Tab := fun n => match n with | 506 => some tensor_Small_e0 | _ => none
noncomputable def tensor_Small_en : Go.Mach.Ends := fun n => match n with | 2 => some ([], [1, 2, 3, 4, 8]) | 12 => some ([], [1, 2, 3, 4, 8, 25]) | 14 => some ([], [1, 2, 3, 4, 8, 10]) | 27 => some ([], [1, 2, 3, 4, 8]) | 30 => some ([], [1, 2, 3, 4, 8, 10, 11]) | 52 => some ([], [8, 9]) | 53 => some ([], [8, 9]) | 124 => some ([], [1, 2, 3, 4, 8, 10, 11, 44]) | 251 => some ([], [1, 2, 3, 4, 8, 10, 11]) | 252 => some ([], [1, 2, 3, 8, 10, 11, 47, 48, 49]) | 254 => some ([], [8, 9]) | 255 => some ([], [8, 9]) | 500 => some ([], [8, 9]) | 501 => some ([], [8, 9]) | 506 => some ([⟨11, some 2, false, (.int .i8)⟩], [1, 2, 3, 8, 10, 11, 47, 48, 49]) | 2024 => some ([], [1, 2, 3, 8, 10, 11, 47, 48, 49, 50]) | 8100 => some ([], [1, 2, 3, 8, 10, 11, 47, 48, 49]) | 8101 => some ([], [8, 11]) | 8103 => some ([], [1, 2, 3, 8, 10, 11, 47, 48, 49]) | 32408 => some ([], [1, 2, 3, 8, 10, 11, 12, 13, 47, 48, 49]) | 64818 => some ([], [1, 2, 3, 8, 10, 11, 14, 47, 48, 49]) | 64819 => some ([], [1, 2, 3, 8, 10, 11, 47, 48, 49]) | _ => none
noncomputable def tensor_Small_b : Code := Try.f41.body.getD .skip
theorem tensor_Small_tab : TabOk Ground_Clamp tensor_Small_ct tensor_Small_en tensor_Small_b := by
  intro n E hn f c hs x k h
  unfold tensor_Small_ct at hn
  split at hn
  · cases hn; exact tab_loop2 hs (by kernel_rfl) (fun y : Int × List Int => ⟨[(1, .pl (.int .i64 x.1.1)), (2, .pl (.int .u64 x.1.2.1)), (3, .pl (.int .u64 x.1.2.2.1)), (8, .ptr 0 0), (10, .pl (.int .i64 x.1.2.2.2.2.1)), (11, .ptr 1 0), (47, .fz false (.int .i32) x.1.2.2.2.2.2.2.1), (48, .pl (.int .i64 x.1.2.2.2.2.2.2.2.1)), (49, .pl (.int .i64 y.1))], [.box [.pl (.slice none 0 0), .pl (.int .i64 x.2.1.2.1), .pl (.slice none 0 0)] false, .box [.own 2, .pl (.int .i64 x.2.2.1.2.1), .own 3] false, .lst true (.int .i64) x.2.2.2.1 false, .lst true (.int .i8) y.2 false]⟩) (x.1.2.2.2.2.2.2.2.2.1, ([] : List Int)) (by kernel_rfl) (fun y X => by kernel_rfl) h.it
  · cases hn
def tensor_Small_sh : List Sh := [.agg [.fz false (.int .i64), .int .i64, .fz false (.int .i32)], .lf (.int .i64), .lf (.int .u64), .lf (.int .u64)]
def tensor_Small_d (x : denS tensor_Small_sh) (Q : List (Bool × List VV) → Prop) : Prop := tensor_Small (x.1.1, (x.1.2.1, x.1.2.2.1)) x.2.1 x.2.2.1 x.2.2.2.1 (fun (r : ((List Int) × Int × List Int) × Int) => Q (slotsA [(true, (.pair (.slc (.int .i64)) (.pair (.int .i64) (.slc (.int .i8))))), (false, (.int .i64))] [.n, .n] (r.1, (r.2, ()))))
theorem tensor_Small_snd (x : denS tensor_Small_sh) (Q : List (Bool × List VV) → Prop) (h : tensor_Small_d x Q) : Sound Try.prog 41 (packS tensor_Small_sh x) Q :=
  vfun_told [.n, .n] (G := Ground_Clamp) (ct := tensor_Small_ct) (en := tensor_Small_en) (fn := Try.f41) (cd := tensor_Small_b) (rt := [(true, (.pair (.slc (.int .i64)) (.pair (.int .i64) (.slc (.int .i8))))), (false, (.int .i64))]) Try.func41 (by kernel_rfl) (by kernel_rfl) (Nat.le_of_ble_eq_true rfl) tensor_Small_tab Oround_Clamp_ok h.it (by kernel_rfl)
noncomputable def Otensor_Small : FuncId → List VV → (List (Bool × List VV) → Prop) → Prop := fun f args Q => if f = 41 then unA tensor_Small_sh args (fun x => tensor_Small_d x Q) else Oround_Clamp f args Q
theorem Otensor_Small_ok : ∀ f args Q, Otensor_Small f args Q → Sound Try.prog f args Q := tab_more Oround_Clamp_ok (f0 := 41) tensor_Small_sh (fun x Q => tensor_Small_d x Q) tensor_Small_snd
noncomputable def Gtensor_Small : Cfg := ⟨Try.prog, tt, Otensor_Small, fun _ _ _ => False⟩
def slices_Equal_int_int_n0_B (x0 : List Int) (x1 : List Int) (x2 : Int) (K0 : Unit → Prop) (K1 : Unit → Prop) (s : Int) (nx : Int → Prop) : Prop :=
  if (decide (s < x2)) = true then ck ((0 : Int) ≤ s ∧ s < (x0.length : Int)) (ck ((0 : Int) ≤ s ∧ s < (x1.length : Int)) (if ((x0.getD ((s).toNat) 0) != (x1.getD ((s).toNat) 0)) = true then K1 () else nx (IntKind.i64.wrap (s + 1)))) else K0 ()
structure slices_Equal_int_int_n0 (x0 : List Int) (x1 : List Int) (x2 : Int) (K0 : Unit → Prop) (K1 : Unit → Prop) (s : Int) : Prop where
  it : Go.Mach.Loop (slices_Equal_int_int_n0_B x0 x1 x2 K0 K1) s
def slices_Equal_int_int_t (a0 : List Int) (a1 : List Int) (Q : Bool → Prop) : Prop :=
  if ((a0.length : Int) != (a1.length : Int)) = true then Q false else slices_Equal_int_int_n0 a0 a1 (a0.length : Int) (fun (y1 : Unit) => Q true) (fun (y2 : Unit) => Q false) 0
structure slices_Equal_int_int (a0 : List Int) (a1 : List Int) (Q : Bool → Prop) : Prop where
  it : slices_Equal_int_int_t a0 a1 Q
noncomputable def slices_Equal_int_int_e0 : Ent := ⟨[0, 1, 12, 13], [.lf (.fz false (.int .i64)), .lf (.fz false (.int .i64)), .lf (.int .i64), .lf (.int .i64)], [], fun x k => slices_Equal_int_int_n0 x.1.1 x.1.2.1 x.1.2.2.1 (fun (y3 : Unit) => k (.exit 0) ⟨[], []⟩) (fun (y4 : Unit) => k .ret ⟨[(4, .pl (.bool false))], []⟩) x.1.2.2.2.1⟩
noncomputable def slices_Equal_int_int_ct : Tab := fun n => match n with | 58 => some slices_Equal_int_int_e0 | _ => none
noncomputable def slices_Equal_int_int_en : Go.Mach.Ends := fun n => match n with | 2 => some ([], [0, 1]) | 12 => some ([], [0, 1, 10]) | 27 => some ([], [0, 1]) | 28 => some ([], [0, 1, 12, 13]) | 30 => some ([], [4]) | 31 => some ([], [4]) | 52 => some ([], [4]) | 53 => some ([], [4]) | 58 => some ([], [0, 1, 12, 13]) | 232 => some ([], [0, 1, 12, 13, 14]) | 932 => some ([], [0, 1, 12, 13]) | 933 => some ([], []) | 935 => some ([], [0, 1, 12, 13]) | 3736 => some ([], [0, 1, 5, 12, 13]) | 7474 => some ([], [0, 1, 12, 13, 24]) | 14951 => some ([], [0, 1, 12, 13]) | 29900 => some ([], [4]) | 29901 => some ([], [4]) | _ => none
noncomputable def slices_Equal_int_int_b : Code := Try.f39.body.getD .skip
theorem slices_Equal_int_int_tab : TabOk Gtensor_Small slices_Equal_int_int_ct slices_Equal_int_int_en slices_Equal_int_int_b := by
  intro n E hn f c hs x k h
  unfold slices_Equal_int_int_ct at hn
  split at hn
  · cases hn; exact tab_loop2 hs (by kernel_rfl) (fun y : Int => ⟨[(0, .fz false (.int .i64) x.1.1), (1, .fz false (.int .i64) x.1.2.1), (12, .pl (.int .i64 x.1.2.2.1)), (13, .pl (.int .i64 y))], []⟩) x.1.2.2.2.1 (by kernel_rfl) (fun y X => by kernel_rfl) h.it
  · cases hn
def slices_Equal_int_int_sh : List Sh := [.lf (.fz false (.int .i64)), .lf (.fz false (.int .i64))]
def slices_Equal_int_int_d (x : denS slices_Equal_int_int_sh) (Q : List (Bool × List VV) → Prop) : Prop := slices_Equal_int_int x.1 x.2.1 (fun (r : Bool) => Q (slotsA [(false, .bool)] [.n] (r, ())))
theorem slices_Equal_int_int_snd (x : denS slices_Equal_int_int_sh) (Q : List (Bool × List VV) → Prop) (h : slices_Equal_int_int_d x Q) : Sound Try.prog 39 (packS slices_Equal_int_int_sh x) Q :=
  vfun_told [.n] (G := Gtensor_Small) (ct := slices_Equal_int_int_ct) (en := slices_Equal_int_int_en) (fn := Try.f39) (cd := slices_Equal_int_int_b) (rt := [(false, .bool)]) Try.func39 (by kernel_rfl) (by kernel_rfl) (Nat.le_of_ble_eq_true rfl) slices_Equal_int_int_tab Otensor_Small_ok h.it (by kernel_rfl)
noncomputable def Oslices_Equal_int_int : FuncId → List VV → (List (Bool × List VV) → Prop) → Prop := fun f args Q => if f = 39 then unA slices_Equal_int_int_sh args (fun x => slices_Equal_int_int_d x Q) else Otensor_Small f args Q
theorem Oslices_Equal_int_int_ok : ∀ f args Q, Oslices_Equal_int_int f args Q → Sound Try.prog f args Q := tab_more Otensor_Small_ok (f0 := 39) slices_Equal_int_int_sh (fun x Q => slices_Equal_int_int_d x Q) slices_Equal_int_int_snd
noncomputable def Gslices_Equal_int_int : Cfg := ⟨Try.prog, tt, Oslices_Equal_int_int, fun _ _ _ => False⟩
def shape_Same_t (a0 : List Int) (a1 : List Int) (Q : Bool → Prop) : Prop :=
  slices_Equal_int_int a0 a1 (fun (r1 : Bool) => Q r1)
structure shape_Same (a0 : List Int) (a1 : List Int) (Q : Bool → Prop) : Prop where
  it : shape_Same_t a0 a1 Q
noncomputable def shape_Same_ct : Tab := fun n => none
noncomputable def shape_Same_en : Go.Mach.Ends := fun n => match n with | 2 => some ([], [0, 1]) | 6 => some ([], [4]) | 7 => some ([], [4]) | _ => none
noncomputable def shape_Same_b : Code := Try.f20.body.getD .skip
theorem shape_Same_tab : TabOk Gslices_Equal_int_int shape_Same_ct shape_Same_en shape_Same_b := by
  intro n E hn f c hs x k h
  cases hn
def shape_Same_sh : List Sh := [.lf (.fz false (.int .i64)), .lf (.fz false (.int .i64))]
def shape_Same_d (x : denS shape_Same_sh) (Q : List (Bool × List VV) → Prop) : Prop := shape_Same x.1 x.2.1 (fun (r : Bool) => Q (slotsA [(false, .bool)] [.n] (r, ())))
theorem shape_Same_snd (x : denS shape_Same_sh) (Q : List (Bool × List VV) → Prop) (h : shape_Same_d x Q) : Sound Try.prog 20 (packS shape_Same_sh x) Q :=
  vfun_told [.n] (G := Gslices_Equal_int_int) (ct := shape_Same_ct) (en := shape_Same_en) (fn := Try.f20) (cd := shape_Same_b) (rt := [(false, .bool)]) Try.func20 (by kernel_rfl) (by kernel_rfl) (Nat.le_of_ble_eq_true rfl) shape_Same_tab Oslices_Equal_int_int_ok h.it (by kernel_rfl)
noncomputable def Oshape_Same : FuncId → List VV → (List (Bool × List VV) → Prop) → Prop := fun f args Q => if f = 20 then unA shape_Same_sh args (fun x => shape_Same_d x Q) else Oslices_Equal_int_int f args Q
theorem Oshape_Same_ok : ∀ f args Q, Oshape_Same f args Q → Sound Try.prog f args Q := tab_more Oslices_Equal_int_int_ok (f0 := 20) shape_Same_sh (fun x Q => shape_Same_d x Q) shape_Same_snd
noncomputable def Gshape_Same : Cfg := ⟨Try.prog, tt, Oshape_Same, fun _ _ _ => False⟩
def add_Add_n0_B (x0 : Int) (x3 : Int) (x4 : List Int) (x6 : Int) (x7 : List Int) (x9 : Int) (K0 : (List Int) → Prop) (s : Int × List Int) (nx : (Int × List Int) → Prop) : Prop :=
  if (decide (s.1 < x0)) = true then ck ((0 : Int) ≤ s.1 ∧ s.1 < (x4.length : Int)) (round_Align (IntKind.i64.wrap (x4.getD ((s.1).toNat) 0)) x3 x9 (fun (r9 : Int) => ck ((0 : Int) ≤ s.1 ∧ s.1 < (x7.length : Int)) (round_Align (IntKind.i64.wrap (x7.getD ((s.1).toNat) 0)) x6 x9 (fun (r10 : Int) => ck ((s.2.length + [IntKind.i32.wrap (IntKind.i64.wrap (r9 + r10))].length) * 4 ≤ 140737488355328) (nx (IntKind.i64.wrap (s.1 + 1), s.2 ++ [IntKind.i32.wrap (IntKind.i64.wrap (r9 + r10))])))))) else K0 s.2
structure add_Add_n0 (x0 : Int) (x3 : Int) (x4 : List Int) (x6 : Int) (x7 : List Int) (x9 : Int) (K0 : (List Int) → Prop) (s : Int × List Int) : Prop where
  it : Go.Mach.Loop (add_Add_n0_B x0 x3 x4 x6 x7 x9 K0) s
def add_Add_t (a0 : (List Int) × Int × List Int) (a1 : (List Int) × Int × List Int) (Q : (((List Int) × Int × List Int) × Int) → Prop) : Prop :=
  tensor_May (a0.1, (a0.2.1, a0.2.2)) (fun (r1 : Bool) => jn (fun (v2 : Bool) => if v2 = true then Q ((([] : List Int), (0, ([] : List Int))), 1) else shape_Same a0.1 a1.1 (fun (r5 : Bool) => if (!r5) = true then Q ((([] : List Int), (0, ([] : List Int))), 2) else slices_Clone_int_int a0.1 (fun (r6 : List Int) => add_Add_n0 (a0.2.2.length : Int) a0.2.1 a0.2.2 a1.2.1 a1.2.2 (greater (smaller a0.2.1 a1.2.1) (IntKind.i64.wrap ((greater a0.2.1 a1.2.1) - 12))) (fun (y11 : List Int) => Q ((r6, ((greater (smaller a0.2.1 a1.2.1) (IntKind.i64.wrap ((greater a0.2.1 a1.2.1) - 12))), y11)), 0)) (0, ([] : List Int))))) (fun J3 => if (!r1) = true then J3 true else tensor_May (a1.1, (a1.2.1, a1.2.2)) (fun (r4 : Bool) => J3 (!r4))))
structure add_Add (a0 : (List Int) × Int × List Int) (a1 : (List Int) × Int × List Int) (Q : (((List Int) × Int × List Int) × Int) → Prop) : Prop where
  it : add_Add_t a0 a1 Q
noncomputable def add_Add_e0 : Ent := ⟨[2, 3, 4, 6, 45, 46], [.lf (.cst (.ptr 0 0)), .lf (.cst (.ptr 1 0)), .lf (.cst (.ptr 2 0)), .lf (.cst (.ptr 3 0)), .lf (.int .i64), .lf (.int .i64)], [.box [.fz false (.int .i64), .int .i64, .fz false (.int .i8)] false, .box [.fz false (.int .i64), .int .i64, .fz false (.int .i8)] false, .box [.cst (.pl (.slice none 0 0)), .int .i64, .cst (.pl (.slice none 0 0))] false, .box [.cst (.own 4), .int .i64, .cst (.pl (.slice none 0 0))] false, .lst true (.int .i64) false], fun x k => add_Add_n0 x.1.2.2.2.2.1 x.2.1.2.1 x.2.1.2.2.1 x.2.2.1.2.1 x.2.2.1.2.2.1 x.2.2.2.2.1.2.1 (fun (y12 : List Int) => k (.exit 1) ⟨[(4, .ptr 0 0), (6, .ptr 1 0)], [.box [.pl (.slice none 0 0), .pl (.int .i64 x.2.2.2.1.2.1), .pl (.slice none 0 0)] false, .box [.own 2, .pl (.int .i64 x.2.2.2.2.1.2.1), .own 3] false, .lst true (.int .i64) x.2.2.2.2.2.1 false, .lst true (.int .i32) y12 false]⟩) (x.1.2.2.2.2.2.1, ([] : List Int))⟩
noncomputable def add_Add_ct : Tab := fun n => match n with | 122 => some add_Add_e0 | _ => none
noncomputable def add_Add_en : Go.Mach.Ends := fun n => match n with | 2 => some ([], [2, 3, 4]) | 14 => some ([], [2, 3, 4, 6]) | 24 => some ([], [2, 3, 4, 9]) | 60 => some ([], [2, 3, 4, 6, 45, 46]) | 62 => some ([], [4, 5]) | 63 => some ([], [4, 5]) | 100 => some ([], [4, 5]) | 101 => some ([], [4, 5]) | 102 => some ([], [2, 3, 4, 19]) | 122 => some ([⟨6, some 2, false, (.int .i32)⟩], [2, 3, 4, 6, 45, 46]) | 207 => some ([], [2, 3, 4]) | 412 => some ([], [4, 5]) | 413 => some ([], [4, 5]) | 488 => some ([], [2, 3, 4, 6, 45, 46, 47]) | 1956 => some ([], [2, 3, 4, 6, 45, 46]) | 1957 => some ([], [4, 6]) | 1959 => some ([], [2, 3, 4, 6, 45, 46]) | 7832 => some ([], [2, 3, 4, 6, 7, 45, 46]) | 15666 => some ([], [2, 3, 4, 6, 8, 45, 46]) | 15667 => some ([], [2, 3, 4, 6, 45, 46]) | _ => none
noncomputable def add_Add_b : Code := Try.f60.body.getD .skip
theorem add_Add_tab : TabOk Gshape_Same add_Add_ct add_Add_en add_Add_b := by
  intro n E hn f c hs x k h
  unfold add_Add_ct at hn
  split at hn
  · cases hn; exact tab_loop2 hs (by kernel_rfl) (fun y : Int × List Int => ⟨[(2, .ptr 0 0), (3, .ptr 1 0), (4, .ptr 2 0), (6, .ptr 3 0), (45, .pl (.int .i64 x.1.2.2.2.2.1)), (46, .pl (.int .i64 y.1))], [.box [.fz false (.int .i64) x.2.1.1, .pl (.int .i64 x.2.1.2.1), .fz false (.int .i8) x.2.1.2.2.1] false, .box [.fz false (.int .i64) x.2.2.1.1, .pl (.int .i64 x.2.2.1.2.1), .fz false (.int .i8) x.2.2.1.2.2.1] false, .box [.pl (.slice none 0 0), .pl (.int .i64 x.2.2.2.1.2.1), .pl (.slice none 0 0)] false, .box [.own 4, .pl (.int .i64 x.2.2.2.2.1.2.1), .own 5] false, .lst true (.int .i64) x.2.2.2.2.2.1 false, .lst true (.int .i32) y.2 false]⟩) (x.1.2.2.2.2.2.1, ([] : List Int)) (by kernel_rfl) (fun y X => by kernel_rfl) h.it
  · cases hn
def add_Add_sh : List Sh := [.agg [.fz false (.int .i64), .int .i64, .fz false (.int .i8)], .agg [.fz false (.int .i64), .int .i64, .fz false (.int .i8)]]
def add_Add_d (x : denS add_Add_sh) (Q : List (Bool × List VV) → Prop) : Prop := add_Add (x.1.1, (x.1.2.1, x.1.2.2.1)) (x.2.1.1, (x.2.1.2.1, x.2.1.2.2.1)) (fun (r : ((List Int) × Int × List Int) × Int) => Q (slotsA [(true, (.pair (.slc (.int .i64)) (.pair (.int .i64) (.slc (.int .i32))))), (false, (.int .i64))] [.n, .n] (r.1, (r.2, ()))))
theorem add_Add_snd (x : denS add_Add_sh) (Q : List (Bool × List VV) → Prop) (h : add_Add_d x Q) : Sound Try.prog 60 (packS add_Add_sh x) Q :=
  vfun_told [.n, .n] (G := Gshape_Same) (ct := add_Add_ct) (en := add_Add_en) (fn := Try.f60) (cd := add_Add_b) (rt := [(true, (.pair (.slc (.int .i64)) (.pair (.int .i64) (.slc (.int .i32))))), (false, (.int .i64))]) Try.func60 (by kernel_rfl) (by kernel_rfl) (Nat.le_of_ble_eq_true rfl) add_Add_tab Oshape_Same_ok h.it (by kernel_rfl)
noncomputable def Oadd_Add : FuncId → List VV → (List (Bool × List VV) → Prop) → Prop := fun f args Q => if f = 60 then unA add_Add_sh args (fun x => add_Add_d x Q) else Oshape_Same f args Q
theorem Oadd_Add_ok : ∀ f args Q, Oadd_Add f args Q → Sound Try.prog f args Q := tab_more Oshape_Same_ok (f0 := 60) add_Add_sh (fun x Q => add_Add_d x Q) add_Add_snd
noncomputable def Gadd_Add : Cfg := ⟨Try.prog, tt, Oadd_Add, fun _ _ _ => False⟩
def unit_Relu_1_t (a0 : Int) (a1 : List Int) (a2 : Int) (a3 : List Int) (Q : Int → Prop) : Prop :=
  ck ((0 : Int) ≤ a0 ∧ a0 < (a3.length : Int)) (Q (greater 0 (a3.getD ((a0).toNat) 0)))
structure unit_Relu_1 (a0 : Int) (a1 : List Int) (a2 : Int) (a3 : List Int) (Q : Int → Prop) : Prop where
  it : unit_Relu_1_t a0 a1 a2 a3 Q
noncomputable def unit_Relu_1_ct : Tab := fun n => none
noncomputable def unit_Relu_1_en : Go.Mach.Ends := fun n => match n with | 2 => some ([], [0, 1]) | 6 => some ([], [3]) | 7 => some ([], [3]) | _ => none
noncomputable def unit_Relu_1_b : Code := Try.f70.body.getD .skip
theorem unit_Relu_1_tab : TabOk Gadd_Add unit_Relu_1_ct unit_Relu_1_en unit_Relu_1_b := by
  intro n E hn f c hs x k h
  cases hn
def unit_Relu_1_sh : List Sh := [.lf (.int .i64), .bx [.fz false (.int .i64), .int .i64, .fz false (.int .i8)]]
def unit_Relu_1_d (x : denS unit_Relu_1_sh) (Q : List (Bool × List VV) → Prop) : Prop := unit_Relu_1 x.1 x.2.1.1 x.2.1.2.1 x.2.1.2.2.1 (fun (r : Int) => Q (slotsA [(false, (.int .i8))] [.n] (r, ())))
theorem unit_Relu_1_snd (x : denS unit_Relu_1_sh) (Q : List (Bool × List VV) → Prop) (h : unit_Relu_1_d x Q) : Sound Try.prog 70 (packS unit_Relu_1_sh x) Q :=
  vfun_told [.n] (G := Gadd_Add) (ct := unit_Relu_1_ct) (en := unit_Relu_1_en) (fn := Try.f70) (cd := unit_Relu_1_b) (rt := [(false, (.int .i8))]) Try.func70 (by kernel_rfl) (by kernel_rfl) (Nat.le_of_ble_eq_true rfl) unit_Relu_1_tab Oadd_Add_ok h.it (by kernel_rfl)
noncomputable def Ounit_Relu_1 : FuncId → List VV → (List (Bool × List VV) → Prop) → Prop := fun f args Q => if f = 70 then unA unit_Relu_1_sh args (fun x => unit_Relu_1_d x Q) else Oadd_Add f args Q
theorem Ounit_Relu_1_ok : ∀ f args Q, Ounit_Relu_1 f args Q → Sound Try.prog f args Q := tab_more Oadd_Add_ok (f0 := 70) unit_Relu_1_sh (fun x Q => unit_Relu_1_d x Q) unit_Relu_1_snd
noncomputable def Gunit_Relu_1 : Cfg := ⟨Try.prog, tt, Ounit_Relu_1, fun _ _ _ => False⟩
def unit_like__unit_Relu_1_n0_B (x0 : List Int) (x1 : Int) (x2 : List Int) (x3 : Int) (K0 : (List Int) → Prop) (s : Int × List Int) (nx : (Int × List Int) → Prop) : Prop :=
  if (decide (s.1 < x3)) = true then unit_Relu_1 s.1 x0 x1 x2 (fun (r3 : Int) => ck ((s.2.length + [r3].length) * 1 ≤ 140737488355328) (nx (IntKind.i64.wrap (s.1 + 1), s.2 ++ [r3]))) else K0 s.2
structure unit_like__unit_Relu_1_n0 (x0 : List Int) (x1 : Int) (x2 : List Int) (x3 : Int) (K0 : (List Int) → Prop) (s : Int × List Int) : Prop where
  it : Go.Mach.Loop (unit_like__unit_Relu_1_n0_B x0 x1 x2 x3 K0) s
def unit_like__unit_Relu_1_t (a0 : (List Int) × Int × List Int) (a1 : List Int) (a2 : Int) (a3 : List Int) (Q : ((List Int) × Int × List Int) → Prop) : Prop :=
  slices_Clone_int_int a0.1 (fun (r1 : List Int) => unit_like__unit_Relu_1_n0 a1 a2 a3 (a0.2.2.length : Int) (fun (y4 : List Int) => Q (r1, (a0.2.1, y4))) (0, ([] : List Int)))
structure unit_like__unit_Relu_1 (a0 : (List Int) × Int × List Int) (a1 : List Int) (a2 : Int) (a3 : List Int) (Q : ((List Int) × Int × List Int) → Prop) : Prop where
  it : unit_like__unit_Relu_1_t a0 a1 a2 a3 Q
noncomputable def unit_like__unit_Relu_1_e0 : Ent := ⟨[1, 4, 5, 15, 16], [.fn 70 [.bx [.fz false (.int .i64), .int .i64, .fz false (.int .i8)]], .lf (.cst (.ptr 0 0)), .lf (.cst (.ptr 1 0)), .lf (.int .i64), .lf (.int .i64)], [.box [.cst (.pl (.slice none 0 0)), .int .i64, .cst (.pl (.slice none 0 0))] false, .box [.cst (.own 2), .int .i64, .cst (.pl (.slice none 0 0))] false, .lst true (.int .i64) false], fun x k => unit_like__unit_Relu_1_n0 x.1.1.1.1 x.1.1.1.2.1 x.1.1.1.2.2.1 x.1.2.2.2.1 (fun (y5 : List Int) => k (.exit 0) ⟨[(4, .ptr 0 0), (5, .ptr 1 0)], [.box [.pl (.slice none 0 0), .pl (.int .i64 x.2.1.2.1), .pl (.slice none 0 0)] false, .box [.own 2, .pl (.int .i64 x.2.2.1.2.1), .own 3] false, .lst true (.int .i64) x.2.2.2.1 false, .lst true (.int .i8) y5 false]⟩) (x.1.2.2.2.2.1, ([] : List Int))⟩
noncomputable def unit_like__unit_Relu_1_ct : Tab := fun n => match n with | 58 => some unit_like__unit_Relu_1_e0 | _ => none
noncomputable def unit_like__unit_Relu_1_en : Go.Mach.Ends := fun n => match n with | 2 => some ([], [1, 2, 4]) | 6 => some ([], [1, 2, 4, 5]) | 28 => some ([], [1, 4, 5, 15, 16]) | 30 => some ([], [4]) | 31 => some ([], [4]) | 58 => some ([⟨5, some 2, false, (.int .i8)⟩], [1, 4, 5, 15, 16]) | 232 => some ([], [1, 4, 5, 15, 16, 17]) | 932 => some ([], [1, 4, 5, 15, 16]) | 933 => some ([], [4, 5]) | 935 => some ([], [1, 4, 5, 15, 16]) | 3736 => some ([], [1, 4, 5, 6, 15, 16]) | 3737 => some ([], [1, 4, 5, 15, 16]) | _ => none
noncomputable def unit_like__unit_Relu_1_b : Code := Try.f69.body.getD .skip
theorem unit_like__unit_Relu_1_tab : TabOk Gunit_Relu_1 unit_like__unit_Relu_1_ct unit_like__unit_Relu_1_en unit_like__unit_Relu_1_b := by
  intro n E hn f c hs x k h
  unfold unit_like__unit_Relu_1_ct at hn
  split at hn
  · cases hn; exact tab_loop2 hs (by kernel_rfl) (fun y : Int × List Int => ⟨[(1, .fn 70 [.bx [.fz false (.int .i64) x.1.1.1.1, .pl (.int .i64 x.1.1.1.2.1), .fz false (.int .i8) x.1.1.1.2.2.1] 0]), (4, .ptr 0 0), (5, .ptr 1 0), (15, .pl (.int .i64 x.1.2.2.2.1)), (16, .pl (.int .i64 y.1))], [.box [.pl (.slice none 0 0), .pl (.int .i64 x.2.1.2.1), .pl (.slice none 0 0)] false, .box [.own 2, .pl (.int .i64 x.2.2.1.2.1), .own 3] false, .lst true (.int .i64) x.2.2.2.1 false, .lst true (.int .i8) y.2 false]⟩) (x.1.2.2.2.2.1, ([] : List Int)) (by kernel_rfl) (fun y X => by kernel_rfl) h.it
  · cases hn
def unit_like__unit_Relu_1_sh : List Sh := [.agg [.fz false (.int .i64), .int .i64, .fz false (.int .i8)], .fn 70 [.bx [.fz false (.int .i64), .int .i64, .fz false (.int .i8)]]]
def unit_like__unit_Relu_1_d (x : denS unit_like__unit_Relu_1_sh) (Q : List (Bool × List VV) → Prop) : Prop := unit_like__unit_Relu_1 (x.1.1, (x.1.2.1, x.1.2.2.1)) x.2.1.1.1 x.2.1.1.2.1 x.2.1.1.2.2.1 (fun (r : (List Int) × Int × List Int) => Q (slotsA [(true, (.pair (.slc (.int .i64)) (.pair (.int .i64) (.slc (.int .i8)))))] [.n] (r, ())))
theorem unit_like__unit_Relu_1_snd (x : denS unit_like__unit_Relu_1_sh) (Q : List (Bool × List VV) → Prop) (h : unit_like__unit_Relu_1_d x Q) : Sound Try.prog 69 (packS unit_like__unit_Relu_1_sh x) Q :=
  vfun_told [.n] (G := Gunit_Relu_1) (ct := unit_like__unit_Relu_1_ct) (en := unit_like__unit_Relu_1_en) (fn := Try.f69) (cd := unit_like__unit_Relu_1_b) (rt := [(true, (.pair (.slc (.int .i64)) (.pair (.int .i64) (.slc (.int .i8)))))]) Try.func69 (by kernel_rfl) (by kernel_rfl) (Nat.le_of_ble_eq_true rfl) unit_like__unit_Relu_1_tab Ounit_Relu_1_ok h.it (by kernel_rfl)
noncomputable def Ounit_like__unit_Relu_1 : FuncId → List VV → (List (Bool × List VV) → Prop) → Prop := fun f args Q => if f = 69 then (if eqNs (fnsOf args) [70] = true then unA unit_like__unit_Relu_1_sh args (fun x => unit_like__unit_Relu_1_d x Q) else Ounit_Relu_1 f args Q) else Ounit_Relu_1 f args Q
theorem Ounit_like__unit_Relu_1_ok : ∀ f args Q, Ounit_like__unit_Relu_1 f args Q → Sound Try.prog f args Q := tab_moreF Ounit_Relu_1_ok (f0 := 69) [70] unit_like__unit_Relu_1_sh (fun x Q => unit_like__unit_Relu_1_d x Q) unit_like__unit_Relu_1_snd
noncomputable def Gunit_like__unit_Relu_1 : Cfg := ⟨Try.prog, tt, Ounit_like__unit_Relu_1, fun _ _ _ => False⟩
def unit_Relu_t (a0 : (List Int) × Int × List Int) (Q : (((List Int) × Int × List Int) × Int) → Prop) : Prop :=
  tensor_May (a0.1, (a0.2.1, a0.2.2)) (fun (r1 : Bool) => if (!r1) = true then Q ((([] : List Int), (0, ([] : List Int))), 1) else unit_like__unit_Relu_1 (a0.1, (a0.2.1, a0.2.2)) a0.1 a0.2.1 a0.2.2 (fun (r2 : (List Int) × Int × List Int) => Q ((r2.1, (r2.2.1, r2.2.2)), 0)))
structure unit_Relu (a0 : (List Int) × Int × List Int) (Q : (((List Int) × Int × List Int) × Int) → Prop) : Prop where
  it : unit_Relu_t a0 Q
noncomputable def unit_Relu_ct : Tab := fun n => none
noncomputable def unit_Relu_en : Go.Mach.Ends := fun n => match n with | 2 => some ([], [1, 2]) | 12 => some ([], [1, 2, 6]) | 14 => some ([], [2, 3]) | 15 => some ([], [2, 3]) | 27 => some ([], [1, 2]) | 52 => some ([], [2, 3]) | 53 => some ([], [2, 3]) | _ => none
noncomputable def unit_Relu_b : Code := Try.f43.body.getD .skip
theorem unit_Relu_tab : TabOk Gunit_like__unit_Relu_1 unit_Relu_ct unit_Relu_en unit_Relu_b := by
  intro n E hn f c hs x k h
  cases hn
def unit_Relu_sh : List Sh := [.agg [.fz false (.int .i64), .int .i64, .fz false (.int .i8)]]
def unit_Relu_d (x : denS unit_Relu_sh) (Q : List (Bool × List VV) → Prop) : Prop := unit_Relu (x.1.1, (x.1.2.1, x.1.2.2.1)) (fun (r : ((List Int) × Int × List Int) × Int) => Q (slotsA [(true, (.pair (.slc (.int .i64)) (.pair (.int .i64) (.slc (.int .i8))))), (false, (.int .i64))] [.n, .n] (r.1, (r.2, ()))))
theorem unit_Relu_snd (x : denS unit_Relu_sh) (Q : List (Bool × List VV) → Prop) (h : unit_Relu_d x Q) : Sound Try.prog 43 (packS unit_Relu_sh x) Q :=
  vfun_told [.n, .n] (G := Gunit_like__unit_Relu_1) (ct := unit_Relu_ct) (en := unit_Relu_en) (fn := Try.f43) (cd := unit_Relu_b) (rt := [(true, (.pair (.slc (.int .i64)) (.pair (.int .i64) (.slc (.int .i8))))), (false, (.int .i64))]) Try.func43 (by kernel_rfl) (by kernel_rfl) (Nat.le_of_ble_eq_true rfl) unit_Relu_tab Ounit_like__unit_Relu_1_ok h.it (by kernel_rfl)
noncomputable def Ounit_Relu : FuncId → List VV → (List (Bool × List VV) → Prop) → Prop := fun f args Q => if f = 43 then unA unit_Relu_sh args (fun x => unit_Relu_d x Q) else Ounit_like__unit_Relu_1 f args Q
theorem Ounit_Relu_ok : ∀ f args Q, Ounit_Relu f args Q → Sound Try.prog f args Q := tab_more Ounit_like__unit_Relu_1_ok (f0 := 43) unit_Relu_sh (fun x Q => unit_Relu_d x Q) unit_Relu_snd
noncomputable def Gunit_Relu : Cfg := ⟨Try.prog, tt, Ounit_Relu, fun _ _ _ => False⟩
def slices_Clone_int8_int8_t (a0 : List Int) (Q : (List Int) → Prop) : Prop :=
  nq a0 (Q ([] : List Int)) (ck ((([] : List Int).length + a0.length) * 1 ≤ 140737488355328) (Q (([] : List Int) ++ a0)))
structure slices_Clone_int8_int8 (a0 : List Int) (Q : (List Int) → Prop) : Prop where
  it : slices_Clone_int8_int8_t a0 Q
noncomputable def slices_Clone_int8_int8_ct : Tab := fun n => none
noncomputable def slices_Clone_int8_int8_en : Go.Mach.Ends := fun n => match n with | 2 => some ([], [0]) | 12 => some ([], [0, 4]) | 14 => some ([], [2]) | 15 => some ([], [2]) | 27 => some ([], [0]) | 52 => some ([], [2]) | 53 => some ([], [2]) | _ => none
noncomputable def slices_Clone_int8_int8_b : Code := Try.f22.body.getD .skip
theorem slices_Clone_int8_int8_tab : TabOk Gunit_Relu slices_Clone_int8_int8_ct slices_Clone_int8_int8_en slices_Clone_int8_int8_b := by
  intro n E hn f c hs x k h
  cases hn
def slices_Clone_int8_int8_sh : List Sh := [.lf (.fz false (.int .i8))]
def slices_Clone_int8_int8_d (x : denS slices_Clone_int8_int8_sh) (Q : List (Bool × List VV) → Prop) : Prop := slices_Clone_int8_int8 x.1 (fun (r : List Int) => Q (slotsA [(false, (.slc (.int .i8)))] [.n] (r, ())))
theorem slices_Clone_int8_int8_snd (x : denS slices_Clone_int8_int8_sh) (Q : List (Bool × List VV) → Prop) (h : slices_Clone_int8_int8_d x Q) : Sound Try.prog 22 (packS slices_Clone_int8_int8_sh x) Q :=
  vfun_told [.n] (G := Gunit_Relu) (ct := slices_Clone_int8_int8_ct) (en := slices_Clone_int8_int8_en) (fn := Try.f22) (cd := slices_Clone_int8_int8_b) (rt := [(false, (.slc (.int .i8)))]) Try.func22 (by kernel_rfl) (by kernel_rfl) (Nat.le_of_ble_eq_true rfl) slices_Clone_int8_int8_tab Ounit_Relu_ok h.it (by kernel_rfl)
noncomputable def Oslices_Clone_int8_int8 : FuncId → List VV → (List (Bool × List VV) → Prop) → Prop := fun f args Q => if f = 22 then unA slices_Clone_int8_int8_sh args (fun x => slices_Clone_int8_int8_d x Q) else Ounit_Relu f args Q
theorem Oslices_Clone_int8_int8_ok : ∀ f args Q, Oslices_Clone_int8_int8 f args Q → Sound Try.prog f args Q := tab_more Ounit_Relu_ok (f0 := 22) slices_Clone_int8_int8_sh (fun x Q => slices_Clone_int8_int8_d x Q) slices_Clone_int8_int8_snd
noncomputable def Gslices_Clone_int8_int8 : Cfg := ⟨Try.prog, tt, Oslices_Clone_int8_int8, fun _ _ _ => False⟩
def unit_Shape_t (a0 : (List Int) × Int × List Int) (a1 : List Int) (Q : (((List Int) × Int × List Int) × Int) → Prop) : Prop :=
  tensor_May (a0.1, (a0.2.1, a0.2.2)) (fun (r1 : Bool) => jn (fun (v2 : Bool) => if v2 = true then Q ((([] : List Int), (0, ([] : List Int))), 1) else shape_Size a1 (fun (r5 : Int) => if (r5 != (a0.2.2.length : Int)) = true then Q ((([] : List Int), (0, ([] : List Int))), 2) else slices_Clone_int_int a1 (fun (r6 : List Int) => slices_Clone_int8_int8 a0.2.2 (fun (r7 : List Int) => Q ((r6, (a0.2.1, r7)), 0))))) (fun J3 => if (!r1) = true then J3 true else shape_May a1 (fun (r4 : Bool) => J3 (!r4))))
structure unit_Shape (a0 : (List Int) × Int × List Int) (a1 : List Int) (Q : (((List Int) × Int × List Int) × Int) → Prop) : Prop where
  it : unit_Shape_t a0 a1 Q
noncomputable def unit_Shape_ct : Tab := fun n => none
noncomputable def unit_Shape_en : Go.Mach.Ends := fun n => match n with | 2 => some ([], [1, 2, 4]) | 14 => some ([], [4, 5]) | 15 => some ([], [4, 5]) | 24 => some ([], [1, 2, 4, 6]) | 100 => some ([], [4, 5]) | 101 => some ([], [4, 5]) | 102 => some ([], [1, 2, 4, 16]) | 207 => some ([], [1, 2, 4]) | 412 => some ([], [4, 5]) | 413 => some ([], [4, 5]) | _ => none
noncomputable def unit_Shape_b : Code := Try.f71.body.getD .skip
theorem unit_Shape_tab : TabOk Gslices_Clone_int8_int8 unit_Shape_ct unit_Shape_en unit_Shape_b := by
  intro n E hn f c hs x k h
  cases hn
def unit_Shape_sh : List Sh := [.agg [.fz false (.int .i64), .int .i64, .fz false (.int .i8)], .lf (.fz false (.int .i64))]
def unit_Shape_d (x : denS unit_Shape_sh) (Q : List (Bool × List VV) → Prop) : Prop := unit_Shape (x.1.1, (x.1.2.1, x.1.2.2.1)) x.2.1 (fun (r : ((List Int) × Int × List Int) × Int) => Q (slotsA [(true, (.pair (.slc (.int .i64)) (.pair (.int .i64) (.slc (.int .i8))))), (false, (.int .i64))] [.n, .n] (r.1, (r.2, ()))))
theorem unit_Shape_snd (x : denS unit_Shape_sh) (Q : List (Bool × List VV) → Prop) (h : unit_Shape_d x Q) : Sound Try.prog 71 (packS unit_Shape_sh x) Q :=
  vfun_told [.n, .n] (G := Gslices_Clone_int8_int8) (ct := unit_Shape_ct) (en := unit_Shape_en) (fn := Try.f71) (cd := unit_Shape_b) (rt := [(true, (.pair (.slc (.int .i64)) (.pair (.int .i64) (.slc (.int .i8))))), (false, (.int .i64))]) Try.func71 (by kernel_rfl) (by kernel_rfl) (Nat.le_of_ble_eq_true rfl) unit_Shape_tab Oslices_Clone_int8_int8_ok h.it (by kernel_rfl)
noncomputable def Ounit_Shape : FuncId → List VV → (List (Bool × List VV) → Prop) → Prop := fun f args Q => if f = 71 then unA unit_Shape_sh args (fun x => unit_Shape_d x Q) else Oslices_Clone_int8_int8 f args Q
theorem Ounit_Shape_ok : ∀ f args Q, Ounit_Shape f args Q → Sound Try.prog f args Q := tab_more Oslices_Clone_int8_int8_ok (f0 := 71) unit_Shape_sh (fun x Q => unit_Shape_d x Q) unit_Shape_snd
noncomputable def Gunit_Shape : Cfg := ⟨Try.prog, tt, Ounit_Shape, fun _ _ _ => False⟩
def unit_Flat_t (a0 : (List Int) × Int × List Int) (Q : (((List Int) × Int × List Int) × Int) → Prop) : Prop :=
  tensor_May (a0.1, (a0.2.1, a0.2.2)) (fun (r1 : Bool) => if (!r1) = true then Q ((([] : List Int), (0, ([] : List Int))), 1) else ck ((0 : Int) ≤ 0 ∧ 0 < (a0.1.length : Int)) (shape_Size a0.1 (fun (r2 : Int) => ck ((0 : Int) ≤ 0 ∧ 0 < (a0.1.length : Int)) (ck ((a0.1.getD 0 0) ≠ (0 : Int)) (unit_Shape (a0.1, (a0.2.1, a0.2.2)) [a0.1.getD 0 0, IntKind.i64.wrap ((r2).tdiv (a0.1.getD 0 0))] (fun (r3 : ((List Int) × Int × List Int) × Int) => Q ((r3.1.1, (r3.1.2.1, r3.1.2.2)), r3.2)))))))
structure unit_Flat (a0 : (List Int) × Int × List Int) (Q : (((List Int) × Int × List Int) × Int) → Prop) : Prop where
  it : unit_Flat_t a0 Q
noncomputable def unit_Flat_ct : Tab := fun n => none
noncomputable def unit_Flat_en : Go.Mach.Ends := fun n => match n with | 2 => some ([], [1, 2]) | 12 => some ([], [1, 2, 6]) | 14 => some ([], [2, 3]) | 15 => some ([], [2, 3]) | 27 => some ([], [1, 2]) | 52 => some ([], [2, 3]) | 53 => some ([], [2, 3]) | _ => none
noncomputable def unit_Flat_b : Code := Try.f44.body.getD .skip
theorem unit_Flat_tab : TabOk Gunit_Shape unit_Flat_ct unit_Flat_en unit_Flat_b := by
  intro n E hn f c hs x k h
  cases hn
def unit_Flat_sh : List Sh := [.agg [.fz false (.int .i64), .int .i64, .fz false (.int .i8)]]
def unit_Flat_d (x : denS unit_Flat_sh) (Q : List (Bool × List VV) → Prop) : Prop := unit_Flat (x.1.1, (x.1.2.1, x.1.2.2.1)) (fun (r : ((List Int) × Int × List Int) × Int) => Q (slotsA [(true, (.pair (.slc (.int .i64)) (.pair (.int .i64) (.slc (.int .i8))))), (false, (.int .i64))] [.n, .n] (r.1, (r.2, ()))))
theorem unit_Flat_snd (x : denS unit_Flat_sh) (Q : List (Bool × List VV) → Prop) (h : unit_Flat_d x Q) : Sound Try.prog 44 (packS unit_Flat_sh x) Q :=
  vfun_told [.n, .n] (G := Gunit_Shape) (ct := unit_Flat_ct) (en := unit_Flat_en) (fn := Try.f44) (cd := unit_Flat_b) (rt := [(true, (.pair (.slc (.int .i64)) (.pair (.int .i64) (.slc (.int .i8))))), (false, (.int .i64))]) Try.func44 (by kernel_rfl) (by kernel_rfl) (Nat.le_of_ble_eq_true rfl) unit_Flat_tab Ounit_Shape_ok h.it (by kernel_rfl)
noncomputable def Ounit_Flat : FuncId → List VV → (List (Bool × List VV) → Prop) → Prop := fun f args Q => if f = 44 then unA unit_Flat_sh args (fun x => unit_Flat_d x Q) else Ounit_Shape f args Q
theorem Ounit_Flat_ok : ∀ f args Q, Ounit_Flat f args Q → Sound Try.prog f args Q := tab_more Ounit_Shape_ok (f0 := 44) unit_Flat_sh (fun x Q => unit_Flat_d x Q) unit_Flat_snd
noncomputable def Gunit_Flat : Cfg := ⟨Try.prog, tt, Ounit_Flat, fun _ _ _ => False⟩
end Go.Proofs.Yteencpiamangfaa
