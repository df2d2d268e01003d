/- Plain texts of functions, as the value machine comes to them. No condition. -/
import Derived.Test.YtejbkafligpmbaaDoorL1
import Derived.Test.YtejbkafligpmbaaDoorProg
import Derived.KernelRfl
namespace Go.Proofs.YtejbkafligpmbaaDoor
open Go.Mach
set_option maxRecDepth 100000
set_option linter.unusedVariables false
def round_Bits (a0 : Int) (Q : Int → Prop) : Prop :=
  round_value a0 (fun (r1 : Int) => math_bits_Len64 (IntKind.u64.wrap (greater r1 (IntKind.i64.wrap (0 - r1)))) (fun (r2 : Int) => Q r2))
noncomputable def round_Bits_ct : Tab := fun n => none
noncomputable def round_Bits_en : Go.Mach.Ends := fun n => match n with | 2 => some ([], [0]) | 6 => some ([], [0]) | 14 => some ([], [2]) | 15 => some ([], [2]) | _ => none
noncomputable def round_Bits_b : Code := Tryd.f38.body.getD .skip
theorem round_Bits_tab : TabOk Gmath_bits_Len64 round_Bits_ct round_Bits_en round_Bits_b := by
  intro n E hn f c hs x k h
  cases hn
def round_Bits_sh : List Sh := [.lf (.int .i64)]
def round_Bits_d (x : denS round_Bits_sh) (Q : List (Bool × List VV) → Prop) : Prop := round_Bits x.1 (fun (r : Int) => Q (slotsA [(false, (.int .i64))] [.n] (r, ())))
theorem round_Bits_snd (x : denS round_Bits_sh) (Q : List (Bool × List VV) → Prop) (h : round_Bits_d x Q) : Sound Tryd.prog 38 (packS round_Bits_sh x) Q :=
  vfun_told [.n] (G := Gmath_bits_Len64) (ct := round_Bits_ct) (en := round_Bits_en) (fn := Tryd.f38) (cd := round_Bits_b) (rt := [(false, (.int .i64))]) Tryd.func38 (by kernel_rfl) (by kernel_rfl) (Nat.le_of_ble_eq_true rfl) round_Bits_tab Omath_bits_Len64_ok h (by kernel_rfl)
noncomputable def Oround_Bits : FuncId → List VV → (List (Bool × List VV) → Prop) → Prop := fun f args Q => if f = 38 then unA round_Bits_sh args (fun x => round_Bits_d x Q) else Omath_bits_Len64 f args Q
theorem Oround_Bits_ok : ∀ f args Q, Oround_Bits f args Q → Sound Tryd.prog f args Q := tab_more Omath_bits_Len64_ok (f0 := 38) round_Bits_sh (fun x Q => round_Bits_d x Q) round_Bits_snd
noncomputable def Ground_Bits : Cfg := ⟨Tryd.prog, tt, Oround_Bits, fun _ _ _ => False⟩
def prng_Mix (a0 : Int) (Q : Int → Prop) : Prop :=
  ck ((0 : Int) ≤ 30) (ck ((0 : Int) ≤ 27) (ck ((0 : Int) ≤ 31) (Q (IntKind.u64.wrap ((BitVec.ofInt (IntKind.u64).bits (IntKind.u64.wrap ((IntKind.u64.wrap ((BitVec.ofInt (IntKind.u64).bits (IntKind.u64.wrap ((IntKind.u64.wrap ((BitVec.ofInt (IntKind.u64).bits (IntKind.u64.wrap (a0 + 11400714819323198485)) ^^^ BitVec.ofInt (IntKind.u64).bits ((IntKind.u64.wrap (a0 + 11400714819323198485)).fdiv (2 ^ (min ((30 : Int)).toNat (IntKind.u64).bits)))).toNat : Nat)) * 13787848793156543929)) ^^^ BitVec.ofInt (IntKind.u64).bits ((IntKind.u64.wrap ((IntKind.u64.wrap ((BitVec.ofInt (IntKind.u64).bits (IntKind.u64.wrap (a0 + 11400714819323198485)) ^^^ BitVec.ofInt (IntKind.u64).bits ((IntKind.u64.wrap (a0 + 11400714819323198485)).fdiv (2 ^ (min ((30 : Int)).toNat (IntKind.u64).bits)))).toNat : Nat)) * 13787848793156543929)).fdiv (2 ^ (min ((27 : Int)).toNat (IntKind.u64).bits)))).toNat : Nat)) * 10723151780598845931)) ^^^ BitVec.ofInt (IntKind.u64).bits ((IntKind.u64.wrap ((IntKind.u64.wrap ((BitVec.ofInt (IntKind.u64).bits (IntKind.u64.wrap ((IntKind.u64.wrap ((BitVec.ofInt (IntKind.u64).bits (IntKind.u64.wrap (a0 + 11400714819323198485)) ^^^ BitVec.ofInt (IntKind.u64).bits ((IntKind.u64.wrap (a0 + 11400714819323198485)).fdiv (2 ^ (min ((30 : Int)).toNat (IntKind.u64).bits)))).toNat : Nat)) * 13787848793156543929)) ^^^ BitVec.ofInt (IntKind.u64).bits ((IntKind.u64.wrap ((IntKind.u64.wrap ((BitVec.ofInt (IntKind.u64).bits (IntKind.u64.wrap (a0 + 11400714819323198485)) ^^^ BitVec.ofInt (IntKind.u64).bits ((IntKind.u64.wrap (a0 + 11400714819323198485)).fdiv (2 ^ (min ((30 : Int)).toNat (IntKind.u64).bits)))).toNat : Nat)) * 13787848793156543929)).fdiv (2 ^ (min ((27 : Int)).toNat (IntKind.u64).bits)))).toNat : Nat)) * 10723151780598845931)).fdiv (2 ^ (min ((31 : Int)).toNat (IntKind.u64).bits)))).toNat : Nat)))))
noncomputable def prng_Mix_ct : Tab := fun n => none
noncomputable def prng_Mix_en : Go.Mach.Ends := fun n => match n with | 2 => some ([], [0]) | 6 => some ([], [0]) | 14 => some ([], [0]) | 30 => some ([], [0]) | 62 => some ([], [2]) | 63 => some ([], [2]) | _ => none
noncomputable def prng_Mix_b : Code := Tryd.f50.body.getD .skip
theorem prng_Mix_tab : TabOk Ground_Bits prng_Mix_ct prng_Mix_en prng_Mix_b := by
  intro n E hn f c hs x k h
  cases hn
def prng_Mix_sh : List Sh := [.lf (.int .u64)]
def prng_Mix_d (x : denS prng_Mix_sh) (Q : List (Bool × List VV) → Prop) : Prop := prng_Mix x.1 (fun (r : Int) => Q (slotsA [(false, (.int .u64))] [.n] (r, ())))
theorem prng_Mix_snd (x : denS prng_Mix_sh) (Q : List (Bool × List VV) → Prop) (h : prng_Mix_d x Q) : Sound Tryd.prog 50 (packS prng_Mix_sh x) Q :=
  vfun_told [.n] (G := Ground_Bits) (ct := prng_Mix_ct) (en := prng_Mix_en) (fn := Tryd.f50) (cd := prng_Mix_b) (rt := [(false, (.int .u64))]) Tryd.func50 (by kernel_rfl) (by kernel_rfl) (Nat.le_of_ble_eq_true rfl) prng_Mix_tab Oround_Bits_ok h (by kernel_rfl)
noncomputable def Oprng_Mix : FuncId → List VV → (List (Bool × List VV) → Prop) → Prop := fun f args Q => if f = 50 then unA prng_Mix_sh args (fun x => prng_Mix_d x Q) else Oround_Bits f args Q
theorem Oprng_Mix_ok : ∀ f args Q, Oprng_Mix f args Q → Sound Tryd.prog f args Q := tab_more Oround_Bits_ok (f0 := 50) prng_Mix_sh (fun x Q => prng_Mix_d x Q) prng_Mix_snd
noncomputable def Gprng_Mix : Cfg := ⟨Tryd.prog, tt, Oprng_Mix, fun _ _ _ => False⟩
def prng_At (a0 : Int) (a1 : Int) (a2 : Int) (Q : Int → Prop) : Prop :=
  prng_Mix a0 (fun (r1 : Int) => prng_Mix (IntKind.u64.wrap ((BitVec.ofInt (IntKind.u64).bits r1 ^^^ BitVec.ofInt (IntKind.u64).bits a1).toNat : Nat)) (fun (r2 : Int) => prng_Mix (IntKind.u64.wrap ((BitVec.ofInt (IntKind.u64).bits r2 ^^^ BitVec.ofInt (IntKind.u64).bits a2).toNat : Nat)) (fun (r3 : Int) => Q r3)))
noncomputable def prng_At_ct : Tab := fun n => none
noncomputable def prng_At_en : Go.Mach.Ends := fun n => match n with | 2 => some ([], [0, 1, 2]) | 6 => some ([], [6]) | 7 => some ([], [6]) | _ => none
noncomputable def prng_At_b : Code := Tryd.f33.body.getD .skip
theorem prng_At_tab : TabOk Gprng_Mix prng_At_ct prng_At_en prng_At_b := by
  intro n E hn f c hs x k h
  cases hn
def prng_At_sh : List Sh := [.lf (.int .u64), .lf (.int .u64), .lf (.int .u64)]
def prng_At_d (x : denS prng_At_sh) (Q : List (Bool × List VV) → Prop) : Prop := prng_At x.1 x.2.1 x.2.2.1 (fun (r : Int) => Q (slotsA [(false, (.int .u64))] [.n] (r, ())))
theorem prng_At_snd (x : denS prng_At_sh) (Q : List (Bool × List VV) → Prop) (h : prng_At_d x Q) : Sound Tryd.prog 33 (packS prng_At_sh x) Q :=
  vfun_told [.n] (G := Gprng_Mix) (ct := prng_At_ct) (en := prng_At_en) (fn := Tryd.f33) (cd := prng_At_b) (rt := [(false, (.int .u64))]) Tryd.func33 (by kernel_rfl) (by kernel_rfl) (Nat.le_of_ble_eq_true rfl) prng_At_tab Oprng_Mix_ok h (by kernel_rfl)
noncomputable def Oprng_At : FuncId → List VV → (List (Bool × List VV) → Prop) → Prop := fun f args Q => if f = 33 then unA prng_At_sh args (fun x => prng_At_d x Q) else Oprng_Mix f args Q
theorem Oprng_At_ok : ∀ f args Q, Oprng_At f args Q → Sound Tryd.prog f args Q := tab_more Oprng_Mix_ok (f0 := 33) prng_At_sh (fun x Q => prng_At_d x Q) prng_At_snd
noncomputable def Gprng_At : Cfg := ⟨Tryd.prog, tt, Oprng_At, fun _ _ _ => False⟩
def round_Chance (a0 : Int) (a1 : Int) (a2 : Int) (Q : Int → Prop) : Prop :=
  round_shift a1 (fun (r1 : Int) => round_value a0 (fun (r2 : Int) => ck ((0 : Int) ≤ r1) (ck ((0 : Int) ≤ r1) (Q ((IntKind.i64.wrap (r2 + (IntKind.i64.wrap (IntKind.u64.wrap ((BitVec.ofInt (IntKind.u64).bits a2 &&& BitVec.ofInt (IntKind.u64).bits (IntKind.u64.wrap ((IntKind.u64.wrap (1 * 2 ^ (min (r1).toNat (IntKind.u64).bits))) - 1))).toNat : Nat))))).fdiv (2 ^ (min (r1).toNat (IntKind.i64).bits)))))))
noncomputable def round_Chance_ct : Tab := fun n => none
noncomputable def round_Chance_en : Go.Mach.Ends := fun n => match n with | 2 => some ([], [0, 1, 2]) | 6 => some ([], [0, 1, 2]) | 14 => some ([], [6]) | 15 => some ([], [6]) | _ => none
noncomputable def round_Chance_b : Code := Tryd.f32.body.getD .skip
theorem round_Chance_tab : TabOk Gprng_At round_Chance_ct round_Chance_en round_Chance_b := by
  intro n E hn f c hs x k h
  cases hn
def round_Chance_sh : List Sh := [.lf (.int .i64), .lf (.int .i64), .lf (.int .u64)]
def round_Chance_d (x : denS round_Chance_sh) (Q : List (Bool × List VV) → Prop) : Prop := round_Chance x.1 x.2.1 x.2.2.1 (fun (r : Int) => Q (slotsA [(false, (.int .i64))] [.n] (r, ())))
theorem round_Chance_snd (x : denS round_Chance_sh) (Q : List (Bool × List VV) → Prop) (h : round_Chance_d x Q) : Sound Tryd.prog 32 (packS round_Chance_sh x) Q :=
  vfun_told [.n] (G := Gprng_At) (ct := round_Chance_ct) (en := round_Chance_en) (fn := Tryd.f32) (cd := round_Chance_b) (rt := [(false, (.int .i64))]) Tryd.func32 (by kernel_rfl) (by kernel_rfl) (Nat.le_of_ble_eq_true rfl) round_Chance_tab Oprng_At_ok h (by kernel_rfl)
noncomputable def Oround_Chance : FuncId → List VV → (List (Bool × List VV) → Prop) → Prop := fun f args Q => if f = 32 then unA round_Chance_sh args (fun x => round_Chance_d x Q) else Oprng_At f args Q
theorem Oround_Chance_ok : ∀ f args Q, Oround_Chance f args Q → Sound Tryd.prog f args Q := tab_more Oprng_At_ok (f0 := 32) round_Chance_sh (fun x Q => round_Chance_d x Q) round_Chance_snd
noncomputable def Ground_Chance : Cfg := ⟨Tryd.prog, tt, Oround_Chance, fun _ _ _ => False⟩
def tensor_MayAcc (a0 : (List Int) × Int × List Int) (Q : Bool → Prop) : Prop :=
  shape_May a0.1 (fun (r1 : Bool) => jn (fun (v2 : Bool) => jn (fun (v5 : Bool) => Q v5) (fun J6 => if v2 = true then tensor_exp a0.2.1 128 (fun (r7 : Bool) => J6 r7) else J6 false)) (fun J3 => if r1 = true then shape_Size a0.1 (fun (r4 : Int) => J3 ((a0.2.2.length : Int) == r4)) else J3 false))
noncomputable def tensor_MayAcc_ct : Tab := fun n => none
noncomputable def tensor_MayAcc_en : Go.Mach.Ends := fun n => match n with | 2 => some ([], [1]) | 6 => some ([], [2]) | 7 => some ([], [2]) | _ => none
noncomputable def tensor_MayAcc_b : Code := Tryd.f16.body.getD .skip
theorem tensor_MayAcc_tab : TabOk Ground_Chance tensor_MayAcc_ct tensor_MayAcc_en tensor_MayAcc_b := by
  intro n E hn f c hs x k h
  cases hn
def tensor_MayAcc_sh : List Sh := [.agg [.fz false (.int .i64), .int .i64, .fz false (.int .i32)]]
def tensor_MayAcc_d (x : denS tensor_MayAcc_sh) (Q : List (Bool × List VV) → Prop) : Prop := tensor_MayAcc (x.1.1, (x.1.2.1, x.1.2.2.1)) (fun (r : Bool) => Q (slotsA [(false, .bool)] [.n] (r, ())))
theorem tensor_MayAcc_snd (x : denS tensor_MayAcc_sh) (Q : List (Bool × List VV) → Prop) (h : tensor_MayAcc_d x Q) : Sound Tryd.prog 16 (packS tensor_MayAcc_sh x) Q :=
  vfun_told [.n] (G := Ground_Chance) (ct := tensor_MayAcc_ct) (en := tensor_MayAcc_en) (fn := Tryd.f16) (cd := tensor_MayAcc_b) (rt := [(false, .bool)]) Tryd.func16 (by kernel_rfl) (by kernel_rfl) (Nat.le_of_ble_eq_true rfl) tensor_MayAcc_tab Oround_Chance_ok h (by kernel_rfl)
noncomputable def Otensor_MayAcc : FuncId → List VV → (List (Bool × List VV) → Prop) → Prop := fun f args Q => if f = 16 then unA tensor_MayAcc_sh args (fun x => tensor_MayAcc_d x Q) else Oround_Chance f args Q
theorem Otensor_MayAcc_ok : ∀ f args Q, Otensor_MayAcc f args Q → Sound Tryd.prog f args Q := tab_more Oround_Chance_ok (f0 := 16) tensor_MayAcc_sh (fun x Q => tensor_MayAcc_d x Q) tensor_MayAcc_snd
noncomputable def Gtensor_MayAcc : Cfg := ⟨Tryd.prog, tt, Otensor_MayAcc, fun _ _ _ => False⟩
def slices_Index_int8_int8_n0_B (x0 : List Int) (x1 : Int) (x2 : Int) (K0 : Unit → Prop) (K1 : Int → Prop) (s : Int) (nx : Int → Prop) : Prop :=
  if (decide (s < x2)) = true then ck ((0 : Int) ≤ s ∧ s < (x0.length : Int)) (if (x1 == (x0.getD ((s).toNat) 0)) = true then K1 s else nx (IntKind.i64.wrap (s + 1))) else K0 ()
def slices_Index_int8_int8_n0 (x0 : List Int) (x1 : Int) (x2 : Int) (K0 : Unit → Prop) (K1 : Int → Prop) (s : Int) : Prop := Go.Mach.Loop (slices_Index_int8_int8_n0_B x0 x1 x2 K0 K1) s
def slices_Index_int8_int8 (a0 : List Int) (a1 : Int) (Q : Int → Prop) : Prop :=
  slices_Index_int8_int8_n0 a0 a1 (a0.length : Int) (fun (y1 : Unit) => Q (-1)) (fun (y2 : Int) => Q y2) 0
noncomputable def slices_Index_int8_int8_e0 : Ent := ⟨[0, 1, 7, 8], [.lf (.fz false (.int .i8)), .lf (.int .i8), .lf (.int .i64), .lf (.int .i64)], [], fun x k => slices_Index_int8_int8_n0 x.1.1 x.1.2.1 x.1.2.2.1 (fun (y3 : Unit) => k (.exit 0) ⟨[], []⟩) (fun (y4 : Int) => k .ret ⟨[(4, .pl (.int .i64 y4))], []⟩) x.1.2.2.2.1⟩
noncomputable def slices_Index_int8_int8_ct : Tab := fun n => match n with | 26 => some slices_Index_int8_int8_e0 | _ => none
noncomputable def slices_Index_int8_int8_en : Go.Mach.Ends := fun n => match n with | 2 => some ([], [0, 1]) | 12 => some ([], [0, 1, 7, 8]) | 14 => some ([], [4]) | 15 => some ([], [4]) | 26 => some ([], [0, 1, 7, 8]) | 104 => some ([], [0, 1, 7, 8, 9]) | 420 => some ([], [0, 1, 7, 8]) | 421 => some ([], []) | 423 => some ([], [0, 1, 7, 8]) | 1688 => some ([], [0, 1, 5, 7, 8]) | 3378 => some ([], [0, 1, 5, 7, 8, 16]) | 6759 => some ([], [0, 1, 7, 8]) | 13516 => some ([], [4]) | 13517 => some ([], [4]) | _ => none
noncomputable def slices_Index_int8_int8_b : Code := Tryd.f43.body.getD .skip
theorem slices_Index_int8_int8_tab : TabOk Gtensor_MayAcc slices_Index_int8_int8_ct slices_Index_int8_int8_en slices_Index_int8_int8_b := by
  intro n E hn f c hs x k h
  unfold slices_Index_int8_int8_ct at hn
  split at hn
  · cases hn; exact tab_loop2 hs (by kernel_rfl) (fun y : Int => ⟨[(0, .fz false (.int .i8) x.1.1), (1, .pl (.int .i8 x.1.2.1)), (7, .pl (.int .i64 x.1.2.2.1)), (8, .pl (.int .i64 y))], []⟩) x.1.2.2.2.1 (by kernel_rfl) (fun y X => by kernel_rfl) h
  · cases hn
def slices_Index_int8_int8_sh : List Sh := [.lf (.fz false (.int .i8)), .lf (.int .i8)]
def slices_Index_int8_int8_d (x : denS slices_Index_int8_int8_sh) (Q : List (Bool × List VV) → Prop) : Prop := slices_Index_int8_int8 x.1 x.2.1 (fun (r : Int) => Q (slotsA [(false, (.int .i64))] [.n] (r, ())))
theorem slices_Index_int8_int8_snd (x : denS slices_Index_int8_int8_sh) (Q : List (Bool × List VV) → Prop) (h : slices_Index_int8_int8_d x Q) : Sound Tryd.prog 43 (packS slices_Index_int8_int8_sh x) Q :=
  vfun_told [.n] (G := Gtensor_MayAcc) (ct := slices_Index_int8_int8_ct) (en := slices_Index_int8_int8_en) (fn := Tryd.f43) (cd := slices_Index_int8_int8_b) (rt := [(false, (.int .i64))]) Tryd.func43 (by kernel_rfl) (by kernel_rfl) (Nat.le_of_ble_eq_true rfl) slices_Index_int8_int8_tab Otensor_MayAcc_ok h (by kernel_rfl)
noncomputable def Oslices_Index_int8_int8 : FuncId → List VV → (List (Bool × List VV) → Prop) → Prop := fun f args Q => if f = 43 then unA slices_Index_int8_int8_sh args (fun x => slices_Index_int8_int8_d x Q) else Otensor_MayAcc f args Q
theorem Oslices_Index_int8_int8_ok : ∀ f args Q, Oslices_Index_int8_int8 f args Q → Sound Tryd.prog f args Q := tab_more Otensor_MayAcc_ok (f0 := 43) slices_Index_int8_int8_sh (fun x Q => slices_Index_int8_int8_d x Q) slices_Index_int8_int8_snd
noncomputable def Gslices_Index_int8_int8 : Cfg := ⟨Tryd.prog, tt, Oslices_Index_int8_int8, fun _ _ _ => False⟩
def slices_Contains_int8_int8 (a0 : List Int) (a1 : Int) (Q : Bool → Prop) : Prop :=
  slices_Index_int8_int8 a0 a1 (fun (r1 : Int) => Q (decide (0 ≤ r1)))
noncomputable def slices_Contains_int8_int8_ct : Tab := fun n => none
noncomputable def slices_Contains_int8_int8_en : Go.Mach.Ends := fun n => match n with | 2 => some ([], [0, 1]) | 6 => some ([], [4]) | 7 => some ([], [4]) | _ => none
noncomputable def slices_Contains_int8_int8_b : Code := Tryd.f27.body.getD .skip
theorem slices_Contains_int8_int8_tab : TabOk Gslices_Index_int8_int8 slices_Contains_int8_int8_ct slices_Contains_int8_int8_en slices_Contains_int8_int8_b := by
  intro n E hn f c hs x k h
  cases hn
def slices_Contains_int8_int8_sh : List Sh := [.lf (.fz false (.int .i8)), .lf (.int .i8)]
def slices_Contains_int8_int8_d (x : denS slices_Contains_int8_int8_sh) (Q : List (Bool × List VV) → Prop) : Prop := slices_Contains_int8_int8 x.1 x.2.1 (fun (r : Bool) => Q (slotsA [(false, .bool)] [.n] (r, ())))
theorem slices_Contains_int8_int8_snd (x : denS slices_Contains_int8_int8_sh) (Q : List (Bool × List VV) → Prop) (h : slices_Contains_int8_int8_d x Q) : Sound Tryd.prog 27 (packS slices_Contains_int8_int8_sh x) Q :=
  vfun_told [.n] (G := Gslices_Index_int8_int8) (ct := slices_Contains_int8_int8_ct) (en := slices_Contains_int8_int8_en) (fn := Tryd.f27) (cd := slices_Contains_int8_int8_b) (rt := [(false, .bool)]) Tryd.func27 (by kernel_rfl) (by kernel_rfl) (Nat.le_of_ble_eq_true rfl) slices_Contains_int8_int8_tab Oslices_Index_int8_int8_ok h (by kernel_rfl)
noncomputable def Oslices_Contains_int8_int8 : FuncId → List VV → (List (Bool × List VV) → Prop) → Prop := fun f args Q => if f = 27 then unA slices_Contains_int8_int8_sh args (fun x => slices_Contains_int8_int8_d x Q) else Oslices_Index_int8_int8 f args Q
theorem Oslices_Contains_int8_int8_ok : ∀ f args Q, Oslices_Contains_int8_int8 f args Q → Sound Tryd.prog f args Q := tab_more Oslices_Index_int8_int8_ok (f0 := 27) slices_Contains_int8_int8_sh (fun x Q => slices_Contains_int8_int8_d x Q) slices_Contains_int8_int8_snd
noncomputable def Gslices_Contains_int8_int8 : Cfg := ⟨Tryd.prog, tt, Oslices_Contains_int8_int8, fun _ _ _ => False⟩
def tensor_May (a0 : (List Int) × Int × List Int) (Q : Bool → Prop) : Prop :=
  shape_May a0.1 (fun (r1 : Bool) => jn (fun (v2 : Bool) => jn (fun (v5 : Bool) => jn (fun (v8 : Bool) => Q v8) (fun J9 => if v5 = true then slices_Contains_int8_int8 a0.2.2 (-128) (fun (r10 : Bool) => J9 (!r10)) else J9 false)) (fun J6 => if v2 = true then tensor_exp a0.2.1 64 (fun (r7 : Bool) => J6 r7) else J6 false)) (fun J3 => if r1 = true then shape_Size a0.1 (fun (r4 : Int) => J3 ((a0.2.2.length : Int) == r4)) else J3 false))
noncomputable def tensor_May_ct : Tab := fun n => none
noncomputable def tensor_May_en : Go.Mach.Ends := fun n => match n with | 2 => some ([], [1]) | 6 => some ([], [2]) | 7 => some ([], [2]) | _ => none
noncomputable def tensor_May_b : Code := Tryd.f5.body.getD .skip
theorem tensor_May_tab : TabOk Gslices_Contains_int8_int8 tensor_May_ct tensor_May_en tensor_May_b := by
  intro n E hn f c hs x k h
  cases hn
def tensor_May_sh : List Sh := [.agg [.fz false (.int .i64), .int .i64, .fz false (.int .i8)]]
def tensor_May_d (x : denS tensor_May_sh) (Q : List (Bool × List VV) → Prop) : Prop := tensor_May (x.1.1, (x.1.2.1, x.1.2.2.1)) (fun (r : Bool) => Q (slotsA [(false, .bool)] [.n] (r, ())))
theorem tensor_May_snd (x : denS tensor_May_sh) (Q : List (Bool × List VV) → Prop) (h : tensor_May_d x Q) : Sound Tryd.prog 5 (packS tensor_May_sh x) Q :=
  vfun_told [.n] (G := Gslices_Contains_int8_int8) (ct := tensor_May_ct) (en := tensor_May_en) (fn := Tryd.f5) (cd := tensor_May_b) (rt := [(false, .bool)]) Tryd.func5 (by kernel_rfl) (by kernel_rfl) (Nat.le_of_ble_eq_true rfl) tensor_May_tab Oslices_Contains_int8_int8_ok h (by kernel_rfl)
noncomputable def Otensor_May : FuncId → List VV → (List (Bool × List VV) → Prop) → Prop := fun f args Q => if f = 5 then unA tensor_May_sh args (fun x => tensor_May_d x Q) else Oslices_Contains_int8_int8 f args Q
theorem Otensor_May_ok : ∀ f args Q, Otensor_May f args Q → Sound Tryd.prog f args Q := tab_more Oslices_Contains_int8_int8_ok (f0 := 5) tensor_May_sh (fun x Q => tensor_May_d x Q) tensor_May_snd
noncomputable def Gtensor_May : Cfg := ⟨Tryd.prog, tt, Otensor_May, fun _ _ _ => False⟩
def tensor_Width_n0_B (x1 : List Int) (x2 : Int) (K0 : Int → Prop) (s : Int × Int) (nx : (Int × Int) → Prop) : Prop :=
  if (decide (s.2 < x2)) = true then ck ((0 : Int) ≤ s.2 ∧ s.2 < (x1.length : Int)) (round_Bits (IntKind.i64.wrap (x1.getD ((s.2).toNat) 0)) (fun (r2 : Int) => nx (greater s.1 r2, IntKind.i64.wrap (s.2 + 1)))) else K0 s.1
def tensor_Width_n0 (x1 : List Int) (x2 : Int) (K0 : Int → Prop) (s : Int × Int) : Prop := Go.Mach.Loop (tensor_Width_n0_B x1 x2 K0) s
def tensor_Width (a0 : (List Int) × Int × List Int) (Q : Int → Prop) : Prop :=
  tensor_MayAcc (a0.1, (a0.2.1, a0.2.2)) (fun (r1 : Bool) => if (!r1) = true then Q 0 else tensor_Width_n0 a0.2.2 (a0.2.2.length : Int) (fun (y3 : Int) => Q y3) (0, 0))
noncomputable def tensor_Width_e0 : Ent := ⟨[3, 10, 11, 12], [.lf (.int .i64), .lf (.fz false (.int .i32)), .lf (.int .i64), .lf (.int .i64)], [], fun x k => tensor_Width_n0 x.1.2.1 x.1.2.2.1 (fun (y4 : Int) => k (.exit 0) ⟨[(3, .pl (.int .i64 y4))], []⟩) (x.1.1, x.1.2.2.2.1)⟩
noncomputable def tensor_Width_ct : Tab := fun n => match n with | 122 => some tensor_Width_e0 | _ => none
noncomputable def tensor_Width_en : Go.Mach.Ends := fun n => match n with | 2 => some ([], [1]) | 12 => some ([], [1, 8]) | 14 => some ([], [1, 3]) | 27 => some ([], [1]) | 52 => some ([], [2]) | 53 => some ([], [2]) | 60 => some ([], [3, 10, 11, 12]) | 62 => some ([], [2]) | 63 => some ([], [2]) | 122 => some ([], [3, 10, 11, 12]) | 488 => some ([], [3, 10, 11, 12, 13]) | 1956 => some ([], [3, 10, 11, 12]) | 1957 => some ([], [3]) | 1959 => some ([], [3, 10, 11, 12]) | 7832 => some ([], [3, 5, 10, 11, 12]) | 7833 => some ([], [3, 10, 11, 12]) | _ => none
noncomputable def tensor_Width_b : Code := Tryd.f18.body.getD .skip
theorem tensor_Width_tab : TabOk Gtensor_May tensor_Width_ct tensor_Width_en tensor_Width_b := by
  intro n E hn f c hs x k h
  unfold tensor_Width_ct at hn
  split at hn
  · cases hn; exact tab_loop2 hs (by kernel_rfl) (fun y : Int × Int => ⟨[(3, .pl (.int .i64 y.1)), (10, .fz false (.int .i32) x.1.2.1), (11, .pl (.int .i64 x.1.2.2.1)), (12, .pl (.int .i64 y.2))], []⟩) (x.1.1, x.1.2.2.2.1) (by kernel_rfl) (fun y X => by kernel_rfl) h
  · cases hn
def tensor_Width_sh : List Sh := [.agg [.fz false (.int .i64), .int .i64, .fz false (.int .i32)]]
def tensor_Width_d (x : denS tensor_Width_sh) (Q : List (Bool × List VV) → Prop) : Prop := tensor_Width (x.1.1, (x.1.2.1, x.1.2.2.1)) (fun (r : Int) => Q (slotsA [(false, (.int .i64))] [.n] (r, ())))
theorem tensor_Width_snd (x : denS tensor_Width_sh) (Q : List (Bool × List VV) → Prop) (h : tensor_Width_d x Q) : Sound Tryd.prog 18 (packS tensor_Width_sh x) Q :=
  vfun_told [.n] (G := Gtensor_May) (ct := tensor_Width_ct) (en := tensor_Width_en) (fn := Tryd.f18) (cd := tensor_Width_b) (rt := [(false, (.int .i64))]) Tryd.func18 (by kernel_rfl) (by kernel_rfl) (Nat.le_of_ble_eq_true rfl) tensor_Width_tab Otensor_May_ok h (by kernel_rfl)
noncomputable def Otensor_Width : FuncId → List VV → (List (Bool × List VV) → Prop) → Prop := fun f args Q => if f = 18 then unA tensor_Width_sh args (fun x => tensor_Width_d x Q) else Otensor_May f args Q
theorem Otensor_Width_ok : ∀ f args Q, Otensor_Width f args Q → Sound Tryd.prog f args Q := tab_more Otensor_May_ok (f0 := 18) tensor_Width_sh (fun x Q => tensor_Width_d x Q) tensor_Width_snd
noncomputable def Gtensor_Width : Cfg := ⟨Tryd.prog, tt, Otensor_Width, fun _ _ _ => False⟩
def slices_Clone_int_int (a0 : List Int) (Q : (List Int) → Prop) : Prop :=
  nq a0 (Q ([] : List Int)) (ck ((([] : List Int).length + a0.length) * 8 ≤ 140737488355328) (Q (([] : List Int) ++ a0)))
noncomputable def slices_Clone_int_int_ct : Tab := fun n => none
noncomputable def slices_Clone_int_int_en : Go.Mach.Ends := fun n => match n with | 2 => some ([], [0]) | 12 => some ([], [0, 4]) | 14 => some ([], [2]) | 15 => some ([], [2]) | 27 => some ([], [0]) | 52 => some ([], [2]) | 53 => some ([], [2]) | _ => none
noncomputable def slices_Clone_int_int_b : Code := Tryd.f31.body.getD .skip
theorem slices_Clone_int_int_tab : TabOk Gtensor_Width slices_Clone_int_int_ct slices_Clone_int_int_en slices_Clone_int_int_b := by
  intro n E hn f c hs x k h
  cases hn
def slices_Clone_int_int_sh : List Sh := [.lf (.fz false (.int .i64))]
def slices_Clone_int_int_d (x : denS slices_Clone_int_int_sh) (Q : List (Bool × List VV) → Prop) : Prop := slices_Clone_int_int x.1 (fun (r : List Int) => Q (slotsA [(false, (.slc (.int .i64)))] [.n] (r, ())))
theorem slices_Clone_int_int_snd (x : denS slices_Clone_int_int_sh) (Q : List (Bool × List VV) → Prop) (h : slices_Clone_int_int_d x Q) : Sound Tryd.prog 31 (packS slices_Clone_int_int_sh x) Q :=
  vfun_told [.n] (G := Gtensor_Width) (ct := slices_Clone_int_int_ct) (en := slices_Clone_int_int_en) (fn := Tryd.f31) (cd := slices_Clone_int_int_b) (rt := [(false, (.slc (.int .i64)))]) Tryd.func31 (by kernel_rfl) (by kernel_rfl) (Nat.le_of_ble_eq_true rfl) slices_Clone_int_int_tab Otensor_Width_ok h (by kernel_rfl)
noncomputable def Oslices_Clone_int_int : FuncId → List VV → (List (Bool × List VV) → Prop) → Prop := fun f args Q => if f = 31 then unA slices_Clone_int_int_sh args (fun x => slices_Clone_int_int_d x Q) else Otensor_Width f args Q
theorem Oslices_Clone_int_int_ok : ∀ f args Q, Oslices_Clone_int_int f args Q → Sound Tryd.prog f args Q := tab_more Otensor_Width_ok (f0 := 31) slices_Clone_int_int_sh (fun x Q => slices_Clone_int_int_d x Q) slices_Clone_int_int_snd
noncomputable def Gslices_Clone_int_int : Cfg := ⟨Tryd.prog, tt, Oslices_Clone_int_int, fun _ _ _ => False⟩
end Go.Proofs.YtejbkafligpmbaaDoor
