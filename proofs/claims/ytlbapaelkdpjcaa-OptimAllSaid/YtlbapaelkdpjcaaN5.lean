/- Plain texts of functions, as the value machine comes to them. No condition. -/
import Derived.Test.YtlbapaelkdpjcaaL4
import Derived.Test.YtlbapaelkdpjcaaProg
import Derived.KernelRfl
namespace Go.Proofs.Ytlbapaelkdpjcaa
open Go.Mach
set_option maxRecDepth 100000
set_option linter.unusedVariables false
def pedagogueref1_MayDims_n122_B (x122_1 : List Int) (x122_2 : Int) (K0 : Unit → Prop) (K1 : Unit → Prop) (s : Int × Int) (nx : (Int × Int) → Prop) : Prop :=
  if (decide (s.2 < x122_2)) = true then ck ((0 : Int) ≤ s.2 ∧ s.2 < (x122_1.length : Int)) (jn (fun (v1 : Bool) => if v1 = true then K1 () else nx (IntKind.i64.wrap (s.1 * (x122_1.getD ((s.2).toNat) 0)), IntKind.i64.wrap (s.2 + 1))) (fun J2 => if ((decide ((x122_1.getD ((s.2).toNat) 0) < 1)) || (decide (4096 < (x122_1.getD ((s.2).toNat) 0)))) = true then J2 true else ck ((x122_1.getD ((s.2).toNat) 0) ≠ (0 : Int)) (J2 (decide ((IntKind.i64.wrap (((8192 : Int)).tdiv (x122_1.getD ((s.2).toNat) 0))) < s.1))))) else K0 ()
structure pedagogueref1_MayDims_n122 (x122_1 : List Int) (x122_2 : Int) (K0 : Unit → Prop) (K1 : Unit → Prop) (s : Int × Int) : Prop where
  it : Go.Mach.Loop (pedagogueref1_MayDims_n122_B x122_1 x122_2 K0 K1) s
def pedagogueref1_MayDims_t (a0 : List Int) (Q : Bool → Prop) : Prop :=
  if ((decide ((a0.length : Int) < 1)) || (decide (4 < (a0.length : Int)))) = true then Q false else pedagogueref1_MayDims_n122 a0 (a0.length : Int) (fun (y3 : Unit) => Q true) (fun (y4 : Unit) => Q false) (1, 0)
structure pedagogueref1_MayDims (a0 : List Int) (Q : Bool → Prop) : Prop where
  it : pedagogueref1_MayDims_t a0 Q
noncomputable def pedagogueref1_MayDims_e122 : Ent := ⟨[3, 14, 15, 16], [.lf (.int .i64), .lf (.fz false (.int .i64)), .lf (.int .i64), .lf (.int .i64)], [], fun x k => pedagogueref1_MayDims_n122 x.1.2.1 x.1.2.2.1 (fun (y5 : Unit) => k (.exit 0) ⟨[], []⟩) (fun (y6 : Unit) => k .ret ⟨[(2, .pl (.bool false))], []⟩) (x.1.1, x.1.2.2.2.1)⟩
noncomputable def pedagogueref1_MayDims_ct : Tab := fun n => match n with | 122 => some pedagogueref1_MayDims_e122 | _ => none
noncomputable def pedagogueref1_MayDims_en : Go.Mach.Ends := fun n => match n with | 2 => some ([], [0]) | 12 => some ([], [0, 13]) | 14 => some ([], [0, 3]) | 27 => some ([], [0]) | 52 => some ([], [2]) | 53 => some ([], [2]) | 60 => some ([], [3, 14, 15, 16]) | 62 => some ([], [2]) | 63 => some ([], [2]) | 122 => some ([], [3, 14, 15, 16]) | 488 => some ([], [3, 14, 15, 16, 17]) | 1956 => some ([], [3, 14, 15, 16]) | 1957 => some ([], []) | 1959 => some ([], [3, 14, 15, 16]) | 7832 => some ([], [3, 5, 14, 15, 16]) | 15667 => some ([], [3, 14, 15, 16]) | 31332 => some ([], [3, 5, 14, 15, 16, 31]) | 62667 => some ([], [3, 5, 14, 15, 16]) | 125332 => some ([], [2]) | 125333 => some ([], [2]) | _ => none
noncomputable def pedagogueref1_MayDims_b : Code := Try.f104.body.getD .skip
theorem pedagogueref1_MayDims_tab : TabOk Gpedagoguelaw8_TensorZero pedagogueref1_MayDims_ct pedagogueref1_MayDims_en pedagogueref1_MayDims_b := by
  intro n E hn f c hs x k h
  unfold pedagogueref1_MayDims_ct at hn
  split at hn
  · cases hn
    have e := subC_det hs (show subC 70 pedagogueref1_MayDims_b 122 = some ((subC 70 pedagogueref1_MayDims_b 122).getD .skip) by kernel_rfl)
    subst e
    exact tab_loop (b := (subC 70 pedagogueref1_MayDims_b 244).getD .skip) (by kernel_rfl) (fun y : Int × Int => ⟨[(3, .pl (.int .i64 y.1)), (14, .fz false (.int .i64) x.1.2.1), (15, .pl (.int .i64 x.1.2.2.1)), (16, .pl (.int .i64 y.2))], []⟩) (x.1.1, x.1.2.2.2.1) (B := pedagogueref1_MayDims_n122_B x.1.2.1 x.1.2.2.1 (fun (y7 : Unit) => k (.exit 0) ⟨[], []⟩) (fun (y8 : Unit) => k .ret ⟨[(2, .pl (.bool false))], []⟩)) (by kernel_rfl) (fun y X => by kernel_rfl) h.it
  · cases hn
theorem pedagogueref1_MayDims_snd (x : denS [.lf (.fz false (.int .i64))]) (Q : List (Bool × List VV) → Prop) (h : pedagogueref1_MayDims x.1 (fun (r : Bool) => Q (slotsA [(false, .bool)] [.n] (r, ())))) : Sound Try.prog 104 (packS [.lf (.fz false (.int .i64))] x) Q :=
  vfun_told [.n] (G := Gpedagoguelaw8_TensorZero) (ct := pedagogueref1_MayDims_ct) (en := pedagogueref1_MayDims_en) (fn := Try.f104) (cd := pedagogueref1_MayDims_b) (rt := [(false, .bool)]) Try.func104 (by kernel_rfl) (by kernel_rfl) (Nat.le_of_ble_eq_true rfl) pedagogueref1_MayDims_tab Opedagoguelaw8_TensorZero_ok h.it (by kernel_rfl)
noncomputable def Opedagogueref1_MayDims : FuncId → List VV → (List (Bool × List VV) → Prop) → Prop := fun f args Q => if f = 104 then unA [.lf (.fz false (.int .i64))] args (fun x => pedagogueref1_MayDims x.1 (fun (r : Bool) => Q (slotsA [(false, .bool)] [.n] (r, ())))) else Opedagoguelaw8_TensorZero f args Q
theorem Opedagogueref1_MayDims_ok : ∀ f args Q, Opedagogueref1_MayDims f args Q → Sound Try.prog f args Q := tab_more Opedagoguelaw8_TensorZero_ok (f0 := 104) [.lf (.fz false (.int .i64))] (fun x Q => pedagogueref1_MayDims x.1 (fun (r : Bool) => Q (slotsA [(false, .bool)] [.n] (r, ())))) pedagogueref1_MayDims_snd
noncomputable def Gpedagogueref1_MayDims : Cfg := ⟨Try.prog, tt, Opedagogueref1_MayDims, fun _ _ _ => False⟩
def pedagogueref1_Size_n122_B (x122_1 : List Int) (x122_2 : Int) (K0 : Int → Prop) (s : Int × Int) (nx : (Int × Int) → Prop) : Prop :=
  if (decide (s.2 < x122_2)) = true then ck ((0 : Int) ≤ s.2 ∧ s.2 < (x122_1.length : Int)) (nx (IntKind.i64.wrap (s.1 * (x122_1.getD ((s.2).toNat) 0)), IntKind.i64.wrap (s.2 + 1))) else K0 s.1
structure pedagogueref1_Size_n122 (x122_1 : List Int) (x122_2 : Int) (K0 : Int → Prop) (s : Int × Int) : Prop where
  it : Go.Mach.Loop (pedagogueref1_Size_n122_B x122_1 x122_2 K0) s
def pedagogueref1_Size_t (a0 : List Int) (Q : Int → Prop) : Prop :=
  pedagogueref1_MayDims a0 (fun (r1 : Bool) => if (!r1) = true then Q 0 else pedagogueref1_Size_n122 a0 (a0.length : Int) (fun (y2 : Int) => Q y2) (1, 0))
structure pedagogueref1_Size (a0 : List Int) (Q : Int → Prop) : Prop where
  it : pedagogueref1_Size_t a0 Q
noncomputable def pedagogueref1_Size_e122 : Ent := ⟨[3, 9, 10, 11], [.lf (.int .i64), .lf (.fz false (.int .i64)), .lf (.int .i64), .lf (.int .i64)], [], fun x k => pedagogueref1_Size_n122 x.1.2.1 x.1.2.2.1 (fun (y3 : Int) => k (.exit 0) ⟨[(3, .pl (.int .i64 y3))], []⟩) (x.1.1, x.1.2.2.2.1)⟩
noncomputable def pedagogueref1_Size_ct : Tab := fun n => match n with | 122 => some pedagogueref1_Size_e122 | _ => none
noncomputable def pedagogueref1_Size_en : Go.Mach.Ends := fun n => match n with | 2 => some ([], [0]) | 12 => some ([], [0, 8]) | 14 => some ([], [0, 3]) | 27 => some ([], [0]) | 52 => some ([], [2]) | 53 => some ([], [2]) | 60 => some ([], [3, 9, 10, 11]) | 62 => some ([], [2]) | 63 => some ([], [2]) | 122 => some ([], [3, 9, 10, 11]) | 488 => some ([], [3, 9, 10, 11, 12]) | 1956 => some ([], [3, 9, 10, 11]) | 1957 => some ([], [3]) | 1959 => some ([], [3, 9, 10, 11]) | 7832 => some ([], [3, 5, 9, 10, 11]) | 7833 => some ([], [3, 9, 10, 11]) | _ => none
noncomputable def pedagogueref1_Size_b : Code := Try.f105.body.getD .skip
theorem pedagogueref1_Size_tab : TabOk Gpedagogueref1_MayDims pedagogueref1_Size_ct pedagogueref1_Size_en pedagogueref1_Size_b := by
  intro n E hn f c hs x k h
  unfold pedagogueref1_Size_ct at hn
  split at hn
  · cases hn
    have e := subC_det hs (show subC 70 pedagogueref1_Size_b 122 = some ((subC 70 pedagogueref1_Size_b 122).getD .skip) by kernel_rfl)
    subst e
    exact tab_loop (b := (subC 70 pedagogueref1_Size_b 244).getD .skip) (by kernel_rfl) (fun y : Int × Int => ⟨[(3, .pl (.int .i64 y.1)), (9, .fz false (.int .i64) x.1.2.1), (10, .pl (.int .i64 x.1.2.2.1)), (11, .pl (.int .i64 y.2))], []⟩) (x.1.1, x.1.2.2.2.1) (B := pedagogueref1_Size_n122_B x.1.2.1 x.1.2.2.1 (fun (y4 : Int) => k (.exit 0) ⟨[(3, .pl (.int .i64 y4))], []⟩)) (by kernel_rfl) (fun y X => by kernel_rfl) h.it
  · cases hn
theorem pedagogueref1_Size_snd (x : denS [.lf (.fz false (.int .i64))]) (Q : List (Bool × List VV) → Prop) (h : pedagogueref1_Size x.1 (fun (r : Int) => Q (slotsA [(false, (.int .i64))] [.n] (r, ())))) : Sound Try.prog 105 (packS [.lf (.fz false (.int .i64))] x) Q :=
  vfun_told [.n] (G := Gpedagogueref1_MayDims) (ct := pedagogueref1_Size_ct) (en := pedagogueref1_Size_en) (fn := Try.f105) (cd := pedagogueref1_Size_b) (rt := [(false, (.int .i64))]) Try.func105 (by kernel_rfl) (by kernel_rfl) (Nat.le_of_ble_eq_true rfl) pedagogueref1_Size_tab Opedagogueref1_MayDims_ok h.it (by kernel_rfl)
noncomputable def Opedagogueref1_Size : FuncId → List VV → (List (Bool × List VV) → Prop) → Prop := fun f args Q => if f = 105 then unA [.lf (.fz false (.int .i64))] args (fun x => pedagogueref1_Size x.1 (fun (r : Int) => Q (slotsA [(false, (.int .i64))] [.n] (r, ())))) else Opedagogueref1_MayDims f args Q
theorem Opedagogueref1_Size_ok : ∀ f args Q, Opedagogueref1_Size f args Q → Sound Try.prog f args Q := tab_more Opedagogueref1_MayDims_ok (f0 := 105) [.lf (.fz false (.int .i64))] (fun x Q => pedagogueref1_Size x.1 (fun (r : Int) => Q (slotsA [(false, (.int .i64))] [.n] (r, ())))) pedagogueref1_Size_snd
noncomputable def Gpedagogueref1_Size : Cfg := ⟨Try.prog, tt, Opedagogueref1_Size, fun _ _ _ => False⟩
def pedagogueref1_MayT_n58_B (x58_0 : List Int) (x58_1 : Int) (K0 : Unit → Prop) (K1 : Unit → Prop) (s : Int) (nx : Int → Prop) : Prop :=
  if (decide (s < x58_1)) = true then ck ((0 : Int) ≤ s ∧ s < (x58_0.length : Int)) (if ((x58_0.getD ((s).toNat) 0) == (-128)) = true then K1 () else nx (IntKind.i64.wrap (s + 1))) else K0 ()
structure pedagogueref1_MayT_n58 (x58_0 : List Int) (x58_1 : Int) (K0 : Unit → Prop) (K1 : Unit → Prop) (s : Int) : Prop where
  it : Go.Mach.Loop (pedagogueref1_MayT_n58_B x58_0 x58_1 K0 K1) s
def pedagogueref1_MayT_t (a0 : (List Int) × Int × List Int) (Q : Bool → Prop) : Prop :=
  pedagogueref1_MayDims a0.1 (fun (r1 : Bool) => jn (fun (v2 : Bool) => if ((v2 || (decide (a0.2.1 < (-64)))) || (decide (64 < a0.2.1))) = true then Q false else pedagogueref1_MayT_n58 a0.2.2 (a0.2.2.length : Int) (fun (y5 : Unit) => Q true) (fun (y6 : Unit) => Q false) 0) (fun J3 => if (!r1) = true then J3 true else pedagogueref1_Size a0.1 (fun (r4 : Int) => J3 ((a0.2.2.length : Int) != r4))))
structure pedagogueref1_MayT (a0 : (List Int) × Int × List Int) (Q : Bool → Prop) : Prop where
  it : pedagogueref1_MayT_t a0 Q
noncomputable def pedagogueref1_MayT_e58 : Ent := ⟨[29, 30, 31], [.lf (.fz false (.int .i8)), .lf (.int .i64), .lf (.int .i64)], [], fun x k => pedagogueref1_MayT_n58 x.1.1 x.1.2.1 (fun (y7 : Unit) => k (.exit 0) ⟨[], []⟩) (fun (y8 : Unit) => k .ret ⟨[(2, .pl (.bool false))], []⟩) x.1.2.2.1⟩
noncomputable def pedagogueref1_MayT_ct : Tab := fun n => match n with | 58 => some pedagogueref1_MayT_e58 | _ => none
noncomputable def pedagogueref1_MayT_en : Go.Mach.Ends := fun n => match n with | 2 => some ([], [1]) | 12 => some ([], [1, 27]) | 27 => some ([], [1]) | 28 => some ([], [29, 30, 31]) | 30 => some ([], [2]) | 31 => some ([], [2]) | 52 => some ([], [2]) | 53 => some ([], [2]) | 58 => some ([], [29, 30, 31]) | 232 => some ([], [29, 30, 31, 32]) | 932 => some ([], [29, 30, 31]) | 933 => some ([], []) | 935 => some ([], [29, 30, 31]) | 3736 => some ([], [4, 29, 30, 31]) | 7474 => some ([], [29, 30, 31, 36]) | 14951 => some ([], [29, 30, 31]) | 29900 => some ([], [2]) | 29901 => some ([], [2]) | _ => none
noncomputable def pedagogueref1_MayT_b : Code := Try.f53.body.getD .skip
theorem pedagogueref1_MayT_tab : TabOk Gpedagogueref1_Size pedagogueref1_MayT_ct pedagogueref1_MayT_en pedagogueref1_MayT_b := by
  intro n E hn f c hs x k h
  unfold pedagogueref1_MayT_ct at hn
  split at hn
  · cases hn
    have e := subC_det hs (show subC 70 pedagogueref1_MayT_b 58 = some ((subC 70 pedagogueref1_MayT_b 58).getD .skip) by kernel_rfl)
    subst e
    exact tab_loop (b := (subC 70 pedagogueref1_MayT_b 116).getD .skip) (by kernel_rfl) (fun y : Int => ⟨[(29, .fz false (.int .i8) x.1.1), (30, .pl (.int .i64 x.1.2.1)), (31, .pl (.int .i64 y))], []⟩) x.1.2.2.1 (B := pedagogueref1_MayT_n58_B x.1.1 x.1.2.1 (fun (y9 : Unit) => k (.exit 0) ⟨[], []⟩) (fun (y10 : Unit) => k .ret ⟨[(2, .pl (.bool false))], []⟩)) (by kernel_rfl) (fun y X => by kernel_rfl) h.it
  · cases hn
theorem pedagogueref1_MayT_snd (x : denS [.agg [.fz false (.int .i64), .int .i64, .fz false (.int .i8)]]) (Q : List (Bool × List VV) → Prop) (h : pedagogueref1_MayT (x.1.1, (x.1.2.1, x.1.2.2.1)) (fun (r : Bool) => Q (slotsA [(false, .bool)] [.n] (r, ())))) : Sound Try.prog 53 (packS [.agg [.fz false (.int .i64), .int .i64, .fz false (.int .i8)]] x) Q :=
  vfun_told [.n] (G := Gpedagogueref1_Size) (ct := pedagogueref1_MayT_ct) (en := pedagogueref1_MayT_en) (fn := Try.f53) (cd := pedagogueref1_MayT_b) (rt := [(false, .bool)]) Try.func53 (by kernel_rfl) (by kernel_rfl) (Nat.le_of_ble_eq_true rfl) pedagogueref1_MayT_tab Opedagogueref1_Size_ok h.it (by kernel_rfl)
noncomputable def Opedagogueref1_MayT : FuncId → List VV → (List (Bool × List VV) → Prop) → Prop := fun f args Q => if f = 53 then unA [.agg [.fz false (.int .i64), .int .i64, .fz false (.int .i8)]] args (fun x => pedagogueref1_MayT (x.1.1, (x.1.2.1, x.1.2.2.1)) (fun (r : Bool) => Q (slotsA [(false, .bool)] [.n] (r, ())))) else Opedagogueref1_Size f args Q
theorem Opedagogueref1_MayT_ok : ∀ f args Q, Opedagogueref1_MayT f args Q → Sound Try.prog f args Q := tab_more Opedagogueref1_Size_ok (f0 := 53) [.agg [.fz false (.int .i64), .int .i64, .fz false (.int .i8)]] (fun x Q => pedagogueref1_MayT (x.1.1, (x.1.2.1, x.1.2.2.1)) (fun (r : Bool) => Q (slotsA [(false, .bool)] [.n] (r, ())))) pedagogueref1_MayT_snd
noncomputable def Gpedagogueref1_MayT : Cfg := ⟨Try.prog, tt, Opedagogueref1_MayT, fun _ _ _ => False⟩
def pedagogueref10_may_n26_B (x26_0 : List ((List Int) × Int × List Int)) (x26_1 : Int) (K0 : Unit → Prop) (K1 : Unit → Prop) (s : Int) (nx : Int → Prop) : Prop :=
  if (decide (s < x26_1)) = true then ck ((0 : Int) ≤ s ∧ s < (x26_0.length : Int)) (pedagogueref1_MayT ((x26_0.getD ((s).toNat) ([], (0, []))).1, (((x26_0.getD ((s).toNat) ([], (0, []))).2).1, ((x26_0.getD ((s).toNat) ([], (0, []))).2).2)) (fun (r1 : Bool) => if (!r1) = true then K1 () else nx (IntKind.i64.wrap (s + 1)))) else K0 ()
structure pedagogueref10_may_n26 (x26_0 : List ((List Int) × Int × List Int)) (x26_1 : Int) (K0 : Unit → Prop) (K1 : Unit → Prop) (s : Int) : Prop where
  it : Go.Mach.Loop (pedagogueref10_may_n26_B x26_0 x26_1 K0 K1) s
def pedagogueref10_may_t (a0 : List ((List Int) × Int × List Int)) (Q : Bool → Prop) : Prop :=
  pedagogueref10_may_n26 a0 (a0.length : Int) (fun (y2 : Unit) => Q true) (fun (y3 : Unit) => Q false) 0
structure pedagogueref10_may (a0 : List ((List Int) × Int × List Int)) (Q : Bool → Prop) : Prop where
  it : pedagogueref10_may_t a0 Q
noncomputable def pedagogueref10_may_e26 : Ent := ⟨[5, 6, 7], [.lf (.fz false (.pair (.slc (.int .i64)) (.pair (.int .i64) (.slc (.int .i8))))), .lf (.int .i64), .lf (.int .i64)], [], fun x k => pedagogueref10_may_n26 x.1.1 x.1.2.1 (fun (y4 : Unit) => k (.exit 0) ⟨[], []⟩) (fun (y5 : Unit) => k .ret ⟨[(2, .pl (.bool false))], []⟩) x.1.2.2.1⟩
noncomputable def pedagogueref10_may_ct : Tab := fun n => match n with | 26 => some pedagogueref10_may_e26 | _ => none
noncomputable def pedagogueref10_may_en : Go.Mach.Ends := fun n => match n with | 2 => some ([], [0]) | 12 => some ([], [5, 6, 7]) | 14 => some ([], [2]) | 15 => some ([], [2]) | 26 => some ([], [5, 6, 7]) | 104 => some ([], [5, 6, 7, 8]) | 420 => some ([], [5, 6, 7]) | 421 => some ([], []) | 423 => some ([], [5, 6, 7]) | 1688 => some ([], [4, 5, 6, 7]) | 3378 => some ([], [5, 6, 7, 13]) | 6759 => some ([], [5, 6, 7]) | 13516 => some ([], [2]) | 13517 => some ([], [2]) | _ => none
noncomputable def pedagogueref10_may_b : Code := Try.f75.body.getD .skip
theorem pedagogueref10_may_tab : TabOk Gpedagogueref1_MayT pedagogueref10_may_ct pedagogueref10_may_en pedagogueref10_may_b := by
  intro n E hn f c hs x k h
  unfold pedagogueref10_may_ct at hn
  split at hn
  · cases hn
    have e := subC_det hs (show subC 70 pedagogueref10_may_b 26 = some ((subC 70 pedagogueref10_may_b 26).getD .skip) by kernel_rfl)
    subst e
    exact tab_loop (b := (subC 70 pedagogueref10_may_b 52).getD .skip) (by kernel_rfl) (fun y : Int => ⟨[(5, .fz false (.pair (.slc (.int .i64)) (.pair (.int .i64) (.slc (.int .i8)))) x.1.1), (6, .pl (.int .i64 x.1.2.1)), (7, .pl (.int .i64 y))], []⟩) x.1.2.2.1 (B := pedagogueref10_may_n26_B x.1.1 x.1.2.1 (fun (y6 : Unit) => k (.exit 0) ⟨[], []⟩) (fun (y7 : Unit) => k .ret ⟨[(2, .pl (.bool false))], []⟩)) (by kernel_rfl) (fun y X => by kernel_rfl) h.it
  · cases hn
theorem pedagogueref10_may_snd (x : denS [.lf (.fz false (.pair (.slc (.int .i64)) (.pair (.int .i64) (.slc (.int .i8)))))]) (Q : List (Bool × List VV) → Prop) (h : pedagogueref10_may x.1 (fun (r : Bool) => Q (slotsA [(false, .bool)] [.n] (r, ())))) : Sound Try.prog 75 (packS [.lf (.fz false (.pair (.slc (.int .i64)) (.pair (.int .i64) (.slc (.int .i8)))))] x) Q :=
  vfun_told [.n] (G := Gpedagogueref1_MayT) (ct := pedagogueref10_may_ct) (en := pedagogueref10_may_en) (fn := Try.f75) (cd := pedagogueref10_may_b) (rt := [(false, .bool)]) Try.func75 (by kernel_rfl) (by kernel_rfl) (Nat.le_of_ble_eq_true rfl) pedagogueref10_may_tab Opedagogueref1_MayT_ok h.it (by kernel_rfl)
noncomputable def Opedagogueref10_may : FuncId → List VV → (List (Bool × List VV) → Prop) → Prop := fun f args Q => if f = 75 then unA [.lf (.fz false (.pair (.slc (.int .i64)) (.pair (.int .i64) (.slc (.int .i8)))))] args (fun x => pedagogueref10_may x.1 (fun (r : Bool) => Q (slotsA [(false, .bool)] [.n] (r, ())))) else Opedagogueref1_MayT f args Q
theorem Opedagogueref10_may_ok : ∀ f args Q, Opedagogueref10_may f args Q → Sound Try.prog f args Q := tab_more Opedagogueref1_MayT_ok (f0 := 75) [.lf (.fz false (.pair (.slc (.int .i64)) (.pair (.int .i64) (.slc (.int .i8)))))] (fun x Q => pedagogueref10_may x.1 (fun (r : Bool) => Q (slotsA [(false, .bool)] [.n] (r, ())))) pedagogueref10_may_snd
noncomputable def Gpedagogueref10_may : Cfg := ⟨Try.prog, tt, Opedagogueref10_may, fun _ _ _ => False⟩
def pedagogueref1_SameInts_n58_B (x58_0 : List Int) (x58_1 : List Int) (x58_2 : Int) (K0 : Unit → Prop) (K1 : Unit → Prop) (s : Int) (nx : Int → Prop) : Prop :=
  if (decide (s < x58_2)) = true then ck ((0 : Int) ≤ s ∧ s < (x58_0.length : Int)) (ck ((0 : Int) ≤ s ∧ s < (x58_1.length : Int)) (if ((x58_0.getD ((s).toNat) 0) != (x58_1.getD ((s).toNat) 0)) = true then K1 () else nx (IntKind.i64.wrap (s + 1)))) else K0 ()
structure pedagogueref1_SameInts_n58 (x58_0 : List Int) (x58_1 : List Int) (x58_2 : Int) (K0 : Unit → Prop) (K1 : Unit → Prop) (s : Int) : Prop where
  it : Go.Mach.Loop (pedagogueref1_SameInts_n58_B x58_0 x58_1 x58_2 K0 K1) s
def pedagogueref1_SameInts_t (a0 : List Int) (a1 : List Int) (Q : Bool → Prop) : Prop :=
  if ((a0.length : Int) != (a1.length : Int)) = true then Q false else pedagogueref1_SameInts_n58 a0 a1 (a0.length : Int) (fun (y1 : Unit) => Q true) (fun (y2 : Unit) => Q false) 0
structure pedagogueref1_SameInts (a0 : List Int) (a1 : List Int) (Q : Bool → Prop) : Prop where
  it : pedagogueref1_SameInts_t a0 a1 Q
noncomputable def pedagogueref1_SameInts_e58 : Ent := ⟨[0, 1, 12, 13], [.lf (.fz false (.int .i64)), .lf (.fz false (.int .i64)), .lf (.int .i64), .lf (.int .i64)], [], fun x k => pedagogueref1_SameInts_n58 x.1.1 x.1.2.1 x.1.2.2.1 (fun (y3 : Unit) => k (.exit 0) ⟨[], []⟩) (fun (y4 : Unit) => k .ret ⟨[(4, .pl (.bool false))], []⟩) x.1.2.2.2.1⟩
noncomputable def pedagogueref1_SameInts_ct : Tab := fun n => match n with | 58 => some pedagogueref1_SameInts_e58 | _ => none
noncomputable def pedagogueref1_SameInts_en : Go.Mach.Ends := fun n => match n with | 2 => some ([], [0, 1]) | 12 => some ([], [0, 1, 10]) | 27 => some ([], [0, 1]) | 28 => some ([], [0, 1, 12, 13]) | 30 => some ([], [4]) | 31 => some ([], [4]) | 52 => some ([], [4]) | 53 => some ([], [4]) | 58 => some ([], [0, 1, 12, 13]) | 232 => some ([], [0, 1, 12, 13, 14]) | 932 => some ([], [0, 1, 12, 13]) | 933 => some ([], []) | 935 => some ([], [0, 1, 12, 13]) | 3736 => some ([], [0, 1, 5, 12, 13]) | 7474 => some ([], [0, 1, 12, 13, 24]) | 14951 => some ([], [0, 1, 12, 13]) | 29900 => some ([], [4]) | 29901 => some ([], [4]) | _ => none
noncomputable def pedagogueref1_SameInts_b : Code := Try.f30.body.getD .skip
theorem pedagogueref1_SameInts_tab : TabOk Gpedagogueref10_may pedagogueref1_SameInts_ct pedagogueref1_SameInts_en pedagogueref1_SameInts_b := by
  intro n E hn f c hs x k h
  unfold pedagogueref1_SameInts_ct at hn
  split at hn
  · cases hn
    have e := subC_det hs (show subC 70 pedagogueref1_SameInts_b 58 = some ((subC 70 pedagogueref1_SameInts_b 58).getD .skip) by kernel_rfl)
    subst e
    exact tab_loop (b := (subC 70 pedagogueref1_SameInts_b 116).getD .skip) (by kernel_rfl) (fun y : Int => ⟨[(0, .fz false (.int .i64) x.1.1), (1, .fz false (.int .i64) x.1.2.1), (12, .pl (.int .i64 x.1.2.2.1)), (13, .pl (.int .i64 y))], []⟩) x.1.2.2.2.1 (B := pedagogueref1_SameInts_n58_B x.1.1 x.1.2.1 x.1.2.2.1 (fun (y5 : Unit) => k (.exit 0) ⟨[], []⟩) (fun (y6 : Unit) => k .ret ⟨[(4, .pl (.bool false))], []⟩)) (by kernel_rfl) (fun y X => by kernel_rfl) h.it
  · cases hn
theorem pedagogueref1_SameInts_snd (x : denS [.lf (.fz false (.int .i64)), .lf (.fz false (.int .i64))]) (Q : List (Bool × List VV) → Prop) (h : pedagogueref1_SameInts x.1 x.2.1 (fun (r : Bool) => Q (slotsA [(false, .bool)] [.n] (r, ())))) : Sound Try.prog 30 (packS [.lf (.fz false (.int .i64)), .lf (.fz false (.int .i64))] x) Q :=
  vfun_told [.n] (G := Gpedagogueref10_may) (ct := pedagogueref1_SameInts_ct) (en := pedagogueref1_SameInts_en) (fn := Try.f30) (cd := pedagogueref1_SameInts_b) (rt := [(false, .bool)]) Try.func30 (by kernel_rfl) (by kernel_rfl) (Nat.le_of_ble_eq_true rfl) pedagogueref1_SameInts_tab Opedagogueref10_may_ok h.it (by kernel_rfl)
noncomputable def Opedagogueref1_SameInts : FuncId → List VV → (List (Bool × List VV) → Prop) → Prop := fun f args Q => if f = 30 then unA [.lf (.fz false (.int .i64)), .lf (.fz false (.int .i64))] args (fun x => pedagogueref1_SameInts x.1 x.2.1 (fun (r : Bool) => Q (slotsA [(false, .bool)] [.n] (r, ())))) else Opedagogueref10_may f args Q
theorem Opedagogueref1_SameInts_ok : ∀ f args Q, Opedagogueref1_SameInts f args Q → Sound Try.prog f args Q := tab_more Opedagogueref10_may_ok (f0 := 30) [.lf (.fz false (.int .i64)), .lf (.fz false (.int .i64))] (fun x Q => pedagogueref1_SameInts x.1 x.2.1 (fun (r : Bool) => Q (slotsA [(false, .bool)] [.n] (r, ())))) pedagogueref1_SameInts_snd
noncomputable def Gpedagogueref1_SameInts : Cfg := ⟨Try.prog, tt, Opedagogueref1_SameInts, fun _ _ _ => False⟩
end Go.Proofs.Ytlbapaelkdpjcaa
