/- Plain texts of functions, as the value machine comes to them. No condition. -/
import Derived.Test.YtejbkafligpmbaaDoorL4
import Derived.Test.YtejbkafligpmbaaDoorProg
import Derived.KernelRfl
namespace Go.Proofs.YtejbkafligpmbaaDoor
open Go.Mach
set_option maxRecDepth 100000
set_option linter.unusedVariables false
def pedagogueref1_MayDims_n0_B (x1 : List Int) (x2 : Int) (K0 : Unit → Prop) (K1 : Unit → Prop) (s : Int × Int) (nx : (Int × Int) → Prop) : Prop :=
  if (decide (s.2 < x2)) = true then ck ((0 : Int) ≤ s.2 ∧ s.2 < (x1.length : Int)) (jn (fun (v1 : Bool) => if v1 = true then K1 () else nx (IntKind.i64.wrap (s.1 * (x1.getD ((s.2).toNat) 0)), IntKind.i64.wrap (s.2 + 1))) (fun J2 => if ((decide ((x1.getD ((s.2).toNat) 0) < 1)) || (decide (4096 < (x1.getD ((s.2).toNat) 0)))) = true then J2 true else ck ((x1.getD ((s.2).toNat) 0) ≠ (0 : Int)) (J2 (decide ((IntKind.i64.wrap (((8192 : Int)).tdiv (x1.getD ((s.2).toNat) 0))) < s.1))))) else K0 ()
structure pedagogueref1_MayDims_n0 (x1 : List Int) (x2 : Int) (K0 : Unit → Prop) (K1 : Unit → Prop) (s : Int × Int) : Prop where
  it : Go.Mach.Loop (pedagogueref1_MayDims_n0_B x1 x2 K0 K1) s
def pedagogueref1_MayDims_t (a0 : List Int) (Q : Bool → Prop) : Prop :=
  if ((decide ((a0.length : Int) < 1)) || (decide (4 < (a0.length : Int)))) = true then Q false else pedagogueref1_MayDims_n0 a0 (a0.length : Int) (fun (y3 : Unit) => Q true) (fun (y4 : Unit) => Q false) (1, 0)
structure pedagogueref1_MayDims (a0 : List Int) (Q : Bool → Prop) : Prop where
  it : pedagogueref1_MayDims_t a0 Q
noncomputable def pedagogueref1_MayDims_e0 : Ent := ⟨[3, 14, 15, 16], [.lf (.int .i64), .lf (.fz false (.int .i64)), .lf (.int .i64), .lf (.int .i64)], [], fun x k => pedagogueref1_MayDims_n0 x.1.2.1 x.1.2.2.1 (fun (y5 : Unit) => k (.exit 0) ⟨[], []⟩) (fun (y6 : Unit) => k .ret ⟨[(2, .pl (.bool false))], []⟩) (x.1.1, x.1.2.2.2.1)⟩
noncomputable def pedagogueref1_MayDims_ct : Tab := fun n => match n with | 122 => some pedagogueref1_MayDims_e0 | _ => none
noncomputable def pedagogueref1_MayDims_en : Go.Mach.Ends := fun n => match n with | 2 => some ([], [0]) | 12 => some ([], [0, 13]) | 14 => some ([], [0, 3]) | 27 => some ([], [0]) | 52 => some ([], [2]) | 53 => some ([], [2]) | 60 => some ([], [3, 14, 15, 16]) | 62 => some ([], [2]) | 63 => some ([], [2]) | 122 => some ([], [3, 14, 15, 16]) | 488 => some ([], [3, 14, 15, 16, 17]) | 1956 => some ([], [3, 14, 15, 16]) | 1957 => some ([], []) | 1959 => some ([], [3, 14, 15, 16]) | 7832 => some ([], [3, 5, 14, 15, 16]) | 15667 => some ([], [3, 14, 15, 16]) | 31332 => some ([], [3, 5, 14, 15, 16, 31]) | 62667 => some ([], [3, 5, 14, 15, 16]) | 125332 => some ([], [2]) | 125333 => some ([], [2]) | _ => none
noncomputable def pedagogueref1_MayDims_b : Code := Tryd.f13.body.getD .skip
theorem pedagogueref1_MayDims_tab : TabOk Gpedagoguelaw8_awake pedagogueref1_MayDims_ct pedagogueref1_MayDims_en pedagogueref1_MayDims_b := by
  intro n E hn f c hs x k h
  unfold pedagogueref1_MayDims_ct at hn
  split at hn
  · cases hn; exact tab_loop2 hs (by kernel_rfl) (fun y : Int × Int => ⟨[(3, .pl (.int .i64 y.1)), (14, .fz false (.int .i64) x.1.2.1), (15, .pl (.int .i64 x.1.2.2.1)), (16, .pl (.int .i64 y.2))], []⟩) (x.1.1, x.1.2.2.2.1) (by kernel_rfl) (fun y X => by kernel_rfl) h.it
  · cases hn
def pedagogueref1_MayDims_sh : List Sh := [.lf (.fz false (.int .i64))]
def pedagogueref1_MayDims_d (x : denS pedagogueref1_MayDims_sh) (Q : List (Bool × List VV) → Prop) : Prop := pedagogueref1_MayDims x.1 (fun (r : Bool) => Q (slotsA [(false, .bool)] [.n] (r, ())))
theorem pedagogueref1_MayDims_snd (x : denS pedagogueref1_MayDims_sh) (Q : List (Bool × List VV) → Prop) (h : pedagogueref1_MayDims_d x Q) : Sound Tryd.prog 13 (packS pedagogueref1_MayDims_sh x) Q :=
  vfun_told [.n] (G := Gpedagoguelaw8_awake) (ct := pedagogueref1_MayDims_ct) (en := pedagogueref1_MayDims_en) (fn := Tryd.f13) (cd := pedagogueref1_MayDims_b) (rt := [(false, .bool)]) Tryd.func13 (by kernel_rfl) (by kernel_rfl) (Nat.le_of_ble_eq_true rfl) pedagogueref1_MayDims_tab Opedagoguelaw8_awake_ok h.it (by kernel_rfl)
noncomputable def Opedagogueref1_MayDims : FuncId → List VV → (List (Bool × List VV) → Prop) → Prop := fun f args Q => if f = 13 then unA pedagogueref1_MayDims_sh args (fun x => pedagogueref1_MayDims_d x Q) else Opedagoguelaw8_awake f args Q
theorem Opedagogueref1_MayDims_ok : ∀ f args Q, Opedagogueref1_MayDims f args Q → Sound Tryd.prog f args Q := tab_more Opedagoguelaw8_awake_ok (f0 := 13) pedagogueref1_MayDims_sh (fun x Q => pedagogueref1_MayDims_d x Q) pedagogueref1_MayDims_snd
noncomputable def Gpedagogueref1_MayDims : Cfg := ⟨Tryd.prog, tt, Opedagogueref1_MayDims, fun _ _ _ => False⟩
def pedagogueref1_Size_n0_B (x1 : List Int) (x2 : Int) (K0 : Int → Prop) (s : Int × Int) (nx : (Int × Int) → Prop) : Prop :=
  if (decide (s.2 < x2)) = true then ck ((0 : Int) ≤ s.2 ∧ s.2 < (x1.length : Int)) (nx (IntKind.i64.wrap (s.1 * (x1.getD ((s.2).toNat) 0)), IntKind.i64.wrap (s.2 + 1))) else K0 s.1
structure pedagogueref1_Size_n0 (x1 : List Int) (x2 : Int) (K0 : Int → Prop) (s : Int × Int) : Prop where
  it : Go.Mach.Loop (pedagogueref1_Size_n0_B x1 x2 K0) s
def pedagogueref1_Size_t (a0 : List Int) (Q : Int → Prop) : Prop :=
  pedagogueref1_MayDims a0 (fun (r1 : Bool) => if (!r1) = true then Q 0 else pedagogueref1_Size_n0 a0 (a0.length : Int) (fun (y2 : Int) => Q y2) (1, 0))
structure pedagogueref1_Size (a0 : List Int) (Q : Int → Prop) : Prop where
  it : pedagogueref1_Size_t a0 Q
noncomputable def pedagogueref1_Size_e0 : Ent := ⟨[3, 9, 10, 11], [.lf (.int .i64), .lf (.fz false (.int .i64)), .lf (.int .i64), .lf (.int .i64)], [], fun x k => pedagogueref1_Size_n0 x.1.2.1 x.1.2.2.1 (fun (y3 : Int) => k (.exit 0) ⟨[(3, .pl (.int .i64 y3))], []⟩) (x.1.1, x.1.2.2.2.1)⟩
noncomputable def pedagogueref1_Size_ct : Tab := fun n => match n with | 122 => some pedagogueref1_Size_e0 | _ => none
noncomputable def pedagogueref1_Size_en : Go.Mach.Ends := fun n => match n with | 2 => some ([], [0]) | 12 => some ([], [0, 8]) | 14 => some ([], [0, 3]) | 27 => some ([], [0]) | 52 => some ([], [2]) | 53 => some ([], [2]) | 60 => some ([], [3, 9, 10, 11]) | 62 => some ([], [2]) | 63 => some ([], [2]) | 122 => some ([], [3, 9, 10, 11]) | 488 => some ([], [3, 9, 10, 11, 12]) | 1956 => some ([], [3, 9, 10, 11]) | 1957 => some ([], [3]) | 1959 => some ([], [3, 9, 10, 11]) | 7832 => some ([], [3, 5, 9, 10, 11]) | 7833 => some ([], [3, 9, 10, 11]) | _ => none
noncomputable def pedagogueref1_Size_b : Code := Tryd.f14.body.getD .skip
theorem pedagogueref1_Size_tab : TabOk Gpedagogueref1_MayDims pedagogueref1_Size_ct pedagogueref1_Size_en pedagogueref1_Size_b := by
  intro n E hn f c hs x k h
  unfold pedagogueref1_Size_ct at hn
  split at hn
  · cases hn; exact tab_loop2 hs (by kernel_rfl) (fun y : Int × Int => ⟨[(3, .pl (.int .i64 y.1)), (9, .fz false (.int .i64) x.1.2.1), (10, .pl (.int .i64 x.1.2.2.1)), (11, .pl (.int .i64 y.2))], []⟩) (x.1.1, x.1.2.2.2.1) (by kernel_rfl) (fun y X => by kernel_rfl) h.it
  · cases hn
def pedagogueref1_Size_sh : List Sh := [.lf (.fz false (.int .i64))]
def pedagogueref1_Size_d (x : denS pedagogueref1_Size_sh) (Q : List (Bool × List VV) → Prop) : Prop := pedagogueref1_Size x.1 (fun (r : Int) => Q (slotsA [(false, (.int .i64))] [.n] (r, ())))
theorem pedagogueref1_Size_snd (x : denS pedagogueref1_Size_sh) (Q : List (Bool × List VV) → Prop) (h : pedagogueref1_Size_d x Q) : Sound Tryd.prog 14 (packS pedagogueref1_Size_sh x) Q :=
  vfun_told [.n] (G := Gpedagogueref1_MayDims) (ct := pedagogueref1_Size_ct) (en := pedagogueref1_Size_en) (fn := Tryd.f14) (cd := pedagogueref1_Size_b) (rt := [(false, (.int .i64))]) Tryd.func14 (by kernel_rfl) (by kernel_rfl) (Nat.le_of_ble_eq_true rfl) pedagogueref1_Size_tab Opedagogueref1_MayDims_ok h.it (by kernel_rfl)
noncomputable def Opedagogueref1_Size : FuncId → List VV → (List (Bool × List VV) → Prop) → Prop := fun f args Q => if f = 14 then unA pedagogueref1_Size_sh args (fun x => pedagogueref1_Size_d x Q) else Opedagogueref1_MayDims f args Q
theorem Opedagogueref1_Size_ok : ∀ f args Q, Opedagogueref1_Size f args Q → Sound Tryd.prog f args Q := tab_more Opedagogueref1_MayDims_ok (f0 := 14) pedagogueref1_Size_sh (fun x Q => pedagogueref1_Size_d x Q) pedagogueref1_Size_snd
noncomputable def Gpedagogueref1_Size : Cfg := ⟨Tryd.prog, tt, Opedagogueref1_Size, fun _ _ _ => False⟩
def pedagogueref1_MayT_n0_B (x0 : List Int) (x1 : Int) (K0 : Unit → Prop) (K1 : Unit → Prop) (s : Int) (nx : Int → Prop) : Prop :=
  if (decide (s < x1)) = true then ck ((0 : Int) ≤ s ∧ s < (x0.length : Int)) (if ((x0.getD ((s).toNat) 0) == (-128)) = true then K1 () else nx (IntKind.i64.wrap (s + 1))) else K0 ()
structure pedagogueref1_MayT_n0 (x0 : List Int) (x1 : Int) (K0 : Unit → Prop) (K1 : Unit → Prop) (s : Int) : Prop where
  it : Go.Mach.Loop (pedagogueref1_MayT_n0_B x0 x1 K0 K1) s
def pedagogueref1_MayT_t (a0 : (List Int) × Int × List Int) (Q : Bool → Prop) : Prop :=
  pedagogueref1_MayDims a0.1 (fun (r1 : Bool) => jn (fun (v2 : Bool) => if ((v2 || (decide (a0.2.1 < (-64)))) || (decide (64 < a0.2.1))) = true then Q false else pedagogueref1_MayT_n0 a0.2.2 (a0.2.2.length : Int) (fun (y5 : Unit) => Q true) (fun (y6 : Unit) => Q false) 0) (fun J3 => if (!r1) = true then J3 true else pedagogueref1_Size a0.1 (fun (r4 : Int) => J3 ((a0.2.2.length : Int) != r4))))
structure pedagogueref1_MayT (a0 : (List Int) × Int × List Int) (Q : Bool → Prop) : Prop where
  it : pedagogueref1_MayT_t a0 Q
noncomputable def pedagogueref1_MayT_e0 : Ent := ⟨[29, 30, 31], [.lf (.fz false (.int .i8)), .lf (.int .i64), .lf (.int .i64)], [], fun x k => pedagogueref1_MayT_n0 x.1.1 x.1.2.1 (fun (y7 : Unit) => k (.exit 0) ⟨[], []⟩) (fun (y8 : Unit) => k .ret ⟨[(2, .pl (.bool false))], []⟩) x.1.2.2.1⟩
noncomputable def pedagogueref1_MayT_ct : Tab := fun n => match n with | 58 => some pedagogueref1_MayT_e0 | _ => none
noncomputable def pedagogueref1_MayT_en : Go.Mach.Ends := fun n => match n with | 2 => some ([], [1]) | 12 => some ([], [1, 27]) | 27 => some ([], [1]) | 28 => some ([], [29, 30, 31]) | 30 => some ([], [2]) | 31 => some ([], [2]) | 52 => some ([], [2]) | 53 => some ([], [2]) | 58 => some ([], [29, 30, 31]) | 232 => some ([], [29, 30, 31, 32]) | 932 => some ([], [29, 30, 31]) | 933 => some ([], []) | 935 => some ([], [29, 30, 31]) | 3736 => some ([], [4, 29, 30, 31]) | 7474 => some ([], [29, 30, 31, 36]) | 14951 => some ([], [29, 30, 31]) | 29900 => some ([], [2]) | 29901 => some ([], [2]) | _ => none
noncomputable def pedagogueref1_MayT_b : Code := Tryd.f15.body.getD .skip
theorem pedagogueref1_MayT_tab : TabOk Gpedagogueref1_Size pedagogueref1_MayT_ct pedagogueref1_MayT_en pedagogueref1_MayT_b := by
  intro n E hn f c hs x k h
  unfold pedagogueref1_MayT_ct at hn
  split at hn
  · cases hn; exact tab_loop2 hs (by kernel_rfl) (fun y : Int => ⟨[(29, .fz false (.int .i8) x.1.1), (30, .pl (.int .i64 x.1.2.1)), (31, .pl (.int .i64 y))], []⟩) x.1.2.2.1 (by kernel_rfl) (fun y X => by kernel_rfl) h.it
  · cases hn
def pedagogueref1_MayT_sh : List Sh := [.agg [.fz false (.int .i64), .int .i64, .fz false (.int .i8)]]
def pedagogueref1_MayT_d (x : denS pedagogueref1_MayT_sh) (Q : List (Bool × List VV) → Prop) : Prop := pedagogueref1_MayT (x.1.1, (x.1.2.1, x.1.2.2.1)) (fun (r : Bool) => Q (slotsA [(false, .bool)] [.n] (r, ())))
theorem pedagogueref1_MayT_snd (x : denS pedagogueref1_MayT_sh) (Q : List (Bool × List VV) → Prop) (h : pedagogueref1_MayT_d x Q) : Sound Tryd.prog 15 (packS pedagogueref1_MayT_sh x) Q :=
  vfun_told [.n] (G := Gpedagogueref1_Size) (ct := pedagogueref1_MayT_ct) (en := pedagogueref1_MayT_en) (fn := Tryd.f15) (cd := pedagogueref1_MayT_b) (rt := [(false, .bool)]) Tryd.func15 (by kernel_rfl) (by kernel_rfl) (Nat.le_of_ble_eq_true rfl) pedagogueref1_MayT_tab Opedagogueref1_Size_ok h.it (by kernel_rfl)
noncomputable def Opedagogueref1_MayT : FuncId → List VV → (List (Bool × List VV) → Prop) → Prop := fun f args Q => if f = 15 then unA pedagogueref1_MayT_sh args (fun x => pedagogueref1_MayT_d x Q) else Opedagogueref1_Size f args Q
theorem Opedagogueref1_MayT_ok : ∀ f args Q, Opedagogueref1_MayT f args Q → Sound Tryd.prog f args Q := tab_more Opedagogueref1_Size_ok (f0 := 15) pedagogueref1_MayT_sh (fun x Q => pedagogueref1_MayT_d x Q) pedagogueref1_MayT_snd
noncomputable def Gpedagogueref1_MayT : Cfg := ⟨Tryd.prog, tt, Opedagogueref1_MayT, fun _ _ _ => False⟩
def pedagogueref1_SameInts_n0_B (x0 : List Int) (x1 : List Int) (x2 : Int) (K0 : Unit → Prop) (K1 : Unit → Prop) (s : Int) (nx : Int → Prop) : Prop :=
  if (decide (s < x2)) = true then ck ((0 : Int) ≤ s ∧ s < (x0.length : Int)) (ck ((0 : Int) ≤ s ∧ s < (x1.length : Int)) (if ((x0.getD ((s).toNat) 0) != (x1.getD ((s).toNat) 0)) = true then K1 () else nx (IntKind.i64.wrap (s + 1)))) else K0 ()
structure pedagogueref1_SameInts_n0 (x0 : List Int) (x1 : List Int) (x2 : Int) (K0 : Unit → Prop) (K1 : Unit → Prop) (s : Int) : Prop where
  it : Go.Mach.Loop (pedagogueref1_SameInts_n0_B x0 x1 x2 K0 K1) s
def pedagogueref1_SameInts_t (a0 : List Int) (a1 : List Int) (Q : Bool → Prop) : Prop :=
  if ((a0.length : Int) != (a1.length : Int)) = true then Q false else pedagogueref1_SameInts_n0 a0 a1 (a0.length : Int) (fun (y1 : Unit) => Q true) (fun (y2 : Unit) => Q false) 0
structure pedagogueref1_SameInts (a0 : List Int) (a1 : List Int) (Q : Bool → Prop) : Prop where
  it : pedagogueref1_SameInts_t a0 a1 Q
noncomputable def pedagogueref1_SameInts_e0 : Ent := ⟨[0, 1, 12, 13], [.lf (.fz false (.int .i64)), .lf (.fz false (.int .i64)), .lf (.int .i64), .lf (.int .i64)], [], fun x k => pedagogueref1_SameInts_n0 x.1.1 x.1.2.1 x.1.2.2.1 (fun (y3 : Unit) => k (.exit 0) ⟨[], []⟩) (fun (y4 : Unit) => k .ret ⟨[(4, .pl (.bool false))], []⟩) x.1.2.2.2.1⟩
noncomputable def pedagogueref1_SameInts_ct : Tab := fun n => match n with | 58 => some pedagogueref1_SameInts_e0 | _ => none
noncomputable def pedagogueref1_SameInts_en : Go.Mach.Ends := fun n => match n with | 2 => some ([], [0, 1]) | 12 => some ([], [0, 1, 10]) | 27 => some ([], [0, 1]) | 28 => some ([], [0, 1, 12, 13]) | 30 => some ([], [4]) | 31 => some ([], [4]) | 52 => some ([], [4]) | 53 => some ([], [4]) | 58 => some ([], [0, 1, 12, 13]) | 232 => some ([], [0, 1, 12, 13, 14]) | 932 => some ([], [0, 1, 12, 13]) | 933 => some ([], []) | 935 => some ([], [0, 1, 12, 13]) | 3736 => some ([], [0, 1, 5, 12, 13]) | 7474 => some ([], [0, 1, 12, 13, 24]) | 14951 => some ([], [0, 1, 12, 13]) | 29900 => some ([], [4]) | 29901 => some ([], [4]) | _ => none
noncomputable def pedagogueref1_SameInts_b : Code := Tryd.f30.body.getD .skip
theorem pedagogueref1_SameInts_tab : TabOk Gpedagogueref1_MayT pedagogueref1_SameInts_ct pedagogueref1_SameInts_en pedagogueref1_SameInts_b := by
  intro n E hn f c hs x k h
  unfold pedagogueref1_SameInts_ct at hn
  split at hn
  · cases hn; exact tab_loop2 hs (by kernel_rfl) (fun y : Int => ⟨[(0, .fz false (.int .i64) x.1.1), (1, .fz false (.int .i64) x.1.2.1), (12, .pl (.int .i64 x.1.2.2.1)), (13, .pl (.int .i64 y))], []⟩) x.1.2.2.2.1 (by kernel_rfl) (fun y X => by kernel_rfl) h.it
  · cases hn
def pedagogueref1_SameInts_sh : List Sh := [.lf (.fz false (.int .i64)), .lf (.fz false (.int .i64))]
def pedagogueref1_SameInts_d (x : denS pedagogueref1_SameInts_sh) (Q : List (Bool × List VV) → Prop) : Prop := pedagogueref1_SameInts x.1 x.2.1 (fun (r : Bool) => Q (slotsA [(false, .bool)] [.n] (r, ())))
theorem pedagogueref1_SameInts_snd (x : denS pedagogueref1_SameInts_sh) (Q : List (Bool × List VV) → Prop) (h : pedagogueref1_SameInts_d x Q) : Sound Tryd.prog 30 (packS pedagogueref1_SameInts_sh x) Q :=
  vfun_told [.n] (G := Gpedagogueref1_MayT) (ct := pedagogueref1_SameInts_ct) (en := pedagogueref1_SameInts_en) (fn := Tryd.f30) (cd := pedagogueref1_SameInts_b) (rt := [(false, .bool)]) Tryd.func30 (by kernel_rfl) (by kernel_rfl) (Nat.le_of_ble_eq_true rfl) pedagogueref1_SameInts_tab Opedagogueref1_MayT_ok h.it (by kernel_rfl)
noncomputable def Opedagogueref1_SameInts : FuncId → List VV → (List (Bool × List VV) → Prop) → Prop := fun f args Q => if f = 30 then unA pedagogueref1_SameInts_sh args (fun x => pedagogueref1_SameInts_d x Q) else Opedagogueref1_MayT f args Q
theorem Opedagogueref1_SameInts_ok : ∀ f args Q, Opedagogueref1_SameInts f args Q → Sound Tryd.prog f args Q := tab_more Opedagogueref1_MayT_ok (f0 := 30) pedagogueref1_SameInts_sh (fun x Q => pedagogueref1_SameInts_d x Q) pedagogueref1_SameInts_snd
noncomputable def Gpedagogueref1_SameInts : Cfg := ⟨Tryd.prog, tt, Opedagogueref1_SameInts, fun _ _ _ => False⟩
def pedagogueref1_SameT_n0_B (x0 : Int) (x4 : List Int) (x7 : List Int) (K0 : Unit → Prop) (K1 : Unit → Prop) (s : Int) (nx : Int → Prop) : Prop :=
  if (decide (s < x0)) = true then ck ((0 : Int) ≤ s ∧ s < (x4.length : Int)) (ck ((0 : Int) ≤ s ∧ s < (x7.length : Int)) (if ((x4.getD ((s).toNat) 0) != (x7.getD ((s).toNat) 0)) = true then K1 () else nx (IntKind.i64.wrap (s + 1)))) else K0 ()
structure pedagogueref1_SameT_n0 (x0 : Int) (x4 : List Int) (x7 : List Int) (K0 : Unit → Prop) (K1 : Unit → Prop) (s : Int) : Prop where
  it : Go.Mach.Loop (pedagogueref1_SameT_n0_B x0 x4 x7 K0 K1) s
def pedagogueref1_SameT_t (a0 : (List Int) × Int × List Int) (a1 : (List Int) × Int × List Int) (Q : Bool → Prop) : Prop :=
  pedagogueref1_SameInts a0.1 a1.1 (fun (r1 : Bool) => if (((!r1) || (a0.2.1 != a1.2.1)) || ((a0.2.2.length : Int) != (a1.2.2.length : Int))) = true then Q false else pedagogueref1_SameT_n0 (a0.2.2.length : Int) a0.2.2 a1.2.2 (fun (y2 : Unit) => Q true) (fun (y3 : Unit) => Q false) 0)
structure pedagogueref1_SameT (a0 : (List Int) × Int × List Int) (a1 : (List Int) × Int × List Int) (Q : Bool → Prop) : Prop where
  it : pedagogueref1_SameT_t a0 a1 Q
noncomputable def pedagogueref1_SameT_e0 : Ent := ⟨[2, 3, 30, 31], [.lf (.cst (.ptr 0 0)), .lf (.cst (.ptr 1 0)), .lf (.int .i64), .lf (.int .i64)], [.box [.fz false (.int .i64), .int .i64, .fz false (.int .i8)] false, .box [.fz false (.int .i64), .int .i64, .fz false (.int .i8)] false], fun x k => pedagogueref1_SameT_n0 x.1.2.2.1 x.2.1.2.2.1 x.2.2.1.2.2.1 (fun (y4 : Unit) => k (.exit 0) ⟨[], []⟩) (fun (y5 : Unit) => k .ret ⟨[(4, .pl (.bool false))], []⟩) x.1.2.2.2.1⟩
noncomputable def pedagogueref1_SameT_ct : Tab := fun n => match n with | 58 => some pedagogueref1_SameT_e0 | _ => none
noncomputable def pedagogueref1_SameT_en : Go.Mach.Ends := fun n => match n with | 2 => some ([], [2, 3]) | 12 => some ([], [2, 3, 27]) | 27 => some ([], [2, 3]) | 28 => some ([], [2, 3, 30, 31]) | 30 => some ([], [4]) | 31 => some ([], [4]) | 52 => some ([], [4]) | 53 => some ([], [4]) | 58 => some ([], [2, 3, 30, 31]) | 232 => some ([], [2, 3, 30, 31, 32]) | 932 => some ([], [2, 3, 30, 31]) | 933 => some ([], []) | 935 => some ([], [2, 3, 30, 31]) | 3736 => some ([], [2, 3, 5, 30, 31]) | 7474 => some ([], [2, 3, 30, 31, 44]) | 14951 => some ([], [2, 3, 30, 31]) | 29900 => some ([], [4]) | 29901 => some ([], [4]) | _ => none
noncomputable def pedagogueref1_SameT_b : Code := Tryd.f8.body.getD .skip
theorem pedagogueref1_SameT_tab : TabOk Gpedagogueref1_SameInts pedagogueref1_SameT_ct pedagogueref1_SameT_en pedagogueref1_SameT_b := by
  intro n E hn f c hs x k h
  unfold pedagogueref1_SameT_ct at hn
  split at hn
  · cases hn; exact tab_loop2 hs (by kernel_rfl) (fun y : Int => ⟨[(2, .ptr 0 0), (3, .ptr 1 0), (30, .pl (.int .i64 x.1.2.2.1)), (31, .pl (.int .i64 y))], [.box [.fz false (.int .i64) x.2.1.1, .pl (.int .i64 x.2.1.2.1), .fz false (.int .i8) x.2.1.2.2.1] false, .box [.fz false (.int .i64) x.2.2.1.1, .pl (.int .i64 x.2.2.1.2.1), .fz false (.int .i8) x.2.2.1.2.2.1] false]⟩) x.1.2.2.2.1 (by kernel_rfl) (fun y X => by kernel_rfl) h.it
  · cases hn
def pedagogueref1_SameT_sh : List Sh := [.agg [.fz false (.int .i64), .int .i64, .fz false (.int .i8)], .agg [.fz false (.int .i64), .int .i64, .fz false (.int .i8)]]
def pedagogueref1_SameT_d (x : denS pedagogueref1_SameT_sh) (Q : List (Bool × List VV) → Prop) : Prop := pedagogueref1_SameT (x.1.1, (x.1.2.1, x.1.2.2.1)) (x.2.1.1, (x.2.1.2.1, x.2.1.2.2.1)) (fun (r : Bool) => Q (slotsA [(false, .bool)] [.n] (r, ())))
theorem pedagogueref1_SameT_snd (x : denS pedagogueref1_SameT_sh) (Q : List (Bool × List VV) → Prop) (h : pedagogueref1_SameT_d x Q) : Sound Tryd.prog 8 (packS pedagogueref1_SameT_sh x) Q :=
  vfun_told [.n] (G := Gpedagogueref1_SameInts) (ct := pedagogueref1_SameT_ct) (en := pedagogueref1_SameT_en) (fn := Tryd.f8) (cd := pedagogueref1_SameT_b) (rt := [(false, .bool)]) Tryd.func8 (by kernel_rfl) (by kernel_rfl) (Nat.le_of_ble_eq_true rfl) pedagogueref1_SameT_tab Opedagogueref1_SameInts_ok h.it (by kernel_rfl)
noncomputable def Opedagogueref1_SameT : FuncId → List VV → (List (Bool × List VV) → Prop) → Prop := fun f args Q => if f = 8 then unA pedagogueref1_SameT_sh args (fun x => pedagogueref1_SameT_d x Q) else Opedagogueref1_SameInts f args Q
theorem Opedagogueref1_SameT_ok : ∀ f args Q, Opedagogueref1_SameT f args Q → Sound Tryd.prog f args Q := tab_more Opedagogueref1_SameInts_ok (f0 := 8) pedagogueref1_SameT_sh (fun x Q => pedagogueref1_SameT_d x Q) pedagogueref1_SameT_snd
noncomputable def Gpedagogueref1_SameT : Cfg := ⟨Tryd.prog, tt, Opedagogueref1_SameT, fun _ _ _ => False⟩
def strconv_Itoa (a0 : Int) (Q : ByteArray → Prop) : Prop := (-9223372036854775808 ≤ a0 ∧ a0 ≤ 9223372036854775807) ∧ Q (Go.Mach.itoaS a0)
def strconv_Itoa_sh : List Sh := [.lf (.int .i64)]
def strconv_Itoa_d (x : denS strconv_Itoa_sh) (Q : List (Bool × List VV) → Prop) : Prop := strconv_Itoa x.1 (fun (r : ByteArray) => Q (slotsA [(false, .str)] [.n] (r, ())))
theorem strconv_Itoa_snd (x : denS strconv_Itoa_sh) (Q : List (Bool × List VV) → Prop) (h : strconv_Itoa_d x Q) : Sound Tryd.prog 28 (packS strconv_Itoa_sh x) Q := by
  exact Go.Mach.itoa_snd _ Q h.1 h.2
noncomputable def Ostrconv_Itoa : FuncId → List VV → (List (Bool × List VV) → Prop) → Prop := fun f args Q => if f = 28 then unA strconv_Itoa_sh args (fun x => strconv_Itoa_d x Q) else Opedagogueref1_SameT f args Q
theorem Ostrconv_Itoa_ok : ∀ f args Q, Ostrconv_Itoa f args Q → Sound Tryd.prog f args Q := tab_more Opedagogueref1_SameT_ok (f0 := 28) strconv_Itoa_sh (fun x Q => strconv_Itoa_d x Q) strconv_Itoa_snd
noncomputable def Gstrconv_Itoa : Cfg := ⟨Tryd.prog, tt, Ostrconv_Itoa, fun _ _ _ => False⟩
def strings_Join (a0 : List ByteArray) (a1 : ByteArray) (Q : ByteArray → Prop) : Prop := (a0.length ≤ 140737488355328 ∧ (Go.Mach.joinS a0 a1).size ≤ 140737488355328) ∧ Q (Go.Mach.joinS a0 a1)
def strings_Join_sh : List Sh := [.lf (.fz false .str), .lf (.str)]
def strings_Join_d (x : denS strings_Join_sh) (Q : List (Bool × List VV) → Prop) : Prop := strings_Join x.1 x.2.1 (fun (r : ByteArray) => Q (slotsA [(false, .str)] [.n] (r, ())))
theorem strings_Join_snd (x : denS strings_Join_sh) (Q : List (Bool × List VV) → Prop) (h : strings_Join_d x Q) : Sound Tryd.prog 29 (packS strings_Join_sh x) Q := by
  exact Go.Mach.join_snd _ _ Q h.1 h.2
noncomputable def Ostrings_Join : FuncId → List VV → (List (Bool × List VV) → Prop) → Prop := fun f args Q => if f = 29 then unA strings_Join_sh args (fun x => strings_Join_d x Q) else Ostrconv_Itoa f args Q
theorem Ostrings_Join_ok : ∀ f args Q, Ostrings_Join f args Q → Sound Tryd.prog f args Q := tab_more Ostrconv_Itoa_ok (f0 := 29) strings_Join_sh (fun x Q => strings_Join_d x Q) strings_Join_snd
noncomputable def Gstrings_Join : Cfg := ⟨Tryd.prog, tt, Ostrings_Join, fun _ _ _ => False⟩
def tensor_Text_n0_B (x0 : List Int) (x1 : Int) (K0 : (List ByteArray) → Prop) (s : Int × List ByteArray) (nx : (Int × List ByteArray) → Prop) : Prop :=
  if (decide (s.1 < x1)) = true then ck ((0 : Int) ≤ s.1 ∧ s.1 < (x0.length : Int)) (strconv_Itoa (x0.getD ((s.1).toNat) 0) (fun (r3 : ByteArray) => ck ((s.2.length + [r3].length) * 16 ≤ 140737488355328) (nx (IntKind.i64.wrap (s.1 + 1), s.2 ++ [r3])))) else K0 s.2
structure tensor_Text_n0 (x0 : List Int) (x1 : Int) (K0 : (List ByteArray) → Prop) (s : Int × List ByteArray) : Prop where
  it : Go.Mach.Loop (tensor_Text_n0_B x0 x1 K0) s
def tensor_Text_n1_B (x0 : List Int) (x1 : Int) (K0 : (List ByteArray) → Prop) (s : Int × List ByteArray) (nx : (Int × List ByteArray) → Prop) : Prop :=
  if (decide (s.1 < x1)) = true then ck ((0 : Int) ≤ s.1 ∧ s.1 < (x0.length : Int)) (strconv_Itoa (IntKind.i64.wrap (x0.getD ((s.1).toNat) 0)) (fun (r6 : ByteArray) => ck ((s.2.length + [r6].length) * 16 ≤ 140737488355328) (nx (IntKind.i64.wrap (s.1 + 1), s.2 ++ [r6])))) else K0 s.2
structure tensor_Text_n1 (x0 : List Int) (x1 : Int) (K0 : (List ByteArray) → Prop) (s : Int × List ByteArray) : Prop where
  it : Go.Mach.Loop (tensor_Text_n1_B x0 x1 K0) s
def tensor_Text_t (a0 : (List Int) × Int × List Int) (Q : ByteArray → Prop) : Prop :=
  tensor_May (a0.1, (a0.2.1, a0.2.2)) (fun (r1 : Bool) => if (!r1) = true then Q (⟨#[63]⟩ : ByteArray) else tensor_Text_n0 a0.1 (a0.1.length : Int) (fun (y4 : List ByteArray) => tensor_Text_n1 a0.2.2 (a0.2.2.length : Int) (fun (y7 : List ByteArray) => strings_Join y4 (⟨#[120]⟩ : ByteArray) (fun (r8 : ByteArray) => ck (r8.size + (⟨#[64]⟩ : ByteArray).size ≤ 2 ^ 60) (strconv_Itoa a0.2.1 (fun (r9 : ByteArray) => ck ((r8 ++ (⟨#[64]⟩ : ByteArray)).size + r9.size ≤ 2 ^ 60) (ck (((r8 ++ (⟨#[64]⟩ : ByteArray)) ++ r9).size + (⟨#[58]⟩ : ByteArray).size ≤ 2 ^ 60) (strings_Join y7 (⟨#[44]⟩ : ByteArray) (fun (r10 : ByteArray) => ck ((((r8 ++ (⟨#[64]⟩ : ByteArray)) ++ r9) ++ (⟨#[58]⟩ : ByteArray)).size + r10.size ≤ 2 ^ 60) (Q ((((r8 ++ (⟨#[64]⟩ : ByteArray)) ++ r9) ++ (⟨#[58]⟩ : ByteArray)) ++ r10))))))))) (0, ([] : List ByteArray))) (0, ([] : List ByteArray)))
structure tensor_Text (a0 : (List Int) × Int × List Int) (Q : ByteArray → Prop) : Prop where
  it : tensor_Text_t a0 Q
noncomputable def tensor_Text_e0 : Ent := ⟨[1, 3, 4, 13, 14, 15], [.lf (.cst (.ptr 0 0)), .lf (.cst (.pl (.slice none 0 0))), .lf (.cst (.pl (.slice none 0 0))), .lf (.fz false (.int .i64)), .lf (.int .i64), .lf (.int .i64)], [.box [.fz false (.int .i64), .int .i64, .fz false (.int .i8)] false], fun x k => tensor_Text_n0 x.1.2.2.2.1 x.1.2.2.2.2.1 (fun (y11 : List ByteArray) => k (.exit 0) ⟨[(1, .ptr 0 0), (3, .own 1), (4, .pl (.slice none 0 0))], [.box [.fz false (.int .i64) x.2.1.1, .pl (.int .i64 x.2.1.2.1), .fz false (.int .i8) x.2.1.2.2.1] false, .lst true .str y11 false]⟩) (x.1.2.2.2.2.2.1, ([] : List ByteArray))⟩
noncomputable def tensor_Text_e1 : Ent := ⟨[1, 3, 4, 26, 27, 28], [.lf (.cst (.ptr 0 0)), .lf (.cst (.own 1)), .lf (.cst (.pl (.slice none 0 0))), .lf (.fz false (.int .i8)), .lf (.int .i64), .lf (.int .i64)], [.box [.fz false (.int .i64), .int .i64, .fz false (.int .i8)] false, .lst true .str false], fun x k => tensor_Text_n1 x.1.2.2.2.1 x.1.2.2.2.2.1 (fun (y12 : List ByteArray) => k (.exit 2) ⟨[(1, .ptr 0 0), (3, .own 1), (4, .own 2)], [.box [.fz false (.int .i64) x.2.1.1, .pl (.int .i64 x.2.1.2.1), .fz false (.int .i8) x.2.1.2.2.1] false, .lst true .str x.2.2.1 false, .lst true .str y12 false]⟩) (x.1.2.2.2.2.2.1, ([] : List ByteArray))⟩
noncomputable def tensor_Text_ct : Tab := fun n => match n with | 122 => some tensor_Text_e0 | 250 => some tensor_Text_e1 | _ => none
noncomputable def tensor_Text_en : Go.Mach.Ends := fun n => match n with | 2 => some ([], [1]) | 12 => some ([], [1, 11]) | 14 => some ([], [1, 3, 4]) | 27 => some ([], [1]) | 52 => some ([], [2]) | 53 => some ([], [2]) | 60 => some ([], [1, 3, 4, 13, 14, 15]) | 122 => some ([⟨3, none, false, .str⟩], [1, 3, 4, 13, 14, 15]) | 124 => some ([], [1, 3, 4, 26, 27, 28]) | 126 => some ([], [2]) | 127 => some ([], [2]) | 250 => some ([⟨4, none, false, .str⟩], [1, 3, 4, 26, 27, 28]) | 488 => some ([], [1, 3, 4, 13, 14, 15, 16]) | 1000 => some ([], [1, 3, 4, 26, 27, 28, 29]) | 1956 => some ([], [1, 3, 4, 13, 14, 15]) | 1957 => some ([], [1, 3, 4]) | 1959 => some ([], [1, 3, 4, 13, 14, 15]) | 4004 => some ([], [1, 3, 4, 26, 27, 28]) | 4005 => some ([], [1, 3, 4]) | 4007 => some ([], [1, 3, 4, 26, 27, 28]) | 7832 => some ([], [1, 3, 4, 6, 13, 14, 15]) | 7833 => some ([], [1, 3, 4, 13, 14, 15]) | 16024 => some ([], [1, 3, 4, 8, 26, 27, 28]) | 16025 => some ([], [1, 3, 4, 26, 27, 28]) | _ => none
noncomputable def tensor_Text_b : Code := Tryd.f6.body.getD .skip
theorem tensor_Text_tab : TabOk Gstrings_Join tensor_Text_ct tensor_Text_en tensor_Text_b := by
  intro n E hn f c hs x k h
  unfold tensor_Text_ct at hn
  split at hn
  · cases hn; exact tab_loop2 hs (by kernel_rfl) (fun y : Int × List ByteArray => ⟨[(1, .ptr 0 0), (3, .own 1), (4, .pl (.slice none 0 0)), (13, .fz false (.int .i64) x.1.2.2.2.1), (14, .pl (.int .i64 x.1.2.2.2.2.1)), (15, .pl (.int .i64 y.1))], [.box [.fz false (.int .i64) x.2.1.1, .pl (.int .i64 x.2.1.2.1), .fz false (.int .i8) x.2.1.2.2.1] false, .lst true .str y.2 false]⟩) (x.1.2.2.2.2.2.1, ([] : List ByteArray)) (by kernel_rfl) (fun y X => by kernel_rfl) h.it
  · cases hn; exact tab_loop2 hs (by kernel_rfl) (fun y : Int × List ByteArray => ⟨[(1, .ptr 0 0), (3, .own 1), (4, .own 2), (26, .fz false (.int .i8) x.1.2.2.2.1), (27, .pl (.int .i64 x.1.2.2.2.2.1)), (28, .pl (.int .i64 y.1))], [.box [.fz false (.int .i64) x.2.1.1, .pl (.int .i64 x.2.1.2.1), .fz false (.int .i8) x.2.1.2.2.1] false, .lst true .str x.2.2.1 false, .lst true .str y.2 false]⟩) (x.1.2.2.2.2.2.1, ([] : List ByteArray)) (by kernel_rfl) (fun y X => by kernel_rfl) h.it
  · cases hn
def tensor_Text_sh : List Sh := [.agg [.fz false (.int .i64), .int .i64, .fz false (.int .i8)]]
def tensor_Text_d (x : denS tensor_Text_sh) (Q : List (Bool × List VV) → Prop) : Prop := tensor_Text (x.1.1, (x.1.2.1, x.1.2.2.1)) (fun (r : ByteArray) => Q (slotsA [(false, .str)] [.n] (r, ())))
theorem tensor_Text_snd (x : denS tensor_Text_sh) (Q : List (Bool × List VV) → Prop) (h : tensor_Text_d x Q) : Sound Tryd.prog 6 (packS tensor_Text_sh x) Q :=
  vfun_told [.n] (G := Gstrings_Join) (ct := tensor_Text_ct) (en := tensor_Text_en) (fn := Tryd.f6) (cd := tensor_Text_b) (rt := [(false, .str)]) Tryd.func6 (by kernel_rfl) (by kernel_rfl) (Nat.le_of_ble_eq_true rfl) tensor_Text_tab Ostrings_Join_ok h.it (by kernel_rfl)
noncomputable def Otensor_Text : FuncId → List VV → (List (Bool × List VV) → Prop) → Prop := fun f args Q => if f = 6 then unA tensor_Text_sh args (fun x => tensor_Text_d x Q) else Ostrings_Join f args Q
theorem Otensor_Text_ok : ∀ f args Q, Otensor_Text f args Q → Sound Tryd.prog f args Q := tab_more Ostrings_Join_ok (f0 := 6) tensor_Text_sh (fun x Q => tensor_Text_d x Q) tensor_Text_snd
noncomputable def Gtensor_Text : Cfg := ⟨Tryd.prog, tt, Otensor_Text, fun _ _ _ => False⟩
end Go.Proofs.YtejbkafligpmbaaDoor
