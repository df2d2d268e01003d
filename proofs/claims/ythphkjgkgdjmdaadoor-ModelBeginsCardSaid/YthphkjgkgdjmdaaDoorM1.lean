/- Plain texts of functions, as the value machine comes to them. No condition. -/
import Derived.Test.YthphkjgkgdjmdaaDoorVStr
import Derived.Test.YthphkjgkgdjmdaaDoorProg
import Derived.KernelRfl
namespace Go.Proofs.YthphkjgkgdjmdaaDoor
open Go.Mach
set_option maxRecDepth 100000
set_option linter.unusedVariables false
abbrev TT7 : Ty := (.pair (.int .i64) (.pair (.int .i64) (.pair .bool (.int .u8))))
abbrev DD7 : Type := Int × Int × Bool × Int
abbrev TT13 : Ty := (.pair .str (.int .u64))
abbrev DD13 : Type := ByteArray × Int
abbrev TT25 : Ty := (.pair (.pair (.int .i64) (.pair (.int .i64) (.int .i64))) (.slc (.pair (.int .i64) (.pair (.int .i64) (.pair (.int .i64) (.pair (.int .i64) (.pair (.int .i64) (.pair (.int .i64) .bool))))))))
abbrev DD25 : Type := (Int × Int × Int) × List (Int × Int × Int × Int × Int × Int × Bool)
abbrev TT34 : Ty := (.pair (.int .i64) (.pair (.int .i64) (.pair (.int .i64) (.pair (.int .i64) (.pair (.int .i64) (.pair (.int .i64) .bool))))))
abbrev DD34 : Type := Int × Int × Int × Int × Int × Int × Bool
abbrev TT55 : Ty := (.pair .str (.slc (.int .i64)))
abbrev DD55 : Type := ByteArray × List Int
abbrev TT119 : Ty := (.pair (.int .u8) (.int .u8))
abbrev DD119 : Type := Int × Int
noncomputable def tt : TypeId → Option Ty := fun t => match t with
  | 2 => some (.int .i64)
  | 3 => some (.int .i64)
  | 4 => some .bool
  | 5 => some (.int .u8)
  | 6 => some (.int .u8)
  | 7 => some TT7
  | 8 => some TT7
  | 9 => some .str
  | 10 => some .str
  | 11 => some .str
  | 12 => some (.int .u64)
  | 13 => some TT13
  | 14 => some TT13
  | 21 => some (.int .i32)
  | 23 => some (.pair (.int .i64) (.pair (.int .i64) (.int .i64)))
  | 24 => some (.slc TT34)
  | 25 => some TT25
  | 26 => some TT25
  | 27 => some (.int .i64)
  | 33 => some (.int .u64)
  | 34 => some TT34
  | 35 => some TT34
  | 52 => some (.slc (.int .i64))
  | 55 => some TT55
  | 56 => some TT55
  | 64 => some (.slc .str)
  | 77 => some (.int .u64)
  | 82 => some (.int .u32)
  | 86 => some (.int .i64)
  | 87 => some (.slc (.int .u8))
  | 93 => some (.pair (.int .u8) (.pair (.int .u8) (.pair (.int .u8) (.pair (.int .u8) (.pair (.int .u8) (.pair (.int .u8) (.pair (.int .u8) (.pair (.int .u8) (.pair (.int .u8) (.pair (.int .u8) (.pair (.int .u8) (.pair (.int .u8) (.pair (.int .u8) (.pair (.int .u8) (.pair (.int .u8) (.pair (.int .u8) (.pair (.int .u8) (.pair (.int .u8) (.pair (.int .u8) (.pair (.int .u8) (.pair (.int .u8) (.pair (.int .u8) TT119))))))))))))))))))))))
  | 108 => some (.pair (.int .u64) (.pair (.int .u64) (.pair (.int .u64) (.pair (.int .u64) (.pair (.int .u64) (.pair (.int .u64) (.pair (.int .u64) (.pair (.int .u64) (.pair (.int .u64) (.pair (.int .u64) (.pair (.int .u64) (.pair (.int .u64) (.pair (.int .u64) (.pair (.int .u64) (.pair (.int .u64) (.pair (.int .u64) (.pair (.int .u64) (.pair (.int .u64) (.pair (.int .u64) (.int .u64))))))))))))))))))))
  | 115 => some .str
  | 116 => some .str
  | 119 => some TT119
  | 120 => some TT119
  | 121 => some (.pair TT119 (.pair TT119 (.pair TT119 (.pair TT119 (.pair TT119 (.pair TT119 (.pair TT119 (.pair TT119 (.pair TT119 (.pair TT119 (.pair TT119 (.pair TT119 (.pair TT119 (.pair TT119 (.pair TT119 TT119)))))))))))))))
  | 122 => some (.pair (.int .u8) (.pair (.int .u8) (.pair (.int .u8) (.pair (.int .u8) (.pair (.int .u8) (.pair (.int .u8) (.pair (.int .u8) (.pair (.int .u8) (.pair (.int .u8) (.pair (.int .u8) (.pair (.int .u8) (.pair (.int .u8) (.pair (.int .u8) (.pair (.int .u8) (.pair (.int .u8) (.pair (.int .u8) (.pair (.int .u8) (.pair (.int .u8) (.pair (.int .u8) (.pair (.int .u8) (.pair (.int .u8) (.pair (.int .u8) (.pair (.int .u8) (.pair (.int .u8) (.pair (.int .u8) (.pair (.int .u8) (.pair (.int .u8) (.pair (.int .u8) (.pair (.int .u8) (.pair (.int .u8) TT119))))))))))))))))))))))))))))))
  | 123 => some (.pair (.int .u8) (.pair (.int .u8) (.pair (.int .u8) (.pair (.int .u8) (.pair (.int .u8) (.pair (.int .u8) (.pair (.int .u8) (.pair (.int .u8) (.pair (.int .u8) (.pair (.int .u8) (.pair (.int .u8) (.pair (.int .u8) (.pair (.int .u8) (.pair (.int .u8) (.pair (.int .u8) (.pair (.int .u8) (.pair (.int .u8) (.pair (.int .u8) (.pair (.int .u8) (.pair (.int .u8) (.pair (.int .u8) (.pair (.int .u8) (.pair (.int .u8) (.pair (.int .u8) (.pair (.int .u8) (.pair (.int .u8) (.pair (.int .u8) (.pair (.int .u8) (.pair (.int .u8) (.pair (.int .u8) (.pair (.int .u8) (.pair (.int .u8) (.pair (.int .u8) (.pair (.int .u8) (.pair (.int .u8) (.pair (.int .u8) (.pair (.int .u8) (.pair (.int .u8) (.pair (.int .u8) (.pair (.int .u8) (.pair (.int .u8) (.pair (.int .u8) (.pair (.int .u8) (.pair (.int .u8) (.pair (.int .u8) (.pair (.int .u8) (.pair (.int .u8) (.pair (.int .u8) (.pair (.int .u8) (.pair (.int .u8) (.pair (.int .u8) (.pair (.int .u8) (.pair (.int .u8) (.pair (.int .u8) (.pair (.int .u8) (.pair (.int .u8) (.pair (.int .u8) (.pair (.int .u8) (.pair (.int .u8) (.pair (.int .u8) (.pair (.int .u8) (.pair (.int .u8) TT119))))))))))))))))))))))))))))))))))))))))))))))))))))))))))))))
  | 131 => some (.int .u8)
  | 132 => some (.int .u8)
  | 134 => some (.int .i32)
  | 135 => some (.int .i32)
  | _ => none
noncomputable def T__ : Tb Tryd.prog := Tb.none
structure model_in (a0 a1 a2 : Int) (Q : Bool → Prop) : Prop where
  it : Q ((decide (a1 ≤ a0)) && (decide (a0 ≤ a2)))
noncomputable def model_in_ct : Tab := fun n => none
noncomputable def model_in_b : Code := (bod Tryd.f24).getD .skip
noncomputable def model_in_en : Go.Mach.Ends := mkEn model_in_b [6] []
theorem model_in_tab : TabOk (T__.cfg tt none false 0) model_in_ct model_in_en model_in_b := by
  intro n E hn f c hs x k h
  cases hn
def model_in_sh : List Sh := [sI, sI, sI]
theorem model_in_snd (x : denS model_in_sh) (Q : QT) (h : model_in x.1 x.2.1 x.2.2.1 (fun (r : Bool) => Q (slotsA [(false, .bool)] [.n] (r, ())))) : Sound Tryd.prog 24 (packS model_in_sh x) Q := T__.told [.n] (rt := [(false, .bool)]) hI0 model_in_tab Tryd.func24 (by kernel_rfl) (by kernel_rfl) (Nat.le_of_ble_eq_true rfl) h.it (by kernel_rfl)
noncomputable def T_model_in : Tb Tryd.prog := T__.add 24 model_in_sh model_in_snd
structure model_enters (a0 : Int × Int × Int) (Q : Bool → Prop) : Prop where
  it : model_in a0.1 1 8 (fun (r1 : Bool) => jn (fun (v2 : Bool) => jn (fun (v5 : Bool) => Q v5) (fun J6 => if v2 = true then model_in a0.2.2 1 16 (fun (r7 : Bool) => J6 r7) else J6 false)) (fun J3 => if r1 = true then model_in a0.2.1 1 16 (fun (r4 : Bool) => J3 r4) else J3 false))
noncomputable def model_enters_ct : Tab := fun n => none
noncomputable def model_enters_b : Code := (bod Tryd.f23).getD .skip
noncomputable def model_enters_en : Go.Mach.Ends := mkEn model_enters_b [2] []
theorem model_enters_tab : TabOk (T_model_in.cfg tt none false 0) model_enters_ct model_enters_en model_enters_b := by
  intro n E hn f c hs x k h
  cases hn
def model_enters_sh : List Sh := [.agg [lI, lI, lI]]
theorem model_enters_snd (x : denS model_enters_sh) (Q : QT) (h : model_enters (x.1.1, (x.1.2.1, x.1.2.2.1)) (fun (r : Bool) => Q (slotsA [(false, .bool)] [.n] (r, ())))) : Sound Tryd.prog 23 (packS model_enters_sh x) Q := T_model_in.told [.n] (rt := [(false, .bool)]) hI0 model_enters_tab Tryd.func23 (by kernel_rfl) (by kernel_rfl) (Nat.le_of_ble_eq_true rfl) h.it (by kernel_rfl)
noncomputable def T_model_enters : Tb Tryd.prog := T_model_in.add 23 model_enters_sh model_enters_snd
structure model_window (a0 : DD34) (Q : Bool → Prop) : Prop where
  it : model_in a0.2.2.1 1 5 (fun (r1 : Bool) => jn (fun (v2 : Bool) => Q v2) (fun J3 => if r1 = true then model_in a0.2.2.2.1 1 4 (fun (r4 : Bool) => J3 r4) else J3 false))
noncomputable def model_window_ct : Tab := fun n => none
noncomputable def model_window_b : Code := (bod Tryd.f36).getD .skip
noncomputable def model_window_en : Go.Mach.Ends := mkEn model_window_b [2] []
theorem model_window_tab : TabOk (T_model_enters.cfg tt none false 0) model_window_ct model_window_en model_window_b := by
  intro n E hn f c hs x k h
  cases hn
def model_window_sh : List Sh := [.agg [lI, lI, lI, lI, lI, lI, lB]]
theorem model_window_snd (x : denS model_window_sh) (Q : QT) (h : model_window (x.1.1, (x.1.2.1, (x.1.2.2.1, (x.1.2.2.2.1, (x.1.2.2.2.2.1, (x.1.2.2.2.2.2.1, x.1.2.2.2.2.2.2.1)))))) (fun (r : Bool) => Q (slotsA [(false, .bool)] [.n] (r, ())))) : Sound Tryd.prog 36 (packS model_window_sh x) Q := T_model_enters.told [.n] (rt := [(false, .bool)]) hI0 model_window_tab Tryd.func36 (by kernel_rfl) (by kernel_rfl) (Nat.le_of_ble_eq_true rfl) h.it (by kernel_rfl)
noncomputable def T_model_window : Tb Tryd.prog := T_model_enters.add 36 model_window_sh model_window_snd
structure model_may_n0  (K0 : Unit → Prop) : Prop where
  it : K0 ()
structure model_may_n2 (x0 : Int) (x1 : Bool) (x2 : Int) (x3 : Bool) (x9 x16 : Int) (K0 : (Bool × Int) → Prop) : Prop where
  it : if x3 = true then K0 (x1, x16) else if (x2 == 7) = true then model_in x9 0 (IntKind.i64.wrap (x0 - 1)) (fun (r12 : Bool) => K0 (r12, x9)) else K0 (false, x16)
structure model_may_n1 (x0 : Int) (x1 : Bool) (x2 : Int) (x3 : Bool) (x4 x5 x6 x7 x8 x9 : Int) (x10 : Bool) (x13 x14 x16 : Int) (K0 : (Bool × Int × Int × Int) → Prop) : Prop where
  it : if x3 = true then model_window (x4, (x5, (x6, (x7, (x8, (x9, x10)))))) (fun (r11 : Bool) => K0 (r11, x6, x7, x16)) else if (x2 == 5) = true then model_may_n2 x0 x1 x2 (x2 == 5) x9 x16 (fun (y12 : Bool × Int) => K0 (y12.1, x13, x14, y12.2)) else model_may_n2 x0 x1 x2 (x2 == 6) x9 x16 (fun (y13 : Bool × Int) => K0 (y13.1, x13, x14, y13.2))
structure model_may (a0 : DD34) (a1 : Int) (Q : Bool → Prop) : Prop where
  it : if (a0.1 == 1) = true then model_in a0.2.1 1 4096 (fun (r1 : Bool) => model_may_n0 (fun (y2 : Unit) => Q (r1 && ((a0.1 == a0.1) && ((a0.2.1 == a0.2.1) && ((a0.2.2.1 == 0) && ((a0.2.2.2.1 == 0) && ((a0.2.2.2.2.1 == 0) && ((a0.2.2.2.2.2.1 == 0) && ((a0.2.2.2.2.2.2 == a0.2.2.2.2.2.2) && (true))))))))))) else if (a0.1 == 2) = true then model_in a0.2.1 1 8 (fun (r3 : Bool) => jn (fun (v4 : Bool) => jn (fun (v7 : Bool) => model_may_n0 (fun (y10 : Unit) => Q (v7 && ((a0.1 == a0.1) && ((a0.2.1 == a0.2.1) && ((a0.2.2.1 == a0.2.2.1) && ((a0.2.2.2.1 == a0.2.2.2.1) && ((a0.2.2.2.2.1 == a0.2.2.2.2.1) && ((a0.2.2.2.2.2.1 == 0) && ((a0.2.2.2.2.2.2 == a0.2.2.2.2.2.2) && (true))))))))))) (fun J8 => if v4 = true then model_in a0.2.2.2.2.1 0 (IntKind.i64.wrap (a0.2.2.1 - 1)) (fun (r9 : Bool) => J8 r9) else J8 false)) (fun J5 => if r3 = true then model_window a0 (fun (r6 : Bool) => J5 r6) else J5 false)) else if (a0.1 == 3) = true then model_may_n1 a1 true a0.1 (a0.1 == 3) a0.1 a0.2.1 a0.2.2.1 a0.2.2.2.1 a0.2.2.2.2.1 a0.2.2.2.2.2.1 a0.2.2.2.2.2.2 0 0 0 (fun (y14 : Bool × Int × Int × Int) => model_may_n0 (fun (y15 : Unit) => Q (y14.1 && ((a0.1 == a0.1) && ((a0.2.1 == 0) && ((a0.2.2.1 == y14.2.1) && ((a0.2.2.2.1 == y14.2.2.1) && ((a0.2.2.2.2.1 == 0) && ((a0.2.2.2.2.2.1 == y14.2.2.2) && ((a0.2.2.2.2.2.2 == false) && (true))))))))))) else model_may_n1 a1 true a0.1 (a0.1 == 4) a0.1 a0.2.1 a0.2.2.1 a0.2.2.2.1 a0.2.2.2.2.1 a0.2.2.2.2.2.1 a0.2.2.2.2.2.2 0 0 0 (fun (y16 : Bool × Int × Int × Int) => model_may_n0 (fun (y17 : Unit) => Q (y16.1 && ((a0.1 == a0.1) && ((a0.2.1 == 0) && ((a0.2.2.1 == y16.2.1) && ((a0.2.2.2.1 == y16.2.2.1) && ((a0.2.2.2.2.1 == 0) && ((a0.2.2.2.2.2.1 == y16.2.2.2) && ((a0.2.2.2.2.2.2 == false) && (true)))))))))))
noncomputable def model_may_e0 : Ent := ⟨[2, 5, 6], [sC (.ptr 0 0), sC (.ptr 1 0), sB], [.box [lI, lI, lI, lI, lI, lI, lB] false, .box [lI, lI, lI, lI, lI, lI, lB] false], fun x k => model_may_n0 (fun (y18 : Unit) => k .ret ⟨[(4, vB (x.1.2.2.1 && ((x.2.1.1 == x.2.2.1.1) && ((x.2.1.2.1 == x.2.2.1.2.1) && ((x.2.1.2.2.1 == x.2.2.1.2.2.1) && ((x.2.1.2.2.2.1 == x.2.2.1.2.2.2.1) && ((x.2.1.2.2.2.2.1 == x.2.2.1.2.2.2.2.1) && ((x.2.1.2.2.2.2.2.1 == x.2.2.1.2.2.2.2.2.1) && ((x.2.1.2.2.2.2.2.2.1 == x.2.2.1.2.2.2.2.2.2.1) && (true))))))))))], []⟩)⟩
noncomputable def model_may_e1 : Ent := ⟨[1, 2, 5, 6, 11, 42], [sI, sC (.ptr 0 0), sC (.ptr 1 0), sB, sI, sB], [.box [lI, lI, lI, lI, lI, lI, lB] false, .box [lI, lI, lI, lI, lI, lI, lB] false], fun x k => model_may_n1 x.1.1 x.1.2.2.2.1 x.1.2.2.2.2.1 x.1.2.2.2.2.2.1 x.2.1.1 x.2.1.2.1 x.2.1.2.2.1 x.2.1.2.2.2.1 x.2.1.2.2.2.2.1 x.2.1.2.2.2.2.2.1 x.2.1.2.2.2.2.2.2.1 x.2.2.1.2.2.1 x.2.2.1.2.2.2.1 x.2.2.1.2.2.2.2.2.1 (fun (y19 : Bool × Int × Int × Int) => k .normal ⟨[(2, .ptr 0 0), (5, .ptr 1 0), (6, vB y19.1)], [.box [vI x.2.1.1, vI x.2.1.2.1, vI x.2.1.2.2.1, vI x.2.1.2.2.2.1, vI x.2.1.2.2.2.2.1, vI x.2.1.2.2.2.2.2.1, vB x.2.1.2.2.2.2.2.2.1] false, .box [vI x.2.2.1.1, vI x.2.2.1.2.1, vI y19.2.1, vI y19.2.2.1, vI x.2.2.1.2.2.2.2.1, vI y19.2.2.2, vB x.2.2.1.2.2.2.2.2.2.1] false]⟩)⟩
noncomputable def model_may_e2 : Ent := ⟨[1, 2, 5, 6, 11, 53], [sI, sC (.ptr 0 0), sC (.ptr 1 0), sB, sI, sB], [.box [lI, lI, lI, lI, lI, lI, lB] false, .box [lI, lI, lI, lI, lI, lI, lB] false], fun x k => model_may_n2 x.1.1 x.1.2.2.2.1 x.1.2.2.2.2.1 x.1.2.2.2.2.2.1 x.2.1.2.2.2.2.2.1 x.2.2.1.2.2.2.2.2.1 (fun (y20 : Bool × Int) => k .normal ⟨[(2, .ptr 0 0), (5, .ptr 1 0), (6, vB y20.1)], [.box [vI x.2.1.1, vI x.2.1.2.1, vI x.2.1.2.2.1, vI x.2.1.2.2.2.1, vI x.2.1.2.2.2.2.1, vI x.2.1.2.2.2.2.2.1, vB x.2.1.2.2.2.2.2.2.1] false, .box [vI x.2.2.1.1, vI x.2.2.1.2.1, vI x.2.2.1.2.2.1, vI x.2.2.1.2.2.2.1, vI x.2.2.1.2.2.2.2.1, vI y20.2, vB x.2.2.1.2.2.2.2.2.2.1] false]⟩)⟩
noncomputable def model_may_ct : Tab := fun n => match n with | 31 => some model_may_e0 | 3935 => some model_may_e1 | 15743 => some model_may_e2 | _ => none
noncomputable def model_may_b : Code := (bod Tryd.f20).getD .skip
noncomputable def model_may_en : Go.Mach.Ends := mkEn model_may_b [4] []
theorem model_may_tab : TabOk (T_model_window.cfg tt none false 0) model_may_ct model_may_en model_may_b := by
  intro n E hn f c hs x k h
  unfold model_may_ct at hn
  split at hn
  · cases hn; exact tab_node2 hs (by kernel_rfl) (by kernel_rfl) h.it
  · cases hn; exact tab_node2 hs (by kernel_rfl) (by kernel_rfl) h.it
  · cases hn; exact tab_node2 hs (by kernel_rfl) (by kernel_rfl) h.it
  · cases hn
def model_may_sh : List Sh := [.agg [lI, lI, lI, lI, lI, lI, lB], sI]
theorem model_may_snd (x : denS model_may_sh) (Q : QT) (h : model_may (x.1.1, (x.1.2.1, (x.1.2.2.1, (x.1.2.2.2.1, (x.1.2.2.2.2.1, (x.1.2.2.2.2.2.1, x.1.2.2.2.2.2.2.1)))))) x.2.1 (fun (r : Bool) => Q (slotsA [(false, .bool)] [.n] (r, ())))) : Sound Tryd.prog 20 (packS model_may_sh x) Q := T_model_window.told [.n] (rt := [(false, .bool)]) hI0 model_may_tab Tryd.func20 (by kernel_rfl) (by kernel_rfl) (Nat.le_of_ble_eq_true rfl) h.it (by kernel_rfl)
noncomputable def T_model_may : Tb Tryd.prog := T_model_window.add 20 model_may_sh model_may_snd
def model_May_n0_B (x0 : List DD34) (x1 : Int) (K0 K1 : Unit → Prop) (s : Int) (nx : Int → Prop) : Prop :=
  if (decide (s < x1)) = true then ck ((0 : Int) ≤ s ∧ s < (x0.length : Int)) (model_may (x0.getD ((s).toNat) (0, (0, (0, (0, (0, (0, false))))))) s (fun (r5 : Bool) => if (!r5) = true then K1 () else nx (IntKind.i64.wrap (s + 1)))) else K0 ()
structure model_May_n0 (x0 : List DD34) (x1 : Int) (K0 K1 : Unit → Prop) (s : Int) : Prop where
  it : Go.Mach.Loop (model_May_n0_B x0 x1 K0 K1) s
structure model_May (a0 : DD25) (Q : Bool → Prop) : Prop where
  it : model_enters a0.1 (fun (r1 : Bool) => jn (fun (v2 : Bool) => if v2 = true then Q false else model_May_n0 a0.2 (a0.2.length : Int) (fun (y6 : Unit) => Q true) (fun (y7 : Unit) => Q false) 0) (fun J3 => if (!r1) = true then J3 true else model_in (a0.2.length : Int) 1 12 (fun (r4 : Bool) => J3 (!r4))))
noncomputable def model_May_e0 : Ent := ⟨[17, 18, 19], [sZ TT34, sI, sI], [], fun x k => model_May_n0 x.1.1 x.1.2.1 (fun (y8 : Unit) => k (.exit 0) ⟨[], []⟩) (fun (y9 : Unit) => k .ret ⟨[(2, vB false)], []⟩) x.1.2.2.1⟩
noncomputable def model_May_ct : Tab := fun n => match n with | 58 => some model_May_e0 | _ => none
noncomputable def model_May_b : Code := (bod Tryd.f12).getD .skip
noncomputable def model_May_en : Go.Mach.Ends := mkEn model_May_b [2] []
theorem model_May_tab : TabOk (T_model_may.cfg tt none false 0) model_May_ct model_May_en model_May_b := by
  intro n E hn f c hs x k h
  unfold model_May_ct at hn
  split at hn
  · cases hn; exact tab_loop2 rfl hs (by kernel_rfl) (fun y : Int => ⟨[(17, vZ TT34 x.1.1), (18, vI x.1.2.1), (19, vI y)], []⟩) x.1.2.2.1 (by kernel_rfl) (fun y X => by kernel_rfl) h.it
  · cases hn
def model_May_sh : List Sh := [.agg [lI, lI, lI, lZ TT34]]
theorem model_May_snd (x : denS model_May_sh) (Q : QT) (h : model_May ((x.1.1, (x.1.2.1, x.1.2.2.1)), x.1.2.2.2.1) (fun (r : Bool) => Q (slotsA [(false, .bool)] [.n] (r, ())))) : Sound Tryd.prog 12 (packS model_May_sh x) Q := T_model_may.told [.n] (rt := [(false, .bool)]) hI0 model_May_tab Tryd.func12 (by kernel_rfl) (by kernel_rfl) (Nat.le_of_ble_eq_true rfl) h.it (by kernel_rfl)
noncomputable def T_model_May : Tb Tryd.prog := T_model_may.add 12 model_May_sh model_May_snd
def slices_Equal_api_Layer_api_Layer_n0_B (x0 x1 : List DD34) (x2 : Int) (K0 K1 : Unit → Prop) (s : Int) (nx : Int → Prop) : Prop :=
  if (decide (s < x2)) = true then ck ((0 : Int) ≤ s ∧ s < (x0.length : Int)) (ck ((0 : Int) ≤ s ∧ s < (x1.length : Int)) (if (!((((x0.getD ((s).toNat) (0, (0, (0, (0, (0, (0, false))))))).1) == ((x1.getD ((s).toNat) (0, (0, (0, (0, (0, (0, false))))))).1)) && (((((x0.getD ((s).toNat) (0, (0, (0, (0, (0, (0, false))))))).2).1) == (((x1.getD ((s).toNat) (0, (0, (0, (0, (0, (0, false))))))).2).1)) && ((((((x0.getD ((s).toNat) (0, (0, (0, (0, (0, (0, false))))))).2).2).1) == ((((x1.getD ((s).toNat) (0, (0, (0, (0, (0, (0, false))))))).2).2).1)) && (((((((x0.getD ((s).toNat) (0, (0, (0, (0, (0, (0, false))))))).2).2).2).1) == (((((x1.getD ((s).toNat) (0, (0, (0, (0, (0, (0, false))))))).2).2).2).1)) && ((((((((x0.getD ((s).toNat) (0, (0, (0, (0, (0, (0, false))))))).2).2).2).2).1) == ((((((x1.getD ((s).toNat) (0, (0, (0, (0, (0, (0, false))))))).2).2).2).2).1)) && (((((((((x0.getD ((s).toNat) (0, (0, (0, (0, (0, (0, false))))))).2).2).2).2).2).1) == (((((((x1.getD ((s).toNat) (0, (0, (0, (0, (0, (0, false))))))).2).2).2).2).2).1)) && (((((((((x0.getD ((s).toNat) (0, (0, (0, (0, (0, (0, false))))))).2).2).2).2).2).2) == (((((((x1.getD ((s).toNat) (0, (0, (0, (0, (0, (0, false))))))).2).2).2).2).2).2)) && (true))))))))) = true then K1 () else nx (IntKind.i64.wrap (s + 1)))) else K0 ()
structure slices_Equal_api_Layer_api_Layer_n0 (x0 x1 : List DD34) (x2 : Int) (K0 K1 : Unit → Prop) (s : Int) : Prop where
  it : Go.Mach.Loop (slices_Equal_api_Layer_api_Layer_n0_B x0 x1 x2 K0 K1) s
structure slices_Equal_api_Layer_api_Layer (a0 a1 : List DD34) (Q : Bool → Prop) : Prop where
  it : if ((a0.length : Int) != (a1.length : Int)) = true then Q false else slices_Equal_api_Layer_api_Layer_n0 a0 a1 (a0.length : Int) (fun (y1 : Unit) => Q true) (fun (y2 : Unit) => Q false) 0
noncomputable def slices_Equal_api_Layer_api_Layer_e0 : Ent := ⟨[0, 1, 12, 13], [sZ TT34, sZ TT34, sI, sI], [], fun x k => slices_Equal_api_Layer_api_Layer_n0 x.1.1 x.1.2.1 x.1.2.2.1 (fun (y3 : Unit) => k (.exit 0) ⟨[], []⟩) (fun (y4 : Unit) => k .ret ⟨[(4, vB false)], []⟩) x.1.2.2.2.1⟩
noncomputable def slices_Equal_api_Layer_api_Layer_ct : Tab := fun n => match n with | 58 => some slices_Equal_api_Layer_api_Layer_e0 | _ => none
noncomputable def slices_Equal_api_Layer_api_Layer_b : Code := (bod Tryd.f25).getD .skip
noncomputable def slices_Equal_api_Layer_api_Layer_en : Go.Mach.Ends := mkEn slices_Equal_api_Layer_api_Layer_b [4] []
theorem slices_Equal_api_Layer_api_Layer_tab : TabOk (T_model_May.cfg tt none false 0) slices_Equal_api_Layer_api_Layer_ct slices_Equal_api_Layer_api_Layer_en slices_Equal_api_Layer_api_Layer_b := by
  intro n E hn f c hs x k h
  unfold slices_Equal_api_Layer_api_Layer_ct at hn
  split at hn
  · cases hn; exact tab_loop2 rfl hs (by kernel_rfl) (fun y : Int => ⟨[(0, vZ TT34 x.1.1), (1, vZ TT34 x.1.2.1), (12, vI x.1.2.2.1), (13, vI y)], []⟩) x.1.2.2.2.1 (by kernel_rfl) (fun y X => by kernel_rfl) h.it
  · cases hn
def slices_Equal_api_Layer_api_Layer_sh : List Sh := [sZ TT34, sZ TT34]
theorem slices_Equal_api_Layer_api_Layer_snd (x : denS slices_Equal_api_Layer_api_Layer_sh) (Q : QT) (h : slices_Equal_api_Layer_api_Layer x.1 x.2.1 (fun (r : Bool) => Q (slotsA [(false, .bool)] [.n] (r, ())))) : Sound Tryd.prog 25 (packS slices_Equal_api_Layer_api_Layer_sh x) Q := T_model_May.told [.n] (rt := [(false, .bool)]) hI0 slices_Equal_api_Layer_api_Layer_tab Tryd.func25 (by kernel_rfl) (by kernel_rfl) (Nat.le_of_ble_eq_true rfl) h.it (by kernel_rfl)
noncomputable def T_slices_Equal_api_Layer_api_Layer : Tb Tryd.prog := T_model_May.add 25 slices_Equal_api_Layer_api_Layer_sh slices_Equal_api_Layer_api_Layer_snd
structure model_Same (a0 a1 : DD25) (Q : Bool → Prop) : Prop where
  it : jn (fun (v1 : Bool) => Q v1) (fun J2 => if ((a0.1.1 == a1.1.1) && ((a0.1.2.1 == a1.1.2.1) && ((a0.1.2.2 == a1.1.2.2) && (true)))) = true then slices_Equal_api_Layer_api_Layer a0.2 a1.2 (fun (r3 : Bool) => J2 r3) else J2 false)
noncomputable def model_Same_ct : Tab := fun n => none
noncomputable def model_Same_b : Code := (bod Tryd.f13).getD .skip
noncomputable def model_Same_en : Go.Mach.Ends := mkEn model_Same_b [4] []
theorem model_Same_tab : TabOk (T_slices_Equal_api_Layer_api_Layer.cfg tt none false 0) model_Same_ct model_Same_en model_Same_b := by
  intro n E hn f c hs x k h
  cases hn
def model_Same_sh : List Sh := [.agg [lI, lI, lI, lZ TT34], .agg [lI, lI, lI, lZ TT34]]
theorem model_Same_snd (x : denS model_Same_sh) (Q : QT) (h : model_Same ((x.1.1, (x.1.2.1, x.1.2.2.1)), x.1.2.2.2.1) ((x.2.1.1, (x.2.1.2.1, x.2.1.2.2.1)), x.2.1.2.2.2.1) (fun (r : Bool) => Q (slotsA [(false, .bool)] [.n] (r, ())))) : Sound Tryd.prog 13 (packS model_Same_sh x) Q := T_slices_Equal_api_Layer_api_Layer.told [.n] (rt := [(false, .bool)]) hI0 model_Same_tab Tryd.func13 (by kernel_rfl) (by kernel_rfl) (Nat.le_of_ble_eq_true rfl) h.it (by kernel_rfl)
noncomputable def T_model_Same : Tb Tryd.prog := T_slices_Equal_api_Layer_api_Layer.add 13 model_Same_sh model_Same_snd
def strconv_Itoa (a0 : Int) (Q : ByteArray → Prop) : Prop := (-9223372036854775808 ≤ a0 ∧ a0 ≤ 9223372036854775807) ∧ Q (Go.Mach.itoaS a0)
def strconv_Itoa_sh : List Sh := [.lf (.int .i64)]
def strconv_Itoa_d (x : denS strconv_Itoa_sh) (Q : List (Bool × List VV) → Prop) : Prop := strconv_Itoa x.1 (fun (r : ByteArray) => Q (slotsA [(false, .str)] [.n] (r, ())))
theorem strconv_Itoa_snd (x : denS strconv_Itoa_sh) (Q : List (Bool × List VV) → Prop) (h : strconv_Itoa_d x Q) : Sound Tryd.prog 39 (packS strconv_Itoa_sh x) Q := by
  exact Go.Mach.itoa_snd _ Q h.1 h.2
noncomputable def T_strconv_Itoa : Tb Tryd.prog := T_model_Same.add 39 strconv_Itoa_sh strconv_Itoa_snd
def model_numbers_n0_B (x1 : List Int) (x2 : Int) (K0 : ByteArray → Prop) (s : ByteArray × Int) (nx : (ByteArray × Int) → Prop) : Prop :=
  if (decide (s.2 < x2)) = true then ck ((0 : Int) ≤ s.2 ∧ s.2 < (x1.length : Int)) (strconv_Itoa (x1.getD ((s.2).toNat) 0) (fun (r1 : ByteArray) => ck ((⟨#[32]⟩ : ByteArray).size + r1.size ≤ 2 ^ 60) (ck (s.1.size + ((⟨#[32]⟩ : ByteArray) ++ r1).size ≤ 2 ^ 60) (nx (s.1 ++ ((⟨#[32]⟩ : ByteArray) ++ r1), IntKind.i64.wrap (s.2 + 1)))))) else K0 s.1
structure model_numbers_n0 (x1 : List Int) (x2 : Int) (K0 : ByteArray → Prop) (s : ByteArray × Int) : Prop where
  it : Go.Mach.Loop (model_numbers_n0_B x1 x2 K0) s
structure model_numbers (a0 : ByteArray) (a1 : List Int) (Q : ByteArray → Prop) : Prop where
  it : model_numbers_n0 a1 (a1.length : Int) (fun (y2 : ByteArray) => Q y2) (a0, 0)
noncomputable def model_numbers_e0 : Ent := ⟨[0, 7, 8, 9], [.lf (.str), sZ (.int .i64), sI, sI], [], fun x k => model_numbers_n0 x.1.2.1 x.1.2.2.1 (fun (y3 : ByteArray) => k (.exit 0) ⟨[(0, .pl (.string y3))], []⟩) (x.1.1, x.1.2.2.2.1)⟩
noncomputable def model_numbers_ct : Tab := fun n => match n with | 26 => some model_numbers_e0 | _ => none
noncomputable def model_numbers_b : Code := (bod Tryd.f26).getD .skip
noncomputable def model_numbers_en : Go.Mach.Ends := mkEn model_numbers_b [4] []
theorem model_numbers_tab : TabOk (T_strconv_Itoa.cfg tt none false 0) model_numbers_ct model_numbers_en model_numbers_b := by
  intro n E hn f c hs x k h
  unfold model_numbers_ct at hn
  split at hn
  · cases hn; exact tab_loop2 rfl hs (by kernel_rfl) (fun y : ByteArray × Int => ⟨[(0, .pl (.string y.1)), (7, vZ (.int .i64) x.1.2.1), (8, vI x.1.2.2.1), (9, vI y.2)], []⟩) (x.1.1, x.1.2.2.2.1) (by kernel_rfl) (fun y X => by kernel_rfl) h.it
  · cases hn
def model_numbers_sh : List Sh := [.lf (.str), sZ (.int .i64)]
theorem model_numbers_snd (x : denS model_numbers_sh) (Q : QT) (h : model_numbers x.1 x.2.1 (fun (r : ByteArray) => Q (slotsA [(false, .str)] [.n] (r, ())))) : Sound Tryd.prog 26 (packS model_numbers_sh x) Q := T_strconv_Itoa.told [.n] (rt := [(false, .str)]) hI0 model_numbers_tab Tryd.func26 (by kernel_rfl) (by kernel_rfl) (Nat.le_of_ble_eq_true rfl) h.it (by kernel_rfl)
noncomputable def T_model_numbers : Tb Tryd.prog := T_strconv_Itoa.add 26 model_numbers_sh model_numbers_snd
def sc_d6a98598 : ByteArray := ⟨#[100, 101, 110, 115, 101]⟩
def sc_0481102b : ByteArray := ⟨#[32, 102, 114, 111, 122, 101, 110]⟩
structure model_text_n1 (x0 : ByteArray) (K0 : ByteArray → Prop) : Prop where
  it : ck (x0.size + (⟨#[10]⟩ : ByteArray).size ≤ 2 ^ 60) (K0 (x0 ++ (⟨#[10]⟩ : ByteArray)))
structure model_text_n0 (x0 : ByteArray) (x7 : Bool) (K0 : ByteArray → Prop) : Prop where
  it : if x7 = true then ck (x0.size + sc_0481102b.size ≤ 2 ^ 60) (model_text_n1 (x0 ++ sc_0481102b) (fun (y2 : ByteArray) => K0 y2)) else model_text_n1 x0 (fun (y3 : ByteArray) => K0 y3)
structure model_text (a0 : DD34) (Q : ByteArray → Prop) : Prop where
  it : if (a0.1 == 1) = true then model_numbers sc_d6a98598 [a0.2.1] (fun (r1 : ByteArray) => model_text_n0 r1 a0.2.2.2.2.2.2 (fun (y4 : ByteArray) => Q y4)) else if (a0.1 == 2) = true then model_numbers (⟨#[99, 111, 110, 118]⟩ : ByteArray) [a0.2.1, a0.2.2.1, a0.2.2.2.1, a0.2.2.2.2.1] (fun (r5 : ByteArray) => model_text_n0 r5 a0.2.2.2.2.2.2 (fun (y6 : ByteArray) => Q y6)) else if (a0.1 == 3) = true then model_numbers (⟨#[109, 97, 120]⟩ : ByteArray) [a0.2.2.1, a0.2.2.2.1] (fun (r7 : ByteArray) => model_text_n0 r7 a0.2.2.2.2.2.2 (fun (y8 : ByteArray) => Q y8)) else if (a0.1 == 4) = true then model_numbers (⟨#[97, 118, 103]⟩ : ByteArray) [a0.2.2.1, a0.2.2.2.1] (fun (r9 : ByteArray) => model_text_n0 r9 a0.2.2.2.2.2.2 (fun (y10 : ByteArray) => Q y10)) else if (a0.1 == 5) = true then model_text_n0 (⟨#[114, 101, 108, 117]⟩ : ByteArray) a0.2.2.2.2.2.2 (fun (y11 : ByteArray) => Q y11) else if (a0.1 == 6) = true then model_text_n0 (⟨#[102, 108, 97, 116]⟩ : ByteArray) a0.2.2.2.2.2.2 (fun (y12 : ByteArray) => Q y12) else if (a0.1 == 7) = true then model_numbers (⟨#[97, 100, 100]⟩ : ByteArray) [a0.2.2.2.2.2.1] (fun (r13 : ByteArray) => model_text_n0 r13 a0.2.2.2.2.2.2 (fun (y14 : ByteArray) => Q y14)) else model_text_n0 (⟨#[]⟩ : ByteArray) a0.2.2.2.2.2.2 (fun (y15 : ByteArray) => Q y15)
noncomputable def model_text_e0 : Ent := ⟨[1, 3], [sC (.ptr 0 0), .lf (.str)], [.box [lI, lI, lI, lI, lI, lI, lB] false], fun x k => model_text_n0 x.1.2.1 x.2.1.2.2.2.2.2.2.1 (fun (y16 : ByteArray) => k .ret ⟨[(2, .pl (.string y16))], []⟩)⟩
noncomputable def model_text_e1 : Ent := ⟨[3], [.lf (.str)], [], fun x k => model_text_n1 x.1.1 (fun (y17 : ByteArray) => k .ret ⟨[(2, .pl (.string y17))], []⟩)⟩
noncomputable def model_text_ct : Tab := fun n => match n with | 15 => some model_text_e0 | 31 => some model_text_e1 | _ => none
noncomputable def model_text_b : Code := (bod Tryd.f27).getD .skip
noncomputable def model_text_en : Go.Mach.Ends := mkEn model_text_b [2] []
theorem model_text_tab : TabOk (T_model_numbers.cfg tt none false 0) model_text_ct model_text_en model_text_b := by
  intro n E hn f c hs x k h
  unfold model_text_ct at hn
  split at hn
  · cases hn; exact tab_node2 hs (by kernel_rfl) (by kernel_rfl) h.it
  · cases hn; exact tab_node2 hs (by kernel_rfl) (by kernel_rfl) h.it
  · cases hn
def model_text_sh : List Sh := [.agg [lI, lI, lI, lI, lI, lI, lB]]
theorem model_text_snd (x : denS model_text_sh) (Q : QT) (h : model_text (x.1.1, (x.1.2.1, (x.1.2.2.1, (x.1.2.2.2.1, (x.1.2.2.2.2.1, (x.1.2.2.2.2.2.1, x.1.2.2.2.2.2.2.1)))))) (fun (r : ByteArray) => Q (slotsA [(false, .str)] [.n] (r, ())))) : Sound Tryd.prog 27 (packS model_text_sh x) Q := T_model_numbers.told [.n] (rt := [(false, .str)]) hI0 model_text_tab Tryd.func27 (by kernel_rfl) (by kernel_rfl) (Nat.le_of_ble_eq_true rfl) h.it (by kernel_rfl)
noncomputable def T_model_text : Tb Tryd.prog := T_model_numbers.add 27 model_text_sh model_text_snd
def model_Text_n0_B (x1 : List DD34) (x2 : Int) (K0 : ByteArray → Prop) (s : ByteArray × Int) (nx : (ByteArray × Int) → Prop) : Prop :=
  if (decide (s.2 < x2)) = true then ck ((0 : Int) ≤ s.2 ∧ s.2 < (x1.length : Int)) (model_text (x1.getD ((s.2).toNat) (0, (0, (0, (0, (0, (0, false))))))) (fun (r3 : ByteArray) => ck (s.1.size + r3.size ≤ 2 ^ 60) (nx (s.1 ++ r3, IntKind.i64.wrap (s.2 + 1))))) else K0 s.1
structure model_Text_n0 (x1 : List DD34) (x2 : Int) (K0 : ByteArray → Prop) (s : ByteArray × Int) : Prop where
  it : Go.Mach.Loop (model_Text_n0_B x1 x2 K0) s
structure model_Text (a0 : DD25) (Q : (ByteArray × Int) → Prop) : Prop where
  it : model_May a0 (fun (r1 : Bool) => if (!r1) = true then Q ((⟨#[]⟩ : ByteArray), 1) else model_numbers (⟨#[105, 110]⟩ : ByteArray) ([a0.1.1, a0.1.2.1, a0.1.2.2] : List Int) (fun (r2 : ByteArray) => ck (r2.size + (⟨#[10]⟩ : ByteArray).size ≤ 2 ^ 60) (model_Text_n0 a0.2 (a0.2.length : Int) (fun (y4 : ByteArray) => Q (y4, 0)) (r2 ++ (⟨#[10]⟩ : ByteArray), 0))))
noncomputable def model_Text_e0 : Ent := ⟨[4, 15, 16, 17], [.lf (.str), sZ TT34, sI, sI], [], fun x k => model_Text_n0 x.1.2.1 x.1.2.2.1 (fun (y5 : ByteArray) => k (.exit 0) ⟨[(4, .pl (.string y5))], []⟩) (x.1.1, x.1.2.2.2.1)⟩
noncomputable def model_Text_ct : Tab := fun n => match n with | 122 => some model_Text_e0 | _ => none
noncomputable def model_Text_b : Code := (bod Tryd.f14).getD .skip
noncomputable def model_Text_en : Go.Mach.Ends := mkEn model_Text_b [2, 3] []
theorem model_Text_tab : TabOk (T_model_text.cfg tt none false 0) model_Text_ct model_Text_en model_Text_b := by
  intro n E hn f c hs x k h
  unfold model_Text_ct at hn
  split at hn
  · cases hn; exact tab_loop2 rfl hs (by kernel_rfl) (fun y : ByteArray × Int => ⟨[(4, .pl (.string y.1)), (15, vZ TT34 x.1.2.1), (16, vI x.1.2.2.1), (17, vI y.2)], []⟩) (x.1.1, x.1.2.2.2.1) (by kernel_rfl) (fun y X => by kernel_rfl) h.it
  · cases hn
def model_Text_sh : List Sh := [.agg [lI, lI, lI, lZ TT34]]
theorem model_Text_snd (x : denS model_Text_sh) (Q : QT) (h : model_Text ((x.1.1, (x.1.2.1, x.1.2.2.1)), x.1.2.2.2.1) (fun (r : ByteArray × Int) => Q (slotsA [(false, .str), (false, (.int .i64))] [.n, .n] (r.1, (r.2, ()))))) : Sound Tryd.prog 14 (packS model_Text_sh x) Q := T_model_text.told [.n, .n] (rt := [(false, .str), (false, (.int .i64))]) hI0 model_Text_tab Tryd.func14 (by kernel_rfl) (by kernel_rfl) (Nat.le_of_ble_eq_true rfl) h.it (by kernel_rfl)
noncomputable def T_model_Text : Tb Tryd.prog := T_model_text.add 14 model_Text_sh model_Text_snd
end Go.Proofs.YthphkjgkgdjmdaaDoor
