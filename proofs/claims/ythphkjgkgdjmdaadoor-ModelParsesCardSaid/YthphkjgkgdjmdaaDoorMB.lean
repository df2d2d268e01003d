/- Plain texts of functions, as the value machine comes to them. No condition. -/
import Derived.Test.YthphkjgkgdjmdaaDoorM2
import Derived.Test.YthphkjgkgdjmdaaDoorProg
import Derived.KernelRfl
namespace Go.Proofs.YthphkjgkgdjmdaaDoor
open Go.Mach
set_option maxRecDepth 100000
set_option linter.unusedVariables false
structure pedagoguelaw15_ModelTells_n2 (x5 : Int) (K0 : Int → Prop) : Prop where
  it : K0 (IntKind.i64.wrap (x5 + 1))
def pedagoguelaw15_ModelTells_n1_B (x0 : ByteArray) (x1 x4 : Int) (K0 : (Int × Int) → Prop) (s : Int × Int × Int) (nx : (Int × Int × Int) → Prop) : Prop :=
  if (decide (s.2.2 < x4)) = true then ck ((0 : Int) ≤ s.2.2 ∧ s.2.2 < (x0.size : Int)) (if ((((x0.data.toList.getD (s.2.2).toNat 0).toNat : Int) == 10) && (decide (s.2.1 < (IntKind.i64.wrap (x1 - 1))))) = true then pedagoguelaw15_ModelTells_n2 s.2.2 (fun (y9 : Int) => nx ((IntKind.i64.wrap (s.2.2 + 1)), (IntKind.i64.wrap (s.2.1 + 1)), y9)) else pedagoguelaw15_ModelTells_n2 s.2.2 (fun (y10 : Int) => nx (s.1, s.2.1, y10))) else K0 (s.1, s.2.1)
structure pedagoguelaw15_ModelTells_n1 (x0 : ByteArray) (x1 x4 : Int) (K0 : (Int × Int) → Prop) (s : Int × Int × Int) : Prop where
  it : Go.Mach.Loop (pedagoguelaw15_ModelTells_n1_B x0 x1 x4 K0) s
structure pedagoguelaw15_ModelTells_n0 (x0 : ByteArray) (x1 : Int) (K0 : Bool → Prop) : Prop where
  it : pedagoguelaw15_ModelTells_n1 x0 x1 (x0.size : Int) (fun (y9 : Int × Int) => if ((decide (x1 < 1)) || (y9.2 != (IntKind.i64.wrap (x1 - 1)))) = true then K0 false else ck (True ∧ (0 : Int) ≤ 0 ∧ (0 : Int) ≤ y9.1 ∧ y9.1 ≤ (x0.data.toList.length : Int)) (model_Parse (⟨((x0.data.toList.take (y9.1).toNat).drop ((0 : Int)).toNat).toArray⟩ : ByteArray) (fun (r10 : DD25 × Int × Int) => jn (fun (v11 : Bool) => K0 v11) (fun J12 => if ((r10.2.2 == 0) || (((decide (x1 ≤ 2)) && (r10.2.2 == 5)) && (r10.2.1 == x1))) = true then pedagoguelaw15_awake (fun (r13 : Bool) => J12 r13) else J12 false)))) (0, 0, 0)
structure pedagoguelaw15_ModelTells (a0 : ByteArray) (Q : Bool → Prop) : Prop where
  it : if (decide (2000 < (a0.size : Int))) = true then model_Parse a0 (fun (r1 : DD25 × Int × Int) => jn (fun (v2 : Bool) => Q v2) (fun J3 => if ((r1.2.1 == 0) && (r1.2.2 == 10)) = true then pedagoguelaw15_awake (fun (r4 : Bool) => J3 r4) else J3 false)) else model_Parse a0 (fun (r5 : DD25 × Int × Int) => if (r5.2.2 == 0) = true then jn (fun (v6 : Bool) => Q v6) (fun J7 => if (r5.2.1 == 0) = true then pedagoguelaw15_awake (fun (r8 : Bool) => J7 r8) else J7 false) else pedagoguelaw15_ModelTells_n0 a0 r5.2.1 (fun (y14 : Bool) => Q y14))
noncomputable def pedagoguelaw15_ModelTells_e0 : Ent := ⟨[0, 7], [.lf (.str), sI], [], fun x k => pedagoguelaw15_ModelTells_n0 x.1.1 x.1.2.1 (fun (y15 : Bool) => k .ret ⟨[(2, vB y15)], []⟩)⟩
noncomputable def pedagoguelaw15_ModelTells_e1 : Ent := ⟨[0, 7, 9, 10, 47, 48], [.lf (.str), sI, sI, sI, sI, sI], [], fun x k => pedagoguelaw15_ModelTells_n1 x.1.1 x.1.2.1 x.1.2.2.2.2.1 (fun (y16 : Int × Int) => k (.exit 0) ⟨[(0, .pl (.string x.1.1)), (7, vI x.1.2.1), (9, vI y16.1), (10, vI y16.2)], []⟩) (x.1.2.2.1, x.1.2.2.2.1, x.1.2.2.2.2.2.1)⟩
noncomputable def pedagoguelaw15_ModelTells_e2 : Ent := ⟨[0, 7, 9, 10, 47, 48], [.lf (.str), sI, sI, sI, sI, sI], [], fun x k => pedagoguelaw15_ModelTells_n2 x.1.2.2.2.2.2.1 (fun (y17 : Int) => k .normal ⟨[(0, .pl (.string x.1.1)), (7, vI x.1.2.1), (9, vI x.1.2.2.1), (10, vI x.1.2.2.2.1), (47, vI x.1.2.2.2.2.1), (48, vI y17)], []⟩)⟩
noncomputable def pedagoguelaw15_ModelTells_ct : Tab := fun n => match n with | 31 => some pedagoguelaw15_ModelTells_e0 | 506 => some pedagoguelaw15_ModelTells_e1 | 8103 => some pedagoguelaw15_ModelTells_e2 | _ => none
noncomputable def pedagoguelaw15_ModelTells_b : Code := (bod Tryd.f4).getD .skip
noncomputable def pedagoguelaw15_ModelTells_en : Go.Mach.Ends := mkEn pedagoguelaw15_ModelTells_b [2] []
theorem pedagoguelaw15_ModelTells_tab : TabOk (T_pedagoguelaw15_awake.cfg tt none false 0) pedagoguelaw15_ModelTells_ct pedagoguelaw15_ModelTells_en pedagoguelaw15_ModelTells_b := by
  intro n E hn f c hs x k h
  unfold pedagoguelaw15_ModelTells_ct at hn
  split at hn
  · cases hn; exact tab_node2 hs (by kernel_rfl) (by kernel_rfl) h.it
  · cases hn; exact tab_loop2 rfl hs (by kernel_rfl) (fun y : Int × Int × Int => ⟨[(0, .pl (.string x.1.1)), (7, vI x.1.2.1), (9, vI y.1), (10, vI y.2.1), (47, vI x.1.2.2.2.2.1), (48, vI y.2.2)], []⟩) (x.1.2.2.1, x.1.2.2.2.1, x.1.2.2.2.2.2.1) (by kernel_rfl) (fun y X => by kernel_rfl) h.it
  · cases hn; exact tab_node2 hs (by kernel_rfl) (by kernel_rfl) h.it
  · cases hn
def pedagoguelaw15_ModelTells_sh : List Sh := [.lf (.str)]
theorem pedagoguelaw15_ModelTells_snd (x : denS pedagoguelaw15_ModelTells_sh) (Q : QT) (h : pedagoguelaw15_ModelTells x.1 (fun (r : Bool) => Q (slotsA [(false, .bool)] [.n] (r, ())))) : Sound Tryd.prog 4 (packS pedagoguelaw15_ModelTells_sh x) Q := T_pedagoguelaw15_awake.told [.n] (rt := [(false, .bool)]) hI0 pedagoguelaw15_ModelTells_tab Tryd.func4 (by kernel_rfl) (by kernel_rfl) (Nat.le_of_ble_eq_true rfl) h.it (by kernel_rfl)
noncomputable def T_pedagoguelaw15_ModelTells : Tb Tryd.prog := T_pedagoguelaw15_awake.add 4 pedagoguelaw15_ModelTells_sh pedagoguelaw15_ModelTells_snd
structure pedagoguelaw15_ModelBack (a0 : DD25) (a1 : ByteArray) (Q : Bool → Prop) : Prop where
  it : if ((decide (40 < (a0.2.length : Int))) || (decide (5000 < (a1.size : Int)))) = true then pedagoguelaw15_awake (fun (r1 : Bool) => Q r1) else model_Text a0 (fun (r2 : ByteArray × Int) => model_Parse r2.1 (fun (r3 : DD25 × Int × Int) => model_May a0 (fun (r4 : Bool) => jn (fun (v5 : Bool) => if v5 = true then Q false else model_Parse a1 (fun (r12 : DD25 × Int × Int) => if (r12.2.2 != 0) = true then jn (fun (v13 : Bool) => Q v13) (fun J14 => if ((r12.1.2.length : Int) == 0) = true then pedagoguelaw15_awake (fun (r15 : Bool) => J14 r15) else J14 false) else model_Text r12.1 (fun (r16 : ByteArray × Int) => jn (fun (v17 : Bool) => jn (fun (v20 : Bool) => Q v20) (fun J21 => if v17 = true then pedagoguelaw15_awake (fun (r22 : Bool) => J21 r22) else J21 false)) (fun J18 => if ((r16.2 == 0) && (r16.1.toList == a1.toList)) = true then model_May r12.1 (fun (r19 : Bool) => J18 r19) else J18 false)))) (fun J6 => if (r4 != (r2.2 == 0)) = true then J6 true else jn (fun (v7 : Bool) => J6 v7) (fun J8 => if (r2.2 == 0) = true then jn (fun (v9 : Bool) => J8 v9) (fun J10 => if ((r3.2.2 != 0) || (r3.2.1 != 0)) = true then J10 true else model_Same r3.1 a0 (fun (r11 : Bool) => J10 (!r11))) else J8 false)))))
noncomputable def pedagoguelaw15_ModelBack_ct : Tab := fun n => none
noncomputable def pedagoguelaw15_ModelBack_b : Code := (bod Tryd.f7).getD .skip
noncomputable def pedagoguelaw15_ModelBack_en : Go.Mach.Ends := mkEn pedagoguelaw15_ModelBack_b [4] []
theorem pedagoguelaw15_ModelBack_tab : TabOk (T_pedagoguelaw15_ModelTells.cfg tt none false 0) pedagoguelaw15_ModelBack_ct pedagoguelaw15_ModelBack_en pedagoguelaw15_ModelBack_b := by
  intro n E hn f c hs x k h
  cases hn
def pedagoguelaw15_ModelBack_sh : List Sh := [.agg [lI, lI, lI, lZ TT34], .lf (.str)]
theorem pedagoguelaw15_ModelBack_snd (x : denS pedagoguelaw15_ModelBack_sh) (Q : QT) (h : pedagoguelaw15_ModelBack ((x.1.1, (x.1.2.1, x.1.2.2.1)), x.1.2.2.2.1) x.2.1 (fun (r : Bool) => Q (slotsA [(false, .bool)] [.n] (r, ())))) : Sound Tryd.prog 7 (packS pedagoguelaw15_ModelBack_sh x) Q := T_pedagoguelaw15_ModelTells.told [.n] (rt := [(false, .bool)]) hI0 pedagoguelaw15_ModelBack_tab Tryd.func7 (by kernel_rfl) (by kernel_rfl) (Nat.le_of_ble_eq_true rfl) h.it (by kernel_rfl)
noncomputable def T_pedagoguelaw15_ModelBack : Tb Tryd.prog := T_pedagoguelaw15_ModelTells.add 7 pedagoguelaw15_ModelBack_sh pedagoguelaw15_ModelBack_snd
end Go.Proofs.YthphkjgkgdjmdaaDoor
