/- Plain texts of functions, as the value machine comes to them. No condition. -/
import Derived.Test.YtpbegbmmhpencaaG2
import Derived.Test.YtpbegbmmhpencaaProg
import Derived.KernelRfl
namespace Go.Proofs.Ytpbegbmmhpencaa
open Go.Mach
set_option maxRecDepth 100000
set_option linter.unusedVariables false
def pedagoguelaw19_LossSharp_n1_t (x3 : Int) (K0 : Int → Prop) : Prop :=
  K0 (IntKind.i64.wrap (x3 + 1))
structure pedagoguelaw19_LossSharp_n1 (x3 : Int) (K0 : Int → Prop) : Prop where
  it : pedagoguelaw19_LossSharp_n1_t x3 K0
def pedagoguelaw19_LossSharp_n0_B (x0 : List Int) (x2 : Int) (K0 : Int → Prop) (s : Int × Int) (nx : (Int × Int) → Prop) : Prop :=
  if (decide (s.2 < x2)) = true then ck ((0 : Int) ≤ s.2 ∧ s.2 < (x0.length : Int)) (ck ((0 : Int) ≤ s.1 ∧ s.1 < (x0.length : Int)) (if (decide ((x0.getD ((s.1).toNat) 0) < (x0.getD ((s.2).toNat) 0))) = true then pedagoguelaw19_LossSharp_n1 s.2 (fun (y7 : Int) => nx (s.2, y7)) else pedagoguelaw19_LossSharp_n1 s.2 (fun (y8 : Int) => nx (s.1, y8)))) else K0 s.1
structure pedagoguelaw19_LossSharp_n0 (x0 : List Int) (x2 : Int) (K0 : Int → Prop) (s : Int × Int) : Prop where
  it : Go.Mach.Loop (pedagoguelaw19_LossSharp_n0_B x0 x2 K0) s
def pedagoguelaw19_LossSharp_t (a0 : List Int) (a1 : Int) (Q : Bool → Prop) : Prop :=
  if ((decide ((a0.length : Int) < 1)) || (decide (10 < (a0.length : Int)))) = true then pedagoguelaw19_awake (fun (r1 : Bool) => Q r1) else ck (60 ≠ (0 : Int)) (loss_Soft a0 ((a1).tmod 60) (fun (r2 : List Int) => loss_Soft a0 (IntKind.i64.wrap (((a1).tmod 60) + 1)) (fun (r3 : List Int) => ck (a0 ≠ [] ∧ (0 : Int) ≤ 0 ∧ (0 : Int) ≤ 1 ∧ 1 ≤ (a0.length : Int)) (loss_Soft ((a0.take ((1 : Int)).toNat).drop ((0 : Int)).toNat) ((a1).tmod 60) (fun (r4 : List Int) => jn (fun (v5 : Bool) => if v5 = true then Q false else pedagoguelaw19_LossSharp_n0 a0 (a0.length : Int) (fun (y9 : Int) => ck ((0 : Int) ≤ y9 ∧ y9 < (r3.length : Int)) (ck ((0 : Int) ≤ y9 ∧ y9 < (r2.length : Int)) (jn (fun (v10 : Bool) => jn (fun (v12 : Bool) => Q v12) (fun J13 => if v10 = true then pedagoguelaw19_awake (fun (r14 : Bool) => J13 r14) else J13 false)) (fun J11 => if (decide ((r2.getD ((y9).toNat) 0) ≤ (r3.getD ((y9).toNat) 0))) = true then ck ((0 : Int) ≤ y9 ∧ y9 < (r2.length : Int)) (J11 (decide ((IntKind.i64.wrap ((IntKind.i64.wrap (127 - (a0.length : Int))) + 1)) ≤ (IntKind.i64.wrap ((r2.getD ((y9).toNat) 0) * (a0.length : Int)))))) else J11 false)))) (0, 0)) (fun J6 => if ((((r2.length : Int) != (a0.length : Int)) || ((r3.length : Int) != (a0.length : Int))) || ((r4.length : Int) != 1)) = true then J6 true else ck ((0 : Int) ≤ 0 ∧ 0 < (r4.length : Int)) (J6 ((r4.getD 0 0) != 127))))))))
structure pedagoguelaw19_LossSharp (a0 : List Int) (a1 : Int) (Q : Bool → Prop) : Prop where
  it : pedagoguelaw19_LossSharp_t a0 a1 Q
noncomputable def pedagoguelaw19_LossSharp_e0 : Ent := ⟨[0, 5, 6, 8, 56, 57], [.lf (.fz false (.int .i8)), .lf (.cst (.own 0)), .lf (.cst (.own 1)), .lf (.int .i64), .lf (.int .i64), .lf (.int .i64)], [.lst true (.int .i64) false, .lst true (.int .i64) false], fun x k => pedagoguelaw19_LossSharp_n0 x.1.1 x.1.2.2.2.2.1 (fun (y15 : Int) => k (.exit 0) ⟨[(0, .fz false (.int .i8) x.1.1), (5, .own 0), (6, .own 1), (8, .pl (.int .i64 y15))], [.lst true (.int .i64) x.2.1 false, .lst true (.int .i64) x.2.2.1 false]⟩) (x.1.2.2.2.1, x.1.2.2.2.2.2.1)⟩
noncomputable def pedagoguelaw19_LossSharp_e1 : Ent := ⟨[0, 5, 6, 8, 56, 57], [.lf (.fz false (.int .i8)), .lf (.cst (.own 0)), .lf (.cst (.own 1)), .lf (.int .i64), .lf (.int .i64), .lf (.int .i64)], [.lst true (.int .i64) false, .lst true (.int .i64) false], fun x k => pedagoguelaw19_LossSharp_n1 x.1.2.2.2.2.2.1 (fun (y16 : Int) => k .normal ⟨[(0, .fz false (.int .i8) x.1.1), (5, .own 0), (6, .own 1), (8, .pl (.int .i64 x.1.2.2.2.1)), (56, .pl (.int .i64 x.1.2.2.2.2.1)), (57, .pl (.int .i64 y16))], [.lst true (.int .i64) x.2.1 false, .lst true (.int .i64) x.2.2.1 false]⟩)⟩
noncomputable def pedagoguelaw19_LossSharp_ct : Tab := fun n => match n with | 2042 => some pedagoguelaw19_LossSharp_e0 | 32679 => some pedagoguelaw19_LossSharp_e1 | _ => none
noncomputable def pedagoguelaw19_LossSharp_en : Go.Mach.Ends := fun n => match n with | 2 => some ([], [0, 1]) | 12 => some ([], [0, 1, 17]) | 14 => some ([], [0, 1]) | 27 => some ([], [0, 1]) | 30 => some ([], [0, 1, 5, 6]) | 52 => some ([], [4]) | 53 => some ([], [4]) | 62 => some ([], [0, 5, 6, 7]) | 252 => some ([], [0, 5, 6, 54]) | 254 => some ([], [0, 5, 6, 8]) | 507 => some ([], [0, 5, 6]) | 1012 => some ([], [4]) | 1013 => some ([], [4]) | 1020 => some ([], [0, 5, 6, 8, 56, 57]) | 1022 => some ([], [4]) | 1023 => some ([], [4]) | 2042 => some ([], [0, 5, 6, 8, 56, 57]) | 8168 => some ([], [0, 5, 6, 8, 56, 57, 58]) | 32676 => some ([], [0, 5, 6, 8, 56, 57]) | 32677 => some ([], [0, 5, 6, 8]) | 32679 => some ([], [0, 5, 6, 8, 56, 57]) | 130712 => some ([], [0, 5, 6, 8, 9, 56, 57]) | 261426 => some ([], [0, 5, 6, 8, 9, 56, 57, 68]) | 522854 => some ([], [0, 5, 6, 8, 56, 57]) | 522855 => some ([], [0, 5, 6, 8, 56, 57]) | _ => none
noncomputable def pedagoguelaw19_LossSharp_b : Code := Try.f4.body.getD .skip
theorem pedagoguelaw19_LossSharp_tab : TabOk Gpedagoguelaw19_awake pedagoguelaw19_LossSharp_ct pedagoguelaw19_LossSharp_en pedagoguelaw19_LossSharp_b := by
  intro n E hn f c hs x k h
  unfold pedagoguelaw19_LossSharp_ct at hn
  split at hn
  · cases hn; exact tab_loop2 hs (by kernel_rfl) (fun y : Int × Int => ⟨[(0, .fz false (.int .i8) x.1.1), (5, .own 0), (6, .own 1), (8, .pl (.int .i64 y.1)), (56, .pl (.int .i64 x.1.2.2.2.2.1)), (57, .pl (.int .i64 y.2))], [.lst true (.int .i64) x.2.1 false, .lst true (.int .i64) x.2.2.1 false]⟩) (x.1.2.2.2.1, x.1.2.2.2.2.2.1) (by kernel_rfl) (fun y X => by kernel_rfl) h.it
  · cases hn; exact tab_node2 hs (by kernel_rfl) (by kernel_rfl) h.it
  · cases hn
def pedagoguelaw19_LossSharp_sh : List Sh := [.lf (.fz false (.int .i8)), .lf (.int .i64)]
def pedagoguelaw19_LossSharp_d (x : denS pedagoguelaw19_LossSharp_sh) (Q : List (Bool × List VV) → Prop) : Prop := pedagoguelaw19_LossSharp x.1 x.2.1 (fun (r : Bool) => Q (slotsA [(false, .bool)] [.n] (r, ())))
theorem pedagoguelaw19_LossSharp_snd (x : denS pedagoguelaw19_LossSharp_sh) (Q : List (Bool × List VV) → Prop) (h : pedagoguelaw19_LossSharp_d x Q) : Sound Try.prog 4 (packS pedagoguelaw19_LossSharp_sh x) Q :=
  vfun_told [.n] (G := Gpedagoguelaw19_awake) (ct := pedagoguelaw19_LossSharp_ct) (en := pedagoguelaw19_LossSharp_en) (fn := Try.f4) (cd := pedagoguelaw19_LossSharp_b) (rt := [(false, .bool)]) Try.func4 (by kernel_rfl) (by kernel_rfl) (Nat.le_of_ble_eq_true rfl) pedagoguelaw19_LossSharp_tab Opedagoguelaw19_awake_ok h.it (by kernel_rfl)
noncomputable def Opedagoguelaw19_LossSharp : FuncId → List VV → (List (Bool × List VV) → Prop) → Prop := fun f args Q => if f = 4 then unA pedagoguelaw19_LossSharp_sh args (fun x => pedagoguelaw19_LossSharp_d x Q) else Opedagoguelaw19_awake f args Q
theorem Opedagoguelaw19_LossSharp_ok : ∀ f args Q, Opedagoguelaw19_LossSharp f args Q → Sound Try.prog f args Q := tab_more Opedagoguelaw19_awake_ok (f0 := 4) pedagoguelaw19_LossSharp_sh (fun x Q => pedagoguelaw19_LossSharp_d x Q) pedagoguelaw19_LossSharp_snd
noncomputable def Gpedagoguelaw19_LossSharp : Cfg := ⟨Try.prog, tt, Opedagoguelaw19_LossSharp, fun _ _ _ => False⟩
end Go.Proofs.Ytpbegbmmhpencaa
