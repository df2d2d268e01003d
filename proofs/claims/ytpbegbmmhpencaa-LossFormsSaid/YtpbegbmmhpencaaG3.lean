/- Plain texts of functions, as the value machine comes to them. No condition. -/
import Derived.Test.YtpbegbmmhpencaaG2
import Derived.Test.YtpbegbmmhpencaaProg
import Derived.KernelRfl
namespace Go.Proofs.Ytpbegbmmhpencaa
open Go.Mach
set_option maxRecDepth 100000
set_option linter.unusedVariables false
def loss_Top_n0_B (x1 : List (List Int)) (x2 : Int) (K0 : (List Int) → Prop) (s : Int × List Int) (nx : (Int × List Int) → Prop) : Prop :=
  if (decide (s.1 < x2)) = true then ck ((0 : Int) ≤ s.1 ∧ s.1 < (x1.length : Int)) (loss_top (x1.getD ((s.1).toNat) []) (fun (r3 : Int) => ck ((s.2.length + [r3].length) * 8 ≤ 140737488355328) (nx (IntKind.i64.wrap (s.1 + 1), s.2 ++ [r3])))) else K0 s.2
structure loss_Top_n0 (x1 : List (List Int)) (x2 : Int) (K0 : (List Int) → Prop) (s : Int × List Int) : Prop where
  it : Go.Mach.Loop (loss_Top_n0_B x1 x2 K0) s
def loss_Top_t (a0 : (List Int) × Int × List Int) (Q : ((List Int) × Int) → Prop) : Prop :=
  loss_rows (a0.1, (a0.2.1, a0.2.2)) (fun (r1 : (List (List Int)) × Int) => loss_Top_n0 r1.1 (r1.1.length : Int) (fun (y4 : List Int) => Q (y4, r1.2)) (0, ([] : List Int)))
structure loss_Top (a0 : (List Int) × Int × List Int) (Q : ((List Int) × Int) → Prop) : Prop where
  it : loss_Top_t a0 Q
noncomputable def loss_Top_e0 : Ent := ⟨[5, 6, 14, 15, 16], [.lf (.int .i64), .lf (.cst (.pl (.slice none 0 0))), .lf (.fz false (.slc (.int .i8))), .lf (.int .i64), .lf (.int .i64)], [], fun x k => loss_Top_n0 x.1.2.2.1 x.1.2.2.2.1 (fun (y5 : List Int) => k (.exit 0) ⟨[(5, .pl (.int .i64 x.1.1)), (6, .own 0)], [.lst true (.int .i64) y5 false]⟩) (x.1.2.2.2.2.1, ([] : List Int))⟩
noncomputable def loss_Top_ct : Tab := fun n => match n with | 122 => some loss_Top_e0 | _ => none
noncomputable def loss_Top_en : Go.Mach.Ends := fun n => match n with | 2 => some ([], [1]) | 6 => some ([], [4, 5]) | 14 => some ([], [4, 5, 6]) | 60 => some ([], [5, 6, 14, 15, 16]) | 62 => some ([], [2, 3]) | 63 => some ([], [2, 3]) | 122 => some ([⟨6, none, false, (.int .i64)⟩], [5, 6, 14, 15, 16]) | 488 => some ([], [5, 6, 14, 15, 16, 17]) | 1956 => some ([], [5, 6, 14, 15, 16]) | 1957 => some ([], [5, 6]) | 1959 => some ([], [5, 6, 14, 15, 16]) | 7832 => some ([], [5, 6, 8, 14, 15, 16]) | 7833 => some ([], [5, 6, 14, 15, 16]) | _ => none
noncomputable def loss_Top_b : Code := Try.f13.body.getD .skip
theorem loss_Top_tab : TabOk Gpedagoguelaw19_awake loss_Top_ct loss_Top_en loss_Top_b := by
  intro n E hn f c hs x k h
  unfold loss_Top_ct at hn
  split at hn
  · cases hn; exact tab_loop2 hs (by kernel_rfl) (fun y : Int × List Int => ⟨[(5, .pl (.int .i64 x.1.1)), (6, .own 0), (14, .fz false (.slc (.int .i8)) x.1.2.2.1), (15, .pl (.int .i64 x.1.2.2.2.1)), (16, .pl (.int .i64 y.1))], [.lst true (.int .i64) y.2 false]⟩) (x.1.2.2.2.2.1, ([] : List Int)) (by kernel_rfl) (fun y X => by kernel_rfl) h.it
  · cases hn
def loss_Top_sh : List Sh := [.agg [.fz false (.int .i64), .int .i64, .fz false (.int .i8)]]
def loss_Top_d (x : denS loss_Top_sh) (Q : List (Bool × List VV) → Prop) : Prop := loss_Top (x.1.1, (x.1.2.1, x.1.2.2.1)) (fun (r : (List Int) × Int) => Q (slotsA [(false, (.slc (.int .i64))), (false, (.int .i64))] [.n, .n] (r.1, (r.2, ()))))
theorem loss_Top_snd (x : denS loss_Top_sh) (Q : List (Bool × List VV) → Prop) (h : loss_Top_d x Q) : Sound Try.prog 13 (packS loss_Top_sh x) Q :=
  vfun_told [.n, .n] (G := Gpedagoguelaw19_awake) (ct := loss_Top_ct) (en := loss_Top_en) (fn := Try.f13) (cd := loss_Top_b) (rt := [(false, (.slc (.int .i64))), (false, (.int .i64))]) Try.func13 (by kernel_rfl) (by kernel_rfl) (Nat.le_of_ble_eq_true rfl) loss_Top_tab Opedagoguelaw19_awake_ok h.it (by kernel_rfl)
noncomputable def Oloss_Top : FuncId → List VV → (List (Bool × List VV) → Prop) → Prop := fun f args Q => if f = 13 then unA loss_Top_sh args (fun x => loss_Top_d x Q) else Opedagoguelaw19_awake f args Q
theorem Oloss_Top_ok : ∀ f args Q, Oloss_Top f args Q → Sound Try.prog f args Q := tab_more Opedagoguelaw19_awake_ok (f0 := 13) loss_Top_sh (fun x Q => loss_Top_d x Q) loss_Top_snd
noncomputable def Gloss_Top : Cfg := ⟨Try.prog, tt, Oloss_Top, fun _ _ _ => False⟩
def loss_Right_n1_t (x5 : Int) (K0 : Int → Prop) : Prop :=
  K0 (IntKind.i64.wrap (x5 + 1))
structure loss_Right_n1 (x5 : Int) (K0 : Int → Prop) : Prop where
  it : loss_Right_n1_t x5 K0
def loss_Right_n0_B (x0 : List Int) (x3 : List (List Int)) (x4 : Int) (K0 : Int → Prop) (s : Int × Int) (nx : (Int × Int) → Prop) : Prop :=
  if (decide (s.2 < x4)) = true then ck ((0 : Int) ≤ s.2 ∧ s.2 < (x3.length : Int)) (loss_top (x3.getD ((s.2).toNat) []) (fun (r2 : Int) => ck ((0 : Int) ≤ s.2 ∧ s.2 < (x0.length : Int)) (if (r2 == (x0.getD ((s.2).toNat) 0)) = true then loss_Right_n1 s.2 (fun (y3 : Int) => nx ((IntKind.i64.wrap (s.1 + 1)), y3)) else loss_Right_n1 s.2 (fun (y4 : Int) => nx (s.1, y4))))) else K0 s.1
structure loss_Right_n0 (x0 : List Int) (x3 : List (List Int)) (x4 : Int) (K0 : Int → Prop) (s : Int × Int) : Prop where
  it : Go.Mach.Loop (loss_Right_n0_B x0 x3 x4 K0) s
def loss_Right_t (a0 : (List Int) × Int × List Int) (a1 : List Int) (Q : (Int × Int) → Prop) : Prop :=
  loss_labelled (a0.1, (a0.2.1, a0.2.2)) a1 (fun (r1 : (List (List Int)) × Int) => loss_Right_n0 a1 r1.1 (r1.1.length : Int) (fun (y5 : Int) => Q (y5, r1.2)) (0, 0))
structure loss_Right (a0 : (List Int) × Int × List Int) (a1 : List Int) (Q : (Int × Int) → Prop) : Prop where
  it : loss_Right_t a0 a1 Q
noncomputable def loss_Right_e0 : Ent := ⟨[1, 7, 8, 17, 18, 19], [.lf (.fz false (.int .i64)), .lf (.int .i64), .lf (.int .i64), .lf (.fz false (.slc (.int .i8))), .lf (.int .i64), .lf (.int .i64)], [], fun x k => loss_Right_n0 x.1.1 x.1.2.2.2.1 x.1.2.2.2.2.1 (fun (y6 : Int) => k (.exit 0) ⟨[(7, .pl (.int .i64 x.1.2.1)), (8, .pl (.int .i64 y6))], []⟩) (x.1.2.2.1, x.1.2.2.2.2.2.1)⟩
noncomputable def loss_Right_e1 : Ent := ⟨[1, 7, 8, 17, 18, 19], [.lf (.fz false (.int .i64)), .lf (.int .i64), .lf (.int .i64), .lf (.fz false (.slc (.int .i8))), .lf (.int .i64), .lf (.int .i64)], [], fun x k => loss_Right_n1 x.1.2.2.2.2.2.1 (fun (y7 : Int) => k .normal ⟨[(1, .fz false (.int .i64) x.1.1), (7, .pl (.int .i64 x.1.2.1)), (8, .pl (.int .i64 x.1.2.2.1)), (17, .fz false (.slc (.int .i8)) x.1.2.2.2.1), (18, .pl (.int .i64 x.1.2.2.2.2.1)), (19, .pl (.int .i64 y7))], []⟩)⟩
noncomputable def loss_Right_ct : Tab := fun n => match n with | 122 => some loss_Right_e0 | 1959 => some loss_Right_e1 | _ => none
noncomputable def loss_Right_en : Go.Mach.Ends := fun n => match n with | 2 => some ([], [1, 2]) | 6 => some ([], [1, 6, 7]) | 14 => some ([], [1, 6, 7, 8]) | 60 => some ([], [1, 7, 8, 17, 18, 19]) | 62 => some ([], [4, 5]) | 63 => some ([], [4, 5]) | 122 => some ([], [1, 7, 8, 17, 18, 19]) | 488 => some ([], [1, 7, 8, 17, 18, 19, 20]) | 1956 => some ([], [1, 7, 8, 17, 18, 19]) | 1957 => some ([], [7, 8]) | 1959 => some ([], [1, 7, 8, 17, 18, 19]) | 7832 => some ([], [1, 7, 8, 9, 10, 17, 18, 19]) | 15666 => some ([], [1, 7, 8, 17, 18, 19, 30]) | 31334 => some ([], [1, 7, 8, 17, 18, 19]) | 31335 => some ([], [1, 7, 8, 17, 18, 19]) | _ => none
noncomputable def loss_Right_b : Code := Try.f15.body.getD .skip
theorem loss_Right_tab : TabOk Gloss_Top loss_Right_ct loss_Right_en loss_Right_b := by
  intro n E hn f c hs x k h
  unfold loss_Right_ct at hn
  split at hn
  · cases hn; exact tab_loop2 hs (by kernel_rfl) (fun y : Int × Int => ⟨[(1, .fz false (.int .i64) x.1.1), (7, .pl (.int .i64 x.1.2.1)), (8, .pl (.int .i64 y.1)), (17, .fz false (.slc (.int .i8)) x.1.2.2.2.1), (18, .pl (.int .i64 x.1.2.2.2.2.1)), (19, .pl (.int .i64 y.2))], []⟩) (x.1.2.2.1, x.1.2.2.2.2.2.1) (by kernel_rfl) (fun y X => by kernel_rfl) h.it
  · cases hn; exact tab_node2 hs (by kernel_rfl) (by kernel_rfl) h.it
  · cases hn
def loss_Right_sh : List Sh := [.agg [.fz false (.int .i64), .int .i64, .fz false (.int .i8)], .lf (.fz false (.int .i64))]
def loss_Right_d (x : denS loss_Right_sh) (Q : List (Bool × List VV) → Prop) : Prop := loss_Right (x.1.1, (x.1.2.1, x.1.2.2.1)) x.2.1 (fun (r : Int × Int) => Q (slotsA [(false, (.int .i64)), (false, (.int .i64))] [.n, .n] (r.1, (r.2, ()))))
theorem loss_Right_snd (x : denS loss_Right_sh) (Q : List (Bool × List VV) → Prop) (h : loss_Right_d x Q) : Sound Try.prog 15 (packS loss_Right_sh x) Q :=
  vfun_told [.n, .n] (G := Gloss_Top) (ct := loss_Right_ct) (en := loss_Right_en) (fn := Try.f15) (cd := loss_Right_b) (rt := [(false, (.int .i64)), (false, (.int .i64))]) Try.func15 (by kernel_rfl) (by kernel_rfl) (Nat.le_of_ble_eq_true rfl) loss_Right_tab Oloss_Top_ok h.it (by kernel_rfl)
noncomputable def Oloss_Right : FuncId → List VV → (List (Bool × List VV) → Prop) → Prop := fun f args Q => if f = 15 then unA loss_Right_sh args (fun x => loss_Right_d x Q) else Oloss_Top f args Q
theorem Oloss_Right_ok : ∀ f args Q, Oloss_Right f args Q → Sound Try.prog f args Q := tab_more Oloss_Top_ok (f0 := 15) loss_Right_sh (fun x Q => loss_Right_d x Q) loss_Right_snd
noncomputable def Gloss_Right : Cfg := ⟨Try.prog, tt, Oloss_Right, fun _ _ _ => False⟩
end Go.Proofs.Ytpbegbmmhpencaa
