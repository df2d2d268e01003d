/- The statement LossGrads: for every input that the row speaks of, the Go function returns true, and each argument reads afterwards as it read before. No condition beyond the row's own. -/
import Derived.Test.YtpbegbmmhpencaaRows
import Derived.Test.YtpbegbmmhpencaaGI
import Derived.Test.YtpbegbmmhpencaaVFlat
import Derived.WalkKit
import Derived.ProofKit
import Derived.OpenShut
import Derived.ShutString
import Derived.ChangeOld
import Derived.Below
namespace Go.Proofs.Ytpbegbmmhpencaa.lossGrads
open Go.ChangeShapes Go.WideShapes Go.ChangeAt Go.RowKit
set_option linter.unusedVariables false
set_option maxRecDepth 100000

theorem walk {w : World} {a0_0 : Option Addr} {l0_0 c0_0 : Nat} {z0_0 : List Int} {n0_1 : Int} {a0_2 : Option Addr} {l0_2 c0_2 : Nat} {z0_2 : List Int} {a1_0 : Option Addr} {l1_0 c1_0 : Nat} {z1_0 : List Int} (t0_0 : Go.Mach.RowH .i64 w a0_0 l0_0 c0_0 z0_0) (w0_1 : (Lit.int .i64 n0_1).wf = true) (t0_2 : Go.Mach.RowH .i8 w a0_2 l0_2 c0_2 z0_2) (t1_0 : Go.Mach.RowH .i64 w a1_0 l1_0 c1_0 z1_0) :
    Calls Try.prog 7 #[.agg #[.slice a0_0 l0_0 c0_0, .int .i64 n0_1, .slice a0_2 l0_2 c0_2], .slice a1_0 l1_0 c1_0] w fun e w' => e = .returned (.bool true) ∧ Below w.heap.size w w' :=
  Go.Mach.law_calls (azz := [.agg #[.slice a0_0 l0_0 c0_0, .int .i64 n0_1, .slice a0_2 l0_2 c0_2], .slice a1_0 l1_0 c1_0]) Go.Mach.extF_sound (by kernel_rfl)
    (pedagoguelaw19_LossGrads_snd ((z0_0.take l0_0, (n0_1, (z0_2.take l0_2, ()))), (z1_0.take l1_0, ())) _ (law_grads (t := (_, _, _)) (fun x hx => i8_rng ((Go.Mach.row_RSl t0_2).2.2.2.1 x hx)) (Go.Mach.law_true rfl)))
    (.cons ⟨_, rfl, (.cons (Go.Mach.row_RL t0_0) (.cons (⟨rfl, rfl⟩) (.cons (Go.Mach.row_RL t0_2) .nil)))⟩ (.cons (Go.Mach.row_R2 t1_0) .nil))
    (by
      intro x hx
      simp only [List.mem_cons, List.not_mem_nil, or_false] at hx
      rcases hx with rfl | rfl
      · refine Go.Mach.agg_VRel (azz := [.slice a0_0 l0_0 c0_0, .int .i64 n0_1, .slice a0_2 l0_2 c0_2]) ?_
        intro y hy
        simp only [List.mem_cons, List.not_mem_nil, or_false] at hy
        rcases hy with rfl | rfl | rfl
        · exact (Go.Mach.row_RSl t0_0).2.2.1
        · exact .int _ _
        · exact (Go.Mach.row_RSl t0_2).2.2.1
      · exact (Go.Mach.row_RSl t1_0).2.2.1)

theorem own : ownKnob Try.prog.godebug = none := by kernel_rfl
theorem laidOut : laidOutB Try.prog = true := by kernel_rfl

theorem lifted (os : Os) (started : os.Started) (H : Type) (enc : TypeId × Value → H) :
    ReturnsInHanded {} Try.checked os 7 .any (Rows.lossGradsSpec.pre6 enc Try.prog Try.f7 Rows.lossGradsRow.domain false) (Rows.lossGradsSpec.post enc Try.prog Try.f7 false true false false) := by
  refine returnsInHanded_of_change (C := Try.checked) own started (by kernel_rfl) Try.func7
    (ChangeSpec.witness6 (enc := enc) (C := Try.checked) false ⟨#[], #[.agg #[.slice none 0 0, .int .i64 0, .slice none 0 0], .slice none 0 0], []⟩ 8 (by kernel_rfl) (by kernel_rfl) (by kernel_rfl) (by kernel_rfl)) ?_
  intro W base args ds gs before hval0 hW hcnd _
  have hval : ∀ (j : Nat) t v, Try.f7.params[j]? = some t → args[j]? = some v → Value.okWide Try.prog W .any base t v := hval0
  have hW' := hW
  obtain ⟨p, q, hA0, hV, rfl, hfz, hnd⟩ := hW
  have hA : DataW.TrodAll enc Try.prog W 0 (fun _ => true) true Try.f7.params.toList args.toList ds p := hA0
  rw [Try.params7] at hA hval
  obtain ⟨v0, vs0, d0, ds0, p0, q0, hargs, rfl, rfl, h0, r0⟩ := trodAll_cons hA
  obtain ⟨v1, vs1, d1, ds1, p1, q1, rfl, rfl, rfl, h1, r1⟩ := trodAll_cons r0
  obtain ⟨rfl, rfl, rfl⟩ := trodAll_nil r1
  obtain rfl : args = #[v0, v1] := by cases args; simp_all
  obtain ⟨rfl, rfl⟩ := trodVars_none hV
  have k0 := h0
  have lt0 : ∀ x ∈ p0, x.block < W.heap.size := by obtain ⟨m, hm⟩ := k0; exact DataW.trod_lt m _ _ _ hm
  obtain ⟨cs0, rfl, g0_0⟩ := Go.Mach.open_flat (n := 8) (ks := [(24, .row .i64), (3, .int .i64), (22, .row .i8)]) Try.underlying31 (by kernel_rfl) (by kernel_rfl) (by kernel_rfl) (hval 0 31 v0 rfl rfl) h0
  obtain ⟨v0_0, vs0_0, rfl, e0_0, g0_1⟩ := Go.Mach.flat_cons g0_0
  obtain ⟨a0_0, l0_0, c0_0, z0_0, rfl, t0_0⟩ := e0_0
  obtain ⟨v0_1, vs0_1, rfl, e0_1, g0_2⟩ := Go.Mach.flat_cons g0_1
  obtain ⟨n0_1, rfl, w0_1⟩ := e0_1
  obtain ⟨v0_2, vs0_2, rfl, e0_2, g0_3⟩ := Go.Mach.flat_cons g0_2
  obtain ⟨a0_2, l0_2, c0_2, z0_2, rfl, t0_2⟩ := e0_2
  obtain rfl := Go.Mach.flat_nil g0_3
  have k1 := h1
  have lt1 : ∀ x ∈ p1, x.block < W.heap.size := by obtain ⟨m, hm⟩ := k1; exact DataW.trod_lt m _ _ _ hm
  obtain ⟨a1, l1, c1, z1, rfl, t1⟩ := Go.Mach.open_arg Try.underlying24 Try.underlying3 (by kernel_rfl) (hval 1 24 v1 rfl rfl) h1
  clear hA0 hval0
  refine (walk t0_0 w0_1 t0_2 t1).mono fun e W' ⟨he, bel⟩ => ?_
  subst he
  exact ⟨_, rfl, _, _, _, [], _, [], hW', trodAll_mk1 (shut_bool Try.underlying4 _), (trodAll_cons_mk (Below.trod laidOut (by kernel_rfl) (of_decide_eq_true (by kernel_rfl)) k0 bel lt0) (trodAll_cons_mk (Below.trod laidOut (by kernel_rfl) (of_decide_eq_true (by kernel_rfl)) k1 bel lt1) trodAll_mk0)), rfl, bel.frame _, fun h => by cases h⟩

theorem over : Rows.lossGradsRow.holds Try.pinned (OpenSpec.ofChange Rows.lossGradsSpec) :=
  OpenClaim.holds_of_wide 7 Try.f7 rfl rfl rfl rfl rfl rfl rfl ⟨rfl, rfl, rfl, rfl, rfl⟩ rfl rfl rfl rfl rfl (by kernel_rfl) Try.func7 (by kernel_rfl)
    (of_decide_eq_true (by kernel_rfl)) (by unfold Func.isWrapper; first | (rw [if_pos (by decide +kernel)]; kernel_rfl) | (rw [if_neg (by decide +kernel)]; exact ⟨rfl, rfl⟩))
    (fun os started H enc _ => lifted os started H enc)

theorem proved : Rows.LossGradsSaid := over
#print axioms proved
end Go.Proofs.Ytpbegbmmhpencaa.lossGrads
