/- The statement LossRows: for every input that the row speaks of, the Go function returns true, and each argument reads afterwards as it read before. No condition beyond the row's own. -/
import Derived.Test.YtpbegbmmhpencaaRows
import Derived.Test.YtpbegbmmhpencaaGU
import Derived.Test.YtpbegbmmhpencaaVFlat
import Derived.WalkKit
import Derived.ProofKit
import Derived.OpenShut
import Derived.ShutString
import Derived.ChangeOld
import Derived.Below
namespace Go.Proofs.Ytpbegbmmhpencaa.lossRows
open Go.ChangeShapes Go.WideShapes Go.ChangeAt Go.RowKit
set_option linter.unusedVariables false
set_option maxRecDepth 100000

theorem walk {w : World} {a0_0 : Option Addr} {l0_0 c0_0 : Nat} {z0_0 : List Int} {a1_0 : Option Addr} {l1_0 c1_0 : Nat} {z1_0 : List Int} {n2_0 : Int} {n3_0 : Int} {n4_0 : Int} (t0_0 : Go.Mach.RowH .i8 w a0_0 l0_0 c0_0 z0_0) (t1_0 : Go.Mach.RowH .i8 w a1_0 l1_0 c1_0 z1_0) (w2_0 : (Lit.int .i64 n2_0).wf = true) (w3_0 : (Lit.int .i64 n3_0).wf = true) (w4_0 : (Lit.int .i64 n4_0).wf = true) :
    Calls Try.prog 5 #[.slice a0_0 l0_0 c0_0, .slice a1_0 l1_0 c1_0, .int .i64 n2_0, .int .i64 n3_0, .int .i64 n4_0] w fun e w' => e = .returned (.bool true) ∧ Below w.heap.size w w' :=
  Go.Mach.law_calls (azz := [.slice a0_0 l0_0 c0_0, .slice a1_0 l1_0 c1_0, .int .i64 n2_0, .int .i64 n3_0, .int .i64 n4_0]) Go.Mach.extF_sound (by kernel_rfl)
    (pedagoguelaw19_LossRows_snd (z0_0.take l0_0, (z1_0.take l1_0, (n2_0, (n3_0, (n4_0, ()))))) _ (law_rows (fun x hx => i8_rng ((Go.Mach.row_RSl t0_0).2.2.2.1 x hx)) (fun x hx => i8_rng ((Go.Mach.row_RSl t1_0).2.2.2.1 x hx)) (Go.Mach.law_true rfl)))
    (.cons (Go.Mach.row_R2 t0_0) (.cons (Go.Mach.row_R2 t1_0) (.cons ⟨rfl, rfl⟩ (.cons ⟨rfl, rfl⟩ (.cons ⟨rfl, rfl⟩ .nil)))))
    (by
      intro x hx
      simp only [List.mem_cons, List.not_mem_nil, or_false] at hx
      rcases hx with rfl | rfl | rfl | rfl | rfl
      · exact (Go.Mach.row_RSl t0_0).2.2.1
      · exact (Go.Mach.row_RSl t1_0).2.2.1
      · exact .int _ _
      · exact .int _ _
      · exact .int _ _)

theorem own : ownKnob Try.prog.godebug = none := by kernel_rfl
theorem laidOut : laidOutB Try.prog = true := by kernel_rfl

theorem lifted (os : Os) (started : os.Started) (H : Type) (enc : TypeId × Value → H) :
    ReturnsInHanded {} Try.checked os 5 .any (Rows.lossRowsSpec.pre6 enc Try.prog Try.f5 Rows.lossRowsRow.domain false) (Rows.lossRowsSpec.post enc Try.prog Try.f5 false true false false) := by
  refine returnsInHanded_of_change (C := Try.checked) own started (by kernel_rfl) Try.func5
    (ChangeSpec.witness6 (enc := enc) (C := Try.checked) false ⟨#[], #[.slice none 0 0, .slice none 0 0, .int .i64 0, .int .i64 0, .int .i64 0], []⟩ 8 (by kernel_rfl) (by kernel_rfl) (by kernel_rfl) (by kernel_rfl)) ?_
  intro W base args ds gs before hval0 hW hcnd _
  have hval : ∀ (j : Nat) t v, Try.f5.params[j]? = some t → args[j]? = some v → Value.okWide Try.prog W .any base t v := hval0
  have hW' := hW
  obtain ⟨p, q, hA0, hV, rfl, hfz, hnd⟩ := hW
  have hA : DataW.TrodAll enc Try.prog W 0 (fun _ => true) true Try.f5.params.toList args.toList ds p := hA0
  rw [Try.params5] at hA hval
  obtain ⟨v0, vs0, d0, ds0, p0, q0, hargs, rfl, rfl, h0, r0⟩ := trodAll_cons hA
  obtain ⟨v1, vs1, d1, ds1, p1, q1, rfl, rfl, rfl, h1, r1⟩ := trodAll_cons r0
  obtain ⟨v2, vs2, d2, ds2, p2, q2, rfl, rfl, rfl, h2, r2⟩ := trodAll_cons r1
  obtain ⟨v3, vs3, d3, ds3, p3, q3, rfl, rfl, rfl, h3, r3⟩ := trodAll_cons r2
  obtain ⟨v4, vs4, d4, ds4, p4, q4, rfl, rfl, rfl, h4, r4⟩ := trodAll_cons r3
  obtain ⟨rfl, rfl, rfl⟩ := trodAll_nil r4
  obtain rfl : args = #[v0, v1, v2, v3, v4] := by cases args; simp_all
  obtain ⟨rfl, rfl⟩ := trodVars_none hV
  have k0 := h0
  have lt0 : ∀ x ∈ p0, x.block < W.heap.size := by obtain ⟨m, hm⟩ := k0; exact DataW.trod_lt m _ _ _ hm
  obtain ⟨a0, l0, c0, z0, rfl, t0⟩ := Go.Mach.open_arg Try.underlying22 Try.underlying23 (by kernel_rfl) (hval 0 22 v0 rfl rfl) h0
  have k1 := h1
  have lt1 : ∀ x ∈ p1, x.block < W.heap.size := by obtain ⟨m, hm⟩ := k1; exact DataW.trod_lt m _ _ _ hm
  obtain ⟨a1, l1, c1, z1, rfl, t1⟩ := Go.Mach.open_arg Try.underlying22 Try.underlying23 (by kernel_rfl) (hval 1 22 v1 rfl rfl) h1
  obtain ⟨a2, rfl, rfl, rfl, w2⟩ := open_int Try.underlying3 (hval 2 3 v2 rfl rfl) h2
  obtain ⟨a3, rfl, rfl, rfl, w3⟩ := open_int Try.underlying3 (hval 3 3 v3 rfl rfl) h3
  obtain ⟨a4, rfl, rfl, rfl, w4⟩ := open_int Try.underlying3 (hval 4 3 v4 rfl rfl) h4
  clear hA0 hval0
  refine (walk t0 t1 w2 w3 w4).mono fun e W' ⟨he, bel⟩ => ?_
  subst he
  exact ⟨_, rfl, _, _, _, [], _, [], hW', trodAll_mk1 (shut_bool Try.underlying4 _), (trodAll_cons_mk (Below.trod laidOut (by kernel_rfl) (of_decide_eq_true (by kernel_rfl)) k0 bel lt0) (trodAll_cons_mk (Below.trod laidOut (by kernel_rfl) (of_decide_eq_true (by kernel_rfl)) k1 bel lt1) (trodAll_cons_mk (shut_int Try.underlying3 w2) (trodAll_cons_mk (shut_int Try.underlying3 w3) (trodAll_cons_mk (shut_int Try.underlying3 w4) trodAll_mk0))))), rfl, bel.frame _, fun h => by cases h⟩

theorem over : Rows.lossRowsRow.holds Try.pinned (OpenSpec.ofChange Rows.lossRowsSpec) :=
  OpenClaim.holds_of_wide 5 Try.f5 rfl rfl rfl rfl rfl rfl rfl ⟨rfl, rfl, rfl, rfl, rfl⟩ rfl rfl rfl rfl rfl (by kernel_rfl) Try.func5 (by kernel_rfl)
    (of_decide_eq_true (by kernel_rfl)) (by unfold Func.isWrapper; first | (rw [if_pos (by decide +kernel)]; kernel_rfl) | (rw [if_neg (by decide +kernel)]; exact ⟨rfl, rfl⟩))
    (fun os started H enc _ => lifted os started H enc)

theorem proved : Rows.LossRowsSaid := over
#print axioms proved
end Go.Proofs.Ytpbegbmmhpencaa.lossRows
