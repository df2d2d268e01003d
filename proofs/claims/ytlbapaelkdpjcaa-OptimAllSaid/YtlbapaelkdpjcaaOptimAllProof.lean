/- The statement OptimAll: for every input that the row speaks of, the Go function returns true, and each argument reads afterwards as it read before. No condition beyond the row's own. -/
import Derived.Test.YtlbapaelkdpjcaaRows
import Derived.Test.YtlbapaelkdpjcaaO7
import Derived.Test.YtlbapaelkdpjcaaVFlat
import Derived.SizedLaws
import Derived.Test.YtlbapaelkdpjcaaVTold
import Derived.WalkKit
import Derived.ProofKit
import Derived.OpenShut
import Derived.ShutString
import Derived.ChangeOld
import Derived.Below
namespace Go.Proofs.Ytlbapaelkdpjcaa.optimAll
open Go.ChangeShapes Go.WideShapes Go.ChangeAt Go.RowKit
set_option linter.unusedVariables false
set_option maxRecDepth 100000

theorem walk {w : World} {u0_0 : Value} {z0_0 : List (Go.Mach.Ty.den (.pair (.pair (.slc (.int .i64)) (.pair (.int .i64) (.slc (.int .i8)))) (.pair (.slc (.int .i32)) (.pair (.slc (.int .i64)) (.pair (.int .i64) (.slc (.int .i8)))))))} {u1_0 : Value} {z1_0 : List (Go.Mach.Ty.den (.pair .bool (.pair (.pair (.slc (.int .i64)) (.pair (.int .i64) (.slc (.int .i32)))) (.pair (.slc (.int .i64)) (.pair (.int .i64) (.slc (.int .i32)))))))} {n2_0 : Int} {n2_1 : Int} {n2_2 : Int} {n2_3 : Int} {n2_4 : Int} {n2_5 : Int} {n3_0 : Int} {n4_0 : Int} (t0_0 : Go.Mach.Told w (.pair (.pair (.slc (.int .i64)) (.pair (.int .i64) (.slc (.int .i8)))) (.pair (.slc (.int .i32)) (.pair (.slc (.int .i64)) (.pair (.int .i64) (.slc (.int .i8)))))) z0_0 u0_0) (t1_0 : Go.Mach.Told w (.pair .bool (.pair (.pair (.slc (.int .i64)) (.pair (.int .i64) (.slc (.int .i32)))) (.pair (.slc (.int .i64)) (.pair (.int .i64) (.slc (.int .i32)))))) z1_0 u1_0) (w2_0 : (Lit.int .i64 n2_0).wf = true) (w2_1 : (Lit.int .i64 n2_1).wf = true) (w2_2 : (Lit.int .i64 n2_2).wf = true) (w2_3 : (Lit.int .i64 n2_3).wf = true) (w2_4 : (Lit.int .i64 n2_4).wf = true) (w2_5 : (Lit.int .i64 n2_5).wf = true) (w3_0 : (Lit.int .u64 n3_0).wf = true) (w4_0 : (Lit.int .i64 n4_0).wf = true) :
    Calls Try.prog 14 #[u0_0, u1_0, .agg #[.int .i64 n2_0, .int .i64 n2_1, .int .i64 n2_2, .int .i64 n2_3, .int .i64 n2_4, .int .i64 n2_5], .int .u64 n3_0, .int .i64 n4_0] w fun e w' => e = .returned (.bool true) ∧ Below w.heap.size w w' :=
  Go.Mach.law_calls (azz := [u0_0, u1_0, .agg #[.int .i64 n2_0, .int .i64 n2_1, .int .i64 n2_2, .int .i64 n2_3, .int .i64 n2_4, .int .i64 n2_5], .int .u64 n3_0, .int .i64 n4_0]) (by kernel_rfl)
    (pedagoguelaw21_OptimAll_snd (z0_0, (z1_0, ((n2_0, (n2_1, (n2_2, (n2_3, (n2_4, (n2_5, ())))))), (n3_0, (n4_0, ()))))) _ (all_law (longP_of t0_0.fits) (longG_of t1_0.fits) (Go.Mach.law_true rfl)))
    (.cons t0_0.rl (.cons t1_0.rl (.cons ⟨_, rfl, (.cons (⟨rfl, rfl⟩) (.cons (⟨rfl, rfl⟩) (.cons (⟨rfl, rfl⟩) (.cons (⟨rfl, rfl⟩) (.cons (⟨rfl, rfl⟩) (.cons (⟨rfl, rfl⟩) .nil))))))⟩ (.cons ⟨rfl, rfl⟩ (.cons ⟨rfl, rfl⟩ .nil)))))
    (by
      intro x hx
      simp only [List.mem_cons, List.not_mem_nil, or_false] at hx
      rcases hx with rfl | rfl | rfl | rfl | rfl
      · exact t0_0.rel
      · exact t1_0.rel
      · refine Go.Mach.agg_VRel (azz := [.int .i64 n2_0, .int .i64 n2_1, .int .i64 n2_2, .int .i64 n2_3, .int .i64 n2_4, .int .i64 n2_5]) ?_
        intro y hy
        simp only [List.mem_cons, List.not_mem_nil, or_false] at hy
        rcases hy with rfl | rfl | rfl | rfl | rfl | rfl
        · exact .int _ _
        · exact .int _ _
        · exact .int _ _
        · exact .int _ _
        · exact .int _ _
        · exact .int _ _
      · exact .int _ _
      · exact .int _ _)

theorem own : ownKnob Try.prog.godebug = none := by kernel_rfl
theorem laidOut : laidOutB Try.prog = true := by kernel_rfl

theorem lifted (os : Os) (started : os.Started) (H : Type) (enc : TypeId × Value → H) :
    ReturnsInHanded {} Try.checked os 14 .any (Rows.optimAllSpec.pre6 enc Try.prog Try.f14 Rows.optimAllRow.domain false) (Rows.optimAllSpec.post enc Try.prog Try.f14 false true false false) := by
  refine returnsInHanded_of_change_sized (C := Try.checked) own started (by kernel_rfl) Try.func14
    (ChangeSpec.witness6 (enc := enc) (C := Try.checked) false ⟨#[], #[.slice none 0 0, .slice none 0 0, .agg #[.int .i64 0, .int .i64 0, .int .i64 0, .int .i64 0, .int .i64 0, .int .i64 0], .int .u64 0, .int .i64 0], []⟩ 8 (by kernel_rfl) (by kernel_rfl) (by kernel_rfl) (by kernel_rfl)) ?_
  intro W base args ds gs before hval0 hW hcnd hsz _
  have hval : ∀ (j : Nat) t v, Try.f14.params[j]? = some t → args[j]? = some v → Value.okWide Try.prog W .any base t v := hval0
  have hW' := hW
  obtain ⟨p, q, hA0, hV, rfl, hfz, hnd⟩ := hW
  have hA : DataW.TrodAll enc Try.prog W 0 (fun _ => true) true Try.f14.params.toList args.toList ds p := hA0
  rw [Try.params14] at hA hval
  obtain ⟨v0, vs0, d0, ds0, p0, q0, hargs, rfl, rfl, h0, r0⟩ := trodAll_cons hA
  obtain ⟨v1, vs1, d1, ds1, p1, q1, rfl, rfl, rfl, h1, r1⟩ := trodAll_cons r0
  obtain ⟨v2, vs2, d2, ds2, p2, q2, rfl, rfl, rfl, h2, r2⟩ := trodAll_cons r1
  obtain ⟨v3, vs3, d3, ds3, p3, q3, rfl, rfl, rfl, h3, r3⟩ := trodAll_cons r2
  obtain ⟨v4, vs4, d4, ds4, p4, q4, rfl, rfl, rfl, h4, r4⟩ := trodAll_cons r3
  obtain ⟨rfl, rfl, rfl⟩ := trodAll_nil r4
  obtain rfl : args = #[v0, v1, v2, v3, v4] := by cases args; simp_all
  obtain ⟨rfl, rfl⟩ := trodVars_none hV
  have k0 := h0
  have lt0 : ∀ x ∈ p0, x.block < W.heap.size := by obtain ⟨m, hm⟩ := k0; exact DataW.trod_lt m _ _ _ hm
  obtain ⟨z0, t0⟩ := Go.Mach.open_told (j := 0) (P := Try.prog) (n := 12) (E := (.pair (.pair (.slc (.int .i64)) (.pair (.int .i64) (.slc (.int .i8)))) (.pair (.slc (.int .i32)) (.pair (.slc (.int .i64)) (.pair (.int .i64) (.slc (.int .i8))))))) Try.underlying66 (by kernel_rfl) (hval 0 66 v0 rfl rfl) h0 hsz (by kernel_rfl) rfl
  have k1 := h1
  have lt1 : ∀ x ∈ p1, x.block < W.heap.size := by obtain ⟨m, hm⟩ := k1; exact DataW.trod_lt m _ _ _ hm
  obtain ⟨z1, t1⟩ := Go.Mach.open_told (j := 1) (P := Try.prog) (n := 12) (E := (.pair .bool (.pair (.pair (.slc (.int .i64)) (.pair (.int .i64) (.slc (.int .i32)))) (.pair (.slc (.int .i64)) (.pair (.int .i64) (.slc (.int .i32))))))) Try.underlying79 (by kernel_rfl) (hval 1 79 v1 rfl rfl) h1 hsz (by kernel_rfl) rfl
  have k2 := h2
  have lt2 : ∀ x ∈ p2, x.block < W.heap.size := by obtain ⟨m, hm⟩ := k2; exact DataW.trod_lt m _ _ _ hm
  obtain ⟨cs2, rfl, g2_0⟩ := Go.Mach.open_flatS (j := 2) (P := Try.prog) (n := 8) (ks := [(3, .int .i64), (3, .int .i64), (3, .int .i64), (3, .int .i64), (3, .int .i64), (3, .int .i64)]) Try.underlying61 (by kernel_rfl) (by kernel_rfl) (by kernel_rfl) (hval 2 61 v2 rfl rfl) h2 hsz (by kernel_rfl) rfl
  obtain ⟨v2_0, vs2_0, rfl, e2_0, g2_1⟩ := Go.Mach.flatS_cons g2_0
  obtain ⟨⟨n2_0, rfl, w2_0⟩, y2_0⟩ := e2_0
  obtain ⟨v2_1, vs2_1, rfl, e2_1, g2_2⟩ := Go.Mach.flatS_cons g2_1
  obtain ⟨⟨n2_1, rfl, w2_1⟩, y2_1⟩ := e2_1
  obtain ⟨v2_2, vs2_2, rfl, e2_2, g2_3⟩ := Go.Mach.flatS_cons g2_2
  obtain ⟨⟨n2_2, rfl, w2_2⟩, y2_2⟩ := e2_2
  obtain ⟨v2_3, vs2_3, rfl, e2_3, g2_4⟩ := Go.Mach.flatS_cons g2_3
  obtain ⟨⟨n2_3, rfl, w2_3⟩, y2_3⟩ := e2_3
  obtain ⟨v2_4, vs2_4, rfl, e2_4, g2_5⟩ := Go.Mach.flatS_cons g2_4
  obtain ⟨⟨n2_4, rfl, w2_4⟩, y2_4⟩ := e2_4
  obtain ⟨v2_5, vs2_5, rfl, e2_5, g2_6⟩ := Go.Mach.flatS_cons g2_5
  obtain ⟨⟨n2_5, rfl, w2_5⟩, y2_5⟩ := e2_5
  obtain rfl := Go.Mach.flatS_nil g2_6
  obtain ⟨a3, rfl, rfl, rfl, w3⟩ := open_int Try.underlying23 (hval 3 23 v3 rfl rfl) h3
  obtain ⟨a4, rfl, rfl, rfl, w4⟩ := open_int Try.underlying3 (hval 4 3 v4 rfl rfl) h4
  clear hA0 hval0
  refine (walk t0 t1 w2_0 w2_1 w2_2 w2_3 w2_4 w2_5 w3 w4).mono fun e W' ⟨he, bel⟩ => ?_
  subst he
  exact ⟨_, rfl, _, _, _, [], _, [], hW', trodAll_mk1 (shut_bool Try.underlying4 _), (trodAll_cons_mk (Below.trod laidOut (by kernel_rfl) (of_decide_eq_true (by kernel_rfl)) k0 bel lt0) (trodAll_cons_mk (Below.trod laidOut (by kernel_rfl) (of_decide_eq_true (by kernel_rfl)) k1 bel lt1) (trodAll_cons_mk (Below.trod laidOut (by kernel_rfl) (of_decide_eq_true (by kernel_rfl)) k2 bel lt2) (trodAll_cons_mk (shut_int Try.underlying23 w3) (trodAll_cons_mk (shut_int Try.underlying3 w4) trodAll_mk0))))), rfl, bel.frame _, fun h => by cases h⟩

theorem over : Rows.optimAllRow.holds Try.pinned (OpenSpec.ofChange Rows.optimAllSpec) :=
  OpenClaim.holds_of_wide 14 Try.f14 rfl rfl rfl rfl rfl rfl rfl ⟨rfl, rfl, rfl, rfl, rfl⟩ rfl rfl rfl rfl rfl (by kernel_rfl) Try.func14 (by kernel_rfl)
    (of_decide_eq_true (by kernel_rfl)) (by unfold Func.isWrapper; first | (rw [if_pos (by decide +kernel)]; kernel_rfl) | (rw [if_neg (by decide +kernel)]; exact ⟨rfl, rfl⟩))
    (fun os started H enc _ => lifted os started H enc)

theorem proved : Rows.OptimAllSaid := over
#print axioms proved
end Go.Proofs.Ytlbapaelkdpjcaa.optimAll
