/- The statement OptimSame: for every input that the row speaks of, the Go function returns true, and each argument reads afterwards as it read before. No condition beyond the row's own. -/
import Derived.Test.YtlbapaelkdpjcaaRows
import Derived.Test.YtlbapaelkdpjcaaO3
import Derived.Test.YtlbapaelkdpjcaaVFlat
import Derived.WalkKit
import Derived.ProofKit
import Derived.OpenShut
import Derived.ShutString
import Derived.ChangeOld
import Derived.Below
namespace Go.Proofs.Ytlbapaelkdpjcaa.optimSame
open Go.ChangeShapes Go.WideShapes Go.ChangeAt Go.RowKit
set_option linter.unusedVariables false
set_option maxRecDepth 100000

theorem walk {w : World} {a0_0 : Option Addr} {l0_0 c0_0 : Nat} {z0_0 : List Int} {n0_1 : Int} {a0_2 : Option Addr} {l0_2 c0_2 : Nat} {z0_2 : List Int} {a0_3 : Option Addr} {l0_3 c0_3 : Nat} {z0_3 : List Int} {a0_4 : Option Addr} {l0_4 c0_4 : Nat} {z0_4 : List Int} {n0_5 : Int} {a0_6 : Option Addr} {l0_6 c0_6 : Nat} {z0_6 : List Int} {a1_0 : Option Addr} {l1_0 c1_0 : Nat} {z1_0 : List Int} {n2_0 : Int} {n2_1 : Int} {n2_2 : Int} {n2_3 : Int} {n2_4 : Int} {n2_5 : Int} {n3_0 : Int} {n4_0 : Int} {n5_0 : Int} {n6_0 : Int} (t0_0 : Go.Mach.RowH .i64 w a0_0 l0_0 c0_0 z0_0) (w0_1 : (Lit.int .i64 n0_1).wf = true) (t0_2 : Go.Mach.RowH .i8 w a0_2 l0_2 c0_2 z0_2) (t0_3 : Go.Mach.RowH .i32 w a0_3 l0_3 c0_3 z0_3) (t0_4 : Go.Mach.RowH .i64 w a0_4 l0_4 c0_4 z0_4) (w0_5 : (Lit.int .i64 n0_5).wf = true) (t0_6 : Go.Mach.RowH .i8 w a0_6 l0_6 c0_6 z0_6) (t1_0 : Go.Mach.RowH .i8 w a1_0 l1_0 c1_0 z1_0) (w2_0 : (Lit.int .i64 n2_0).wf = true) (w2_1 : (Lit.int .i64 n2_1).wf = true) (w2_2 : (Lit.int .i64 n2_2).wf = true) (w2_3 : (Lit.int .i64 n2_3).wf = true) (w2_4 : (Lit.int .i64 n2_4).wf = true) (w2_5 : (Lit.int .i64 n2_5).wf = true) (w3_0 : (Lit.int .u64 n3_0).wf = true) (w4_0 : (Lit.int .u64 n4_0).wf = true) (w5_0 : (Lit.int .i64 n5_0).wf = true) (w6_0 : (Lit.int .i64 n6_0).wf = true) :
    Calls Try.prog 13 #[.agg #[.slice a0_0 l0_0 c0_0, .int .i64 n0_1, .slice a0_2 l0_2 c0_2, .slice a0_3 l0_3 c0_3, .slice a0_4 l0_4 c0_4, .int .i64 n0_5, .slice a0_6 l0_6 c0_6], .slice a1_0 l1_0 c1_0, .agg #[.int .i64 n2_0, .int .i64 n2_1, .int .i64 n2_2, .int .i64 n2_3, .int .i64 n2_4, .int .i64 n2_5], .int .u64 n3_0, .int .u64 n4_0, .int .i64 n5_0, .int .i64 n6_0] w fun e w' => e = .returned (.bool true) ∧ Below w.heap.size w w' :=
  Go.Mach.law_calls (azz := [.agg #[.slice a0_0 l0_0 c0_0, .int .i64 n0_1, .slice a0_2 l0_2 c0_2, .slice a0_3 l0_3 c0_3, .slice a0_4 l0_4 c0_4, .int .i64 n0_5, .slice a0_6 l0_6 c0_6], .slice a1_0 l1_0 c1_0, .agg #[.int .i64 n2_0, .int .i64 n2_1, .int .i64 n2_2, .int .i64 n2_3, .int .i64 n2_4, .int .i64 n2_5], .int .u64 n3_0, .int .u64 n4_0, .int .i64 n5_0, .int .i64 n6_0]) (by kernel_rfl)
    (pedagoguelaw21_OptimSame_snd ((z0_0.take l0_0, (n0_1, (z0_2.take l0_2, (z0_3.take l0_3, (z0_4.take l0_4, (n0_5, (z0_6.take l0_6, ()))))))), (z1_0.take l1_0, ((n2_0, (n2_1, (n2_2, (n2_3, (n2_4, (n2_5, ())))))), (n3_0, (n4_0, (n5_0, (n6_0, ()))))))) _ (same_law (fun x hx => i8_rng ((Go.Mach.row_RSl t1_0).2.2.2.1 x hx)) (Go.Mach.law_true rfl)))
    (.cons ⟨_, rfl, (.cons (Go.Mach.row_RL t0_0) (.cons (⟨rfl, rfl⟩) (.cons (Go.Mach.row_RL t0_2) (.cons (Go.Mach.row_RL t0_3) (.cons (Go.Mach.row_RL t0_4) (.cons (⟨rfl, rfl⟩) (.cons (Go.Mach.row_RL t0_6) .nil)))))))⟩ (.cons (Go.Mach.row_R2 t1_0) (.cons ⟨_, rfl, (.cons (⟨rfl, rfl⟩) (.cons (⟨rfl, rfl⟩) (.cons (⟨rfl, rfl⟩) (.cons (⟨rfl, rfl⟩) (.cons (⟨rfl, rfl⟩) (.cons (⟨rfl, rfl⟩) .nil))))))⟩ (.cons ⟨rfl, rfl⟩ (.cons ⟨rfl, rfl⟩ (.cons ⟨rfl, rfl⟩ (.cons ⟨rfl, rfl⟩ .nil)))))))
    (by
      intro x hx
      simp only [List.mem_cons, List.not_mem_nil, or_false] at hx
      rcases hx with rfl | rfl | rfl | rfl | rfl | rfl | rfl
      · refine Go.Mach.agg_VRel (azz := [.slice a0_0 l0_0 c0_0, .int .i64 n0_1, .slice a0_2 l0_2 c0_2, .slice a0_3 l0_3 c0_3, .slice a0_4 l0_4 c0_4, .int .i64 n0_5, .slice a0_6 l0_6 c0_6]) ?_
        intro y hy
        simp only [List.mem_cons, List.not_mem_nil, or_false] at hy
        rcases hy with rfl | rfl | rfl | rfl | rfl | rfl | rfl
        · exact (Go.Mach.row_RSl t0_0).2.2.1
        · exact .int _ _
        · exact (Go.Mach.row_RSl t0_2).2.2.1
        · exact (Go.Mach.row_RSl t0_3).2.2.1
        · exact (Go.Mach.row_RSl t0_4).2.2.1
        · exact .int _ _
        · exact (Go.Mach.row_RSl t0_6).2.2.1
      · exact (Go.Mach.row_RSl t1_0).2.2.1
      · refine Go.Mach.agg_VRel (azz := [.int .i64 n2_0, .int .i64 n2_1, .int .i64 n2_2, .int .i64 n2_3, .int .i64 n2_4, .int .i64 n2_5]) ?_
        intro y hy
        simp only [List.mem_cons, List.not_mem_nil, or_false] at hy
        rcases hy with rfl | rfl | rfl | rfl | rfl | rfl
        · exact .int _ _
        · exact .int _ _
        · exact .int _ _
        · exact .int _ _
        · exact .int _ _
        · exact .int _ _
      · exact .int _ _
      · exact .int _ _
      · exact .int _ _
      · exact .int _ _)

theorem own : ownKnob Try.prog.godebug = none := by kernel_rfl
theorem laidOut : laidOutB Try.prog = true := by kernel_rfl

theorem lifted (os : Os) (started : os.Started) (H : Type) (enc : TypeId × Value → H) :
    ReturnsInHanded {} Try.checked os 13 .any (Rows.optimSameSpec.pre6 enc Try.prog Try.f13 Rows.optimSameRow.domain false) (Rows.optimSameSpec.post enc Try.prog Try.f13 false true false false) := by
  refine returnsInHanded_of_change (C := Try.checked) own started (by kernel_rfl) Try.func13
    (ChangeSpec.witness6 (enc := enc) (C := Try.checked) false ⟨#[], #[.agg #[.slice none 0 0, .int .i64 0, .slice none 0 0, .slice none 0 0, .slice none 0 0, .int .i64 0, .slice none 0 0], .slice none 0 0, .agg #[.int .i64 0, .int .i64 0, .int .i64 0, .int .i64 0, .int .i64 0, .int .i64 0], .int .u64 0, .int .u64 0, .int .i64 0, .int .i64 0], []⟩ 8 (by kernel_rfl) (by kernel_rfl) (by kernel_rfl) (by kernel_rfl)) ?_
  intro W base args ds gs before hval0 hW hcnd _
  have hval : ∀ (j : Nat) t v, Try.f13.params[j]? = some t → args[j]? = some v → Value.okWide Try.prog W .any base t v := hval0
  have hW' := hW
  obtain ⟨p, q, hA0, hV, rfl, hfz, hnd⟩ := hW
  have hA : DataW.TrodAll enc Try.prog W 0 (fun _ => true) true Try.f13.params.toList args.toList ds p := hA0
  rw [Try.params13] at hA hval
  obtain ⟨v0, vs0, d0, ds0, p0, q0, hargs, rfl, rfl, h0, r0⟩ := trodAll_cons hA
  obtain ⟨v1, vs1, d1, ds1, p1, q1, rfl, rfl, rfl, h1, r1⟩ := trodAll_cons r0
  obtain ⟨v2, vs2, d2, ds2, p2, q2, rfl, rfl, rfl, h2, r2⟩ := trodAll_cons r1
  obtain ⟨v3, vs3, d3, ds3, p3, q3, rfl, rfl, rfl, h3, r3⟩ := trodAll_cons r2
  obtain ⟨v4, vs4, d4, ds4, p4, q4, rfl, rfl, rfl, h4, r4⟩ := trodAll_cons r3
  obtain ⟨v5, vs5, d5, ds5, p5, q5, rfl, rfl, rfl, h5, r5⟩ := trodAll_cons r4
  obtain ⟨v6, vs6, d6, ds6, p6, q6, rfl, rfl, rfl, h6, r6⟩ := trodAll_cons r5
  obtain ⟨rfl, rfl, rfl⟩ := trodAll_nil r6
  obtain rfl : args = #[v0, v1, v2, v3, v4, v5, v6] := by cases args; simp_all
  obtain ⟨rfl, rfl⟩ := trodVars_none hV
  have k0 := h0
  have lt0 : ∀ x ∈ p0, x.block < W.heap.size := by obtain ⟨m, hm⟩ := k0; exact DataW.trod_lt m _ _ _ hm
  obtain ⟨cs0, rfl, g0_0⟩ := Go.Mach.open_flat (n := 8) (ks := [(24, .row .i64), (3, .int .i64), (22, .row .i8), (29, .row .i32), (24, .row .i64), (3, .int .i64), (22, .row .i8)]) Try.underlying57 (by kernel_rfl) (by kernel_rfl) (by kernel_rfl) (hval 0 57 v0 rfl rfl) h0
  obtain ⟨v0_0, vs0_0, rfl, e0_0, g0_1⟩ := Go.Mach.flat_cons g0_0
  obtain ⟨a0_0, l0_0, c0_0, z0_0, rfl, t0_0⟩ := e0_0
  obtain ⟨v0_1, vs0_1, rfl, e0_1, g0_2⟩ := Go.Mach.flat_cons g0_1
  obtain ⟨n0_1, rfl, w0_1⟩ := e0_1
  obtain ⟨v0_2, vs0_2, rfl, e0_2, g0_3⟩ := Go.Mach.flat_cons g0_2
  obtain ⟨a0_2, l0_2, c0_2, z0_2, rfl, t0_2⟩ := e0_2
  obtain ⟨v0_3, vs0_3, rfl, e0_3, g0_4⟩ := Go.Mach.flat_cons g0_3
  obtain ⟨a0_3, l0_3, c0_3, z0_3, rfl, t0_3⟩ := e0_3
  obtain ⟨v0_4, vs0_4, rfl, e0_4, g0_5⟩ := Go.Mach.flat_cons g0_4
  obtain ⟨a0_4, l0_4, c0_4, z0_4, rfl, t0_4⟩ := e0_4
  obtain ⟨v0_5, vs0_5, rfl, e0_5, g0_6⟩ := Go.Mach.flat_cons g0_5
  obtain ⟨n0_5, rfl, w0_5⟩ := e0_5
  obtain ⟨v0_6, vs0_6, rfl, e0_6, g0_7⟩ := Go.Mach.flat_cons g0_6
  obtain ⟨a0_6, l0_6, c0_6, z0_6, rfl, t0_6⟩ := e0_6
  obtain rfl := Go.Mach.flat_nil g0_7
  have k1 := h1
  have lt1 : ∀ x ∈ p1, x.block < W.heap.size := by obtain ⟨m, hm⟩ := k1; exact DataW.trod_lt m _ _ _ hm
  obtain ⟨a1, l1, c1, z1, rfl, t1⟩ := Go.Mach.open_arg Try.underlying22 Try.underlying36 (by kernel_rfl) (hval 1 22 v1 rfl rfl) h1
  have k2 := h2
  have lt2 : ∀ x ∈ p2, x.block < W.heap.size := by obtain ⟨m, hm⟩ := k2; exact DataW.trod_lt m _ _ _ hm
  obtain ⟨cs2, rfl, g2_0⟩ := Go.Mach.open_flat (n := 8) (ks := [(3, .int .i64), (3, .int .i64), (3, .int .i64), (3, .int .i64), (3, .int .i64), (3, .int .i64)]) Try.underlying61 (by kernel_rfl) (by kernel_rfl) (by kernel_rfl) (hval 2 61 v2 rfl rfl) h2
  obtain ⟨v2_0, vs2_0, rfl, e2_0, g2_1⟩ := Go.Mach.flat_cons g2_0
  obtain ⟨n2_0, rfl, w2_0⟩ := e2_0
  obtain ⟨v2_1, vs2_1, rfl, e2_1, g2_2⟩ := Go.Mach.flat_cons g2_1
  obtain ⟨n2_1, rfl, w2_1⟩ := e2_1
  obtain ⟨v2_2, vs2_2, rfl, e2_2, g2_3⟩ := Go.Mach.flat_cons g2_2
  obtain ⟨n2_2, rfl, w2_2⟩ := e2_2
  obtain ⟨v2_3, vs2_3, rfl, e2_3, g2_4⟩ := Go.Mach.flat_cons g2_3
  obtain ⟨n2_3, rfl, w2_3⟩ := e2_3
  obtain ⟨v2_4, vs2_4, rfl, e2_4, g2_5⟩ := Go.Mach.flat_cons g2_4
  obtain ⟨n2_4, rfl, w2_4⟩ := e2_4
  obtain ⟨v2_5, vs2_5, rfl, e2_5, g2_6⟩ := Go.Mach.flat_cons g2_5
  obtain ⟨n2_5, rfl, w2_5⟩ := e2_5
  obtain rfl := Go.Mach.flat_nil g2_6
  obtain ⟨a3, rfl, rfl, rfl, w3⟩ := open_int Try.underlying23 (hval 3 23 v3 rfl rfl) h3
  obtain ⟨a4, rfl, rfl, rfl, w4⟩ := open_int Try.underlying23 (hval 4 23 v4 rfl rfl) h4
  obtain ⟨a5, rfl, rfl, rfl, w5⟩ := open_int Try.underlying3 (hval 5 3 v5 rfl rfl) h5
  obtain ⟨a6, rfl, rfl, rfl, w6⟩ := open_int Try.underlying3 (hval 6 3 v6 rfl rfl) h6
  clear hA0 hval0
  refine (walk t0_0 w0_1 t0_2 t0_3 t0_4 w0_5 t0_6 t1 w2_0 w2_1 w2_2 w2_3 w2_4 w2_5 w3 w4 w5 w6).mono fun e W' ⟨he, bel⟩ => ?_
  subst he
  exact ⟨_, rfl, _, _, _, [], _, [], hW', trodAll_mk1 (shut_bool Try.underlying4 _), (trodAll_cons_mk (Below.trod laidOut (by kernel_rfl) (of_decide_eq_true (by kernel_rfl)) k0 bel lt0) (trodAll_cons_mk (Below.trod laidOut (by kernel_rfl) (of_decide_eq_true (by kernel_rfl)) k1 bel lt1) (trodAll_cons_mk (Below.trod laidOut (by kernel_rfl) (of_decide_eq_true (by kernel_rfl)) k2 bel lt2) (trodAll_cons_mk (shut_int Try.underlying23 w3) (trodAll_cons_mk (shut_int Try.underlying23 w4) (trodAll_cons_mk (shut_int Try.underlying3 w5) (trodAll_cons_mk (shut_int Try.underlying3 w6) trodAll_mk0))))))), rfl, bel.frame _, fun h => by cases h⟩

theorem over : Rows.optimSameRow.holds Try.pinned (OpenSpec.ofChange Rows.optimSameSpec) :=
  OpenClaim.holds_of_wide 13 Try.f13 rfl rfl rfl rfl rfl rfl rfl ⟨rfl, rfl, rfl, rfl, rfl⟩ rfl rfl rfl rfl rfl (by kernel_rfl) Try.func13 (by kernel_rfl)
    (of_decide_eq_true (by kernel_rfl)) (by unfold Func.isWrapper; first | (rw [if_pos (by decide +kernel)]; kernel_rfl) | (rw [if_neg (by decide +kernel)]; exact ⟨rfl, rfl⟩))
    (fun os started H enc _ => lifted os started H enc)

theorem proved : Rows.OptimSameSaid := over
#print axioms proved
end Go.Proofs.Ytlbapaelkdpjcaa.optimSame
