/- The statement ForwardRefuses: for every input that the row speaks of, the Go function returns true, and each argument reads afterwards as it read before. No condition beyond the row's own. -/
import Derived.Test.YtcfpfefadlnmcaaGreatRows
import Derived.Test.YtcfpfefadlnmcaaGreatZ37
import Derived.Test.YtcfpfefadlnmcaaGreatYVTold
import Derived.SizedLaws
import Derived.WalkKit
import Derived.ProofKit
import Derived.OpenShut
import Derived.ShutString
import Derived.ChangeOld
import Derived.Below
namespace Go.Proofs.YtcfpfefadlnmcaaGreat.forwardRefuses
open Go.ChangeShapes Go.WideShapes Go.ChangeAt Go.RowKit
set_option linter.unusedVariables false
set_option maxRecDepth 100000
theorem aPd {w : World} {cs0 : List Value} {z0 : Go.Mach.Ty.den (.pair (.pair (.int .i64) (.pair (.int .i64) (.int .i64))) (.slc (.pair (.int .i64) (.pair (.int .i64) (.pair (.int .i64) (.pair (.int .i64) (.pair (.int .i64) (.pair (.int .i64) .bool))))))))} {u1 : Value} {z1 : List (Go.Mach.Ty.den (.pair (.pair (.slc (.int .i64)) (.pair (.int .i64) (.slc (.int .i8)))) (.pair (.slc (.int .i32)) (.pair (.slc (.int .i64)) (.pair (.int .i64) (.slc (.int .i8)))))))} {cs2 : List Value} {z2 : Go.Mach.Ty.den (.pair (.slc (.int .i64)) (.pair (.int .i64) (.slc (.int .i8))))} {z3 : Int} {z4 : Int} (t0 : Go.Mach.ToldA w (.pair (.pair (.int .i64) (.pair (.int .i64) (.int .i64))) (.slc (.pair (.int .i64) (.pair (.int .i64) (.pair (.int .i64) (.pair (.int .i64) (.pair (.int .i64) (.pair (.int .i64) .bool)))))))) z0 cs0) (t1 : Go.Mach.Told w (.pair (.pair (.slc (.int .i64)) (.pair (.int .i64) (.slc (.int .i8)))) (.pair (.slc (.int .i32)) (.pair (.slc (.int .i64)) (.pair (.int .i64) (.slc (.int .i8)))))) z1 u1) (t2 : Go.Mach.ToldA w (.pair (.slc (.int .i64)) (.pair (.int .i64) (.slc (.int .i8)))) z2 cs2) (w3 : (Lit.int .u64 z3).wf = true) (w4 : (Lit.int .i64 z4).wf = true) :
  Calls Tryz.prog 3 #[.agg cs0.toArray, u1, .agg cs2.toArray, .int .u64 z3, .int .i64 z4] w fun e w' => e = .returned (.bool true) /\ Below w.heap.size w w' :=
 Go.Mach.law_calls (avs := [.agg cs0.toArray, u1, .agg cs2.toArray, .int .u64 z3, .int .i64 z4]) Go.Mach.extF_sound (by kernel_rfl)
  (uB ((z0.1.1, (z0.1.2.1, (z0.1.2.2, (z0.2, ())))), (z1, ((z2.1, (z2.2.1, (z2.2.2, ()))), (z3, (z4, ()))))) _ (aHk (aL5 t1.fits) (aCV t2.fits) (Go.Mach.law_true rfl)))
  (.cons (⟨_, rfl, t0.rl⟩) (.cons (t1.rl) (.cons (⟨_, rfl, t2.rl⟩) (.cons (⟨rfl, rfl⟩) (.cons (⟨rfl, rfl⟩) .nil)))))
  (by
   intro x hx
   simp only [List.mem_cons, List.not_mem_nil, or_false] at hx
   rcases hx with rfl | rfl | rfl | rfl | rfl
   ·exact t0.rel
   ·exact t1.rel
   ·exact t2.rel
   ·exact .int _ _
   ·exact .int _ _)
theorem own : ownKnob Tryz.prog.godebug = none := by kernel_rfl
theorem aFr : laidOutB Tryz.prog = true := by kernel_rfl
theorem aOS (os : Os) (started : os.Started) (H : Type) (enc : TypeId × Value -> H) :
  ReturnsInHanded {} Tryz.checked os 3 .any (Rows.forwardRefusesSpec.pre6 enc Tryz.prog Tryz.f3 Rows.forwardRefusesRow.domain false) (Rows.forwardRefusesSpec.post enc Tryz.prog Tryz.f3 false true false false) := by
 refine returnsInHanded_of_change_sized (C := Tryz.checked) own started (by kernel_rfl) Tryz.func3
  (ChangeSpec.witness6 (enc := enc) (C := Tryz.checked) false ⟨#[], #[.agg #[.int .i64 0, .int .i64 0, .int .i64 0, .slice none 0 0], .slice none 0 0, .agg #[.slice none 0 0, .int .i64 0, .slice none 0 0], .int .u64 0, .int .i64 0], []⟩ 8 (by kernel_rfl) (by kernel_rfl) (by kernel_rfl) (by kernel_rfl)) ?_
 intro W base args ds gs before hval0 hW hcnd hsz _
 have hval : ∀ (j : Nat) t v, Tryz.f3.params[j]? = some t -> args[j]? = some v -> Value.okWide Tryz.prog W .any base t v := hval0
 have hW' := hW
 obtain ⟨p, q, hA0, hV, rfl, hfz, hnd⟩ := hW
 have hA : DataW.TrodAll enc Tryz.prog W 0 (fun _ => true) true Tryz.f3.params.toList args.toList ds p := hA0
 rw [Tryz.params3] at hA hval
 obtain ⟨v0, vs0, d0, ds0, p0, q0, hargs, rfl, rfl, h0, r0⟩ := trodAll_cons hA
 obtain ⟨v1, vs1, d1, ds1, p1, q1, rfl, rfl, rfl, h1, r1⟩ := trodAll_cons r0
 obtain ⟨v2, vs2, d2, ds2, p2, q2, rfl, rfl, rfl, h2, r2⟩ := trodAll_cons r1
 obtain ⟨v3, vs3, d3, ds3, p3, q3, rfl, rfl, rfl, h3, r3⟩ := trodAll_cons r2
 obtain ⟨v4, vs4, d4, ds4, p4, q4, rfl, rfl, rfl, h4, r4⟩ := trodAll_cons r3
 obtain ⟨rfl, rfl, rfl⟩ := trodAll_nil r4
 obtain rfl : args = #[v0, v1, v2, v3, v4] := by cases args; simp_all
 obtain ⟨rfl, rfl⟩ := trodVars_none hV
 have k0 := h0
 have lt0 : ∀ x ∈ p0, x.block < W.heap.size := by obtain ⟨m, hm⟩ := k0; exact DataW.trod_lt m _ _ _ hm
 obtain ⟨z0, cs0, rfl, t0⟩ := Go.Mach.open_any (j := 0) (P := Tryz.prog) (n := 12) (T := (.pair (.pair (.int .i64) (.pair (.int .i64) (.int .i64))) (.slc (.pair (.int .i64) (.pair (.int .i64) (.pair (.int .i64) (.pair (.int .i64) (.pair (.int .i64) (.pair (.int .i64) .bool))))))))) (cts := [3, 3, 3, 23]) Tryz.underlying25 (by kernel_rfl) (by kernel_rfl) (by kernel_rfl) (hval 0 25 v0 rfl rfl) h0 hsz (by kernel_rfl) rfl
 have k1 := h1
 have lt1 : ∀ x ∈ p1, x.block < W.heap.size := by obtain ⟨m, hm⟩ := k1; exact DataW.trod_lt m _ _ _ hm
 obtain ⟨z1, t1⟩ := Go.Mach.open_told (j := 1) (P := Tryz.prog) (n := 12) (E := (.pair (.pair (.slc (.int .i64)) (.pair (.int .i64) (.slc (.int .i8)))) (.pair (.slc (.int .i32)) (.pair (.slc (.int .i64)) (.pair (.int .i64) (.slc (.int .i8))))))) Tryz.underlying26 (by kernel_rfl) (hval 1 26 v1 rfl rfl) h1 hsz (by kernel_rfl) rfl
 have k2 := h2
 have lt2 : ∀ x ∈ p2, x.block < W.heap.size := by obtain ⟨m, hm⟩ := k2; exact DataW.trod_lt m _ _ _ hm
 obtain ⟨z2, cs2, rfl, t2⟩ := Go.Mach.open_any (j := 2) (P := Tryz.prog) (n := 12) (T := (.pair (.slc (.int .i64)) (.pair (.int .i64) (.slc (.int .i8))))) (cts := [27, 3, 28]) Tryz.underlying30 (by kernel_rfl) (by kernel_rfl) (by kernel_rfl) (hval 2 30 v2 rfl rfl) h2 hsz (by kernel_rfl) rfl
 obtain ⟨z3, rfl, rfl, rfl, w3⟩ := open_int Tryz.underlying31 (hval 3 31 v3 rfl rfl) h3
 obtain ⟨z4, rfl, rfl, rfl, w4⟩ := open_int Tryz.underlying3 (hval 4 3 v4 rfl rfl) h4
 clear hA0 hval0
 refine (aPd t0 t1 t2 w3 w4).mono fun e W' ⟨he, bel⟩ => ?_
 subst he
 exact ⟨_, rfl, _, _, _, [], _, [], hW', trodAll_mk1 (shut_bool Tryz.underlying4 _), (trodAll_cons_mk (Below.trod aFr (by kernel_rfl) (of_decide_eq_true (by kernel_rfl)) k0 bel lt0) (trodAll_cons_mk (Below.trod aFr (by kernel_rfl) (of_decide_eq_true (by kernel_rfl)) k1 bel lt1) (trodAll_cons_mk (Below.trod aFr (by kernel_rfl) (of_decide_eq_true (by kernel_rfl)) k2 bel lt2) (trodAll_cons_mk (shut_int Tryz.underlying31 w3) (trodAll_cons_mk (shut_int Tryz.underlying3 w4) trodAll_mk0))))), rfl, bel.frame _, fun h => by cases h⟩
theorem over : Rows.forwardRefusesRow.holds Tryz.pinned (OpenSpec.ofChange Rows.forwardRefusesSpec) :=
 OpenClaim.holds_of_wide 3 Tryz.f3 rfl rfl rfl rfl rfl rfl rfl ⟨rfl, rfl, rfl, rfl, rfl⟩ rfl rfl rfl rfl rfl (by kernel_rfl) Tryz.func3 (by kernel_rfl)
  (of_decide_eq_true (by kernel_rfl)) (by unfold Func.isWrapper; first | (rw [if_pos (by decide +kernel)]; kernel_rfl) | (rw [if_neg (by decide +kernel)]; exact ⟨rfl, rfl⟩))
  (fun os started H enc _ => aOS os started H enc)
theorem proved : Rows.ForwardRefusesSaid := over
#print axioms proved
end Go.Proofs.YtcfpfefadlnmcaaGreat.forwardRefuses
