/- The statement TensorTexts: for every input that the row speaks of, the Go function returns true, and each argument reads afterwards as it read before. No condition beyond the row's own. -/
import Derived.Test.YtejbkafligpmbaaDoorRows
import Derived.Test.YtejbkafligpmbaaDoorT2
import Derived.Test.YtejbkafligpmbaaDoorVFlat
import Derived.Test.YtejbkafligpmbaaDoorCards
import Derived.Test.YtejbkafligpmbaaDoorTie
import Derived.Test.YtejbkafligpmbaaDoorLaid
import Derived.Deep.DeepHandedRow
import Derived.Deep.DeepWitnessRowRef
import Derived.Lib.LaidIn
import Derived.SevenTiedAt
import Derived.WalkKit
import Derived.ProofKit
import Derived.OpenShut
import Derived.ShutString
import Derived.ChangeOld
import Derived.Below
namespace Go.Proofs.YtejbkafligpmbaaDoor.tensorTexts
open Go.ChangeShapes Go.WideShapes Go.ChangeAt Go.RowKit
set_option linter.unusedVariables false
set_option maxRecDepth 100000

theorem walk {w : World} {a0_0 : Option Addr} {l0_0 c0_0 : Nat} {z0_0 : List Int} {n0_1 : Int} {a0_2 : Option Addr} {l0_2 c0_2 : Nat} {z0_2 : List Int} {a1_0 : Option Addr} {l1_0 c1_0 : Nat} {z1_0 : List Int} {n1_1 : Int} {a1_2 : Option Addr} {l1_2 c1_2 : Nat} {z1_2 : List Int} (t0_0 : Go.Mach.RowH .i64 w a0_0 l0_0 c0_0 z0_0) (w0_1 : (Lit.int .i64 n0_1).wf = true) (t0_2 : Go.Mach.RowH .i8 w a0_2 l0_2 c0_2 z0_2) (t1_0 : Go.Mach.RowH .i64 w a1_0 l1_0 c1_0 z1_0) (w1_1 : (Lit.int .i64 n1_1).wf = true) (t1_2 : Go.Mach.RowH .i8 w a1_2 l1_2 c1_2 z1_2) (hT : Lib.TabIs Tryd.prog w "internal/strconv.uint64pow10" .u64 Lib.pow10Tab) :
    Calls Tryd.prog 3 #[.agg #[.slice a0_0 l0_0 c0_0, .int .i64 n0_1, .slice a0_2 l0_2 c0_2], .agg #[.slice a1_0 l1_0 c1_0, .int .i64 n1_1, .slice a1_2 l1_2 c1_2]] w fun e w' => e = .returned (.bool true) ∧ Below w.heap.size w w' :=
  Go.Mach.law_calls (azz := [.agg #[.slice a0_0 l0_0 c0_0, .int .i64 n0_1, .slice a0_2 l0_2 c0_2], .agg #[.slice a1_0 l1_0 c1_0, .int .i64 n1_1, .slice a1_2 l1_2 c1_2]]) (Go.Mach.extF_sound hT (Nat.le_refl _)) (by kernel_rfl)
    (pedagoguelaw8_TensorTexts_snd ((z0_0.take l0_0, (n0_1, (z0_2.take l0_2, ()))), ((z1_0.take l1_0, (n1_1, (z1_2.take l1_2, ()))), ())) _ (texts_law (fun x hx => i8_rng ((Go.Mach.row_RSl t0_2).2.2.2.1 x hx)) (fun x hx => i8_rng ((Go.Mach.row_RSl t1_2).2.2.2.1 x hx)) (Go.Mach.law_true rfl)))
    (.cons ⟨_, rfl, (.cons (Go.Mach.row_RL t0_0) (.cons (⟨rfl, rfl⟩) (.cons (Go.Mach.row_RL t0_2) .nil)))⟩ (.cons ⟨_, rfl, (.cons (Go.Mach.row_RL t1_0) (.cons (⟨rfl, rfl⟩) (.cons (Go.Mach.row_RL t1_2) .nil)))⟩ .nil))
    (by
      intro x hx
      simp only [List.mem_cons, List.not_mem_nil, or_false] at hx
      rcases hx with rfl | rfl
      · refine Go.Mach.agg_VRel (azz := [.slice a0_0 l0_0 c0_0, .int .i64 n0_1, .slice a0_2 l0_2 c0_2]) ?_
        intro y hy
        simp only [List.mem_cons, List.not_mem_nil, or_false] at hy
        rcases hy with rfl | rfl | rfl
        · exact (Go.Mach.row_RSl t0_0).2.2.1
        · exact .int _ _
        · exact (Go.Mach.row_RSl t0_2).2.2.1
      · refine Go.Mach.agg_VRel (azz := [.slice a1_0 l1_0 c1_0, .int .i64 n1_1, .slice a1_2 l1_2 c1_2]) ?_
        intro y hy
        simp only [List.mem_cons, List.not_mem_nil, or_false] at hy
        rcases hy with rfl | rfl | rfl
        · exact (Go.Mach.row_RSl t1_0).2.2.1
        · exact .int _ _
        · exact (Go.Mach.row_RSl t1_2).2.2.1)

theorem own : ownKnob Tryd.prog.godebug = none := by kernel_rfl
theorem laidOut : laidOutB Tryd.prog = true := by kernel_rfl

noncomputable def laidWorld (os : Os) : World :=
  let w0 := World.holding Tryd.prog os ⟨#[], #[], []⟩
  let put (h : Array Obj) (g : Nat) (cs : Array Value) : Array Obj := h.modify g fun
    | .cells _ t frozen => .cells cs t frozen
    | o => o
  let h0 := put w0.heap 2 (Go.Mach.tabCells Rows.laid_math_bits_deBruijn32tab)
  let h1 := put h0 3 (Go.Mach.tabCells Rows.laid_math_bits_deBruijn64tab)
  let h2 := put h1 0 (Go.Mach.tabCells Rows.laid_internal_strconv_uint64pow10)
  { w0 with heap := h2 }
theorem laid_met (os : Os) (azz : Array Value) : laidMet Tryd.prog Rows.tensorTextsRow.laid ((laidWorld os).forCall (fun _ _ => 0) ⟨#[], azz, []⟩).memory :=
  (LaidIn.of_run [2, 3, 0] 8 (by kernel_rfl) (by kernel_rfl) (by kernel_rfl) (by kernel_rfl)).met
theorem witness_row (os : Os) {H : Type} (enc : TypeId × Value → H) : (OpenSpec.ofChange Rows.tensorTextsSpec).preRow enc Tryd.prog Tryd.f3 Rows.tensorTextsRow.domain false Rows.tensorTextsRow.laid ((laidWorld os).forCall (fun _ _ => 0) ⟨#[], #[.agg #[.slice none 0 0, .int .i64 0, .slice none 0 0], .agg #[.slice none 0 0, .int .i64 0, .slice none 0 0]], []⟩).memory #[.agg #[.slice none 0 0, .int .i64 0, .slice none 0 0], .agg #[.slice none 0 0, .int .i64 0, .slice none 0 0]] := by
  have hw : (DataW.whole enc Tryd.prog ((laidWorld os).forCall (fun _ _ => 0) ⟨#[], #[.agg #[.slice none 0 0, .int .i64 0, .slice none 0 0], .agg #[.slice none 0 0, .int .i64 0, .slice none 0 0]], []⟩).memory Tryd.f3.params.toList (OpenSpec.ofChange Rows.tensorTextsSpec).vars false (#[.agg #[.slice none 0 0, .int .i64 0, .slice none 0 0], .agg #[.slice none 0 0, .int .i64 0, .slice none 0 0]] : Array Value).toList 8).isSome = true := by kernel_rfl
  obtain ⟨x, hx⟩ := Option.isSome_iff_exists.1 hw
  exact OpenSpec.preRow_of_cond 8 hx rfl (fun k hk => by cases hk) (by kernel_rfl) (laid_met os _)

theorem lifted (os : Os) (started : os.Started) (H : Type) (enc : TypeId × Value → H) :
    ReturnsInHanded {} Tryd.checked os 3 .any ((OpenSpec.ofChange Rows.tensorTextsSpec).preRow enc Tryd.prog Tryd.f3 Rows.tensorTextsRow.domain false Rows.tensorTextsRow.laid) (Rows.tensorTextsSpec.post enc Tryd.prog Tryd.f3 false true false false) := by
  refine returnsInHanded_of_row (C := Tryd.checked) (s := OpenSpec.ofChange Rows.tensorTextsSpec) (F := fun _ _ _ => 0) own started (by kernel_rfl) Tryd.func3
    (witness_row_atRef (enc := enc) (C := Tryd.checked) false (laidWorld os) #[.agg #[.slice none 0 0, .int .i64 0, .slice none 0 0], .agg #[.slice none 0 0, .int .i64 0, .slice none 0 0]] rfl (by kernel_rfl) (by kernel_rfl) (by kernel_rfl) (witness_row os enc)) ?_
  intro W base args ds gs before hval0 hW hcnd _ hsz hL _ _
  have hT : Lib.TabIs Tryd.prog W "internal/strconv.uint64pow10" .u64 Lib.pow10Tab :=
    Go.Mach.laid_tab (l := Rows.tensorTextsRow.laid) (g := 0) (t := 88) (e := 33) (n := 20) (by kernel_rfl) (by kernel_rfl) (by kernel_rfl) (by kernel_rfl) (by kernel_rfl) (by kernel_rfl) hL
      (by rw [show ("internal/strconv.uint64pow10", Lib.tabData .u64 Lib.pow10Tab) = ("internal/strconv.uint64pow10", (Rows.laid_internal_strconv_uint64pow10 : DataW Unit)) by kernel_rfl]; exact .tail _ (.tail _ (.head _)))
  have hval : ∀ (j : Nat) t v, Tryd.f3.params[j]? = some t → args[j]? = some v → Value.okWide Tryd.prog W .any base t v := hval0
  have hW' := hW
  obtain ⟨p, q, hA0, hV, rfl, hfz, hnd⟩ := hW
  have hA : DataW.TrodAll enc Tryd.prog W 0 (fun _ => true) true Tryd.f3.params.toList args.toList ds p := hA0
  rw [Tryd.params3] at hA hval
  obtain ⟨v0, vs0, d0, ds0, p0, q0, hargs, rfl, rfl, h0, r0⟩ := trodAll_cons hA
  obtain ⟨v1, vs1, d1, ds1, p1, q1, rfl, rfl, rfl, h1, r1⟩ := trodAll_cons r0
  obtain ⟨rfl, rfl, rfl⟩ := trodAll_nil r1
  obtain rfl : args = #[v0, v1] := by cases args; simp_all
  obtain ⟨rfl, rfl⟩ := trodVars_none hV
  have k0 := h0
  have lt0 : ∀ x ∈ p0, x.block < W.heap.size := by obtain ⟨m, hm⟩ := k0; exact DataW.trod_lt m _ _ _ hm
  obtain ⟨cs0, rfl, g0_0⟩ := Go.Mach.open_flat (n := 8) (ks := [(22, .row .i64), (3, .int .i64), (23, .row .i8)]) Tryd.underlying25 (by kernel_rfl) (by kernel_rfl) (by kernel_rfl) (hval 0 25 v0 rfl rfl) h0
  obtain ⟨v0_0, vs0_0, rfl, e0_0, g0_1⟩ := Go.Mach.flat_cons g0_0
  obtain ⟨a0_0, l0_0, c0_0, z0_0, rfl, t0_0⟩ := e0_0
  obtain ⟨v0_1, vs0_1, rfl, e0_1, g0_2⟩ := Go.Mach.flat_cons g0_1
  obtain ⟨n0_1, rfl, w0_1⟩ := e0_1
  obtain ⟨v0_2, vs0_2, rfl, e0_2, g0_3⟩ := Go.Mach.flat_cons g0_2
  obtain ⟨a0_2, l0_2, c0_2, z0_2, rfl, t0_2⟩ := e0_2
  obtain rfl := Go.Mach.flat_nil g0_3
  have k1 := h1
  have lt1 : ∀ x ∈ p1, x.block < W.heap.size := by obtain ⟨m, hm⟩ := k1; exact DataW.trod_lt m _ _ _ hm
  obtain ⟨cs1, rfl, g1_0⟩ := Go.Mach.open_flat (n := 8) (ks := [(22, .row .i64), (3, .int .i64), (23, .row .i8)]) Tryd.underlying25 (by kernel_rfl) (by kernel_rfl) (by kernel_rfl) (hval 1 25 v1 rfl rfl) h1
  obtain ⟨v1_0, vs1_0, rfl, e1_0, g1_1⟩ := Go.Mach.flat_cons g1_0
  obtain ⟨a1_0, l1_0, c1_0, z1_0, rfl, t1_0⟩ := e1_0
  obtain ⟨v1_1, vs1_1, rfl, e1_1, g1_2⟩ := Go.Mach.flat_cons g1_1
  obtain ⟨n1_1, rfl, w1_1⟩ := e1_1
  obtain ⟨v1_2, vs1_2, rfl, e1_2, g1_3⟩ := Go.Mach.flat_cons g1_2
  obtain ⟨a1_2, l1_2, c1_2, z1_2, rfl, t1_2⟩ := e1_2
  obtain rfl := Go.Mach.flat_nil g1_3
  clear hA0 hval0
  refine (walk t0_0 w0_1 t0_2 t1_0 w1_1 t1_2 hT).mono fun e W' ⟨he, bel⟩ => ?_
  subst he
  exact ⟨_, rfl, _, _, _, [], _, [], hW', trodAll_mk1 (shut_bool Tryd.underlying4 _), (trodAll_cons_mk (Below.trod laidOut (by kernel_rfl) (of_decide_eq_true (by kernel_rfl)) k0 bel lt0) (trodAll_cons_mk (Below.trod laidOut (by kernel_rfl) (of_decide_eq_true (by kernel_rfl)) k1 bel lt1) trodAll_mk0)), rfl, bel.frame _, fun h => by cases h⟩

theorem over : Rows.tensorTextsRow.holds Tryd.pinned (OpenSpec.ofChange Rows.tensorTextsSpec) :=
  OpenClaim.holds_of_wide 3 Tryd.f3 rfl rfl rfl rfl rfl rfl rfl ⟨rfl, rfl, rfl, rfl, rfl⟩ rfl rfl rfl rfl rfl (by kernel_rfl) Tryd.func3 (by kernel_rfl)
    (of_decide_eq_true (by kernel_rfl)) (by unfold Func.isWrapper; first | (rw [if_pos (by decide +kernel)]; kernel_rfl) | (rw [if_neg (by decide +kernel)]; exact ⟨rfl, rfl⟩))
    (fun os started H enc _ => by rw [OpenClaim.pre_eq_preRow]; exact lifted os started H enc)

theorem noStand : (Tryd.f3.params.toList.all fun t => !Tryd.prog.wantsStandIn t) = true := by kernel_rfl
theorem proved : Rows.TensorTextsCardSaid :=
  Claim7.holds_tied_plain_at .later [] [.data, .data, .data] true (true, "1614c8e6954fafe9ab6e2ea07352ce8f894995b5d25fe54cba415f1518f52f1c") false
    over (fun _ h => by cases h) (by kernel_rfl) (fun _ h => by cases h) tensorTexts_row_tie rfl ⟨rfl, rfl⟩ (by kernel_rfl) rfl
    (fun f fn hf hfn => by
      obtain rfl : f = 3 := Option.some.inj ((show Tryd.prog.funcNamed Rows.tensorTextsRow.func = some 3 by kernel_rfl).symm.trans hf) |>.symm
      obtain rfl : fn = Tryd.f3 := (Option.some.inj (Tryd.func3.symm.trans hfn)).symm
      exact ⟨by kernel_rfl, fun j t ht => by
        have := List.all_eq_true.1 noStand t (List.mem_of_getElem? (by rw [Array.getElem?_toList]; exact ht))
        show Tryd.prog.wantsStandIn t = false
        simpa using this⟩)
    (by kernel_rfl)
#print axioms proved
end Go.Proofs.YtejbkafligpmbaaDoor.tensorTexts
