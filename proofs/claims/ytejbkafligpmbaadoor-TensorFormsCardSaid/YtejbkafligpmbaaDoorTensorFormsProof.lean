/- The statement TensorForms: for every input that the row speaks of, the Go function returns true, and each argument reads afterwards as it read before. No condition beyond the row's own. -/
import Derived.Test.YtejbkafligpmbaaDoorRows
import Derived.Test.YtejbkafligpmbaaDoorT3
import Derived.Test.YtejbkafligpmbaaDoorVFlat
import Derived.SizedLaws
import Derived.Test.YtejbkafligpmbaaDoorCards
import Derived.Test.YtejbkafligpmbaaDoorTie
import Derived.Test.YtejbkafligpmbaaDoorLaid
import Derived.Deep.DeepHandedRow
import Derived.Deep.DeepWitnessRowRef
import Derived.Lib.LaidIn
import Derived.SevenTiedAt
import Derived.WalkKit
import Derived.ProofKit
import Derived.OpenShut
import Derived.ShutString
import Derived.ChangeOld
import Derived.Below
namespace Go.Proofs.YtejbkafligpmbaaDoor.tensorForms
open Go.ChangeShapes Go.WideShapes Go.ChangeAt Go.RowKit
set_option linter.unusedVariables false
set_option maxRecDepth 100000

theorem walk {w : World} {a0_0 : Option Addr} {l0_0 c0_0 : Nat} {z0_0 : List Int} {n0_1 : Int} {a0_2 : Option Addr} {l0_2 c0_2 : Nat} {z0_2 : List Int} {a1_0 : Option Addr} {l1_0 c1_0 : Nat} {z1_0 : List Int} {n1_1 : Int} {a1_2 : Option Addr} {l1_2 c1_2 : Nat} {z1_2 : List Int} {a2_0 : Option Addr} {l2_0 c2_0 : Nat} {z2_0 : List Int} {n2_1 : Int} {a2_2 : Option Addr} {l2_2 c2_2 : Nat} {z2_2 : List Int} {a3_0 : Option Addr} {l3_0 c3_0 : Nat} {z3_0 : List Int} {n3_1 : Int} {a3_2 : Option Addr} {l3_2 c3_2 : Nat} {z3_2 : List Int} {n4_0 : Int} {n5_0 : Int} {n6_0 : Int} {n7_0 : Int} (t0_0 : Go.Mach.RowH .i64 w a0_0 l0_0 c0_0 z0_0) (y0_0 : l0_0 * 8 ≤ reachBytes) (w0_1 : (Lit.int .i64 n0_1).wf = true) (t0_2 : Go.Mach.RowH .i8 w a0_2 l0_2 c0_2 z0_2) (y0_2 : l0_2 * 1 ≤ reachBytes) (t1_0 : Go.Mach.RowH .i64 w a1_0 l1_0 c1_0 z1_0) (y1_0 : l1_0 * 8 ≤ reachBytes) (w1_1 : (Lit.int .i64 n1_1).wf = true) (t1_2 : Go.Mach.RowH .i8 w a1_2 l1_2 c1_2 z1_2) (y1_2 : l1_2 * 1 ≤ reachBytes) (t2_0 : Go.Mach.RowH .i64 w a2_0 l2_0 c2_0 z2_0) (y2_0 : l2_0 * 8 ≤ reachBytes) (w2_1 : (Lit.int .i64 n2_1).wf = true) (t2_2 : Go.Mach.RowH .i32 w a2_2 l2_2 c2_2 z2_2) (y2_2 : l2_2 * 4 ≤ reachBytes) (t3_0 : Go.Mach.RowH .i64 w a3_0 l3_0 c3_0 z3_0) (y3_0 : l3_0 * 8 ≤ reachBytes) (w3_1 : (Lit.int .i64 n3_1).wf = true) (t3_2 : Go.Mach.RowH .i32 w a3_2 l3_2 c3_2 z3_2) (y3_2 : l3_2 * 4 ≤ reachBytes) (w4_0 : (Lit.int .i64 n4_0).wf = true) (w5_0 : (Lit.int .u64 n5_0).wf = true) (w6_0 : (Lit.int .u64 n6_0).wf = true) (w7_0 : (Lit.int .i64 n7_0).wf = true) (hT : Lib.TabIs Tryd.prog w "internal/strconv.uint64pow10" .u64 Lib.pow10Tab) :
    Calls Tryd.prog 4 #[.agg #[.slice a0_0 l0_0 c0_0, .int .i64 n0_1, .slice a0_2 l0_2 c0_2], .agg #[.slice a1_0 l1_0 c1_0, .int .i64 n1_1, .slice a1_2 l1_2 c1_2], .agg #[.slice a2_0 l2_0 c2_0, .int .i64 n2_1, .slice a2_2 l2_2 c2_2], .agg #[.slice a3_0 l3_0 c3_0, .int .i64 n3_1, .slice a3_2 l3_2 c3_2], .int .i64 n4_0, .int .u64 n5_0, .int .u64 n6_0, .int .i64 n7_0] w fun e w' => e = .returned (.bool true) ∧ Below w.heap.size w w' :=
  Go.Mach.law_calls (azz := [.agg #[.slice a0_0 l0_0 c0_0, .int .i64 n0_1, .slice a0_2 l0_2 c0_2], .agg #[.slice a1_0 l1_0 c1_0, .int .i64 n1_1, .slice a1_2 l1_2 c1_2], .agg #[.slice a2_0 l2_0 c2_0, .int .i64 n2_1, .slice a2_2 l2_2 c2_2], .agg #[.slice a3_0 l3_0 c3_0, .int .i64 n3_1, .slice a3_2 l3_2 c3_2], .int .i64 n4_0, .int .u64 n5_0, .int .u64 n6_0, .int .i64 n7_0]) (Go.Mach.extF_sound hT (Nat.le_refl _)) (by kernel_rfl)
    (pedagoguelaw8_TensorForms_snd ((z0_0.take l0_0, (n0_1, (z0_2.take l0_2, ()))), ((z1_0.take l1_0, (n1_1, (z1_2.take l1_2, ()))), ((z2_0.take l2_0, (n2_1, (z2_2.take l2_2, ()))), ((z3_0.take l3_0, (n3_1, (z3_2.take l3_2, ()))), (n4_0, (n5_0, (n6_0, (n7_0, ())))))))) _ (forms_law (fun x hx => i8_rng ((Go.Mach.row_RSl t0_2).2.2.2.1 x hx)) (Nat.le_trans (List.length_take_le _ _) (by have := y0_0; simp only [reachBytes] at this; omega)) (Nat.le_trans (List.length_take_le _ _) (by have := y2_0; simp only [reachBytes] at this; omega)) (Go.Mach.law_true rfl)))
    (.cons ⟨_, rfl, (.cons (Go.Mach.row_RL t0_0) (.cons (⟨rfl, rfl⟩) (.cons (Go.Mach.row_RL t0_2) .nil)))⟩ (.cons ⟨_, rfl, (.cons (Go.Mach.row_RL t1_0) (.cons (⟨rfl, rfl⟩) (.cons (Go.Mach.row_RL t1_2) .nil)))⟩ (.cons ⟨_, rfl, (.cons (Go.Mach.row_RL t2_0) (.cons (⟨rfl, rfl⟩) (.cons (Go.Mach.row_RL t2_2) .nil)))⟩ (.cons ⟨_, rfl, (.cons (Go.Mach.row_RL t3_0) (.cons (⟨rfl, rfl⟩) (.cons (Go.Mach.row_RL t3_2) .nil)))⟩ (.cons ⟨rfl, rfl⟩ (.cons ⟨rfl, rfl⟩ (.cons ⟨rfl, rfl⟩ (.cons ⟨rfl, rfl⟩ .nil))))))))
    (by
      intro x hx
      simp only [List.mem_cons, List.not_mem_nil, or_false] at hx
      rcases hx with rfl | rfl | rfl | rfl | rfl | rfl | rfl | rfl
      · refine Go.Mach.agg_VRel (azz := [.slice a0_0 l0_0 c0_0, .int .i64 n0_1, .slice a0_2 l0_2 c0_2]) ?_
        intro y hy
        simp only [List.mem_cons, List.not_mem_nil, or_false] at hy
        rcases hy with rfl | rfl | rfl
        · exact (Go.Mach.row_RSl t0_0).2.2.1
        · exact .int _ _
        · exact (Go.Mach.row_RSl t0_2).2.2.1
      · refine Go.Mach.agg_VRel (azz := [.slice a1_0 l1_0 c1_0, .int .i64 n1_1, .slice a1_2 l1_2 c1_2]) ?_
        intro y hy
        simp only [List.mem_cons, List.not_mem_nil, or_false] at hy
        rcases hy with rfl | rfl | rfl
        · exact (Go.Mach.row_RSl t1_0).2.2.1
        · exact .int _ _
        · exact (Go.Mach.row_RSl t1_2).2.2.1
      · refine Go.Mach.agg_VRel (azz := [.slice a2_0 l2_0 c2_0, .int .i64 n2_1, .slice a2_2 l2_2 c2_2]) ?_
        intro y hy
        simp only [List.mem_cons, List.not_mem_nil, or_false] at hy
        rcases hy with rfl | rfl | rfl
        · exact (Go.Mach.row_RSl t2_0).2.2.1
        · exact .int _ _
        · exact (Go.Mach.row_RSl t2_2).2.2.1
      · refine Go.Mach.agg_VRel (azz := [.slice a3_0 l3_0 c3_0, .int .i64 n3_1, .slice a3_2 l3_2 c3_2]) ?_
        intro y hy
        simp only [List.mem_cons, List.not_mem_nil, or_false] at hy
        rcases hy with rfl | rfl | rfl
        · exact (Go.Mach.row_RSl t3_0).2.2.1
        · exact .int _ _
        · exact (Go.Mach.row_RSl t3_2).2.2.1
      · exact .int _ _
      · exact .int _ _
      · exact .int _ _
      · exact .int _ _)

theorem own : ownKnob Tryd.prog.godebug = none := by kernel_rfl
theorem laidOut : laidOutB Tryd.prog = true := by kernel_rfl

noncomputable def laidWorld (os : Os) : World :=
  let w0 := World.holding Tryd.prog os ⟨#[], #[], []⟩
  let put (h : Array Obj) (g : Nat) (cs : Array Value) : Array Obj := h.modify g fun
    | .cells _ t frozen => .cells cs t frozen
    | o => o
  let h0 := put w0.heap 2 (Go.Mach.tabCells Rows.laid_math_bits_deBruijn32tab)
  let h1 := put h0 3 (Go.Mach.tabCells Rows.laid_math_bits_deBruijn64tab)
  let h2 := put h1 0 (Go.Mach.tabCells Rows.laid_internal_strconv_uint64pow10)
  { w0 with heap := h2 }
theorem laid_met (os : Os) (azz : Array Value) : laidMet Tryd.prog Rows.tensorFormsRow.laid ((laidWorld os).forCall (fun _ _ => 0) ⟨#[], azz, []⟩).memory :=
  (LaidIn.of_run [2, 3, 0] 8 (by kernel_rfl) (by kernel_rfl) (by kernel_rfl) (by kernel_rfl)).met
theorem witness_row (os : Os) {H : Type} (enc : TypeId × Value → H) : (OpenSpec.ofChange Rows.tensorFormsSpec).preRow enc Tryd.prog Tryd.f4 Rows.tensorFormsRow.domain false Rows.tensorFormsRow.laid ((laidWorld os).forCall (fun _ _ => 0) ⟨#[], #[.agg #[.slice none 0 0, .int .i64 0, .slice none 0 0], .agg #[.slice none 0 0, .int .i64 0, .slice none 0 0], .agg #[.slice none 0 0, .int .i64 0, .slice none 0 0], .agg #[.slice none 0 0, .int .i64 0, .slice none 0 0], .int .i64 0, .int .u64 0, .int .u64 0, .int .i64 0], []⟩).memory #[.agg #[.slice none 0 0, .int .i64 0, .slice none 0 0], .agg #[.slice none 0 0, .int .i64 0, .slice none 0 0], .agg #[.slice none 0 0, .int .i64 0, .slice none 0 0], .agg #[.slice none 0 0, .int .i64 0, .slice none 0 0], .int .i64 0, .int .u64 0, .int .u64 0, .int .i64 0] := by
  have hw : (DataW.whole enc Tryd.prog ((laidWorld os).forCall (fun _ _ => 0) ⟨#[], #[.agg #[.slice none 0 0, .int .i64 0, .slice none 0 0], .agg #[.slice none 0 0, .int .i64 0, .slice none 0 0], .agg #[.slice none 0 0, .int .i64 0, .slice none 0 0], .agg #[.slice none 0 0, .int .i64 0, .slice none 0 0], .int .i64 0, .int .u64 0, .int .u64 0, .int .i64 0], []⟩).memory Tryd.f4.params.toList (OpenSpec.ofChange Rows.tensorFormsSpec).vars false (#[.agg #[.slice none 0 0, .int .i64 0, .slice none 0 0], .agg #[.slice none 0 0, .int .i64 0, .slice none 0 0], .agg #[.slice none 0 0, .int .i64 0, .slice none 0 0], .agg #[.slice none 0 0, .int .i64 0, .slice none 0 0], .int .i64 0, .int .u64 0, .int .u64 0, .int .i64 0] : Array Value).toList 8).isSome = true := by kernel_rfl
  obtain ⟨x, hx⟩ := Option.isSome_iff_exists.1 hw
  exact OpenSpec.preRow_of_cond 8 hx rfl (fun k hk => by cases hk) (by kernel_rfl) (laid_met os _)

theorem lifted (os : Os) (started : os.Started) (H : Type) (enc : TypeId × Value → H) :
    ReturnsInHanded {} Tryd.checked os 4 .any ((OpenSpec.ofChange Rows.tensorFormsSpec).preRow enc Tryd.prog Tryd.f4 Rows.tensorFormsRow.domain false Rows.tensorFormsRow.laid) (Rows.tensorFormsSpec.post enc Tryd.prog Tryd.f4 false true false false) := by
  refine returnsInHanded_of_row (C := Tryd.checked) (s := OpenSpec.ofChange Rows.tensorFormsSpec) (F := fun _ _ _ => 0) own started (by kernel_rfl) Tryd.func4
    (witness_row_atRef (enc := enc) (C := Tryd.checked) false (laidWorld os) #[.agg #[.slice none 0 0, .int .i64 0, .slice none 0 0], .agg #[.slice none 0 0, .int .i64 0, .slice none 0 0], .agg #[.slice none 0 0, .int .i64 0, .slice none 0 0], .agg #[.slice none 0 0, .int .i64 0, .slice none 0 0], .int .i64 0, .int .u64 0, .int .u64 0, .int .i64 0] rfl (by kernel_rfl) (by kernel_rfl) (by kernel_rfl) (witness_row os enc)) ?_
  intro W base args ds gs before hval0 hW hcnd _ hsz hL _ _
  have hT : Lib.TabIs Tryd.prog W "internal/strconv.uint64pow10" .u64 Lib.pow10Tab :=
    Go.Mach.laid_tab (l := Rows.tensorFormsRow.laid) (g := 0) (t := 88) (e := 33) (n := 20) (by kernel_rfl) (by kernel_rfl) (by kernel_rfl) (by kernel_rfl) (by kernel_rfl) (by kernel_rfl) hL
      (by rw [show ("internal/strconv.uint64pow10", Lib.tabData .u64 Lib.pow10Tab) = ("internal/strconv.uint64pow10", (Rows.laid_internal_strconv_uint64pow10 : DataW Unit)) by kernel_rfl]; exact .tail _ (.tail _ (.head _)))
  have hval : ∀ (j : Nat) t v, Tryd.f4.params[j]? = some t → args[j]? = some v → Value.okWide Tryd.prog W .any base t v := hval0
  have hW' := hW
  obtain ⟨p, q, hA0, hV, rfl, hfz, hnd⟩ := hW
  have hA : DataW.TrodAll enc Tryd.prog W 0 (fun _ => true) true Tryd.f4.params.toList args.toList ds p := hA0
  rw [Tryd.params4] at hA hval
  obtain ⟨v0, vs0, d0, ds0, p0, q0, hargs, rfl, rfl, h0, r0⟩ := trodAll_cons hA
  obtain ⟨v1, vs1, d1, ds1, p1, q1, rfl, rfl, rfl, h1, r1⟩ := trodAll_cons r0
  obtain ⟨v2, vs2, d2, ds2, p2, q2, rfl, rfl, rfl, h2, r2⟩ := trodAll_cons r1
  obtain ⟨v3, vs3, d3, ds3, p3, q3, rfl, rfl, rfl, h3, r3⟩ := trodAll_cons r2
  obtain ⟨v4, vs4, d4, ds4, p4, q4, rfl, rfl, rfl, h4, r4⟩ := trodAll_cons r3
  obtain ⟨v5, vs5, d5, ds5, p5, q5, rfl, rfl, rfl, h5, r5⟩ := trodAll_cons r4
  obtain ⟨v6, vs6, d6, ds6, p6, q6, rfl, rfl, rfl, h6, r6⟩ := trodAll_cons r5
  obtain ⟨v7, vs7, d7, ds7, p7, q7, rfl, rfl, rfl, h7, r7⟩ := trodAll_cons r6
  obtain ⟨rfl, rfl, rfl⟩ := trodAll_nil r7
  obtain rfl : args = #[v0, v1, v2, v3, v4, v5, v6, v7] := by cases args; simp_all
  obtain ⟨rfl, rfl⟩ := trodVars_none hV
  have k0 := h0
  have lt0 : ∀ x ∈ p0, x.block < W.heap.size := by obtain ⟨m, hm⟩ := k0; exact DataW.trod_lt m _ _ _ hm
  obtain ⟨cs0, rfl, g0_0⟩ := Go.Mach.open_flatS (j := 0) (P := Tryd.prog) (n := 8) (ks := [(22, .row .i64), (3, .int .i64), (23, .row .i8)]) Tryd.underlying25 (by kernel_rfl) (by kernel_rfl) (by kernel_rfl) (hval 0 25 v0 rfl rfl) h0 hsz (by kernel_rfl) rfl
  obtain ⟨v0_0, vs0_0, rfl, e0_0, g0_1⟩ := Go.Mach.flatS_cons g0_0
  obtain ⟨⟨a0_0, l0_0, c0_0, z0_0, rfl, t0_0⟩, y0_0⟩ := e0_0
  have y0_0 := y0_0 _ _ _ _ rfl Tryd.underlying22
  rw [show Tryd.prog.bytesOf 3 = 8 by kernel_rfl] at y0_0
  obtain ⟨v0_1, vs0_1, rfl, e0_1, g0_2⟩ := Go.Mach.flatS_cons g0_1
  obtain ⟨⟨n0_1, rfl, w0_1⟩, y0_1⟩ := e0_1
  obtain ⟨v0_2, vs0_2, rfl, e0_2, g0_3⟩ := Go.Mach.flatS_cons g0_2
  obtain ⟨⟨a0_2, l0_2, c0_2, z0_2, rfl, t0_2⟩, y0_2⟩ := e0_2
  have y0_2 := y0_2 _ _ _ _ rfl Tryd.underlying23
  rw [show Tryd.prog.bytesOf 46 = 1 by kernel_rfl] at y0_2
  obtain rfl := Go.Mach.flatS_nil g0_3
  have k1 := h1
  have lt1 : ∀ x ∈ p1, x.block < W.heap.size := by obtain ⟨m, hm⟩ := k1; exact DataW.trod_lt m _ _ _ hm
  obtain ⟨cs1, rfl, g1_0⟩ := Go.Mach.open_flatS (j := 1) (P := Tryd.prog) (n := 8) (ks := [(22, .row .i64), (3, .int .i64), (23, .row .i8)]) Tryd.underlying25 (by kernel_rfl) (by kernel_rfl) (by kernel_rfl) (hval 1 25 v1 rfl rfl) h1 hsz (by kernel_rfl) rfl
  obtain ⟨v1_0, vs1_0, rfl, e1_0, g1_1⟩ := Go.Mach.flatS_cons g1_0
  obtain ⟨⟨a1_0, l1_0, c1_0, z1_0, rfl, t1_0⟩, y1_0⟩ := e1_0
  have y1_0 := y1_0 _ _ _ _ rfl Tryd.underlying22
  rw [show Tryd.prog.bytesOf 3 = 8 by kernel_rfl] at y1_0
  obtain ⟨v1_1, vs1_1, rfl, e1_1, g1_2⟩ := Go.Mach.flatS_cons g1_1
  obtain ⟨⟨n1_1, rfl, w1_1⟩, y1_1⟩ := e1_1
  obtain ⟨v1_2, vs1_2, rfl, e1_2, g1_3⟩ := Go.Mach.flatS_cons g1_2
  obtain ⟨⟨a1_2, l1_2, c1_2, z1_2, rfl, t1_2⟩, y1_2⟩ := e1_2
  have y1_2 := y1_2 _ _ _ _ rfl Tryd.underlying23
  rw [show Tryd.prog.bytesOf 46 = 1 by kernel_rfl] at y1_2
  obtain rfl := Go.Mach.flatS_nil g1_3
  have k2 := h2
  have lt2 : ∀ x ∈ p2, x.block < W.heap.size := by obtain ⟨m, hm⟩ := k2; exact DataW.trod_lt m _ _ _ hm
  obtain ⟨cs2, rfl, g2_0⟩ := Go.Mach.open_flatS (j := 2) (P := Tryd.prog) (n := 8) (ks := [(22, .row .i64), (3, .int .i64), (30, .row .i32)]) Tryd.underlying32 (by kernel_rfl) (by kernel_rfl) (by kernel_rfl) (hval 2 32 v2 rfl rfl) h2 hsz (by kernel_rfl) rfl
  obtain ⟨v2_0, vs2_0, rfl, e2_0, g2_1⟩ := Go.Mach.flatS_cons g2_0
  obtain ⟨⟨a2_0, l2_0, c2_0, z2_0, rfl, t2_0⟩, y2_0⟩ := e2_0
  have y2_0 := y2_0 _ _ _ _ rfl Tryd.underlying22
  rw [show Tryd.prog.bytesOf 3 = 8 by kernel_rfl] at y2_0
  obtain ⟨v2_1, vs2_1, rfl, e2_1, g2_2⟩ := Go.Mach.flatS_cons g2_1
  obtain ⟨⟨n2_1, rfl, w2_1⟩, y2_1⟩ := e2_1
  obtain ⟨v2_2, vs2_2, rfl, e2_2, g2_3⟩ := Go.Mach.flatS_cons g2_2
  obtain ⟨⟨a2_2, l2_2, c2_2, z2_2, rfl, t2_2⟩, y2_2⟩ := e2_2
  have y2_2 := y2_2 _ _ _ _ rfl Tryd.underlying30
  rw [show Tryd.prog.bytesOf 21 = 4 by kernel_rfl] at y2_2
  obtain rfl := Go.Mach.flatS_nil g2_3
  have k3 := h3
  have lt3 : ∀ x ∈ p3, x.block < W.heap.size := by obtain ⟨m, hm⟩ := k3; exact DataW.trod_lt m _ _ _ hm
  obtain ⟨cs3, rfl, g3_0⟩ := Go.Mach.open_flatS (j := 3) (P := Tryd.prog) (n := 8) (ks := [(22, .row .i64), (3, .int .i64), (30, .row .i32)]) Tryd.underlying32 (by kernel_rfl) (by kernel_rfl) (by kernel_rfl) (hval 3 32 v3 rfl rfl) h3 hsz (by kernel_rfl) rfl
  obtain ⟨v3_0, vs3_0, rfl, e3_0, g3_1⟩ := Go.Mach.flatS_cons g3_0
  obtain ⟨⟨a3_0, l3_0, c3_0, z3_0, rfl, t3_0⟩, y3_0⟩ := e3_0
  have y3_0 := y3_0 _ _ _ _ rfl Tryd.underlying22
  rw [show Tryd.prog.bytesOf 3 = 8 by kernel_rfl] at y3_0
  obtain ⟨v3_1, vs3_1, rfl, e3_1, g3_2⟩ := Go.Mach.flatS_cons g3_1
  obtain ⟨⟨n3_1, rfl, w3_1⟩, y3_1⟩ := e3_1
  obtain ⟨v3_2, vs3_2, rfl, e3_2, g3_3⟩ := Go.Mach.flatS_cons g3_2
  obtain ⟨⟨a3_2, l3_2, c3_2, z3_2, rfl, t3_2⟩, y3_2⟩ := e3_2
  have y3_2 := y3_2 _ _ _ _ rfl Tryd.underlying30
  rw [show Tryd.prog.bytesOf 21 = 4 by kernel_rfl] at y3_2
  obtain rfl := Go.Mach.flatS_nil g3_3
  obtain ⟨a4, rfl, rfl, rfl, w4⟩ := open_int Tryd.underlying3 (hval 4 3 v4 rfl rfl) h4
  obtain ⟨a5, rfl, rfl, rfl, w5⟩ := open_int Tryd.underlying33 (hval 5 33 v5 rfl rfl) h5
  obtain ⟨a6, rfl, rfl, rfl, w6⟩ := open_int Tryd.underlying33 (hval 6 33 v6 rfl rfl) h6
  obtain ⟨a7, rfl, rfl, rfl, w7⟩ := open_int Tryd.underlying3 (hval 7 3 v7 rfl rfl) h7
  clear hA0 hval0
  refine (walk t0_0 y0_0 w0_1 t0_2 y0_2 t1_0 y1_0 w1_1 t1_2 y1_2 t2_0 y2_0 w2_1 t2_2 y2_2 t3_0 y3_0 w3_1 t3_2 y3_2 w4 w5 w6 w7 hT).mono fun e W' ⟨he, bel⟩ => ?_
  subst he
  exact ⟨_, rfl, _, _, _, [], _, [], hW', trodAll_mk1 (shut_bool Tryd.underlying4 _), (trodAll_cons_mk (Below.trod laidOut (by kernel_rfl) (of_decide_eq_true (by kernel_rfl)) k0 bel lt0) (trodAll_cons_mk (Below.trod laidOut (by kernel_rfl) (of_decide_eq_true (by kernel_rfl)) k1 bel lt1) (trodAll_cons_mk (Below.trod laidOut (by kernel_rfl) (of_decide_eq_true (by kernel_rfl)) k2 bel lt2) (trodAll_cons_mk (Below.trod laidOut (by kernel_rfl) (of_decide_eq_true (by kernel_rfl)) k3 bel lt3) (trodAll_cons_mk (shut_int Tryd.underlying3 w4) (trodAll_cons_mk (shut_int Tryd.underlying33 w5) (trodAll_cons_mk (shut_int Tryd.underlying33 w6) (trodAll_cons_mk (shut_int Tryd.underlying3 w7) trodAll_mk0)))))))), rfl, bel.frame _, fun h => by cases h⟩

theorem over : Rows.tensorFormsRow.holds Tryd.pinned (OpenSpec.ofChange Rows.tensorFormsSpec) :=
  OpenClaim.holds_of_wide 4 Tryd.f4 rfl rfl rfl rfl rfl rfl rfl ⟨rfl, rfl, rfl, rfl, rfl⟩ rfl rfl rfl rfl rfl (by kernel_rfl) Tryd.func4 (by kernel_rfl)
    (of_decide_eq_true (by kernel_rfl)) (by unfold Func.isWrapper; first | (rw [if_pos (by decide +kernel)]; kernel_rfl) | (rw [if_neg (by decide +kernel)]; exact ⟨rfl, rfl⟩))
    (fun os started H enc _ => by rw [OpenClaim.pre_eq_preRow]; exact lifted os started H enc)

theorem noStand : (Tryd.f4.params.toList.all fun t => !Tryd.prog.wantsStandIn t) = true := by kernel_rfl
theorem proved : Rows.TensorFormsCardSaid :=
  Claim7.holds_tied_plain_at .later [] [.data, .data, .data] true (true, "1614c8e6954fafe9ab6e2ea07352ce8f894995b5d25fe54cba415f1518f52f1c") false
    over (fun _ h => by cases h) (by kernel_rfl) (fun _ h => by cases h) tensorForms_row_tie rfl ⟨rfl, rfl⟩ (by kernel_rfl) rfl
    (fun f fn hf hfn => by
      obtain rfl : f = 4 := Option.some.inj ((show Tryd.prog.funcNamed Rows.tensorFormsRow.func = some 4 by kernel_rfl).symm.trans hf) |>.symm
      obtain rfl : fn = Tryd.f4 := (Option.some.inj (Tryd.func4.symm.trans hfn)).symm
      exact ⟨by kernel_rfl, fun j t ht => by
        have := List.all_eq_true.1 noStand t (List.mem_of_getElem? (by rw [Array.getElem?_toList]; exact ht))
        show Tryd.prog.wantsStandIn t = false
        simpa using this⟩)
    (by kernel_rfl)
#print axioms proved
end Go.Proofs.YtejbkafligpmbaaDoor.tensorForms
