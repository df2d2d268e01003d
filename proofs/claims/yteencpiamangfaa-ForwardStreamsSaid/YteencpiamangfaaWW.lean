/- The net that every program must know to go through: awake. Laws; no condition. -/
import Derived.Test.YteencpiamangfaaWP
import Derived.Test.YteencpiamangfaaWE
import Derived.Test.YteencpiamangfaaWC
import Derived.Test.YteencpiamangfaaFS
namespace Go.Proofs.Yteencpiamangfaa
open Go.Mach Go.RowKit
set_option maxRecDepth 100000
set_option linter.unusedVariables false
set_option linter.unusedSimpArgs false

theorem fwdF_awake : fwdF ([1, 2], 0, [1, 2]) ([1, 2], 0, [3, 4]) ([1], 0, [5]) = (([1, 1], 0, [16]), 0) := by decide +kernel
theorem smallF_awake {s t : Int} : smallF ([1, 1], 0, [16]) 8 s t = (([1, 1], 0, [16]), 0) := by
  have h1 : ((!(mayAccF ([1, 1], 0, [16])) || (decide ((8 : Int) < 2))) || (decide ((8 : Int) < 8))) = false := by decide +kernel
  have h2 : shiftF ([1, 1], 0, [16]) 8 = 0 := by decide +kernel
  unfold smallF
  rw [h1, h2, if_neg (by simp), if_neg (by decide +kernel)]
  unfold dataF
  show (([1, 1], _, [cellF 8 s t 0 [16] 0]), 0) = _
  unfold cellF
  rw [chF_zero]
  decide +kernel

theorem awake_v {Q : Bool → Prop} (h : Q true) : pedagoguelaw18_awake Q := by
  refine ⟨⟨⟨?_⟩⟩⟩
  unfold forward_Run_t
  refine fin_v ?_
  unfold jn
  dsimp only
  rw [if_neg (by decide)]
  refine mayP_v (by decide) ?_
  have hP : mayPF ((1, (1, 2)), [(6, (0, (0, (0, (0, (0, false)))))), (1, (1, (0, (0, (0, (0, false))))))]) [((([] : List Int), (0, ([] : List Int))), (([] : List Int), (([] : List Int), (0, ([] : List Int))))), (([1, 2], (0, [3, 4])), ([0, 0], ([1], (0, [5]))))] = true := by decide +kernel
  rw [hP, if_neg (by simp)]
  refine mayT_v ?_
  have hx : mayF ([1, 1, 1, 2], (0, [1, 2])) = true := by decide +kernel
  rw [hx]
  simp only [Bool.not_true, Bool.false_eq_true, if_false]
  rw [if_neg (by decide)]
  refine ⟨by decide, same_v (by decide) ?_⟩
  rw [if_neg (by decide)]
  refine clone_v (by decide) (clone8_v (by decide) ⟨?_⟩)
  intro X hX
  refine hX _ ?_
  unfold forward_Run_n0_B
  dsimp only
  rw [if_pos (by decide)]
  refine ⟨by decide, by decide, str_v ⟨⟨?_⟩⟩⟩
  unfold forward_sums_t
  refine ⟨by decide, ?_⟩
  rw [if_neg (by decide), if_neg (by decide), if_neg (by decide), if_neg (by decide)]
  dsimp only
  rw [if_neg (by decide), if_neg (by decide)]
  refine ⟨by decide, ?_⟩
  rw [if_neg (by decide), if_neg (by decide)]
  have hf : flatF ([1, 1, 1, 2], (0, [1, 2])) = (([1, 2], 0, [1, 2]), 0) := by decide +kernel
  have hT : ([([1, 1, 1, 2], (0 : Int), [1, 2])] : List T3).getD (IntKind.i64.wrap ((([([1, 1, 1, 2], (0 : Int), [1, 2])] : List T3).length : Int) - 1)).toNat ([], (0, [])) = ([1, 1, 1, 2], 0, [1, 2]) := by decide +kernel
  simp only [hT]
  refine flat_v ⟨?_⟩
  unfold forward_gives_n0_t
  rw [hf]
  dsimp only
  rw [if_neg (by decide)]
  refine ⟨by decide, by decide, hX _ ?_⟩
  -- the second layer
  unfold forward_Run_n0_B
  dsimp only
  rw [if_pos (by decide)]
  refine ⟨by decide, by decide, str_v ⟨⟨?_⟩⟩⟩
  unfold forward_sums_t
  refine ⟨by decide, ?_⟩
  rw [if_pos (by decide)]
  have hT2 : ([([1, 1, 1, 2], (0 : Int), [1, 2])] ++ [([1, 2], (0 : Int), [1, 2])] : List T3).getD (IntKind.i64.wrap ((([([1, 1, 1, 2], (0 : Int), [1, 2])] ++ [([1, 2], (0 : Int), [1, 2])] : List T3).length : Int) - 1)).toNat ([], (0, [])) = ([1, 2], 0, [1, 2]) := by decide +kernel
  simp only [hT2]
  have hP2 : ([(([], 0, []), [], [], 0, []), (([1, 2], 0, [3, 4]), [0, 0], [1], 0, [5])] : List Prm).getD (IntKind.i64.wrap (0 + 1)).toNat Prm0 = (([1, 2], 0, [3, 4]), [0, 0], [1], 0, [5]) := by decide +kernel
  simp only [hP2]
  refine fwd_v (by intro y hy; simp at hy; omega) (by intro y hy; simp at hy; omega) (by intro y hy; simp at hy; omega) ?_
  rw [fwdF_awake]
  dsimp only
  rw [if_neg (by decide), if_pos (by decide)]
  refine small_v ?_
  rw [smallF_awake]
  dsimp only
  rw [if_neg (by decide)]
  refine ⟨by decide, by decide, hX _ ?_⟩
  unfold forward_Run_n0_B
  dsimp only
  rw [if_neg (by decide), if_pos (by decide)]
  refine ⟨by decide, ?_⟩
  rw [if_pos (by decide)]
  refine ⟨by decide, by decide, ?_⟩
  rw [if_pos (by decide)]
  refine str_v ?_
  rw [show strF 2 3 4 = 2100 by decide]
  exact h

theorem mod_rng {a n : Int} (hn : 0 < n) (h : n ≤ 1000) : 0 ≤ IntKind.i64.wrap ((IntKind.u64.wrap a).tmod n) ∧ IntKind.i64.wrap ((IntKind.u64.wrap a).tmod n) < n := by
  have h0 : 0 ≤ IntKind.u64.wrap a := by
    simp only [IntKind.wrap, IntKind.bits, IntKind.signed]
    simp
    omega
  have h1 : (IntKind.u64.wrap a).tmod n = (IntKind.u64.wrap a) % n := Int.tmod_eq_emod_of_nonneg h0
  have h2 := Int.emod_nonneg (IntKind.u64.wrap a) (show n ≠ 0 by omega)
  have h3 := Int.emod_lt_of_pos (IntKind.u64.wrap a) hn
  rw [h1, wrap_i64 _ (by omega) (by omega)]
  exact ⟨h2, h3⟩
theorem strF_at {a b c : Int} (h1 : 0 ≤ a ∧ a < 1000) (h2 : 0 ≤ b ∧ b < 13) (h3 : 0 ≤ c ∧ c < 16) : strF a b c = a * 1024 + b * 16 + c := by
  unfold strF inP
  rw [if_pos]
  simp only [Bool.and_eq_true, decide_eq_true_eq]
  omega
theorem streams_law {a b k l x y : Int} {Q : Bool → Prop} (h : Q true) : pedagoguelaw18_ForwardStreams a b k l x y Q := by
  refine ⟨?_⟩
  unfold pedagoguelaw18_ForwardStreams_t
  have ra := mod_rng (a := a) (n := 1000) (by omega) (by omega)
  have rb := mod_rng (a := b) (n := 1000) (by omega) (by omega)
  have rk := mod_rng (a := k) (n := 13) (by omega) (by omega)
  have rl := mod_rng (a := l) (n := 13) (by omega) (by omega)
  have rx := mod_rng (a := x) (n := 16) (by omega) (by omega)
  have ry := mod_rng (a := y) (n := 16) (by omega) (by omega)
  generalize IntKind.i64.wrap ((IntKind.u64.wrap a).tmod 1000) = a' at *
  generalize IntKind.i64.wrap ((IntKind.u64.wrap b).tmod 1000) = b' at *
  generalize IntKind.i64.wrap ((IntKind.u64.wrap k).tmod 13) = k' at *
  generalize IntKind.i64.wrap ((IntKind.u64.wrap l).tmod 13) = l' at *
  generalize IntKind.i64.wrap ((IntKind.u64.wrap x).tmod 16) = x' at *
  generalize IntKind.i64.wrap ((IntKind.u64.wrap y).tmod 16) = y' at *
  refine ⟨by decide, by decide, by decide, by decide, by decide, by decide, str_v (str_v ?_)⟩
  unfold jn
  dsimp only
  rw [strF_at ra rk rx, strF_at rb rl ry]
  have e : ((a' * 1024 + k' * 16 + x' == b' * 1024 + l' * 16 + y') == (((a' == b') && (k' == l')) && (x' == y'))) = true := by
    rw [beq_iff_eq, Bool.eq_iff_iff]
    simp only [beq_iff_eq, Bool.and_eq_true]
    omega
  rw [if_pos e]
  refine str_v ?_
  have e2 : strF (-1) k' x' = 0 := by
    unfold strF inP
    rw [if_neg]
    simp
  rw [e2, if_pos (by rfl)]
  exact awake_v h

end Go.Proofs.Yteencpiamangfaa
