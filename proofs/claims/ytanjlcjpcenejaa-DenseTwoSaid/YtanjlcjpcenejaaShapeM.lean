/- The machine runs the functions of shape, round, and slices over numbers. No condition beyond those typed. -/
import Derived.Test.YtanjlcjpcenejaaTy
import Derived.Test.YtanjlcjpcenejaaGo
import Derived.Test.YtanjlcjpcenejaaPlain
namespace Go.Proofs.Ytanjlcjpcenejaa
open Go.Mach
set_option maxRecDepth 100000
set_option linter.unusedSimpArgs false
set_option linter.unusedVariables false
theorem c_exp (fl : Nat) (e m : Int) (hm : 0 ≤ m ∧ m ≤ 1000) (H : AHeap) (R : Value → AHeap → Prop) (h : R (.bool (decide (0 - m ≤ e) && decide (e ≤ m))) H) : WCall Try.prog fl 39 #[.int .i64 e, .int .i64 m] H R := by
  refine W_call Try.func39 rfl (by kernel_rfl) (Nat.le_of_ble_eq_true rfl) ?_
  refine W_forget [(0, .int .i64 e), (1, .int .i64 m)] ⟨by kernel_rfl, by kernel_rfl, trivial⟩ fun u1 => ?_
  refine W_seq ?_
  refine W_reg (List.replicate 1 true) [] (.inr ⟨rfl, by kernel_rfl⟩) ?_
  refine D_pure (v := .bool false) (by kernel_rfl) (by kernel_rfl) ?_
  refine D_nil ⟨by kernel_rfl, ?_⟩
  refine W_forget [(0, .int .i64 e), (1, .int .i64 m)] ⟨by kernel_rfl, by kernel_rfl, trivial⟩ fun u2 => ?_
  refine W_seq ?_
  refine W_cut (List.replicate 10 true) [] (.inr ⟨rfl, by kernel_rfl⟩) [(4, .bool (decide (0 - m ≤ e) && decide (e ≤ m)))] H ?_ (fun t3 hk4 => ?_)
  case refine_1 =>
    refine D_pure (v := .int .i64 e) (by kernel_rfl) (by kernel_rfl) ?_
    refine D_pure (v := .int .i64 m) (by kernel_rfl) (by kernel_rfl) ?_
    refine D_opw (v := .int .i64 (0 - m)) (v' := .int .i64 (IntKind.i64.wrap (0 - m))) (by kernel_rfl) (by kernel_rfl) (wv (wrap_i64 _ (by omega) (by omega))) ?_
    refine D_pure (v := .bool (decide (0 - m ≤ e))) (by kernel_rfl) (by kernel_rfl) ?_
    refine D_pure (v := .bool (decide (0 - m ≤ e))) (by kernel_rfl) (by kernel_rfl) ?_
    generalize hb5 : (decide (0 - m ≤ e) : Bool) = b6
    cases b6
    case false =>
      try simp only [Bool.and_eq_true, Bool.or_eq_true, Bool.and_eq_false_iff, Bool.or_eq_false_iff, decide_eq_true_eq, decide_eq_false_iff_not, beq_iff_eq, beq_eq_false_iff_ne, bne_iff_ne, bne_eq_false_iff_eq, Bool.not_eq_true', Bool.not_eq_false', ne_eq] at hb5
      refine D_not (by kernel_rfl) ?_
      refine D_not (by kernel_rfl) ?_
      refine D_not (by kernel_rfl) ?_
      refine D_pure (v := .bool false) (by kernel_rfl) (by kernel_rfl) ?_
      refine D_pure (v := .bool false) (by kernel_rfl) (by kernel_rfl) ?_
      exact D_nil ⟨by kernel_rfl, ⟨by kernel_rfl, trivial⟩, rfl⟩
    case true =>
      try simp only [Bool.and_eq_true, Bool.or_eq_true, Bool.and_eq_false_iff, Bool.or_eq_false_iff, decide_eq_true_eq, decide_eq_false_iff_not, beq_iff_eq, beq_eq_false_iff_ne, bne_iff_ne, bne_eq_false_iff_eq, Bool.not_eq_true', Bool.not_eq_false', ne_eq] at hb5
      refine D_pure (v := .int .i64 e) (by kernel_rfl) (by kernel_rfl) ?_
      refine D_pure (v := .int .i64 m) (by kernel_rfl) (by kernel_rfl) ?_
      refine D_pure (v := .bool (decide (e ≤ m))) (by kernel_rfl) (by kernel_rfl) ?_
      refine D_pure (v := .bool (decide (e ≤ m))) (by kernel_rfl) (by kernel_rfl) ?_
      refine D_pure (v := .bool (decide (e ≤ m))) (by kernel_rfl) (by kernel_rfl) ?_
      exact D_nil ⟨by kernel_rfl, ⟨by kernel_rfl, trivial⟩, rfl⟩
  refine W_forget [(4, .bool (decide (0 - m ≤ e) && decide (e ≤ m)))] hk4 fun u7 => ?_
  refine W_ret ?_
  exact ⟨[.bool (decide (0 - m ≤ e) && decide (e ≤ m))], by kernel_rfl, h⟩
theorem Pl.sizeGo_step (l : List Int) (i : Nat) (n : Int) (h : i < l.length) : Pl.sizeGo (l.drop i) n = if l.getD i 0 < 1 ∨ 4096 < l.getD i 0 ∨ 8192 < n * l.getD i 0 then 0 else Pl.sizeGo (l.drop (i + 1)) (n * l.getD i 0) := by
  rw [List.drop_eq_getElem_cons h]
  simp only [Pl.sizeGo, List.getD_eq_getElem?_getD, List.getElem?_eq_getElem h, Option.getD_some]
theorem c_size (fl : Nat) (a : Option Addr) (c : Nat) (l : List Int) (H : AHeap) (hs : RI H .i64 a c l) (R : Value → AHeap → Prop) (h : R (.int .i64 (Pl.size l)) H) : WCall Try.prog fl 38 #[.slice a l.length c] H R := by
  have hlen := hs.len
  refine W_call Try.func38 rfl (by kernel_rfl) (Nat.le_of_ble_eq_true rfl) ?_
  refine W_forget [(0, .slice a l.length c)] ⟨by kernel_rfl, trivial⟩ fun u1 => ?_
  refine W_seq ?_
  refine W_reg (List.replicate 1 true) [] (.inr ⟨rfl, by kernel_rfl⟩) ?_
  refine D_pure (v := .int .i64 0) (by kernel_rfl) (by kernel_rfl) ?_
  refine D_nil ⟨by kernel_rfl, ?_⟩
  refine W_forget [(0, .slice a l.length c)] ⟨by kernel_rfl, trivial⟩ fun u2 => ?_
  refine W_seq ?_
  refine W_seq ?_
  refine W_cut (List.replicate 8 true) [] (.inr ⟨rfl, by kernel_rfl⟩) [(0, .slice a l.length c), (13, .bool (decide (((l.length : Nat) : Int) < 1) || decide (4 < ((l.length : Nat) : Int))))] H ?_ (fun t3 hk4 => ?_)
  case refine_1 =>
    refine D_pure (v := .slice a l.length c) (by kernel_rfl) (by kernel_rfl) ?_
    refine D_pure (v := .int .i64 ((l.length : Nat) : Int)) (by kernel_rfl) (by kernel_rfl) ?_
    refine D_pure (v := .bool (decide (((l.length : Nat) : Int) < 1))) (by kernel_rfl) (by kernel_rfl) ?_
    refine D_pure (v := .bool (decide (((l.length : Nat) : Int) < 1))) (by kernel_rfl) (by kernel_rfl) ?_
    generalize hb5 : (decide (((l.length : Nat) : Int) < 1) : Bool) = b6
    cases b6
    case false =>
      try simp only [Bool.and_eq_true, Bool.or_eq_true, Bool.and_eq_false_iff, Bool.or_eq_false_iff, decide_eq_true_eq, decide_eq_false_iff_not, beq_iff_eq, beq_eq_false_iff_ne, bne_iff_ne, bne_eq_false_iff_eq, Bool.not_eq_true', Bool.not_eq_false', ne_eq] at hb5
      refine D_pure (v := .slice a l.length c) (by kernel_rfl) (by kernel_rfl) ?_
      refine D_pure (v := .int .i64 ((l.length : Nat) : Int)) (by kernel_rfl) (by kernel_rfl) ?_
      refine D_pure (v := .bool (decide (4 < ((l.length : Nat) : Int)))) (by kernel_rfl) (by kernel_rfl) ?_
      refine D_pure (v := .bool (decide (4 < ((l.length : Nat) : Int)))) (by kernel_rfl) (by kernel_rfl) ?_
      exact D_nil ⟨by kernel_rfl, ⟨by kernel_rfl, by kernel_rfl, trivial⟩, rfl⟩
    case true =>
      try simp only [Bool.and_eq_true, Bool.or_eq_true, Bool.and_eq_false_iff, Bool.or_eq_false_iff, decide_eq_true_eq, decide_eq_false_iff_not, beq_iff_eq, beq_eq_false_iff_ne, bne_iff_ne, bne_eq_false_iff_eq, Bool.not_eq_true', Bool.not_eq_false', ne_eq] at hb5
      refine D_not (by kernel_rfl) ?_
      refine D_not (by kernel_rfl) ?_
      refine D_not (by kernel_rfl) ?_
      refine D_pure (v := .bool true) (by kernel_rfl) (by kernel_rfl) ?_
      exact D_nil ⟨by kernel_rfl, ⟨by kernel_rfl, by kernel_rfl, trivial⟩, rfl⟩
  refine W_forget [(0, .slice a l.length c), (13, .bool (decide (((l.length : Nat) : Int) < 1) || decide (4 < ((l.length : Nat) : Int))))] hk4 fun u7 => ?_
  refine W_cond (b := (decide (((l.length : Nat) : Int) < 1) || decide (4 < ((l.length : Nat) : Int)))) (by kernel_rfl) (fun hb8 => ?_) (fun hb8 => ?_)
  case refine_1 =>
    try simp only [Bool.and_eq_true, Bool.or_eq_true, Bool.and_eq_false_iff, Bool.or_eq_false_iff, decide_eq_true_eq, decide_eq_false_iff_not, beq_iff_eq, beq_eq_false_iff_ne, bne_iff_ne, bne_eq_false_iff_eq, Bool.not_eq_true', Bool.not_eq_false', ne_eq] at hb8
    refine W_seq ?_
    refine W_reg (List.replicate 1 true) [] (.inr ⟨rfl, by kernel_rfl⟩) ?_
    refine D_pure (v := .int .i64 0) (by kernel_rfl) (by kernel_rfl) ?_
    refine D_nil ⟨by kernel_rfl, ?_⟩
    refine W_forget [(2, .int .i64 0)] ⟨by kernel_rfl, trivial⟩ fun u9 => ?_
    refine W_ret ?_
    exact ⟨[.int .i64 0], by kernel_rfl, by rw [show (0 : Int) = Pl.size l from (by symm; first | (rw [hsz]; unfold Pl.sizeGo; rfl) | (unfold Pl.size; rw [if_pos (by omega)]) | (rw [hsz, Pl.sizeGo_step l i n (by omega), if_pos (by omega)]) | (rw [hsz, List.drop_eq_nil_of_le (by omega)]; rfl))]; exact h⟩
  case refine_2 =>
    try simp only [Bool.and_eq_true, Bool.or_eq_true, Bool.and_eq_false_iff, Bool.or_eq_false_iff, decide_eq_true_eq, decide_eq_false_iff_not, beq_iff_eq, beq_eq_false_iff_ne, bne_iff_ne, bne_eq_false_iff_eq, Bool.not_eq_true', Bool.not_eq_false', ne_eq] at hb8
    refine W_skip ?_
    refine W_seq ?_
    refine W_reg (List.replicate 1 true) [] (.inr ⟨rfl, by kernel_rfl⟩) ?_
    refine D_pure (v := .int .i64 1) (by kernel_rfl) (by kernel_rfl) ?_
    refine D_nil ⟨by kernel_rfl, ?_⟩
    refine W_forget [(0, .slice a l.length c), (3, .int .i64 1)] ⟨by kernel_rfl, by kernel_rfl, trivial⟩ fun u10 => ?_
    refine W_seq ?_
    refine W_seq ?_
    refine W_reg (List.replicate 3 true) [] (.inr ⟨rfl, by kernel_rfl⟩) ?_
    refine D_pure (v := .slice a l.length c) (by kernel_rfl) (by kernel_rfl) ?_
    refine D_pure (v := .int .i64 ((l.length : Nat) : Int)) (by kernel_rfl) (by kernel_rfl) ?_
    refine D_pure (v := .int .i64 0) (by kernel_rfl) (by kernel_rfl) ?_
    refine D_nil ⟨by kernel_rfl, ?_⟩
    refine W_forget [(3, .int .i64 1), (14, .slice a l.length c), (15, .int .i64 ((l.length : Nat) : Int)), (16, .int .i64 0)] ⟨by kernel_rfl, by kernel_rfl, by kernel_rfl, by kernel_rfl, trivial⟩ fun u11 => ?_
    refine W_block ?_
    refine W_loop (fun k t' H' => ∃ u, ∃ (i : Nat), ∃ (n : Int),  H = H' ∧ t' = tl [(3, .int .i64 n), (14, .slice a l.length c), (15, .int .i64 ((l.length : Nat) : Int)), (16, .int .i64 (i : Int))] u ∧ k = l.length - i ∧ (i ≤ l.length) ∧ (0 ≤ n ∧ n ≤ 8192) ∧ (Pl.size l = Pl.sizeGo (l.drop i) n)) (l.length) ?_ ?_
    case refine_1 => exact ⟨_, 0, 1,  rfl, tl_keep (l := [(3, .int .i64 1), (14, .slice a l.length c), (15, .int .i64 ((l.length : Nat) : Int)), (16, .int .i64 (0 : Int))]) ⟨by kernel_rfl, by kernel_rfl, by kernel_rfl, by kernel_rfl, trivial⟩, by omega, by omega, by omega, by unfold Pl.size; rw [if_neg (by omega)]; rfl⟩
    rintro k _ _ ⟨u, i, n,  rfl, rfl, rfl, hi, hn, hsz⟩
    try clear k
    refine W_seq ?_
    refine W_reg (List.replicate 1 true) [] (.inr ⟨rfl, by kernel_rfl⟩) ?_
    refine D_pure (v := .bool (decide ((i : Int) < ((l.length : Nat) : Int)))) (by kernel_rfl) (by kernel_rfl) ?_
    refine D_nil ⟨by kernel_rfl, ?_⟩
    refine W_forget [(3, .int .i64 n), (14, .slice a l.length c), (15, .int .i64 ((l.length : Nat) : Int)), (16, .int .i64 (i : Int)), (17, .bool (decide ((i : Int) < ((l.length : Nat) : Int))))] ⟨by kernel_rfl, by kernel_rfl, by kernel_rfl, by kernel_rfl, by kernel_rfl, trivial⟩ fun u12 => ?_
    refine W_seq ?_
    refine W_cond (b := decide ((i : Int) < ((l.length : Nat) : Int))) (by kernel_rfl) (fun hb13 => ?_) (fun hb13 => ?_)
    case refine_1 =>
      try simp only [Bool.and_eq_true, Bool.or_eq_true, Bool.and_eq_false_iff, Bool.or_eq_false_iff, decide_eq_true_eq, decide_eq_false_iff_not, beq_iff_eq, beq_eq_false_iff_ne, bne_iff_ne, bne_eq_false_iff_eq, Bool.not_eq_true', Bool.not_eq_false', ne_eq] at hb13
      refine W_skip ?_
      refine W_seq ?_
      refine W_block ?_
      refine W_seq ?_
      refine W_reg (List.replicate 3 true) [] (.inr ⟨rfl, by kernel_rfl⟩) ?_
      obtain ⟨p14, hp15, (hl16 : loadA Try.prog 3 H p14 = some (.int .i64 (l.getD i 0)))⟩ := prim_indexRI (P := Try.prog) (fl := fl) (t := _) (x := .tmp 14) (ix := .tmp 16) hs aty24 aty3 (by kernel_rfl) (by kernel_rfl) (i := (i : Int)) (ki := .i64) (by omega) (by omega)
      refine D_op (by kernel_rfl) hp15 ?_
      refine D_op (by kernel_rfl) (prim_load (by kernel_rfl) hl16) ?_
      refine D_pure (v := .int .i64 (l.getD i 0)) (by kernel_rfl) (by kernel_rfl) ?_
      refine D_nil ⟨by kernel_rfl, ?_⟩
      refine W_forget [(3, .int .i64 n), (5, .int .i64 (l.getD i 0)), (14, .slice a l.length c), (15, .int .i64 ((l.length : Nat) : Int)), (16, .int .i64 (i : Int))] ⟨by kernel_rfl, by kernel_rfl, by kernel_rfl, by kernel_rfl, by kernel_rfl, trivial⟩ fun u17 => ?_
      refine W_seq ?_
      refine W_seq ?_
      refine W_cut (List.replicate 12 true) [] (.inr ⟨rfl, by kernel_rfl⟩) [(3, .int .i64 n), (5, .int .i64 (l.getD i 0)), (14, .slice a l.length c), (15, .int .i64 ((l.length : Nat) : Int)), (16, .int .i64 (i : Int)), (31, .bool ((decide (l.getD i 0 < 1) || decide (4096 < l.getD i 0)) || decide (8192 < n * (l.getD i 0))))] H ?_ (fun t18 hk19 => ?_)
      case refine_1 =>
        refine D_pure (v := .int .i64 (l.getD i 0)) (by kernel_rfl) (by kernel_rfl) ?_
        refine D_pure (v := .bool (decide (l.getD i 0 < 1))) (by kernel_rfl) (by kernel_rfl) ?_
        refine D_pure (v := .bool (decide (l.getD i 0 < 1))) (by kernel_rfl) (by kernel_rfl) ?_
        generalize hb20 : (decide (l.getD i 0 < 1) : Bool) = b21
        cases b21
        case false =>
          try simp only [Bool.and_eq_true, Bool.or_eq_true, Bool.and_eq_false_iff, Bool.or_eq_false_iff, decide_eq_true_eq, decide_eq_false_iff_not, beq_iff_eq, beq_eq_false_iff_ne, bne_iff_ne, bne_eq_false_iff_eq, Bool.not_eq_true', Bool.not_eq_false', ne_eq] at hb20
          refine D_pure (v := .int .i64 (l.getD i 0)) (by kernel_rfl) (by kernel_rfl) ?_
          refine D_pure (v := .bool (decide (4096 < l.getD i 0))) (by kernel_rfl) (by kernel_rfl) ?_
          refine D_pure (v := .bool (decide (4096 < l.getD i 0))) (by kernel_rfl) (by kernel_rfl) ?_
          refine D_pure (v := .bool (decide (4096 < l.getD i 0))) (by kernel_rfl) (by kernel_rfl) ?_
          generalize hb22 : (decide (4096 < l.getD i 0) : Bool) = b23
          cases b23
          case false =>
            try simp only [Bool.and_eq_true, Bool.or_eq_true, Bool.and_eq_false_iff, Bool.or_eq_false_iff, decide_eq_true_eq, decide_eq_false_iff_not, beq_iff_eq, beq_eq_false_iff_ne, bne_iff_ne, bne_eq_false_iff_eq, Bool.not_eq_true', Bool.not_eq_false', ne_eq] at hb22
            refine D_pure (v := .int .i64 n) (by kernel_rfl) (by kernel_rfl) ?_
            refine D_pure (v := .int .i64 (l.getD i 0)) (by kernel_rfl) (by kernel_rfl) ?_
            have hm1 := Pl.mul_bd n (l.getD i 0) 8192 4096 (by omega) (by omega) (by omega) (by omega) (by omega); have hm2 := Int.mul_nonneg (show 0 ≤ n by omega) (show 0 ≤ l.getD i 0 by omega)
            refine D_opw (v := .int .i64 (n * (l.getD i 0))) (v' := .int .i64 (IntKind.i64.wrap (n * (l.getD i 0)))) (by kernel_rfl) (by kernel_rfl) (wv (wrap_i64 _ (by omega) (by omega))) ?_
            refine D_pure (v := .bool (decide (8192 < n * (l.getD i 0)))) (by kernel_rfl) (by kernel_rfl) ?_
            refine D_pure (v := .bool (decide (8192 < n * (l.getD i 0)))) (by kernel_rfl) (by kernel_rfl) ?_
            exact D_nil ⟨by kernel_rfl, ⟨by kernel_rfl, by kernel_rfl, by kernel_rfl, by kernel_rfl, by kernel_rfl, by kernel_rfl, trivial⟩, rfl⟩
          case true =>
            try simp only [Bool.and_eq_true, Bool.or_eq_true, Bool.and_eq_false_iff, Bool.or_eq_false_iff, decide_eq_true_eq, decide_eq_false_iff_not, beq_iff_eq, beq_eq_false_iff_ne, bne_iff_ne, bne_eq_false_iff_eq, Bool.not_eq_true', Bool.not_eq_false', ne_eq] at hb22
            refine D_not (by kernel_rfl) ?_
            refine D_not (by kernel_rfl) ?_
            refine D_not (by kernel_rfl) ?_
            refine D_not (by kernel_rfl) ?_
            refine D_pure (v := .bool true) (by kernel_rfl) (by kernel_rfl) ?_
            exact D_nil ⟨by kernel_rfl, ⟨by kernel_rfl, by kernel_rfl, by kernel_rfl, by kernel_rfl, by kernel_rfl, by kernel_rfl, trivial⟩, rfl⟩
        case true =>
          try simp only [Bool.and_eq_true, Bool.or_eq_true, Bool.and_eq_false_iff, Bool.or_eq_false_iff, decide_eq_true_eq, decide_eq_false_iff_not, beq_iff_eq, beq_eq_false_iff_ne, bne_iff_ne, bne_eq_false_iff_eq, Bool.not_eq_true', Bool.not_eq_false', ne_eq] at hb20
          refine D_not (by kernel_rfl) ?_
          refine D_not (by kernel_rfl) ?_
          refine D_pure (v := .bool true) (by kernel_rfl) (by kernel_rfl) ?_
          refine D_pure (v := .bool true) (by kernel_rfl) (by kernel_rfl) ?_
          refine D_not (by kernel_rfl) ?_
          refine D_not (by kernel_rfl) ?_
          refine D_not (by kernel_rfl) ?_
          refine D_not (by kernel_rfl) ?_
          refine D_pure (v := .bool true) (by kernel_rfl) (by kernel_rfl) ?_
          exact D_nil ⟨by kernel_rfl, ⟨by kernel_rfl, by kernel_rfl, by kernel_rfl, by kernel_rfl, by kernel_rfl, by kernel_rfl, trivial⟩, rfl⟩
      refine W_forget [(3, .int .i64 n), (5, .int .i64 (l.getD i 0)), (14, .slice a l.length c), (15, .int .i64 ((l.length : Nat) : Int)), (16, .int .i64 (i : Int)), (31, .bool ((decide (l.getD i 0 < 1) || decide (4096 < l.getD i 0)) || decide (8192 < n * (l.getD i 0))))] hk19 fun u24 => ?_
      refine W_cond (b := ((decide (l.getD i 0 < 1) || decide (4096 < l.getD i 0)) || decide (8192 < n * (l.getD i 0)))) (by kernel_rfl) (fun hb25 => ?_) (fun hb25 => ?_)
      case refine_1 =>
        try simp only [Bool.and_eq_true, Bool.or_eq_true, Bool.and_eq_false_iff, Bool.or_eq_false_iff, decide_eq_true_eq, decide_eq_false_iff_not, beq_iff_eq, beq_eq_false_iff_ne, bne_iff_ne, bne_eq_false_iff_eq, Bool.not_eq_true', Bool.not_eq_false', ne_eq] at hb25
        refine W_seq ?_
        refine W_reg (List.replicate 1 true) [] (.inr ⟨rfl, by kernel_rfl⟩) ?_
        refine D_pure (v := .int .i64 0) (by kernel_rfl) (by kernel_rfl) ?_
        refine D_nil ⟨by kernel_rfl, ?_⟩
        refine W_forget [(2, .int .i64 0)] ⟨by kernel_rfl, trivial⟩ fun u26 => ?_
        refine W_ret ?_
        exact ⟨[.int .i64 0], by kernel_rfl, by rw [show (0 : Int) = Pl.size l from (by symm; first | (rw [hsz]; unfold Pl.sizeGo; rfl) | (unfold Pl.size; rw [if_pos (by omega)]) | (rw [hsz, Pl.sizeGo_step l i n (by omega), if_pos (by omega)]) | (rw [hsz, List.drop_eq_nil_of_le (by omega)]; rfl))]; exact h⟩
      case refine_2 =>
        try simp only [Bool.and_eq_true, Bool.or_eq_true, Bool.and_eq_false_iff, Bool.or_eq_false_iff, decide_eq_true_eq, decide_eq_false_iff_not, beq_iff_eq, beq_eq_false_iff_ne, bne_iff_ne, bne_eq_false_iff_eq, Bool.not_eq_true', Bool.not_eq_false', ne_eq] at hb25
        refine W_skip ?_
        refine W_reg (List.replicate 4 true) [] (.inr ⟨rfl, by kernel_rfl⟩) ?_
        refine D_pure (v := .int .i64 n) (by kernel_rfl) (by kernel_rfl) ?_
        refine D_pure (v := .int .i64 (l.getD i 0)) (by kernel_rfl) (by kernel_rfl) ?_
        have hm1 := Pl.mul_bd n (l.getD i 0) 8192 4096 (by omega) (by omega) (by omega) (by omega) (by omega); have hm2 := Int.mul_nonneg (show 0 ≤ n by omega) (show 0 ≤ l.getD i 0 by omega)
        refine D_opw (v := .int .i64 (n * (l.getD i 0))) (v' := .int .i64 (IntKind.i64.wrap (n * (l.getD i 0)))) (by kernel_rfl) (by kernel_rfl) (wv (wrap_i64 _ (by omega) (by omega))) ?_
        refine D_pure (v := .int .i64 (n * (l.getD i 0))) (by kernel_rfl) (by kernel_rfl) ?_
        refine D_nil ⟨by kernel_rfl, ?_⟩
        refine W_forget [(3, .int .i64 (n * (l.getD i 0))), (14, .slice a l.length c), (15, .int .i64 ((l.length : Nat) : Int)), (16, .int .i64 (i : Int))] ⟨by kernel_rfl, by kernel_rfl, by kernel_rfl, by kernel_rfl, trivial⟩ fun u27 => ?_
        refine W_reg (List.replicate 2 true) [] (.inr ⟨rfl, by kernel_rfl⟩) ?_
        refine D_opw (v := .int .i64 ((i : Int) + 1)) (v' := .int .i64 (IntKind.i64.wrap ((i : Int) + 1))) (by kernel_rfl) (by kernel_rfl) (wv (wrap_i64 _ (by omega) (by omega))) ?_
        refine D_pure (v := .int .i64 ((i : Int) + 1)) (by kernel_rfl) (by kernel_rfl) ?_
        refine D_nil ⟨by kernel_rfl, ?_⟩
        refine ⟨_, ?_, _, i + 1, n * l.getD i 0,  rfl, tl_keep (l := [(3, .int .i64 (n * l.getD i 0)), (14, .slice a l.length c), (15, .int .i64 ((l.length : Nat) : Int)), (16, .int .i64 ((i + 1) : Int))]) ⟨iv (k := .i64) (a := n * (l.getD i 0)) (by omega), by kernel_rfl, by kernel_rfl, iv (k := .i64) (a := (i : Int) + 1) (by omega), trivial⟩, rfl, by omega, by omega, by rw [hsz, Pl.sizeGo_step l i n (by omega), if_neg (by omega)]⟩
        omega
    case refine_2 =>
      try simp only [Bool.and_eq_true, Bool.or_eq_true, Bool.and_eq_false_iff, Bool.or_eq_false_iff, decide_eq_true_eq, decide_eq_false_iff_not, beq_iff_eq, beq_eq_false_iff_ne, bne_iff_ne, bne_eq_false_iff_eq, Bool.not_eq_true', Bool.not_eq_false', ne_eq] at hb13
      refine W_exit ?_
      refine W_seq ?_
      refine W_reg (List.replicate 2 true) [] (.inr ⟨rfl, by kernel_rfl⟩) ?_
      refine D_pure (v := .int .i64 n) (by kernel_rfl) (by kernel_rfl) ?_
      refine D_pure (v := .int .i64 n) (by kernel_rfl) (by kernel_rfl) ?_
      refine D_nil ⟨by kernel_rfl, ?_⟩
      refine W_forget [(2, .int .i64 n)] ⟨by kernel_rfl, trivial⟩ fun u28 => ?_
      refine W_ret ?_
      exact ⟨[.int .i64 n], by kernel_rfl, by rw [show (n : Int) = Pl.size l from (by symm; first | (rw [hsz]; unfold Pl.sizeGo; rfl) | (unfold Pl.size; rw [if_pos (by omega)]) | (rw [hsz, Pl.sizeGo_step l i n (by omega), if_pos (by omega)]) | (rw [hsz, List.drop_eq_nil_of_le (by omega)]; rfl))]; exact h⟩
theorem c_smay (fl : Nat) (a : Option Addr) (c : Nat) (l : List Int) (H : AHeap) (hs : RI H .i64 a c l) (R : Value → AHeap → Prop) (h : R (.bool (decide (0 < Pl.size l))) H) : WCall Try.prog fl 37 #[.slice a l.length c] H R := by
  refine W_call Try.func37 rfl (by kernel_rfl) (Nat.le_of_ble_eq_true rfl) ?_
  refine W_forget [(0, .slice a l.length c)] ⟨by kernel_rfl, trivial⟩ fun u1 => ?_
  refine W_seq ?_
  refine W_reg (List.replicate 1 true) [] (.inr ⟨rfl, by kernel_rfl⟩) ?_
  refine D_pure (v := .bool false) (by kernel_rfl) (by kernel_rfl) ?_
  refine D_nil ⟨by kernel_rfl, ?_⟩
  refine W_forget [(0, .slice a l.length c)] ⟨by kernel_rfl, trivial⟩ fun u2 => ?_
  refine W_seq ?_
  refine W_reg (List.replicate 4 true) [] (.inr ⟨rfl, by kernel_rfl⟩) ?_
  refine D_pure (v := .slice a l.length c) (by kernel_rfl) (by kernel_rfl) ?_
  refine D_call true rfl (by kernel_rfl) (f := 38) (args := #[.slice a l.length c]) (by kernel_rfl) (c_size _ _ _ _ _ hs _ ?_)
  refine D_pure (v := .bool (decide (0 < Pl.size l))) (by kernel_rfl) (by kernel_rfl) ?_
  refine D_pure (v := .bool (decide (0 < Pl.size l))) (by kernel_rfl) (by kernel_rfl) ?_
  refine D_nil ⟨by kernel_rfl, ?_⟩
  refine W_forget [(2, .bool (decide (0 < Pl.size l)))] ⟨by kernel_rfl, trivial⟩ fun u3 => ?_
  refine W_ret ?_
  exact ⟨[.bool (decide (0 < Pl.size l))], by kernel_rfl, h⟩
theorem c_betw (fl : Nat) (v x y : Int) (H : AHeap) (R : Value → AHeap → Prop) (h : R (.int .i64 (Pl.between v x y)) H) : WCall Try.prog fl 42 #[.int .i64 v, .int .i64 x, .int .i64 y] H R := by
  refine W_call Try.func42 rfl (by kernel_rfl) (Nat.le_of_ble_eq_true rfl) ?_
  refine W_forget [(0, .int .i64 v), (1, .int .i64 x), (2, .int .i64 y)] ⟨by kernel_rfl, by kernel_rfl, by kernel_rfl, trivial⟩ fun u1 => ?_
  refine W_seq ?_
  refine W_reg (List.replicate 1 true) [] (.inr ⟨rfl, by kernel_rfl⟩) ?_
  refine D_pure (v := .int .i64 0) (by kernel_rfl) (by kernel_rfl) ?_
  refine D_nil ⟨by kernel_rfl, ?_⟩
  refine W_forget [(0, .int .i64 v), (1, .int .i64 x), (2, .int .i64 y)] ⟨by kernel_rfl, by kernel_rfl, by kernel_rfl, trivial⟩ fun u2 => ?_
  refine W_seq ?_
  refine W_reg (List.replicate 6 true) [] (.inr ⟨rfl, by kernel_rfl⟩) ?_
  refine D_pure (v := .int .i64 x) (by kernel_rfl) (by kernel_rfl) ?_
  refine D_pure (v := .int .i64 v) (by kernel_rfl) (by kernel_rfl) ?_
  refine D_pure (v := .int .i64 y) (by kernel_rfl) (by kernel_rfl) ?_
  refine D_pure (v := .int .i64 (if y < v then y else v)) (by kernel_rfl) (by kernel_rfl) ?_
  refine D_pure (v := .int .i64 (if x < (if y < v then y else v) then (if y < v then y else v) else x)) (by kernel_rfl) (by kernel_rfl) ?_
  refine D_pure (v := .int .i64 (if x < (if y < v then y else v) then (if y < v then y else v) else x)) (by kernel_rfl) (by kernel_rfl) ?_
  refine D_nil ⟨by kernel_rfl, ?_⟩
  refine W_forget [(6, .int .i64 (if x < (if y < v then y else v) then (if y < v then y else v) else x))] ⟨by kernel_rfl, trivial⟩ fun u3 => ?_
  refine W_ret ?_
  exact ⟨[.int .i64 (if x < (if y < v then y else v) then (if y < v then y else v) else x)], by kernel_rfl, by rw [show ((if x < (if y < v then y else v) then (if y < v then y else v) else x) : Int) = Pl.between v x y from by unfold Pl.between; (repeat split) <;> omega]; exact h⟩
theorem c_betw64 (fl : Nat) (v x y : Int) (H : AHeap) (R : Value → AHeap → Prop) (h : R (.int .i64 (Pl.between v x y)) H) : WCall Try.prog fl 43 #[.int .i64 v, .int .i64 x, .int .i64 y] H R := by
  refine W_call Try.func43 rfl (by kernel_rfl) (Nat.le_of_ble_eq_true rfl) ?_
  refine W_forget [(0, .int .i64 v), (1, .int .i64 x), (2, .int .i64 y)] ⟨by kernel_rfl, by kernel_rfl, by kernel_rfl, trivial⟩ fun u1 => ?_
  refine W_seq ?_
  refine W_reg (List.replicate 1 true) [] (.inr ⟨rfl, by kernel_rfl⟩) ?_
  refine D_pure (v := .int .i64 0) (by kernel_rfl) (by kernel_rfl) ?_
  refine D_nil ⟨by kernel_rfl, ?_⟩
  refine W_forget [(0, .int .i64 v), (1, .int .i64 x), (2, .int .i64 y)] ⟨by kernel_rfl, by kernel_rfl, by kernel_rfl, trivial⟩ fun u2 => ?_
  refine W_seq ?_
  refine W_reg (List.replicate 6 true) [] (.inr ⟨rfl, by kernel_rfl⟩) ?_
  refine D_pure (v := .int .i64 x) (by kernel_rfl) (by kernel_rfl) ?_
  refine D_pure (v := .int .i64 v) (by kernel_rfl) (by kernel_rfl) ?_
  refine D_pure (v := .int .i64 y) (by kernel_rfl) (by kernel_rfl) ?_
  refine D_pure (v := .int .i64 (if y < v then y else v)) (by kernel_rfl) (by kernel_rfl) ?_
  refine D_pure (v := .int .i64 (if x < (if y < v then y else v) then (if y < v then y else v) else x)) (by kernel_rfl) (by kernel_rfl) ?_
  refine D_pure (v := .int .i64 (if x < (if y < v then y else v) then (if y < v then y else v) else x)) (by kernel_rfl) (by kernel_rfl) ?_
  refine D_nil ⟨by kernel_rfl, ?_⟩
  refine W_forget [(6, .int .i64 (if x < (if y < v then y else v) then (if y < v then y else v) else x))] ⟨by kernel_rfl, trivial⟩ fun u3 => ?_
  refine W_ret ?_
  exact ⟨[.int .i64 (if x < (if y < v then y else v) then (if y < v then y else v) else x)], by kernel_rfl, by rw [show ((if x < (if y < v then y else v) then (if y < v then y else v) else x) : Int) = Pl.between v x y from by unfold Pl.between; (repeat split) <;> omega]; exact h⟩
theorem c_value (fl : Nat) (v : Int) (H : AHeap) (R : Value → AHeap → Prop) (h : R (.int .i64 (Pl.value v)) H) : WCall Try.prog fl 41 #[.int .i64 v] H R := by
  refine W_call Try.func41 rfl (by kernel_rfl) (Nat.le_of_ble_eq_true rfl) ?_
  refine W_forget [(0, .int .i64 v)] ⟨by kernel_rfl, trivial⟩ fun u1 => ?_
  refine W_seq ?_
  refine W_reg (List.replicate 1 true) [] (.inr ⟨rfl, by kernel_rfl⟩) ?_
  refine D_pure (v := .int .i64 0) (by kernel_rfl) (by kernel_rfl) ?_
  refine D_nil ⟨by kernel_rfl, ?_⟩
  refine W_forget [(0, .int .i64 v)] ⟨by kernel_rfl, trivial⟩ fun u2 => ?_
  refine W_seq ?_
  refine W_reg (List.replicate 3 true) [] (.inr ⟨rfl, by kernel_rfl⟩) ?_
  refine D_pure (v := .int .i64 v) (by kernel_rfl) (by kernel_rfl) ?_
  refine D_call true rfl (by kernel_rfl) (f := 43) (args := #[.int .i64 v, .int .i64 (-4611686018427387904), .int .i64 4611686018427387904]) (by kernel_rfl) (c_betw64 _ _ _ _ _ _ ?_)
  refine D_pure (v := .int .i64 (Pl.between v (-4611686018427387904) 4611686018427387904)) (by kernel_rfl) (by kernel_rfl) ?_
  refine D_nil ⟨by kernel_rfl, ?_⟩
  refine W_forget [(2, .int .i64 (Pl.between v (-4611686018427387904) 4611686018427387904))] ⟨by kernel_rfl, trivial⟩ fun u3 => ?_
  refine W_ret ?_
  exact ⟨[.int .i64 (Pl.between v (-4611686018427387904) 4611686018427387904)], by kernel_rfl, h⟩
end Go.Proofs.Ytanjlcjpcenejaa
