/- The machine runs the functions of dense. No condition beyond those typed. -/
import Derived.Test.YtanjlcjpcenejaaTensorM
import Derived.Test.YtanjlcjpcenejaaPlFwd
namespace Go.Proofs.Ytanjlcjpcenejaa
open Go.Mach
set_option maxRecDepth 100000
set_option linter.unusedSimpArgs false
set_option linter.unusedVariables false
theorem c_fits (fl : Nat) (n : Int) (H : AHeap) (R : Value → AHeap → Prop) (h : R (.bool (Pl.fits n)) H) : WCall Try.prog fl 14 #[.int .i64 n] H R := by
  refine W_call Try.func14 rfl (by kernel_rfl) (Nat.le_of_ble_eq_true rfl) ?_
  have hS := St.refl H
  refine W_forget [(0, .int .i64 n)] ⟨by kernel_rfl, trivial⟩ fun u_1 => ?_
  refine W_seq ?_
  refine W_reg (List.replicate 1 true) [] (.inr ⟨rfl, by kernel_rfl⟩) ?_
  refine D_pure (v := .bool false) (by kernel_rfl) (by kernel_rfl) ?_
  refine D_nil ⟨by kernel_rfl, ?_⟩
  refine W_forget [(0, .int .i64 n)] ⟨by kernel_rfl, trivial⟩ fun u_2 => ?_
  refine W_seq ?_
  refine W_cut (List.replicate 13 true) [] (.inr ⟨rfl, by kernel_rfl⟩) [(2, .bool ((decide (0 ≤ n) && decide (n ≤ 1023)) && decide ((n * 16384) + 1048576 < 16777216)))] H ?_ (fun t_3 hk_4 => ?_)
  case refine_1 =>
    refine D_pure (v := .int .i64 n) (by kernel_rfl) (by kernel_rfl) ?_
    refine D_pure (v := .bool (decide (0 ≤ n))) (by kernel_rfl) (by kernel_rfl) ?_
    refine D_pure (v := .bool (decide (0 ≤ n))) (by kernel_rfl) (by kernel_rfl) ?_
    generalize hb_5 : (decide (0 ≤ n) : Bool) = b_6
    cases b_6
    case false =>
      try simp only [Bool.and_eq_true, Bool.or_eq_true, Bool.and_eq_false_iff, Bool.or_eq_false_iff, decide_eq_true_eq, decide_eq_false_iff_not, beq_iff_eq, beq_eq_false_iff_ne, bne_iff_ne, bne_eq_false_iff_eq, Bool.not_eq_true', Bool.not_eq_false', ne_eq] at hb_5
      refine D_not (by kernel_rfl) ?_
      refine D_not (by kernel_rfl) ?_
      refine D_pure (v := .bool false) (by kernel_rfl) (by kernel_rfl) ?_
      refine D_pure (v := .bool false) (by kernel_rfl) (by kernel_rfl) ?_
      refine D_not (by kernel_rfl) ?_
      refine D_not (by kernel_rfl) ?_
      refine D_not (by kernel_rfl) ?_
      refine D_not (by kernel_rfl) ?_
      refine D_pure (v := .bool false) (by kernel_rfl) (by kernel_rfl) ?_
      refine D_pure (v := .bool false) (by kernel_rfl) (by kernel_rfl) ?_
      exact D_nil ⟨by kernel_rfl, ⟨by kernel_rfl, trivial⟩, rfl⟩
    case true =>
      try simp only [Bool.and_eq_true, Bool.or_eq_true, Bool.and_eq_false_iff, Bool.or_eq_false_iff, decide_eq_true_eq, decide_eq_false_iff_not, beq_iff_eq, beq_eq_false_iff_ne, bne_iff_ne, bne_eq_false_iff_eq, Bool.not_eq_true', Bool.not_eq_false', ne_eq] at hb_5
      refine D_pure (v := .int .i64 n) (by kernel_rfl) (by kernel_rfl) ?_
      refine D_pure (v := .bool (decide (n ≤ 1023))) (by kernel_rfl) (by kernel_rfl) ?_
      refine D_pure (v := .bool (decide (n ≤ 1023))) (by kernel_rfl) (by kernel_rfl) ?_
      refine D_pure (v := .bool (decide (n ≤ 1023))) (by kernel_rfl) (by kernel_rfl) ?_
      generalize hb_7 : (decide (n ≤ 1023) : Bool) = b_8
      cases b_8
      case false =>
        try simp only [Bool.and_eq_true, Bool.or_eq_true, Bool.and_eq_false_iff, Bool.or_eq_false_iff, decide_eq_true_eq, decide_eq_false_iff_not, beq_iff_eq, beq_eq_false_iff_ne, bne_iff_ne, bne_eq_false_iff_eq, Bool.not_eq_true', Bool.not_eq_false', ne_eq] at hb_7
        refine D_not (by kernel_rfl) ?_
        refine D_not (by kernel_rfl) ?_
        refine D_not (by kernel_rfl) ?_
        refine D_not (by kernel_rfl) ?_
        refine D_pure (v := .bool false) (by kernel_rfl) (by kernel_rfl) ?_
        refine D_pure (v := .bool false) (by kernel_rfl) (by kernel_rfl) ?_
        exact D_nil ⟨by kernel_rfl, ⟨by kernel_rfl, trivial⟩, rfl⟩
      case true =>
        try simp only [Bool.and_eq_true, Bool.or_eq_true, Bool.and_eq_false_iff, Bool.or_eq_false_iff, decide_eq_true_eq, decide_eq_false_iff_not, beq_iff_eq, beq_eq_false_iff_ne, bne_iff_ne, bne_eq_false_iff_eq, Bool.not_eq_true', Bool.not_eq_false', ne_eq] at hb_7
        refine D_pure (v := .int .i64 n) (by kernel_rfl) (by kernel_rfl) ?_
        refine D_opw (v := .int .i64 (n * 16384)) (v' := .int .i64 (IntKind.i64.wrap (n * 16384))) (by kernel_rfl) (by kernel_rfl) (wv (wrap_i64 _ (by omega) (by omega))) ?_
        refine D_opw (v := .int .i64 ((n * 16384) + 1048576)) (v' := .int .i64 (IntKind.i64.wrap ((n * 16384) + 1048576))) (by kernel_rfl) (by kernel_rfl) (wv (wrap_i64 _ (by omega) (by omega))) ?_
        refine D_pure (v := .bool (decide ((n * 16384) + 1048576 < 16777216))) (by kernel_rfl) (by kernel_rfl) ?_
        refine D_pure (v := .bool (decide ((n * 16384) + 1048576 < 16777216))) (by kernel_rfl) (by kernel_rfl) ?_
        refine D_pure (v := .bool (decide ((n * 16384) + 1048576 < 16777216))) (by kernel_rfl) (by kernel_rfl) ?_
        exact D_nil ⟨by kernel_rfl, ⟨by kernel_rfl, trivial⟩, rfl⟩
  refine W_forget [(2, .bool ((decide (0 ≤ n) && decide (n ≤ 1023)) && decide ((n * 16384) + 1048576 < 16777216)))] hk_4 fun u_9 => ?_
  refine W_ret ?_
  exact ⟨[.bool ((decide (0 ≤ n) && decide (n ≤ 1023)) && decide ((n * 16384) + 1048576 < 16777216))], by kernel_rfl, (by rw [show ((decide (0 ≤ n) && decide (n ≤ 1023)) && decide ((n * 16384) + 1048576 < 16777216)) = Pl.fits n from (by unfold Pl.fits; simp only [Bool.decide_and, Bool.and_assoc])]; exact h)⟩
theorem w32_wrap (x : Int) : IntKind.i32.wrap x = Pl.w32 x := by
  simp only [IntKind.wrap, IntKind.bits, IntKind.signed, Pl.w32]
  simp
  omega
def Pl.madeOut (rows cols n exp : Int) (g : Nat → Nat → Int) : Int × Pl.Sums :=
  if Pl.madeErr rows cols n exp = 0 then (0, ⟨[rows, cols], exp, Pl.madeTo cols.toNat (rows.toNat * cols.toNat) g⟩) else (Pl.madeErr rows cols n exp, ⟨[], 0, []⟩)
theorem madeOut_no {rows cols n exp e : Int} {g : Nat → Nat → Int} (h : Pl.madeErr rows cols n exp = e) (he : e ≠ 0) : Pl.madeOut rows cols n exp g = (e, ⟨[], 0, []⟩) := by
  unfold Pl.madeOut; rw [h, if_neg he]
theorem madeOut_ok {rows cols n exp : Int} {g : Nat → Nat → Int} (h : Pl.madeErr rows cols n exp = 0) : Pl.madeOut rows cols n exp g = (0, ⟨[rows, cols], exp, Pl.madeTo cols.toNat (rows.toNat * cols.toNat) g⟩) := by
  unfold Pl.madeOut; rw [if_pos h]
theorem madeErr_3 {rows cols n exp : Int} (h : (Pl.fits n = false ∨ 128 < exp) ∨ exp < -128) : Pl.madeErr rows cols n exp = 3 := by
  unfold Pl.madeErr; rw [if_pos]
  rcases h with (h | h) | h
  · exact .inl h
  · exact .inr (.inl h)
  · exact .inr (.inr h)
theorem madeErr_1 {rows cols n exp : Int} (h : (Pl.fits n = true ∧ ¬ 128 < exp) ∧ ¬ exp < -128) (k : ¬ 0 < Pl.size [rows, cols]) : Pl.madeErr rows cols n exp = 1 := by
  unfold Pl.madeErr; rw [if_neg (by simp [h.1.1, h.1.2, h.2]), if_pos (by omega)]
theorem madeErr_0 {rows cols n exp : Int} (h : (Pl.fits n = true ∧ ¬ 128 < exp) ∧ ¬ exp < -128) (k : 0 < Pl.size [rows, cols]) : Pl.madeErr rows cols n exp = 0 := by
  unfold Pl.madeErr; rw [if_neg (by simp [h.1.1, h.1.2, h.2]), if_neg (by omega)]
/-- Sums and an error, as a value. -/
def sumsV (a1 a2 : Option Nat) (r : Int × Pl.Sums) : Value := .tuple #[.agg #[sl a1 r.2.dims.length, .int .i64 r.2.exp, sl a2 r.2.data.length], .int .i64 r.1]
theorem c_made (fl : Nat) (rows cols n exp : Int) (F : Nat) (caps : Array Value) (g : Nat → Nat → Int) (H : AHeap) (hfl : fl ≤ H.length) (hg : goodFn Try.prog F = true)
    (hf : ∀ fl' H' (i j : Nat) R, Pre H H' → i < rows.toNat → j < cols.toNat → R (.int .i64 (g i j)) H' → WCall Try.prog fl' F (#[] ++ #[.int .i64 i, .int .i64 j] ++ caps) H' R)
    (R : Value → AHeap → Prop) (h : ∀ a1 a2 H', St H H' [(a1, ib .i64 (Pl.madeOut rows cols n exp g).2.dims true), (a2, ib .i32 (Pl.madeOut rows cols n exp g).2.data false)] → R (sumsV a1 a2 (Pl.madeOut rows cols n exp g)) H') :
    WCall Try.prog fl 27 #[.int .i64 rows, .int .i64 cols, .int .i64 n, .int .i64 exp, .func (.func F) #[] caps] H R := by
  refine W_call Try.func27 rfl (by kernel_rfl) (Nat.le_of_ble_eq_true rfl) ?_
  have hS := St.refl H
  refine W_forget [(0, .int .i64 rows), (1, .int .i64 cols), (2, .int .i64 n), (3, .int .i64 exp), (4, .func (.func F) #[] caps)] ⟨by kernel_rfl, by kernel_rfl, by kernel_rfl, by kernel_rfl, by kernel_rfl, trivial⟩ fun u_1 => ?_
  refine W_seq ?_
  refine W_reg (List.replicate 2 true) [] (.inr ⟨rfl, by kernel_rfl⟩) ?_
  refine S_new hS (v := fun b => .pointer (some ⟨b, 0, none⟩)) (⟨[.slice none 0 0, .int .i64 0, .slice none 0 0], 0, true, true⟩) (fun b => [(some b, ⟨[.slice none 0 0, .int .i64 0, .slice none 0 0], 0, true, true⟩)]) (fun _ => rfl) (by kernel_rfl) (fun _ => by kernel_rfl) ?_
  intro b_2 H_3 hS_4
  refine D_pure (v := .int .i64 0) (by kernel_rfl) (by kernel_rfl) ?_
  refine D_nil ⟨by kernel_rfl, ?_⟩
  refine W_forget [(0, .int .i64 rows), (1, .int .i64 cols), (2, .int .i64 n), (3, .int .i64 exp), (4, .func (.func F) #[] caps), (10, .pointer (some ⟨b_2, 0, none⟩))] ⟨by kernel_rfl, by kernel_rfl, by kernel_rfl, by kernel_rfl, by kernel_rfl, by kernel_rfl, trivial⟩ fun u_5 => ?_
  refine W_seq ?_
  refine W_reg (List.replicate 7 true) [] (.inr ⟨rfl, by kernel_rfl⟩) ?_
  refine D_pure (v := .int .i64 rows) (by kernel_rfl) (by kernel_rfl) ?_
  refine D_pure (v := .int .i64 cols) (by kernel_rfl) (by kernel_rfl) ?_
  refine S_new hS_4 (v := fun b => .slice (some ⟨b, 0, none⟩) 2 2) (ib .i64 ([rows, cols]) true) (fun b => [(some b_2, ⟨[.slice none 0 0, .int .i64 0, .slice none 0 0], 0, true, true⟩), (some b, ib .i64 ([rows, cols]) true)]) (fun _ => rfl) (by kernel_rfl) (fun _ => by kernel_rfl) ?_
  intro b_6 H_7 hS_8
  refine D_pure (v := .int .i64 exp) (by kernel_rfl) (by kernel_rfl) ?_
  refine D_pure (v := .agg #[.slice (some ⟨b_6, 0, none⟩) 2 2, .int .i64 exp, .slice none 0 0]) (by kernel_rfl) (by kernel_rfl) ?_
  refine S_new hS_8 (v := fun b => .pointer (some ⟨b, 0, none⟩)) (⟨[.slice none 0 0, .int .i64 0, .slice none 0 0], 0, true, true⟩) (fun b => [(some b_2, ⟨[.slice none 0 0, .int .i64 0, .slice none 0 0], 0, true, true⟩), (some b_6, ib .i64 ([rows, cols]) true), (some b, ⟨[.slice none 0 0, .int .i64 0, .slice none 0 0], 0, true, true⟩)]) (fun _ => rfl) (by kernel_rfl) (fun _ => by kernel_rfl) ?_
  intro b_9 H_10 hS_11
  refine S_store hS_11 hfl 2 (ty := 31) (x := (.tmp 12)) (y := (.tmp 19)) (off := 0) (v := .agg #[.slice (some ⟨b_6, 0, none⟩) 2 2, .int .i64 exp, .slice none 0 0]) (⟨[.slice (some ⟨b_6, 0, none⟩) 2 2, .int .i64 exp, .slice none 0 0], 0, true, true⟩) ([(some b_2, ⟨[.slice none 0 0, .int .i64 0, .slice none 0 0], 0, true, true⟩), (some b_6, ib .i64 ([rows, cols]) true), (some b_9, ⟨[.slice (some ⟨b_6, 0, none⟩) 2 2, .int .i64 exp, .slice none 0 0], 0, true, true⟩)]) rfl rfl (by kernel_rfl) (by kernel_rfl) (by kernel_rfl) (by kernel_rfl) (by kernel_rfl) ?_
  intro H_12 hS_13
  refine D_nil ⟨by kernel_rfl, ?_⟩
  refine W_forget [(0, .int .i64 rows), (1, .int .i64 cols), (2, .int .i64 n), (3, .int .i64 exp), (4, .func (.func F) #[] caps), (10, .pointer (some ⟨b_2, 0, none⟩)), (12, .pointer (some ⟨b_9, 0, none⟩))] ⟨by kernel_rfl, by kernel_rfl, by kernel_rfl, by kernel_rfl, by kernel_rfl, by kernel_rfl, by kernel_rfl, trivial⟩ fun u_14 => ?_
  refine W_seq ?_
  refine W_block ?_
  refine W_seq ?_
  refine W_cut (List.replicate 12 true) [] (.inr ⟨rfl, by kernel_rfl⟩) [(0, .int .i64 rows), (1, .int .i64 cols), (4, .func (.func F) #[] caps), (10, .pointer (some ⟨b_2, 0, none⟩)), (12, .pointer (some ⟨b_9, 0, none⟩)), (20, .bool (((!Pl.fits n) || decide (128 < exp)) || decide (exp < -128)))] H_12 ?_ (fun t_15 hk_16 => ?_)
  case refine_1 =>
    refine D_pure (v := .int .i64 n) (by kernel_rfl) (by kernel_rfl) ?_
    refine D_call true rfl (by kernel_rfl) (f := 14) (args := #[.int .i64 n]) (by kernel_rfl) (c_fits _ _ _ _ ?_)
    refine D_pure (v := .bool (!Pl.fits n)) (by kernel_rfl) (by kernel_rfl) ?_
    refine D_pure (v := .bool (!Pl.fits n)) (by kernel_rfl) (by kernel_rfl) ?_
    generalize hb_17 : ((!Pl.fits n) : Bool) = b_18
    cases b_18
    case false =>
      try simp only [Bool.and_eq_true, Bool.or_eq_true, Bool.and_eq_false_iff, Bool.or_eq_false_iff, decide_eq_true_eq, decide_eq_false_iff_not, beq_iff_eq, beq_eq_false_iff_ne, bne_iff_ne, bne_eq_false_iff_eq, Bool.not_eq_true', Bool.not_eq_false', ne_eq] at hb_17
      refine D_pure (v := .int .i64 exp) (by kernel_rfl) (by kernel_rfl) ?_
      refine D_pure (v := .bool (decide (128 < exp))) (by kernel_rfl) (by kernel_rfl) ?_
      refine D_pure (v := .bool (decide (128 < exp))) (by kernel_rfl) (by kernel_rfl) ?_
      refine D_pure (v := .bool (decide (128 < exp))) (by kernel_rfl) (by kernel_rfl) ?_
      generalize hb_19 : (decide (128 < exp) : Bool) = b_20
      cases b_20
      case false =>
        try simp only [Bool.and_eq_true, Bool.or_eq_true, Bool.and_eq_false_iff, Bool.or_eq_false_iff, decide_eq_true_eq, decide_eq_false_iff_not, beq_iff_eq, beq_eq_false_iff_ne, bne_iff_ne, bne_eq_false_iff_eq, Bool.not_eq_true', Bool.not_eq_false', ne_eq] at hb_19
        refine D_pure (v := .int .i64 exp) (by kernel_rfl) (by kernel_rfl) ?_
        refine D_pure (v := .bool (decide (exp < -128))) (by kernel_rfl) (by kernel_rfl) ?_
        refine D_pure (v := .bool (decide (exp < -128))) (by kernel_rfl) (by kernel_rfl) ?_
        refine D_pure (v := .bool (decide (exp < -128))) (by kernel_rfl) (by kernel_rfl) ?_
        exact D_nil ⟨by kernel_rfl, ⟨by kernel_rfl, by kernel_rfl, by kernel_rfl, by kernel_rfl, by kernel_rfl, by kernel_rfl, trivial⟩, rfl⟩
      case true =>
        try simp only [Bool.and_eq_true, Bool.or_eq_true, Bool.and_eq_false_iff, Bool.or_eq_false_iff, decide_eq_true_eq, decide_eq_false_iff_not, beq_iff_eq, beq_eq_false_iff_ne, bne_iff_ne, bne_eq_false_iff_eq, Bool.not_eq_true', Bool.not_eq_false', ne_eq] at hb_19
        refine D_not (by kernel_rfl) ?_
        refine D_not (by kernel_rfl) ?_
        refine D_pure (v := .bool true) (by kernel_rfl) (by kernel_rfl) ?_
        refine D_pure (v := .bool true) (by kernel_rfl) (by kernel_rfl) ?_
        exact D_nil ⟨by kernel_rfl, ⟨by kernel_rfl, by kernel_rfl, by kernel_rfl, by kernel_rfl, by kernel_rfl, by kernel_rfl, trivial⟩, rfl⟩
    case true =>
      try simp only [Bool.and_eq_true, Bool.or_eq_true, Bool.and_eq_false_iff, Bool.or_eq_false_iff, decide_eq_true_eq, decide_eq_false_iff_not, beq_iff_eq, beq_eq_false_iff_ne, bne_iff_ne, bne_eq_false_iff_eq, Bool.not_eq_true', Bool.not_eq_false', ne_eq] at hb_17
      refine D_not (by kernel_rfl) ?_
      refine D_not (by kernel_rfl) ?_
      refine D_pure (v := .bool true) (by kernel_rfl) (by kernel_rfl) ?_
      refine D_pure (v := .bool true) (by kernel_rfl) (by kernel_rfl) ?_
      refine D_not (by kernel_rfl) ?_
      refine D_not (by kernel_rfl) ?_
      refine D_pure (v := .bool true) (by kernel_rfl) (by kernel_rfl) ?_
      refine D_pure (v := .bool true) (by kernel_rfl) (by kernel_rfl) ?_
      exact D_nil ⟨by kernel_rfl, ⟨by kernel_rfl, by kernel_rfl, by kernel_rfl, by kernel_rfl, by kernel_rfl, by kernel_rfl, trivial⟩, rfl⟩
  refine W_forget [(0, .int .i64 rows), (1, .int .i64 cols), (4, .func (.func F) #[] caps), (10, .pointer (some ⟨b_2, 0, none⟩)), (12, .pointer (some ⟨b_9, 0, none⟩)), (20, .bool (((!Pl.fits n) || decide (128 < exp)) || decide (exp < -128)))] hk_16 fun u_21 => ?_
  refine W_cond (b := (((!Pl.fits n) || decide (128 < exp)) || decide (exp < -128))) (by kernel_rfl) (fun hb_22 => ?_) (fun hb_22 => ?_)
  case refine_1 =>
    try simp only [Bool.and_eq_true, Bool.or_eq_true, Bool.and_eq_false_iff, Bool.or_eq_false_iff, decide_eq_true_eq, decide_eq_false_iff_not, beq_iff_eq, beq_eq_false_iff_ne, bne_iff_ne, bne_eq_false_iff_eq, Bool.not_eq_true', Bool.not_eq_false', ne_eq] at hb_22
    refine W_seq ?_
    refine W_reg (List.replicate 3 true) [] (.inr ⟨rfl, by kernel_rfl⟩) ?_
    refine D_pure (v := .agg #[.slice none 0 0, .int .i64 0, .slice none 0 0]) (by kernel_rfl) (by kernel_rfl) ?_
    refine S_store hS_13 hfl 0 (ty := 31) (x := (.tmp 10)) (y := (.tmp 32)) (off := 0) (v := .agg #[.slice none 0 0, .int .i64 0, .slice none 0 0]) (⟨[.slice none 0 0, .int .i64 0, .slice none 0 0], 0, true, true⟩) ([(some b_2, ⟨[.slice none 0 0, .int .i64 0, .slice none 0 0], 0, true, true⟩), (some b_6, ib .i64 ([rows, cols]) true), (some b_9, ⟨[.slice (some ⟨b_6, 0, none⟩) 2 2, .int .i64 exp, .slice none 0 0], 0, true, true⟩)]) rfl rfl (by kernel_rfl) (by kernel_rfl) (by kernel_rfl) (by kernel_rfl) (by kernel_rfl) ?_
    intro H_23 hS_24
    refine D_pure (v := .int .i64 3) (by kernel_rfl) (by kernel_rfl) ?_
    refine D_nil ⟨by kernel_rfl, ?_⟩
    refine W_forget [(10, .pointer (some ⟨b_2, 0, none⟩)), (11, .int .i64 3)] ⟨by kernel_rfl, by kernel_rfl, trivial⟩ fun u_25 => ?_
    refine W_ret ?_
    rw [madeOut_no (e := 3) (madeErr_3 hb_22) (by decide)] at h
    exact ⟨[.agg #[.slice none 0 0, .int .i64 0, .slice none 0 0], .int .i64 3], resultAll_cell (off := 0) (by kernel_rfl) (hS_24.get (i := 0) rfl) (by kernel_rfl) (resultAll_tmp (by kernel_rfl) (rfl)), h _ _ _ (((hS_24.nil 1 true true).nil 1 false true).pick [3, 4] (by decide) rfl)⟩
  case refine_2 =>
    try simp only [Bool.and_eq_true, Bool.or_eq_true, Bool.and_eq_false_iff, Bool.or_eq_false_iff, decide_eq_true_eq, decide_eq_false_iff_not, beq_iff_eq, beq_eq_false_iff_ne, bne_iff_ne, bne_eq_false_iff_eq, Bool.not_eq_true', Bool.not_eq_false', ne_eq] at hb_22
    refine W_seq ?_
    refine W_reg (List.replicate 5 true) [] (.inr ⟨rfl, by kernel_rfl⟩) ?_
    refine D_pure (v := .pointer (some ⟨b_9, 0, none⟩)) (by kernel_rfl) (by kernel_rfl) ?_
    refine S_load hS_13 2 (ty := 24) (x := (.tmp 34)) (off := 0) (v := .slice (some ⟨b_6, 0, none⟩) 2 2) rfl (by kernel_rfl) (by kernel_rfl) (by kernel_rfl) (by kernel_rfl) ?_
    refine D_call true rfl (by kernel_rfl) (f := 37) (args := #[.slice (some ⟨b_6, 0, none⟩) 2 2]) (by kernel_rfl) (c_smay _ _ _ _ _ (hS_13.ri (i := 1) (k := .i64) (l := [rows, cols]) (ex := true) rfl (by first | decide | omega | (simp only [List.length_append, List.length_cons, List.length_nil, List.length_replicate, List.length_set, List.length_map, List.length_range, Pl.madeTo_length]; omega))) _ ?_)
    refine D_pure (v := .bool (!decide (0 < Pl.size ([rows, cols])))) (by kernel_rfl) (by kernel_rfl) ?_
    refine D_pure (v := .bool (!decide (0 < Pl.size ([rows, cols])))) (by kernel_rfl) (by kernel_rfl) ?_
    refine D_nil ⟨by kernel_rfl, ?_⟩
    refine W_forget [(0, .int .i64 rows), (1, .int .i64 cols), (4, .func (.func F) #[] caps), (10, .pointer (some ⟨b_2, 0, none⟩)), (12, .pointer (some ⟨b_9, 0, none⟩)), (33, .bool (!decide (0 < Pl.size ([rows, cols]))))] ⟨by kernel_rfl, by kernel_rfl, by kernel_rfl, by kernel_rfl, by kernel_rfl, by kernel_rfl, trivial⟩ fun u_26 => ?_
    refine W_cond (b := (!decide (0 < Pl.size ([rows, cols])))) (by kernel_rfl) (fun hb_27 => ?_) (fun hb_27 => ?_)
    case refine_1 =>
      try simp only [Bool.and_eq_true, Bool.or_eq_true, Bool.and_eq_false_iff, Bool.or_eq_false_iff, decide_eq_true_eq, decide_eq_false_iff_not, beq_iff_eq, beq_eq_false_iff_ne, bne_iff_ne, bne_eq_false_iff_eq, Bool.not_eq_true', Bool.not_eq_false', ne_eq] at hb_27
      refine W_seq ?_
      refine W_reg (List.replicate 3 true) [] (.inr ⟨rfl, by kernel_rfl⟩) ?_
      refine D_pure (v := .agg #[.slice none 0 0, .int .i64 0, .slice none 0 0]) (by kernel_rfl) (by kernel_rfl) ?_
      refine S_store hS_13 hfl 0 (ty := 31) (x := (.tmp 10)) (y := (.tmp 38)) (off := 0) (v := .agg #[.slice none 0 0, .int .i64 0, .slice none 0 0]) (⟨[.slice none 0 0, .int .i64 0, .slice none 0 0], 0, true, true⟩) ([(some b_2, ⟨[.slice none 0 0, .int .i64 0, .slice none 0 0], 0, true, true⟩), (some b_6, ib .i64 ([rows, cols]) true), (some b_9, ⟨[.slice (some ⟨b_6, 0, none⟩) 2 2, .int .i64 exp, .slice none 0 0], 0, true, true⟩)]) rfl rfl (by kernel_rfl) (by kernel_rfl) (by kernel_rfl) (by kernel_rfl) (by kernel_rfl) ?_
      intro H_28 hS_29
      refine D_pure (v := .int .i64 1) (by kernel_rfl) (by kernel_rfl) ?_
      refine D_nil ⟨by kernel_rfl, ?_⟩
      refine W_forget [(10, .pointer (some ⟨b_2, 0, none⟩)), (11, .int .i64 1)] ⟨by kernel_rfl, by kernel_rfl, trivial⟩ fun u_30 => ?_
      refine W_ret ?_
      rw [madeOut_no (e := 1) (madeErr_1 hb_22 hb_27) (by decide)] at h
      exact ⟨[.agg #[.slice none 0 0, .int .i64 0, .slice none 0 0], .int .i64 1], resultAll_cell (off := 0) (by kernel_rfl) (hS_29.get (i := 0) rfl) (by kernel_rfl) (resultAll_tmp (by kernel_rfl) (rfl)), h _ _ _ (((hS_29.nil 1 true true).nil 1 false true).pick [3, 4] (by decide) rfl)⟩
    case refine_2 =>
      try simp only [Bool.and_eq_true, Bool.or_eq_true, Bool.and_eq_false_iff, Bool.or_eq_false_iff, decide_eq_true_eq, decide_eq_false_iff_not, beq_iff_eq, beq_eq_false_iff_ne, bne_iff_ne, bne_eq_false_iff_eq, Bool.not_eq_true', Bool.not_eq_false', ne_eq] at hb_27
      refine W_skip ?_
      refine W_seq ?_
      refine W_seq ?_
      have hz2 := Pl.size2 rows cols (by first | assumption | omega)
      have hrc : rows.toNat * cols.toNat ≤ 8192 := by have h1 : ((rows.toNat * cols.toNat : Nat) : Int) = rows * cols := (by rw [Int.natCast_mul, Int.toNat_of_nonneg (by omega), Int.toNat_of_nonneg (by omega)]); omega
      refine W_reg (List.replicate 2 true) [] (.inr ⟨rfl, by kernel_rfl⟩) ?_
      refine D_pure (v := .int .i64 rows) (by kernel_rfl) (by kernel_rfl) ?_
      refine D_pure (v := .int .i64 0) (by kernel_rfl) (by kernel_rfl) ?_
      refine D_nil ⟨by kernel_rfl, ?_⟩
      refine W_forget [(1, .int .i64 cols), (4, .func (.func F) #[] caps), (10, .pointer (some ⟨b_2, 0, none⟩)), (12, .pointer (some ⟨b_9, 0, none⟩)), (39, .int .i64 rows), (40, .int .i64 0)] ⟨by kernel_rfl, by kernel_rfl, by kernel_rfl, by kernel_rfl, by kernel_rfl, by kernel_rfl, trivial⟩ fun u_31 => ?_
      refine W_block ?_
      have hS_32 : St H H_12 [(some b_2, ⟨[.slice none 0 0, .int .i64 0, .slice none 0 0], 0, true, true⟩), (some b_6, ib .i64 ([rows, cols]) true), (some b_9, ⟨[.slice (some ⟨b_6, 0, none⟩) 2 2, .int .i64 exp, .slice none 0 0], 0, true, true⟩), (none, ib .i32 ([] : List Int) false)] := hS_13.nil 1 false true
      refine W_loop (fun kq t' H' => ∃ uq, ∃ (r : Nat), ∃ (a1 : Option Nat),  St H H' [(some b_2, ⟨[.slice none 0 0, .int .i64 0, .slice none 0 0], 0, true, true⟩), (some b_6, ib .i64 ([rows, cols]) true), (some b_9, ⟨[.slice (some ⟨b_6, 0, none⟩) 2 2, .int .i64 exp, .slice (a1.map fun b => ⟨b, 0, none⟩) ((Pl.madeTo cols.toNat (r * cols.toNat) g).length) ((Pl.madeTo cols.toNat (r * cols.toNat) g).length)], 0, true, true⟩), (a1, ib .i32 (Pl.madeTo cols.toNat (r * cols.toNat) g) false)] ∧ t' = tl [(1, .int .i64 cols), (4, .func (.func F) #[] caps), (10, .pointer (some ⟨b_2, 0, none⟩)), (12, .pointer (some ⟨b_9, 0, none⟩)), (39, .int .i64 rows), (40, .int .i64 (r : Int))] uq ∧ kq = rows.toNat - r ∧ (r ≤ rows.toNat)) (rows.toNat) ?_ ?_
      case refine_1 => exact ⟨_, 0, none,  (by rw [Nat.zero_mul]; exact (hS_32.pick [0, 1, 2, 3] (by decide) rfl)), tl_keep (l := [(1, .int .i64 cols), (4, .func (.func F) #[] caps), (10, .pointer (some ⟨b_2, 0, none⟩)), (12, .pointer (some ⟨b_9, 0, none⟩)), (39, .int .i64 rows), (40, .int .i64 (0 : Int))]) ⟨by kernel_rfl, by kernel_rfl, by kernel_rfl, by kernel_rfl, by kernel_rfl, by kernel_rfl, trivial⟩, by omega, by omega⟩
      rintro kq _ H_33 ⟨uq, r, a1,  hS_34, rfl, rfl, hr⟩
      try clear kq
      refine W_seq ?_
      refine W_reg (List.replicate 1 true) [] (.inr ⟨rfl, by kernel_rfl⟩) ?_
      refine D_pure (v := .bool (decide ((r : Int) < rows))) (by kernel_rfl) (by kernel_rfl) ?_
      refine D_nil ⟨by kernel_rfl, ?_⟩
      refine W_forget [(1, .int .i64 cols), (4, .func (.func F) #[] caps), (10, .pointer (some ⟨b_2, 0, none⟩)), (12, .pointer (some ⟨b_9, 0, none⟩)), (39, .int .i64 rows), (40, .int .i64 (r : Int)), (41, .bool (decide ((r : Int) < rows)))] ⟨by kernel_rfl, by kernel_rfl, by kernel_rfl, by kernel_rfl, by kernel_rfl, by kernel_rfl, by kernel_rfl, trivial⟩ fun u_35 => ?_
      refine W_seq ?_
      refine W_cond (b := decide ((r : Int) < rows)) (by kernel_rfl) (fun hb_36 => ?_) (fun hb_36 => ?_)
      case refine_1 =>
        try simp only [Bool.and_eq_true, Bool.or_eq_true, Bool.and_eq_false_iff, Bool.or_eq_false_iff, decide_eq_true_eq, decide_eq_false_iff_not, beq_iff_eq, beq_eq_false_iff_ne, bne_iff_ne, bne_eq_false_iff_eq, Bool.not_eq_true', Bool.not_eq_false', ne_eq] at hb_36
        refine W_skip ?_
        refine W_seq ?_
        refine W_block ?_
        refine W_seq ?_
        refine W_reg (List.replicate 2 true) [] (.inr ⟨rfl, by kernel_rfl⟩) ?_
        refine D_pure (v := .int .i64 (r : Int)) (by kernel_rfl) (by kernel_rfl) ?_
        refine D_pure (v := .int .i64 (r : Int)) (by kernel_rfl) (by kernel_rfl) ?_
        refine D_nil ⟨by kernel_rfl, ?_⟩
        refine W_forget [(1, .int .i64 cols), (4, .func (.func F) #[] caps), (10, .pointer (some ⟨b_2, 0, none⟩)), (12, .pointer (some ⟨b_9, 0, none⟩)), (13, .int .i64 (r : Int)), (39, .int .i64 rows), (40, .int .i64 (r : Int))] ⟨by kernel_rfl, by kernel_rfl, by kernel_rfl, by kernel_rfl, by kernel_rfl, by kernel_rfl, by kernel_rfl, trivial⟩ fun u_37 => ?_
        refine W_seq ?_
        refine W_reg (List.replicate 2 true) [] (.inr ⟨rfl, by kernel_rfl⟩) ?_
        refine D_pure (v := .int .i64 cols) (by kernel_rfl) (by kernel_rfl) ?_
        refine D_pure (v := .int .i64 0) (by kernel_rfl) (by kernel_rfl) ?_
        refine D_nil ⟨by kernel_rfl, ?_⟩
        refine W_forget [(1, .int .i64 cols), (4, .func (.func F) #[] caps), (10, .pointer (some ⟨b_2, 0, none⟩)), (12, .pointer (some ⟨b_9, 0, none⟩)), (13, .int .i64 (r : Int)), (39, .int .i64 rows), (40, .int .i64 (r : Int)), (43, .int .i64 cols), (44, .int .i64 0)] ⟨by kernel_rfl, by kernel_rfl, by kernel_rfl, by kernel_rfl, by kernel_rfl, by kernel_rfl, by kernel_rfl, by kernel_rfl, by kernel_rfl, trivial⟩ fun u_38 => ?_
        refine W_block ?_
        refine W_loop (fun kq t' H' => ∃ uq, ∃ (c : Nat), ∃ (a2 : Option Nat),  St H H' [(some b_2, ⟨[.slice none 0 0, .int .i64 0, .slice none 0 0], 0, true, true⟩), (some b_6, ib .i64 ([rows, cols]) true), (some b_9, ⟨[.slice (some ⟨b_6, 0, none⟩) 2 2, .int .i64 exp, .slice (a2.map fun b => ⟨b, 0, none⟩) ((Pl.madeTo cols.toNat (r * cols.toNat + c) g).length) ((Pl.madeTo cols.toNat (r * cols.toNat + c) g).length)], 0, true, true⟩), (a2, ib .i32 (Pl.madeTo cols.toNat (r * cols.toNat + c) g) false)] ∧ t' = tl [(1, .int .i64 cols), (4, .func (.func F) #[] caps), (10, .pointer (some ⟨b_2, 0, none⟩)), (12, .pointer (some ⟨b_9, 0, none⟩)), (13, .int .i64 (r : Int)), (39, .int .i64 rows), (40, .int .i64 (r : Int)), (43, .int .i64 cols), (44, .int .i64 (c : Int))] uq ∧ kq = cols.toNat - c ∧ (c ≤ cols.toNat)) (cols.toNat) ?_ ?_
        case refine_1 => exact ⟨_, 0, a1,  (hS_34.pick [0, 1, 2, 3] (by decide) rfl), tl_keep (l := [(1, .int .i64 cols), (4, .func (.func F) #[] caps), (10, .pointer (some ⟨b_2, 0, none⟩)), (12, .pointer (some ⟨b_9, 0, none⟩)), (13, .int .i64 (r : Int)), (39, .int .i64 rows), (40, .int .i64 (r : Int)), (43, .int .i64 cols), (44, .int .i64 (0 : Int))]) ⟨by kernel_rfl, by kernel_rfl, by kernel_rfl, by kernel_rfl, by kernel_rfl, by kernel_rfl, by kernel_rfl, by kernel_rfl, by kernel_rfl, trivial⟩, by omega, by omega⟩
        rintro kq _ H_39 ⟨uq, c, a2,  hS_40, rfl, rfl, hc⟩
        try clear kq
        refine W_seq ?_
        refine W_reg (List.replicate 1 true) [] (.inr ⟨rfl, by kernel_rfl⟩) ?_
        refine D_pure (v := .bool (decide ((c : Int) < cols))) (by kernel_rfl) (by kernel_rfl) ?_
        refine D_nil ⟨by kernel_rfl, ?_⟩
        refine W_forget [(1, .int .i64 cols), (4, .func (.func F) #[] caps), (10, .pointer (some ⟨b_2, 0, none⟩)), (12, .pointer (some ⟨b_9, 0, none⟩)), (13, .int .i64 (r : Int)), (39, .int .i64 rows), (40, .int .i64 (r : Int)), (43, .int .i64 cols), (44, .int .i64 (c : Int)), (45, .bool (decide ((c : Int) < cols)))] ⟨by kernel_rfl, by kernel_rfl, by kernel_rfl, by kernel_rfl, by kernel_rfl, by kernel_rfl, by kernel_rfl, by kernel_rfl, by kernel_rfl, by kernel_rfl, trivial⟩ fun u_41 => ?_
        refine W_seq ?_
        refine W_cond (b := decide ((c : Int) < cols)) (by kernel_rfl) (fun hb_42 => ?_) (fun hb_42 => ?_)
        case refine_1 =>
          try simp only [Bool.and_eq_true, Bool.or_eq_true, Bool.and_eq_false_iff, Bool.or_eq_false_iff, decide_eq_true_eq, decide_eq_false_iff_not, beq_iff_eq, beq_eq_false_iff_ne, bne_iff_ne, bne_eq_false_iff_eq, Bool.not_eq_true', Bool.not_eq_false', ne_eq] at hb_42
          refine W_skip ?_
          refine W_seq ?_
          refine W_block ?_
          refine W_seq ?_
          refine W_reg (List.replicate 2 true) [] (.inr ⟨rfl, by kernel_rfl⟩) ?_
          refine D_pure (v := .int .i64 (c : Int)) (by kernel_rfl) (by kernel_rfl) ?_
          refine D_pure (v := .int .i64 (c : Int)) (by kernel_rfl) (by kernel_rfl) ?_
          refine D_nil ⟨by kernel_rfl, ?_⟩
          refine W_forget [(1, .int .i64 cols), (4, .func (.func F) #[] caps), (10, .pointer (some ⟨b_2, 0, none⟩)), (12, .pointer (some ⟨b_9, 0, none⟩)), (13, .int .i64 (r : Int)), (14, .int .i64 (c : Int)), (39, .int .i64 rows), (40, .int .i64 (r : Int)), (43, .int .i64 cols), (44, .int .i64 (c : Int))] ⟨by kernel_rfl, by kernel_rfl, by kernel_rfl, by kernel_rfl, by kernel_rfl, by kernel_rfl, by kernel_rfl, by kernel_rfl, by kernel_rfl, by kernel_rfl, trivial⟩ fun u_43 => ?_
          refine W_reg [false, false, false, false, false, false, false, false, false, false, false] [] (.inl ⟨rfl, by kernel_rfl⟩) ?_
          refine D_pure (v := .pointer (some ⟨b_9, 2, none⟩)) (by kernel_rfl) (by kernel_rfl) ?_
          refine S_load hS_40 2 (ty := 29) (x := (.tmp 47)) (off := 2) (v := .slice (a2.map fun b => ⟨b, 0, none⟩) ((Pl.madeTo cols.toNat (r * cols.toNat + c) g).length) ((Pl.madeTo cols.toNat (r * cols.toNat + c) g).length)) rfl (by kernel_rfl) (by kernel_rfl) (by kernel_rfl) (by kernel_rfl) ?_
          refine D_pure (v := .func (.func F) #[] caps) (by kernel_rfl) (by kernel_rfl) ?_
          refine D_pure (v := .int .i64 (r : Int)) (by kernel_rfl) (by kernel_rfl) ?_
          refine D_pure (v := .int .i64 (c : Int)) (by kernel_rfl) (by kernel_rfl) ?_
          refine D_call false rfl (by kernel_rfl) (prim_callf (f' := F) (caps := caps) (xs := #[.int .i64 (r : Int), .int .i64 (c : Int)]) (f := (.tmp 49)) (by kernel_rfl) (by kernel_rfl) hg (by kernel_rfl)) (hf _ _ r c _ hS_40.pre (by omega) (by omega) ?_)
          refine D_opw (v := .int .i32 (Pl.w32 (g r c))) (v' := .int .i32 (IntKind.i32.wrap (g r c))) (by kernel_rfl) (by kernel_rfl) (iv (w32_wrap _)) ?_
          refine S_new hS_40 (v := fun b => .slice (some ⟨b, 0, none⟩) 1 1) (ib .i32 ([Pl.w32 (g r c)]) true) (fun b => [(some b_2, ⟨[.slice none 0 0, .int .i64 0, .slice none 0 0], 0, true, true⟩), (some b_6, ib .i64 ([rows, cols]) true), (some b_9, ⟨[.slice (some ⟨b_6, 0, none⟩) 2 2, .int .i64 exp, .slice (a2.map fun b => ⟨b, 0, none⟩) ((Pl.madeTo cols.toNat (r * cols.toNat + c) g).length) ((Pl.madeTo cols.toNat (r * cols.toNat + c) g).length)], 0, true, true⟩), (a2, ib .i32 (Pl.madeTo cols.toNat (r * cols.toNat + c) g) false), (some b, ib .i32 ([Pl.w32 (g r c)]) true)]) (fun _ => rfl) (by kernel_rfl) (fun _ => by kernel_rfl) ?_
          intro b_44 H_45 hS_46
          have hm := Pl.row_lt r rows.toNat cols.toNat c _ (by omega) (by omega) (Nat.le_refl _)
          refine S_appendI hS_46 hfl 3 (a := a2) (l := Pl.madeTo cols.toNat (r * cols.toNat + c) g) (l2 := [Pl.w32 (g r c)]) (k := .i32) (v := .slice (some ⟨b_44, 0, none⟩) 1 1) (st := 29) (xt := 29) (x := (.tmp 48)) (y := (.tmp 54)) (fun a => [(some b_2, ⟨[.slice none 0 0, .int .i64 0, .slice none 0 0], 0, true, true⟩), (some b_6, ib .i64 ([rows, cols]) true), (some b_9, ⟨[.slice (some ⟨b_6, 0, none⟩) 2 2, .int .i64 exp, .slice (a2.map fun b => ⟨b, 0, none⟩) ((Pl.madeTo cols.toNat (r * cols.toNat + c) g).length) ((Pl.madeTo cols.toNat (r * cols.toNat + c) g).length)], 0, true, true⟩), (a, ib .i32 ((Pl.madeTo cols.toNat (r * cols.toNat + c) g) ++ ([Pl.w32 (g r c)])) false), (some b_44, ib .i32 ([Pl.w32 (g r c)]) true)]) (nn := (Pl.madeTo cols.toNat (r * cols.toNat + c) g).length) (m := 1) (by first | rfl | simp only [List.length_append, List.length_cons, List.length_nil, List.length_replicate, List.length_set, Pl.madeTo_length] | (simp only [List.length_append, List.length_cons, List.length_nil, List.length_replicate, List.length_set, Pl.madeTo_length]; omega)) (by first | rfl | simp only [List.length_append, List.length_cons, List.length_nil, List.length_replicate, List.length_set, Pl.madeTo_length] | (simp only [List.length_append, List.length_cons, List.length_nil, List.length_replicate, List.length_set, Pl.madeTo_length]; omega)) (.inr rfl) rfl rfl (by kernel_rfl) rfl rfl rfl (by kernel_rfl) (by kernel_rfl) aty29 aty29 (by kernel_rfl) rfl (fun _ => rfl) (firstA_ib hS_46 (i := 4) rfl (by first | rfl | simp only [List.length_append, List.length_cons, List.length_nil, List.length_replicate, List.length_set, Pl.madeTo_length] | (simp only [List.length_append, List.length_cons, List.length_nil, List.length_replicate, List.length_set, Pl.madeTo_length]; omega))) azero21 (by simp only [List.length_append, List.length_cons, List.length_nil, List.length_replicate, List.length_set, Pl.madeTo_length]; omega) (by simp only [List.length_append, List.length_cons, List.length_nil, List.length_replicate, List.length_set, Pl.madeTo_length]; omega) ?_
          intro a_47 H_48 hS_49
          refine D_pure (v := .pointer (some ⟨b_9, 2, none⟩)) (by kernel_rfl) (by kernel_rfl) ?_
          refine S_store hS_49 hfl 2 (ty := 29) (x := (.tmp 56)) (y := (.tmp 55)) (off := 2) (v := .slice (a_47.map fun b => ⟨b, 0, none⟩) (((Pl.madeTo cols.toNat (r * cols.toNat + c) g) ++ ([Pl.w32 (g r c)])).length) (((Pl.madeTo cols.toNat (r * cols.toNat + c) g) ++ ([Pl.w32 (g r c)])).length)) (⟨[.slice (some ⟨b_6, 0, none⟩) 2 2, .int .i64 exp, .slice (a_47.map fun b => ⟨b, 0, none⟩) (((Pl.madeTo cols.toNat (r * cols.toNat + c) g) ++ ([Pl.w32 (g r c)])).length) (((Pl.madeTo cols.toNat (r * cols.toNat + c) g) ++ ([Pl.w32 (g r c)])).length)], 0, true, true⟩) ([(some b_2, ⟨[.slice none 0 0, .int .i64 0, .slice none 0 0], 0, true, true⟩), (some b_6, ib .i64 ([rows, cols]) true), (some b_9, ⟨[.slice (some ⟨b_6, 0, none⟩) 2 2, .int .i64 exp, .slice (a_47.map fun b => ⟨b, 0, none⟩) (((Pl.madeTo cols.toNat (r * cols.toNat + c) g) ++ ([Pl.w32 (g r c)])).length) (((Pl.madeTo cols.toNat (r * cols.toNat + c) g) ++ ([Pl.w32 (g r c)])).length)], 0, true, true⟩), (a_47, ib .i32 ((Pl.madeTo cols.toNat (r * cols.toNat + c) g) ++ ([Pl.w32 (g r c)])) false), (some b_44, ib .i32 ([Pl.w32 (g r c)]) true)]) rfl rfl (by kernel_rfl) (by kernel_rfl) (by kernel_rfl) (by kernel_rfl) (by kernel_rfl) ?_
          intro H_50 hS_51
          refine D_nil ⟨by kernel_rfl, ?_⟩
          refine W_forget [(1, .int .i64 cols), (4, .func (.func F) #[] caps), (10, .pointer (some ⟨b_2, 0, none⟩)), (12, .pointer (some ⟨b_9, 0, none⟩)), (13, .int .i64 (r : Int)), (39, .int .i64 rows), (40, .int .i64 (r : Int)), (43, .int .i64 cols), (44, .int .i64 (c : Int))] ⟨by kernel_rfl, by kernel_rfl, by kernel_rfl, by kernel_rfl, by kernel_rfl, by kernel_rfl, by kernel_rfl, by kernel_rfl, by kernel_rfl, trivial⟩ fun u_52 => ?_
          refine W_reg (List.replicate 2 true) [] (.inr ⟨rfl, by kernel_rfl⟩) ?_
          refine D_opw (v := .int .i64 ((c : Int) + 1)) (v' := .int .i64 (IntKind.i64.wrap ((c : Int) + 1))) (by kernel_rfl) (by kernel_rfl) (wv (wrap_i64 _ (by omega) (by omega))) ?_
          refine D_pure (v := .int .i64 ((c : Int) + 1)) (by kernel_rfl) (by kernel_rfl) ?_
          refine D_nil ⟨by kernel_rfl, ?_⟩
          have hq_53 : (Pl.madeTo cols.toNat (r * cols.toNat + c) g) ++ ([Pl.w32 (g r c)]) = Pl.madeTo cols.toNat (r * cols.toNat + (c + 1)) g := (Pl.madeTo_succ _ _ _ _ (by omega)).symm
          have hS_54 : St H H_50 [(some b_2, ⟨[.slice none 0 0, .int .i64 0, .slice none 0 0], 0, true, true⟩), (some b_6, ib .i64 ([rows, cols]) true), (some b_9, ⟨[.slice (some ⟨b_6, 0, none⟩) 2 2, .int .i64 exp, .slice (a_47.map fun b => ⟨b, 0, none⟩) ((Pl.madeTo cols.toNat (r * cols.toNat + (c + 1)) g).length) ((Pl.madeTo cols.toNat (r * cols.toNat + (c + 1)) g).length)], 0, true, true⟩), (a_47, ib .i32 (Pl.madeTo cols.toNat (r * cols.toNat + (c + 1)) g) false), (some b_44, ib .i32 ([Pl.w32 (g r c)]) true)] := by (have h0 := hS_51; rw [hq_53] at h0; exact h0)
          refine ⟨_, ?_, _, c + 1, a_47,  (hS_54.pick [0, 1, 2, 3] (by decide) rfl), tl_keep (l := [(1, .int .i64 cols), (4, .func (.func F) #[] caps), (10, .pointer (some ⟨b_2, 0, none⟩)), (12, .pointer (some ⟨b_9, 0, none⟩)), (13, .int .i64 (r : Int)), (39, .int .i64 rows), (40, .int .i64 (r : Int)), (43, .int .i64 cols), (44, .int .i64 (((c + 1) : Nat) : Int))]) ⟨by kernel_rfl, by kernel_rfl, by kernel_rfl, by kernel_rfl, by kernel_rfl, by kernel_rfl, by kernel_rfl, by kernel_rfl, iv (k := .i64) (a := (c : Int) + 1) (by omega), trivial⟩, rfl, by omega⟩
          omega
        case refine_2 =>
          try simp only [Bool.and_eq_true, Bool.or_eq_true, Bool.and_eq_false_iff, Bool.or_eq_false_iff, decide_eq_true_eq, decide_eq_false_iff_not, beq_iff_eq, beq_eq_false_iff_ne, bne_iff_ne, bne_eq_false_iff_eq, Bool.not_eq_true', Bool.not_eq_false', ne_eq] at hb_42
          refine W_exit ?_
          refine W_reg (List.replicate 2 true) [] (.inr ⟨rfl, by kernel_rfl⟩) ?_
          refine D_opw (v := .int .i64 ((r : Int) + 1)) (v' := .int .i64 (IntKind.i64.wrap ((r : Int) + 1))) (by kernel_rfl) (by kernel_rfl) (wv (wrap_i64 _ (by omega) (by omega))) ?_
          refine D_pure (v := .int .i64 ((r : Int) + 1)) (by kernel_rfl) (by kernel_rfl) ?_
          refine D_nil ⟨by kernel_rfl, ?_⟩
          have hq_55 : Pl.madeTo cols.toNat (r * cols.toNat + c) g = Pl.madeTo cols.toNat ((r + 1) * cols.toNat) g := (by rw [show c = cols.toNat by omega, Nat.add_mul, Nat.one_mul])
          have hS_56 : St H H_39 [(some b_2, ⟨[.slice none 0 0, .int .i64 0, .slice none 0 0], 0, true, true⟩), (some b_6, ib .i64 ([rows, cols]) true), (some b_9, ⟨[.slice (some ⟨b_6, 0, none⟩) 2 2, .int .i64 exp, .slice (a2.map fun b => ⟨b, 0, none⟩) ((Pl.madeTo cols.toNat ((r + 1) * cols.toNat) g).length) ((Pl.madeTo cols.toNat ((r + 1) * cols.toNat) g).length)], 0, true, true⟩), (a2, ib .i32 (Pl.madeTo cols.toNat ((r + 1) * cols.toNat) g) false)] := by (have h0 := hS_40; rw [hq_55] at h0; exact h0)
          refine ⟨_, ?_, _, r + 1, a2,  (hS_56.pick [0, 1, 2, 3] (by decide) rfl), tl_keep (l := [(1, .int .i64 cols), (4, .func (.func F) #[] caps), (10, .pointer (some ⟨b_2, 0, none⟩)), (12, .pointer (some ⟨b_9, 0, none⟩)), (39, .int .i64 rows), (40, .int .i64 (((r + 1) : Nat) : Int))]) ⟨by kernel_rfl, by kernel_rfl, by kernel_rfl, by kernel_rfl, by kernel_rfl, iv (k := .i64) (a := (r : Int) + 1) (by omega), trivial⟩, rfl, by omega⟩
          omega
      case refine_2 =>
        try simp only [Bool.and_eq_true, Bool.or_eq_true, Bool.and_eq_false_iff, Bool.or_eq_false_iff, decide_eq_true_eq, decide_eq_false_iff_not, beq_iff_eq, beq_eq_false_iff_ne, bne_iff_ne, bne_eq_false_iff_eq, Bool.not_eq_true', Bool.not_eq_false', ne_eq] at hb_36
        refine W_exit ?_
        refine W_seq ?_
        refine W_reg (List.replicate 3 true) [] (.inr ⟨rfl, by kernel_rfl⟩) ?_
        refine S_load hS_34 2 (ty := 31) (x := (.tmp 12)) (off := 0) (v := .agg #[.slice (some ⟨b_6, 0, none⟩) 2 2, .int .i64 exp, .slice (a1.map fun b => ⟨b, 0, none⟩) ((Pl.madeTo cols.toNat (r * cols.toNat) g).length) ((Pl.madeTo cols.toNat (r * cols.toNat) g).length)]) rfl (by kernel_rfl) (by kernel_rfl) (by kernel_rfl) (by kernel_rfl) ?_
        refine S_store hS_34 hfl 0 (ty := 31) (x := (.tmp 10)) (y := (.tmp 59)) (off := 0) (v := .agg #[.slice (some ⟨b_6, 0, none⟩) 2 2, .int .i64 exp, .slice (a1.map fun b => ⟨b, 0, none⟩) ((Pl.madeTo cols.toNat (r * cols.toNat) g).length) ((Pl.madeTo cols.toNat (r * cols.toNat) g).length)]) (⟨[.slice (some ⟨b_6, 0, none⟩) 2 2, .int .i64 exp, .slice (a1.map fun b => ⟨b, 0, none⟩) ((Pl.madeTo cols.toNat (r * cols.toNat) g).length) ((Pl.madeTo cols.toNat (r * cols.toNat) g).length)], 0, true, true⟩) ([(some b_2, ⟨[.slice (some ⟨b_6, 0, none⟩) 2 2, .int .i64 exp, .slice (a1.map fun b => ⟨b, 0, none⟩) ((Pl.madeTo cols.toNat (r * cols.toNat) g).length) ((Pl.madeTo cols.toNat (r * cols.toNat) g).length)], 0, true, true⟩), (some b_6, ib .i64 ([rows, cols]) true), (some b_9, ⟨[.slice (some ⟨b_6, 0, none⟩) 2 2, .int .i64 exp, .slice (a1.map fun b => ⟨b, 0, none⟩) ((Pl.madeTo cols.toNat (r * cols.toNat) g).length) ((Pl.madeTo cols.toNat (r * cols.toNat) g).length)], 0, true, true⟩), (a1, ib .i32 (Pl.madeTo cols.toNat (r * cols.toNat) g) false)]) rfl rfl (by kernel_rfl) (by kernel_rfl) (by kernel_rfl) (by kernel_rfl) (by kernel_rfl) ?_
        intro H_57 hS_58
        refine D_pure (v := .int .i64 0) (by kernel_rfl) (by kernel_rfl) ?_
        refine D_nil ⟨by kernel_rfl, ?_⟩
        refine W_forget [(10, .pointer (some ⟨b_2, 0, none⟩)), (11, .int .i64 0)] ⟨by kernel_rfl, by kernel_rfl, trivial⟩ fun u_59 => ?_
        refine W_ret ?_
        have hrr_60 : r = rows.toNat := by omega
        rw [hrr_60] at hS_58
        rw [madeOut_ok (madeErr_0 hb_22 hb_27)] at h
        exact ⟨[.agg #[.slice (some ⟨b_6, 0, none⟩) 2 2, .int .i64 exp, .slice (a1.map fun b => ⟨b, 0, none⟩) ((Pl.madeTo cols.toNat (rows.toNat * cols.toNat) g).length) ((Pl.madeTo cols.toNat (rows.toNat * cols.toNat) g).length)], .int .i64 0], resultAll_cell (off := 0) (by kernel_rfl) (hS_58.get (i := 0) rfl) (by kernel_rfl) (resultAll_tmp (by kernel_rfl) (rfl)), h _ _ _ (hS_58.pick [1, 3] (by decide) rfl)⟩
theorem c_fwd1 (fl : Nat) (b2 b3 b4 b5 b6 : Nat) (vb vx vw : TV) (E N : Int) (n r o : Nat) (hN : N = (n : Int)) (H : AHeap) (hb2 : blk? H b2 = some ⟨vb.cells, 0, true, true⟩) (hb3 : blk? H b3 = some ⟨[.int .i64 E], 0, true, true⟩) (hb4 : blk? H b4 = some ⟨[.int .i64 N], 0, true, true⟩)
    (hb5 : blk? H b5 = some ⟨vx.cells, 0, true, true⟩) (hb6 : blk? H b6 = some ⟨vw.cells, 0, true, true⟩) (hvb : vb.ok .i8 H) (hvx : vx.ok .i8 H) (hvw : vw.ok .i8 H) (h8b : Pl.All8 vb.data) (h8x : Pl.All8 vx.data) (h8w : Pl.All8 vw.data)
    (hn : n ≤ 8192) (hor : o < vb.data.length) (hxr : r * n + n ≤ vx.data.length) (hwo : o * n + n ≤ vw.data.length) (R : Value → AHeap → Prop) (h : R (.int .i64 (Pl.fwdAt n E vx.data vw.data vb.data vb.exp r o)) H) :
    WCall Try.prog fl 28 #[.int .i64 (r : Int), .int .i64 (o : Int), .pointer (some ⟨b2, 0, none⟩), .pointer (some ⟨b3, 0, none⟩), .pointer (some ⟨b4, 0, none⟩), .pointer (some ⟨b5, 0, none⟩), .pointer (some ⟨b6, 0, none⟩)] H R := by
  subst hN
  have hlb := hvb.data.len
  refine W_call Try.func28 rfl (by kernel_rfl) (Nat.le_of_ble_eq_true rfl) ?_
  have hS := St.refl H
  refine W_forget [(0, .int .i64 (r : Int)), (1, .int .i64 (o : Int)), (2, .pointer (some ⟨b2, 0, none⟩)), (3, .pointer (some ⟨b3, 0, none⟩)), (4, .pointer (some ⟨b4, 0, none⟩)), (5, .pointer (some ⟨b5, 0, none⟩)), (6, .pointer (some ⟨b6, 0, none⟩))] ⟨by kernel_rfl, by kernel_rfl, by kernel_rfl, by kernel_rfl, by kernel_rfl, by kernel_rfl, by kernel_rfl, trivial⟩ fun u_1 => ?_
  refine W_seq ?_
  refine W_reg (List.replicate 1 true) [] (.inr ⟨rfl, by kernel_rfl⟩) ?_
  refine D_pure (v := .int .i64 0) (by kernel_rfl) (by kernel_rfl) ?_
  refine D_nil ⟨by kernel_rfl, ?_⟩
  refine W_forget [(0, .int .i64 (r : Int)), (1, .int .i64 (o : Int)), (2, .pointer (some ⟨b2, 0, none⟩)), (3, .pointer (some ⟨b3, 0, none⟩)), (4, .pointer (some ⟨b4, 0, none⟩)), (5, .pointer (some ⟨b5, 0, none⟩)), (6, .pointer (some ⟨b6, 0, none⟩))] ⟨by kernel_rfl, by kernel_rfl, by kernel_rfl, by kernel_rfl, by kernel_rfl, by kernel_rfl, by kernel_rfl, trivial⟩ fun u_2 => ?_
  refine W_seq ?_
  refine W_reg [false, false, false, false, false, false, false, false, false, true, false] [] (.inl ⟨rfl, by kernel_rfl⟩) ?_
  refine D_pure (v := .pointer (some ⟨b2, 2, none⟩)) (by kernel_rfl) (by kernel_rfl) ?_
  refine D_load (ty := 22) (a := (.tmp 12)) (b := b2) (off := 2) (v := .slice vb.na vb.data.length vb.nc) (by kernel_rfl) (by kernel_rfl) (by kernel_rfl) (hS.pre.blk hb2) (by kernel_rfl) ?_
  refine D_pure (v := .int .i64 (o : Int)) (by kernel_rfl) (by kernel_rfl) ?_
  obtain ⟨p_3, hp_4, hc_5, hb_6⟩ := prim_indexB (P := Try.prog) (fl := fl) (t := _) (H := H) (x := (.tmp 13)) (ix := (.tmp 14)) hvb.data o aty22 (by kernel_rfl) (by kernel_rfl) (z := (o : Int)) (ki := .i64) (by first | omega | (push_cast; omega)) (by omega)
  refine D_op (by kernel_rfl) hp_4 ?_
  have hr_7 := h8b.at_ o
  refine D_loadB hS.pre hc_5 aty37 (ty := 37) (x := (.tmp 15)) (by kernel_rfl) (by kernel_rfl) (by kernel_rfl) ?_
  refine D_opw (v := .int .i64 (vb.data.getD o 0)) (v' := .int .i64 (IntKind.i64.wrap (vb.data.getD o 0))) (by kernel_rfl) (by kernel_rfl) (wv (wrap_i64 _ (by omega) (by omega))) ?_
  refine D_pure (v := .pointer (some ⟨b2, 1, none⟩)) (by kernel_rfl) (by kernel_rfl) ?_
  refine D_load (ty := 3) (a := (.tmp 18)) (b := b2) (off := 1) (v := .int .i64 vb.exp) (by kernel_rfl) (by kernel_rfl) (by kernel_rfl) (hS.pre.blk hb2) (by kernel_rfl) ?_
  refine D_load (ty := 3) (a := (.tmp 3)) (b := b3) (off := 0) (v := .int .i64 E) (by kernel_rfl) (by kernel_rfl) (by kernel_rfl) (hS.pre.blk hb3) (by kernel_rfl) ?_
  refine D_call true rfl (by kernel_rfl) (f := 29) (args := #[.int .i64 (vb.data.getD o 0), .int .i64 vb.exp, .int .i64 E]) (by kernel_rfl) (c_align _ _ _ _ _ _ ?_)
  refine D_pure (v := .int .i64 (Pl.align (vb.data.getD o 0) vb.exp E)) (by kernel_rfl) (by kernel_rfl) ?_
  refine D_nil ⟨by kernel_rfl, ?_⟩
  refine W_forget [(0, .int .i64 (r : Int)), (1, .int .i64 (o : Int)), (4, .pointer (some ⟨b4, 0, none⟩)), (5, .pointer (some ⟨b5, 0, none⟩)), (6, .pointer (some ⟨b6, 0, none⟩)), (10, .int .i64 (Pl.align (vb.data.getD o 0) vb.exp E))] ⟨by kernel_rfl, by kernel_rfl, by kernel_rfl, by kernel_rfl, by kernel_rfl, by kernel_rfl, trivial⟩ fun u_8 => ?_
  refine W_seq ?_
  refine W_seq ?_
  refine W_reg (List.replicate 2 true) [] (.inr ⟨rfl, by kernel_rfl⟩) ?_
  refine D_load (ty := 3) (a := (.tmp 4)) (b := b4) (off := 0) (v := .int .i64 (n : Int)) (by kernel_rfl) (by kernel_rfl) (by kernel_rfl) (hS.pre.blk hb4) (by kernel_rfl) ?_
  refine D_pure (v := .int .i64 0) (by kernel_rfl) (by kernel_rfl) ?_
  refine D_nil ⟨by kernel_rfl, ?_⟩
  refine W_forget [(0, .int .i64 (r : Int)), (1, .int .i64 (o : Int)), (4, .pointer (some ⟨b4, 0, none⟩)), (5, .pointer (some ⟨b5, 0, none⟩)), (6, .pointer (some ⟨b6, 0, none⟩)), (10, .int .i64 (Pl.align (vb.data.getD o 0) vb.exp E)), (22, .int .i64 (n : Int)), (23, .int .i64 0)] ⟨by kernel_rfl, by kernel_rfl, by kernel_rfl, by kernel_rfl, by kernel_rfl, by kernel_rfl, by kernel_rfl, by kernel_rfl, trivial⟩ fun u_9 => ?_
  refine W_block ?_
  refine W_loop (fun kq t' H' => ∃ uq, ∃ (k : Nat), ∃ (s : Int),  H = H' ∧ t' = tl [(0, .int .i64 (r : Int)), (1, .int .i64 (o : Int)), (4, .pointer (some ⟨b4, 0, none⟩)), (5, .pointer (some ⟨b5, 0, none⟩)), (6, .pointer (some ⟨b6, 0, none⟩)), (10, .int .i64 s), (22, .int .i64 (n : Int)), (23, .int .i64 (k : Int))] uq ∧ kq = n - k ∧ (k ≤ n) ∧ (s = Pl.align (vb.data.getD o 0) vb.exp E + Pl.sumTo (Pl.fwdG n vx.data vw.data r o) k)) (n) ?_ ?_
  case refine_1 => exact ⟨_, 0, Pl.align (vb.data.getD o 0) vb.exp E,  rfl, tl_keep (l := [(0, .int .i64 (r : Int)), (1, .int .i64 (o : Int)), (4, .pointer (some ⟨b4, 0, none⟩)), (5, .pointer (some ⟨b5, 0, none⟩)), (6, .pointer (some ⟨b6, 0, none⟩)), (10, .int .i64 (Pl.align (vb.data.getD o 0) vb.exp E)), (22, .int .i64 (n : Int)), (23, .int .i64 (0 : Int))]) ⟨by kernel_rfl, by kernel_rfl, by kernel_rfl, by kernel_rfl, by kernel_rfl, by kernel_rfl, by kernel_rfl, by kernel_rfl, trivial⟩, by omega, by omega, by simp [Pl.sumTo]⟩
  rintro kq _ _ ⟨uq, k, s,  rfl, rfl, rfl, hk, hs⟩
  try clear kq
  refine W_seq ?_
  refine W_reg (List.replicate 1 true) [] (.inr ⟨rfl, by kernel_rfl⟩) ?_
  refine D_pure (v := .bool (decide ((k : Int) < (n : Int)))) (by kernel_rfl) (by kernel_rfl) ?_
  refine D_nil ⟨by kernel_rfl, ?_⟩
  refine W_forget [(0, .int .i64 (r : Int)), (1, .int .i64 (o : Int)), (4, .pointer (some ⟨b4, 0, none⟩)), (5, .pointer (some ⟨b5, 0, none⟩)), (6, .pointer (some ⟨b6, 0, none⟩)), (10, .int .i64 s), (22, .int .i64 (n : Int)), (23, .int .i64 (k : Int)), (24, .bool (decide ((k : Int) < (n : Int))))] ⟨by kernel_rfl, by kernel_rfl, by kernel_rfl, by kernel_rfl, by kernel_rfl, by kernel_rfl, by kernel_rfl, by kernel_rfl, by kernel_rfl, trivial⟩ fun u_12 => ?_
  refine W_seq ?_
  refine W_cond (b := decide ((k : Int) < (n : Int))) (by kernel_rfl) (fun hb_13 => ?_) (fun hb_13 => ?_)
  case refine_1 =>
    try simp only [Bool.and_eq_true, Bool.or_eq_true, Bool.and_eq_false_iff, Bool.or_eq_false_iff, decide_eq_true_eq, decide_eq_false_iff_not, beq_iff_eq, beq_eq_false_iff_ne, bne_iff_ne, bne_eq_false_iff_eq, Bool.not_eq_true', Bool.not_eq_false', ne_eq] at hb_13
    refine W_skip ?_
    refine W_seq ?_
    refine W_block ?_
    refine W_seq ?_
    refine W_reg (List.replicate 2 true) [] (.inr ⟨rfl, by kernel_rfl⟩) ?_
    refine D_pure (v := .int .i64 (k : Int)) (by kernel_rfl) (by kernel_rfl) ?_
    refine D_pure (v := .int .i64 (k : Int)) (by kernel_rfl) (by kernel_rfl) ?_
    refine D_nil ⟨by kernel_rfl, ?_⟩
    refine W_forget [(0, .int .i64 (r : Int)), (1, .int .i64 (o : Int)), (4, .pointer (some ⟨b4, 0, none⟩)), (5, .pointer (some ⟨b5, 0, none⟩)), (6, .pointer (some ⟨b6, 0, none⟩)), (10, .int .i64 s), (11, .int .i64 (k : Int)), (22, .int .i64 (n : Int)), (23, .int .i64 (k : Int))] ⟨by kernel_rfl, by kernel_rfl, by kernel_rfl, by kernel_rfl, by kernel_rfl, by kernel_rfl, by kernel_rfl, by kernel_rfl, by kernel_rfl, trivial⟩ fun u_14 => ?_
    have hal := Pl.align_bd (vb.data.getD o 0) vb.exp E (h8b.at_ o); have hsm := Pl.sumTo_bd (Pl.fwdG n vx.data vw.data r o) 16384 k (fun i _ => Pl.mul8 _ _ (h8x.at_ _) (h8w.at_ _))
    have hm8 := Pl.mul8 _ _ (h8x.at_ (r * n + k)) (h8w.at_ (o * n + k))
    have hlx := hvx.data.len; have hlw := hvw.data.len
    refine W_reg [false, false, false, false, false, false, false, false, false, false, false, false, false, false, false, false, false, false, false, false, false, false, false, false] [] (.inl ⟨rfl, by kernel_rfl⟩) ?_
    refine D_pure (v := .int .i64 s) (by kernel_rfl) (by kernel_rfl) ?_
    refine D_pure (v := .pointer (some ⟨b5, 2, none⟩)) (by kernel_rfl) (by kernel_rfl) ?_
    refine D_load (ty := 22) (a := (.tmp 27)) (b := b5) (off := 2) (v := .slice vx.na vx.data.length vx.nc) (by kernel_rfl) (by kernel_rfl) (by kernel_rfl) (hS.pre.blk hb5) (by kernel_rfl) ?_
    refine D_pure (v := .int .i64 (r : Int)) (by kernel_rfl) (by kernel_rfl) ?_
    refine D_load (ty := 3) (a := (.tmp 4)) (b := b4) (off := 0) (v := .int .i64 (n : Int)) (by kernel_rfl) (by kernel_rfl) (by kernel_rfl) (hS.pre.blk hb4) (by kernel_rfl) ?_
    refine D_opw (v := .int .i64 ((r : Int) * (n : Int))) (v' := .int .i64 (IntKind.i64.wrap ((r : Int) * (n : Int)))) (by kernel_rfl) (by kernel_rfl) (wv (wrap_i64 _ (by omega) (by omega))) ?_
    refine D_pure (v := .int .i64 (k : Int)) (by kernel_rfl) (by kernel_rfl) ?_
    refine D_opw (v := .int .i64 (((r : Int) * (n : Int)) + (k : Int))) (v' := .int .i64 (IntKind.i64.wrap (((r : Int) * (n : Int)) + (k : Int)))) (by kernel_rfl) (by kernel_rfl) (wv (wrap_i64 _ (by omega) (by omega))) ?_
    obtain ⟨p_15, hp_16, hc_17, hb_18⟩ := prim_indexB (P := Try.prog) (fl := fl) (t := _) (H := H) (x := (.tmp 28)) (ix := (.tmp 33)) hvx.data ((r * n) + k) aty22 (by kernel_rfl) (by kernel_rfl) (z := ((r : Int) * (n : Int)) + (k : Int)) (ki := .i64) (by first | omega | (push_cast; omega)) (by omega)
    refine D_op (by kernel_rfl) hp_16 ?_
    have hr_19 := h8x.at_ ((r * n) + k)
    refine D_loadB hS.pre hc_17 aty37 (ty := 37) (x := (.tmp 34)) (by kernel_rfl) (by kernel_rfl) (by kernel_rfl) ?_
    refine D_opw (v := .int .i64 (vx.data.getD ((r * n) + k) 0)) (v' := .int .i64 (IntKind.i64.wrap (vx.data.getD ((r * n) + k) 0))) (by kernel_rfl) (by kernel_rfl) (wv (wrap_i64 _ (by omega) (by omega))) ?_
    refine D_pure (v := .pointer (some ⟨b6, 2, none⟩)) (by kernel_rfl) (by kernel_rfl) ?_
    refine D_load (ty := 22) (a := (.tmp 37)) (b := b6) (off := 2) (v := .slice vw.na vw.data.length vw.nc) (by kernel_rfl) (by kernel_rfl) (by kernel_rfl) (hS.pre.blk hb6) (by kernel_rfl) ?_
    refine D_pure (v := .int .i64 (o : Int)) (by kernel_rfl) (by kernel_rfl) ?_
    refine D_load (ty := 3) (a := (.tmp 4)) (b := b4) (off := 0) (v := .int .i64 (n : Int)) (by kernel_rfl) (by kernel_rfl) (by kernel_rfl) (hS.pre.blk hb4) (by kernel_rfl) ?_
    refine D_opw (v := .int .i64 ((o : Int) * (n : Int))) (v' := .int .i64 (IntKind.i64.wrap ((o : Int) * (n : Int)))) (by kernel_rfl) (by kernel_rfl) (wv (wrap_i64 _ (by omega) (by omega))) ?_
    refine D_pure (v := .int .i64 (k : Int)) (by kernel_rfl) (by kernel_rfl) ?_
    refine D_opw (v := .int .i64 (((o : Int) * (n : Int)) + (k : Int))) (v' := .int .i64 (IntKind.i64.wrap (((o : Int) * (n : Int)) + (k : Int)))) (by kernel_rfl) (by kernel_rfl) (wv (wrap_i64 _ (by omega) (by omega))) ?_
    obtain ⟨p_20, hp_21, hc_22, hb_23⟩ := prim_indexB (P := Try.prog) (fl := fl) (t := _) (H := H) (x := (.tmp 38)) (ix := (.tmp 43)) hvw.data ((o * n) + k) aty22 (by kernel_rfl) (by kernel_rfl) (z := ((o : Int) * (n : Int)) + (k : Int)) (ki := .i64) (by first | omega | (push_cast; omega)) (by omega)
    refine D_op (by kernel_rfl) hp_21 ?_
    have hr_24 := h8w.at_ ((o * n) + k)
    refine D_loadB hS.pre hc_22 aty37 (ty := 37) (x := (.tmp 44)) (by kernel_rfl) (by kernel_rfl) (by kernel_rfl) ?_
    refine D_opw (v := .int .i64 (vw.data.getD ((o * n) + k) 0)) (v' := .int .i64 (IntKind.i64.wrap (vw.data.getD ((o * n) + k) 0))) (by kernel_rfl) (by kernel_rfl) (wv (wrap_i64 _ (by omega) (by omega))) ?_
    refine D_opw (v := .int .i64 ((vx.data.getD ((r * n) + k) 0) * (vw.data.getD ((o * n) + k) 0))) (v' := .int .i64 (IntKind.i64.wrap ((vx.data.getD ((r * n) + k) 0) * (vw.data.getD ((o * n) + k) 0)))) (by kernel_rfl) (by kernel_rfl) (wv (wrap_i64 _ (by omega) (by omega))) ?_
    refine D_opw (v := .int .i64 (s + ((vx.data.getD ((r * n) + k) 0) * (vw.data.getD ((o * n) + k) 0)))) (v' := .int .i64 (IntKind.i64.wrap (s + ((vx.data.getD ((r * n) + k) 0) * (vw.data.getD ((o * n) + k) 0))))) (by kernel_rfl) (by kernel_rfl) (wv (wrap_i64 _ (by omega) (by omega))) ?_
    refine D_pure (v := .int .i64 (s + ((vx.data.getD ((r * n) + k) 0) * (vw.data.getD ((o * n) + k) 0)))) (by kernel_rfl) (by kernel_rfl) ?_
    refine D_nil ⟨by kernel_rfl, ?_⟩
    refine W_forget [(0, .int .i64 (r : Int)), (1, .int .i64 (o : Int)), (4, .pointer (some ⟨b4, 0, none⟩)), (5, .pointer (some ⟨b5, 0, none⟩)), (6, .pointer (some ⟨b6, 0, none⟩)), (10, .int .i64 (s + ((vx.data.getD ((r * n) + k) 0) * (vw.data.getD ((o * n) + k) 0)))), (22, .int .i64 (n : Int)), (23, .int .i64 (k : Int))] ⟨by kernel_rfl, by kernel_rfl, by kernel_rfl, by kernel_rfl, by kernel_rfl, by kernel_rfl, by kernel_rfl, by kernel_rfl, trivial⟩ fun u_25 => ?_
    refine W_reg (List.replicate 2 true) [] (.inr ⟨rfl, by kernel_rfl⟩) ?_
    refine D_opw (v := .int .i64 ((k : Int) + 1)) (v' := .int .i64 (IntKind.i64.wrap ((k : Int) + 1))) (by kernel_rfl) (by kernel_rfl) (wv (wrap_i64 _ (by omega) (by omega))) ?_
    refine D_pure (v := .int .i64 ((k : Int) + 1)) (by kernel_rfl) (by kernel_rfl) ?_
    refine D_nil ⟨by kernel_rfl, ?_⟩
    refine ⟨_, ?_, _, k + 1, s + vx.data.getD (r * n + k) 0 * vw.data.getD (o * n + k) 0,  rfl, tl_keep (l := [(0, .int .i64 (r : Int)), (1, .int .i64 (o : Int)), (4, .pointer (some ⟨b4, 0, none⟩)), (5, .pointer (some ⟨b5, 0, none⟩)), (6, .pointer (some ⟨b6, 0, none⟩)), (10, .int .i64 (s + vx.data.getD (r * n + k) 0 * vw.data.getD (o * n + k) 0)), (22, .int .i64 (n : Int)), (23, .int .i64 (((k + 1) : Nat) : Int))]) ⟨by kernel_rfl, by kernel_rfl, by kernel_rfl, by kernel_rfl, by kernel_rfl, iv (k := .i64) (a := s + ((vx.data.getD ((r * n) + k) 0) * (vw.data.getD ((o * n) + k) 0))) (by omega), by kernel_rfl, iv (k := .i64) (a := (k : Int) + 1) (by omega), trivial⟩, rfl, by omega, by rw [hs]; simp only [Pl.sumTo, Pl.fwdG]; omega⟩
    omega
  case refine_2 =>
    try simp only [Bool.and_eq_true, Bool.or_eq_true, Bool.and_eq_false_iff, Bool.or_eq_false_iff, decide_eq_true_eq, decide_eq_false_iff_not, beq_iff_eq, beq_eq_false_iff_ne, bne_iff_ne, bne_eq_false_iff_eq, Bool.not_eq_true', Bool.not_eq_false', ne_eq] at hb_13
    refine W_exit ?_
    refine W_seq ?_
    refine W_reg (List.replicate 2 true) [] (.inr ⟨rfl, by kernel_rfl⟩) ?_
    refine D_pure (v := .int .i64 s) (by kernel_rfl) (by kernel_rfl) ?_
    refine D_pure (v := .int .i64 s) (by kernel_rfl) (by kernel_rfl) ?_
    refine D_nil ⟨by kernel_rfl, ?_⟩
    refine W_forget [(9, .int .i64 s)] ⟨by kernel_rfl, trivial⟩ fun u_26 => ?_
    refine W_ret ?_
    exact ⟨[.int .i64 s], by kernel_rfl, by rw [show (s : Int) = Pl.fwdAt n E vx.data vw.data vb.data vb.exp r o from (by rw [hs, show k = n by omega]; rfl)]; exact h⟩
theorem fwd_row {i r n m : Nat} (h : i < r) (k : r * n = m) : i * n + n ≤ m := by
  have h1 : (i + 1) * n ≤ r * n := Nat.mul_le_mul_right n h
  rw [Nat.add_mul, Nat.one_mul] at h1
  omega
theorem _root_.Go.Mach.TL.one {H : AHeap} {b : Nat} {v : TV} {ex : Bool} (h : blk? H b = some ⟨tvs [v], 3, ex, true⟩) (h1 : v.ok .i8 H) : TL .i8 H b [v] ex :=
  ⟨h, fun u hu => by cases List.mem_singleton.1 hu; exact h1⟩
theorem _root_.Go.Mach.TL.two {H : AHeap} {b : Nat} {v u : TV} {ex : Bool} (h : blk? H b = some ⟨tvs [v, u], 3, ex, true⟩) (h1 : v.ok .i8 H) (h2 : u.ok .i8 H) : TL .i8 H b [v, u] ex :=
  ⟨h, fun y hy => by
    rcases List.mem_cons.1 hy with rfl | hy
    · exact h1
    · cases List.mem_singleton.1 hy; exact h2⟩
def Pl.fwdOut (x w b : Pl.Ten) : Int × Pl.Sums :=
  if Pl.mayT b = false then (1, ⟨[], 0, []⟩) else if Pl.mayErr 2 [x, w] ≠ 0 then (Pl.mayErr 2 [x, w], ⟨[], 0, []⟩)
  else if w.dims.getD 1 0 ≠ x.dims.getD 1 0 ∨ b.dims.length ≠ 1 ∨ b.dims.getD 0 0 ≠ w.dims.getD 0 0 then (2, ⟨[], 0, []⟩)
  else Pl.madeOut (x.dims.getD 0 0) (w.dims.getD 0 0) (x.dims.getD 1 0) (x.exp + w.exp) (Pl.fwdAt (x.dims.getD 1 0).toNat (x.exp + w.exp) x.data w.data b.data b.exp)
theorem fwdOut_1 {x w b : Pl.Ten} (h : Pl.mayT b = false) : Pl.fwdOut x w b = (1, ⟨[], 0, []⟩) := by unfold Pl.fwdOut; rw [if_pos h]
theorem fwdOut_m {x w b : Pl.Ten} (h : Pl.mayT b = true) (k : ¬ Pl.mayErr 2 [x, w] = 0) : Pl.fwdOut x w b = (Pl.mayErr 2 [x, w], ⟨[], 0, []⟩) := by unfold Pl.fwdOut; rw [if_neg (by simp [h]), if_pos k]
theorem fwdOut_2 {x w b : Pl.Ten} (h : Pl.mayT b = true) (k : Pl.mayErr 2 [x, w] = 0) (m : (¬ w.dims.getD 1 0 = x.dims.getD 1 0 ∨ ¬ (b.dims.length : Int) = 1) ∨ ¬ b.dims.getD 0 0 = w.dims.getD 0 0) : Pl.fwdOut x w b = (2, ⟨[], 0, []⟩) := by
  unfold Pl.fwdOut; rw [if_neg (by simp [h]), if_neg (by simp [k]), if_pos (by omega)]
theorem fwdOut_ok {x w b : Pl.Ten} (h : Pl.mayT b = true) (k : Pl.mayErr 2 [x, w] = 0) (m : (w.dims.getD 1 0 = x.dims.getD 1 0 ∧ (b.dims.length : Int) = 1) ∧ b.dims.getD 0 0 = w.dims.getD 0 0) :
    Pl.fwdOut x w b = Pl.madeOut (x.dims.getD 0 0) (w.dims.getD 0 0) (x.dims.getD 1 0) (x.exp + w.exp) (Pl.fwdAt (x.dims.getD 1 0).toNat (x.exp + w.exp) x.data w.data b.data b.exp) := by
  unfold Pl.fwdOut; rw [if_neg (by simp [h]), if_neg (by simp [k]), if_neg (by omega)]
theorem c_forward (fl : Nat) (vx vw vb : TV) (H : AHeap) (hfl : fl ≤ H.length) (hvx : vx.ok .i8 H) (hvw : vw.ok .i8 H) (hvb : vb.ok .i8 H) (h8x : Pl.All8 vx.data) (h8w : Pl.All8 vw.data) (h8b : Pl.All8 vb.data)
    (R : Value → AHeap → Prop) (h : ∀ a1 a2 H', St H H' [(a1, ib .i64 (Pl.fwdOut vx.ten vw.ten vb.ten).2.dims true), (a2, ib .i32 (Pl.fwdOut vx.ten vw.ten vb.ten).2.data false)] → R (sumsV a1 a2 (Pl.fwdOut vx.ten vw.ten vb.ten)) H') :
    WCall Try.prog fl 12 #[vx.val, vw.val, vb.val] H R := by
  refine W_call Try.func12 rfl (by kernel_rfl) (Nat.le_of_ble_eq_true rfl) ?_
  have hS := St.refl H
  refine W_forget [(0, .agg #[.slice vx.da vx.dims.length vx.dc, .int .i64 vx.exp, .slice vx.na vx.data.length vx.nc]), (1, .agg #[.slice vw.da vw.dims.length vw.dc, .int .i64 vw.exp, .slice vw.na vw.data.length vw.nc]), (2, .agg #[.slice vb.da vb.dims.length vb.dc, .int .i64 vb.exp, .slice vb.na vb.data.length vb.nc])] ⟨by kernel_rfl, by kernel_rfl, by kernel_rfl, trivial⟩ fun u_1 => ?_
  refine W_seq ?_
  refine W_reg (List.replicate 5 true) [] (.inr ⟨rfl, by kernel_rfl⟩) ?_
  refine S_new hS (v := fun b => .pointer (some ⟨b, 0, none⟩)) (⟨[.slice vx.da vx.dims.length vx.dc, .int .i64 vx.exp, .slice vx.na vx.data.length vx.nc], 0, true, true⟩) (fun b => [(some b, ⟨[.slice vx.da vx.dims.length vx.dc, .int .i64 vx.exp, .slice vx.na vx.data.length vx.nc], 0, true, true⟩)]) (fun _ => rfl) (by kernel_rfl) (fun _ => by kernel_rfl) ?_
  intro b_2 H_3 hS_4
  refine S_new hS_4 (v := fun b => .pointer (some ⟨b, 0, none⟩)) (⟨[.slice vw.da vw.dims.length vw.dc, .int .i64 vw.exp, .slice vw.na vw.data.length vw.nc], 0, true, true⟩) (fun b => [(some b_2, ⟨[.slice vx.da vx.dims.length vx.dc, .int .i64 vx.exp, .slice vx.na vx.data.length vx.nc], 0, true, true⟩), (some b, ⟨[.slice vw.da vw.dims.length vw.dc, .int .i64 vw.exp, .slice vw.na vw.data.length vw.nc], 0, true, true⟩)]) (fun _ => rfl) (by kernel_rfl) (fun _ => by kernel_rfl) ?_
  intro b_5 H_6 hS_7
  refine S_new hS_7 (v := fun b => .pointer (some ⟨b, 0, none⟩)) (⟨[.slice vb.da vb.dims.length vb.dc, .int .i64 vb.exp, .slice vb.na vb.data.length vb.nc], 0, true, true⟩) (fun b => [(some b_2, ⟨[.slice vx.da vx.dims.length vx.dc, .int .i64 vx.exp, .slice vx.na vx.data.length vx.nc], 0, true, true⟩), (some b_5, ⟨[.slice vw.da vw.dims.length vw.dc, .int .i64 vw.exp, .slice vw.na vw.data.length vw.nc], 0, true, true⟩), (some b, ⟨[.slice vb.da vb.dims.length vb.dc, .int .i64 vb.exp, .slice vb.na vb.data.length vb.nc], 0, true, true⟩)]) (fun _ => rfl) (by kernel_rfl) (fun _ => by kernel_rfl) ?_
  intro b_8 H_9 hS_10
  refine S_new hS_10 (v := fun b => .pointer (some ⟨b, 0, none⟩)) (⟨[.slice none 0 0, .int .i64 0, .slice none 0 0], 0, true, true⟩) (fun b => [(some b_2, ⟨[.slice vx.da vx.dims.length vx.dc, .int .i64 vx.exp, .slice vx.na vx.data.length vx.nc], 0, true, true⟩), (some b_5, ⟨[.slice vw.da vw.dims.length vw.dc, .int .i64 vw.exp, .slice vw.na vw.data.length vw.nc], 0, true, true⟩), (some b_8, ⟨[.slice vb.da vb.dims.length vb.dc, .int .i64 vb.exp, .slice vb.na vb.data.length vb.nc], 0, true, true⟩), (some b, ⟨[.slice none 0 0, .int .i64 0, .slice none 0 0], 0, true, true⟩)]) (fun _ => rfl) (by kernel_rfl) (fun _ => by kernel_rfl) ?_
  intro b_11 H_12 hS_13
  refine D_pure (v := .int .i64 0) (by kernel_rfl) (by kernel_rfl) ?_
  refine D_nil ⟨by kernel_rfl, ?_⟩
  refine W_forget [(3, .pointer (some ⟨b_2, 0, none⟩)), (4, .pointer (some ⟨b_5, 0, none⟩)), (5, .pointer (some ⟨b_8, 0, none⟩)), (6, .pointer (some ⟨b_11, 0, none⟩))] ⟨by kernel_rfl, by kernel_rfl, by kernel_rfl, by kernel_rfl, trivial⟩ fun u_14 => ?_
  refine W_seq ?_
  refine W_seq ?_
  refine W_reg (List.replicate 3 true) [] (.inr ⟨rfl, by kernel_rfl⟩) ?_
  refine S_load hS_13 2 (ty := 26) (x := (.tmp 5)) (off := 0) (v := .agg #[.slice vb.da vb.dims.length vb.dc, .int .i64 vb.exp, .slice vb.na vb.data.length vb.nc]) rfl (by kernel_rfl) (by kernel_rfl) (by kernel_rfl) (by kernel_rfl) ?_
  refine D_call true rfl (by kernel_rfl) (f := 25) (args := #[.agg #[.slice vb.da vb.dims.length vb.dc, .int .i64 vb.exp, .slice vb.na vb.data.length vb.nc]]) (by kernel_rfl) (c_may _ vb _ ⟨(hvb.dims.pre hS_13.pre), (hvb.data.pre hS_13.pre)⟩ _ ?_)
  intro H_15 hS_16
  have hS_17 : St H H_15 [(some b_2, ⟨[.slice vx.da vx.dims.length vx.dc, .int .i64 vx.exp, .slice vx.na vx.data.length vx.nc], 0, true, true⟩), (some b_5, ⟨[.slice vw.da vw.dims.length vw.dc, .int .i64 vw.exp, .slice vw.na vw.data.length vw.nc], 0, true, true⟩), (some b_8, ⟨[.slice vb.da vb.dims.length vb.dc, .int .i64 vb.exp, .slice vb.na vb.data.length vb.nc], 0, true, true⟩), (some b_11, ⟨[.slice none 0 0, .int .i64 0, .slice none 0 0], 0, true, true⟩)] := hS_13.next hS_16
  refine D_pure (v := .bool (!Pl.mayT vb.ten)) (by kernel_rfl) (by kernel_rfl) ?_
  refine D_nil ⟨by kernel_rfl, ?_⟩
  refine W_forget [(3, .pointer (some ⟨b_2, 0, none⟩)), (4, .pointer (some ⟨b_5, 0, none⟩)), (5, .pointer (some ⟨b_8, 0, none⟩)), (6, .pointer (some ⟨b_11, 0, none⟩)), (15, .bool (!Pl.mayT vb.ten))] ⟨by kernel_rfl, by kernel_rfl, by kernel_rfl, by kernel_rfl, by kernel_rfl, trivial⟩ fun u_18 => ?_
  refine W_cond (b := (!Pl.mayT vb.ten)) (by kernel_rfl) (fun hb_19 => ?_) (fun hb_19 => ?_)
  case refine_1 =>
    try simp only [Bool.and_eq_true, Bool.or_eq_true, Bool.and_eq_false_iff, Bool.or_eq_false_iff, decide_eq_true_eq, decide_eq_false_iff_not, beq_iff_eq, beq_eq_false_iff_ne, bne_iff_ne, bne_eq_false_iff_eq, Bool.not_eq_true', Bool.not_eq_false', ne_eq] at hb_19
    refine W_seq ?_
    refine W_reg (List.replicate 3 true) [] (.inr ⟨rfl, by kernel_rfl⟩) ?_
    refine D_pure (v := .agg #[.slice none 0 0, .int .i64 0, .slice none 0 0]) (by kernel_rfl) (by kernel_rfl) ?_
    refine S_store hS_17 hfl 3 (ty := 31) (x := (.tmp 6)) (y := (.tmp 16)) (off := 0) (v := .agg #[.slice none 0 0, .int .i64 0, .slice none 0 0]) (⟨[.slice none 0 0, .int .i64 0, .slice none 0 0], 0, true, true⟩) ([(some b_2, ⟨[.slice vx.da vx.dims.length vx.dc, .int .i64 vx.exp, .slice vx.na vx.data.length vx.nc], 0, true, true⟩), (some b_5, ⟨[.slice vw.da vw.dims.length vw.dc, .int .i64 vw.exp, .slice vw.na vw.data.length vw.nc], 0, true, true⟩), (some b_8, ⟨[.slice vb.da vb.dims.length vb.dc, .int .i64 vb.exp, .slice vb.na vb.data.length vb.nc], 0, true, true⟩), (some b_11, ⟨[.slice none 0 0, .int .i64 0, .slice none 0 0], 0, true, true⟩)]) rfl rfl (by kernel_rfl) (by kernel_rfl) (by kernel_rfl) (by kernel_rfl) (by kernel_rfl) ?_
    intro H_20 hS_21
    refine D_pure (v := .int .i64 1) (by kernel_rfl) (by kernel_rfl) ?_
    refine D_nil ⟨by kernel_rfl, ?_⟩
    refine W_forget [(6, .pointer (some ⟨b_11, 0, none⟩)), (7, .int .i64 1)] ⟨by kernel_rfl, by kernel_rfl, trivial⟩ fun u_22 => ?_
    refine W_ret ?_
    rw [fwdOut_1 hb_19] at h
    exact ⟨[.agg #[.slice none 0 0, .int .i64 0, .slice none 0 0], .int .i64 1], resultAll_cell (off := 0) (by kernel_rfl) (hS_21.get (i := 3) rfl) (by kernel_rfl) (resultAll_tmp (by kernel_rfl) (rfl)), h _ _ _ (((hS_21.nil 1 true true).nil 1 false true).pick [4, 5] (by decide) rfl)⟩
  case refine_2 =>
    try simp only [Bool.and_eq_true, Bool.or_eq_true, Bool.and_eq_false_iff, Bool.or_eq_false_iff, decide_eq_true_eq, decide_eq_false_iff_not, beq_iff_eq, beq_eq_false_iff_ne, bne_iff_ne, bne_eq_false_iff_eq, Bool.not_eq_true', Bool.not_eq_false', ne_eq] at hb_19
    refine W_skip ?_
    refine W_seq ?_
    refine W_seq ?_
    refine W_reg (List.replicate 5 true) [] (.inr ⟨rfl, by kernel_rfl⟩) ?_
    refine S_load hS_17 0 (ty := 26) (x := (.tmp 3)) (off := 0) (v := .agg #[.slice vx.da vx.dims.length vx.dc, .int .i64 vx.exp, .slice vx.na vx.data.length vx.nc]) rfl (by kernel_rfl) (by kernel_rfl) (by kernel_rfl) (by kernel_rfl) ?_
    refine S_load hS_17 1 (ty := 26) (x := (.tmp 4)) (off := 0) (v := .agg #[.slice vw.da vw.dims.length vw.dc, .int .i64 vw.exp, .slice vw.na vw.data.length vw.nc]) rfl (by kernel_rfl) (by kernel_rfl) (by kernel_rfl) (by kernel_rfl) ?_
    refine S_new hS_17 (v := fun b => .slice (some ⟨b, 0, none⟩) 2 2) (⟨[.slice vx.da vx.dims.length vx.dc, .int .i64 vx.exp, .slice vx.na vx.data.length vx.nc, .slice vw.da vw.dims.length vw.dc, .int .i64 vw.exp, .slice vw.na vw.data.length vw.nc], 3, true, true⟩) (fun b => [(some b_2, ⟨[.slice vx.da vx.dims.length vx.dc, .int .i64 vx.exp, .slice vx.na vx.data.length vx.nc], 0, true, true⟩), (some b_5, ⟨[.slice vw.da vw.dims.length vw.dc, .int .i64 vw.exp, .slice vw.na vw.data.length vw.nc], 0, true, true⟩), (some b_8, ⟨[.slice vb.da vb.dims.length vb.dc, .int .i64 vb.exp, .slice vb.na vb.data.length vb.nc], 0, true, true⟩), (some b_11, ⟨[.slice none 0 0, .int .i64 0, .slice none 0 0], 0, true, true⟩), (some b, ⟨[.slice vx.da vx.dims.length vx.dc, .int .i64 vx.exp, .slice vx.na vx.data.length vx.nc, .slice vw.da vw.dims.length vw.dc, .int .i64 vw.exp, .slice vw.na vw.data.length vw.nc], 3, true, true⟩)]) (fun _ => rfl) (by kernel_rfl) (fun _ => by kernel_rfl) ?_
    intro b_23 H_24 hS_25
    refine D_call true rfl (by kernel_rfl) (f := 26) (args := #[.int .i64 2, .slice (some ⟨b_23, 0, none⟩) 2 2]) (by kernel_rfl) (c_dmay _ 2 b_23 [vx, vw] true 2 _ (Nat.le_trans hfl hS_25.len) (TL.two (hS_25.get (i := 4) rfl) (⟨(hvx.dims.pre hS_25.pre), (hvx.data.pre hS_25.pre)⟩) (⟨(hvw.dims.pre hS_25.pre), (hvw.data.pre hS_25.pre)⟩)) (Nat.le_of_ble_eq_true rfl) _ ?_)
    intro H_26 hS_27
    have hS_28 : St H H_26 [(some b_2, ⟨[.slice vx.da vx.dims.length vx.dc, .int .i64 vx.exp, .slice vx.na vx.data.length vx.nc], 0, true, true⟩), (some b_5, ⟨[.slice vw.da vw.dims.length vw.dc, .int .i64 vw.exp, .slice vw.na vw.data.length vw.nc], 0, true, true⟩), (some b_8, ⟨[.slice vb.da vb.dims.length vb.dc, .int .i64 vb.exp, .slice vb.na vb.data.length vb.nc], 0, true, true⟩), (some b_11, ⟨[.slice none 0 0, .int .i64 0, .slice none 0 0], 0, true, true⟩), (some b_23, ⟨[.slice vx.da vx.dims.length vx.dc, .int .i64 vx.exp, .slice vx.na vx.data.length vx.nc, .slice vw.da vw.dims.length vw.dc, .int .i64 vw.exp, .slice vw.na vw.data.length vw.nc], 3, true, true⟩)] := hS_25.next hS_27
    refine D_pure (v := .int .i64 (Pl.mayErr 2 (List.map TV.ten [vx, vw]))) (by kernel_rfl) (by kernel_rfl) ?_
    refine D_nil ⟨by kernel_rfl, ?_⟩
    refine W_forget [(3, .pointer (some ⟨b_2, 0, none⟩)), (4, .pointer (some ⟨b_5, 0, none⟩)), (5, .pointer (some ⟨b_8, 0, none⟩)), (6, .pointer (some ⟨b_11, 0, none⟩)), (8, .int .i64 (Pl.mayErr 2 (List.map TV.ten [vx, vw])))] ⟨by kernel_rfl, by kernel_rfl, by kernel_rfl, by kernel_rfl, by kernel_rfl, trivial⟩ fun u_29 => ?_
    refine W_seq ?_
    refine W_reg (List.replicate 2 true) [] (.inr ⟨rfl, by kernel_rfl⟩) ?_
    refine D_pure (v := .int .i64 (Pl.mayErr 2 (List.map TV.ten [vx, vw]))) (by kernel_rfl) (by kernel_rfl) ?_
    refine D_pure (v := .bool ((Pl.mayErr 2 (List.map TV.ten [vx, vw])) != 0)) (by kernel_rfl) (by kernel_rfl) ?_
    refine D_nil ⟨by kernel_rfl, ?_⟩
    refine W_forget [(3, .pointer (some ⟨b_2, 0, none⟩)), (4, .pointer (some ⟨b_5, 0, none⟩)), (5, .pointer (some ⟨b_8, 0, none⟩)), (6, .pointer (some ⟨b_11, 0, none⟩)), (8, .int .i64 (Pl.mayErr 2 (List.map TV.ten [vx, vw]))), (22, .bool ((Pl.mayErr 2 (List.map TV.ten [vx, vw])) != 0))] ⟨by kernel_rfl, by kernel_rfl, by kernel_rfl, by kernel_rfl, by kernel_rfl, by kernel_rfl, trivial⟩ fun u_30 => ?_
    refine W_cond (b := ((Pl.mayErr 2 (List.map TV.ten [vx, vw])) != 0)) (by kernel_rfl) (fun hb_31 => ?_) (fun hb_31 => ?_)
    case refine_1 =>
      try simp only [Bool.and_eq_true, Bool.or_eq_true, Bool.and_eq_false_iff, Bool.or_eq_false_iff, decide_eq_true_eq, decide_eq_false_iff_not, beq_iff_eq, beq_eq_false_iff_ne, bne_iff_ne, bne_eq_false_iff_eq, Bool.not_eq_true', Bool.not_eq_false', ne_eq] at hb_31
      refine W_seq ?_
      refine W_reg (List.replicate 4 true) [] (.inr ⟨rfl, by kernel_rfl⟩) ?_
      refine D_pure (v := .agg #[.slice none 0 0, .int .i64 0, .slice none 0 0]) (by kernel_rfl) (by kernel_rfl) ?_
      refine D_pure (v := .int .i64 (Pl.mayErr 2 (List.map TV.ten [vx, vw]))) (by kernel_rfl) (by kernel_rfl) ?_
      refine S_store hS_28 hfl 3 (ty := 31) (x := (.tmp 6)) (y := (.tmp 23)) (off := 0) (v := .agg #[.slice none 0 0, .int .i64 0, .slice none 0 0]) (⟨[.slice none 0 0, .int .i64 0, .slice none 0 0], 0, true, true⟩) ([(some b_2, ⟨[.slice vx.da vx.dims.length vx.dc, .int .i64 vx.exp, .slice vx.na vx.data.length vx.nc], 0, true, true⟩), (some b_5, ⟨[.slice vw.da vw.dims.length vw.dc, .int .i64 vw.exp, .slice vw.na vw.data.length vw.nc], 0, true, true⟩), (some b_8, ⟨[.slice vb.da vb.dims.length vb.dc, .int .i64 vb.exp, .slice vb.na vb.data.length vb.nc], 0, true, true⟩), (some b_11, ⟨[.slice none 0 0, .int .i64 0, .slice none 0 0], 0, true, true⟩), (some b_23, ⟨[.slice vx.da vx.dims.length vx.dc, .int .i64 vx.exp, .slice vx.na vx.data.length vx.nc, .slice vw.da vw.dims.length vw.dc, .int .i64 vw.exp, .slice vw.na vw.data.length vw.nc], 3, true, true⟩)]) rfl rfl (by kernel_rfl) (by kernel_rfl) (by kernel_rfl) (by kernel_rfl) (by kernel_rfl) ?_
      intro H_32 hS_33
      refine D_pure (v := .int .i64 (Pl.mayErr 2 (List.map TV.ten [vx, vw]))) (by kernel_rfl) (by kernel_rfl) ?_
      refine D_nil ⟨by kernel_rfl, ?_⟩
      refine W_forget [(6, .pointer (some ⟨b_11, 0, none⟩)), (7, .int .i64 (Pl.mayErr 2 (List.map TV.ten [vx, vw])))] ⟨by kernel_rfl, by kernel_rfl, trivial⟩ fun u_34 => ?_
      refine W_ret ?_
      rw [fwdOut_m hb_19 hb_31] at h
      exact ⟨[.agg #[.slice none 0 0, .int .i64 0, .slice none 0 0], .int .i64 (Pl.mayErr 2 (List.map TV.ten [vx, vw]))], resultAll_cell (off := 0) (by kernel_rfl) (hS_33.get (i := 3) rfl) (by kernel_rfl) (resultAll_tmp (by kernel_rfl) (rfl)), h _ _ _ (((hS_33.nil 1 true true).nil 1 false true).pick [5, 6] (by decide) rfl)⟩
    case refine_2 =>
      try simp only [Bool.and_eq_true, Bool.or_eq_true, Bool.and_eq_false_iff, Bool.or_eq_false_iff, decide_eq_true_eq, decide_eq_false_iff_not, beq_iff_eq, beq_eq_false_iff_ne, bne_iff_ne, bne_eq_false_iff_eq, Bool.not_eq_true', Bool.not_eq_false', ne_eq] at hb_31
      refine W_skip ?_
      refine W_seq ?_
      have hm2 := Pl.mayErr_ok2 2 vx.ten vw.ten (by assumption)
      have hx2 : vx.dims.length = 2 := by have := hm2.2.2.1; simp only [TV.ten] at this; omega
      have hw2 : vw.dims.length = 2 := by have := hm2.2.2.2; simp only [TV.ten] at this; omega
      refine W_reg [false, false, false, false, false, false, false, false, false, false, false, false, false, false, false, false] [(9, 14), (11, 14)] (.inl ⟨rfl, by kernel_rfl⟩) ?_
      refine D_pure (v := .pointer (some ⟨b_2, 0, none⟩)) (by kernel_rfl) (by kernel_rfl) ?_
      refine S_load hS_28 0 (ty := 24) (x := (.tmp 25)) (off := 0) (v := .slice vx.da vx.dims.length vx.dc) rfl (by kernel_rfl) (by kernel_rfl) (by kernel_rfl) (by kernel_rfl) ?_
      obtain ⟨p_35, hp_36, hc_37, hb_38⟩ := prim_indexB (P := Try.prog) (fl := fl) (t := _) (H := H_26) (x := (.tmp 26)) (ix := (.const (.int .i64 0))) hvx.dims 0 aty24 (by kernel_rfl) (by kernel_rfl) (z := 0) (ki := .i64) (by omega) (by omega)
      refine D_op (by kernel_rfl) hp_36 ?_
      refine D_loadB hS_28.pre hc_37 aty3 (ty := 3) (x := (.tmp 27)) (by kernel_rfl) (by kernel_rfl) (by kernel_rfl) ?_
      refine D_pure (v := .pointer (some ⟨b_2, 0, none⟩)) (by kernel_rfl) (by kernel_rfl) ?_
      refine S_load hS_28 0 (ty := 24) (x := (.tmp 29)) (off := 0) (v := .slice vx.da vx.dims.length vx.dc) rfl (by kernel_rfl) (by kernel_rfl) (by kernel_rfl) (by kernel_rfl) ?_
      obtain ⟨p_39, hp_40, hc_41, hb_42⟩ := prim_indexB (P := Try.prog) (fl := fl) (t := _) (H := H_26) (x := (.tmp 30)) (ix := (.const (.int .i64 1))) hvx.dims 1 aty24 (by kernel_rfl) (by kernel_rfl) (z := 1) (ki := .i64) (by omega) (by omega)
      refine D_op (by kernel_rfl) hp_40 ?_
      refine D_loadB hS_28.pre hc_41 aty3 (ty := 3) (x := (.tmp 31)) (by kernel_rfl) (by kernel_rfl) (by kernel_rfl) ?_
      refine D_pure (v := .pointer (some ⟨b_5, 0, none⟩)) (by kernel_rfl) (by kernel_rfl) ?_
      refine S_load hS_28 1 (ty := 24) (x := (.tmp 33)) (off := 0) (v := .slice vw.da vw.dims.length vw.dc) rfl (by kernel_rfl) (by kernel_rfl) (by kernel_rfl) (by kernel_rfl) ?_
      obtain ⟨p_43, hp_44, hc_45, hb_46⟩ := prim_indexB (P := Try.prog) (fl := fl) (t := _) (H := H_26) (x := (.tmp 34)) (ix := (.const (.int .i64 0))) hvw.dims 0 aty24 (by kernel_rfl) (by kernel_rfl) (z := 0) (ki := .i64) (by omega) (by omega)
      refine D_op (by kernel_rfl) hp_44 ?_
      refine D_loadB hS_28.pre hc_45 aty3 (ty := 3) (x := (.tmp 35)) (by kernel_rfl) (by kernel_rfl) (by kernel_rfl) ?_
      refine S_new hS_28 (v := fun b => .pointer (some ⟨b, 0, none⟩)) (⟨[.int .i64 0], 0, true, true⟩) (fun b => [(some b_2, ⟨[.slice vx.da vx.dims.length vx.dc, .int .i64 vx.exp, .slice vx.na vx.data.length vx.nc], 0, true, true⟩), (some b_5, ⟨[.slice vw.da vw.dims.length vw.dc, .int .i64 vw.exp, .slice vw.na vw.data.length vw.nc], 0, true, true⟩), (some b_8, ⟨[.slice vb.da vb.dims.length vb.dc, .int .i64 vb.exp, .slice vb.na vb.data.length vb.nc], 0, true, true⟩), (some b_11, ⟨[.slice none 0 0, .int .i64 0, .slice none 0 0], 0, true, true⟩), (some b_23, ⟨[.slice vx.da vx.dims.length vx.dc, .int .i64 vx.exp, .slice vx.na vx.data.length vx.nc, .slice vw.da vw.dims.length vw.dc, .int .i64 vw.exp, .slice vw.na vw.data.length vw.nc], 3, true, true⟩), (some b, ⟨[.int .i64 0], 0, true, true⟩)]) (fun _ => rfl) (by kernel_rfl) (fun _ => by kernel_rfl) ?_
      intro b_47 H_48 hS_49
      refine D_pure (v := .int .i64 (vx.dims.getD 0 0)) (by kernel_rfl) (by kernel_rfl) ?_
      refine S_store hS_49 hfl 5 (ty := 3) (x := (.tmp 10)) (y := (.tmp 32)) (off := 0) (v := .int .i64 (vx.dims.getD 1 0)) (⟨[.int .i64 (vx.dims.getD 1 0)], 0, true, true⟩) ([(some b_2, ⟨[.slice vx.da vx.dims.length vx.dc, .int .i64 vx.exp, .slice vx.na vx.data.length vx.nc], 0, true, true⟩), (some b_5, ⟨[.slice vw.da vw.dims.length vw.dc, .int .i64 vw.exp, .slice vw.na vw.data.length vw.nc], 0, true, true⟩), (some b_8, ⟨[.slice vb.da vb.dims.length vb.dc, .int .i64 vb.exp, .slice vb.na vb.data.length vb.nc], 0, true, true⟩), (some b_11, ⟨[.slice none 0 0, .int .i64 0, .slice none 0 0], 0, true, true⟩), (some b_23, ⟨[.slice vx.da vx.dims.length vx.dc, .int .i64 vx.exp, .slice vx.na vx.data.length vx.nc, .slice vw.da vw.dims.length vw.dc, .int .i64 vw.exp, .slice vw.na vw.data.length vw.nc], 3, true, true⟩), (some b_47, ⟨[.int .i64 (vx.dims.getD 1 0)], 0, true, true⟩)]) rfl rfl (by kernel_rfl) (by kernel_rfl) (by kernel_rfl) (by kernel_rfl) (by kernel_rfl) ?_
      intro H_50 hS_51
      refine D_pure (v := .int .i64 (vw.dims.getD 0 0)) (by kernel_rfl) (by kernel_rfl) ?_
      refine D_nil ⟨clash_cons [] [b_47] [b_5] [b_47] (by kernel_rfl) rfl (apart_one (hS_51.ne (i := 1) (j := 5) (by decide) rfl rfl)) (clash_cons [] [b_47] [p_43.block] [b_47] (by kernel_rfl) rfl (apart_one (Nat.ne_of_lt (Nat.lt_of_lt_of_le hb_46 (hS_51.lo (i := 5) rfl)))) (rfl)), ?_⟩
      refine W_forget [(3, .pointer (some ⟨b_2, 0, none⟩)), (4, .pointer (some ⟨b_5, 0, none⟩)), (5, .pointer (some ⟨b_8, 0, none⟩)), (6, .pointer (some ⟨b_11, 0, none⟩)), (9, .int .i64 (vx.dims.getD 0 0)), (10, .pointer (some ⟨b_47, 0, none⟩)), (11, .int .i64 (vw.dims.getD 0 0))] ⟨by kernel_rfl, by kernel_rfl, by kernel_rfl, by kernel_rfl, by kernel_rfl, by kernel_rfl, by kernel_rfl, trivial⟩ fun u_52 => ?_
      refine W_seq ?_
      refine W_seq ?_
      refine W_cut [false, false, false, false, false, false, false, false, false, false, false, false, false, false, false, false, false, false, false, false] [] (.inl ⟨rfl, by kernel_rfl⟩) [(3, .pointer (some ⟨b_2, 0, none⟩)), (4, .pointer (some ⟨b_5, 0, none⟩)), (5, .pointer (some ⟨b_8, 0, none⟩)), (6, .pointer (some ⟨b_11, 0, none⟩)), (9, .int .i64 (vx.dims.getD 0 0)), (10, .pointer (some ⟨b_47, 0, none⟩)), (11, .int .i64 (vw.dims.getD 0 0)), (56, .bool ((((vw.dims.getD 1 0) != (vx.dims.getD 1 0)) || (((vb.dims.length : Nat) : Int) != 1)) || ((vb.dims.getD 0 0) != (vw.dims.getD 0 0))))] H_50 ?_ (fun t_53 hk_54 => ?_)
      case refine_1 =>
        refine D_pure (v := .pointer (some ⟨b_5, 0, none⟩)) (by kernel_rfl) (by kernel_rfl) ?_
        refine S_load hS_51 1 (ty := 24) (x := (.tmp 37)) (off := 0) (v := .slice vw.da vw.dims.length vw.dc) rfl (by kernel_rfl) (by kernel_rfl) (by kernel_rfl) (by kernel_rfl) ?_
        obtain ⟨p_55, hp_56, hc_57, hb_58⟩ := prim_indexB (P := Try.prog) (fl := fl) (t := _) (H := H_50) (x := (.tmp 38)) (ix := (.const (.int .i64 1))) hvw.dims 1 aty24 (by kernel_rfl) (by kernel_rfl) (z := 1) (ki := .i64) (by omega) (by omega)
        refine D_op (by kernel_rfl) hp_56 ?_
        refine D_loadB hS_51.pre hc_57 aty3 (ty := 3) (x := (.tmp 39)) (by kernel_rfl) (by kernel_rfl) (by kernel_rfl) ?_
        refine S_load hS_51 5 (ty := 3) (x := (.tmp 10)) (off := 0) (v := .int .i64 (vx.dims.getD 1 0)) rfl (by kernel_rfl) (by kernel_rfl) (by kernel_rfl) (by kernel_rfl) ?_
        refine D_pure (v := .bool ((vw.dims.getD 1 0) != (vx.dims.getD 1 0))) (by kernel_rfl) (by kernel_rfl) ?_
        refine D_pure (v := .bool ((vw.dims.getD 1 0) != (vx.dims.getD 1 0))) (by kernel_rfl) (by kernel_rfl) ?_
        generalize hb_59 : (((vw.dims.getD 1 0) != (vx.dims.getD 1 0)) : Bool) = b_60
        cases b_60
        case false =>
          try simp only [Bool.and_eq_true, Bool.or_eq_true, Bool.and_eq_false_iff, Bool.or_eq_false_iff, decide_eq_true_eq, decide_eq_false_iff_not, beq_iff_eq, beq_eq_false_iff_ne, bne_iff_ne, bne_eq_false_iff_eq, Bool.not_eq_true', Bool.not_eq_false', ne_eq] at hb_59
          refine D_pure (v := .pointer (some ⟨b_8, 0, none⟩)) (by kernel_rfl) (by kernel_rfl) ?_
          refine S_load hS_51 2 (ty := 24) (x := (.tmp 44)) (off := 0) (v := .slice vb.da vb.dims.length vb.dc) rfl (by kernel_rfl) (by kernel_rfl) (by kernel_rfl) (by kernel_rfl) ?_
          refine D_pure (v := .int .i64 ((vb.dims.length : Nat) : Int)) (by kernel_rfl) (by kernel_rfl) ?_
          refine D_pure (v := .bool (((vb.dims.length : Nat) : Int) != 1)) (by kernel_rfl) (by kernel_rfl) ?_
          refine D_pure (v := .bool (((vb.dims.length : Nat) : Int) != 1)) (by kernel_rfl) (by kernel_rfl) ?_
          refine D_pure (v := .bool (((vb.dims.length : Nat) : Int) != 1)) (by kernel_rfl) (by kernel_rfl) ?_
          generalize hb_61 : ((((vb.dims.length : Nat) : Int) != 1) : Bool) = b_62
          cases b_62
          case false =>
            try simp only [Bool.and_eq_true, Bool.or_eq_true, Bool.and_eq_false_iff, Bool.or_eq_false_iff, decide_eq_true_eq, decide_eq_false_iff_not, beq_iff_eq, beq_eq_false_iff_ne, bne_iff_ne, bne_eq_false_iff_eq, Bool.not_eq_true', Bool.not_eq_false', ne_eq] at hb_61
            refine D_pure (v := .pointer (some ⟨b_8, 0, none⟩)) (by kernel_rfl) (by kernel_rfl) ?_
            refine S_load hS_51 2 (ty := 24) (x := (.tmp 50)) (off := 0) (v := .slice vb.da vb.dims.length vb.dc) rfl (by kernel_rfl) (by kernel_rfl) (by kernel_rfl) (by kernel_rfl) ?_
            obtain ⟨p_63, hp_64, hc_65, hb_66⟩ := prim_indexB (P := Try.prog) (fl := fl) (t := _) (H := H_50) (x := (.tmp 51)) (ix := (.const (.int .i64 0))) hvb.dims 0 aty24 (by kernel_rfl) (by kernel_rfl) (z := 0) (ki := .i64) (by omega) (by omega)
            refine D_op (by kernel_rfl) hp_64 ?_
            refine D_loadB hS_51.pre hc_65 aty3 (ty := 3) (x := (.tmp 52)) (by kernel_rfl) (by kernel_rfl) (by kernel_rfl) ?_
            refine D_pure (v := .int .i64 (vw.dims.getD 0 0)) (by kernel_rfl) (by kernel_rfl) ?_
            refine D_pure (v := .bool ((vb.dims.getD 0 0) != (vw.dims.getD 0 0))) (by kernel_rfl) (by kernel_rfl) ?_
            refine D_pure (v := .bool ((vb.dims.getD 0 0) != (vw.dims.getD 0 0))) (by kernel_rfl) (by kernel_rfl) ?_
            exact D_nil ⟨by kernel_rfl, ⟨by kernel_rfl, by kernel_rfl, by kernel_rfl, by kernel_rfl, by kernel_rfl, by kernel_rfl, by kernel_rfl, by kernel_rfl, trivial⟩, rfl⟩
          case true =>
            try simp only [Bool.and_eq_true, Bool.or_eq_true, Bool.and_eq_false_iff, Bool.or_eq_false_iff, decide_eq_true_eq, decide_eq_false_iff_not, beq_iff_eq, beq_eq_false_iff_ne, bne_iff_ne, bne_eq_false_iff_eq, Bool.not_eq_true', Bool.not_eq_false', ne_eq] at hb_61
            refine D_not (by kernel_rfl) ?_
            refine D_not (by kernel_rfl) ?_
            refine D_not (by kernel_rfl) ?_
            refine D_not (by kernel_rfl) ?_
            refine D_not (by kernel_rfl) ?_
            refine D_not (by kernel_rfl) ?_
            refine D_pure (v := .bool true) (by kernel_rfl) (by kernel_rfl) ?_
            exact D_nil ⟨by kernel_rfl, ⟨by kernel_rfl, by kernel_rfl, by kernel_rfl, by kernel_rfl, by kernel_rfl, by kernel_rfl, by kernel_rfl, by kernel_rfl, trivial⟩, rfl⟩
        case true =>
          try simp only [Bool.and_eq_true, Bool.or_eq_true, Bool.and_eq_false_iff, Bool.or_eq_false_iff, decide_eq_true_eq, decide_eq_false_iff_not, beq_iff_eq, beq_eq_false_iff_ne, bne_iff_ne, bne_eq_false_iff_eq, Bool.not_eq_true', Bool.not_eq_false', ne_eq] at hb_59
          refine D_not (by kernel_rfl) ?_
          refine D_not (by kernel_rfl) ?_
          refine D_not (by kernel_rfl) ?_
          refine D_not (by kernel_rfl) ?_
          refine D_pure (v := .bool true) (by kernel_rfl) (by kernel_rfl) ?_
          refine D_pure (v := .bool true) (by kernel_rfl) (by kernel_rfl) ?_
          refine D_not (by kernel_rfl) ?_
          refine D_not (by kernel_rfl) ?_
          refine D_not (by kernel_rfl) ?_
          refine D_not (by kernel_rfl) ?_
          refine D_not (by kernel_rfl) ?_
          refine D_not (by kernel_rfl) ?_
          refine D_pure (v := .bool true) (by kernel_rfl) (by kernel_rfl) ?_
          exact D_nil ⟨by kernel_rfl, ⟨by kernel_rfl, by kernel_rfl, by kernel_rfl, by kernel_rfl, by kernel_rfl, by kernel_rfl, by kernel_rfl, by kernel_rfl, trivial⟩, rfl⟩
      refine W_forget [(3, .pointer (some ⟨b_2, 0, none⟩)), (4, .pointer (some ⟨b_5, 0, none⟩)), (5, .pointer (some ⟨b_8, 0, none⟩)), (6, .pointer (some ⟨b_11, 0, none⟩)), (9, .int .i64 (vx.dims.getD 0 0)), (10, .pointer (some ⟨b_47, 0, none⟩)), (11, .int .i64 (vw.dims.getD 0 0)), (56, .bool ((((vw.dims.getD 1 0) != (vx.dims.getD 1 0)) || (((vb.dims.length : Nat) : Int) != 1)) || ((vb.dims.getD 0 0) != (vw.dims.getD 0 0))))] hk_54 fun u_67 => ?_
      refine W_cond (b := ((((vw.dims.getD 1 0) != (vx.dims.getD 1 0)) || (((vb.dims.length : Nat) : Int) != 1)) || ((vb.dims.getD 0 0) != (vw.dims.getD 0 0)))) (by kernel_rfl) (fun hb_68 => ?_) (fun hb_68 => ?_)
      case refine_1 =>
        try simp only [Bool.and_eq_true, Bool.or_eq_true, Bool.and_eq_false_iff, Bool.or_eq_false_iff, decide_eq_true_eq, decide_eq_false_iff_not, beq_iff_eq, beq_eq_false_iff_ne, bne_iff_ne, bne_eq_false_iff_eq, Bool.not_eq_true', Bool.not_eq_false', ne_eq] at hb_68
        refine W_seq ?_
        refine W_reg (List.replicate 3 true) [] (.inr ⟨rfl, by kernel_rfl⟩) ?_
        refine D_pure (v := .agg #[.slice none 0 0, .int .i64 0, .slice none 0 0]) (by kernel_rfl) (by kernel_rfl) ?_
        refine S_store hS_51 hfl 3 (ty := 31) (x := (.tmp 6)) (y := (.tmp 57)) (off := 0) (v := .agg #[.slice none 0 0, .int .i64 0, .slice none 0 0]) (⟨[.slice none 0 0, .int .i64 0, .slice none 0 0], 0, true, true⟩) ([(some b_2, ⟨[.slice vx.da vx.dims.length vx.dc, .int .i64 vx.exp, .slice vx.na vx.data.length vx.nc], 0, true, true⟩), (some b_5, ⟨[.slice vw.da vw.dims.length vw.dc, .int .i64 vw.exp, .slice vw.na vw.data.length vw.nc], 0, true, true⟩), (some b_8, ⟨[.slice vb.da vb.dims.length vb.dc, .int .i64 vb.exp, .slice vb.na vb.data.length vb.nc], 0, true, true⟩), (some b_11, ⟨[.slice none 0 0, .int .i64 0, .slice none 0 0], 0, true, true⟩), (some b_23, ⟨[.slice vx.da vx.dims.length vx.dc, .int .i64 vx.exp, .slice vx.na vx.data.length vx.nc, .slice vw.da vw.dims.length vw.dc, .int .i64 vw.exp, .slice vw.na vw.data.length vw.nc], 3, true, true⟩), (some b_47, ⟨[.int .i64 (vx.dims.getD 1 0)], 0, true, true⟩)]) rfl rfl (by kernel_rfl) (by kernel_rfl) (by kernel_rfl) (by kernel_rfl) (by kernel_rfl) ?_
        intro H_69 hS_70
        refine D_pure (v := .int .i64 2) (by kernel_rfl) (by kernel_rfl) ?_
        refine D_nil ⟨by kernel_rfl, ?_⟩
        refine W_forget [(6, .pointer (some ⟨b_11, 0, none⟩)), (7, .int .i64 2)] ⟨by kernel_rfl, by kernel_rfl, trivial⟩ fun u_71 => ?_
        refine W_ret ?_
        rw [fwdOut_2 hb_19 hb_31 hb_68] at h
        exact ⟨[.agg #[.slice none 0 0, .int .i64 0, .slice none 0 0], .int .i64 2], resultAll_cell (off := 0) (by kernel_rfl) (hS_70.get (i := 3) rfl) (by kernel_rfl) (resultAll_tmp (by kernel_rfl) (rfl)), h _ _ _ (((hS_70.nil 1 true true).nil 1 false true).pick [6, 7] (by decide) rfl)⟩
      case refine_2 =>
        try simp only [Bool.and_eq_true, Bool.or_eq_true, Bool.and_eq_false_iff, Bool.or_eq_false_iff, decide_eq_true_eq, decide_eq_false_iff_not, beq_iff_eq, beq_eq_false_iff_ne, bne_iff_ne, bne_eq_false_iff_eq, Bool.not_eq_true', Bool.not_eq_false', ne_eq] at hb_68
        refine W_skip ?_
        refine W_seq ?_
        have hxp := Pl.mayT_parts _ hm2.1; have hwp := Pl.mayT_parts _ hm2.2.1; simp only [TV.ten] at hxp hwp
        have hx5 := Pl.dims2 vx.ten hm2.1 hx2; have hw5 := Pl.dims2 vw.ten hm2.2.1 hw2; simp only [TV.ten] at hx5 hw5
        have hb5 := Pl.dims1 vb.ten (by simpa using hb_19) (by have := hb_68; simp only [TV.ten]; omega); simp only [TV.ten] at hb5; have hdn := hb_68
        refine W_reg (List.replicate 7 true) [] (.inr ⟨rfl, by kernel_rfl⟩) ?_
        refine D_pure (v := .pointer (some ⟨b_2, 1, none⟩)) (by kernel_rfl) (by kernel_rfl) ?_
        refine S_load hS_51 0 (ty := 3) (x := (.tmp 58)) (off := 1) (v := .int .i64 vx.exp) rfl (by kernel_rfl) (by kernel_rfl) (by kernel_rfl) (by kernel_rfl) ?_
        refine D_pure (v := .pointer (some ⟨b_5, 1, none⟩)) (by kernel_rfl) (by kernel_rfl) ?_
        refine S_load hS_51 1 (ty := 3) (x := (.tmp 60)) (off := 1) (v := .int .i64 vw.exp) rfl (by kernel_rfl) (by kernel_rfl) (by kernel_rfl) (by kernel_rfl) ?_
        refine D_opw (v := .int .i64 (vx.exp + vw.exp)) (v' := .int .i64 (IntKind.i64.wrap (vx.exp + vw.exp))) (by kernel_rfl) (by kernel_rfl) (wv (wrap_i64 _ (by omega) (by omega))) ?_
        refine S_new hS_51 (v := fun b => .pointer (some ⟨b, 0, none⟩)) (⟨[.int .i64 0], 0, true, true⟩) (fun b => [(some b_2, ⟨[.slice vx.da vx.dims.length vx.dc, .int .i64 vx.exp, .slice vx.na vx.data.length vx.nc], 0, true, true⟩), (some b_5, ⟨[.slice vw.da vw.dims.length vw.dc, .int .i64 vw.exp, .slice vw.na vw.data.length vw.nc], 0, true, true⟩), (some b_8, ⟨[.slice vb.da vb.dims.length vb.dc, .int .i64 vb.exp, .slice vb.na vb.data.length vb.nc], 0, true, true⟩), (some b_11, ⟨[.slice none 0 0, .int .i64 0, .slice none 0 0], 0, true, true⟩), (some b_23, ⟨[.slice vx.da vx.dims.length vx.dc, .int .i64 vx.exp, .slice vx.na vx.data.length vx.nc, .slice vw.da vw.dims.length vw.dc, .int .i64 vw.exp, .slice vw.na vw.data.length vw.nc], 3, true, true⟩), (some b_47, ⟨[.int .i64 (vx.dims.getD 1 0)], 0, true, true⟩), (some b, ⟨[.int .i64 0], 0, true, true⟩)]) (fun _ => rfl) (by kernel_rfl) (fun _ => by kernel_rfl) ?_
        intro b_72 H_73 hS_74
        refine S_store hS_74 hfl 6 (ty := 3) (x := (.tmp 12)) (y := (.tmp 62)) (off := 0) (v := .int .i64 (vx.exp + vw.exp)) (⟨[.int .i64 (vx.exp + vw.exp)], 0, true, true⟩) ([(some b_2, ⟨[.slice vx.da vx.dims.length vx.dc, .int .i64 vx.exp, .slice vx.na vx.data.length vx.nc], 0, true, true⟩), (some b_5, ⟨[.slice vw.da vw.dims.length vw.dc, .int .i64 vw.exp, .slice vw.na vw.data.length vw.nc], 0, true, true⟩), (some b_8, ⟨[.slice vb.da vb.dims.length vb.dc, .int .i64 vb.exp, .slice vb.na vb.data.length vb.nc], 0, true, true⟩), (some b_11, ⟨[.slice none 0 0, .int .i64 0, .slice none 0 0], 0, true, true⟩), (some b_23, ⟨[.slice vx.da vx.dims.length vx.dc, .int .i64 vx.exp, .slice vx.na vx.data.length vx.nc, .slice vw.da vw.dims.length vw.dc, .int .i64 vw.exp, .slice vw.na vw.data.length vw.nc], 3, true, true⟩), (some b_47, ⟨[.int .i64 (vx.dims.getD 1 0)], 0, true, true⟩), (some b_72, ⟨[.int .i64 (vx.exp + vw.exp)], 0, true, true⟩)]) rfl rfl (by kernel_rfl) (by kernel_rfl) (by kernel_rfl) (by kernel_rfl) (by kernel_rfl) ?_
        intro H_75 hS_76
        refine D_nil ⟨by kernel_rfl, ?_⟩
        refine W_forget [(3, .pointer (some ⟨b_2, 0, none⟩)), (4, .pointer (some ⟨b_5, 0, none⟩)), (5, .pointer (some ⟨b_8, 0, none⟩)), (6, .pointer (some ⟨b_11, 0, none⟩)), (9, .int .i64 (vx.dims.getD 0 0)), (10, .pointer (some ⟨b_47, 0, none⟩)), (11, .int .i64 (vw.dims.getD 0 0)), (12, .pointer (some ⟨b_72, 0, none⟩))] ⟨by kernel_rfl, by kernel_rfl, by kernel_rfl, by kernel_rfl, by kernel_rfl, by kernel_rfl, by kernel_rfl, by kernel_rfl, trivial⟩ fun u_77 => ?_
        refine W_seq ?_
        refine W_reg (List.replicate 10 true) [] (.inr ⟨rfl, by kernel_rfl⟩) ?_
        refine D_pure (v := .int .i64 (vx.dims.getD 0 0)) (by kernel_rfl) (by kernel_rfl) ?_
        refine D_pure (v := .int .i64 (vw.dims.getD 0 0)) (by kernel_rfl) (by kernel_rfl) ?_
        refine S_load hS_76 5 (ty := 3) (x := (.tmp 10)) (off := 0) (v := .int .i64 (vx.dims.getD 1 0)) rfl (by kernel_rfl) (by kernel_rfl) (by kernel_rfl) (by kernel_rfl) ?_
        refine S_load hS_76 6 (ty := 3) (x := (.tmp 12)) (off := 0) (v := .int .i64 (vx.exp + vw.exp)) rfl (by kernel_rfl) (by kernel_rfl) (by kernel_rfl) (by kernel_rfl) ?_
        refine D_pure (v := .func (.func 28) #[] #[.pointer (some ⟨b_8, 0, none⟩), .pointer (some ⟨b_72, 0, none⟩), .pointer (some ⟨b_47, 0, none⟩), .pointer (some ⟨b_2, 0, none⟩), .pointer (some ⟨b_5, 0, none⟩)]) (by kernel_rfl) (by kernel_rfl) ?_
        refine D_call true rfl (by kernel_rfl) (f := 27) (args := #[.int .i64 (vx.dims.getD 0 0), .int .i64 (vw.dims.getD 0 0), .int .i64 (vx.dims.getD 1 0), .int .i64 (vx.exp + vw.exp), .func (.func 28) #[] #[.pointer (some ⟨b_8, 0, none⟩), .pointer (some ⟨b_72, 0, none⟩), .pointer (some ⟨b_47, 0, none⟩), .pointer (some ⟨b_2, 0, none⟩), .pointer (some ⟨b_5, 0, none⟩)]]) (by kernel_rfl) (c_made _ (vx.dims.getD 0 0) (vw.dims.getD 0 0) (vx.dims.getD 1 0) (vx.exp + vw.exp) 28 #[.pointer (some ⟨b_8, 0, none⟩), .pointer (some ⟨b_72, 0, none⟩), .pointer (some ⟨b_47, 0, none⟩), .pointer (some ⟨b_2, 0, none⟩), .pointer (some ⟨b_5, 0, none⟩)] (Pl.fwdAt (vx.dims.getD 1 0).toNat (vx.exp + vw.exp) vx.data vw.data vb.data vb.exp) _ (Nat.le_trans hfl hS_76.len) (by kernel_rfl) (fun fl1 H1 i j R1 hp hi hj hR => c_fwd1 fl1 b_8 b_72 b_47 b_2 b_5 vb vx vw _ _ (vx.dims.getD 1 0).toNat i j (by omega) H1 (hp.blk (hS_76.get (i := 2) rfl)) (hp.blk (hS_76.get (i := 6) rfl)) (hp.blk (hS_76.get (i := 5) rfl)) (hp.blk (hS_76.get (i := 0) rfl)) (hp.blk (hS_76.get (i := 1) rfl)) (hvb.pre (hS_76.pre.trans hp)) (hvx.pre (hS_76.pre.trans hp)) (hvw.pre (hS_76.pre.trans hp)) h8b h8x h8w (by omega) (by omega) (fwd_row hi hx5.2.2.2.2.1.symm) (fwd_row hj (by rw [← hdn.1.1]; exact hw5.2.2.2.2.1.symm)) R1 hR) _ ?_)
        intro a_78 a_79 H_80 hS_81
        have hS_82 : St H H_80 [(some b_2, ⟨[.slice vx.da vx.dims.length vx.dc, .int .i64 vx.exp, .slice vx.na vx.data.length vx.nc], 0, true, true⟩), (some b_5, ⟨[.slice vw.da vw.dims.length vw.dc, .int .i64 vw.exp, .slice vw.na vw.data.length vw.nc], 0, true, true⟩), (some b_8, ⟨[.slice vb.da vb.dims.length vb.dc, .int .i64 vb.exp, .slice vb.na vb.data.length vb.nc], 0, true, true⟩), (some b_11, ⟨[.slice none 0 0, .int .i64 0, .slice none 0 0], 0, true, true⟩), (some b_23, ⟨[.slice vx.da vx.dims.length vx.dc, .int .i64 vx.exp, .slice vx.na vx.data.length vx.nc, .slice vw.da vw.dims.length vw.dc, .int .i64 vw.exp, .slice vw.na vw.data.length vw.nc], 3, true, true⟩), (some b_47, ⟨[.int .i64 (vx.dims.getD 1 0)], 0, true, true⟩), (some b_72, ⟨[.int .i64 (vx.exp + vw.exp)], 0, true, true⟩), (a_78, ib .i64 ((Pl.madeOut (vx.dims.getD 0 0) (vw.dims.getD 0 0) (vx.dims.getD 1 0) (vx.exp + vw.exp) (Pl.fwdAt (vx.dims.getD 1 0).toNat (vx.exp + vw.exp) vx.data vw.data vb.data vb.exp)).2.dims) true), (a_79, ib .i32 ((Pl.madeOut (vx.dims.getD 0 0) (vw.dims.getD 0 0) (vx.dims.getD 1 0) (vx.exp + vw.exp) (Pl.fwdAt (vx.dims.getD 1 0).toNat (vx.exp + vw.exp) vx.data vw.data vb.data vb.exp)).2.data) false)] := hS_76.next hS_81
        refine D_pure (v := .agg #[.slice (a_78.map fun b => ⟨b, 0, none⟩) ((Pl.madeOut (vx.dims.getD 0 0) (vw.dims.getD 0 0) (vx.dims.getD 1 0) (vx.exp + vw.exp) (Pl.fwdAt (vx.dims.getD 1 0).toNat (vx.exp + vw.exp) vx.data vw.data vb.data vb.exp)).2.dims.length) ((Pl.madeOut (vx.dims.getD 0 0) (vw.dims.getD 0 0) (vx.dims.getD 1 0) (vx.exp + vw.exp) (Pl.fwdAt (vx.dims.getD 1 0).toNat (vx.exp + vw.exp) vx.data vw.data vb.data vb.exp)).2.dims.length), .int .i64 ((Pl.madeOut (vx.dims.getD 0 0) (vw.dims.getD 0 0) (vx.dims.getD 1 0) (vx.exp + vw.exp) (Pl.fwdAt (vx.dims.getD 1 0).toNat (vx.exp + vw.exp) vx.data vw.data vb.data vb.exp)).2.exp), .slice (a_79.map fun b => ⟨b, 0, none⟩) ((Pl.madeOut (vx.dims.getD 0 0) (vw.dims.getD 0 0) (vx.dims.getD 1 0) (vx.exp + vw.exp) (Pl.fwdAt (vx.dims.getD 1 0).toNat (vx.exp + vw.exp) vx.data vw.data vb.data vb.exp)).2.data.length) ((Pl.madeOut (vx.dims.getD 0 0) (vw.dims.getD 0 0) (vx.dims.getD 1 0) (vx.exp + vw.exp) (Pl.fwdAt (vx.dims.getD 1 0).toNat (vx.exp + vw.exp) vx.data vw.data vb.data vb.exp)).2.data.length)]) (by kernel_rfl) (by kernel_rfl) ?_
        refine D_pure (v := .int .i64 ((Pl.madeOut (vx.dims.getD 0 0) (vw.dims.getD 0 0) (vx.dims.getD 1 0) (vx.exp + vw.exp) (Pl.fwdAt (vx.dims.getD 1 0).toNat (vx.exp + vw.exp) vx.data vw.data vb.data vb.exp)).1)) (by kernel_rfl) (by kernel_rfl) ?_
        refine S_store hS_82 hfl 3 (ty := 31) (x := (.tmp 6)) (y := (.tmp 69)) (off := 0) (v := .agg #[.slice (a_78.map fun b => ⟨b, 0, none⟩) ((Pl.madeOut (vx.dims.getD 0 0) (vw.dims.getD 0 0) (vx.dims.getD 1 0) (vx.exp + vw.exp) (Pl.fwdAt (vx.dims.getD 1 0).toNat (vx.exp + vw.exp) vx.data vw.data vb.data vb.exp)).2.dims.length) ((Pl.madeOut (vx.dims.getD 0 0) (vw.dims.getD 0 0) (vx.dims.getD 1 0) (vx.exp + vw.exp) (Pl.fwdAt (vx.dims.getD 1 0).toNat (vx.exp + vw.exp) vx.data vw.data vb.data vb.exp)).2.dims.length), .int .i64 ((Pl.madeOut (vx.dims.getD 0 0) (vw.dims.getD 0 0) (vx.dims.getD 1 0) (vx.exp + vw.exp) (Pl.fwdAt (vx.dims.getD 1 0).toNat (vx.exp + vw.exp) vx.data vw.data vb.data vb.exp)).2.exp), .slice (a_79.map fun b => ⟨b, 0, none⟩) ((Pl.madeOut (vx.dims.getD 0 0) (vw.dims.getD 0 0) (vx.dims.getD 1 0) (vx.exp + vw.exp) (Pl.fwdAt (vx.dims.getD 1 0).toNat (vx.exp + vw.exp) vx.data vw.data vb.data vb.exp)).2.data.length) ((Pl.madeOut (vx.dims.getD 0 0) (vw.dims.getD 0 0) (vx.dims.getD 1 0) (vx.exp + vw.exp) (Pl.fwdAt (vx.dims.getD 1 0).toNat (vx.exp + vw.exp) vx.data vw.data vb.data vb.exp)).2.data.length)]) (⟨[.slice (a_78.map fun b => ⟨b, 0, none⟩) ((Pl.madeOut (vx.dims.getD 0 0) (vw.dims.getD 0 0) (vx.dims.getD 1 0) (vx.exp + vw.exp) (Pl.fwdAt (vx.dims.getD 1 0).toNat (vx.exp + vw.exp) vx.data vw.data vb.data vb.exp)).2.dims.length) ((Pl.madeOut (vx.dims.getD 0 0) (vw.dims.getD 0 0) (vx.dims.getD 1 0) (vx.exp + vw.exp) (Pl.fwdAt (vx.dims.getD 1 0).toNat (vx.exp + vw.exp) vx.data vw.data vb.data vb.exp)).2.dims.length), .int .i64 ((Pl.madeOut (vx.dims.getD 0 0) (vw.dims.getD 0 0) (vx.dims.getD 1 0) (vx.exp + vw.exp) (Pl.fwdAt (vx.dims.getD 1 0).toNat (vx.exp + vw.exp) vx.data vw.data vb.data vb.exp)).2.exp), .slice (a_79.map fun b => ⟨b, 0, none⟩) ((Pl.madeOut (vx.dims.getD 0 0) (vw.dims.getD 0 0) (vx.dims.getD 1 0) (vx.exp + vw.exp) (Pl.fwdAt (vx.dims.getD 1 0).toNat (vx.exp + vw.exp) vx.data vw.data vb.data vb.exp)).2.data.length) ((Pl.madeOut (vx.dims.getD 0 0) (vw.dims.getD 0 0) (vx.dims.getD 1 0) (vx.exp + vw.exp) (Pl.fwdAt (vx.dims.getD 1 0).toNat (vx.exp + vw.exp) vx.data vw.data vb.data vb.exp)).2.data.length)], 0, true, true⟩) ([(some b_2, ⟨[.slice vx.da vx.dims.length vx.dc, .int .i64 vx.exp, .slice vx.na vx.data.length vx.nc], 0, true, true⟩), (some b_5, ⟨[.slice vw.da vw.dims.length vw.dc, .int .i64 vw.exp, .slice vw.na vw.data.length vw.nc], 0, true, true⟩), (some b_8, ⟨[.slice vb.da vb.dims.length vb.dc, .int .i64 vb.exp, .slice vb.na vb.data.length vb.nc], 0, true, true⟩), (some b_11, ⟨[.slice (a_78.map fun b => ⟨b, 0, none⟩) ((Pl.madeOut (vx.dims.getD 0 0) (vw.dims.getD 0 0) (vx.dims.getD 1 0) (vx.exp + vw.exp) (Pl.fwdAt (vx.dims.getD 1 0).toNat (vx.exp + vw.exp) vx.data vw.data vb.data vb.exp)).2.dims.length) ((Pl.madeOut (vx.dims.getD 0 0) (vw.dims.getD 0 0) (vx.dims.getD 1 0) (vx.exp + vw.exp) (Pl.fwdAt (vx.dims.getD 1 0).toNat (vx.exp + vw.exp) vx.data vw.data vb.data vb.exp)).2.dims.length), .int .i64 ((Pl.madeOut (vx.dims.getD 0 0) (vw.dims.getD 0 0) (vx.dims.getD 1 0) (vx.exp + vw.exp) (Pl.fwdAt (vx.dims.getD 1 0).toNat (vx.exp + vw.exp) vx.data vw.data vb.data vb.exp)).2.exp), .slice (a_79.map fun b => ⟨b, 0, none⟩) ((Pl.madeOut (vx.dims.getD 0 0) (vw.dims.getD 0 0) (vx.dims.getD 1 0) (vx.exp + vw.exp) (Pl.fwdAt (vx.dims.getD 1 0).toNat (vx.exp + vw.exp) vx.data vw.data vb.data vb.exp)).2.data.length) ((Pl.madeOut (vx.dims.getD 0 0) (vw.dims.getD 0 0) (vx.dims.getD 1 0) (vx.exp + vw.exp) (Pl.fwdAt (vx.dims.getD 1 0).toNat (vx.exp + vw.exp) vx.data vw.data vb.data vb.exp)).2.data.length)], 0, true, true⟩), (some b_23, ⟨[.slice vx.da vx.dims.length vx.dc, .int .i64 vx.exp, .slice vx.na vx.data.length vx.nc, .slice vw.da vw.dims.length vw.dc, .int .i64 vw.exp, .slice vw.na vw.data.length vw.nc], 3, true, true⟩), (some b_47, ⟨[.int .i64 (vx.dims.getD 1 0)], 0, true, true⟩), (some b_72, ⟨[.int .i64 (vx.exp + vw.exp)], 0, true, true⟩), (a_78, ib .i64 ((Pl.madeOut (vx.dims.getD 0 0) (vw.dims.getD 0 0) (vx.dims.getD 1 0) (vx.exp + vw.exp) (Pl.fwdAt (vx.dims.getD 1 0).toNat (vx.exp + vw.exp) vx.data vw.data vb.data vb.exp)).2.dims) true), (a_79, ib .i32 ((Pl.madeOut (vx.dims.getD 0 0) (vw.dims.getD 0 0) (vx.dims.getD 1 0) (vx.exp + vw.exp) (Pl.fwdAt (vx.dims.getD 1 0).toNat (vx.exp + vw.exp) vx.data vw.data vb.data vb.exp)).2.data) false)]) rfl rfl (by kernel_rfl) (by kernel_rfl) (by kernel_rfl) (by kernel_rfl) (by kernel_rfl) ?_
        intro H_83 hS_84
        refine D_pure (v := .int .i64 ((Pl.madeOut (vx.dims.getD 0 0) (vw.dims.getD 0 0) (vx.dims.getD 1 0) (vx.exp + vw.exp) (Pl.fwdAt (vx.dims.getD 1 0).toNat (vx.exp + vw.exp) vx.data vw.data vb.data vb.exp)).1)) (by kernel_rfl) (by kernel_rfl) ?_
        refine D_nil ⟨by kernel_rfl, ?_⟩
        refine W_forget [(6, .pointer (some ⟨b_11, 0, none⟩)), (7, .int .i64 ((Pl.madeOut (vx.dims.getD 0 0) (vw.dims.getD 0 0) (vx.dims.getD 1 0) (vx.exp + vw.exp) (Pl.fwdAt (vx.dims.getD 1 0).toNat (vx.exp + vw.exp) vx.data vw.data vb.data vb.exp)).1))] ⟨by kernel_rfl, by kernel_rfl, trivial⟩ fun u_85 => ?_
        refine W_ret ?_
        rw [fwdOut_ok hb_19 hb_31 hb_68] at h
        exact ⟨[.agg #[.slice (a_78.map fun b => ⟨b, 0, none⟩) ((Pl.madeOut (vx.dims.getD 0 0) (vw.dims.getD 0 0) (vx.dims.getD 1 0) (vx.exp + vw.exp) (Pl.fwdAt (vx.dims.getD 1 0).toNat (vx.exp + vw.exp) vx.data vw.data vb.data vb.exp)).2.dims.length) ((Pl.madeOut (vx.dims.getD 0 0) (vw.dims.getD 0 0) (vx.dims.getD 1 0) (vx.exp + vw.exp) (Pl.fwdAt (vx.dims.getD 1 0).toNat (vx.exp + vw.exp) vx.data vw.data vb.data vb.exp)).2.dims.length), .int .i64 ((Pl.madeOut (vx.dims.getD 0 0) (vw.dims.getD 0 0) (vx.dims.getD 1 0) (vx.exp + vw.exp) (Pl.fwdAt (vx.dims.getD 1 0).toNat (vx.exp + vw.exp) vx.data vw.data vb.data vb.exp)).2.exp), .slice (a_79.map fun b => ⟨b, 0, none⟩) ((Pl.madeOut (vx.dims.getD 0 0) (vw.dims.getD 0 0) (vx.dims.getD 1 0) (vx.exp + vw.exp) (Pl.fwdAt (vx.dims.getD 1 0).toNat (vx.exp + vw.exp) vx.data vw.data vb.data vb.exp)).2.data.length) ((Pl.madeOut (vx.dims.getD 0 0) (vw.dims.getD 0 0) (vx.dims.getD 1 0) (vx.exp + vw.exp) (Pl.fwdAt (vx.dims.getD 1 0).toNat (vx.exp + vw.exp) vx.data vw.data vb.data vb.exp)).2.data.length)], .int .i64 ((Pl.madeOut (vx.dims.getD 0 0) (vw.dims.getD 0 0) (vx.dims.getD 1 0) (vx.exp + vw.exp) (Pl.fwdAt (vx.dims.getD 1 0).toNat (vx.exp + vw.exp) vx.data vw.data vb.data vb.exp)).1)], resultAll_cell (off := 0) (by kernel_rfl) (hS_84.get (i := 3) rfl) (by kernel_rfl) (resultAll_tmp (by kernel_rfl) (rfl)), h _ _ _ (hS_84.pick [7, 8] (by decide) rfl)⟩
end Go.Proofs.Ytanjlcjpcenejaa
