/- The machine runs the functions of tensor, dense.may, round.Align. No condition beyond those typed. -/
import Derived.Test.YtanjlcjpcenejaaShapeM
import Derived.Test.YtanjlcjpcenejaaTv
import Derived.Test.YtanjlcjpcenejaaPlDense2
namespace Go.Proofs.Ytanjlcjpcenejaa
open Go.Mach
set_option maxRecDepth 100000
set_option linter.unusedSimpArgs false
set_option linter.unusedVariables false
theorem c_index (fl : Nat) (a : Option Addr) (c : Nat) (l : List Int) (x : Int) (H : AHeap) (hs : RI H .i8 a c l) (R : Value → AHeap → Prop) (h : R (.int .i64 (Pl.idxGo x l 0)) H) : WCall Try.prog fl 48 #[.slice a l.length c, .int .i8 x] H R := by
  have hlen := hs.len
  refine W_call Try.func48 rfl (by kernel_rfl) (Nat.le_of_ble_eq_true rfl) ?_
  have hS := St.refl H
  refine W_forget [(0, .slice a l.length c), (1, .int .i8 x)] ⟨by kernel_rfl, by kernel_rfl, trivial⟩ fun u_1 => ?_
  refine W_seq ?_
  refine W_reg (List.replicate 1 true) [] (.inr ⟨rfl, by kernel_rfl⟩) ?_
  refine D_pure (v := .int .i64 0) (by kernel_rfl) (by kernel_rfl) ?_
  refine D_nil ⟨by kernel_rfl, ?_⟩
  refine W_forget [(0, .slice a l.length c), (1, .int .i8 x)] ⟨by kernel_rfl, by kernel_rfl, trivial⟩ fun u_2 => ?_
  refine W_seq ?_
  refine W_seq ?_
  refine W_reg (List.replicate 3 true) [] (.inr ⟨rfl, by kernel_rfl⟩) ?_
  refine D_pure (v := .slice a l.length c) (by kernel_rfl) (by kernel_rfl) ?_
  refine D_pure (v := .int .i64 ((l.length : Nat) : Int)) (by kernel_rfl) (by kernel_rfl) ?_
  refine D_pure (v := .int .i64 0) (by kernel_rfl) (by kernel_rfl) ?_
  refine D_nil ⟨by kernel_rfl, ?_⟩
  refine W_forget [(0, .slice a l.length c), (1, .int .i8 x), (7, .int .i64 ((l.length : Nat) : Int)), (8, .int .i64 0)] ⟨by kernel_rfl, by kernel_rfl, by kernel_rfl, by kernel_rfl, trivial⟩ fun u_3 => ?_
  refine W_block ?_
  refine W_loop (fun kq t' H' => ∃ uq, ∃ (i : Nat),  H = H' ∧ t' = tl [(0, .slice a l.length c), (1, .int .i8 x), (7, .int .i64 ((l.length : Nat) : Int)), (8, .int .i64 (i : Int))] uq ∧ kq = l.length - i ∧ (i ≤ l.length) ∧ (Pl.idxGo x l 0 = Pl.idxGo x (l.drop i) i)) (l.length) ?_ ?_
  case refine_1 => exact ⟨_, 0,  rfl, tl_keep (l := [(0, .slice a l.length c), (1, .int .i8 x), (7, .int .i64 ((l.length : Nat) : Int)), (8, .int .i64 (0 : Int))]) ⟨by kernel_rfl, by kernel_rfl, by kernel_rfl, by kernel_rfl, trivial⟩, by omega, by omega, rfl⟩
  rintro kq _ _ ⟨uq, i,  rfl, rfl, rfl, hi, hx⟩
  try clear kq
  refine W_seq ?_
  refine W_reg (List.replicate 1 true) [] (.inr ⟨rfl, by kernel_rfl⟩) ?_
  refine D_pure (v := .bool (decide ((i : Int) < ((l.length : Nat) : Int)))) (by kernel_rfl) (by kernel_rfl) ?_
  refine D_nil ⟨by kernel_rfl, ?_⟩
  refine W_forget [(0, .slice a l.length c), (1, .int .i8 x), (7, .int .i64 ((l.length : Nat) : Int)), (8, .int .i64 (i : Int)), (9, .bool (decide ((i : Int) < ((l.length : Nat) : Int))))] ⟨by kernel_rfl, by kernel_rfl, by kernel_rfl, by kernel_rfl, by kernel_rfl, trivial⟩ fun u_6 => ?_
  refine W_seq ?_
  refine W_cond (b := decide ((i : Int) < ((l.length : Nat) : Int))) (by kernel_rfl) (fun hb_7 => ?_) (fun hb_7 => ?_)
  case refine_1 =>
    try simp only [Bool.and_eq_true, Bool.or_eq_true, Bool.and_eq_false_iff, Bool.or_eq_false_iff, decide_eq_true_eq, decide_eq_false_iff_not, beq_iff_eq, beq_eq_false_iff_ne, bne_iff_ne, bne_eq_false_iff_eq, Bool.not_eq_true', Bool.not_eq_false', ne_eq] at hb_7
    refine W_skip ?_
    refine W_seq ?_
    refine W_block ?_
    refine W_seq ?_
    refine W_reg (List.replicate 2 true) [] (.inr ⟨rfl, by kernel_rfl⟩) ?_
    refine D_pure (v := .int .i64 (i : Int)) (by kernel_rfl) (by kernel_rfl) ?_
    refine D_pure (v := .int .i64 (i : Int)) (by kernel_rfl) (by kernel_rfl) ?_
    refine D_nil ⟨by kernel_rfl, ?_⟩
    refine W_forget [(0, .slice a l.length c), (1, .int .i8 x), (5, .int .i64 (i : Int)), (7, .int .i64 ((l.length : Nat) : Int)), (8, .int .i64 (i : Int))] ⟨by kernel_rfl, by kernel_rfl, by kernel_rfl, by kernel_rfl, by kernel_rfl, trivial⟩ fun u_8 => ?_
    refine W_seq ?_
    refine W_reg (List.replicate 6 true) [] (.inr ⟨rfl, by kernel_rfl⟩) ?_
    refine D_pure (v := .int .i8 x) (by kernel_rfl) (by kernel_rfl) ?_
    refine D_pure (v := .slice a l.length c) (by kernel_rfl) (by kernel_rfl) ?_
    refine D_pure (v := .int .i64 (i : Int)) (by kernel_rfl) (by kernel_rfl) ?_
    obtain ⟨p_9, hp_10, hc_11, hb_12⟩ := prim_indexB (P := Try.prog) (fl := fl) (t := _) (H := H) (x := (.tmp 12)) (ix := (.tmp 13)) hs i aty22 (by kernel_rfl) (by kernel_rfl) (z := (i : Int)) (ki := .i64) (by first | omega | (push_cast; omega)) (by omega)
    refine D_op (by kernel_rfl) hp_10 ?_
    refine D_loadB hS.pre hc_11 aty37 (ty := 37) (x := (.tmp 14)) (by kernel_rfl) (by kernel_rfl) (by kernel_rfl) ?_
    refine D_pure (v := .bool (x == (l.getD i 0))) (by kernel_rfl) (by kernel_rfl) ?_
    refine D_nil ⟨by kernel_rfl, ?_⟩
    refine W_forget [(0, .slice a l.length c), (1, .int .i8 x), (5, .int .i64 (i : Int)), (7, .int .i64 ((l.length : Nat) : Int)), (8, .int .i64 (i : Int)), (16, .bool (x == (l.getD i 0)))] ⟨by kernel_rfl, by kernel_rfl, by kernel_rfl, by kernel_rfl, by kernel_rfl, by kernel_rfl, trivial⟩ fun u_13 => ?_
    refine W_cond (b := (x == (l.getD i 0))) (by kernel_rfl) (fun hb_14 => ?_) (fun hb_14 => ?_)
    case refine_1 =>
      try simp only [Bool.and_eq_true, Bool.or_eq_true, Bool.and_eq_false_iff, Bool.or_eq_false_iff, decide_eq_true_eq, decide_eq_false_iff_not, beq_iff_eq, beq_eq_false_iff_ne, bne_iff_ne, bne_eq_false_iff_eq, Bool.not_eq_true', Bool.not_eq_false', ne_eq] at hb_14
      refine W_seq ?_
      refine W_reg (List.replicate 2 true) [] (.inr ⟨rfl, by kernel_rfl⟩) ?_
      refine D_pure (v := .int .i64 (i : Int)) (by kernel_rfl) (by kernel_rfl) ?_
      refine D_pure (v := .int .i64 (i : Int)) (by kernel_rfl) (by kernel_rfl) ?_
      refine D_nil ⟨by kernel_rfl, ?_⟩
      refine W_forget [(4, .int .i64 (i : Int))] ⟨by kernel_rfl, trivial⟩ fun u_15 => ?_
      refine W_ret ?_
      exact ⟨[.int .i64 (i : Int)], by kernel_rfl, (by rw [show ((i : Int) : Int) = Pl.idxGo x l 0 from (by first | (rw [hx, Pl.idxGo_drop x l i i (by omega), if_pos (by omega)]) | (rw [hx, List.drop_eq_nil_of_le (by omega)]; rfl))]; exact h)⟩
    case refine_2 =>
      try simp only [Bool.and_eq_true, Bool.or_eq_true, Bool.and_eq_false_iff, Bool.or_eq_false_iff, decide_eq_true_eq, decide_eq_false_iff_not, beq_iff_eq, beq_eq_false_iff_ne, bne_iff_ne, bne_eq_false_iff_eq, Bool.not_eq_true', Bool.not_eq_false', ne_eq] at hb_14
      refine W_skip ?_
      refine W_reg (List.replicate 2 true) [] (.inr ⟨rfl, by kernel_rfl⟩) ?_
      refine D_opw (v := .int .i64 ((i : Int) + 1)) (v' := .int .i64 (IntKind.i64.wrap ((i : Int) + 1))) (by kernel_rfl) (by kernel_rfl) (wv (wrap_i64 _ (by omega) (by omega))) ?_
      refine D_pure (v := .int .i64 ((i : Int) + 1)) (by kernel_rfl) (by kernel_rfl) ?_
      refine D_nil ⟨by kernel_rfl, ?_⟩
      refine ⟨_, ?_, _, i + 1,  rfl, tl_keep (l := [(0, .slice a l.length c), (1, .int .i8 x), (7, .int .i64 ((l.length : Nat) : Int)), (8, .int .i64 (((i + 1) : Nat) : Int))]) ⟨by kernel_rfl, by kernel_rfl, by kernel_rfl, iv (k := .i64) (a := (i : Int) + 1) (by omega), trivial⟩, rfl, by omega, by rw [hx, Pl.idxGo_drop x l i i (by omega), if_neg (by omega)]; rfl⟩
      omega
  case refine_2 =>
    try simp only [Bool.and_eq_true, Bool.or_eq_true, Bool.and_eq_false_iff, Bool.or_eq_false_iff, decide_eq_true_eq, decide_eq_false_iff_not, beq_iff_eq, beq_eq_false_iff_ne, bne_iff_ne, bne_eq_false_iff_eq, Bool.not_eq_true', Bool.not_eq_false', ne_eq] at hb_7
    refine W_exit ?_
    refine W_seq ?_
    refine W_reg (List.replicate 1 true) [] (.inr ⟨rfl, by kernel_rfl⟩) ?_
    refine D_pure (v := .int .i64 (-1)) (by kernel_rfl) (by kernel_rfl) ?_
    refine D_nil ⟨by kernel_rfl, ?_⟩
    refine W_forget [(4, .int .i64 (-1))] ⟨by kernel_rfl, trivial⟩ fun u_16 => ?_
    refine W_ret ?_
    exact ⟨[.int .i64 (-1)], by kernel_rfl, (by rw [show (-1 : Int) = Pl.idxGo x l 0 from (by first | (rw [hx, Pl.idxGo_drop x l i i (by omega), if_pos (by omega)]) | (rw [hx, List.drop_eq_nil_of_le (by omega)]; rfl))]; exact h)⟩
theorem c_has (fl : Nat) (a : Option Addr) (c : Nat) (l : List Int) (x : Int) (H : AHeap) (hs : RI H .i8 a c l) (R : Value → AHeap → Prop) (h : R (.bool (Pl.has x l)) H) : WCall Try.prog fl 40 #[.slice a l.length c, .int .i8 x] H R := by
  refine W_call Try.func40 rfl (by kernel_rfl) (Nat.le_of_ble_eq_true rfl) ?_
  have hS := St.refl H
  refine W_forget [(0, .slice a l.length c), (1, .int .i8 x)] ⟨by kernel_rfl, by kernel_rfl, trivial⟩ fun u_1 => ?_
  refine W_seq ?_
  refine W_reg (List.replicate 1 true) [] (.inr ⟨rfl, by kernel_rfl⟩) ?_
  refine D_pure (v := .bool false) (by kernel_rfl) (by kernel_rfl) ?_
  refine D_nil ⟨by kernel_rfl, ?_⟩
  refine W_forget [(0, .slice a l.length c), (1, .int .i8 x)] ⟨by kernel_rfl, by kernel_rfl, trivial⟩ fun u_2 => ?_
  refine W_seq ?_
  refine W_reg (List.replicate 5 true) [] (.inr ⟨rfl, by kernel_rfl⟩) ?_
  refine D_pure (v := .slice a l.length c) (by kernel_rfl) (by kernel_rfl) ?_
  refine D_pure (v := .int .i8 x) (by kernel_rfl) (by kernel_rfl) ?_
  refine D_call true rfl (by kernel_rfl) (f := 48) (args := #[.slice a l.length c, .int .i8 x]) (by kernel_rfl) (c_index _ _ _ _ _ _ (hs.pre hS.pre) _ ?_)
  refine D_pure (v := .bool (decide (0 ≤ Pl.idxGo x l 0))) (by kernel_rfl) (by kernel_rfl) ?_
  refine D_pure (v := .bool (decide (0 ≤ Pl.idxGo x l 0))) (by kernel_rfl) (by kernel_rfl) ?_
  refine D_nil ⟨by kernel_rfl, ?_⟩
  refine W_forget [(4, .bool (decide (0 ≤ Pl.idxGo x l 0)))] ⟨by kernel_rfl, trivial⟩ fun u_3 => ?_
  refine W_ret ?_
  exact ⟨[.bool (decide (0 ≤ Pl.idxGo x l 0))], by kernel_rfl, h⟩
def _root_.Go.Mach.TV.ten (v : TV) : Pl.Ten := ⟨v.dims, v.exp, v.data⟩
theorem may_eq (s : Int) (n : Nat) (e m : Int) (q : Bool) : (((decide (0 < s) && ((n : Int) == s)) && (decide (0 - m ≤ e) && decide (e ≤ m))) && (!q)) = (decide (0 < s) && decide ((n : Int) = s) && decide (-m ≤ e ∧ e ≤ m) && !q) := by
  have h1 : ((n : Int) == s) = decide ((n : Int) = s) := by
    by_cases h : (n : Int) = s <;> simp [h]
  have h2 : (decide (0 - m ≤ e) && decide (e ≤ m)) = decide (-m ≤ e ∧ e ≤ m) := by
    rw [Bool.decide_and, Int.zero_sub]
  rw [h1, h2]
theorem c_may (fl : Nat) (v : TV) (H : AHeap) (hv : v.ok .i8 H) (R : Value → AHeap → Prop) (h : ∀ H', St H H' [] → R (.bool (Pl.mayT v.ten)) H') : WCall Try.prog fl 25 #[v.val] H R := by
  refine W_call Try.func25 rfl (by kernel_rfl) (Nat.le_of_ble_eq_true rfl) ?_
  have hS := St.refl H
  refine W_forget [(0, .agg #[.slice v.da v.dims.length v.dc, .int .i64 v.exp, .slice v.na v.data.length v.nc])] ⟨by kernel_rfl, trivial⟩ fun u_1 => ?_
  refine W_seq ?_
  refine W_reg (List.replicate 2 true) [] (.inr ⟨rfl, by kernel_rfl⟩) ?_
  refine S_new hS (v := fun b => .pointer (some ⟨b, 0, none⟩)) (⟨[.slice v.da v.dims.length v.dc, .int .i64 v.exp, .slice v.na v.data.length v.nc], 0, true, true⟩) (fun b => [(some b, ⟨[.slice v.da v.dims.length v.dc, .int .i64 v.exp, .slice v.na v.data.length v.nc], 0, true, true⟩)]) (fun _ => rfl) (by kernel_rfl) (fun _ => by kernel_rfl) ?_
  intro b_2 H_3 hS_4
  refine D_pure (v := .bool false) (by kernel_rfl) (by kernel_rfl) ?_
  refine D_nil ⟨by kernel_rfl, ?_⟩
  refine W_forget [(1, .pointer (some ⟨b_2, 0, none⟩))] ⟨by kernel_rfl, trivial⟩ fun u_5 => ?_
  refine W_seq ?_
  refine W_cut [false, false, true, false, false, false, false, false, false, false, false, false, false, false, false, true, false, false, false, false, true, false, false, false] [] (.inl ⟨rfl, by kernel_rfl⟩) [(2, .bool (((decide (0 < Pl.size v.dims) && (((v.data.length : Nat) : Int) == (Pl.size v.dims))) && (decide (0 - 64 ≤ v.exp) && decide (v.exp ≤ 64))) && (!Pl.has (-128) v.data)))] H_3 ?_ (fun t_6 hk_7 => ?_)
  case refine_1 =>
    refine D_pure (v := .pointer (some ⟨b_2, 0, none⟩)) (by kernel_rfl) (by kernel_rfl) ?_
    refine S_load hS_4 0 (ty := 24) (x := (.tmp 3)) (off := 0) (v := .slice v.da v.dims.length v.dc) rfl (by kernel_rfl) (by kernel_rfl) (by kernel_rfl) (by kernel_rfl) ?_
    refine D_call true rfl (by kernel_rfl) (f := 37) (args := #[.slice v.da v.dims.length v.dc]) (by kernel_rfl) (c_smay _ _ _ _ _ (hv.dims.pre hS_4.pre) _ ?_)
    refine D_pure (v := .bool (decide (0 < Pl.size v.dims))) (by kernel_rfl) (by kernel_rfl) ?_
    generalize hb_8 : (decide (0 < Pl.size v.dims) : Bool) = b_9
    cases b_9
    case false =>
      try simp only [Bool.and_eq_true, Bool.or_eq_true, Bool.and_eq_false_iff, Bool.or_eq_false_iff, decide_eq_true_eq, decide_eq_false_iff_not, beq_iff_eq, beq_eq_false_iff_ne, bne_iff_ne, bne_eq_false_iff_eq, Bool.not_eq_true', Bool.not_eq_false', ne_eq] at hb_8
      refine D_not (by kernel_rfl) ?_
      refine D_not (by kernel_rfl) ?_
      refine D_not (by kernel_rfl) ?_
      refine D_not (by kernel_rfl) ?_
      refine D_not (by kernel_rfl) ?_
      refine D_not (by kernel_rfl) ?_
      refine D_not (by kernel_rfl) ?_
      refine D_pure (v := .bool false) (by kernel_rfl) (by kernel_rfl) ?_
      refine D_pure (v := .bool false) (by kernel_rfl) (by kernel_rfl) ?_
      refine D_not (by kernel_rfl) ?_
      refine D_not (by kernel_rfl) ?_
      refine D_not (by kernel_rfl) ?_
      refine D_pure (v := .bool false) (by kernel_rfl) (by kernel_rfl) ?_
      refine D_pure (v := .bool false) (by kernel_rfl) (by kernel_rfl) ?_
      refine D_not (by kernel_rfl) ?_
      refine D_not (by kernel_rfl) ?_
      refine D_not (by kernel_rfl) ?_
      refine D_not (by kernel_rfl) ?_
      refine D_pure (v := .bool false) (by kernel_rfl) (by kernel_rfl) ?_
      refine D_pure (v := .bool false) (by kernel_rfl) (by kernel_rfl) ?_
      exact D_nil ⟨by kernel_rfl, ⟨by kernel_rfl, trivial⟩, rfl⟩
    case true =>
      try simp only [Bool.and_eq_true, Bool.or_eq_true, Bool.and_eq_false_iff, Bool.or_eq_false_iff, decide_eq_true_eq, decide_eq_false_iff_not, beq_iff_eq, beq_eq_false_iff_ne, bne_iff_ne, bne_eq_false_iff_eq, Bool.not_eq_true', Bool.not_eq_false', ne_eq] at hb_8
      refine D_pure (v := .pointer (some ⟨b_2, 2, none⟩)) (by kernel_rfl) (by kernel_rfl) ?_
      refine S_load hS_4 0 (ty := 22) (x := (.tmp 7)) (off := 2) (v := .slice v.na v.data.length v.nc) rfl (by kernel_rfl) (by kernel_rfl) (by kernel_rfl) (by kernel_rfl) ?_
      refine D_pure (v := .int .i64 ((v.data.length : Nat) : Int)) (by kernel_rfl) (by kernel_rfl) ?_
      refine D_pure (v := .pointer (some ⟨b_2, 0, none⟩)) (by kernel_rfl) (by kernel_rfl) ?_
      refine S_load hS_4 0 (ty := 24) (x := (.tmp 10)) (off := 0) (v := .slice v.da v.dims.length v.dc) rfl (by kernel_rfl) (by kernel_rfl) (by kernel_rfl) (by kernel_rfl) ?_
      refine D_call false rfl (by kernel_rfl) (f := 38) (args := #[.slice v.da v.dims.length v.dc]) (by kernel_rfl) (c_size _ _ _ _ _ (hv.dims.pre hS_4.pre) _ ?_)
      refine D_pure (v := .bool (((v.data.length : Nat) : Int) == (Pl.size v.dims))) (by kernel_rfl) (by kernel_rfl) ?_
      refine D_pure (v := .bool (((v.data.length : Nat) : Int) == (Pl.size v.dims))) (by kernel_rfl) (by kernel_rfl) ?_
      refine D_pure (v := .bool (((v.data.length : Nat) : Int) == (Pl.size v.dims))) (by kernel_rfl) (by kernel_rfl) ?_
      generalize hb_10 : ((((v.data.length : Nat) : Int) == (Pl.size v.dims)) : Bool) = b_11
      cases b_11
      case false =>
        try simp only [Bool.and_eq_true, Bool.or_eq_true, Bool.and_eq_false_iff, Bool.or_eq_false_iff, decide_eq_true_eq, decide_eq_false_iff_not, beq_iff_eq, beq_eq_false_iff_ne, bne_iff_ne, bne_eq_false_iff_eq, Bool.not_eq_true', Bool.not_eq_false', ne_eq] at hb_10
        refine D_not (by kernel_rfl) ?_
        refine D_not (by kernel_rfl) ?_
        refine D_not (by kernel_rfl) ?_
        refine D_pure (v := .bool false) (by kernel_rfl) (by kernel_rfl) ?_
        refine D_pure (v := .bool false) (by kernel_rfl) (by kernel_rfl) ?_
        refine D_not (by kernel_rfl) ?_
        refine D_not (by kernel_rfl) ?_
        refine D_not (by kernel_rfl) ?_
        refine D_not (by kernel_rfl) ?_
        refine D_pure (v := .bool false) (by kernel_rfl) (by kernel_rfl) ?_
        refine D_pure (v := .bool false) (by kernel_rfl) (by kernel_rfl) ?_
        exact D_nil ⟨by kernel_rfl, ⟨by kernel_rfl, trivial⟩, rfl⟩
      case true =>
        try simp only [Bool.and_eq_true, Bool.or_eq_true, Bool.and_eq_false_iff, Bool.or_eq_false_iff, decide_eq_true_eq, decide_eq_false_iff_not, beq_iff_eq, beq_eq_false_iff_ne, bne_iff_ne, bne_eq_false_iff_eq, Bool.not_eq_true', Bool.not_eq_false', ne_eq] at hb_10
        refine D_pure (v := .pointer (some ⟨b_2, 1, none⟩)) (by kernel_rfl) (by kernel_rfl) ?_
        refine S_load hS_4 0 (ty := 3) (x := (.tmp 16)) (off := 1) (v := .int .i64 v.exp) rfl (by kernel_rfl) (by kernel_rfl) (by kernel_rfl) (by kernel_rfl) ?_
        refine D_call true rfl (by kernel_rfl) (f := 39) (args := #[.int .i64 v.exp, .int .i64 64]) (by kernel_rfl) (c_exp _ _ _ (by decide) _ _ ?_)
        refine D_pure (v := .bool (decide (0 - 64 ≤ v.exp) && decide (v.exp ≤ 64))) (by kernel_rfl) (by kernel_rfl) ?_
        refine D_pure (v := .bool (decide (0 - 64 ≤ v.exp) && decide (v.exp ≤ 64))) (by kernel_rfl) (by kernel_rfl) ?_
        generalize hb_12 : ((decide (0 - 64 ≤ v.exp) && decide (v.exp ≤ 64)) : Bool) = b_13
        cases b_13
        case false =>
          try simp only [Bool.and_eq_true, Bool.or_eq_true, Bool.and_eq_false_iff, Bool.or_eq_false_iff, decide_eq_true_eq, decide_eq_false_iff_not, beq_iff_eq, beq_eq_false_iff_ne, bne_iff_ne, bne_eq_false_iff_eq, Bool.not_eq_true', Bool.not_eq_false', ne_eq] at hb_12
          refine D_not (by kernel_rfl) ?_
          refine D_not (by kernel_rfl) ?_
          refine D_not (by kernel_rfl) ?_
          refine D_not (by kernel_rfl) ?_
          refine D_pure (v := .bool false) (by kernel_rfl) (by kernel_rfl) ?_
          refine D_pure (v := .bool false) (by kernel_rfl) (by kernel_rfl) ?_
          exact D_nil ⟨by kernel_rfl, ⟨by kernel_rfl, trivial⟩, rfl⟩
        case true =>
          try simp only [Bool.and_eq_true, Bool.or_eq_true, Bool.and_eq_false_iff, Bool.or_eq_false_iff, decide_eq_true_eq, decide_eq_false_iff_not, beq_iff_eq, beq_eq_false_iff_ne, bne_iff_ne, bne_eq_false_iff_eq, Bool.not_eq_true', Bool.not_eq_false', ne_eq] at hb_12
          refine D_pure (v := .pointer (some ⟨b_2, 2, none⟩)) (by kernel_rfl) (by kernel_rfl) ?_
          refine S_load hS_4 0 (ty := 22) (x := (.tmp 21)) (off := 2) (v := .slice v.na v.data.length v.nc) rfl (by kernel_rfl) (by kernel_rfl) (by kernel_rfl) (by kernel_rfl) ?_
          refine D_call true rfl (by kernel_rfl) (f := 40) (args := #[.slice v.na v.data.length v.nc, .int .i8 (-128)]) (by kernel_rfl) (c_has _ _ _ _ _ _ (hv.data.pre hS_4.pre) _ ?_)
          refine D_pure (v := .bool (!Pl.has (-128) v.data)) (by kernel_rfl) (by kernel_rfl) ?_
          refine D_pure (v := .bool (!Pl.has (-128) v.data)) (by kernel_rfl) (by kernel_rfl) ?_
          refine D_pure (v := .bool (!Pl.has (-128) v.data)) (by kernel_rfl) (by kernel_rfl) ?_
          exact D_nil ⟨by kernel_rfl, ⟨by kernel_rfl, trivial⟩, rfl⟩
  refine W_forget [(2, .bool (((decide (0 < Pl.size v.dims) && (((v.data.length : Nat) : Int) == (Pl.size v.dims))) && (decide (0 - 64 ≤ v.exp) && decide (v.exp ≤ 64))) && (!Pl.has (-128) v.data)))] hk_7 fun u_14 => ?_
  refine W_ret ?_
  exact ⟨[.bool (((decide (0 < Pl.size v.dims) && (((v.data.length : Nat) : Int) == (Pl.size v.dims))) && (decide (0 - 64 ≤ v.exp) && decide (v.exp ≤ 64))) && (!Pl.has (-128) v.data))], by kernel_rfl, (by rw [show (((decide (0 < Pl.size v.dims) && (((v.data.length : Nat) : Int) == (Pl.size v.dims))) && (decide (0 - 64 ≤ v.exp) && decide (v.exp ≤ 64))) && (!Pl.has (-128) v.data)) = Pl.mayT v.ten from (by unfold Pl.mayT Pl.expOk TV.ten; exact may_eq _ _ _ _ _)]; exact h _ (hS_4.pick [] (by decide) rfl))⟩
theorem align_shr (v y : Int) (h : y < 0) : Value.int .i64 (v.fdiv (2 ^ (min (if 62 < 0 - y then (62 : Int) else 0 - y).toNat (IntKind.i64).bits))) = .int .i64 (Pl.alignBy v y) := by
  congr 1
  unfold Pl.alignBy
  rw [if_pos h]
  by_cases h62 : 62 < -y
  · rw [if_pos h62, if_pos (by omega)]
    show v.fdiv (2 ^ (min 62 64)) = _
    rw [Int.fdiv_eq_ediv_of_nonneg _ (by decide)]
    rfl
  · rw [if_neg h62, if_neg (by omega)]
    have : min (0 - y).toNat (IntKind.i64).bits = (-y).toNat := by
      show min (0 - y).toNat 64 = _
      omega
    rw [this, Int.fdiv_eq_ediv_of_nonneg]
    exact Int.le_of_lt (Int.pow_pos (by decide))
theorem align_shl2 (v y : Int) (h0 : 0 ≤ y) (h : y ≤ 20) : Value.int .i64 (IntKind.i64.wrap (Pl.between v (-1048576) 1048576 * 2 ^ (min y.toNat (IntKind.i64).bits))) = .int .i64 (Pl.between v (-1048576) 1048576 * 2 ^ y.toNat) := by
  have : min y.toNat (IntKind.i64).bits = y.toNat := by
    show min y.toNat 64 = _
    omega
  rw [this]
  have h1 := Pl.align_shl v y h
  rw [wrap_i64 _ (by omega) (by omega)]
theorem c_align (fl : Nat) (v a b : Int) (H : AHeap) (R : Value → AHeap → Prop) (h : R (.int .i64 (Pl.align v a b)) H) : WCall Try.prog fl 29 #[.int .i64 v, .int .i64 a, .int .i64 b] H R := by
  refine W_call Try.func29 rfl (by kernel_rfl) (Nat.le_of_ble_eq_true rfl) ?_
  have hS := St.refl H
  refine W_forget [(0, .int .i64 v), (1, .int .i64 a), (2, .int .i64 b)] ⟨by kernel_rfl, by kernel_rfl, by kernel_rfl, trivial⟩ fun u_1 => ?_
  refine W_seq ?_
  refine W_reg (List.replicate 1 true) [] (.inr ⟨rfl, by kernel_rfl⟩) ?_
  refine D_pure (v := .int .i64 0) (by kernel_rfl) (by kernel_rfl) ?_
  refine D_nil ⟨by kernel_rfl, ?_⟩
  refine W_forget [(0, .int .i64 v), (1, .int .i64 a), (2, .int .i64 b)] ⟨by kernel_rfl, by kernel_rfl, by kernel_rfl, trivial⟩ fun u_2 => ?_
  refine W_seq ?_
  refine W_reg (List.replicate 3 true) [] (.inr ⟨rfl, by kernel_rfl⟩) ?_
  refine D_pure (v := .int .i64 v) (by kernel_rfl) (by kernel_rfl) ?_
  refine D_call true rfl (by kernel_rfl) (f := 41) (args := #[.int .i64 v]) (by kernel_rfl) (c_value _ _ _ _ ?_)
  refine D_pure (v := .int .i64 (Pl.value v)) (by kernel_rfl) (by kernel_rfl) ?_
  refine D_nil ⟨by kernel_rfl, ?_⟩
  refine W_forget [(0, .int .i64 (Pl.value v)), (1, .int .i64 a), (2, .int .i64 b)] ⟨by kernel_rfl, by kernel_rfl, by kernel_rfl, trivial⟩ fun u_3 => ?_
  refine W_seq ?_
  have hb1 := Pl.between_lo a (-1000) 1000; have hb2 := Pl.between_hi a (-1000) 1000 (by omega); have hb3 := Pl.between_lo b (-1000) 1000; have hb4 := Pl.between_hi b (-1000) 1000 (by omega)
  refine W_reg (List.replicate 6 true) [] (.inr ⟨rfl, by kernel_rfl⟩) ?_
  refine D_pure (v := .int .i64 a) (by kernel_rfl) (by kernel_rfl) ?_
  refine D_call true rfl (by kernel_rfl) (f := 42) (args := #[.int .i64 a, .int .i64 (-1000), .int .i64 1000]) (by kernel_rfl) (c_betw _ _ _ _ _ _ ?_)
  refine D_pure (v := .int .i64 b) (by kernel_rfl) (by kernel_rfl) ?_
  refine D_call true rfl (by kernel_rfl) (f := 42) (args := #[.int .i64 b, .int .i64 (-1000), .int .i64 1000]) (by kernel_rfl) (c_betw _ _ _ _ _ _ ?_)
  refine D_opw (v := .int .i64 ((Pl.between a (-1000) 1000) - (Pl.between b (-1000) 1000))) (v' := .int .i64 (IntKind.i64.wrap ((Pl.between a (-1000) 1000) - (Pl.between b (-1000) 1000)))) (by kernel_rfl) (by kernel_rfl) (wv (wrap_i64 _ (by omega) (by omega))) ?_
  refine D_pure (v := .int .i64 ((Pl.between a (-1000) 1000) - (Pl.between b (-1000) 1000))) (by kernel_rfl) (by kernel_rfl) ?_
  refine D_nil ⟨by kernel_rfl, ?_⟩
  refine W_forget [(0, .int .i64 (Pl.value v)), (7, .int .i64 ((Pl.between a (-1000) 1000) - (Pl.between b (-1000) 1000)))] ⟨by kernel_rfl, by kernel_rfl, trivial⟩ fun u_4 => ?_
  refine W_seq ?_
  refine W_block ?_
  refine W_seq ?_
  refine W_reg (List.replicate 3 true) [] (.inr ⟨rfl, by kernel_rfl⟩) ?_
  refine D_pure (v := .int .i64 ((Pl.between a (-1000) 1000) - (Pl.between b (-1000) 1000))) (by kernel_rfl) (by kernel_rfl) ?_
  refine D_pure (v := .bool (decide ((Pl.between a (-1000) 1000) - (Pl.between b (-1000) 1000) < 0))) (by kernel_rfl) (by kernel_rfl) ?_
  refine D_pure (v := .bool (decide ((Pl.between a (-1000) 1000) - (Pl.between b (-1000) 1000) < 0))) (by kernel_rfl) (by kernel_rfl) ?_
  refine D_nil ⟨by kernel_rfl, ?_⟩
  refine W_forget [(0, .int .i64 (Pl.value v)), (7, .int .i64 ((Pl.between a (-1000) 1000) - (Pl.between b (-1000) 1000))), (15, .bool (decide ((Pl.between a (-1000) 1000) - (Pl.between b (-1000) 1000) < 0)))] ⟨by kernel_rfl, by kernel_rfl, by kernel_rfl, trivial⟩ fun u_5 => ?_
  refine W_cond (b := decide ((Pl.between a (-1000) 1000) - (Pl.between b (-1000) 1000) < 0)) (by kernel_rfl) (fun hb_6 => ?_) (fun hb_6 => ?_)
  case refine_1 =>
    try simp only [Bool.and_eq_true, Bool.or_eq_true, Bool.and_eq_false_iff, Bool.or_eq_false_iff, decide_eq_true_eq, decide_eq_false_iff_not, beq_iff_eq, beq_eq_false_iff_ne, bne_iff_ne, bne_eq_false_iff_eq, Bool.not_eq_true', Bool.not_eq_false', ne_eq] at hb_6
    refine W_seq ?_
    refine W_reg (List.replicate 6 true) [] (.inr ⟨rfl, by kernel_rfl⟩) ?_
    refine D_pure (v := .int .i64 (Pl.value v)) (by kernel_rfl) (by kernel_rfl) ?_
    refine D_pure (v := .int .i64 ((Pl.between a (-1000) 1000) - (Pl.between b (-1000) 1000))) (by kernel_rfl) (by kernel_rfl) ?_
    refine D_opw (v := .int .i64 (0 - ((Pl.between a (-1000) 1000) - (Pl.between b (-1000) 1000)))) (v' := .int .i64 (IntKind.i64.wrap (0 - ((Pl.between a (-1000) 1000) - (Pl.between b (-1000) 1000))))) (by kernel_rfl) (by kernel_rfl) (wv (wrap_i64 _ (by omega) (by omega))) ?_
    refine D_pure (v := .int .i64 (if 62 < (0 - ((Pl.between a (-1000) 1000) - (Pl.between b (-1000) 1000))) then 62 else (0 - ((Pl.between a (-1000) 1000) - (Pl.between b (-1000) 1000))))) (by kernel_rfl) (by kernel_rfl) ?_
    refine D_opw (v := .int .i64 (Pl.alignBy (Pl.value v) (Pl.between a (-1000) 1000 - Pl.between b (-1000) 1000))) (v' := .int .i64 ((Pl.value v).fdiv (2 ^ (min (if 62 < 0 - (Pl.between a (-1000) 1000 - Pl.between b (-1000) 1000) then (62 : Int) else 0 - (Pl.between a (-1000) 1000 - Pl.between b (-1000) 1000)).toNat (IntKind.i64).bits)))) (by kernel_rfl) (prim_shr (x := (.tmp 18)) (y := (.tmp 21)) (k2 := .i64) (by kernel_rfl) (by kernel_rfl) (by omega)) (align_shr _ _ (by omega)) ?_
    refine D_pure (v := .int .i64 (Pl.alignBy (Pl.value v) (Pl.between a (-1000) 1000 - Pl.between b (-1000) 1000))) (by kernel_rfl) (by kernel_rfl) ?_
    refine D_nil ⟨by kernel_rfl, ?_⟩
    refine W_forget [(6, .int .i64 (Pl.alignBy (Pl.value v) (Pl.between a (-1000) 1000 - Pl.between b (-1000) 1000)))] ⟨by kernel_rfl, trivial⟩ fun u_7 => ?_
    refine W_ret ?_
    exact ⟨[.int .i64 (Pl.alignBy (Pl.value v) (Pl.between a (-1000) 1000 - Pl.between b (-1000) 1000))], by kernel_rfl, by rw [show (Pl.alignBy (Pl.value v) (Pl.between a (-1000) 1000 - Pl.between b (-1000) 1000) : Int) = Pl.align v a b from (by unfold Pl.align; first | rfl | (unfold Pl.alignBy; (repeat split) <;> omega))]; exact h⟩
  case refine_2 =>
    try simp only [Bool.and_eq_true, Bool.or_eq_true, Bool.and_eq_false_iff, Bool.or_eq_false_iff, decide_eq_true_eq, decide_eq_false_iff_not, beq_iff_eq, beq_eq_false_iff_ne, bne_iff_ne, bne_eq_false_iff_eq, Bool.not_eq_true', Bool.not_eq_false', ne_eq] at hb_6
    refine W_seq ?_
    refine W_cut (List.replicate 7 true) [] (.inr ⟨rfl, by kernel_rfl⟩) [(0, .int .i64 (Pl.value v)), (7, .int .i64 ((Pl.between a (-1000) 1000) - (Pl.between b (-1000) 1000))), (23, .bool (decide (20 < (Pl.between a (-1000) 1000) - (Pl.between b (-1000) 1000)) && decide (0 < Pl.value v)))] H ?_ (fun t_8 hk_9 => ?_)
    case refine_1 =>
      refine D_pure (v := .int .i64 ((Pl.between a (-1000) 1000) - (Pl.between b (-1000) 1000))) (by kernel_rfl) (by kernel_rfl) ?_
      refine D_pure (v := .bool (decide (20 < (Pl.between a (-1000) 1000) - (Pl.between b (-1000) 1000)))) (by kernel_rfl) (by kernel_rfl) ?_
      refine D_pure (v := .bool (decide (20 < (Pl.between a (-1000) 1000) - (Pl.between b (-1000) 1000)))) (by kernel_rfl) (by kernel_rfl) ?_
      generalize hb_10 : (decide (20 < (Pl.between a (-1000) 1000) - (Pl.between b (-1000) 1000)) : Bool) = b_11
      cases b_11
      case false =>
        try simp only [Bool.and_eq_true, Bool.or_eq_true, Bool.and_eq_false_iff, Bool.or_eq_false_iff, decide_eq_true_eq, decide_eq_false_iff_not, beq_iff_eq, beq_eq_false_iff_ne, bne_iff_ne, bne_eq_false_iff_eq, Bool.not_eq_true', Bool.not_eq_false', ne_eq] at hb_10
        refine D_not (by kernel_rfl) ?_
        refine D_not (by kernel_rfl) ?_
        refine D_pure (v := .bool false) (by kernel_rfl) (by kernel_rfl) ?_
        refine D_pure (v := .bool false) (by kernel_rfl) (by kernel_rfl) ?_
        exact D_nil ⟨by kernel_rfl, ⟨by kernel_rfl, by kernel_rfl, by kernel_rfl, trivial⟩, rfl⟩
      case true =>
        try simp only [Bool.and_eq_true, Bool.or_eq_true, Bool.and_eq_false_iff, Bool.or_eq_false_iff, decide_eq_true_eq, decide_eq_false_iff_not, beq_iff_eq, beq_eq_false_iff_ne, bne_iff_ne, bne_eq_false_iff_eq, Bool.not_eq_true', Bool.not_eq_false', ne_eq] at hb_10
        refine D_pure (v := .int .i64 (Pl.value v)) (by kernel_rfl) (by kernel_rfl) ?_
        refine D_pure (v := .bool (decide (0 < Pl.value v))) (by kernel_rfl) (by kernel_rfl) ?_
        refine D_pure (v := .bool (decide (0 < Pl.value v))) (by kernel_rfl) (by kernel_rfl) ?_
        refine D_pure (v := .bool (decide (0 < Pl.value v))) (by kernel_rfl) (by kernel_rfl) ?_
        exact D_nil ⟨by kernel_rfl, ⟨by kernel_rfl, by kernel_rfl, by kernel_rfl, trivial⟩, rfl⟩
    refine W_forget [(0, .int .i64 (Pl.value v)), (7, .int .i64 ((Pl.between a (-1000) 1000) - (Pl.between b (-1000) 1000))), (23, .bool (decide (20 < (Pl.between a (-1000) 1000) - (Pl.between b (-1000) 1000)) && decide (0 < Pl.value v)))] hk_9 fun u_12 => ?_
    refine W_cond (b := (decide (20 < (Pl.between a (-1000) 1000) - (Pl.between b (-1000) 1000)) && decide (0 < Pl.value v))) (by kernel_rfl) (fun hb_13 => ?_) (fun hb_13 => ?_)
    case refine_1 =>
      try simp only [Bool.and_eq_true, Bool.or_eq_true, Bool.and_eq_false_iff, Bool.or_eq_false_iff, decide_eq_true_eq, decide_eq_false_iff_not, beq_iff_eq, beq_eq_false_iff_ne, bne_iff_ne, bne_eq_false_iff_eq, Bool.not_eq_true', Bool.not_eq_false', ne_eq] at hb_13
      refine W_seq ?_
      refine W_reg (List.replicate 1 true) [] (.inr ⟨rfl, by kernel_rfl⟩) ?_
      refine D_pure (v := .int .i64 1048576) (by kernel_rfl) (by kernel_rfl) ?_
      refine D_nil ⟨by kernel_rfl, ?_⟩
      refine W_forget [(6, .int .i64 1048576)] ⟨by kernel_rfl, trivial⟩ fun u_14 => ?_
      refine W_ret ?_
      exact ⟨[.int .i64 1048576], by kernel_rfl, by rw [show (1048576 : Int) = Pl.align v a b from (by unfold Pl.align; first | rfl | (unfold Pl.alignBy; (repeat split) <;> omega))]; exact h⟩
    case refine_2 =>
      try simp only [Bool.and_eq_true, Bool.or_eq_true, Bool.and_eq_false_iff, Bool.or_eq_false_iff, decide_eq_true_eq, decide_eq_false_iff_not, beq_iff_eq, beq_eq_false_iff_ne, bne_iff_ne, bne_eq_false_iff_eq, Bool.not_eq_true', Bool.not_eq_false', ne_eq] at hb_13
      refine W_seq ?_
      refine W_cut (List.replicate 7 true) [] (.inr ⟨rfl, by kernel_rfl⟩) [(0, .int .i64 (Pl.value v)), (7, .int .i64 ((Pl.between a (-1000) 1000) - (Pl.between b (-1000) 1000))), (30, .bool (decide (20 < (Pl.between a (-1000) 1000) - (Pl.between b (-1000) 1000)) && decide (Pl.value v < 0)))] H ?_ (fun t_15 hk_16 => ?_)
      case refine_1 =>
        refine D_pure (v := .int .i64 ((Pl.between a (-1000) 1000) - (Pl.between b (-1000) 1000))) (by kernel_rfl) (by kernel_rfl) ?_
        refine D_pure (v := .bool (decide (20 < (Pl.between a (-1000) 1000) - (Pl.between b (-1000) 1000)))) (by kernel_rfl) (by kernel_rfl) ?_
        refine D_pure (v := .bool (decide (20 < (Pl.between a (-1000) 1000) - (Pl.between b (-1000) 1000)))) (by kernel_rfl) (by kernel_rfl) ?_
        generalize hb_17 : (decide (20 < (Pl.between a (-1000) 1000) - (Pl.between b (-1000) 1000)) : Bool) = b_18
        cases b_18
        case false =>
          try simp only [Bool.and_eq_true, Bool.or_eq_true, Bool.and_eq_false_iff, Bool.or_eq_false_iff, decide_eq_true_eq, decide_eq_false_iff_not, beq_iff_eq, beq_eq_false_iff_ne, bne_iff_ne, bne_eq_false_iff_eq, Bool.not_eq_true', Bool.not_eq_false', ne_eq] at hb_17
          refine D_not (by kernel_rfl) ?_
          refine D_not (by kernel_rfl) ?_
          refine D_pure (v := .bool false) (by kernel_rfl) (by kernel_rfl) ?_
          refine D_pure (v := .bool false) (by kernel_rfl) (by kernel_rfl) ?_
          exact D_nil ⟨by kernel_rfl, ⟨by kernel_rfl, by kernel_rfl, by kernel_rfl, trivial⟩, rfl⟩
        case true =>
          try simp only [Bool.and_eq_true, Bool.or_eq_true, Bool.and_eq_false_iff, Bool.or_eq_false_iff, decide_eq_true_eq, decide_eq_false_iff_not, beq_iff_eq, beq_eq_false_iff_ne, bne_iff_ne, bne_eq_false_iff_eq, Bool.not_eq_true', Bool.not_eq_false', ne_eq] at hb_17
          refine D_pure (v := .int .i64 (Pl.value v)) (by kernel_rfl) (by kernel_rfl) ?_
          refine D_pure (v := .bool (decide (Pl.value v < 0))) (by kernel_rfl) (by kernel_rfl) ?_
          refine D_pure (v := .bool (decide (Pl.value v < 0))) (by kernel_rfl) (by kernel_rfl) ?_
          refine D_pure (v := .bool (decide (Pl.value v < 0))) (by kernel_rfl) (by kernel_rfl) ?_
          exact D_nil ⟨by kernel_rfl, ⟨by kernel_rfl, by kernel_rfl, by kernel_rfl, trivial⟩, rfl⟩
      refine W_forget [(0, .int .i64 (Pl.value v)), (7, .int .i64 ((Pl.between a (-1000) 1000) - (Pl.between b (-1000) 1000))), (30, .bool (decide (20 < (Pl.between a (-1000) 1000) - (Pl.between b (-1000) 1000)) && decide (Pl.value v < 0)))] hk_16 fun u_19 => ?_
      refine W_cond (b := (decide (20 < (Pl.between a (-1000) 1000) - (Pl.between b (-1000) 1000)) && decide (Pl.value v < 0))) (by kernel_rfl) (fun hb_20 => ?_) (fun hb_20 => ?_)
      case refine_1 =>
        try simp only [Bool.and_eq_true, Bool.or_eq_true, Bool.and_eq_false_iff, Bool.or_eq_false_iff, decide_eq_true_eq, decide_eq_false_iff_not, beq_iff_eq, beq_eq_false_iff_ne, bne_iff_ne, bne_eq_false_iff_eq, Bool.not_eq_true', Bool.not_eq_false', ne_eq] at hb_20
        refine W_seq ?_
        refine W_reg (List.replicate 1 true) [] (.inr ⟨rfl, by kernel_rfl⟩) ?_
        refine D_pure (v := .int .i64 (-1048576)) (by kernel_rfl) (by kernel_rfl) ?_
        refine D_nil ⟨by kernel_rfl, ?_⟩
        refine W_forget [(6, .int .i64 (-1048576))] ⟨by kernel_rfl, trivial⟩ fun u_21 => ?_
        refine W_ret ?_
        exact ⟨[.int .i64 (-1048576)], by kernel_rfl, by rw [show (-1048576 : Int) = Pl.align v a b from (by unfold Pl.align; first | rfl | (unfold Pl.alignBy; (repeat split) <;> omega))]; exact h⟩
      case refine_2 =>
        try simp only [Bool.and_eq_true, Bool.or_eq_true, Bool.and_eq_false_iff, Bool.or_eq_false_iff, decide_eq_true_eq, decide_eq_false_iff_not, beq_iff_eq, beq_eq_false_iff_ne, bne_iff_ne, bne_eq_false_iff_eq, Bool.not_eq_true', Bool.not_eq_false', ne_eq] at hb_20
        refine W_seq ?_
        refine W_reg (List.replicate 3 true) [] (.inr ⟨rfl, by kernel_rfl⟩) ?_
        refine D_pure (v := .int .i64 ((Pl.between a (-1000) 1000) - (Pl.between b (-1000) 1000))) (by kernel_rfl) (by kernel_rfl) ?_
        refine D_pure (v := .bool (decide (20 < (Pl.between a (-1000) 1000) - (Pl.between b (-1000) 1000)))) (by kernel_rfl) (by kernel_rfl) ?_
        refine D_pure (v := .bool (decide (20 < (Pl.between a (-1000) 1000) - (Pl.between b (-1000) 1000)))) (by kernel_rfl) (by kernel_rfl) ?_
        refine D_nil ⟨by kernel_rfl, ?_⟩
        refine W_forget [(0, .int .i64 (Pl.value v)), (7, .int .i64 ((Pl.between a (-1000) 1000) - (Pl.between b (-1000) 1000))), (37, .bool (decide (20 < (Pl.between a (-1000) 1000) - (Pl.between b (-1000) 1000))))] ⟨by kernel_rfl, by kernel_rfl, by kernel_rfl, trivial⟩ fun u_22 => ?_
        refine W_cond (b := decide (20 < (Pl.between a (-1000) 1000) - (Pl.between b (-1000) 1000))) (by kernel_rfl) (fun hb_23 => ?_) (fun hb_23 => ?_)
        case refine_1 =>
          try simp only [Bool.and_eq_true, Bool.or_eq_true, Bool.and_eq_false_iff, Bool.or_eq_false_iff, decide_eq_true_eq, decide_eq_false_iff_not, beq_iff_eq, beq_eq_false_iff_ne, bne_iff_ne, bne_eq_false_iff_eq, Bool.not_eq_true', Bool.not_eq_false', ne_eq] at hb_23
          refine W_seq ?_
          refine W_reg (List.replicate 1 true) [] (.inr ⟨rfl, by kernel_rfl⟩) ?_
          refine D_pure (v := .int .i64 0) (by kernel_rfl) (by kernel_rfl) ?_
          refine D_nil ⟨by kernel_rfl, ?_⟩
          refine W_forget [(6, .int .i64 0)] ⟨by kernel_rfl, trivial⟩ fun u_24 => ?_
          refine W_ret ?_
          exact ⟨[.int .i64 0], by kernel_rfl, by rw [show (0 : Int) = Pl.align v a b from (by unfold Pl.align; first | rfl | (unfold Pl.alignBy; (repeat split) <;> omega))]; exact h⟩
        case refine_2 =>
          try simp only [Bool.and_eq_true, Bool.or_eq_true, Bool.and_eq_false_iff, Bool.or_eq_false_iff, decide_eq_true_eq, decide_eq_false_iff_not, beq_iff_eq, beq_eq_false_iff_ne, bne_iff_ne, bne_eq_false_iff_eq, Bool.not_eq_true', Bool.not_eq_false', ne_eq] at hb_23
          refine W_skip ?_
          refine W_seq ?_
          refine W_reg (List.replicate 6 true) [] (.inr ⟨rfl, by kernel_rfl⟩) ?_
          refine D_pure (v := .int .i64 (Pl.value v)) (by kernel_rfl) (by kernel_rfl) ?_
          refine D_call true rfl (by kernel_rfl) (f := 43) (args := #[.int .i64 (Pl.value v), .int .i64 (-1048576), .int .i64 1048576]) (by kernel_rfl) (c_betw64 _ _ _ _ _ _ ?_)
          refine D_pure (v := .int .i64 ((Pl.between a (-1000) 1000) - (Pl.between b (-1000) 1000))) (by kernel_rfl) (by kernel_rfl) ?_
          refine D_opw (v := .int .i64 (Pl.between (Pl.value v) (-1048576) 1048576 * 2 ^ (Pl.between a (-1000) 1000 - Pl.between b (-1000) 1000).toNat)) (v' := .int .i64 (IntKind.i64.wrap (Pl.between (Pl.value v) (-1048576) 1048576 * 2 ^ (min (Pl.between a (-1000) 1000 - Pl.between b (-1000) 1000).toNat (IntKind.i64).bits)))) (by kernel_rfl) (prim_shl (x := (.tmp 41)) (y := (.tmp 42)) (k2 := .i64) (by kernel_rfl) (by kernel_rfl) (by omega)) (align_shl2 _ _ (by omega) (by omega)) ?_
          refine D_call true rfl (by kernel_rfl) (f := 43) (args := #[.int .i64 (Pl.between (Pl.value v) (-1048576) 1048576 * 2 ^ (Pl.between a (-1000) 1000 - Pl.between b (-1000) 1000).toNat), .int .i64 (-1048576), .int .i64 1048576]) (by kernel_rfl) (c_betw64 _ _ _ _ _ _ ?_)
          refine D_pure (v := .int .i64 (Pl.between (Pl.between (Pl.value v) (-1048576) 1048576 * 2 ^ (Pl.between a (-1000) 1000 - Pl.between b (-1000) 1000).toNat) (-1048576) 1048576)) (by kernel_rfl) (by kernel_rfl) ?_
          refine D_nil ⟨by kernel_rfl, ?_⟩
          refine W_forget [(6, .int .i64 (Pl.between (Pl.between (Pl.value v) (-1048576) 1048576 * 2 ^ (Pl.between a (-1000) 1000 - Pl.between b (-1000) 1000).toNat) (-1048576) 1048576))] ⟨by kernel_rfl, trivial⟩ fun u_25 => ?_
          refine W_ret ?_
          exact ⟨[.int .i64 (Pl.between (Pl.between (Pl.value v) (-1048576) 1048576 * 2 ^ (Pl.between a (-1000) 1000 - Pl.between b (-1000) 1000).toNat) (-1048576) 1048576)], by kernel_rfl, by rw [show (Pl.between (Pl.between (Pl.value v) (-1048576) 1048576 * 2 ^ (Pl.between a (-1000) 1000 - Pl.between b (-1000) 1000).toNat) (-1048576) 1048576 : Int) = Pl.align v a b from (by unfold Pl.align; first | rfl | (unfold Pl.alignBy; (repeat split) <;> omega))]; exact h⟩
theorem allMay_step {l : List TV} {i : Nat} {v : TV} (h : l[i]? = some v) : Pl.allMay ((l.drop i).map TV.ten) = (Pl.mayT v.ten && Pl.allMay ((l.drop (i + 1)).map TV.ten)) := by
  obtain ⟨h1, h2⟩ := List.getElem?_eq_some_iff.1 h
  rw [List.drop_eq_getElem_cons h1, h2]; rfl
theorem allLen_step {L : Int} {l : List TV} {i : Nat} {v : TV} (h : l[i]? = some v) : Pl.allLen L ((l.drop i).map TV.ten) = (decide ((v.dims.length : Int) = L) && Pl.allLen L ((l.drop (i + 1)).map TV.ten)) := by
  obtain ⟨h1, h2⟩ := List.getElem?_eq_some_iff.1 h
  rw [List.drop_eq_getElem_cons h1, h2]; rfl
theorem mayErr_one {L : Int} {ts : List Pl.Ten} (h : Pl.allMay ts = false) : Pl.mayErr L ts = 1 := by unfold Pl.mayErr; rw [if_pos h]
theorem mayErr_two {L : Int} {ts : List Pl.Ten} (h : Pl.allMay ts = true) (k : Pl.allLen L ts = false) : Pl.mayErr L ts = 2 := by unfold Pl.mayErr; rw [if_neg (by simp [h]), if_pos k]
theorem mayErr_ok {L : Int} {ts : List Pl.Ten} (h : Pl.allMay ts = true) (k : Pl.allLen L ts = true) : Pl.mayErr L ts = 0 := by unfold Pl.mayErr; rw [if_neg (by simp [h]), if_neg (by simp [k])]
theorem c_dmay (fl : Nat) (L : Int) (b : Nat) (l : List TV) (ex : Bool) (c : Nat) (H : AHeap) (hfl : fl ≤ H.length) (hT : TL .i8 H b l ex) (hl : l.length ≤ 281474976710656) (R : Value → AHeap → Prop) (h : ∀ H', St H H' [] → R (.int .i64 (Pl.mayErr L (l.map TV.ten))) H') : WCall Try.prog fl 26 #[.int .i64 L, .slice (some ⟨b, 0, none⟩) l.length c] H R := by
  refine W_call Try.func26 rfl (by kernel_rfl) (Nat.le_of_ble_eq_true rfl) ?_
  have hS := St.refl H
  refine W_forget [(0, .int .i64 L), (1, .slice (some ⟨b, 0, none⟩) l.length c)] ⟨by kernel_rfl, by kernel_rfl, trivial⟩ fun u_1 => ?_
  refine W_seq ?_
  refine W_reg (List.replicate 1 true) [] (.inr ⟨rfl, by kernel_rfl⟩) ?_
  refine D_pure (v := .int .i64 0) (by kernel_rfl) (by kernel_rfl) ?_
  refine D_nil ⟨by kernel_rfl, ?_⟩
  refine W_forget [(0, .int .i64 L), (1, .slice (some ⟨b, 0, none⟩) l.length c)] ⟨by kernel_rfl, by kernel_rfl, trivial⟩ fun u_2 => ?_
  refine W_seq ?_
  refine W_seq ?_
  refine W_reg (List.replicate 3 true) [] (.inr ⟨rfl, by kernel_rfl⟩) ?_
  refine D_pure (v := .slice (some ⟨b, 0, none⟩) l.length c) (by kernel_rfl) (by kernel_rfl) ?_
  refine D_pure (v := .int .i64 ((l.length : Nat) : Int)) (by kernel_rfl) (by kernel_rfl) ?_
  refine D_pure (v := .int .i64 0) (by kernel_rfl) (by kernel_rfl) ?_
  refine D_nil ⟨by kernel_rfl, ?_⟩
  refine W_forget [(0, .int .i64 L), (1, .slice (some ⟨b, 0, none⟩) l.length c), (9, .slice (some ⟨b, 0, none⟩) l.length c), (10, .int .i64 ((l.length : Nat) : Int)), (11, .int .i64 0)] ⟨by kernel_rfl, by kernel_rfl, by kernel_rfl, by kernel_rfl, by kernel_rfl, trivial⟩ fun u_3 => ?_
  refine W_block ?_
  refine W_loop (fun kq t' H' => ∃ uq, ∃ (i : Nat),  St H H' [] ∧ t' = tl [(0, .int .i64 L), (1, .slice (some ⟨b, 0, none⟩) l.length c), (9, .slice (some ⟨b, 0, none⟩) l.length c), (10, .int .i64 ((l.length : Nat) : Int)), (11, .int .i64 (i : Int))] uq ∧ kq = l.length - i ∧ (i ≤ l.length) ∧ (Pl.allMay (l.map TV.ten) = Pl.allMay ((l.drop i).map TV.ten))) (l.length) ?_ ?_
  case refine_1 => exact ⟨_, 0,  (hS.pick [] (by decide) rfl), tl_keep (l := [(0, .int .i64 L), (1, .slice (some ⟨b, 0, none⟩) l.length c), (9, .slice (some ⟨b, 0, none⟩) l.length c), (10, .int .i64 ((l.length : Nat) : Int)), (11, .int .i64 (0 : Int))]) ⟨by kernel_rfl, by kernel_rfl, by kernel_rfl, by kernel_rfl, by kernel_rfl, trivial⟩, by omega, by omega, rfl⟩
  rintro kq _ H_4 ⟨uq, i,  hS_5, rfl, rfl, hi, q1⟩
  try clear kq
  refine W_seq ?_
  refine W_reg (List.replicate 1 true) [] (.inr ⟨rfl, by kernel_rfl⟩) ?_
  refine D_pure (v := .bool (decide ((i : Int) < ((l.length : Nat) : Int)))) (by kernel_rfl) (by kernel_rfl) ?_
  refine D_nil ⟨by kernel_rfl, ?_⟩
  refine W_forget [(0, .int .i64 L), (1, .slice (some ⟨b, 0, none⟩) l.length c), (9, .slice (some ⟨b, 0, none⟩) l.length c), (10, .int .i64 ((l.length : Nat) : Int)), (11, .int .i64 (i : Int)), (12, .bool (decide ((i : Int) < ((l.length : Nat) : Int))))] ⟨by kernel_rfl, by kernel_rfl, by kernel_rfl, by kernel_rfl, by kernel_rfl, by kernel_rfl, trivial⟩ fun u_6 => ?_
  refine W_seq ?_
  refine W_cond (b := decide ((i : Int) < ((l.length : Nat) : Int))) (by kernel_rfl) (fun hb_7 => ?_) (fun hb_7 => ?_)
  case refine_1 =>
    try simp only [Bool.and_eq_true, Bool.or_eq_true, Bool.and_eq_false_iff, Bool.or_eq_false_iff, decide_eq_true_eq, decide_eq_false_iff_not, beq_iff_eq, beq_eq_false_iff_ne, bne_iff_ne, bne_eq_false_iff_eq, Bool.not_eq_true', Bool.not_eq_false', ne_eq] at hb_7
    refine W_skip ?_
    refine W_seq ?_
    refine W_block ?_
    refine W_seq ?_
    refine W_reg (List.replicate 4 true) [] (.inr ⟨rfl, by kernel_rfl⟩) ?_
    obtain ⟨v_8, hv_9, ok_10⟩ := hT.at_ (i := i) (by omega)
    refine D_op (by kernel_rfl) (prim_indexO (ty := 53) (b := b) (n := l.length) (c := c) (k := .i64) (x := (.tmp 9)) (ix := (.tmp 11)) i aty53 (by kernel_rfl) (by kernel_rfl) (z := (i : Int)) (by first | omega | (push_cast; omega)) (by omega)) ?_
    refine D_load (ty := 26) (a := (.tmp 13)) (b := b) (off := i * 3) (v := v_8.val) (by kernel_rfl) (by kernel_rfl) (by kernel_rfl) (hS_5.pre.blk hT.blk) (loadB_tv aty26 hv_9) ?_
    refine S_new hS_5 (v := fun b => .pointer (some ⟨b, 0, none⟩)) (⟨[.slice none 0 0, .int .i64 0, .slice none 0 0], 0, true, true⟩) (fun b => [(some b, ⟨[.slice none 0 0, .int .i64 0, .slice none 0 0], 0, true, true⟩)]) (fun _ => rfl) (by kernel_rfl) (fun _ => by kernel_rfl) ?_
    intro b_11 H_12 hS_13
    refine S_store hS_13 hfl 0 (ty := 26) (x := (.tmp 6)) (y := (.tmp 14)) (off := 0) (v := .agg #[.slice v_8.da v_8.dims.length v_8.dc, .int .i64 v_8.exp, .slice v_8.na v_8.data.length v_8.nc]) (⟨[.slice v_8.da v_8.dims.length v_8.dc, .int .i64 v_8.exp, .slice v_8.na v_8.data.length v_8.nc], 0, true, true⟩) ([(some b_11, ⟨[.slice v_8.da v_8.dims.length v_8.dc, .int .i64 v_8.exp, .slice v_8.na v_8.data.length v_8.nc], 0, true, true⟩)]) rfl rfl (by kernel_rfl) (by kernel_rfl) (by kernel_rfl) (by kernel_rfl) (by kernel_rfl) ?_
    intro H_14 hS_15
    refine D_nil ⟨by kernel_rfl, ?_⟩
    refine W_forget [(0, .int .i64 L), (1, .slice (some ⟨b, 0, none⟩) l.length c), (6, .pointer (some ⟨b_11, 0, none⟩)), (9, .slice (some ⟨b, 0, none⟩) l.length c), (10, .int .i64 ((l.length : Nat) : Int)), (11, .int .i64 (i : Int))] ⟨by kernel_rfl, by kernel_rfl, by kernel_rfl, by kernel_rfl, by kernel_rfl, by kernel_rfl, trivial⟩ fun u_16 => ?_
    refine W_seq ?_
    refine W_reg (List.replicate 3 true) [] (.inr ⟨rfl, by kernel_rfl⟩) ?_
    refine S_load hS_15 0 (ty := 26) (x := (.tmp 6)) (off := 0) (v := .agg #[.slice v_8.da v_8.dims.length v_8.dc, .int .i64 v_8.exp, .slice v_8.na v_8.data.length v_8.nc]) rfl (by kernel_rfl) (by kernel_rfl) (by kernel_rfl) (by kernel_rfl) ?_
    refine D_call true rfl (by kernel_rfl) (f := 25) (args := #[.agg #[.slice v_8.da v_8.dims.length v_8.dc, .int .i64 v_8.exp, .slice v_8.na v_8.data.length v_8.nc]]) (by kernel_rfl) (c_may _ v_8 _ ⟨(ok_10.dims.pre hS_15.pre), (ok_10.data.pre hS_15.pre)⟩ _ ?_)
    intro H_17 hS_18
    have hS_19 : St H H_17 [(some b_11, ⟨[.slice v_8.da v_8.dims.length v_8.dc, .int .i64 v_8.exp, .slice v_8.na v_8.data.length v_8.nc], 0, true, true⟩)] := hS_15.next hS_18
    refine D_pure (v := .bool (!Pl.mayT v_8.ten)) (by kernel_rfl) (by kernel_rfl) ?_
    refine D_nil ⟨by kernel_rfl, ?_⟩
    refine W_forget [(0, .int .i64 L), (1, .slice (some ⟨b, 0, none⟩) l.length c), (9, .slice (some ⟨b, 0, none⟩) l.length c), (10, .int .i64 ((l.length : Nat) : Int)), (11, .int .i64 (i : Int)), (17, .bool (!Pl.mayT v_8.ten))] ⟨by kernel_rfl, by kernel_rfl, by kernel_rfl, by kernel_rfl, by kernel_rfl, by kernel_rfl, trivial⟩ fun u_20 => ?_
    refine W_cond (b := (!Pl.mayT v_8.ten)) (by kernel_rfl) (fun hb_21 => ?_) (fun hb_21 => ?_)
    case refine_1 =>
      try simp only [Bool.and_eq_true, Bool.or_eq_true, Bool.and_eq_false_iff, Bool.or_eq_false_iff, decide_eq_true_eq, decide_eq_false_iff_not, beq_iff_eq, beq_eq_false_iff_ne, bne_iff_ne, bne_eq_false_iff_eq, Bool.not_eq_true', Bool.not_eq_false', ne_eq] at hb_21
      refine W_seq ?_
      refine W_reg (List.replicate 1 true) [] (.inr ⟨rfl, by kernel_rfl⟩) ?_
      refine D_pure (v := .int .i64 1) (by kernel_rfl) (by kernel_rfl) ?_
      refine D_nil ⟨by kernel_rfl, ?_⟩
      refine W_forget [(4, .int .i64 1)] ⟨by kernel_rfl, trivial⟩ fun u_22 => ?_
      refine W_ret ?_
      exact ⟨[.int .i64 1], by kernel_rfl, (by rw [show (1 : Int) = Pl.mayErr L (l.map TV.ten) from (by symm; first | exact mayErr_one (by rw [q1, allMay_step (by assumption)]; simp [*]) | exact mayErr_two (by rw [q1, List.drop_eq_nil_of_le (by omega)]; rfl) (by rw [q2, allLen_step (by assumption)]; simp [*]) | exact mayErr_ok (by rw [q1, List.drop_eq_nil_of_le (by omega)]; rfl) (by rw [q2, List.drop_eq_nil_of_le (by omega)]; rfl))]; exact h _ (hS_19.pick [] (by decide) rfl))⟩
    case refine_2 =>
      try simp only [Bool.and_eq_true, Bool.or_eq_true, Bool.and_eq_false_iff, Bool.or_eq_false_iff, decide_eq_true_eq, decide_eq_false_iff_not, beq_iff_eq, beq_eq_false_iff_ne, bne_iff_ne, bne_eq_false_iff_eq, Bool.not_eq_true', Bool.not_eq_false', ne_eq] at hb_21
      refine W_skip ?_
      refine W_reg (List.replicate 2 true) [] (.inr ⟨rfl, by kernel_rfl⟩) ?_
      refine D_opw (v := .int .i64 ((i : Int) + 1)) (v' := .int .i64 (IntKind.i64.wrap ((i : Int) + 1))) (by kernel_rfl) (by kernel_rfl) (wv (wrap_i64 _ (by omega) (by omega))) ?_
      refine D_pure (v := .int .i64 ((i : Int) + 1)) (by kernel_rfl) (by kernel_rfl) ?_
      refine D_nil ⟨by kernel_rfl, ?_⟩
      refine ⟨_, ?_, _, i + 1,  (hS_19.pick [] (by decide) rfl), tl_keep (l := [(0, .int .i64 L), (1, .slice (some ⟨b, 0, none⟩) l.length c), (9, .slice (some ⟨b, 0, none⟩) l.length c), (10, .int .i64 ((l.length : Nat) : Int)), (11, .int .i64 (((i + 1) : Nat) : Int))]) ⟨by kernel_rfl, by kernel_rfl, by kernel_rfl, by kernel_rfl, iv (k := .i64) (a := (i : Int) + 1) (by omega), trivial⟩, rfl, by omega, by rw [q1, allMay_step (by assumption), (show Pl.mayT _ = true from by assumption)]; rfl⟩
      omega
  case refine_2 =>
    try simp only [Bool.and_eq_true, Bool.or_eq_true, Bool.and_eq_false_iff, Bool.or_eq_false_iff, decide_eq_true_eq, decide_eq_false_iff_not, beq_iff_eq, beq_eq_false_iff_ne, bne_iff_ne, bne_eq_false_iff_eq, Bool.not_eq_true', Bool.not_eq_false', ne_eq] at hb_7
    refine W_exit ?_
    refine W_seq ?_
    refine W_seq ?_
    refine W_reg (List.replicate 3 true) [] (.inr ⟨rfl, by kernel_rfl⟩) ?_
    refine D_pure (v := .slice (some ⟨b, 0, none⟩) l.length c) (by kernel_rfl) (by kernel_rfl) ?_
    refine D_pure (v := .int .i64 ((l.length : Nat) : Int)) (by kernel_rfl) (by kernel_rfl) ?_
    refine D_pure (v := .int .i64 0) (by kernel_rfl) (by kernel_rfl) ?_
    refine D_nil ⟨by kernel_rfl, ?_⟩
    refine W_forget [(0, .int .i64 L), (19, .slice (some ⟨b, 0, none⟩) l.length c), (20, .int .i64 ((l.length : Nat) : Int)), (21, .int .i64 0)] ⟨by kernel_rfl, by kernel_rfl, by kernel_rfl, by kernel_rfl, trivial⟩ fun u_23 => ?_
    refine W_block ?_
    refine W_loop (fun kq t' H' => ∃ uq, ∃ (j : Nat),  St H H' [] ∧ t' = tl [(0, .int .i64 L), (19, .slice (some ⟨b, 0, none⟩) l.length c), (20, .int .i64 ((l.length : Nat) : Int)), (21, .int .i64 (j : Int))] uq ∧ kq = l.length - j ∧ (j ≤ l.length) ∧ (Pl.allLen L (l.map TV.ten) = Pl.allLen L ((l.drop j).map TV.ten))) (l.length) ?_ ?_
    case refine_1 => exact ⟨_, 0,  (hS_5.pick [] (by decide) rfl), tl_keep (l := [(0, .int .i64 L), (19, .slice (some ⟨b, 0, none⟩) l.length c), (20, .int .i64 ((l.length : Nat) : Int)), (21, .int .i64 (0 : Int))]) ⟨by kernel_rfl, by kernel_rfl, by kernel_rfl, by kernel_rfl, trivial⟩, by omega, by omega, rfl⟩
    rintro kq _ H_24 ⟨uq, j,  hS_25, rfl, rfl, hj, q2⟩
    try clear kq
    refine W_seq ?_
    refine W_reg (List.replicate 1 true) [] (.inr ⟨rfl, by kernel_rfl⟩) ?_
    refine D_pure (v := .bool (decide ((j : Int) < ((l.length : Nat) : Int)))) (by kernel_rfl) (by kernel_rfl) ?_
    refine D_nil ⟨by kernel_rfl, ?_⟩
    refine W_forget [(0, .int .i64 L), (19, .slice (some ⟨b, 0, none⟩) l.length c), (20, .int .i64 ((l.length : Nat) : Int)), (21, .int .i64 (j : Int)), (22, .bool (decide ((j : Int) < ((l.length : Nat) : Int))))] ⟨by kernel_rfl, by kernel_rfl, by kernel_rfl, by kernel_rfl, by kernel_rfl, trivial⟩ fun u_26 => ?_
    refine W_seq ?_
    refine W_cond (b := decide ((j : Int) < ((l.length : Nat) : Int))) (by kernel_rfl) (fun hb_27 => ?_) (fun hb_27 => ?_)
    case refine_1 =>
      try simp only [Bool.and_eq_true, Bool.or_eq_true, Bool.and_eq_false_iff, Bool.or_eq_false_iff, decide_eq_true_eq, decide_eq_false_iff_not, beq_iff_eq, beq_eq_false_iff_ne, bne_iff_ne, bne_eq_false_iff_eq, Bool.not_eq_true', Bool.not_eq_false', ne_eq] at hb_27
      refine W_skip ?_
      refine W_seq ?_
      refine W_block ?_
      refine W_seq ?_
      refine W_reg (List.replicate 4 true) [] (.inr ⟨rfl, by kernel_rfl⟩) ?_
      obtain ⟨v_28, hv_29, ok_30⟩ := hT.at_ (i := j) (by omega)
      refine D_op (by kernel_rfl) (prim_indexO (ty := 53) (b := b) (n := l.length) (c := c) (k := .i64) (x := (.tmp 19)) (ix := (.tmp 21)) j aty53 (by kernel_rfl) (by kernel_rfl) (z := (j : Int)) (by first | omega | (push_cast; omega)) (by omega)) ?_
      refine D_load (ty := 26) (a := (.tmp 23)) (b := b) (off := j * 3) (v := v_28.val) (by kernel_rfl) (by kernel_rfl) (by kernel_rfl) (hS_25.pre.blk hT.blk) (loadB_tv aty26 hv_29) ?_
      refine S_new hS_25 (v := fun b => .pointer (some ⟨b, 0, none⟩)) (⟨[.slice none 0 0, .int .i64 0, .slice none 0 0], 0, true, true⟩) (fun b => [(some b, ⟨[.slice none 0 0, .int .i64 0, .slice none 0 0], 0, true, true⟩)]) (fun _ => rfl) (by kernel_rfl) (fun _ => by kernel_rfl) ?_
      intro b_31 H_32 hS_33
      refine S_store hS_33 hfl 0 (ty := 26) (x := (.tmp 8)) (y := (.tmp 24)) (off := 0) (v := .agg #[.slice v_28.da v_28.dims.length v_28.dc, .int .i64 v_28.exp, .slice v_28.na v_28.data.length v_28.nc]) (⟨[.slice v_28.da v_28.dims.length v_28.dc, .int .i64 v_28.exp, .slice v_28.na v_28.data.length v_28.nc], 0, true, true⟩) ([(some b_31, ⟨[.slice v_28.da v_28.dims.length v_28.dc, .int .i64 v_28.exp, .slice v_28.na v_28.data.length v_28.nc], 0, true, true⟩)]) rfl rfl (by kernel_rfl) (by kernel_rfl) (by kernel_rfl) (by kernel_rfl) (by kernel_rfl) ?_
      intro H_34 hS_35
      refine D_nil ⟨by kernel_rfl, ?_⟩
      refine W_forget [(0, .int .i64 L), (8, .pointer (some ⟨b_31, 0, none⟩)), (19, .slice (some ⟨b, 0, none⟩) l.length c), (20, .int .i64 ((l.length : Nat) : Int)), (21, .int .i64 (j : Int))] ⟨by kernel_rfl, by kernel_rfl, by kernel_rfl, by kernel_rfl, by kernel_rfl, trivial⟩ fun u_36 => ?_
      refine W_seq ?_
      refine W_reg (List.replicate 5 true) [] (.inr ⟨rfl, by kernel_rfl⟩) ?_
      refine D_pure (v := .pointer (some ⟨b_31, 0, none⟩)) (by kernel_rfl) (by kernel_rfl) ?_
      refine S_load hS_35 0 (ty := 24) (x := (.tmp 25)) (off := 0) (v := .slice v_28.da v_28.dims.length v_28.dc) rfl (by kernel_rfl) (by kernel_rfl) (by kernel_rfl) (by kernel_rfl) ?_
      refine D_pure (v := .int .i64 ((v_28.dims.length : Nat) : Int)) (by kernel_rfl) (by kernel_rfl) ?_
      refine D_pure (v := .int .i64 L) (by kernel_rfl) (by kernel_rfl) ?_
      refine D_pure (v := .bool (((v_28.dims.length : Nat) : Int) != L)) (by kernel_rfl) (by kernel_rfl) ?_
      refine D_nil ⟨by kernel_rfl, ?_⟩
      refine W_forget [(0, .int .i64 L), (19, .slice (some ⟨b, 0, none⟩) l.length c), (20, .int .i64 ((l.length : Nat) : Int)), (21, .int .i64 (j : Int)), (29, .bool (((v_28.dims.length : Nat) : Int) != L))] ⟨by kernel_rfl, by kernel_rfl, by kernel_rfl, by kernel_rfl, by kernel_rfl, trivial⟩ fun u_37 => ?_
      refine W_cond (b := (((v_28.dims.length : Nat) : Int) != L)) (by kernel_rfl) (fun hb_38 => ?_) (fun hb_38 => ?_)
      case refine_1 =>
        try simp only [Bool.and_eq_true, Bool.or_eq_true, Bool.and_eq_false_iff, Bool.or_eq_false_iff, decide_eq_true_eq, decide_eq_false_iff_not, beq_iff_eq, beq_eq_false_iff_ne, bne_iff_ne, bne_eq_false_iff_eq, Bool.not_eq_true', Bool.not_eq_false', ne_eq] at hb_38
        refine W_seq ?_
        refine W_reg (List.replicate 1 true) [] (.inr ⟨rfl, by kernel_rfl⟩) ?_
        refine D_pure (v := .int .i64 2) (by kernel_rfl) (by kernel_rfl) ?_
        refine D_nil ⟨by kernel_rfl, ?_⟩
        refine W_forget [(4, .int .i64 2)] ⟨by kernel_rfl, trivial⟩ fun u_39 => ?_
        refine W_ret ?_
        exact ⟨[.int .i64 2], by kernel_rfl, (by rw [show (2 : Int) = Pl.mayErr L (l.map TV.ten) from (by symm; first | exact mayErr_one (by rw [q1, allMay_step (by assumption)]; simp [*]) | exact mayErr_two (by rw [q1, List.drop_eq_nil_of_le (by omega)]; rfl) (by rw [q2, allLen_step (by assumption)]; simp [*]) | exact mayErr_ok (by rw [q1, List.drop_eq_nil_of_le (by omega)]; rfl) (by rw [q2, List.drop_eq_nil_of_le (by omega)]; rfl))]; exact h _ (hS_35.pick [] (by decide) rfl))⟩
      case refine_2 =>
        try simp only [Bool.and_eq_true, Bool.or_eq_true, Bool.and_eq_false_iff, Bool.or_eq_false_iff, decide_eq_true_eq, decide_eq_false_iff_not, beq_iff_eq, beq_eq_false_iff_ne, bne_iff_ne, bne_eq_false_iff_eq, Bool.not_eq_true', Bool.not_eq_false', ne_eq] at hb_38
        refine W_skip ?_
        refine W_reg (List.replicate 2 true) [] (.inr ⟨rfl, by kernel_rfl⟩) ?_
        refine D_opw (v := .int .i64 ((j : Int) + 1)) (v' := .int .i64 (IntKind.i64.wrap ((j : Int) + 1))) (by kernel_rfl) (by kernel_rfl) (wv (wrap_i64 _ (by omega) (by omega))) ?_
        refine D_pure (v := .int .i64 ((j : Int) + 1)) (by kernel_rfl) (by kernel_rfl) ?_
        refine D_nil ⟨by kernel_rfl, ?_⟩
        refine ⟨_, ?_, _, j + 1,  (hS_35.pick [] (by decide) rfl), tl_keep (l := [(0, .int .i64 L), (19, .slice (some ⟨b, 0, none⟩) l.length c), (20, .int .i64 ((l.length : Nat) : Int)), (21, .int .i64 (((j + 1) : Nat) : Int))]) ⟨by kernel_rfl, by kernel_rfl, by kernel_rfl, iv (k := .i64) (a := (j : Int) + 1) (by omega), trivial⟩, rfl, by omega, by rw [q2, allLen_step (by assumption)]; simp [*]⟩
        omega
    case refine_2 =>
      try simp only [Bool.and_eq_true, Bool.or_eq_true, Bool.and_eq_false_iff, Bool.or_eq_false_iff, decide_eq_true_eq, decide_eq_false_iff_not, beq_iff_eq, beq_eq_false_iff_ne, bne_iff_ne, bne_eq_false_iff_eq, Bool.not_eq_true', Bool.not_eq_false', ne_eq] at hb_27
      refine W_exit ?_
      refine W_seq ?_
      refine W_reg (List.replicate 1 true) [] (.inr ⟨rfl, by kernel_rfl⟩) ?_
      refine D_pure (v := .int .i64 0) (by kernel_rfl) (by kernel_rfl) ?_
      refine D_nil ⟨by kernel_rfl, ?_⟩
      refine W_forget [(4, .int .i64 0)] ⟨by kernel_rfl, trivial⟩ fun u_40 => ?_
      refine W_ret ?_
      exact ⟨[.int .i64 0], by kernel_rfl, (by rw [show (0 : Int) = Pl.mayErr L (l.map TV.ten) from (by symm; first | exact mayErr_one (by rw [q1, allMay_step (by assumption)]; simp [*]) | exact mayErr_two (by rw [q1, List.drop_eq_nil_of_le (by omega)]; rfl) (by rw [q2, allLen_step (by assumption)]; simp [*]) | exact mayErr_ok (by rw [q1, List.drop_eq_nil_of_le (by omega)]; rfl) (by rw [q2, List.drop_eq_nil_of_le (by omega)]; rfl))]; exact h _ (hS_25.pick [] (by decide) rfl))⟩
end Go.Proofs.Ytanjlcjpcenejaa
