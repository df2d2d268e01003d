/- The machine runs the statements' helpers. No condition beyond those typed. -/
import Derived.Test.YtanjlcjpcenejaaDenseM
import Derived.Test.YtanjlcjpcenejaaPlMat
namespace Go.Proofs.Ytanjlcjpcenejaa
open Go.Mach
set_option maxRecDepth 100000
set_option linter.unusedSimpArgs false
set_option linter.unusedVariables false
theorem fwdOut_good (x w b : Pl.Ten) (r n c : Nat) (hx : x.dims = [(r : Int), n]) (hw : w.dims = [(c : Int), n]) (hb : b.dims = [(c : Int)]) (mx : Pl.mayT x = true) (mw : Pl.mayT w = true) (mb : Pl.mayT b = true)
    (ax : Pl.All8 x.data) (aw : Pl.All8 w.data) (ab : Pl.All8 b.data) (hn : n ≤ 959) (hrc : r * c ≤ 8192) (hr : 1 ≤ r ∧ r ≤ 4096) (hc : 1 ≤ c ∧ c ≤ 4096) (E : Int) (hE : x.exp + w.exp = E) (D : List Int) (hD : D = Pl.fwdD r n c E x.data w.data b.data b.exp) :
    Pl.fwdOut x w b = (0, ⟨[(r : Int), c], E, D⟩) := by
  subst hE
  have h1 : Pl.mayErr 2 [x, w] = 0 := by
    unfold Pl.mayErr
    simp [Pl.allMay, Pl.allLen, mx, mw, hx, hw]
  obtain ⟨_, _, ex1, ex2, _⟩ := Pl.mayT_parts x mx
  obtain ⟨_, _, eu1, eu2, _⟩ := Pl.mayT_parts w mw
  rw [fwdOut_ok mb h1 (by simp [hx, hw, hb])]
  simp only [hx, hw, List.getD_cons_zero, List.getD_cons_succ]
  have hf : Pl.fits n = true := by unfold Pl.fits; simp; omega
  have hp : 0 < r * c := Nat.mul_pos (by omega) (by omega)
  rw [madeOut_ok (madeErr_0 ⟨⟨hf, by omega⟩, by omega⟩ (by rw [Pl.size2_eq r c hrc hr hc]; omega))]
  simp only [Int.toNat_natCast]
  rw [Pl.madeTo_in r c _ (fun i j => by have := Pl.fwdAt_bd n (x.exp + w.exp) x.data w.data b.data b.exp i j ax aw ab hn; omega), hD]
  rfl
theorem c_matrix (fl : Nat) (a : Option Addr) (c : Nat) (l : List Int) (n k : Nat) (H : AHeap) (hfl : fl ≤ H.length) (hs : RI H .i8 a c l) (hnk : n * k ≤ 1000000) (R : Value → AHeap → Prop)
    (h : ∀ b1 b2 H', St H H' [(some b1, ib .i64 [(n : Int), (k : Int)] true), (some b2, ib .i8 (Pl.matData l (n * k)) true)] → R (.agg #[.slice (some ⟨b1, 0, none⟩) 2 2, .int .i64 0, .slice (some ⟨b2, 0, none⟩) (Pl.matData l (n * k)).length (Pl.matData l (n * k)).length]) H') :
    WCall Try.prog fl 10 #[.slice a l.length c, .int .i64 (n : Int), .int .i64 (k : Int)] H R := by
  have hlen := hs.len
  refine W_call Try.func10 rfl (by kernel_rfl) (Nat.le_of_ble_eq_true rfl) ?_
  have hS := St.refl H
  refine W_forget [(0, .slice a l.length c), (1, .int .i64 (n : Int)), (2, .int .i64 (k : Int))] ⟨by kernel_rfl, by kernel_rfl, by kernel_rfl, trivial⟩ fun u_1 => ?_
  refine W_seq ?_
  refine W_reg (List.replicate 1 true) [] (.inr ⟨rfl, by kernel_rfl⟩) ?_
  refine S_new hS (v := fun b => .pointer (some ⟨b, 0, none⟩)) (⟨[.slice none 0 0, .int .i64 0, .slice none 0 0], 0, true, true⟩) (fun b => [(some b, ⟨[.slice none 0 0, .int .i64 0, .slice none 0 0], 0, true, true⟩)]) (fun _ => rfl) (by kernel_rfl) (fun _ => by kernel_rfl) ?_
  intro b_2 H_3 hS_4
  refine D_nil ⟨by kernel_rfl, ?_⟩
  refine W_forget [(0, .slice a l.length c), (1, .int .i64 (n : Int)), (2, .int .i64 (k : Int)), (6, .pointer (some ⟨b_2, 0, none⟩))] ⟨by kernel_rfl, by kernel_rfl, by kernel_rfl, by kernel_rfl, trivial⟩ fun u_5 => ?_
  refine W_seq ?_
  have htn : ((n : Int) * (k : Int)).toNat = n * k := by rw [← Int.natCast_mul, Int.toNat_natCast]
  have hnk2 : ((n * k : Nat) : Int) = (n : Int) * (k : Int) := Int.natCast_mul n k
  refine W_reg (List.replicate 10 true) [] (.inr ⟨rfl, by kernel_rfl⟩) ?_
  refine D_pure (v := .int .i64 (n : Int)) (by kernel_rfl) (by kernel_rfl) ?_
  refine D_pure (v := .int .i64 (k : Int)) (by kernel_rfl) (by kernel_rfl) ?_
  refine S_new hS_4 (v := fun b => .slice (some ⟨b, 0, none⟩) 2 2) (ib .i64 ([(n : Int), (k : Int)]) true) (fun b => [(some b_2, ⟨[.slice none 0 0, .int .i64 0, .slice none 0 0], 0, true, true⟩), (some b, ib .i64 ([(n : Int), (k : Int)]) true)]) (fun _ => rfl) (by kernel_rfl) (fun _ => by kernel_rfl) ?_
  intro b_6 H_7 hS_8
  refine D_pure (v := .int .i64 (n : Int)) (by kernel_rfl) (by kernel_rfl) ?_
  refine D_pure (v := .int .i64 (k : Int)) (by kernel_rfl) (by kernel_rfl) ?_
  refine D_opw (v := .int .i64 ((n : Int) * (k : Int))) (v' := .int .i64 (IntKind.i64.wrap ((n : Int) * (k : Int)))) (by kernel_rfl) (by kernel_rfl) (wv (wrap_i64 _ (by omega) (by omega))) ?_
  refine S_makeSlice hS_8 (n := (n : Int) * (k : Int)) (k := .i8) (kx := .i64) (ky := .i64) (fun b => [(some b_2, ⟨[.slice none 0 0, .int .i64 0, .slice none 0 0], 0, true, true⟩), (some b_6, ib .i64 ([(n : Int), (k : Int)]) true), (some b, ib .i8 (List.replicate ((n : Int) * (k : Int)).toNat (0 : Int)) true)]) (fun _ => rfl) (ty := 22) (x := (.tmp 14)) (y := (.tmp 14)) (by kernel_rfl) (by kernel_rfl) aty22 azero37 (by kernel_rfl) (by kernel_rfl) (by omega) (by omega) (by omega) ?_
  intro b_9 H_10 hS_11
  refine D_pure (v := .agg #[.slice (some ⟨b_6, 0, none⟩) 2 2, .int .i64 0, .slice (some ⟨b_9, 0, none⟩) (((n : Int) * (k : Int)).toNat) (((n : Int) * (k : Int)).toNat)]) (by kernel_rfl) (by kernel_rfl) ?_
  refine S_new hS_11 (v := fun b => .pointer (some ⟨b, 0, none⟩)) (⟨[.slice none 0 0, .int .i64 0, .slice none 0 0], 0, true, true⟩) (fun b => [(some b_2, ⟨[.slice none 0 0, .int .i64 0, .slice none 0 0], 0, true, true⟩), (some b_6, ib .i64 ([(n : Int), (k : Int)]) true), (some b_9, ib .i8 (List.replicate ((n : Int) * (k : Int)).toNat (0 : Int)) true), (some b, ⟨[.slice none 0 0, .int .i64 0, .slice none 0 0], 0, true, true⟩)]) (fun _ => rfl) (by kernel_rfl) (fun _ => by kernel_rfl) ?_
  intro b_12 H_13 hS_14
  refine S_store hS_14 hfl 3 (ty := 26) (x := (.tmp 7)) (y := (.tmp 16)) (off := 0) (v := .agg #[.slice (some ⟨b_6, 0, none⟩) 2 2, .int .i64 0, .slice (some ⟨b_9, 0, none⟩) (((n : Int) * (k : Int)).toNat) (((n : Int) * (k : Int)).toNat)]) (⟨[.slice (some ⟨b_6, 0, none⟩) 2 2, .int .i64 0, .slice (some ⟨b_9, 0, none⟩) (((n : Int) * (k : Int)).toNat) (((n : Int) * (k : Int)).toNat)], 0, true, true⟩) ([(some b_2, ⟨[.slice none 0 0, .int .i64 0, .slice none 0 0], 0, true, true⟩), (some b_6, ib .i64 ([(n : Int), (k : Int)]) true), (some b_9, ib .i8 (List.replicate ((n : Int) * (k : Int)).toNat (0 : Int)) true), (some b_12, ⟨[.slice (some ⟨b_6, 0, none⟩) 2 2, .int .i64 0, .slice (some ⟨b_9, 0, none⟩) (((n : Int) * (k : Int)).toNat) (((n : Int) * (k : Int)).toNat)], 0, true, true⟩)]) rfl rfl (by kernel_rfl) (by kernel_rfl) (by kernel_rfl) (by kernel_rfl) (by kernel_rfl) ?_
  intro H_15 hS_16
  refine D_nil ⟨by kernel_rfl, ?_⟩
  refine W_forget [(0, .slice a l.length c), (6, .pointer (some ⟨b_2, 0, none⟩)), (7, .pointer (some ⟨b_12, 0, none⟩))] ⟨by kernel_rfl, by kernel_rfl, by kernel_rfl, trivial⟩ fun u_17 => ?_
  refine W_seq ?_
  refine W_seq ?_
  refine W_reg (List.replicate 4 true) [] (.inr ⟨rfl, by kernel_rfl⟩) ?_
  refine D_pure (v := .pointer (some ⟨b_12, 2, none⟩)) (by kernel_rfl) (by kernel_rfl) ?_
  refine S_load hS_16 3 (ty := 22) (x := (.tmp 17)) (off := 2) (v := .slice (some ⟨b_9, 0, none⟩) (((n : Int) * (k : Int)).toNat) (((n : Int) * (k : Int)).toNat)) rfl (by kernel_rfl) (by kernel_rfl) (by kernel_rfl) (by kernel_rfl) ?_
  refine D_pure (v := .int .i64 ((((n : Int) * (k : Int)).toNat : Nat) : Int)) (by kernel_rfl) (by kernel_rfl) ?_
  refine D_pure (v := .int .i64 0) (by kernel_rfl) (by kernel_rfl) ?_
  refine D_nil ⟨by kernel_rfl, ?_⟩
  refine W_forget [(0, .slice a l.length c), (6, .pointer (some ⟨b_2, 0, none⟩)), (7, .pointer (some ⟨b_12, 0, none⟩)), (19, .int .i64 ((((n : Int) * (k : Int)).toNat : Nat) : Int)), (20, .int .i64 0)] ⟨by kernel_rfl, by kernel_rfl, by kernel_rfl, by kernel_rfl, by kernel_rfl, trivial⟩ fun u_18 => ?_
  refine W_block ?_
  have hq_19 : List.replicate ((n : Int) * (k : Int)).toNat (0 : Int) = Pl.matL l (n * k) 0 := (by rw [htn, Pl.matL_zero])
  have hS_20 : St H H_15 [(some b_2, ⟨[.slice none 0 0, .int .i64 0, .slice none 0 0], 0, true, true⟩), (some b_6, ib .i64 ([(n : Int), (k : Int)]) true), (some b_9, ib .i8 (Pl.matL l (n * k) 0) true), (some b_12, ⟨[.slice (some ⟨b_6, 0, none⟩) 2 2, .int .i64 0, .slice (some ⟨b_9, 0, none⟩) (((n : Int) * (k : Int)).toNat) (((n : Int) * (k : Int)).toNat)], 0, true, true⟩)] := by (have h0 := hS_16; rw [hq_19] at h0; exact h0)
  have hq_22 : ((n : Int) * (k : Int)).toNat = (n * k) := htn
  have hS_23 : St H H_15 [(some b_2, ⟨[.slice none 0 0, .int .i64 0, .slice none 0 0], 0, true, true⟩), (some b_6, ib .i64 ([(n : Int), (k : Int)]) true), (some b_9, ib .i8 (Pl.matL l (n * k) 0) true), (some b_12, ⟨[.slice (some ⟨b_6, 0, none⟩) 2 2, .int .i64 0, .slice (some ⟨b_9, 0, none⟩) (n * k) (n * k)], 0, true, true⟩)] := by (have h0 := hS_20; rw [hq_22] at h0; exact h0)
  refine W_loop (fun kq t' H' => ∃ uq, ∃ (i : Nat),  St H H' [(some b_2, ⟨[.slice none 0 0, .int .i64 0, .slice none 0 0], 0, true, true⟩), (some b_6, ib .i64 ([(n : Int), (k : Int)]) true), (some b_9, ib .i8 (Pl.matL l (n * k) i) true), (some b_12, ⟨[.slice (some ⟨b_6, 0, none⟩) 2 2, .int .i64 0, .slice (some ⟨b_9, 0, none⟩) (n * k) (n * k)], 0, true, true⟩)] ∧ t' = tl [(0, .slice a l.length c), (6, .pointer (some ⟨b_2, 0, none⟩)), (7, .pointer (some ⟨b_12, 0, none⟩)), (19, .int .i64 (((n * k) : Nat) : Int)), (20, .int .i64 (i : Int))] uq ∧ kq = n * k - i ∧ (i ≤ n * k)) (n * k) ?_ ?_
  case refine_1 => exact ⟨_, 0,  (hS_23.pick [0, 1, 2, 3] (by decide) rfl), tl_keep (l := [(0, .slice a l.length c), (6, .pointer (some ⟨b_2, 0, none⟩)), (7, .pointer (some ⟨b_12, 0, none⟩)), (19, .int .i64 (((n * k) : Nat) : Int)), (20, .int .i64 (0 : Int))]) ⟨by kernel_rfl, by kernel_rfl, by kernel_rfl, by kernel_rfl, by kernel_rfl, trivial⟩, by omega, by omega⟩
  rintro kq _ H_24 ⟨uq, i,  hS_25, rfl, rfl, hi⟩
  try clear kq
  refine W_seq ?_
  refine W_reg (List.replicate 1 true) [] (.inr ⟨rfl, by kernel_rfl⟩) ?_
  refine D_pure (v := .bool (decide ((i : Int) < (((n * k) : Nat) : Int)))) (by kernel_rfl) (by kernel_rfl) ?_
  refine D_nil ⟨by kernel_rfl, ?_⟩
  refine W_forget [(0, .slice a l.length c), (6, .pointer (some ⟨b_2, 0, none⟩)), (7, .pointer (some ⟨b_12, 0, none⟩)), (19, .int .i64 (((n * k) : Nat) : Int)), (20, .int .i64 (i : Int)), (21, .bool (decide ((i : Int) < (((n * k) : Nat) : Int))))] ⟨by kernel_rfl, by kernel_rfl, by kernel_rfl, by kernel_rfl, by kernel_rfl, by kernel_rfl, trivial⟩ fun u_26 => ?_
  refine W_seq ?_
  refine W_cond (b := decide ((i : Int) < (((n * k) : Nat) : Int))) (by kernel_rfl) (fun hb_27 => ?_) (fun hb_27 => ?_)
  case refine_1 =>
    try simp only [Bool.and_eq_true, Bool.or_eq_true, Bool.and_eq_false_iff, Bool.or_eq_false_iff, decide_eq_true_eq, decide_eq_false_iff_not, beq_iff_eq, beq_eq_false_iff_ne, bne_iff_ne, bne_eq_false_iff_eq, Bool.not_eq_true', Bool.not_eq_false', ne_eq] at hb_27
    refine W_skip ?_
    refine W_seq ?_
    refine W_block ?_
    refine W_seq ?_
    refine W_reg (List.replicate 2 true) [] (.inr ⟨rfl, by kernel_rfl⟩) ?_
    refine D_pure (v := .int .i64 (i : Int)) (by kernel_rfl) (by kernel_rfl) ?_
    refine D_pure (v := .int .i64 (i : Int)) (by kernel_rfl) (by kernel_rfl) ?_
    refine D_nil ⟨by kernel_rfl, ?_⟩
    refine W_forget [(0, .slice a l.length c), (6, .pointer (some ⟨b_2, 0, none⟩)), (7, .pointer (some ⟨b_12, 0, none⟩)), (8, .int .i64 (i : Int)), (19, .int .i64 (((n * k) : Nat) : Int)), (20, .int .i64 (i : Int))] ⟨by kernel_rfl, by kernel_rfl, by kernel_rfl, by kernel_rfl, by kernel_rfl, by kernel_rfl, trivial⟩ fun u_28 => ?_
    refine W_seq ?_
    refine W_cut (List.replicate 11 true) [] (.inr ⟨rfl, by kernel_rfl⟩) [(0, .slice a l.length c), (6, .pointer (some ⟨b_2, 0, none⟩)), (7, .pointer (some ⟨b_12, 0, none⟩)), (8, .int .i64 (i : Int)), (19, .int .i64 (((n * k) : Nat) : Int)), (20, .int .i64 (i : Int)), (33, .bool (decide ((i : Int) < ((l.length : Nat) : Int)) && ((l.getD i 0) != (-128))))] H_24 ?_ (fun t_29 hk_30 => ?_)
    case refine_1 =>
      refine D_pure (v := .int .i64 (i : Int)) (by kernel_rfl) (by kernel_rfl) ?_
      refine D_pure (v := .slice a l.length c) (by kernel_rfl) (by kernel_rfl) ?_
      refine D_pure (v := .int .i64 ((l.length : Nat) : Int)) (by kernel_rfl) (by kernel_rfl) ?_
      refine D_pure (v := .bool (decide ((i : Int) < ((l.length : Nat) : Int)))) (by kernel_rfl) (by kernel_rfl) ?_
      refine D_pure (v := .bool (decide ((i : Int) < ((l.length : Nat) : Int)))) (by kernel_rfl) (by kernel_rfl) ?_
      generalize hb_31 : (decide ((i : Int) < ((l.length : Nat) : Int)) : Bool) = b_32
      cases b_32
      case false =>
        try simp only [Bool.and_eq_true, Bool.or_eq_true, Bool.and_eq_false_iff, Bool.or_eq_false_iff, decide_eq_true_eq, decide_eq_false_iff_not, beq_iff_eq, beq_eq_false_iff_ne, bne_iff_ne, bne_eq_false_iff_eq, Bool.not_eq_true', Bool.not_eq_false', ne_eq] at hb_31
        refine D_not (by kernel_rfl) ?_
        refine D_not (by kernel_rfl) ?_
        refine D_not (by kernel_rfl) ?_
        refine D_not (by kernel_rfl) ?_
        refine D_not (by kernel_rfl) ?_
        refine D_pure (v := .bool false) (by kernel_rfl) (by kernel_rfl) ?_
        exact D_nil ⟨by kernel_rfl, ⟨by kernel_rfl, by kernel_rfl, by kernel_rfl, by kernel_rfl, by kernel_rfl, by kernel_rfl, by kernel_rfl, trivial⟩, rfl⟩
      case true =>
        try simp only [Bool.and_eq_true, Bool.or_eq_true, Bool.and_eq_false_iff, Bool.or_eq_false_iff, decide_eq_true_eq, decide_eq_false_iff_not, beq_iff_eq, beq_eq_false_iff_ne, bne_iff_ne, bne_eq_false_iff_eq, Bool.not_eq_true', Bool.not_eq_false', ne_eq] at hb_31
        refine D_pure (v := .slice a l.length c) (by kernel_rfl) (by kernel_rfl) ?_
        refine D_pure (v := .int .i64 (i : Int)) (by kernel_rfl) (by kernel_rfl) ?_
        obtain ⟨p_33, hp_34, hc_35, hb_36⟩ := prim_indexB (P := Try.prog) (fl := fl) (t := _) (H := H_24) (x := (.tmp 28)) (ix := (.tmp 29)) hs i aty22 (by kernel_rfl) (by kernel_rfl) (z := (i : Int)) (ki := .i64) (by first | omega | (push_cast; omega)) (by omega)
        refine D_op (by kernel_rfl) hp_34 ?_
        refine D_loadB hS_25.pre hc_35 aty37 (ty := 37) (x := (.tmp 30)) (by kernel_rfl) (by kernel_rfl) (by kernel_rfl) ?_
        refine D_pure (v := .bool ((l.getD i 0) != (-128))) (by kernel_rfl) (by kernel_rfl) ?_
        refine D_pure (v := .bool ((l.getD i 0) != (-128))) (by kernel_rfl) (by kernel_rfl) ?_
        exact D_nil ⟨by kernel_rfl, ⟨by kernel_rfl, by kernel_rfl, by kernel_rfl, by kernel_rfl, by kernel_rfl, by kernel_rfl, by kernel_rfl, trivial⟩, rfl⟩
    refine W_forget [(0, .slice a l.length c), (6, .pointer (some ⟨b_2, 0, none⟩)), (7, .pointer (some ⟨b_12, 0, none⟩)), (8, .int .i64 (i : Int)), (19, .int .i64 (((n * k) : Nat) : Int)), (20, .int .i64 (i : Int)), (33, .bool (decide ((i : Int) < ((l.length : Nat) : Int)) && ((l.getD i 0) != (-128))))] hk_30 fun u_37 => ?_
    refine W_cond (b := (decide ((i : Int) < ((l.length : Nat) : Int)) && ((l.getD i 0) != (-128)))) (by kernel_rfl) (fun hb_38 => ?_) (fun hb_38 => ?_)
    case refine_1 =>
      try simp only [Bool.and_eq_true, Bool.or_eq_true, Bool.and_eq_false_iff, Bool.or_eq_false_iff, decide_eq_true_eq, decide_eq_false_iff_not, beq_iff_eq, beq_eq_false_iff_ne, bne_iff_ne, bne_eq_false_iff_eq, Bool.not_eq_true', Bool.not_eq_false', ne_eq] at hb_38
      refine W_reg [false, false, false, false, false, false, false, false, false] [] (.inl ⟨rfl, by kernel_rfl⟩) ?_
      refine D_pure (v := .pointer (some ⟨b_12, 2, none⟩)) (by kernel_rfl) (by kernel_rfl) ?_
      refine S_load hS_25 3 (ty := 22) (x := (.tmp 34)) (off := 2) (v := .slice (some ⟨b_9, 0, none⟩) (n * k) (n * k)) rfl (by kernel_rfl) (by kernel_rfl) (by kernel_rfl) (by kernel_rfl) ?_
      refine D_pure (v := .int .i64 (i : Int)) (by kernel_rfl) (by kernel_rfl) ?_
      refine D_pure (v := .slice a l.length c) (by kernel_rfl) (by kernel_rfl) ?_
      refine D_pure (v := .int .i64 (i : Int)) (by kernel_rfl) (by kernel_rfl) ?_
      obtain ⟨p_39, hp_40, hc_41, hb_42⟩ := prim_indexB (P := Try.prog) (fl := fl) (t := _) (H := H_24) (x := (.tmp 37)) (ix := (.tmp 38)) hs i aty22 (by kernel_rfl) (by kernel_rfl) (z := (i : Int)) (ki := .i64) (by first | omega | (push_cast; omega)) (by omega)
      refine D_op (by kernel_rfl) hp_40 ?_
      refine D_loadB hS_25.pre hc_41 aty37 (ty := 37) (x := (.tmp 39)) (by kernel_rfl) (by kernel_rfl) (by kernel_rfl) ?_
      refine D_op (by kernel_rfl) (prim_index1 (ty := 22) (b := b_9) (n := (n * k)) (c := (n * k)) (k := .i64) (x := (.tmp 35)) (ix := (.tmp 36)) i aty22 (by kernel_rfl) (by kernel_rfl) (z := (i : Int)) (by first | omega | (push_cast; omega)) (by first | omega | (simp only [List.length_append, List.length_cons, List.length_nil, List.length_replicate, List.length_set, Pl.matL_length]; omega))) ?_
      refine S_store hS_25 hfl 2 (ty := 37) (x := (.tmp 41)) (y := (.tmp 40)) (off := i) (v := .int .i8 (l.getD i 0)) (ib .i8 ((Pl.matL l (n * k) i).set i (l.getD i 0)) true) ([(some b_2, ⟨[.slice none 0 0, .int .i64 0, .slice none 0 0], 0, true, true⟩), (some b_6, ib .i64 ([(n : Int), (k : Int)]) true), (some b_9, ib .i8 ((Pl.matL l (n * k) i).set i (l.getD i 0)) true), (some b_12, ⟨[.slice (some ⟨b_6, 0, none⟩) 2 2, .int .i64 0, .slice (some ⟨b_9, 0, none⟩) (n * k) (n * k)], 0, true, true⟩)]) rfl rfl (by kernel_rfl) (by kernel_rfl) (by kernel_rfl) (by kernel_rfl) (storeB_ib aty37 csz37 (by first | omega | (simp only [List.length_append, List.length_cons, List.length_nil, List.length_replicate, List.length_set, Pl.matL_length]; omega))) ?_
      intro H_43 hS_44
      refine D_nil ⟨by kernel_rfl, ?_⟩
      refine W_forget [(0, .slice a l.length c), (6, .pointer (some ⟨b_2, 0, none⟩)), (7, .pointer (some ⟨b_12, 0, none⟩)), (19, .int .i64 (((n * k) : Nat) : Int)), (20, .int .i64 (i : Int))] ⟨by kernel_rfl, by kernel_rfl, by kernel_rfl, by kernel_rfl, by kernel_rfl, trivial⟩ fun u_45 => ?_
      refine W_reg (List.replicate 2 true) [] (.inr ⟨rfl, by kernel_rfl⟩) ?_
      refine D_opw (v := .int .i64 ((i : Int) + 1)) (v' := .int .i64 (IntKind.i64.wrap ((i : Int) + 1))) (by kernel_rfl) (by kernel_rfl) (wv (wrap_i64 _ (by omega) (by omega))) ?_
      refine D_pure (v := .int .i64 ((i : Int) + 1)) (by kernel_rfl) (by kernel_rfl) ?_
      refine D_nil ⟨by kernel_rfl, ?_⟩
      have hq_46 : (Pl.matL l (n * k) i).set i (l.getD i 0) = Pl.matL l (n * k) (i + 1) := (by rw [← Pl.matL_set l (n * k) i (by omega), Pl.matAt_on hb_38])
      have hS_47 : St H H_43 [(some b_2, ⟨[.slice none 0 0, .int .i64 0, .slice none 0 0], 0, true, true⟩), (some b_6, ib .i64 ([(n : Int), (k : Int)]) true), (some b_9, ib .i8 (Pl.matL l (n * k) (i + 1)) true), (some b_12, ⟨[.slice (some ⟨b_6, 0, none⟩) 2 2, .int .i64 0, .slice (some ⟨b_9, 0, none⟩) (n * k) (n * k)], 0, true, true⟩)] := by (have h0 := hS_44; rw [hq_46] at h0; exact h0)
      refine ⟨_, ?_, _, i + 1,  (hS_47.pick [0, 1, 2, 3] (by decide) rfl), tl_keep (l := [(0, .slice a l.length c), (6, .pointer (some ⟨b_2, 0, none⟩)), (7, .pointer (some ⟨b_12, 0, none⟩)), (19, .int .i64 (((n * k) : Nat) : Int)), (20, .int .i64 (((i + 1) : Nat) : Int))]) ⟨by kernel_rfl, by kernel_rfl, by kernel_rfl, by kernel_rfl, iv (k := .i64) (a := (i : Int) + 1) (by omega), trivial⟩, rfl, by omega⟩
      omega
    case refine_2 =>
      try simp only [Bool.and_eq_true, Bool.or_eq_true, Bool.and_eq_false_iff, Bool.or_eq_false_iff, decide_eq_true_eq, decide_eq_false_iff_not, beq_iff_eq, beq_eq_false_iff_ne, bne_iff_ne, bne_eq_false_iff_eq, Bool.not_eq_true', Bool.not_eq_false', ne_eq] at hb_38
      refine W_skip ?_
      refine W_reg (List.replicate 2 true) [] (.inr ⟨rfl, by kernel_rfl⟩) ?_
      refine D_opw (v := .int .i64 ((i : Int) + 1)) (v' := .int .i64 (IntKind.i64.wrap ((i : Int) + 1))) (by kernel_rfl) (by kernel_rfl) (wv (wrap_i64 _ (by omega) (by omega))) ?_
      refine D_pure (v := .int .i64 ((i : Int) + 1)) (by kernel_rfl) (by kernel_rfl) ?_
      refine D_nil ⟨by kernel_rfl, ?_⟩
      have hq_48 : Pl.matL l (n * k) i = Pl.matL l (n * k) (i + 1) := (Pl.matL_keep l (n * k) i (Pl.matAt_off hb_38)).symm
      have hS_49 : St H H_24 [(some b_2, ⟨[.slice none 0 0, .int .i64 0, .slice none 0 0], 0, true, true⟩), (some b_6, ib .i64 ([(n : Int), (k : Int)]) true), (some b_9, ib .i8 (Pl.matL l (n * k) (i + 1)) true), (some b_12, ⟨[.slice (some ⟨b_6, 0, none⟩) 2 2, .int .i64 0, .slice (some ⟨b_9, 0, none⟩) (n * k) (n * k)], 0, true, true⟩)] := by (have h0 := hS_25; rw [hq_48] at h0; exact h0)
      refine ⟨_, ?_, _, i + 1,  (hS_49.pick [0, 1, 2, 3] (by decide) rfl), tl_keep (l := [(0, .slice a l.length c), (6, .pointer (some ⟨b_2, 0, none⟩)), (7, .pointer (some ⟨b_12, 0, none⟩)), (19, .int .i64 (((n * k) : Nat) : Int)), (20, .int .i64 (((i + 1) : Nat) : Int))]) ⟨by kernel_rfl, by kernel_rfl, by kernel_rfl, by kernel_rfl, iv (k := .i64) (a := (i : Int) + 1) (by omega), trivial⟩, rfl, by omega⟩
      omega
  case refine_2 =>
    try simp only [Bool.and_eq_true, Bool.or_eq_true, Bool.and_eq_false_iff, Bool.or_eq_false_iff, decide_eq_true_eq, decide_eq_false_iff_not, beq_iff_eq, beq_eq_false_iff_ne, bne_iff_ne, bne_eq_false_iff_eq, Bool.not_eq_true', Bool.not_eq_false', ne_eq] at hb_27
    refine W_exit ?_
    refine W_seq ?_
    refine W_reg (List.replicate 2 true) [] (.inr ⟨rfl, by kernel_rfl⟩) ?_
    refine S_load hS_25 3 (ty := 26) (x := (.tmp 7)) (off := 0) (v := .agg #[.slice (some ⟨b_6, 0, none⟩) 2 2, .int .i64 0, .slice (some ⟨b_9, 0, none⟩) (n * k) (n * k)]) rfl (by kernel_rfl) (by kernel_rfl) (by kernel_rfl) (by kernel_rfl) ?_
    refine S_store hS_25 hfl 0 (ty := 26) (x := (.tmp 6)) (y := (.tmp 43)) (off := 0) (v := .agg #[.slice (some ⟨b_6, 0, none⟩) 2 2, .int .i64 0, .slice (some ⟨b_9, 0, none⟩) (n * k) (n * k)]) (⟨[.slice (some ⟨b_6, 0, none⟩) 2 2, .int .i64 0, .slice (some ⟨b_9, 0, none⟩) (n * k) (n * k)], 0, true, true⟩) ([(some b_2, ⟨[.slice (some ⟨b_6, 0, none⟩) 2 2, .int .i64 0, .slice (some ⟨b_9, 0, none⟩) (n * k) (n * k)], 0, true, true⟩), (some b_6, ib .i64 ([(n : Int), (k : Int)]) true), (some b_9, ib .i8 (Pl.matL l (n * k) i) true), (some b_12, ⟨[.slice (some ⟨b_6, 0, none⟩) 2 2, .int .i64 0, .slice (some ⟨b_9, 0, none⟩) (n * k) (n * k)], 0, true, true⟩)]) rfl rfl (by kernel_rfl) (by kernel_rfl) (by kernel_rfl) (by kernel_rfl) (by kernel_rfl) ?_
    intro H_50 hS_51
    refine D_nil ⟨by kernel_rfl, ?_⟩
    refine W_forget [(6, .pointer (some ⟨b_2, 0, none⟩))] ⟨by kernel_rfl, trivial⟩ fun u_52 => ?_
    refine W_ret ?_
    have hq_53 : Pl.matL l (n * k) i = Pl.matData l (n * k) := (by rw [show i = n * k by omega, Pl.matL_end])
    have hS_54 : St H H_50 [(some b_2, ⟨[.slice (some ⟨b_6, 0, none⟩) 2 2, .int .i64 0, .slice (some ⟨b_9, 0, none⟩) (n * k) (n * k)], 0, true, true⟩), (some b_6, ib .i64 ([(n : Int), (k : Int)]) true), (some b_9, ib .i8 (Pl.matData l (n * k)) true), (some b_12, ⟨[.slice (some ⟨b_6, 0, none⟩) 2 2, .int .i64 0, .slice (some ⟨b_9, 0, none⟩) (n * k) (n * k)], 0, true, true⟩)] := by (have h0 := hS_51; rw [hq_53] at h0; exact h0)
    exact ⟨[.agg #[.slice (some ⟨b_6, 0, none⟩) 2 2, .int .i64 0, .slice (some ⟨b_9, 0, none⟩) (n * k) (n * k)]], resultAll_cell (off := 0) (by kernel_rfl) (hS_51.get (i := 0) rfl) (by kernel_rfl) (rfl), (by have h0 := h _ _ _ (hS_54.pick [1, 2] (by decide) rfl); rw [Pl.matData_length] at h0; exact h0)⟩
theorem c_vector (fl : Nat) (a : Option Addr) (c : Nat) (l : List Int) (n : Nat) (H : AHeap) (hfl : fl ≤ H.length) (hs : RI H .i8 a c l) (hnk : n ≤ 1000000) (R : Value → AHeap → Prop)
    (h : ∀ b1 b2 H', St H H' [(some b1, ib .i64 [(n : Int)] true), (some b2, ib .i8 (Pl.matData l n) true)] → R (.agg #[.slice (some ⟨b1, 0, none⟩) 1 1, .int .i64 0, .slice (some ⟨b2, 0, none⟩) (Pl.matData l n).length (Pl.matData l n).length]) H') :
    WCall Try.prog fl 11 #[.slice a l.length c, .int .i64 (n : Int)] H R := by
  have hlen := hs.len
  refine W_call Try.func11 rfl (by kernel_rfl) (Nat.le_of_ble_eq_true rfl) ?_
  have hS := St.refl H
  refine W_forget [(0, .slice a l.length c), (1, .int .i64 (n : Int))] ⟨by kernel_rfl, by kernel_rfl, trivial⟩ fun u_1 => ?_
  refine W_seq ?_
  refine W_reg (List.replicate 1 true) [] (.inr ⟨rfl, by kernel_rfl⟩) ?_
  refine S_new hS (v := fun b => .pointer (some ⟨b, 0, none⟩)) (⟨[.slice none 0 0, .int .i64 0, .slice none 0 0], 0, true, true⟩) (fun b => [(some b, ⟨[.slice none 0 0, .int .i64 0, .slice none 0 0], 0, true, true⟩)]) (fun _ => rfl) (by kernel_rfl) (fun _ => by kernel_rfl) ?_
  intro b_2 H_3 hS_4
  refine D_nil ⟨by kernel_rfl, ?_⟩
  refine W_forget [(0, .slice a l.length c), (1, .int .i64 (n : Int)), (4, .pointer (some ⟨b_2, 0, none⟩))] ⟨by kernel_rfl, by kernel_rfl, by kernel_rfl, trivial⟩ fun u_5 => ?_
  refine W_seq ?_
  refine W_reg (List.replicate 5 true) [] (.inr ⟨rfl, by kernel_rfl⟩) ?_
  refine D_pure (v := .slice a l.length c) (by kernel_rfl) (by kernel_rfl) ?_
  refine D_pure (v := .int .i64 (n : Int)) (by kernel_rfl) (by kernel_rfl) ?_
  refine D_call true rfl (by kernel_rfl) (f := 10) (args := #[.slice a l.length c, .int .i64 1, .int .i64 (n : Int)]) (by kernel_rfl) (c_matrix _ a c l 1 n _ (Nat.le_trans hfl hS_4.len) (hs.pre hS_4.pre) (by omega) _ ?_)
  intro b_6 b_7 H_8 hS_9
  have hS_10 : St H H_8 [(some b_2, ⟨[.slice none 0 0, .int .i64 0, .slice none 0 0], 0, true, true⟩), (some b_6, ib .i64 ([(1 : Int), (n : Int)]) true), (some b_7, ib .i8 (Pl.matData l (1 * n)) true)] := hS_4.next hS_9
  refine S_new hS_10 (v := fun b => .pointer (some ⟨b, 0, none⟩)) (⟨[.slice none 0 0, .int .i64 0, .slice none 0 0], 0, true, true⟩) (fun b => [(some b_2, ⟨[.slice none 0 0, .int .i64 0, .slice none 0 0], 0, true, true⟩), (some b_6, ib .i64 ([(1 : Int), (n : Int)]) true), (some b_7, ib .i8 (Pl.matData l (1 * n)) true), (some b, ⟨[.slice none 0 0, .int .i64 0, .slice none 0 0], 0, true, true⟩)]) (fun _ => rfl) (by kernel_rfl) (fun _ => by kernel_rfl) ?_
  intro b_11 H_12 hS_13
  refine S_store hS_13 hfl 3 (ty := 26) (x := (.tmp 5)) (y := (.tmp 8)) (off := 0) (v := .agg #[.slice (some ⟨b_6, 0, none⟩) 2 2, .int .i64 0, .slice (some ⟨b_7, 0, none⟩) ((Pl.matData l (1 * n)).length) ((Pl.matData l (1 * n)).length)]) (⟨[.slice (some ⟨b_6, 0, none⟩) 2 2, .int .i64 0, .slice (some ⟨b_7, 0, none⟩) ((Pl.matData l (1 * n)).length) ((Pl.matData l (1 * n)).length)], 0, true, true⟩) ([(some b_2, ⟨[.slice none 0 0, .int .i64 0, .slice none 0 0], 0, true, true⟩), (some b_6, ib .i64 ([(1 : Int), (n : Int)]) true), (some b_7, ib .i8 (Pl.matData l (1 * n)) true), (some b_11, ⟨[.slice (some ⟨b_6, 0, none⟩) 2 2, .int .i64 0, .slice (some ⟨b_7, 0, none⟩) ((Pl.matData l (1 * n)).length) ((Pl.matData l (1 * n)).length)], 0, true, true⟩)]) rfl rfl (by kernel_rfl) (by kernel_rfl) (by kernel_rfl) (by kernel_rfl) (by kernel_rfl) ?_
  intro H_14 hS_15
  refine D_nil ⟨by kernel_rfl, ?_⟩
  refine W_forget [(1, .int .i64 (n : Int)), (4, .pointer (some ⟨b_2, 0, none⟩)), (5, .pointer (some ⟨b_11, 0, none⟩))] ⟨by kernel_rfl, by kernel_rfl, by kernel_rfl, trivial⟩ fun u_16 => ?_
  refine W_seq ?_
  have hq_17 : (1 * n) = n := (Nat.one_mul n)
  have hS_18 : St H H_14 [(some b_2, ⟨[.slice none 0 0, .int .i64 0, .slice none 0 0], 0, true, true⟩), (some b_6, ib .i64 ([(1 : Int), (n : Int)]) true), (some b_7, ib .i8 (Pl.matData l n) true), (some b_11, ⟨[.slice (some ⟨b_6, 0, none⟩) 2 2, .int .i64 0, .slice (some ⟨b_7, 0, none⟩) ((Pl.matData l n).length) ((Pl.matData l n).length)], 0, true, true⟩)] := by (have h0 := hS_15; rw [hq_17] at h0; exact h0)
  skip
  refine W_reg (List.replicate 4 true) [] (.inr ⟨rfl, by kernel_rfl⟩) ?_
  refine D_pure (v := .int .i64 (n : Int)) (by kernel_rfl) (by kernel_rfl) ?_
  refine S_new hS_18 (v := fun b => .slice (some ⟨b, 0, none⟩) 1 1) (ib .i64 ([(n : Int)]) true) (fun b => [(some b_2, ⟨[.slice none 0 0, .int .i64 0, .slice none 0 0], 0, true, true⟩), (some b_6, ib .i64 ([(1 : Int), (n : Int)]) true), (some b_7, ib .i8 (Pl.matData l n) true), (some b_11, ⟨[.slice (some ⟨b_6, 0, none⟩) 2 2, .int .i64 0, .slice (some ⟨b_7, 0, none⟩) ((Pl.matData l n).length) ((Pl.matData l n).length)], 0, true, true⟩), (some b, ib .i64 ([(n : Int)]) true)]) (fun _ => rfl) (by kernel_rfl) (fun _ => by kernel_rfl) ?_
  intro b_19 H_20 hS_21
  refine D_pure (v := .pointer (some ⟨b_11, 0, none⟩)) (by kernel_rfl) (by kernel_rfl) ?_
  refine S_store hS_21 hfl 3 (ty := 24) (x := (.tmp 11)) (y := (.tmp 10)) (off := 0) (v := .slice (some ⟨b_19, 0, none⟩) 1 1) (⟨[.slice (some ⟨b_19, 0, none⟩) 1 1, .int .i64 0, .slice (some ⟨b_7, 0, none⟩) ((Pl.matData l n).length) ((Pl.matData l n).length)], 0, true, true⟩) ([(some b_2, ⟨[.slice none 0 0, .int .i64 0, .slice none 0 0], 0, true, true⟩), (some b_6, ib .i64 ([(1 : Int), (n : Int)]) true), (some b_7, ib .i8 (Pl.matData l n) true), (some b_11, ⟨[.slice (some ⟨b_19, 0, none⟩) 1 1, .int .i64 0, .slice (some ⟨b_7, 0, none⟩) ((Pl.matData l n).length) ((Pl.matData l n).length)], 0, true, true⟩), (some b_19, ib .i64 ([(n : Int)]) true)]) rfl rfl (by kernel_rfl) (by kernel_rfl) (by kernel_rfl) (by kernel_rfl) (by kernel_rfl) ?_
  intro H_22 hS_23
  refine D_nil ⟨by kernel_rfl, ?_⟩
  refine W_forget [(4, .pointer (some ⟨b_2, 0, none⟩)), (5, .pointer (some ⟨b_11, 0, none⟩))] ⟨by kernel_rfl, by kernel_rfl, trivial⟩ fun u_24 => ?_
  refine W_seq ?_
  refine W_reg (List.replicate 2 true) [] (.inr ⟨rfl, by kernel_rfl⟩) ?_
  refine S_load hS_23 3 (ty := 26) (x := (.tmp 5)) (off := 0) (v := .agg #[.slice (some ⟨b_19, 0, none⟩) 1 1, .int .i64 0, .slice (some ⟨b_7, 0, none⟩) ((Pl.matData l n).length) ((Pl.matData l n).length)]) rfl (by kernel_rfl) (by kernel_rfl) (by kernel_rfl) (by kernel_rfl) ?_
  refine S_store hS_23 hfl 0 (ty := 26) (x := (.tmp 4)) (y := (.tmp 12)) (off := 0) (v := .agg #[.slice (some ⟨b_19, 0, none⟩) 1 1, .int .i64 0, .slice (some ⟨b_7, 0, none⟩) ((Pl.matData l n).length) ((Pl.matData l n).length)]) (⟨[.slice (some ⟨b_19, 0, none⟩) 1 1, .int .i64 0, .slice (some ⟨b_7, 0, none⟩) ((Pl.matData l n).length) ((Pl.matData l n).length)], 0, true, true⟩) ([(some b_2, ⟨[.slice (some ⟨b_19, 0, none⟩) 1 1, .int .i64 0, .slice (some ⟨b_7, 0, none⟩) ((Pl.matData l n).length) ((Pl.matData l n).length)], 0, true, true⟩), (some b_6, ib .i64 ([(1 : Int), (n : Int)]) true), (some b_7, ib .i8 (Pl.matData l n) true), (some b_11, ⟨[.slice (some ⟨b_19, 0, none⟩) 1 1, .int .i64 0, .slice (some ⟨b_7, 0, none⟩) ((Pl.matData l n).length) ((Pl.matData l n).length)], 0, true, true⟩), (some b_19, ib .i64 ([(n : Int)]) true)]) rfl rfl (by kernel_rfl) (by kernel_rfl) (by kernel_rfl) (by kernel_rfl) (by kernel_rfl) ?_
  intro H_25 hS_26
  refine D_nil ⟨by kernel_rfl, ?_⟩
  refine W_forget [(4, .pointer (some ⟨b_2, 0, none⟩))] ⟨by kernel_rfl, trivial⟩ fun u_27 => ?_
  refine W_ret ?_
  exact ⟨[.agg #[.slice (some ⟨b_19, 0, none⟩) 1 1, .int .i64 0, .slice (some ⟨b_7, 0, none⟩) ((Pl.matData l n).length) ((Pl.matData l n).length)]], resultAll_cell (off := 0) (by kernel_rfl) (hS_26.get (i := 0) rfl) (by kernel_rfl) (rfl), h _ _ _ (hS_26.pick [4, 2] (by decide) rfl)⟩
theorem c_forwardE (fl : Nat) (vx vw vb : TV) (H : AHeap) (hfl : fl ≤ H.length) (hvx : vx.ok .i8 H) (hvw : vw.ok .i8 H) (hvb : vb.ok .i8 H) (h8x : Pl.All8 vx.data) (h8w : Pl.All8 vw.data) (h8b : Pl.All8 vb.data)
    (e : Int) (d : List Int) (x : Int) (n : List Int) (hq : Pl.fwdOut vx.ten vw.ten vb.ten = (e, ⟨d, x, n⟩))
    (R : Value → AHeap → Prop) (h : ∀ a1 a2 H', St H H' [(a1, ib .i64 d true), (a2, ib .i32 n false)] → R (.tuple #[.agg #[sl a1 d.length, .int .i64 x, sl a2 n.length], .int .i64 e]) H') :
    WCall Try.prog fl 12 #[vx.val, vw.val, vb.val] H R := by
  refine c_forward fl vx vw vb H hfl hvx hvw hvb h8x h8w h8b R ?_
  rw [hq]
  exact h

theorem c_awake (fl : Nat) (H : AHeap) (hfl : fl ≤ H.length) (R : Value → AHeap → Prop) (h : ∀ H', St H H' [] → R (.bool true) H') : WCall Try.prog fl 13 #[] H R := by
  refine W_call Try.func13 rfl (by kernel_rfl) (Nat.le_of_ble_eq_true rfl) ?_
  have hS := St.refl H
  refine W_forget [] trivial fun u_1 => ?_
  refine W_seq ?_
  refine W_reg (List.replicate 1 true) [] (.inr ⟨rfl, by kernel_rfl⟩) ?_
  refine D_pure (v := .bool false) (by kernel_rfl) (by kernel_rfl) ?_
  refine D_nil ⟨by kernel_rfl, ?_⟩
  refine W_forget [] trivial fun u_2 => ?_
  refine W_seq ?_
  refine W_reg (List.replicate 16 true) [] (.inr ⟨rfl, by kernel_rfl⟩) ?_
  refine S_new hS (v := fun b => .slice (some ⟨b, 0, none⟩) 2 2) (ib .i64 ([1, 2]) true) (fun b => [(some b, ib .i64 ([1, 2]) true)]) (fun _ => rfl) (by kernel_rfl) (fun _ => by kernel_rfl) ?_
  intro b_3 H_4 hS_5
  refine S_new hS_5 (v := fun b => .slice (some ⟨b, 0, none⟩) 2 2) (ib .i8 ([1, 2]) true) (fun b => [(some b_3, ib .i64 ([1, 2]) true), (some b, ib .i8 ([1, 2]) true)]) (fun _ => rfl) (by kernel_rfl) (fun _ => by kernel_rfl) ?_
  intro b_6 H_7 hS_8
  refine D_pure (v := .agg #[.slice (some ⟨b_3, 0, none⟩) 2 2, .int .i64 0, .slice (some ⟨b_6, 0, none⟩) 2 2]) (by kernel_rfl) (by kernel_rfl) ?_
  refine S_new hS_8 (v := fun b => .slice (some ⟨b, 0, none⟩) 2 2) (ib .i64 ([1, 2]) true) (fun b => [(some b_3, ib .i64 ([1, 2]) true), (some b_6, ib .i8 ([1, 2]) true), (some b, ib .i64 ([1, 2]) true)]) (fun _ => rfl) (by kernel_rfl) (fun _ => by kernel_rfl) ?_
  intro b_9 H_10 hS_11
  refine S_new hS_11 (v := fun b => .slice (some ⟨b, 0, none⟩) 2 2) (ib .i8 ([3, 4]) true) (fun b => [(some b_3, ib .i64 ([1, 2]) true), (some b_6, ib .i8 ([1, 2]) true), (some b_9, ib .i64 ([1, 2]) true), (some b, ib .i8 ([3, 4]) true)]) (fun _ => rfl) (by kernel_rfl) (fun _ => by kernel_rfl) ?_
  intro b_12 H_13 hS_14
  refine D_pure (v := .agg #[.slice (some ⟨b_9, 0, none⟩) 2 2, .int .i64 0, .slice (some ⟨b_12, 0, none⟩) 2 2]) (by kernel_rfl) (by kernel_rfl) ?_
  refine S_new hS_14 (v := fun b => .slice (some ⟨b, 0, none⟩) 1 1) (ib .i64 ([1]) true) (fun b => [(some b_3, ib .i64 ([1, 2]) true), (some b_6, ib .i8 ([1, 2]) true), (some b_9, ib .i64 ([1, 2]) true), (some b_12, ib .i8 ([3, 4]) true), (some b, ib .i64 ([1]) true)]) (fun _ => rfl) (by kernel_rfl) (fun _ => by kernel_rfl) ?_
  intro b_15 H_16 hS_17
  refine S_new hS_17 (v := fun b => .slice (some ⟨b, 0, none⟩) 1 1) (ib .i8 ([5]) true) (fun b => [(some b_3, ib .i64 ([1, 2]) true), (some b_6, ib .i8 ([1, 2]) true), (some b_9, ib .i64 ([1, 2]) true), (some b_12, ib .i8 ([3, 4]) true), (some b_15, ib .i64 ([1]) true), (some b, ib .i8 ([5]) true)]) (fun _ => rfl) (by kernel_rfl) (fun _ => by kernel_rfl) ?_
  intro b_18 H_19 hS_20
  refine D_pure (v := .agg #[.slice (some ⟨b_15, 0, none⟩) 1 1, .int .i64 0, .slice (some ⟨b_18, 0, none⟩) 1 1]) (by kernel_rfl) (by kernel_rfl) ?_
  refine D_call true rfl (by kernel_rfl) (f := 12) (args := #[.agg #[.slice (some ⟨b_3, 0, none⟩) 2 2, .int .i64 0, .slice (some ⟨b_6, 0, none⟩) 2 2], .agg #[.slice (some ⟨b_9, 0, none⟩) 2 2, .int .i64 0, .slice (some ⟨b_12, 0, none⟩) 2 2], .agg #[.slice (some ⟨b_15, 0, none⟩) 1 1, .int .i64 0, .slice (some ⟨b_18, 0, none⟩) 1 1]]) (by kernel_rfl) (c_forwardE _ (⟨(some ⟨b_3, 0, none⟩), 2, [1, 2], 0, (some ⟨b_6, 0, none⟩), 2, [1, 2]⟩) (⟨(some ⟨b_9, 0, none⟩), 2, [1, 2], 0, (some ⟨b_12, 0, none⟩), 2, [3, 4]⟩) (⟨(some ⟨b_15, 0, none⟩), 1, [1], 0, (some ⟨b_18, 0, none⟩), 1, [5]⟩) _ (Nat.le_trans hfl hS_20.len) (⟨(hS_20.ri (i := 0) (k := .i64) (l := [1, 2]) (ex := true) rfl (by first | decide | omega | (simp only [List.length_append, List.length_cons, List.length_nil, List.length_replicate, List.length_set, List.length_map, List.length_range]; omega))), (hS_20.ri (i := 1) (k := .i8) (l := [1, 2]) (ex := true) rfl (by first | decide | omega | (simp only [List.length_append, List.length_cons, List.length_nil, List.length_replicate, List.length_set, List.length_map, List.length_range]; omega)))⟩) (⟨(hS_20.ri (i := 2) (k := .i64) (l := [1, 2]) (ex := true) rfl (by first | decide | omega | (simp only [List.length_append, List.length_cons, List.length_nil, List.length_replicate, List.length_set, List.length_map, List.length_range]; omega))), (hS_20.ri (i := 3) (k := .i8) (l := [3, 4]) (ex := true) rfl (by first | decide | omega | (simp only [List.length_append, List.length_cons, List.length_nil, List.length_replicate, List.length_set, List.length_map, List.length_range]; omega)))⟩) (⟨(hS_20.ri (i := 4) (k := .i64) (l := [1]) (ex := true) rfl (by first | decide | omega | (simp only [List.length_append, List.length_cons, List.length_nil, List.length_replicate, List.length_set, List.length_map, List.length_range]; omega))), (hS_20.ri (i := 5) (k := .i8) (l := [5]) (ex := true) rfl (by first | decide | omega | (simp only [List.length_append, List.length_cons, List.length_nil, List.length_replicate, List.length_set, List.length_map, List.length_range]; omega)))⟩) (show Pl.All8 [1, 2] from by unfold Pl.All8; decide) (show Pl.All8 [3, 4] from by unfold Pl.All8; decide) (show Pl.All8 [5] from by unfold Pl.All8; decide) 0 ([1, 1]) 0 ([16]) (show Pl.fwdOut ⟨[1, 2], 0, [1, 2]⟩ ⟨[1, 2], 0, [3, 4]⟩ ⟨[1], 0, [5]⟩ = _ from by kernel_rfl) _ ?_)
  intro a_21 a_22 H_23 hS_24
  have hS_25 : St H H_23 [(some b_3, ib .i64 ([1, 2]) true), (some b_6, ib .i8 ([1, 2]) true), (some b_9, ib .i64 ([1, 2]) true), (some b_12, ib .i8 ([3, 4]) true), (some b_15, ib .i64 ([1]) true), (some b_18, ib .i8 ([5]) true), (a_21, ib .i64 ([1, 1]) true), (a_22, ib .i32 ([16]) false)] := hS_20.next hS_24
  refine D_pure (v := .tuple #[.agg #[.slice (a_21.map fun b => ⟨b, 0, none⟩) (([1, 1]).length) (([1, 1]).length), .int .i64 0, .slice (a_22.map fun b => ⟨b, 0, none⟩) (([16]).length) (([16]).length)], .int .i64 0]) (by kernel_rfl) (by kernel_rfl) ?_
  refine D_pure (v := .agg #[.slice (a_21.map fun b => ⟨b, 0, none⟩) (([1, 1]).length) (([1, 1]).length), .int .i64 0, .slice (a_22.map fun b => ⟨b, 0, none⟩) (([16]).length) (([16]).length)]) (by kernel_rfl) (by kernel_rfl) ?_
  refine D_pure (v := .int .i64 0) (by kernel_rfl) (by kernel_rfl) ?_
  refine S_new hS_25 (v := fun b => .pointer (some ⟨b, 0, none⟩)) (⟨[.slice none 0 0, .int .i64 0, .slice none 0 0], 0, true, true⟩) (fun b => [(some b_3, ib .i64 ([1, 2]) true), (some b_6, ib .i8 ([1, 2]) true), (some b_9, ib .i64 ([1, 2]) true), (some b_12, ib .i8 ([3, 4]) true), (some b_15, ib .i64 ([1]) true), (some b_18, ib .i8 ([5]) true), (a_21, ib .i64 ([1, 1]) true), (a_22, ib .i32 ([16]) false), (some b, ⟨[.slice none 0 0, .int .i64 0, .slice none 0 0], 0, true, true⟩)]) (fun _ => rfl) (by kernel_rfl) (fun _ => by kernel_rfl) ?_
  intro b_26 H_27 hS_28
  refine S_store hS_28 hfl 8 (ty := 31) (x := (.tmp 1)) (y := (.tmp 14)) (off := 0) (v := .agg #[.slice (a_21.map fun b => ⟨b, 0, none⟩) (([1, 1]).length) (([1, 1]).length), .int .i64 0, .slice (a_22.map fun b => ⟨b, 0, none⟩) (([16]).length) (([16]).length)]) (⟨[.slice (a_21.map fun b => ⟨b, 0, none⟩) (([1, 1]).length) (([1, 1]).length), .int .i64 0, .slice (a_22.map fun b => ⟨b, 0, none⟩) (([16]).length) (([16]).length)], 0, true, true⟩) ([(some b_3, ib .i64 ([1, 2]) true), (some b_6, ib .i8 ([1, 2]) true), (some b_9, ib .i64 ([1, 2]) true), (some b_12, ib .i8 ([3, 4]) true), (some b_15, ib .i64 ([1]) true), (some b_18, ib .i8 ([5]) true), (a_21, ib .i64 ([1, 1]) true), (a_22, ib .i32 ([16]) false), (some b_26, ⟨[.slice (a_21.map fun b => ⟨b, 0, none⟩) (([1, 1]).length) (([1, 1]).length), .int .i64 0, .slice (a_22.map fun b => ⟨b, 0, none⟩) (([16]).length) (([16]).length)], 0, true, true⟩)]) rfl rfl (by kernel_rfl) (by kernel_rfl) (by kernel_rfl) (by kernel_rfl) (by kernel_rfl) ?_
  intro H_29 hS_30
  refine D_pure (v := .int .i64 0) (by kernel_rfl) (by kernel_rfl) ?_
  refine D_nil ⟨by kernel_rfl, ?_⟩
  refine W_forget [(1, .pointer (some ⟨b_26, 0, none⟩)), (2, .int .i64 0)] ⟨by kernel_rfl, by kernel_rfl, trivial⟩ fun u_31 => ?_
  refine W_seq ?_
  refine W_cut (List.replicate 16 true) [] (.inr ⟨rfl, by kernel_rfl⟩) [(0, .bool (((([16]).length : Nat) : Int) == 1))] H_29 ?_ (fun t_32 hk_33 => ?_)
  case refine_1 =>
    refine D_pure (v := .int .i64 0) (by kernel_rfl) (by kernel_rfl) ?_
    refine D_pure (v := .bool true) (by kernel_rfl) (by kernel_rfl) ?_
    refine D_pure (v := .bool true) (by kernel_rfl) (by kernel_rfl) ?_
    refine D_pure (v := .pointer (some ⟨b_26, 2, none⟩)) (by kernel_rfl) (by kernel_rfl) ?_
    refine S_load hS_30 8 (ty := 29) (x := (.tmp 19)) (off := 2) (v := .slice (a_22.map fun b => ⟨b, 0, none⟩) (([16]).length) (([16]).length)) rfl (by kernel_rfl) (by kernel_rfl) (by kernel_rfl) (by kernel_rfl) ?_
    refine D_pure (v := .int .i64 ((([16]).length : Nat) : Int)) (by kernel_rfl) (by kernel_rfl) ?_
    refine D_pure (v := .bool (((([16]).length : Nat) : Int) == 1)) (by kernel_rfl) (by kernel_rfl) ?_
    refine D_pure (v := .bool (((([16]).length : Nat) : Int) == 1)) (by kernel_rfl) (by kernel_rfl) ?_
    refine D_pure (v := .bool (((([16]).length : Nat) : Int) == 1)) (by kernel_rfl) (by kernel_rfl) ?_
    generalize hb_34 : ((((([16]).length : Nat) : Int) == 1) : Bool) = b_35
    cases b_35
    case false =>
      try simp only [Bool.and_eq_true, Bool.or_eq_true, Bool.and_eq_false_iff, Bool.or_eq_false_iff, decide_eq_true_eq, decide_eq_false_iff_not, beq_iff_eq, beq_eq_false_iff_ne, bne_iff_ne, bne_eq_false_iff_eq, Bool.not_eq_true', Bool.not_eq_false', ne_eq] at hb_34
      refine D_not (by kernel_rfl) ?_
      refine D_not (by kernel_rfl) ?_
      refine D_not (by kernel_rfl) ?_
      refine D_not (by kernel_rfl) ?_
      refine D_not (by kernel_rfl) ?_
      refine D_pure (v := .bool false) (by kernel_rfl) (by kernel_rfl) ?_
      refine D_pure (v := .bool false) (by kernel_rfl) (by kernel_rfl) ?_
      exact D_nil ⟨by kernel_rfl, ⟨by kernel_rfl, trivial⟩, rfl⟩
    case true =>
      try simp only [Bool.and_eq_true, Bool.or_eq_true, Bool.and_eq_false_iff, Bool.or_eq_false_iff, decide_eq_true_eq, decide_eq_false_iff_not, beq_iff_eq, beq_eq_false_iff_ne, bne_iff_ne, bne_eq_false_iff_eq, Bool.not_eq_true', Bool.not_eq_false', ne_eq] at hb_34
      refine D_pure (v := .pointer (some ⟨b_26, 2, none⟩)) (by kernel_rfl) (by kernel_rfl) ?_
      refine S_load hS_30 8 (ty := 29) (x := (.tmp 25)) (off := 2) (v := .slice (a_22.map fun b => ⟨b, 0, none⟩) (([16]).length) (([16]).length)) rfl (by kernel_rfl) (by kernel_rfl) (by kernel_rfl) (by kernel_rfl) ?_
      obtain ⟨b_36, rfl⟩ := hS_30.isOne (i := 7) rfl (by first | omega | (simp only [List.length_append, List.length_cons, List.length_nil, List.length_replicate, List.length_set]; omega))
      refine D_op (by kernel_rfl) (prim_index1 (ty := 29) (b := b_36) (n := ([16]).length) (c := ([16]).length) (k := .i64) (x := (.tmp 26)) (ix := (.const (.int .i64 0))) 0 aty29 (by kernel_rfl) (by kernel_rfl) (z := 0) (by omega) (by first | omega | (simp only [List.length_append, List.length_cons, List.length_nil, List.length_replicate, List.length_set]; omega))) ?_
      refine S_load hS_30 7 (ty := 21) (x := (.tmp 27)) (off := 0) (v := .int .i32 16) rfl (by kernel_rfl) (by kernel_rfl) (by kernel_rfl) (loadB_ib aty21 (by first | omega | (simp only [List.length_append, List.length_cons, List.length_nil, List.length_replicate, List.length_set]; omega))) ?_
      refine D_pure (v := .bool true) (by kernel_rfl) (by kernel_rfl) ?_
      refine D_pure (v := .bool true) (by kernel_rfl) (by kernel_rfl) ?_
      refine D_pure (v := .bool true) (by kernel_rfl) (by kernel_rfl) ?_
      exact D_nil ⟨by kernel_rfl, ⟨by kernel_rfl, trivial⟩, rfl⟩
  refine W_forget [(0, .bool (((([16]).length : Nat) : Int) == 1))] hk_33 fun u_37 => ?_
  refine W_ret ?_
  exact ⟨[.bool (((([16]).length : Nat) : Int) == 1)], by kernel_rfl, h _ (hS_30.pick [] (by decide) rfl)⟩
end Go.Proofs.Ytanjlcjpcenejaa
