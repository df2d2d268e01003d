/- Walks of package tensor: may it be. -/
import Derived.Test.YtanjlcjpcenejaaShape
import Derived.Test.YtanjlcjpcenejaaRound
namespace Go.Proofs.Ytanjlcjpcenejaa
open Go.RowKit

set_option maxHeartbeats 400000 in
theorem exp_any (e m : Int) (w : World) (hm : 0 ≤ m) (hm' : m ≤ 100000) :
    Calls Try.prog 39 #[.int .i64 e, .int .i64 m] w fun r w' => r = .returned (.bool (Pl.expOk e m)) ∧ w = w' := by
  by_cases h1 : -m ≤ e
  · have HF := Lib.hid (show Pl.expOk e m = decide (e ≤ m) by unfold Pl.expOk; simp [h1])
    go_enter Try.func39, Try.ntmps39
    go_wp2
    go_ret
    exact ⟨ret_bool HF.out.symm, rfl⟩
  · have HF := Lib.hid (show Pl.expOk e m = false by unfold Pl.expOk; simp [h1])
    go_enter Try.func39, Try.ntmps39
    go_wp2
    go_ret
    exact ⟨ret_bool HF.out.symm, rfl⟩

set_option maxHeartbeats 400000 in
theorem index8_any (B : Nat) (A : Option Addr) (n c : Nat) (ds : List Int) (x : Int) (w : World) (h : Reads w B A n (ds.map (Value.int .i8))) (hn : n ≤ maxLen) :
    Calls Try.prog 48 #[.slice A n c, .int .i8 x] w fun e w' => e = .returned (.int .i64 (Pl.idxGo x ds 0)) ∧ w = w' := by
  have hl : ds.length = n := by simpa using h.1
  unfold maxLen at hn
  have hc' : ∀ j, j < n → ∃ ad, A = some ad ∧ w.cell? (ad.add j) = some (.int .i8 (ds.getD j 0)) := fun j hj => by
    obtain ⟨ad, rfl, _, hc⟩ := h.2 (by omega)
    exact ⟨ad, rfl, hc j _ (by simp [List.getElem?_eq_getElem (show j < ds.length by omega)])⟩
  have HC := Lib.hid hc'
  clear h hc'
  have HL := Lib.hid hl
  clear hl
  go_enter Try.func48, Try.ntmps48
  go_wp2
  go_loop [8] (fun i => ∃ k : Nat, k ≤ n ∧ i = .int .i64 k ∧ (Pl.idxGo x (ds.drop k) k = Pl.idxGo x ds 0)) (fun i => n - (intOf i).toNat)
  case atStart => exact ⟨0, Nat.zero_le _, rfl, rfl⟩
  case round =>
    obtain ⟨k, hk, rfl, hr⟩ := hrel
    have HR := Lib.hid hr
    clear hr
    by_cases hlt : k < n
    · obtain ⟨ad, rfl, hcell⟩ := HC.out k hlt
      have HD := Lib.hid (Pl.idxGo_drop x ds k k (by rw [HL.out]; exact hlt))
      generalize ds.getD k 0 = y at *
      by_cases hxy : x = y
      · have hb : (x == y) = true := by simp [hxy]
        have HX := Lib.hid hxy
        clear hxy
        go_wp2
        go_ret
        exact ⟨ret_int (by rw [← HR.out, HD.out, if_pos HX.out]), rfl⟩
      · have hb : (x == y) = false := by simp [hxy]
        have HX := Lib.hid hxy
        clear hxy
        go_wp2
        go_round
        case rel => exact ⟨k + 1, by omega, by go_num, by rw [← HR.out, HD.out, if_neg HX.out]; rfl⟩
        case measure => simp [intOf]; omega
    · go_wp2
      go_ret
      have hk' : k = n := by omega
      exact ⟨ret_int (by rw [← HR.out, hk', List.drop_of_length_le (by rw [HL.out]; exact Nat.le_refl _)]; rfl), rfl⟩

set_option maxHeartbeats 400000 in
theorem contains8_any (B : Nat) (A : Option Addr) (n c : Nat) (ds : List Int) (x : Int) (w : World) (h : Reads w B A n (ds.map (Value.int .i8))) (hn : n ≤ maxLen) :
    Calls Try.prog 40 #[.slice A n c, .int .i8 x] w fun e w' => e = .returned (.bool (Pl.has x ds)) ∧ w = w' := by
  have HH := Lib.hid h
  clear h
  go_enter Try.func40, Try.ntmps40
  go_wp2_with fail
  refine (index8_any B A n c ds x _ HH.out hn).mono ?_
  rintro e w' ⟨rfl, rfl⟩
  go_wp2_with fail
  go_ret
  exact ⟨ret_bool rfl, rfl⟩

set_option maxHeartbeats 1000000 in
theorem mayT_any (A D : Option Addr) (n c m d : Nat) (t : Pl.Ten) (w : World) (h : TenAt w w.heap.size A n D m t) :
    Calls Try.prog 25 #[.agg #[.slice A n c, .int .i64 t.exp, .slice D m d]] w fun e w' => e = .returned (.bool (Pl.mayT t)) ∧ Below w.heap.size w w' := by
  have hl : t.data.length = m := by simpa using h.data.1
  have hm := h.hm
  have hn := h.hn
  have HN := Lib.hid hn
  have HM := Lib.hid hm
  have HD := Lib.hid (fun o k => ((h.dims.alloc (Nat.le_refl _) o).drewN k))
  have HE := Lib.hid (fun o k => ((h.data.alloc (Nat.le_refl _) o).drewN k))
  have HL := Lib.hid hl
  clear hl h hn
  unfold maxLen at hm
  have hsz := Pl.size_bd t.dims
  by_cases h1 : Pl.size t.dims ≤ 0
  · have HF := Lib.hid (Pl.mayT_size t h1)
    have hd1 : decide (0 < Pl.size t.dims) = false := by simp; omega
    go_enter Try.func25, Try.ntmps25
    go_wp2_with fail
    go_quiet ((first
      | (go_at_call 37; exact quiet_left (shapeMay_any _ A n c t.dims _ (HD.out _ _) HN.out))
      | (go_at_call 38; exact quiet_left (size_any _ A n c t.dims _ (HD.out _ _) HN.out))
      | (go_at_call 39; exact quiet_left (exp_any t.exp 64 _ (by omega) (by omega)))
      | (go_at_call 40; exact quiet_left (contains8_any _ D m d t.data (-128) _ (HE.out _ _) HM.out))))
    go_wp2_with fail
    go_ret
    exact ⟨ret_bool HF.out.symm, below_drewN ((Below.refl _ _).alloc (Nat.le_refl _) _) _⟩
  have hd1 : decide (0 < Pl.size t.dims) = true := by simp; omega
  by_cases h2 : (m : Int) = Pl.size t.dims
  rotate_left
  · have HF := Lib.hid (Pl.mayT_len t (by rw [HL.out]; exact h2))
    have hd2 : ((m : Int) == Pl.size t.dims) = false := by simp [h2]
    clear h2
    go_enter Try.func25, Try.ntmps25
    go_wp2_with fail
    go_quiet ((first
      | (go_at_call 37; exact quiet_left (shapeMay_any _ A n c t.dims _ (HD.out _ _) HN.out))
      | (go_at_call 38; exact quiet_left (size_any _ A n c t.dims _ (HD.out _ _) HN.out))
      | (go_at_call 39; exact quiet_left (exp_any t.exp 64 _ (by omega) (by omega)))
      | (go_at_call 40; exact quiet_left (contains8_any _ D m d t.data (-128) _ (HE.out _ _) HM.out))))
    go_wp2_with fail
    go_ret
    exact ⟨ret_bool HF.out.symm, below_drewN ((Below.refl _ _).alloc (Nat.le_refl _) _) _⟩
  have hd2 : ((m : Int) == Pl.size t.dims) = true := by simp [h2]
  have H2 := Lib.hid h2
  clear h2
  by_cases h3 : Pl.expOk t.exp 64 = false
  · have HF := Lib.hid (Pl.mayT_exp t h3)
    go_enter Try.func25, Try.ntmps25
    go_wp2_with fail
    go_quiet ((first
      | (go_at_call 37; exact quiet_left (shapeMay_any _ A n c t.dims _ (HD.out _ _) HN.out))
      | (go_at_call 38; exact quiet_left (size_any _ A n c t.dims _ (HD.out _ _) HN.out))
      | (go_at_call 39; exact quiet_left (exp_any t.exp 64 _ (by omega) (by omega)))
      | (go_at_call 40; exact quiet_left (contains8_any _ D m d t.data (-128) _ (HE.out _ _) HM.out))))
    go_wp2_with fail
    go_ret
    exact ⟨ret_bool HF.out.symm, below_drewN ((Below.refl _ _).alloc (Nat.le_refl _) _) _⟩
  have h4 : Pl.expOk t.exp 64 = true := by simpa using h3
  clear h3
  have HF := Lib.hid (Pl.mayT_has t (by omega) (by rw [HL.out]; exact H2.out) h4)
  go_enter Try.func25, Try.ntmps25
  go_wp2_with fail
  go_quiet ((first
    | (go_at_call 37; exact quiet_left (shapeMay_any _ A n c t.dims _ (HD.out _ _) HN.out))
    | (go_at_call 38; exact quiet_left (size_any _ A n c t.dims _ (HD.out _ _) HN.out))
    | (go_at_call 39; exact quiet_left (exp_any t.exp 64 _ (by omega) (by omega)))
    | (go_at_call 40; exact quiet_left (contains8_any _ D m d t.data (-128) _ (HE.out _ _) HM.out))))
  go_wp2_with fail
  go_ret
  exact ⟨ret_bool HF.out.symm, below_drewN ((Below.refl _ _).alloc (Nat.le_refl _) _) _⟩

end Go.Proofs.Ytanjlcjpcenejaa
