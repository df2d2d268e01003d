/- Walks of package shape. -/
import Derived.Test.YtanjlcjpcenejaaWord
import Derived.Test.YtanjlcjpcenejaaPlain
namespace Go.Proofs.Ytanjlcjpcenejaa
open Go.RowKit

theorem Pl.size_short (ds : List Int) (h : ds.length < 1) : Pl.size ds = 0 := by unfold Pl.size; rw [if_pos (.inl h)]
theorem Pl.size_long (ds : List Int) (h : 4 < ds.length) : Pl.size ds = 0 := by unfold Pl.size; rw [if_pos (.inr h)]
theorem Pl.size_mid (ds : List Int) (h : 1 ≤ ds.length) (k : ds.length ≤ 4) : Pl.size ds = Pl.sizeGo ds 1 := by unfold Pl.size; rw [if_neg (by omega)]
theorem Pl.sizeGo_drop (ds : List Int) (k : Nat) (n : Int) (h : k < ds.length) :
    Pl.sizeGo (ds.drop k) n = if ds.getD k 0 < 1 ∨ 4096 < ds.getD k 0 ∨ 8192 < n * ds.getD k 0 then 0 else Pl.sizeGo (ds.drop (k + 1)) (n * ds.getD k 0) := by
  rw [List.drop_eq_getElem_cons h]
  simp only [Pl.sizeGo, List.getD_eq_getElem?_getD, List.getElem?_eq_getElem h, Option.getD_some]

set_option maxHeartbeats 400000 in
theorem size_any (B : Nat) (A : Option Addr) (n c : Nat) (ds : List Int) (w : World) (h : Reads w B A n (ds.map (Value.int .i64))) (hn : n ≤ maxLen) :
    Calls Try.prog 38 #[.slice A n c] w fun e w' => e = .returned (.int .i64 (Pl.size ds)) ∧ w = w' := by
  have hl : ds.length = n := by simpa using h.1
  unfold maxLen at hn
  by_cases h1 : n < 1
  · have hs := Lib.hid (Pl.size_short ds (by omega))
    have hn1 : (n : Int) < 1 := by omega
    go_enter Try.func38, Try.ntmps38
    go_wp2
    go_ret
    exact ⟨ret_int hs.out.symm, rfl⟩
  by_cases h2 : 4 < n
  · have hs := Lib.hid (Pl.size_long ds (by omega))
    have hn1 : ¬ (n : Int) < 1 := by omega
    have hn2 : (4 : Int) < n := by omega
    go_enter Try.func38, Try.ntmps38
    go_wp2
    go_ret
    exact ⟨ret_int hs.out.symm, rfl⟩
  have hs := Lib.hid (Pl.size_mid ds (by omega) (by omega))
  obtain ⟨ad, rfl, _, hc⟩ := h.2 (by omega)
  have hc' : ∀ j, j < n → w.cell? (ad.add j) = some (.int .i64 (ds.getD j 0)) := fun j hj => hc j _ (by simp [List.getElem?_eq_getElem (show j < ds.length by omega)])
  clear hc h
  have HL := Lib.hid hl
  clear hl
  have hn1 : ¬ (n : Int) < 1 := by omega
  have hn2 : ¬ (4 : Int) < n := by omega
  go_enter Try.func38, Try.ntmps38
  go_wp2
  go_loop [3, 16] (fun m i => ∃ k : Nat, ∃ p : Int, k ≤ n ∧ i = .int .i64 k ∧ m = .int .i64 p ∧ 1 ≤ p ∧ p ≤ 8192 ∧ Pl.sizeGo (ds.drop k) p = Pl.size ds) (fun _ i => n - (intOf i).toNat)
  case atStart => exact ⟨0, 1, Nat.zero_le _, rfl, rfl, by omega, by omega, hs.out.symm⟩
  case round =>
    obtain ⟨k, p, hk, rfl, rfl, hp1, hp2, hrec⟩ := hrel
    have HR := Lib.hid hrec
    clear hrec
    by_cases hlt : k < n
    · have hcell := hc' k hlt
      clear hc'
      have HD := Lib.hid (Pl.sizeGo_drop ds k p (by rw [HL.out]; exact hlt))
      generalize ds.getD k 0 = x at *
      by_cases hx1 : x < 1
      · go_wp2
        go_ret
        exact ⟨ret_int (by rw [← HR.out, HD.out, if_pos (.inl hx1)]), rfl⟩
      by_cases hx2 : 4096 < x
      · go_wp2
        go_ret
        exact ⟨ret_int (by rw [← HR.out, HD.out, if_pos (.inr (.inl hx2))]), rfl⟩
      have hm0 : 1 ≤ p * x := by
        have := Int.mul_le_mul hp1 (show 1 ≤ x by omega) (by omega) (by omega)
        omega
      have hm1 : p * x ≤ 8192 * 4096 := Int.mul_le_mul hp2 (by omega) (by omega) (by omega)
      by_cases hx3 : 8192 < p * x
      · go_wp2
        go_ret
        exact ⟨ret_int (by rw [← HR.out, HD.out, if_pos (.inr (.inr hx3))]), rfl⟩
      · go_wp2
        go_round
        case rel => exact ⟨k + 1, p * x, by omega, by go_num, rfl, hm0, by omega, by rw [← HR.out, HD.out, if_neg (by omega)]⟩
        case measure => simp [intOf]; omega
    · go_wp2
      go_ret
      have hk' : k = n := by omega
      exact ⟨ret_int (by rw [← HR.out, hk', List.drop_of_length_le (by rw [HL.out]; exact Nat.le_refl _)]; rfl), rfl⟩

set_option maxHeartbeats 400000 in
theorem shapeMay_any (B : Nat) (A : Option Addr) (n c : Nat) (ds : List Int) (w : World) (h : Reads w B A n (ds.map (Value.int .i64))) (hn : n ≤ maxLen) :
    Calls Try.prog 37 #[.slice A n c] w fun e w' => e = .returned (.bool (decide (0 < Pl.size ds))) ∧ w = w' := by
  have hb := Pl.size_bd ds
  have HH := Lib.hid h
  clear h
  go_enter Try.func37, Try.ntmps37
  go_wp2_with (go_at_call 38; refine (size_any B A n c ds _ HH.out hn).mono ?_; rintro e w' ⟨rfl, rfl⟩)
  go_ret
  exact ⟨rfl, rfl⟩

end Go.Proofs.Ytanjlcjpcenejaa
