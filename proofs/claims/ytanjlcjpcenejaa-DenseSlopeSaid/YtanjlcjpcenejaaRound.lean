/- Walks of package round. -/
import Derived.Test.YtanjlcjpcenejaaWord
import Derived.Test.YtanjlcjpcenejaaPlain
namespace Go.Proofs.Ytanjlcjpcenejaa
open Go.RowKit

set_option maxHeartbeats 400000 in
theorem between64_any (v a b : Int) (w : World) :
    Calls Try.prog 43 #[.int .i64 v, .int .i64 a, .int .i64 b] w fun e w' => e = .returned (.int .i64 (Pl.between v a b)) ∧ w = w' := by
  go_enter Try.func43, Try.ntmps43
  go_wp2
  all_goals
    go_ret
    exact ⟨ret_int (by unfold Pl.between; omega), rfl⟩

set_option maxHeartbeats 400000 in
theorem between_any (v a b : Int) (w : World) :
    Calls Try.prog 42 #[.int .i64 v, .int .i64 a, .int .i64 b] w fun e w' => e = .returned (.int .i64 (Pl.between v a b)) ∧ w = w' := by
  go_enter Try.func42, Try.ntmps42
  go_wp2
  all_goals
    go_ret
    exact ⟨ret_int (by unfold Pl.between; omega), rfl⟩

set_option maxHeartbeats 400000 in
theorem value_any (v : Int) (w : World) :
    Calls Try.prog 41 #[.int .i64 v] w fun e w' => e = .returned (.int .i64 (Pl.value v)) ∧ w = w' := by
  go_enter Try.func41, Try.ntmps41
  go_wp2_with (go_at_call 43; refine (between64_any _ _ _ _).mono ?_; rintro e w' ⟨rfl, rfl⟩)
  go_ret
  exact ⟨ret_int rfl, rfl⟩

set_option maxHeartbeats 400000 in
theorem align_any (v a b : Int) (w : World) :
    Calls Try.prog 29 #[.int .i64 v, .int .i64 a, .int .i64 b] w fun e w' => e = .returned (.int .i64 (Pl.align v a b)) ∧ w = w' := by
  have ha := Pl.between_lo a (-1000) 1000
  have ha' := Pl.between_hi a (-1000) 1000 (by omega)
  have hb := Pl.between_lo b (-1000) 1000
  have hb' := Pl.between_hi b (-1000) 1000 (by omega)
  go_enter Try.func29, Try.ntmps29
  go_wp2_with fail
  refine (value_any _ _).mono ?_; rintro e w' ⟨rfl, rfl⟩
  go_wp2_with fail
  refine (between_any _ _ _ _).mono ?_; rintro e w' ⟨rfl, rfl⟩
  go_wp2_with fail
  refine (between_any _ _ _ _).mono ?_; rintro e w' ⟨rfl, rfl⟩
  generalize ex : Pl.between a (-1000) 1000 = x at *
  generalize ey : Pl.between b (-1000) 1000 = y at *
  have hx := Lib.hid ex
  have hy := Lib.hid ey
  clear ex ey
  have hfin : Pl.align v a b = Pl.alignBy (Pl.value v) (x - y) := by unfold Pl.align; rw [hx.out, hy.out]
  have HF := Lib.hid hfin
  clear hfin
  go_wp2_with fail
  case inl => go_ret; exact ⟨ret_int (by rw [HF.out]; unfold Pl.alignBy; rw [if_pos (by assumption), if_pos (by assumption)]), rfl⟩
  case inr => go_ret; exact ⟨ret_int (by rw [HF.out]; unfold Pl.alignBy; rw [if_pos (by assumption), if_neg (by omega)]), rfl⟩
  · go_ret; exact ⟨ret_int (by rw [HF.out]; unfold Pl.alignBy; rw [if_neg (by omega), if_pos (by assumption), if_pos (by assumption)]), rfl⟩
  · go_ret; exact ⟨ret_int (by rw [HF.out]; unfold Pl.alignBy; rw [if_neg (by omega), if_pos (by assumption), if_neg (by omega), if_pos (by assumption)]), rfl⟩
  · go_ret; exact ⟨ret_int (by rw [HF.out]; unfold Pl.alignBy; rw [if_neg (by omega), if_pos (by assumption), if_neg (by omega), if_neg (by omega)]), rfl⟩
  · refine (between64_any _ _ _ _).mono ?_; rintro e w' ⟨rfl, rfl⟩
    go_wp2_with fail
    refine (between64_any _ _ _ _).mono ?_; rintro e w' ⟨rfl, rfl⟩
    go_wp2_with fail
    go_ret
    have hs := Pl.align_shl (Pl.value v) (x - y) (by omega)
    exact ⟨ret_int (by rw [HF.out]; unfold Pl.alignBy; rw [if_neg (by omega), if_neg (by omega), IntWalk.wrap64_in _ ⟨by omega, by omega⟩]), rfl⟩

end Go.Proofs.Ytanjlcjpcenejaa
