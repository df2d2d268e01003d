/- Walks of package dense: the sums. -/
import Derived.Test.YtanjlcjpcenejaaDenseMade
import Derived.Test.YtanjlcjpcenejaaPlDense2
namespace Go.Proofs.Ytanjlcjpcenejaa
open Go.RowKit

set_option maxRecDepth 100000 in
set_option maxHeartbeats 1000000 in
theorem fwd1_any (r o N : Nat) (exp be : Int) (xs ws bs : List Int) (bb bp np xb wb : Nat) (ax aw ab : Addr) (mx dx mw dw mb db : Nat) (w : World)
    (c1 : w.cell? ⟨bb, 2, none⟩ = some (.slice (some ab) mb db)) (c2 : w.cell? ⟨bb, 1, none⟩ = some (.int .i64 be)) (c3 : w.cell? ⟨bp, 0, none⟩ = some (.int .i64 exp)) (c4 : w.cell? ⟨np, 0, none⟩ = some (.int .i64 N))
    (c5 : w.cell? ⟨xb, 2, none⟩ = some (.slice (some ax) mx dx)) (c6 : w.cell? ⟨wb, 2, none⟩ = some (.slice (some aw) mw dw))
    (hx : ∀ j, j < mx → w.cell? (ax.add j) = some (.int .i8 (xs.getD j 0))) (hw : ∀ j, j < mw → w.cell? (aw.add j) = some (.int .i8 (ws.getD j 0))) (hb : ∀ j, j < mb → w.cell? (ab.add j) = some (.int .i8 (bs.getD j 0)))
    (wx : Pl.All8 xs) (ww : Pl.All8 ws) (wbb : Pl.All8 bs) (hrx : r * N + N ≤ mx) (how : o * N + N ≤ mw) (hob : o < mb) (lx : mx ≤ 8192) (lw : mw ≤ 8192) :
    Calls Try.prog 28 #[.int .i64 r, .int .i64 o, .pointer (some ⟨bb, 0, none⟩), .pointer (some ⟨bp, 0, none⟩), .pointer (some ⟨np, 0, none⟩), .pointer (some ⟨xb, 0, none⟩), .pointer (some ⟨wb, 0, none⟩)] w
      fun e w' => e = .returned (.int .i64 (Pl.fwdAt N exp xs ws bs be r o)) ∧ ∃ k, w' = w.drewN k := by
  have hbo := hb o hob
  have hal := Pl.align_bd (bs.getD o 0) be exp (wbb.at_ o)
  have HX := Lib.hid hx
  have HW := Lib.hid hw
  have HS := Lib.hid (fun (k : Nat) (_ : k ≤ N) => Pl.sumTo_bd (Pl.fwdG N xs ws r o) 16384 k (fun i _ => Pl.mul8 _ _ (wx.at_ _) (ww.at_ _)))
  have HF := Lib.hid (show Pl.fwdAt N exp xs ws bs be r o = Pl.align (bs.getD o 0) be exp + Pl.sumTo (Pl.fwdG N xs ws r o) N from rfl)
  have hb0 := wbb.at_ o
  clear hx hw hb
  generalize bs.getD o 0 = b0 at *
  go_enter Try.func28, Try.ntmps28
  go_wp2_with fail
  go_quiet ((first
    | (go_at_call 29; exact quiet_left (align_any _ _ _ _))))
  go_wp2_with fail
  generalize Pl.align b0 be exp = a0 at *
  clear hbo c1 c2 c3
  go_loopw [10, 23] (fun s i wr => ∃ k : Nat, k ≤ N ∧ i = .int .i64 k ∧ s = .int .i64 (a0 + Pl.sumTo (Pl.fwdG N xs ws r o) k) ∧ ∃ q, wr = w.drewN q) (fun _ i _ => N - (intOf i).toNat)
  case atStart => exact ⟨0, Nat.zero_le _, rfl, by simp [Pl.sumTo], _, rfl⟩
  case round =>
    obtain ⟨k, hk, rfl, rfl, q, rfl⟩ := hrel
    have hsk := HS.out k hk
    by_cases hlt : k < N
    · have hcx := HX.out (r * N + k) (by omega)
      have hcw := HW.out (o * N + k) (by omega)
      have hx8 := wx.at_ (r * N + k)
      have hy8 := ww.at_ (o * N + k)
      have hm := Pl.mul8 _ _ (wx.at_ (r * N + k)) (ww.at_ (o * N + k))
      have HG := Lib.hid (show Pl.sumTo (Pl.fwdG N xs ws r o) (k + 1) = Pl.sumTo (Pl.fwdG N xs ws r o) k + xs.getD (r * N + k) 0 * ws.getD (o * N + k) 0 from rfl)
      have b1 : ((r : Int) * N + k) < mx := by exact_mod_cast (show r * N + k < mx by omega)
      have b2 : ((o : Int) * N + k) < mw := by exact_mod_cast (show o * N + k < mw by omega)
      have b3 : 0 ≤ (r : Int) * N := by exact_mod_cast Nat.zero_le _
      have b4 : 0 ≤ (o : Int) * N := by exact_mod_cast Nat.zero_le _
      generalize Pl.sumTo (Pl.fwdG N xs ws r o) k = s at *
      generalize xs.getD (r * N + k) 0 = x at *
      generalize ws.getD (o * N + k) 0 = y at *
      clear HS HF HX HW
      go_wp2_with fail
      go_quiet (fail)
      go_wp2_with fail
      go_roundw
      case rel => exact ⟨k + 1, by omega, by go_num, by rw [HG.out, Int.add_assoc], _, rfl⟩
      case measure => simp [intOf]; omega
    · have hkk : k = N := by omega
      have HK := Lib.hid (show Pl.fwdAt N exp xs ws bs be r o = a0 + Pl.sumTo (Pl.fwdG N xs ws r o) k by rw [hkk]; exact HF.out)
      clear hkk
      go_wp2_with fail
      go_ret
      exact ⟨ret_int HK.out.symm, _, rfl⟩

set_option maxRecDepth 100000 in
set_option maxHeartbeats 1000000 in
theorem in1_any (r i C N : Nat) (xs ws : List Int) (np cp xb wb : Nat) (ax aw : Addr) (mx dx mw dw : Nat) (w : World)
    (c4 : w.cell? ⟨np, 0, none⟩ = some (.int .i64 N)) (c3 : w.cell? ⟨cp, 0, none⟩ = some (.int .i64 C)) (c5 : w.cell? ⟨xb, 2, none⟩ = some (.slice (some ax) mx dx)) (c6 : w.cell? ⟨wb, 2, none⟩ = some (.slice (some aw) mw dw))
    (hx : ∀ j, j < mx → w.cell? (ax.add j) = some (.int .i8 (xs.getD j 0))) (hw : ∀ j, j < mw → w.cell? (aw.add j) = some (.int .i8 (ws.getD j 0)))
    (wx : Pl.All8 xs) (ww : Pl.All8 ws) (hrx : r * N + N ≤ mx) (how : N * C ≤ mw) (hi : i < C) (lx : mx ≤ 8192) (lw : mw ≤ 8192) :
    Calls Try.prog 30 #[.int .i64 r, .int .i64 i, .pointer (some ⟨np, 0, none⟩), .pointer (some ⟨xb, 0, none⟩), .pointer (some ⟨wb, 0, none⟩), .pointer (some ⟨cp, 0, none⟩)] w
      fun e w' => e = .returned (.int .i64 (Pl.inAt N C xs ws r i)) ∧ ∃ k, w' = w.drewN k := by
  have HX := Lib.hid hx
  have HW := Lib.hid hw
  have HS := Lib.hid (fun (k : Nat) (_ : k ≤ N) => Pl.sumTo_bd (Pl.inG N C xs ws r i) 16384 k (fun i _ => Pl.mul8 _ _ (wx.at_ _) (ww.at_ _)))
  have HF := Lib.hid (show Pl.inAt N C xs ws r i = Pl.sumTo (Pl.inG N C xs ws r i) N from rfl)
  clear hx hw
  go_enter Try.func30, Try.ntmps30
  go_wp2_with fail
  go_loopw [9, 12] (fun s ci wr => ∃ k : Nat, k ≤ N ∧ ci = .int .i64 k ∧ s = .int .i64 (Pl.sumTo (Pl.inG N C xs ws r i) k) ∧ ∃ q, wr = w.drewN q) (fun _ i _ => N - (intOf i).toNat)
  case atStart => exact ⟨0, Nat.zero_le _, rfl, rfl, 0, rfl⟩
  case round =>
    obtain ⟨k, hk, rfl, rfl, q, rfl⟩ := hrel
    have hsk := HS.out k hk
    by_cases hlt : k < N
    · have n1 : r * N + k < mx := by omega
      have n2 : k * C + i < mw := Pl.row_lt k N C i mw hlt hi how
      have hcx := HX.out (r * N + k) n1
      have hx8 := wx.at_ (r * N + k)
      have hcw := HW.out (k * C + i) n2
      have hy8 := ww.at_ (k * C + i)
      have hm := Pl.mul8 _ _ hx8 hy8
      have HG := Lib.hid (show Pl.sumTo (Pl.inG N C xs ws r i) (k + 1) = Pl.sumTo (Pl.inG N C xs ws r i) k + xs.getD (r * N + k) 0 * ws.getD (k * C + i) 0 from rfl)
      have b1 : ((r : Int) * N + k) < mx := by exact_mod_cast n1
      have b3 : 0 ≤ (r : Int) * N := by exact_mod_cast Nat.zero_le _
      have b2 : ((k : Int) * C + i) < mw := by exact_mod_cast n2
      have b4 : 0 ≤ (k : Int) * C := by exact_mod_cast Nat.zero_le _
      generalize Pl.sumTo (Pl.inG N C xs ws r i) k = s at *
      generalize xs.getD (r * N + k) 0 = x at *
      generalize ws.getD (k * C + i) 0 = y at *
      clear HS HF HX HW
      go_wp2_with fail
      go_quiet (fail)
      go_wp2_with fail
      go_roundw
      case rel => exact ⟨k + 1, by omega, by go_num, by rw [HG.out], _, rfl⟩
      case measure => simp [intOf]; omega
    · have hkk : k = N := by omega
      have HK := Lib.hid (show Pl.inAt N C xs ws r i = Pl.sumTo (Pl.inG N C xs ws r i) k by rw [hkk]; exact HF.out)
      clear hkk
      go_wp2_with fail
      go_ret
      exact ⟨ret_int HK.out.symm, _, rfl⟩

set_option maxRecDepth 100000 in
set_option maxHeartbeats 1000000 in
theorem wt1_any (o i R C N : Nat) (xs ws : List Int) (np rp cp xb wb : Nat) (ax aw : Addr) (mx dx mw dw : Nat) (w : World)
    (c4 : w.cell? ⟨np, 0, none⟩ = some (.int .i64 N)) (c2 : w.cell? ⟨rp, 0, none⟩ = some (.int .i64 R)) (c3 : w.cell? ⟨cp, 0, none⟩ = some (.int .i64 C)) (c5 : w.cell? ⟨xb, 2, none⟩ = some (.slice (some ax) mx dx)) (c6 : w.cell? ⟨wb, 2, none⟩ = some (.slice (some aw) mw dw))
    (hx : ∀ j, j < mx → w.cell? (ax.add j) = some (.int .i8 (xs.getD j 0))) (hw : ∀ j, j < mw → w.cell? (aw.add j) = some (.int .i8 (ws.getD j 0)))
    (wx : Pl.All8 xs) (ww : Pl.All8 ws) (hrx : N * R ≤ mx) (how : N * C ≤ mw) (ho : o < R) (hi : i < C) (lN : N ≤ 8192) (lx : mx ≤ 8192) (lw : mw ≤ 8192) :
    Calls Try.prog 31 #[.int .i64 o, .int .i64 i, .pointer (some ⟨np, 0, none⟩), .pointer (some ⟨xb, 0, none⟩), .pointer (some ⟨rp, 0, none⟩), .pointer (some ⟨wb, 0, none⟩), .pointer (some ⟨cp, 0, none⟩)] w
      fun e w' => e = .returned (.int .i64 (Pl.wtAt N R C xs ws o i)) ∧ ∃ k, w' = w.drewN k := by
  have HX := Lib.hid hx
  have HW := Lib.hid hw
  have HS := Lib.hid (fun (k : Nat) (_ : k ≤ N) => Pl.sumTo_bd (Pl.wtG R C xs ws o i) 16384 k (fun i _ => Pl.mul8 _ _ (wx.at_ _) (ww.at_ _)))
  have HF := Lib.hid (show Pl.wtAt N R C xs ws o i = Pl.sumTo (Pl.wtG R C xs ws o i) N from rfl)
  clear hx hw
  go_enter Try.func31, Try.ntmps31
  go_wp2_with fail
  go_loopw [10, 13] (fun s ci wr => ∃ k : Nat, k ≤ N ∧ ci = .int .i64 k ∧ s = .int .i64 (Pl.sumTo (Pl.wtG R C xs ws o i) k) ∧ ∃ q, wr = w.drewN q) (fun _ i _ => N - (intOf i).toNat)
  case atStart => exact ⟨0, Nat.zero_le _, rfl, rfl, 0, rfl⟩
  case round =>
    obtain ⟨k, hk, rfl, rfl, q, rfl⟩ := hrel
    have hsk := HS.out k hk
    by_cases hlt : k < N
    · have n1 : k * R + o < mx := Pl.row_lt k N R o mx hlt ho hrx
      have n2 : k * C + i < mw := Pl.row_lt k N C i mw hlt hi how
      have hcx := HX.out (k * R + o) n1
      have hx8 := wx.at_ (k * R + o)
      have hcw := HW.out (k * C + i) n2
      have hy8 := ww.at_ (k * C + i)
      have hm := Pl.mul8 _ _ hx8 hy8
      have HG := Lib.hid (show Pl.sumTo (Pl.wtG R C xs ws o i) (k + 1) = Pl.sumTo (Pl.wtG R C xs ws o i) k + xs.getD (k * R + o) 0 * ws.getD (k * C + i) 0 from rfl)
      have b1 : ((k : Int) * R + o) < mx := by exact_mod_cast n1
      have b3 : 0 ≤ (k : Int) * R := by exact_mod_cast Nat.zero_le _
      have b2 : ((k : Int) * C + i) < mw := by exact_mod_cast n2
      have b4 : 0 ≤ (k : Int) * C := by exact_mod_cast Nat.zero_le _
      generalize Pl.sumTo (Pl.wtG R C xs ws o i) k = s at *
      generalize xs.getD (k * R + o) 0 = x at *
      generalize ws.getD (k * C + i) 0 = y at *
      clear HS HF HX HW
      go_wp2_with fail
      go_quiet (fail)
      go_wp2_with fail
      go_roundw
      case rel => exact ⟨k + 1, by omega, by go_num, by rw [HG.out], _, rfl⟩
      case measure => simp [intOf]; omega
    · have hkk : k = N := by omega
      have HK := Lib.hid (show Pl.wtAt N R C xs ws o i = Pl.sumTo (Pl.wtG R C xs ws o i) k by rw [hkk]; exact HF.out)
      clear hkk
      go_wp2_with fail
      go_ret
      exact ⟨ret_int HK.out.symm, _, rfl⟩

set_option maxRecDepth 100000 in
set_option maxHeartbeats 1000000 in
theorem bs1_any (r o C N : Nat) (xs : List Int) (np cp xb : Nat) (ax : Addr) (mx dx : Nat) (w : World)
    (c4 : w.cell? ⟨np, 0, none⟩ = some (.int .i64 N)) (c3 : w.cell? ⟨cp, 0, none⟩ = some (.int .i64 C)) (c5 : w.cell? ⟨xb, 2, none⟩ = some (.slice (some ax) mx dx))
    (hx : ∀ j, j < mx → w.cell? (ax.add j) = some (.int .i8 (xs.getD j 0)))
    (wx : Pl.All8 xs) (hrx : N * C ≤ mx) (ho : o < C) (lN : N ≤ 8192) (lx : mx ≤ 8192) :
    Calls Try.prog 32 #[.int .i64 r, .int .i64 o, .pointer (some ⟨np, 0, none⟩), .pointer (some ⟨xb, 0, none⟩), .pointer (some ⟨cp, 0, none⟩)] w
      fun e w' => e = .returned (.int .i64 (Pl.bsAt N C xs o)) ∧ ∃ k, w' = w.drewN k := by
  have HX := Lib.hid hx
  have HS := Lib.hid (fun (k : Nat) (_ : k ≤ N) => Pl.sumTo_bd (Pl.bsG C xs o) 16384 k (fun i _ => by have h := wx.at_ (i * C + o); exact ⟨by have := h.1; simp only [Pl.bsG]; omega, by have := h.2; simp only [Pl.bsG]; omega⟩))
  have HF := Lib.hid (show Pl.bsAt N C xs o = Pl.sumTo (Pl.bsG C xs o) N from rfl)
  clear hx
  go_enter Try.func32, Try.ntmps32
  go_wp2_with fail
  go_loopw [8, 11] (fun s ci wr => ∃ k : Nat, k ≤ N ∧ ci = .int .i64 k ∧ s = .int .i64 (Pl.sumTo (Pl.bsG C xs o) k) ∧ ∃ q, wr = w.drewN q) (fun _ i _ => N - (intOf i).toNat)
  case atStart => exact ⟨0, Nat.zero_le _, rfl, rfl, 0, rfl⟩
  case round =>
    obtain ⟨k, hk, rfl, rfl, q, rfl⟩ := hrel
    have hsk := HS.out k hk
    by_cases hlt : k < N
    · have n1 : k * C + o < mx := Pl.row_lt k N C o mx hlt ho hrx
      have hcx := HX.out (k * C + o) n1
      have hx8 := wx.at_ (k * C + o)
      have HG := Lib.hid (show Pl.sumTo (Pl.bsG C xs o) (k + 1) = Pl.sumTo (Pl.bsG C xs o) k + xs.getD (k * C + o) 0 from rfl)
      have b1 : ((k : Int) * C + o) < mx := by exact_mod_cast n1
      have b3 : 0 ≤ (k : Int) * C := by exact_mod_cast Nat.zero_le _
      generalize Pl.sumTo (Pl.bsG C xs o) k = s at *
      generalize xs.getD (k * C + o) 0 = x at *
      clear HS HF HX
      go_wp2_with fail
      go_roundw
      case rel => exact ⟨k + 1, by omega, by go_num, by rw [HG.out], _, rfl⟩
      case measure => simp [intOf]; omega
    · have hkk : k = N := by omega
      have HK := Lib.hid (show Pl.bsAt N C xs o = Pl.sumTo (Pl.bsG C xs o) k by rw [hkk]; exact HF.out)
      clear hkk
      go_wp2_with fail
      go_ret
      exact ⟨ret_int HK.out.symm, _, rfl⟩

end Go.Proofs.Ytanjlcjpcenejaa
