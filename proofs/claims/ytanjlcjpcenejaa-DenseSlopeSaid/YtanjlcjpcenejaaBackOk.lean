/- dense.Input, Weight, Bias where nothing is refused. -/
import Derived.Test.YtanjlcjpcenejaaLawKit
import Derived.Test.YtanjlcjpcenejaaDenseInput
import Derived.Test.YtanjlcjpcenejaaDenseWeight
import Derived.Test.YtanjlcjpcenejaaDenseBias
namespace Go.Proofs.Ytanjlcjpcenejaa
open Go.RowKit

theorem Pl.madeErr_zero (r c n : Nat) (e : Int) (hn : n ≤ 959) (hrc : r * c ≤ 8192) (hr : 1 ≤ r ∧ r ≤ 4096) (hc : 1 ≤ c ∧ c ≤ 4096) (he : -128 ≤ e ∧ e ≤ 128) : Pl.madeErr r c n e = 0 := by
  have hf : Pl.fits n = true := by unfold Pl.fits; simp; omega
  have hs := Pl.size2_eq r c hrc hr hc
  have hp : 0 < r * c := Nat.mul_pos (by omega) (by omega)
  unfold Pl.madeErr
  rw [if_neg (by simp [hf]; omega), if_neg (by rw [hs]; omega)]
theorem Pl.sumTo_bd24 (g : Nat → Int) (n : Nat) (hn : n ≤ 1023) (h : ∀ i, i < n → -16384 ≤ g i ∧ g i ≤ 16384) : -16777216 < Pl.sumTo g n ∧ Pl.sumTo g n < 16777216 := by
  have := Pl.sumTo_bd g 16384 n h
  omega
theorem FwdOk.of {w : World} {err : Int} {s : Pl.Sums} {N : Nat} {E : Int} {f : Nat → Int} {e : Ending} {w' : World} (h : SumsPost w err s e w') (he : err = 0) (hE : s.exp = E) (hd : s.dims.length = 2) (hN : s.data.length = N)
    (hf : s.data = (List.range N).map f) : FwdOk w N E f e w' := by
  obtain ⟨hbel, h⟩ := h
  rcases h with ⟨h, _⟩ | ⟨_, a, g, cc, d, ha, hg, heq, hs⟩
  · exact absurd he h
  rw [hd, hE, hN] at heq
  have hdat := hs.data
  rw [hN, hf, List.map_map] at hdat
  exact ⟨hbel, a, g, cc, d, hg, heq, hdat⟩

theorem din_ok (vx vw : TV) (x u : Pl.Ten) (r n c N : Nat) (f : Nat → Int) (w : World) (hvx : vx.At w w.heap.size x) (hvu : vw.At w w.heap.size u)
    (wx : Pl.All8 x.data) (wu : Pl.All8 u.data)
    (hx : x.dims = [(r : Int), n]) (hu : u.dims = [(n : Int), c]) (mx : Pl.mayT x = true) (mu : Pl.mayT u = true)
    (hn : n ≤ 959) (hrc : r * c ≤ 8192) (hr : 1 ≤ r ∧ r ≤ 4096) (hc : 1 ≤ c ∧ c ≤ 4096) (hN : r * c = N)
    (E : Int) (hE : x.exp + u.exp = E) (hf : ∀ j, j < N → f j = Pl.inAt n c x.data u.data (j / c) (j % c)) :
    Calls Try.prog 15 #[vx.val, vw.val] w (FwdOk w N E f) := by
  subst hE
  refine (din_any vx vw x u w hvx hvu wx wu).mono ?_
  intro e w' h
  obtain ⟨_, _, ex1, ex2, _⟩ := Pl.mayT_parts x mx
  obtain ⟨_, _, eu1, eu2, _⟩ := Pl.mayT_parts u mu
  have h1 : Pl.mayErr 2 [x, u] = 0 := by
    unfold Pl.mayErr
    simp [Pl.allMay, Pl.allLen, mx, mu, hx, hu]
  refine FwdOk.of h ?_ rfl rfl ?_ ?_
  · unfold Pl.dinErr
    rw [if_neg (by rw [h1]; simp), if_neg (by simp [hx, hu])]
    simp only [hx, hu, List.getD_cons_zero, List.getD_cons_succ]
    exact Pl.madeErr_zero r c n _ hn hrc hr hc (by omega)
  · simp only [Pl.dinSums, Pl.madeTo_length, hx, hu, List.getD_cons_zero, List.getD_cons_succ, Int.toNat_natCast]
    exact hN
  · simp only [Pl.dinSums, Pl.madeTo, hx, hu, List.getD_cons_zero, List.getD_cons_succ, Int.toNat_natCast, hN]
    apply List.map_congr_left
    intro j hj
    have hj' : j < N := by simpa using hj
    rw [hf j hj']
    have hb' := Pl.sumTo_bd24 (Pl.inG n c x.data u.data (j / c) (j % c)) n (by omega) (fun i _ => Pl.mul8 _ _ (wx.at_ _) (wu.at_ _))
    exact Pl.w32_in _ (by unfold Pl.inAt; omega) (by unfold Pl.inAt; omega)

theorem dwt_ok (vx vw : TV) (x u : Pl.Ten) (r n c N : Nat) (f : Nat → Int) (w : World) (hvx : vx.At w w.heap.size x) (hvu : vw.At w w.heap.size u)
    (wx : Pl.All8 x.data) (wu : Pl.All8 u.data)
    (hx : x.dims = [(n : Int), r]) (hu : u.dims = [(n : Int), c]) (mx : Pl.mayT x = true) (mu : Pl.mayT u = true)
    (hn : n ≤ 959) (hrc : r * c ≤ 8192) (hr : 1 ≤ r ∧ r ≤ 4096) (hc : 1 ≤ c ∧ c ≤ 4096) (hN : r * c = N)
    (E : Int) (hE : x.exp + u.exp = E) (hf : ∀ j, j < N → f j = Pl.wtAt n r c x.data u.data (j / c) (j % c)) :
    Calls Try.prog 16 #[vx.val, vw.val] w (FwdOk w N E f) := by
  subst hE
  refine (dwt_any vx vw x u w hvx hvu wx wu).mono ?_
  intro e w' h
  obtain ⟨_, _, ex1, ex2, _⟩ := Pl.mayT_parts x mx
  obtain ⟨_, _, eu1, eu2, _⟩ := Pl.mayT_parts u mu
  have h1 : Pl.mayErr 2 [x, u] = 0 := by
    unfold Pl.mayErr
    simp [Pl.allMay, Pl.allLen, mx, mu, hx, hu]
  refine FwdOk.of h ?_ rfl rfl ?_ ?_
  · unfold Pl.dwtErr
    rw [if_neg (by rw [h1]; simp), if_neg (by simp [hx, hu])]
    simp only [hx, hu, List.getD_cons_zero, List.getD_cons_succ]
    exact Pl.madeErr_zero r c n _ hn hrc hr hc (by omega)
  · simp only [Pl.dwtSums, Pl.madeTo_length, hx, hu, List.getD_cons_zero, List.getD_cons_succ, Int.toNat_natCast]
    exact hN
  · simp only [Pl.dwtSums, Pl.madeTo, hx, hu, List.getD_cons_zero, List.getD_cons_succ, Int.toNat_natCast, hN]
    apply List.map_congr_left
    intro j hj
    have hj' : j < N := by simpa using hj
    rw [hf j hj']
    have hb' := Pl.sumTo_bd24 (Pl.wtG r c x.data u.data (j / c) (j % c)) n (by omega) (fun i _ => Pl.mul8 _ _ (wx.at_ _) (wu.at_ _))
    exact Pl.w32_in _ (by unfold Pl.wtAt; omega) (by unfold Pl.wtAt; omega)

end Go.Proofs.Ytanjlcjpcenejaa
