/- Small things that the walks of the statements share. -/
import Derived.Test.YtanjlcjpcenejaaFwdOk
namespace Go.Proofs.Ytanjlcjpcenejaa
open Go.RowKit

theorem mod_arg0 (x q : Int) (h1 : 1 ≤ q) (h2 : q ≤ 1000) : ∃ k : Nat, (k : Int) < q ∧ wrap64 ((IntKind.u64.wrap x).tmod q) = k := by
  rw [IntKind.wrap_u64]
  generalize hy : x % 18446744073709551616 = y
  have h0 : 0 ≤ y := by omega
  clear hy
  rw [Int.tmod_eq_emod_of_nonneg h0]
  have b1 := Int.emod_nonneg y (show q ≠ 0 by omega)
  have b2 := Int.emod_lt_of_pos y (show 0 < q by omega)
  generalize y % q = z at *
  rw [IntWalk.wrap64_in z ⟨by omega, by omega⟩]
  exact ⟨z.toNat, by omega, by omega⟩
theorem tmod_bd (x q : Int) (hq : 0 < q) : -q < x.tmod q ∧ x.tmod q < q := by
  rcases Int.le_total 0 x with h | h
  · rw [Int.tmod_eq_emod_of_nonneg h]
    have b1 := Int.emod_nonneg x (show q ≠ 0 by omega)
    have b2 := Int.emod_lt_of_pos x hq
    omega
  · have e : x.tmod q = -((-x).tmod q) := by rw [Int.neg_tmod, Int.neg_neg]
    rw [e, Int.tmod_eq_emod_of_nonneg (by omega)]
    have b1 := Int.emod_nonneg (-x) (show q ≠ 0 by omega)
    have b2 := Int.emod_lt_of_pos (-x) hq
    omega
theorem wrap8_in (n : Int) (h : -128 ≤ n) (k : n ≤ 127) : IntKind.i8.wrap n = n := by
  simp only [IntKind.wrap, IntKind.bits, IntKind.signed]
  simp
  omega
theorem Pl.fwdErr_big (x u b : Pl.Ten) (r n c : Nat) (hx : x.dims = [(r : Int), n]) (hu : u.dims = [(c : Int), n]) (hb : b.dims = [(c : Int)]) (mx : Pl.mayT x = true) (mu : Pl.mayT u = true) (mb : Pl.mayT b = true)
    (hn : 959 < n) : Pl.fwdErr x u b = 3 := by
  have h1 : Pl.mayErr 2 [x, u] = 0 := by
    unfold Pl.mayErr
    simp [Pl.allMay, Pl.allLen, mx, mu, hx, hu]
  unfold Pl.fwdErr
  rw [if_neg (by simp [mb]), if_neg (by rw [h1]; simp), if_neg (by simp [hx, hu, hb])]
  simp only [hx, hu, List.getD_cons_zero, List.getD_cons_succ]
  have hf : Pl.fits n = false := by unfold Pl.fits; simp; omega
  unfold Pl.madeErr
  rw [if_pos (.inl hf)]

/-- A tensor's value over blocks of one's own, whatever the capacities. -/
theorem TV.own_at {w W : World} {l : List (Nat × Obj)} (h : Fr w W l) {a g n m c d : Nat} {t : Pl.Ten} (ha : (a, dimsObj t) ∈ l) (hg : (g, dataObj t) ∈ l) (hn : t.dims.length = n) (hm : t.data.length = m) (h1 : n ≤ 100) (h2 : m ≤ 100000) :
    (⟨some ⟨a, 0, none⟩, n, c, t.exp, some ⟨g, 0, none⟩, m, d⟩ : TV).At W W.heap.size t := by
  subst hn
  subst hm
  exact ⟨rfl, (h.ten ha hg h1 h2).2⟩

end Go.Proofs.Ytanjlcjpcenejaa
