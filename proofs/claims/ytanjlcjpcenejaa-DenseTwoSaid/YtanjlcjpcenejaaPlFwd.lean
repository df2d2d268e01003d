/- Plain laws of the dense layer: what may be, and its bounds. -/
import Derived.Test.YtanjlcjpcenejaaPlDense2
namespace Go.Proofs.Ytanjlcjpcenejaa
theorem Pl.mayErr_ok (L : Int) (l : List Pl.Ten) (h : Pl.mayErr L l = 0) : Pl.allMay l = true ∧ Pl.allLen L l = true := by
  unfold Pl.mayErr at h
  cases h1 : Pl.allMay l
  · rw [if_pos h1] at h; omega
  · cases h2 : Pl.allLen L l
    · rw [if_neg (by simp [h1]), if_pos h2] at h; omega
    · exact ⟨rfl, rfl⟩
theorem Pl.mayErr_ok2 (L : Int) (x u : Pl.Ten) (h : Pl.mayErr L [x, u] = 0) : Pl.mayT x = true ∧ Pl.mayT u = true ∧ (x.dims.length : Int) = L ∧ (u.dims.length : Int) = L := by
  have h := Pl.mayErr_ok L _ h
  simp [Pl.allMay, Pl.allLen] at h
  exact ⟨h.1.1, h.1.2, h.2.1, h.2.2⟩
theorem Pl.mayErr_ok1 (L : Int) (x : Pl.Ten) (h : Pl.mayErr L [x] = 0) : Pl.mayT x = true ∧ (x.dims.length : Int) = L := by
  have h := Pl.mayErr_ok L _ h
  simp [Pl.allMay, Pl.allLen] at h
  exact ⟨h.1, h.2⟩
theorem Pl.mayT_parts (t : Pl.Ten) (h : Pl.mayT t = true) : 0 < Pl.size t.dims ∧ (t.data.length : Int) = Pl.size t.dims ∧ -64 ≤ t.exp ∧ t.exp ≤ 64 ∧ Pl.has (-128) t.data = false := by
  simp [Pl.mayT, Pl.expOk] at h
  exact ⟨h.1.1.1, h.1.1.2, h.1.2.1, h.1.2.2, h.2⟩
theorem Pl.dims2 (t : Pl.Ten) (h : Pl.mayT t = true) (hl : t.dims.length = 2) :
    1 ≤ t.dims.getD 0 0 ∧ t.dims.getD 0 0 ≤ 4096 ∧ 1 ≤ t.dims.getD 1 0 ∧ t.dims.getD 1 0 ≤ 4096 ∧ t.data.length = (t.dims.getD 0 0).toNat * (t.dims.getD 1 0).toNat ∧ t.data.length ≤ 8192 := by
  obtain ⟨h1, h2, _⟩ := Pl.mayT_parts t h
  match hd : t.dims, hl with
  | [r, c], _ =>
    rw [hd] at h1 h2
    have h3 := Pl.size2 r c h1
    simp only [List.getD_cons_zero, List.getD_cons_succ]
    refine ⟨h3.1, h3.2.1, h3.2.2.1, h3.2.2.2.1, ?_, by omega⟩
    rw [h3.2.2.2.2.2] at h2
    have : ((r.toNat * c.toNat : Nat) : Int) = r * c := by rw [Int.natCast_mul, Int.toNat_of_nonneg (by omega), Int.toNat_of_nonneg (by omega)]
    omega
theorem Pl.dims1 (t : Pl.Ten) (h : Pl.mayT t = true) (hl : t.dims.length = 1) :
    1 ≤ t.dims.getD 0 0 ∧ t.dims.getD 0 0 ≤ 4096 ∧ (t.data.length : Int) = t.dims.getD 0 0 := by
  obtain ⟨h1, h2, _⟩ := Pl.mayT_parts t h
  match hd : t.dims, hl with
  | [r], _ =>
    rw [hd] at h1 h2
    have e : Pl.size [r] = if r < 1 ∨ 4096 < r ∨ 8192 < 1 * r then 0 else 1 * r := rfl
    rw [e] at h1 h2
    simp only [List.getD_cons_zero]
    by_cases hq : r < 1 ∨ 4096 < r ∨ 8192 < 1 * r
    · rw [if_pos hq] at h1; omega
    · rw [if_neg hq] at h1 h2; omega
theorem Pl.madeErr_ok (rows cols n exp : Int) (h : Pl.madeErr rows cols n exp = 0) : Pl.fits n = true ∧ -128 ≤ exp ∧ exp ≤ 128 ∧ 0 < Pl.size [rows, cols] := by
  unfold Pl.madeErr at h
  by_cases h1 : Pl.fits n = false ∨ 128 < exp ∨ exp < -128
  · rw [if_pos h1] at h; omega
  · rw [if_neg h1] at h
    by_cases h2 : Pl.size [rows, cols] ≤ 0
    · rw [if_pos h2] at h; omega
    · refine ⟨?_, by omega, by omega, by omega⟩
      cases hq : Pl.fits n
      · exact absurd (.inl hq) h1
      · rfl
theorem Pl.fits_bd (n : Int) (h : Pl.fits n = true) : 0 ≤ n ∧ n ≤ 959 := by
  unfold Pl.fits at h
  simp only [decide_eq_true_eq] at h
  omega

end Go.Proofs.Ytanjlcjpcenejaa
