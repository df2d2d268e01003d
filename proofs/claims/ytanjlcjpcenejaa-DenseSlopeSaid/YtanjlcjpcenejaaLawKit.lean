/- Small things that the walks of the statements share. -/
import Derived.Test.YtanjlcjpcenejaaFwdOk
namespace Go.Proofs.Ytanjlcjpcenejaa
open Go.RowKit

theorem mod_arg0 (x q : Int) (h1 : 1 ≤ q) (h2 : q ≤ 1000) : ∃ k : Nat, (k : Int) < q ∧ wrap64 ((IntKind.u64.wrap x).tmod q) = k := by
  rw [IntKind.wrap_u64]
  generalize hy : x % 18446744073709551616 = y
  have h0 : 0 ≤ y := by omega
  clear hy
  rw [Int.tmod_eq_emod_of_nonneg h0]
  have b1 := Int.emod_nonneg y (show q ≠ 0 by omega)
  have b2 := Int.emod_lt_of_pos y (show 0 < q by omega)
  generalize y % q = z at *
  rw [IntWalk.wrap64_in z ⟨by omega, by omega⟩]
  exact ⟨z.toNat, by omega, by omega⟩
theorem tmod_bd (x q : Int) (hq : 0 < q) : -q < x.tmod q ∧ x.tmod q < q := by
  rcases Int.le_total 0 x with h | h
  · rw [Int.tmod_eq_emod_of_nonneg h]
    have b1 := Int.emod_nonneg x (show q ≠ 0 by omega)
    have b2 := Int.emod_lt_of_pos x hq
    omega
  · have e : x.tmod q = -((-x).tmod q) := by rw [Int.neg_tmod, Int.neg_neg]
    rw [e, Int.tmod_eq_emod_of_nonneg (by omega)]
    have b1 := Int.emod_nonneg (-x) (show q ≠ 0 by omega)
    have b2 := Int.emod_lt_of_pos (-x) hq
    omega
theorem wrap8_in (n : Int) (h : -128 ≤ n) (k : n ≤ 127) : IntKind.i8.wrap n = n := by
  simp only [IntKind.wrap, IntKind.bits, IntKind.signed]
  simp
  omega
theorem Pl.fwdErr_big (x u b : Pl.Ten) (r n c : Nat) (hx : x.dims = [(r : Int), n]) (hu : u.dims = [(c : Int), n]) (hb : b.dims = [(c : Int)]) (mx : Pl.mayT x = true) (mu : Pl.mayT u = true) (mb : Pl.mayT b = true)
    (hn : 959 < n) : Pl.fwdErr x u b = 3 := by
  have h1 : Pl.mayErr 2 [x, u] = 0 := by
    unfold Pl.mayErr
    simp [Pl.allMay, Pl.allLen, mx, mu, hx, hu]
  unfold Pl.fwdErr
  rw [if_neg (by simp [mb]), if_neg (by rw [h1]; simp), if_neg (by simp [hx, hu, hb])]
  simp only [hx, hu, List.getD_cons_zero, List.getD_cons_succ]
  have hf : Pl.fits n = false := by unfold Pl.fits; simp; omega
  unfold Pl.madeErr
  rw [if_pos (.inl hf)]

theorem Fr.alloc4 {w W : World} {l : List (Nat × Obj)} (h : Fr w W l) (o1 o2 o3 o4 : Obj) : Fr w ((((W.alloc o1).alloc o2).alloc o3).alloc o4) ((W.heap.size + 1 + 1 + 1, o4) :: (W.heap.size + 1 + 1, o3) :: (W.heap.size + 1, o2) :: (W.heap.size, o1) :: l) := by simpa using (((h.alloc o1).alloc o2).alloc o3).alloc o4
/-- A number of a tensor of one's own, as a cell. -/
theorem Fr.num {w W : World} {l : List (Nat × Obj)} (h : Fr w W l) {g : Nat} {t : Pl.Ten} (hg : (g, dataObj t) ∈ l) (j : Nat) (hj : j < t.data.length) :
    W.cell? ⟨g, j, none⟩ = some (.int .i8 (t.data.getD j 0)) ∧ W.frozen? ⟨g, j, none⟩ = false := by
  refine ⟨?_, blk_frozen (h.at_ g _ hg) j⟩
  rw [blk_cell (h.at_ g _ hg) j]
  simp [List.getD_eq_getElem?_getD, List.getElem?_eq_getElem hj]
theorem idx_arg (x : Int) (N : Nat) (h1 : 1 ≤ N) (h2 : N ≤ 1000) : ∃ k : Nat, k < N ∧ wrap64 ((IntKind.u64.wrap x).tmod (N : Int)) = k := by
  obtain ⟨k, hk, e⟩ := mod_arg0 x N (by omega) (by omega)
  exact ⟨k, by omega, e⟩
theorem Reads.cell {W : World} {B g n : Nat} {xs : List Value} (h : Reads W B (some ⟨g, 0, none⟩) n xs) (j : Nat) (u : Value) (hu : xs[j]? = some u) : W.cell? ⟨g, j, none⟩ = some u := by
  have hn : 0 < n := by have := h.1; have := (List.getElem?_eq_some_iff.1 hu).1; omega
  obtain ⟨ad, e, _, hc⟩ := h.2 hn
  injection e with e
  subst e
  have := hc j u hu
  have hadd : (⟨g, 0, none⟩ : Addr).add j = ⟨g, j, none⟩ := by unfold Addr.add; split <;> simp_all
  rwa [hadd] at this
theorem Pl.mul_sbd (a b A B : Int) (h1 : -A ≤ a) (h2 : a ≤ A) (h3 : -B ≤ b) (h4 : b ≤ B) (hA : 0 ≤ A := by omega) : -(A * B) ≤ a * b ∧ a * b ≤ A * B := by
  rcases Int.le_total 0 b with hb | hb
  · exact Pl.mul_bd a b A B h1 h2 hb h4 hA
  · have := Pl.mul_bd a (-b) A B h1 h2 (by omega) (by omega) hA
    rw [Int.mul_neg] at this
    omega
theorem Reads.step {W W' : World} {A : Option Addr} {n : Nat} {xs : List Value} (h : Reads W W.heap.size A n xs) (o : Obj) (hb : Below (W.alloc o).heap.size (W.alloc o) W') : Reads W' W'.heap.size A n xs :=
  ((h.alloc (Nat.le_refl _) o).below (hb.mono (by simp))).more (by have := hb.size; simp at this; omega)
/-- One number of a tensor is one more. -/
def Pl.bumpT (t : Pl.Ten) (i : Nat) : Pl.Ten := ⟨t.dims, t.exp, t.data.set i (t.data.getD i 0 + 1)⟩
theorem data_bump (t : Pl.Ten) (i : Nat) : dataObj (Pl.bumpT t i) = .cells ((t.data.map (Value.int .i8)).toArray.setIfInBounds i (.int .i8 (t.data.getD i 0 + 1))) 37 := by
  simp [dataObj, Pl.bumpT, List.map_set]
theorem Pl.bumpT_mem (t : Pl.Ten) (i : Nat) (y : Int) (hy : y ∈ (Pl.bumpT t i).data) : y ∈ t.data ∨ y = t.data.getD i 0 + 1 := by
  have := List.mem_or_eq_of_mem_set hy
  exact this
theorem Pl.bumpT_all8 (t : Pl.Ten) (i : Nat) (h : Pl.All8 t.data) (hi : t.data.getD i 0 ≤ 126) : Pl.All8 (Pl.bumpT t i).data := by
  intro y hy
  have := h.at_ i
  rcases Pl.bumpT_mem t i y hy with h1 | h1
  · exact h y h1
  · omega
theorem Pl.bumpT_no (t : Pl.Ten) (i : Nat) (h : Pl.All8 t.data) (hn : Pl.has (-128) t.data = false) : Pl.has (-128) (Pl.bumpT t i).data = false := by
  rw [Pl.has_not] at hn ⊢
  intro hy
  have := h.at_ i
  rcases Pl.bumpT_mem t i _ hy with h1 | h1
  · exact hn h1
  · omega
theorem Pl.bumpM_may (l : List Int) (n k i : Nat) (h : ∀ x ∈ l, (Lit.int .i8 x).wf = true) (hn : 1 ≤ n ∧ n ≤ 4096) (hk : 1 ≤ k ∧ k ≤ 4096) (hnk : n * k ≤ 8192) : Pl.mayT (Pl.bumpT (Pl.matrix l n k) i) = true :=
  Pl.may2 n k 0 _ hnk hn hk (by omega) (by rw [List.length_set]; exact Pl.matrix_dl l n k) (Pl.bumpT_no _ i (Pl.matrix_all8 l n k h) (Pl.matData_no l (n * k) h))
/-- A tensor's value over blocks of one's own, whatever the capacities. -/
theorem TV.own_at {w W : World} {l : List (Nat × Obj)} (h : Fr w W l) {a g n m c d : Nat} {t : Pl.Ten} (ha : (a, dimsObj t) ∈ l) (hg : (g, dataObj t) ∈ l) (hn : t.dims.length = n) (hm : t.data.length = m) (h1 : n ≤ 100) (h2 : m ≤ 100000) :
    (⟨some ⟨a, 0, none⟩, n, c, t.exp, some ⟨g, 0, none⟩, m, d⟩ : TV).At W W.heap.size t := by
  subst hn
  subst hm
  exact ⟨rfl, (h.ten ha hg h1 h2).2⟩

end Go.Proofs.Ytanjlcjpcenejaa
