/- dense.Forward where nothing is refused; the numbers of the statements' tensors. -/
import Derived.Test.YtanjlcjpcenejaaDenseFwd
import Derived.Test.YtanjlcjpcenejaaVector
import Derived.OpenShut
namespace Go.Proofs.Ytanjlcjpcenejaa
open Go.RowKit

theorem Pl.fwdAt_bd (n : Nat) (exp : Int) (x u b : List Int) (be : Int) (r o : Nat) (hx : Pl.All8 x) (hu : Pl.All8 u) (hb : Pl.All8 b) (hn : n ≤ 959) :
    -16777216 < Pl.fwdAt n exp x u b be r o ∧ Pl.fwdAt n exp x u b be r o < 16777216 := by
  have h1 := Pl.align_bd (b.getD o 0) be exp (hb.at_ o)
  have h2 := Pl.sumTo_bd (Pl.fwdG n x u r o) 16384 n (fun i _ => Pl.mul8 _ _ (hx.at_ _) (hu.at_ _))
  unfold Pl.fwdAt
  omega

theorem Pl.fwdErr_ok (x u b : Pl.Ten) (r n c : Nat) (hx : x.dims = [(r : Int), n]) (hu : u.dims = [(c : Int), n]) (hb : b.dims = [(c : Int)]) (mx : Pl.mayT x = true) (mu : Pl.mayT u = true) (mb : Pl.mayT b = true)
    (hn : n ≤ 959) (hrc : r * c ≤ 8192) (hr : 1 ≤ r ∧ r ≤ 4096) (hc : 1 ≤ c ∧ c ≤ 4096) : Pl.fwdErr x u b = 0 := by
  have h1 : Pl.mayErr 2 [x, u] = 0 := by
    unfold Pl.mayErr
    simp [Pl.allMay, Pl.allLen, mx, mu, hx, hu]
  obtain ⟨_, _, ex1, ex2, _⟩ := Pl.mayT_parts x mx
  obtain ⟨_, _, eu1, eu2, _⟩ := Pl.mayT_parts u mu
  unfold Pl.fwdErr
  rw [if_neg (by simp [mb]), if_neg (by rw [h1]; simp), if_neg (by simp [hx, hu, hb])]
  simp only [hx, hu, List.getD_cons_zero, List.getD_cons_succ]
  have hf : Pl.fits n = true := by unfold Pl.fits; simp; omega
  have hs : Pl.size [(r : Int), c] = r * c := by
    have e : Pl.size [(r : Int), c] = if (r : Int) < 1 ∨ 4096 < (r : Int) ∨ 8192 < 1 * (r : Int) then 0 else if (c : Int) < 1 ∨ 4096 < (c : Int) ∨ 8192 < 1 * (r : Int) * c then 0 else 1 * (r : Int) * c := rfl
    have hrc' : (r : Int) * c ≤ 8192 := by rw [← Int.natCast_mul]; omega
    rw [e, if_neg (by omega), Int.one_mul, if_neg (by omega)]
  have hp : (0 : Int) < (r : Int) * c := Int.mul_pos (by omega) (by omega)
  unfold Pl.madeErr
  rw [if_neg (by simp [hf]; omega), if_neg (by rw [hs]; omega)]

/-- What Forward leaves where nothing is refused. -/
def FwdOk (w : World) (N : Nat) (exp : Int) (f : Nat → Int) (e : Ending) (w' : World) : Prop :=
  Below w.heap.size w w' ∧ ∃ a g c d : Nat, w.heap.size ≤ g ∧ e = .returned (.tuple #[.agg #[.slice (some ⟨a, 0, none⟩) 2 c, .int .i64 exp, .slice (some ⟨g, 0, none⟩) N d], .int .i64 0]) ∧
    Reads w' w'.heap.size (some ⟨g, 0, none⟩) N ((List.range N).map fun j => Value.int .i32 (f j))

theorem forward_ok (vx vw vb : TV) (x u b : Pl.Ten) (r n c N : Nat) (f : Nat → Int) (w : World) (hvx : vx.At w w.heap.size x) (hvu : vw.At w w.heap.size u) (hvb : vb.At w w.heap.size b)
    (wx : Pl.All8 x.data) (wu : Pl.All8 u.data) (wb : Pl.All8 b.data)
    (hx : x.dims = [(r : Int), n]) (hu : u.dims = [(c : Int), n]) (hb : b.dims = [(c : Int)]) (mx : Pl.mayT x = true) (mu : Pl.mayT u = true) (mb : Pl.mayT b = true)
    (hn : n ≤ 959) (hrc : r * c ≤ 8192) (hr : 1 ≤ r ∧ r ≤ 4096) (hc : 1 ≤ c ∧ c ≤ 4096) (hN : r * c = N)
    (E : Int) (hE : x.exp + u.exp = E) (hf : ∀ j, j < N → f j = Pl.fwdAt n E x.data u.data b.data b.exp (j / c) (j % c)) :
    Calls Try.prog 12 #[vx.val, vw.val, vb.val] w (FwdOk w N E f) := by
  subst hE
  refine (forward_any vx vw vb x u b w hvx hvu hvb wx wu wb).mono ?_
  intro e w' h
  rw [Pl.fwdErr_ok x u b r n c hx hu hb mx mu mb hn hrc hr hc] at h
  obtain ⟨hbel, h⟩ := h
  rcases h with ⟨h, _⟩ | ⟨_, a, g, cc, d, ha, hg, he, hs⟩
  · exact absurd rfl h
  have hlen : (Pl.fwdSums x u b).data.length = N := by
    simp only [Pl.fwdSums, Pl.madeTo_length, hx, hu, List.getD_cons_zero, Int.toNat_natCast]
    exact hN
  have hd := hs.data
  rw [hlen] at hd he
  refine ⟨hbel, a, g, cc, d, hg, he, ?_⟩
  have hv : (Pl.fwdSums x u b).data.map (Value.int .i32) = (List.range N).map fun j => Value.int .i32 (f j) := by
    simp only [Pl.fwdSums, Pl.madeTo, hx, hu, List.getD_cons_zero, List.getD_cons_succ, Int.toNat_natCast, hN, List.map_map]
    apply List.map_congr_left
    intro j hj
    have hj' : j < N := by simpa using hj
    have hb' := Pl.fwdAt_bd n (x.exp + u.exp) x.data u.data b.data b.exp (j / c) (j % c) wx wu wb hn
    simp only [Function.comp]
    rw [Pl.w32_in _ (by omega) (by omega), hf j hj']
  rw [hv] at hd
  exact hd

/-! The statements' tensors. -/
theorem Pl.matAt_bd (l : List Int) (h : ∀ n ∈ l, (Lit.int .i8 n).wf = true) (j : Nat) : -127 ≤ Pl.matAt l j ∧ Pl.matAt l j ≤ 127 := by
  unfold Pl.matAt
  split
  · rename_i hj
    have hm : l.getD j 0 ∈ l := by
      rw [List.getD_eq_getElem?_getD, List.getElem?_eq_getElem hj.1]
      exact List.getElem_mem _
    have hb := bounds_i8 (h _ hm)
    have hw := hj.2
    omega
  · omega
theorem Pl.matData_len (l : List Int) (N : Nat) : (Pl.matData l N).length = N := by simp [Pl.matData]
theorem Pl.matData_at (l : List Int) (N j : Nat) (h : j < N) : (Pl.matData l N).getD j 0 = Pl.matAt l j := by
  simp [Pl.matData, List.getD_eq_getElem?_getD, h]
theorem Pl.matData_all8 (l : List Int) (N : Nat) (h : ∀ n ∈ l, (Lit.int .i8 n).wf = true) : Pl.All8 (Pl.matData l N) := by
  intro y hy
  simp only [Pl.matData, List.mem_map] at hy
  obtain ⟨j, _, rfl⟩ := hy
  have := Pl.matAt_bd l h j
  omega
theorem Pl.matData_no (l : List Int) (N : Nat) (h : ∀ n ∈ l, (Lit.int .i8 n).wf = true) : Pl.has (-128) (Pl.matData l N) = false := by
  rw [Pl.has_not]
  intro hy
  simp only [Pl.matData, List.mem_map] at hy
  obtain ⟨j, _, e⟩ := hy
  have := Pl.matAt_bd l h j
  omega
theorem Pl.size2_eq (r c : Nat) (hrc : r * c ≤ 8192) (hr : 1 ≤ r ∧ r ≤ 4096) (hc : 1 ≤ c ∧ c ≤ 4096) : Pl.size [(r : Int), c] = ((r * c : Nat) : Int) := by
  have e : Pl.size [(r : Int), c] = if (r : Int) < 1 ∨ 4096 < (r : Int) ∨ 8192 < 1 * (r : Int) then 0 else if (c : Int) < 1 ∨ 4096 < (c : Int) ∨ 8192 < 1 * (r : Int) * c then 0 else 1 * (r : Int) * c := rfl
  have hrc' : (r : Int) * c ≤ 8192 := by rw [← Int.natCast_mul]; omega
  rw [e, if_neg (by omega), Int.one_mul, if_neg (by omega), Int.natCast_mul]
theorem Pl.size1_eq (r : Nat) (hr : 1 ≤ r ∧ r ≤ 4096) : Pl.size [(r : Int)] = (r : Int) := by
  have e : Pl.size [(r : Int)] = if (r : Int) < 1 ∨ 4096 < (r : Int) ∨ 8192 < 1 * (r : Int) then 0 else 1 * (r : Int) := rfl
  rw [e, if_neg (by omega), Int.one_mul]
/-- A tensor of two lengths, of one, whose numbers may be, may be. -/
theorem Pl.may2 (r c : Nat) (e : Int) (d : List Int) (hrc : r * c ≤ 8192) (hr : 1 ≤ r ∧ r ≤ 4096) (hc : 1 ≤ c ∧ c ≤ 4096) (he : -64 ≤ e ∧ e ≤ 64) (hl : d.length = r * c) (hd : Pl.has (-128) d = false) : Pl.mayT ⟨[(r : Int), c], e, d⟩ = true := by
  have hs := Pl.size2_eq r c hrc hr hc
  have hp : 0 < r * c := Nat.mul_pos (by omega) (by omega)
  unfold Pl.mayT
  simp only [hs, hl, hd, Pl.expOk]
  simp
  omega
theorem Pl.may1 (r : Nat) (e : Int) (d : List Int) (hr : 1 ≤ r ∧ r ≤ 4096) (he : -64 ≤ e ∧ e ≤ 64) (hl : d.length = r) (hd : Pl.has (-128) d = false) : Pl.mayT ⟨[(r : Int)], e, d⟩ = true := by
  have hs := Pl.size1_eq r hr
  unfold Pl.mayT
  simp only [hs, hl, hd, Pl.expOk]
  simp
  omega

theorem Pl.matrix_dl (l : List Int) (n k : Nat) : (Pl.matrix l n k).data.length = n * k := Pl.matData_len l (n * k)
theorem Pl.vector_dl (l : List Int) (n : Nat) : (Pl.vector l n).data.length = n := Pl.matData_len l n
theorem Pl.matrix_may (l : List Int) (n k : Nat) (h : ∀ x ∈ l, (Lit.int .i8 x).wf = true) (hn : 1 ≤ n ∧ n ≤ 4096) (hk : 1 ≤ k ∧ k ≤ 4096) (hnk : n * k ≤ 8192) (e : Int) (he : -64 ≤ e ∧ e ≤ 64) : Pl.mayT ⟨(Pl.matrix l n k).dims, e, (Pl.matrix l n k).data⟩ = true :=
  Pl.may2 n k e _ hnk hn hk he (Pl.matData_len l (n * k)) (Pl.matData_no l (n * k) h)
theorem Pl.vector_may (l : List Int) (n : Nat) (h : ∀ x ∈ l, (Lit.int .i8 x).wf = true) (hn : 1 ≤ n ∧ n ≤ 4096) : Pl.mayT (Pl.vector l n) = true :=
  Pl.may1 n 0 _ hn (by omega) (Pl.matData_len l n) (Pl.matData_no l n h)
theorem Pl.matrix_all8 (l : List Int) (n k : Nat) (h : ∀ x ∈ l, (Lit.int .i8 x).wf = true) : Pl.All8 (Pl.matrix l n k).data := Pl.matData_all8 l (n * k) h
theorem Pl.vector_all8 (l : List Int) (n : Nat) (h : ∀ x ∈ l, (Lit.int .i8 x).wf = true) : Pl.All8 (Pl.vector l n).data := Pl.matData_all8 l n h
/-- '1 + int(uint64(x) % q)' is a number from 1 to q. -/
theorem mod_arg (x q : Int) (h1 : 1 ≤ q) (h2 : q ≤ 1000) : ∃ k : Nat, 1 ≤ k ∧ (k : Int) ≤ q ∧ wrap64 (1 + wrap64 ((IntKind.u64.wrap x).tmod q)) = k := by
  rw [IntKind.wrap_u64]
  generalize hy : x % 18446744073709551616 = y
  have h0 : 0 ≤ y := by omega
  clear hy
  rw [Int.tmod_eq_emod_of_nonneg h0]
  have b1 := Int.emod_nonneg y (show q ≠ 0 by omega)
  have b2 := Int.emod_lt_of_pos y (show 0 < q by omega)
  generalize y % q = z at *
  rw [IntWalk.wrap64_in z ⟨by omega, by omega⟩, IntWalk.wrap64_in _ ⟨by omega, by omega⟩]
  exact ⟨1 + z.toNat, by omega, by omega, by omega⟩
theorem Pl.align_zero (a b : Int) : Pl.align 0 a b = 0 := by
  unfold Pl.align
  rw [Pl.value_in 0 (by omega) (by omega)]
  unfold Pl.alignBy
  split
  · split <;> simp
  · split
    · simp
    · rw [Pl.between_in 0 _ _ (by omega) (by omega), Int.zero_mul, Pl.between_in 0 _ _ (by omega) (by omega)]

end Go.Proofs.Ytanjlcjpcenejaa
