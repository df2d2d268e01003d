/- Plain laws of the statements' tensors of the dense layer. -/
import Derived.Test.YtanjlcjpcenejaaPlFwd
import Derived.Test.YtanjlcjpcenejaaOwn
namespace Go.Proofs.Ytanjlcjpcenejaa
open Go.Mach
/-- matrix's numbers. -/
def Pl.matAt (l : List Int) (j : Nat) : Int := if j < l.length ∧ l.getD j 0 ≠ -128 then l.getD j 0 else 0
def Pl.matData (l : List Int) (N : Nat) : List Int := (List.range N).map (Pl.matAt l)
def Pl.matL (l : List Int) (N i : Nat) : List Int := (List.range N).map fun j => if j < i then Pl.matAt l j else 0
theorem Pl.matL_length (l : List Int) (N i : Nat) : (Pl.matL l N i).length = N := by simp [Pl.matL]
theorem Pl.matData_length (l : List Int) (N : Nat) : (Pl.matData l N).length = N := by simp [Pl.matData]
theorem Pl.matL_zero (l : List Int) (N : Nat) : Pl.matL l N 0 = List.replicate N 0 := by
  apply List.ext_getElem
  · simp [Pl.matL]
  · intro i h1 h2; simp [Pl.matL]
theorem Pl.matL_end (l : List Int) (N : Nat) : Pl.matL l N N = Pl.matData l N := by
  unfold Pl.matL Pl.matData
  apply List.map_congr_left
  intro j hj
  rw [if_pos (List.mem_range.1 hj)]
theorem Pl.matL_set (l : List Int) (N i : Nat) (_h : i < N) : (Pl.matL l N i).set i (Pl.matAt l i) = Pl.matL l N (i + 1) := by
  apply List.ext_getElem
  · simp [Pl.matL]
  · intro j h1 h2
    rw [List.getElem_set]
    simp only [Pl.matL, List.getElem_map, List.getElem_range]
    by_cases e : i = j
    · subst e; simp
    · rw [if_neg e]
      by_cases hj : j < i
      · rw [if_pos hj, if_pos (by omega)]
      · rw [if_neg hj, if_neg (by omega)]
theorem Pl.matL_keep (l : List Int) (N i : Nat) (h : Pl.matAt l i = 0) : Pl.matL l N (i + 1) = Pl.matL l N i := by
  apply List.ext_getElem
  · simp [Pl.matL]
  · intro j h1 h2
    simp only [Pl.matL, List.getElem_map, List.getElem_range]
    by_cases hj : j < i
    · rw [if_pos hj, if_pos (by omega)]
    · by_cases e : i = j
      · subst e; rw [h]; simp
      · rw [if_neg (by omega), if_neg hj]
theorem Pl.matAt_on {l : List Int} {i : Nat} (h : (i : Int) < ((l.length : Nat) : Int) ∧ ¬ l.getD i 0 = -128) : Pl.matAt l i = l.getD i 0 := by
  unfold Pl.matAt; rw [if_pos ⟨by omega, h.2⟩]
theorem Pl.matAt_off {l : List Int} {i : Nat} (h : ¬ (i : Int) < ((l.length : Nat) : Int) ∨ l.getD i 0 = -128) : Pl.matAt l i = 0 := by
  unfold Pl.matAt; rw [if_neg (fun hq => by rcases h with h | h
                                            · omega
                                            · exact hq.2 h)]
theorem Pl.matData_len (l : List Int) (N : Nat) : (Pl.matData l N).length = N := Pl.matData_length l N
theorem Pl.matAt_bd (l : List Int) (h : Pl.All8 l) (j : Nat) : -127 ≤ Pl.matAt l j ∧ Pl.matAt l j ≤ 127 := by
  have := h.at_ j
  unfold Pl.matAt
  split <;> omega
theorem Pl.matData_all8 (l : List Int) (N : Nat) (h : Pl.All8 l) : Pl.All8 (Pl.matData l N) := by
  intro y hy
  simp only [Pl.matData, List.mem_map] at hy
  obtain ⟨j, _, rfl⟩ := hy
  have := Pl.matAt_bd l h j
  omega
theorem Pl.matData_no (l : List Int) (N : Nat) (h : Pl.All8 l) : Pl.has (-128) (Pl.matData l N) = false := by
  rw [Pl.has_not]
  intro hy
  simp only [Pl.matData, List.mem_map] at hy
  obtain ⟨j, _, e⟩ := hy
  have := Pl.matAt_bd l h j
  omega
theorem Pl.size2_eq (r c : Nat) (hrc : r * c ≤ 8192) (hr : 1 ≤ r ∧ r ≤ 4096) (hc : 1 ≤ c ∧ c ≤ 4096) : Pl.size [(r : Int), c] = ((r * c : Nat) : Int) := by
  have e : Pl.size [(r : Int), c] = if (r : Int) < 1 ∨ 4096 < (r : Int) ∨ 8192 < 1 * (r : Int) then 0 else if (c : Int) < 1 ∨ 4096 < (c : Int) ∨ 8192 < 1 * (r : Int) * c then 0 else 1 * (r : Int) * c := rfl
  have hrc' : (r : Int) * c ≤ 8192 := by rw [← Int.natCast_mul]; omega
  rw [e, if_neg (by omega), Int.one_mul, if_neg (by omega), Int.natCast_mul]
theorem Pl.size1_eq (r : Nat) (hr : 1 ≤ r ∧ r ≤ 4096) : Pl.size [(r : Int)] = (r : Int) := by
  have e : Pl.size [(r : Int)] = if (r : Int) < 1 ∨ 4096 < (r : Int) ∨ 8192 < 1 * (r : Int) then 0 else 1 * (r : Int) := rfl
  rw [e, if_neg (by omega), Int.one_mul]
/-- A tensor of two lengths, of one, whose numbers may be, may be. -/
theorem Pl.may2 (r c : Nat) (e : Int) (d : List Int) (hrc : r * c ≤ 8192) (hr : 1 ≤ r ∧ r ≤ 4096) (hc : 1 ≤ c ∧ c ≤ 4096) (he : -64 ≤ e ∧ e ≤ 64) (hl : d.length = r * c) (hd : Pl.has (-128) d = false) : Pl.mayT ⟨[(r : Int), c], e, d⟩ = true := by
  have hs := Pl.size2_eq r c hrc hr hc
  have hp : 0 < r * c := Nat.mul_pos (by omega) (by omega)
  unfold Pl.mayT
  simp only [hs, hl, hd, Pl.expOk]
  simp
  omega
theorem Pl.may1 (r : Nat) (e : Int) (d : List Int) (hr : 1 ≤ r ∧ r ≤ 4096) (he : -64 ≤ e ∧ e ≤ 64) (hl : d.length = r) (hd : Pl.has (-128) d = false) : Pl.mayT ⟨[(r : Int)], e, d⟩ = true := by
  have hs := Pl.size1_eq r hr
  unfold Pl.mayT
  simp only [hs, hl, hd, Pl.expOk]
  simp
  omega

def Pl.matrix (l : List Int) (n k : Nat) : Pl.Ten := ⟨[n, k], 0, Pl.matData l (n * k)⟩
def Pl.vector (l : List Int) (n : Nat) : Pl.Ten := ⟨[n], 0, Pl.matData l n⟩
theorem Pl.matrix_dl (l : List Int) (n k : Nat) : (Pl.matrix l n k).data.length = n * k := Pl.matData_len l (n * k)
theorem Pl.vector_dl (l : List Int) (n : Nat) : (Pl.vector l n).data.length = n := Pl.matData_len l n
theorem Pl.matrix_may (l : List Int) (n k : Nat) (h : Pl.All8 l) (hn : 1 ≤ n ∧ n ≤ 4096) (hk : 1 ≤ k ∧ k ≤ 4096) (hnk : n * k ≤ 8192) (e : Int) (he : -64 ≤ e ∧ e ≤ 64) : Pl.mayT ⟨(Pl.matrix l n k).dims, e, (Pl.matrix l n k).data⟩ = true :=
  Pl.may2 n k e _ hnk hn hk he (Pl.matData_len l (n * k)) (Pl.matData_no l (n * k) h)
theorem Pl.vector_may (l : List Int) (n : Nat) (h : Pl.All8 l) (hn : 1 ≤ n ∧ n ≤ 4096) : Pl.mayT (Pl.vector l n) = true :=
  Pl.may1 n 0 _ hn (by omega) (Pl.matData_len l n) (Pl.matData_no l n h)
theorem Pl.matrix_all8 (l : List Int) (n k : Nat) (h : Pl.All8 l) : Pl.All8 (Pl.matrix l n k).data := Pl.matData_all8 l (n * k) h
theorem Pl.vector_all8 (l : List Int) (n : Nat) (h : Pl.All8 l) : Pl.All8 (Pl.vector l n).data := Pl.matData_all8 l n h
theorem Pl.align_zero (a b : Int) : Pl.align 0 a b = 0 := by
  unfold Pl.align
  rw [Pl.value_in 0 (by omega) (by omega)]
  unfold Pl.alignBy
  split
  · split <;> simp
  · split
    · simp
    · rw [Pl.between_in 0 _ _ (by omega) (by omega), Int.zero_mul, Pl.between_in 0 _ _ (by omega) (by omega)]
theorem Pl.fwdAt_bd (n : Nat) (exp : Int) (x u b : List Int) (be : Int) (r o : Nat) (hx : Pl.All8 x) (hu : Pl.All8 u) (hb : Pl.All8 b) (hn : n ≤ 959) :
    -16777216 < Pl.fwdAt n exp x u b be r o ∧ Pl.fwdAt n exp x u b be r o < 16777216 := by
  have h1 := Pl.align_bd (b.getD o 0) be exp (hb.at_ o)
  have h2 := Pl.sumTo_bd (Pl.fwdG n x u r o) 16384 n (fun i _ => Pl.mul8 _ _ (hx.at_ _) (hu.at_ _))
  unfold Pl.fwdAt
  omega

/-- Forward's numbers. -/
def Pl.fwdD (r n c : Nat) (E : Int) (x w b : List Int) (be : Int) : List Int := (List.range (r * c)).map fun j => Pl.fwdAt n E x w b be (j / c) (j % c)
theorem Pl.fwdD_length (r n c : Nat) (E : Int) (x w b : List Int) (be : Int) : (Pl.fwdD r n c E x w b be).length = r * c := by simp [Pl.fwdD]
theorem Pl.fwdD_at (r n c : Nat) (E : Int) (x w b : List Int) (be : Int) (i : Nat) (h : i < r * c) : (Pl.fwdD r n c E x w b be).getD i 0 = Pl.fwdAt n E x w b be (i / c) (i % c) := by
  simp [Pl.fwdD, List.getD_eq_getElem?_getD, h]
theorem Pl.madeTo_in (r c : Nat) (f : Nat → Nat → Int) (h : ∀ i j, -2147483648 ≤ f i j ∧ f i j < 2147483648) : Pl.madeTo c (r * c) f = (List.range (r * c)).map fun j => f (j / c) (j % c) := by
  unfold Pl.madeTo
  apply List.map_congr_left
  intro j _
  exact Pl.w32_in _ (h _ _).1 (h _ _).2
theorem Pl.mod_arg (x q : Int) (h1 : 1 ≤ q) (h2 : q ≤ 1000) : ∃ k : Nat, 1 ≤ k ∧ (k : Int) ≤ q ∧ IntKind.i64.wrap (1 + IntKind.i64.wrap ((IntKind.u64.wrap x).tmod q)) = k := by
  generalize hy : IntKind.u64.wrap x = y
  have h0 : 0 ≤ y := by
    rw [← hy]
    simp only [IntKind.wrap, IntKind.bits, IntKind.signed]
    simp
    omega
  clear hy
  rw [Int.tmod_eq_emod_of_nonneg h0]
  have b1 := Int.emod_nonneg y (show q ≠ 0 by omega)
  have b2 := Int.emod_lt_of_pos y (show 0 < q by omega)
  generalize y % q = z at *
  rw [wrap_i64 z (by omega) (by omega), wrap_i64 _ (by omega) (by omega)]
  exact ⟨1 + z.toNat, by omega, by omega, by omega⟩
theorem Pl.mod_arg0 (x q : Int) (h1 : 1 ≤ q) (h2 : q ≤ 1000) : ∃ k : Nat, (k : Int) < q ∧ IntKind.i64.wrap ((IntKind.u64.wrap x).tmod q) = k := by
  generalize hy : IntKind.u64.wrap x = y
  have h0 : 0 ≤ y := by
    rw [← hy]
    simp only [IntKind.wrap, IntKind.bits, IntKind.signed]
    simp
    omega
  clear hy
  rw [Int.tmod_eq_emod_of_nonneg h0]
  have b1 := Int.emod_nonneg y (show q ≠ 0 by omega)
  have b2 := Int.emod_lt_of_pos y (show 0 < q by omega)
  generalize y % q = z at *
  rw [wrap_i64 z (by omega) (by omega)]
  exact ⟨z.toNat, by omega, by omega⟩
end Go.Proofs.Ytanjlcjpcenejaa
