/- Walks of the statements' own helpers: matrix, vector. -/
import Derived.Test.YtanjlcjpcenejaaFrame
import Derived.Laws.MakeOwn
namespace Go.Proofs.Ytanjlcjpcenejaa
open Go.RowKit
attribute [local go_sem] drewN_alloc drewN_setCell

/-- matrix's numbers. -/
def Pl.matAt (l : List Int) (j : Nat) : Int := if j < l.length ∧ l.getD j 0 ≠ -128 then l.getD j 0 else 0
def Pl.matData (l : List Int) (N : Nat) : List Int := (List.range N).map (Pl.matAt l)
def Pl.matrix (l : List Int) (n k : Nat) : Pl.Ten := ⟨[n, k], 0, Pl.matData l (n * k)⟩
def Pl.vector (l : List Int) (n : Nat) : Pl.Ten := ⟨[n], 0, Pl.matData l n⟩
/-- The first i of them are there, behind them are noughts. -/
def Pl.matTo (l : List Int) (N i : Nat) : Array Value := ((List.range N).map fun j => Value.int .i8 (if j < i then Pl.matAt l j else 0)).toArray
theorem Pl.matTo_size (l : List Int) (N i : Nat) : (Pl.matTo l N i).size = N := by simp [Pl.matTo]
theorem Pl.matTo_zero (l : List Int) (N : Nat) : Pl.matTo l N 0 = Array.replicate N (Value.int .i8 0) := by
  apply Array.ext
  · simp [Pl.matTo]
  · intro i h1 h2; simp [Pl.matTo]
theorem Pl.matTo_set (l : List Int) (N i : Nat) (_h : i < N) : (Pl.matTo l N i).setIfInBounds i (.int .i8 (Pl.matAt l i)) = Pl.matTo l N (i + 1) := by
  apply Array.ext
  · simp [Pl.matTo]
  · intro j h1 h2
    rw [Array.getElem_setIfInBounds (by simpa using h1)]
    simp only [Pl.matTo, List.getElem_toArray, List.getElem_map, List.getElem_range]
    by_cases e : i = j
    · subst e; simp
    · rw [if_neg e]
      by_cases hj : j < i
      · rw [if_pos hj, if_pos (by omega)]
      · rw [if_neg hj, if_neg (by omega)]
theorem Pl.matTo_keep (l : List Int) (N i : Nat) (h : Pl.matAt l i = 0) : Pl.matTo l N (i + 1) = Pl.matTo l N i := by
  apply Array.ext
  · simp [Pl.matTo]
  · intro j h1 h2
    simp only [Pl.matTo, List.getElem_toArray, List.getElem_map, List.getElem_range]
    by_cases hj : j < i
    · rw [if_pos hj, if_pos (by omega)]
    · by_cases e : i = j
      · subst e; rw [h]; simp
      · rw [if_neg hj, if_neg (by omega)]
theorem Pl.matTo_all (l : List Int) (N : Nat) : Pl.matTo l N N = ((Pl.matData l N).map (Value.int .i8)).toArray := by
  apply Array.ext
  · simp [Pl.matTo, Pl.matData]
  · intro j h1 h2
    have hj : j < N := by simpa [Pl.matTo] using h1
    simp [Pl.matTo, Pl.matData, hj]

theorem i8_info : (Try.prog.info? 37).map (fun i => (i.zero, i.size, i.bytes)) = some (some (.int .i8 0), 1, 1) := by kernel_rfl

theorem make8 (l : List Int) (N : Nat) (x : Int) (hx : x = N) (hN : N ≤ 100000) (W : World) :
    (Instr.makeSlice 22 (.int .i64 x) (.int .i64 x)).run Try.prog W = .ok (.slice (some ⟨W.heap.size, 0, none⟩) N N) (W.alloc (.cells (Pl.matTo l N 0) 37)) := by
  obtain ⟨i0, hi0, hz0, hz1, hz2⟩ := info_parts i8_info
  subst hx
  have h := run_make (P := Try.prog) W 22 37 i0 _ Try.underlying22 hi0 hz0 .i64 .i64 (N : Int) (N : Int) (by omega) (Int.le_refl _) (by rw [hz2]; omega) (by omega)
  rw [hz1, Int.toNat_natCast, Nat.mul_one] at h
  rw [h, Pl.matTo_zero]
  have : madeCells (Value.int IntKind.i8 0).cells N = Array.replicate N (Value.int .i8 0) := by
    apply Array.ext
    · rw [size_madeCells]; simp
    · intro j h1 h2
      simp [madeCells, Value.cells, Nat.mod_one]
  rw [this]

set_option maxRecDepth 100000 in
set_option maxHeartbeats 1000000 in
theorem matrix_any (A : Option Addr) (m c : Nat) (l : List Int) (n k : Nat) (w : World) (h : Reads w w.heap.size A m (l.map (Value.int .i8))) (hm : m ≤ maxLen) (hp : 0 < n * k) (hN : n * k ≤ 100000) :
    Calls Try.prog 10 #[.slice A m c, .int .i64 n, .int .i64 k] w (TenPost w (Pl.matrix l n k)) := by
  have hmk := fun W : World => make8 l (n * k) ((n : Int) * k) (by rw [Int.natCast_mul]) hN W
  have hl : l.length = m := by simpa using h.1
  have b1 : 0 ≤ (n : Int) * k := by exact_mod_cast Nat.zero_le _
  have b2 : (n : Int) * k ≤ 100000 := by rw [← Int.natCast_mul]; omega
  unfold maxLen at hm
  have HR := Lib.hid h
  have HL := Lib.hid hl
  clear h hl
  have HF := Lib.hid ((Fr.four w (.cells #[.slice none 0 0, .int .i64 0, .slice none 0 0] 26) (.cells #[.int .i64 n, .int .i64 k] 3) (.cells (Pl.matTo l (n * k) 0) 37) (.cells #[.slice (some ⟨w.heap.size + 1, 0, none⟩) 2 2, .int .i64 0, .slice (some ⟨w.heap.size + 1 + 1, 0, none⟩) (n * k) (n * k)] 26)).less (l' := [(w.heap.size + 1 + 1, .cells (Pl.matTo l (n * k) 0) 37), (w.heap.size + 1 + 1 + 1, (.cells #[.slice (some ⟨w.heap.size + 1, 0, none⟩) 2 2, .int .i64 0, .slice (some ⟨w.heap.size + 1 + 1, 0, none⟩) (n * k) (n * k)] 26)), (w.heap.size + 1, (.cells #[.int .i64 n, .int .i64 k] 3)), (w.heap.size, (.cells #[.slice none 0 0, .int .i64 0, .slice none 0 0] 26))]) (by simp))
  go_enter Try.func10, Try.ntmps10
  go_wp2_with fail
  clear hmk
  go_loopw [20] (fun i wr => ∃ j : Nat, j ≤ n * k ∧ i = .int .i64 j ∧ Fr w wr [(w.heap.size + 1 + 1, .cells (Pl.matTo l (n * k) j) 37), (w.heap.size + 1 + 1 + 1, (.cells #[.slice (some ⟨w.heap.size + 1, 0, none⟩) 2 2, .int .i64 0, .slice (some ⟨w.heap.size + 1 + 1, 0, none⟩) (n * k) (n * k)] 26)), (w.heap.size + 1, (.cells #[.int .i64 n, .int .i64 k] 3)), (w.heap.size, (.cells #[.slice none 0 0, .int .i64 0, .slice none 0 0] 26))]) (fun i _ => n * k - (intOf i).toNat)
  case atStart => exact ⟨0, Nat.zero_le _, rfl, HF.out⟩
  case round =>
    obtain ⟨j, hj, rfl, hfr⟩ := hrel
    have HG := Lib.hid hfr
    clear hfr HF
    have cbs : w.heap.size + 1 + 1 + 1 < wr.heap.size := HG.out.lt (o := .cells #[.slice (some ⟨w.heap.size + 1, 0, none⟩) 2 2, .int .i64 0, .slice (some ⟨w.heap.size + 1 + 1, 0, none⟩) (n * k) (n * k)] 26) (by simp)
    have cb0 : wr.cell? ⟨w.heap.size + 1 + 1 + 1, 0, none⟩ = some (.slice (some ⟨w.heap.size + 1, 0, none⟩) 2 2) := HG.out.cell (cs := #[.slice (some ⟨w.heap.size + 1, 0, none⟩) 2 2, .int .i64 0, .slice (some ⟨w.heap.size + 1 + 1, 0, none⟩) (n * k) (n * k)]) (t := 26) (by simp) 0
    have cb1 : wr.cell? ⟨w.heap.size + 1 + 1 + 1, 1, none⟩ = some (.int .i64 0) := HG.out.cell (cs := #[.slice (some ⟨w.heap.size + 1, 0, none⟩) 2 2, .int .i64 0, .slice (some ⟨w.heap.size + 1 + 1, 0, none⟩) (n * k) (n * k)]) (t := 26) (by simp) 1
    have cb2 : wr.cell? ⟨w.heap.size + 1 + 1 + 1, 2, none⟩ = some (.slice (some ⟨w.heap.size + 1 + 1, 0, none⟩) (n * k) (n * k)) := HG.out.cell (cs := #[.slice (some ⟨w.heap.size + 1, 0, none⟩) 2 2, .int .i64 0, .slice (some ⟨w.heap.size + 1 + 1, 0, none⟩) (n * k) (n * k)]) (t := 26) (by simp) 2
    have crs : w.heap.size < wr.heap.size := HG.out.lt (o := .cells #[.slice none 0 0, .int .i64 0, .slice none 0 0] 26) (by simp)
    have cr0 : wr.cell? ⟨w.heap.size, 0, none⟩ = some (.slice none 0 0) := HG.out.cell (cs := #[.slice none 0 0, .int .i64 0, .slice none 0 0]) (t := 26) (by simp) 0
    have cr0f : wr.frozen? ⟨w.heap.size, 0, none⟩ = false := HG.out.frozen (cs := #[.slice none 0 0, .int .i64 0, .slice none 0 0]) (t := 26) (by simp) 0
    have cr1 : wr.cell? ⟨w.heap.size, 1, none⟩ = some (.int .i64 0) := HG.out.cell (cs := #[.slice none 0 0, .int .i64 0, .slice none 0 0]) (t := 26) (by simp) 1
    have cr1f : wr.frozen? ⟨w.heap.size, 1, none⟩ = false := HG.out.frozen (cs := #[.slice none 0 0, .int .i64 0, .slice none 0 0]) (t := 26) (by simp) 1
    have cr2 : wr.cell? ⟨w.heap.size, 2, none⟩ = some (.slice none 0 0) := HG.out.cell (cs := #[.slice none 0 0, .int .i64 0, .slice none 0 0]) (t := 26) (by simp) 2
    have cr2f : wr.frozen? ⟨w.heap.size, 2, none⟩ = false := HG.out.frozen (cs := #[.slice none 0 0, .int .i64 0, .slice none 0 0]) (t := 26) (by simp) 2
    by_cases hlt : j < n * k
    · have hjj : (j : Int) < (n : Int) * k := by exact_mod_cast hlt
      have cd : wr.cell? ⟨w.heap.size + 1 + 1, j, none⟩ = some (.int .i8 0) := by
        rw [HG.out.cell (cs := Pl.matTo l (n * k) j) (t := 37) (by simp) j, Array.getElem?_eq_getElem (by rw [Pl.matTo_size]; exact hlt)]
        simp [Pl.matTo]
      have cdf : wr.frozen? ⟨w.heap.size + 1 + 1, j, none⟩ = false := HG.out.frozen (cs := Pl.matTo l (n * k) j) (t := 37) (by simp) j
      by_cases hjm : j < m
      · obtain ⟨ad, rfl, had, hc⟩ := (HR.out.below HG.out.bel).2 (by omega)
        have hcell : wr.cell? (ad.add j) = some (.int .i8 (l.getD j 0)) := hc j _ (by simp [List.getElem?_eq_getElem (show j < l.length by rw [HL.out]; exact hjm)])
        clear hc
        obtain ⟨x, hx⟩ : ∃ v, v = l.getD j 0 := ⟨_, rfl⟩
        rw [← hx] at hcell
        by_cases hx8 : x = -128
        · have hb : (x != -128) = false := by rw [hx8]; rfl
          have HK := Lib.hid (Pl.matTo_keep l (n * k) j (by unfold Pl.matAt; rw [if_neg (by rw [← hx, hx8]; simp)]))
          clear hx8 hx
          go_wp2_with fail
          go_roundw
          case rel => exact ⟨j + 1, by omega, by go_num, by rw [HK.out]; exact HG.out⟩
          case measure => simp [intOf]; omega
        · have hb : (x != -128) = true := by rw [bne_iff_ne]; exact hx8
          have HK := Lib.hid (show (Pl.matTo l (n * k) j).setIfInBounds j (.int .i8 x) = Pl.matTo l (n * k) (j + 1) by
            rw [← Pl.matTo_set l (n * k) j hlt]
            unfold Pl.matAt
            rw [if_pos ⟨by rw [HL.out]; exact hjm, by rw [← hx]; exact hx8⟩, hx])
          clear hx8 hx
          have HS := Lib.hid (HG.out.drew.set (by simp; omega) (by omega) j (.int .i8 x))
          go_wp2_with fail
          go_region
          go_wp2_with fail
          go_roundw
          case rel => exact ⟨j + 1, by omega, by go_num, by rw [← HK.out]; exact HS.out⟩
          case measure => simp [intOf]; omega
      · have HK := Lib.hid (Pl.matTo_keep l (n * k) j (by unfold Pl.matAt; rw [if_neg (by rw [HL.out]; omega)]))
        go_wp2_with fail
        go_roundw
        case rel => exact ⟨j + 1, by omega, by go_num, by rw [HK.out]; exact HG.out⟩
        case measure => simp [intOf]; omega
    · have hjn : j = n * k := by omega
      have HH := HG.out
      rw [hjn, Pl.matTo_all] at HH
      have HK := Lib.hid HH
      clear HH hjn HG
      go_wp2_with fail
      refine bodyPost_ret (v := .agg #[.slice (some ⟨w.heap.size + 1, 0, none⟩) 2 2, .int .i64 0, .slice (some ⟨w.heap.size + 1 + 1, 0, none⟩) (n * k) (n * k)]) (by simp [results, Try.results10, go_sem, cr0, cr1, cr2]) rfl ?_
      have hlen : (Pl.matrix l n k).data.length = n * k := by simp [Pl.matrix, Pl.matData]
      refine ⟨w.heap.size + 1, w.heap.size + 1 + 1, by rw [hlen]; rfl, by omega, by omega, by omega, ?_⟩
      exact HK.out.stored3 (by simp [dimsObj, dataObj, Pl.matrix]) (by simp; omega) (by omega) _ _ _

end Go.Proofs.Ytanjlcjpcenejaa
