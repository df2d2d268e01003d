/- Walks of package dense: Fits, made. -/
import Derived.Test.YtanjlcjpcenejaaDenseMay
import Derived.Test.YtanjlcjpcenejaaPlDense
namespace Go.Proofs.Ytanjlcjpcenejaa
open Go.RowKit

set_option maxHeartbeats 400000 in
theorem fits_any (n : Int) (w : World) :
    Calls Try.prog 14 #[.int .i64 n] w fun r w' => r = .returned (.bool (Pl.fits n)) ∧ w = w' := by
  by_cases h1 : 0 ≤ n
  · by_cases h2 : n ≤ 1023
    · have HF := Lib.hid (show Pl.fits n = decide (n * 16384 + 1048576 < 16777216) by unfold Pl.fits; simp [h1, h2])
      go_enter Try.func14, Try.ntmps14
      go_wp2
      all_goals
        go_ret
        exact ⟨ret_bool (by rw [HF.out]), rfl⟩
    · have HF := Lib.hid (show Pl.fits n = false by unfold Pl.fits; simp [h2])
      go_enter Try.func14, Try.ntmps14
      go_wp2
      go_ret
      exact ⟨ret_bool HF.out.symm, rfl⟩
  · have HF := Lib.hid (show Pl.fits n = false by unfold Pl.fits; simp [h1])
    go_enter Try.func14, Try.ntmps14
    go_wp2
    go_ret
    exact ⟨ret_bool HF.out.symm, rfl⟩

theorem w32_eq (x : Int) : Pl.w32 x = IntKind.i32.wrap x := by unfold Pl.w32; rw [IntKind.wrap_i32]

/-- What made gives: an error and nothing, or sums of rows and columns. -/
def MadePost (w : World) (rows cols n exp : Int) (f : Nat → Nat → Int) (e : Ending) (w' : World) : Prop :=
  Below w.heap.size w w' ∧
  ((Pl.madeErr rows cols n exp ≠ 0 ∧ e = .returned (.tuple #[.agg #[.slice none 0 0, .int .i64 0, .slice none 0 0], .int .i64 (Pl.madeErr rows cols n exp)])) ∨
   (Pl.madeErr rows cols n exp = 0 ∧ ∃ (a g d : Nat), w.heap.size ≤ a ∧ w.heap.size ≤ g ∧ e = .returned (.tuple #[.agg #[.slice (some ⟨a, 0, none⟩) 2 2, .int .i64 exp, .slice (some ⟨g, 0, none⟩) (rows.toNat * cols.toNat) d], .int .i64 0]) ∧
      SumsAt w' w'.heap.size (some ⟨a, 0, none⟩) 2 (some ⟨g, 0, none⟩) (rows.toNat * cols.toNat) ⟨[rows, cols], exp, Pl.madeTo cols.toNat (rows.toNat * cols.toNat) f⟩))

set_option maxHeartbeats 1000000 in
theorem made_err3 (rows cols n exp : Int) (f : Nat → Nat → Int) (fv : Value) (w : World) (h : Pl.fits n = false ∨ 128 < exp ∨ exp < -128) :
    Calls Try.prog 27 #[.int .i64 rows, .int .i64 cols, .int .i64 n, .int .i64 exp, fv] w (MadePost w rows cols n exp f) := by
  have he : Pl.madeErr rows cols n exp = 3 := by unfold Pl.madeErr; rw [if_pos h]
  have HE := Lib.hid he
  clear he
  rcases h with h | h | h
  all_goals
    go_enter Try.func27, Try.ntmps27
    go_wp2_with (go_at_call 14; refine (fits_any n _).mono ?_; rintro e w' ⟨rfl, rfl⟩)
  all_goals
    refine bodyPost_ret (v := .tuple #[.agg #[.slice none 0 0, .int .i64 0, .slice none 0 0], .int .i64 3]) (by simp [results, Try.results27, go_sem]) rfl ?_
    refine ⟨(by repeat (first | exact Below.refl _ _ | assumption | (refine below_drewN ?_ _) | (refine Below.alloc ?_ (by simp <;> omega) _) | (refine Below.setCell ?_ (by simp <;> omega) _))), .inl ⟨by rw [HE.out]; omega, by rw [HE.out]⟩⟩

set_option maxHeartbeats 1000000 in
theorem made_err1 (rows cols n exp : Int) (f : Nat → Nat → Int) (fv : Value) (w : World) (h1 : Pl.fits n = true) (h2 : exp ≤ 128) (h3 : -128 ≤ exp) (h : Pl.size [rows, cols] ≤ 0) :
    Calls Try.prog 27 #[.int .i64 rows, .int .i64 cols, .int .i64 n, .int .i64 exp, fv] w (MadePost w rows cols n exp f) := by
  have he : Pl.madeErr rows cols n exp = 1 := by unfold Pl.madeErr; rw [if_neg (by simp [h1]; omega), if_pos h]
  have HE := Lib.hid he
  clear he
  have hd1 : decide (0 < Pl.size [rows, cols]) = false := by simp; omega
  have hd2 : decide (128 < exp) = false := by simp; omega
  have hd3 : decide (exp < -128) = false := by simp; omega
  go_enter Try.func27, Try.ntmps27
  go_wp2_with (first
    | (go_at_call 14; refine (fits_any n _).mono ?_; rintro e w' ⟨rfl, rfl⟩)
    | (go_at_call 37; refine (shapeMay_any _ _ 2 2 [rows, cols] _ (reads_blk (t := 3) (cs := #[.int .i64 rows, .int .i64 cols]) [.int .i64 rows, .int .i64 cols] (by repeat (first | exact heap_at_new _ _ _ (by simp) | (rw [Below.heap_alloc _ _ _ (by simp <;> omega)]))) rfl) (by decide)).mono ?_; rintro e w' ⟨rfl, rfl⟩))
  refine bodyPost_ret (v := .tuple #[.agg #[.slice none 0 0, .int .i64 0, .slice none 0 0], .int .i64 1]) (by simp [results, Try.results27, go_sem]) rfl ?_
  exact ⟨(by repeat (first | exact Below.refl _ _ | assumption | (refine below_drewN ?_ _) | (refine Below.alloc ?_ (by simp <;> omega) _) | (refine Below.setCell ?_ (by simp <;> omega) _))), .inl ⟨by rw [HE.out]; omega, by rw [HE.out]⟩⟩

/-- made, k numbers on: the three blocks of its own. -/
structure MadeAt (w wr : World) (exp : Int) (R C : Nat) (f : Nat → Nat → Int) (A : Option Addr) (cap k : Nat) : Prop where
  bel : Below w.heap.size w wr
  b0 : wr.heap[w.heap.size]? = some (.cells #[.slice none 0 0, .int .i64 0, .slice none 0 0] 31 (0, 0))
  b1 : wr.heap[w.heap.size + 1]? = some (.cells #[.int .i64 R, .int .i64 C] 3 (0, 0))
  b2 : wr.heap[w.heap.size + 1 + 1]? = some (.cells #[.slice (some ⟨w.heap.size + 1, 0, none⟩) 2 2, .int .i64 exp, .slice A k cap] 31 (0, 0))
  own : wr.ownsRow (w.heap.size + 3) 21 1 (.slice A k cap) k ((Pl.madeTo C k f).map (Value.int .i32))

theorem MadeAt.step {w wr w2 : World} {exp : Int} {R C : Nat} {f : Nat → Nat → Int} {A : Option Addr} {cap K r c : Nat} {n : Nat} {o : Obj} {g cap1 : Nat} (h : MadeAt w wr exp R C f A cap K) (hk : r * C + c = K) (hc : c < C)
    (hown : w2.ownsRow (w.heap.size + 3) 21 1 (.slice (some ⟨g, 0, none⟩) (K + 1) cap1) (K + 1) ((Pl.madeTo C K f).map (Value.int .i32) ++ [.int .i32 (IntKind.i32.wrap (f r c))]))
    (hgrow : ((wr.drewN n).alloc o).grownBy w2 (Value.slice A K cap).ownBlock) :
    MadeAt w (w2.setCell ⟨w.heap.size + 1 + 1, 2, none⟩ (.slice (some ⟨g, 0, none⟩) (K + 1) cap1)) exp R C f (some ⟨g, 0, none⟩) cap1 (K + 1) := by
  have l2 := blk_lt h.b2
  have hlt : ∀ k, (Value.slice A K cap).ownBlock = some k → w.heap.size + 3 ≤ k := fun k e => (h.own.lt k e).1
  have hold : ∀ q, q < w.heap.size + 3 → w2.heap[q]? = wr.heap[q]? := fun q hq => by
    rw [hgrow.block q (by simp; omega) (fun e => by have := hlt q e.symm; omega)]
    exact Below.heap_alloc (wr.drewN n) o q (by show q < wr.heap.size; omega)
  have hbel : Below w.heap.size w w2 := ((below_drewN h.bel n).alloc (by show w.heap.size ≤ wr.heap.size; omega) o).grown hgrow (by simp; omega) (fun k e => by have := hlt k e; omega)
  have hb2 := (hold (w.heap.size + 1 + 1) (by omega)).trans h.b2
  refine ⟨hbel.setCell (by simp; omega) _, ?_, ?_, ?_, ?_⟩
  · rw [Below.heap_setCell _ _ _ _ (by simp; omega)]; exact (hold _ (by omega)).trans h.b0
  · rw [Below.heap_setCell _ _ _ _ (by simp)]; exact (hold _ (by omega)).trans h.b1
  · have := blk_set hb2 2 (.slice (some ⟨g, 0, none⟩) (K + 1) cap1)
    simpa using this
  · have e : Pl.madeTo C (K + 1) f = Pl.madeTo C K f ++ [IntKind.i32.wrap (f r c)] := by rw [← hk, Pl.madeTo_succ C r c f hc, w32_eq]
    rw [e, List.map_append]
    exact ownsRow_setCell_below hown (by simp) _

theorem MadeAt.done {w wr : World} {exp n : Int} {R C : Nat} {f : Nat → Nat → Int} {A : Option Addr} {cap : Nat} (h : MadeAt w wr exp R C f A cap (R * C)) (hp : 0 < R * C) (hq : R * C ≤ 8192) (he : Pl.madeErr R C n exp = 0) (x y z : Value) :
    MadePost w R C n exp f (.returned (.tuple #[.agg #[.slice (some ⟨w.heap.size + 1, 0, none⟩) 2 2, .int .i64 exp, .slice A (R * C) cap], .int .i64 0]))
      (((wr.setCell ⟨w.heap.size, 0, none⟩ x).setCell ⟨w.heap.size, 1, none⟩ y).setCell ⟨w.heap.size, 2, none⟩ z) := by
  have hb : Below w.heap.size w (((wr.setCell ⟨w.heap.size, 0, none⟩ x).setCell ⟨w.heap.size, 1, none⟩ y).setCell ⟨w.heap.size, 2, none⟩ z) :=
    ((h.bel.setCell (by simp) _).setCell (by simp) _).setCell (by simp) _
  refine ⟨hb, .inr ⟨he, ?_⟩⟩
  obtain ⟨g, c, hv, hg, hlt⟩ := h.own.form hp
  injection hv with hA _ hc
  subst hA
  subst hc
  simp only [Int.toNat_natCast]
  refine ⟨w.heap.size + 1, g, cap, by omega, by omega, rfl, ?_⟩
  have hk : ∀ q, w.heap.size < q → (((wr.setCell ⟨w.heap.size, 0, none⟩ x).setCell ⟨w.heap.size, 1, none⟩ y).setCell ⟨w.heap.size, 2, none⟩ z).heap[q]? = wr.heap[q]? := fun q hq => by
    rw [Below.heap_setCell _ _ _ _ (by simp; omega), Below.heap_setCell _ _ _ _ (by simp; omega), Below.heap_setCell _ _ _ _ (by simp; omega)]
  have hl := Pl.madeTo_length C (R * C) f
  constructor
  · exact reads_blk (cs := #[.int .i64 R, .int .i64 C]) [.int .i64 R, .int .i64 C] ((hk _ (by omega)).trans h.b1) rfl
  · rcases h.own.2 with ⟨hn, _⟩ | ⟨g', cap', cur, hv', hbg, hh, hnc, hcm, hcs, htk⟩
    · injection hn with hn _; cases hn
    · injection hv' with hv' _ _
      injection hv' with hv'
      injection hv' with hv'
      subst hv'
      have := reads_blk (cs := cur) ((Pl.madeTo C (R * C) f).map (Value.int .i32)) ((hk _ (by omega)).trans hh) (by rw [List.length_map, hl]; simpa using htk)
      rw [List.length_map, hl] at this
      exact this
  · decide
  · simp only [maxLen]; omega

theorem made_info : (Try.prog.info? 21).map (fun i => (i.zero, i.size, i.bytes)) = some (some (.int .i32 0), 1, 4) := by kernel_rfl

set_option maxRecDepth 100000 in
set_option maxHeartbeats 2000000 in
theorem made_ok (rows cols n exp : Int) (f : Nat → Nat → Int) (fid : FuncId) (caps : Array Value) (w : World) (h1 : Pl.fits n = true) (h2 : exp ≤ 128) (h3 : -128 ≤ exp) (h : 0 < Pl.size [rows, cols])
    (hrun : ∀ (xs : Array Value) (W : World), Sem.run Try.prog (callFunc fid xs) W = .ok (.enter fid xs) W)
    (hcl : ∀ (r c : Nat) (W : World), r < rows.toNat → c < cols.toNat → Below w.heap.size w W →
      Calls Try.prog fid (#[.int .i64 r, .int .i64 c] ++ caps) W fun e W' => e = .returned (.int .i64 (f r c)) ∧ ∃ k, W' = W.drewN k) :
    Calls Try.prog 27 #[.int .i64 rows, .int .i64 cols, .int .i64 n, .int .i64 exp, .func (.func fid) #[] caps] w (MadePost w rows cols n exp f) := by
  have he : Pl.madeErr rows cols n exp = 0 := by unfold Pl.madeErr; rw [if_neg (by simp [h1]; omega), if_neg (by omega)]
  have HE := Lib.hid he
  clear he
  have hd1 : decide (0 < Pl.size [rows, cols]) = true := by simp; omega
  have hd2 : decide (128 < exp) = false := by simp; omega
  have hd3 : decide (exp < -128) = false := by simp; omega
  have hz := Pl.size2 rows cols h
  obtain ⟨R, rfl⟩ := Int.eq_ofNat_of_zero_le (show 0 ≤ rows by omega)
  obtain ⟨C, rfl⟩ := Int.eq_ofNat_of_zero_le (show 0 ≤ cols by omega)
  simp only [Int.toNat_natCast] at hcl
  obtain ⟨z1, z2, z3, z4, z5, z6⟩ := hz
  have HRC := Lib.hid (show R * C ≤ 8192 by exact_mod_cast z5)
  clear z5 z6
  have HCL := Lib.hid hcl
  clear hcl
  obtain ⟨i0, hi0, hz0, hz1, hz2⟩ := info_parts made_info
  go_enter Try.func27, Try.ntmps27
  go_wp2_with (first
    | (go_at_call 14; refine (fits_any n _).mono ?_; rintro e w' ⟨rfl, rfl⟩)
    | (go_at_call 37; refine (shapeMay_any _ _ 2 2 [(R : Int), (C : Int)] _ (reads_blk (t := 3) (cs := #[.int .i64 R, .int .i64 C]) [.int .i64 R, .int .i64 C] (by repeat (first | exact heap_at_new _ _ _ (by simp) | (rw [Below.heap_alloc _ _ _ (by simp <;> omega)]))) rfl) (by decide)).mono ?_; rintro e w' ⟨rfl, rfl⟩))
  go_loopw [40] (fun i wr => ∃ r : Nat, r ≤ R ∧ i = .int .i64 r ∧ ∃ A cap, MadeAt w wr exp R C f A cap (r * C)) (fun i _ => R - (intOf i).toNat)
  case atStart => refine ⟨0, Nat.zero_le _, rfl, none, 0, ?_⟩; rw [Nat.zero_mul]; exact ⟨(by repeat (first | exact Below.refl _ _ | assumption | (refine below_drewN ?_ _) | (refine Below.alloc ?_ (by simp <;> omega) _) | (refine Below.setCell ?_ (by simp <;> omega) _))), (by repeat (first | exact heap_at_new _ _ _ (by simp) | (rw [Below.heap_alloc _ _ _ (by simp <;> omega)]))), (by repeat (first | exact heap_at_new _ _ _ (by simp) | (rw [Below.heap_alloc _ _ _ (by simp <;> omega)]))), (by repeat (first | exact heap_at_new _ _ _ (by simp) | (rw [Below.heap_alloc _ _ _ (by simp <;> omega)]))), World.ownsRow_nil _ _ _ _⟩
  case round =>
    obtain ⟨r, hr, rfl, A0, cap0, hM⟩ := hrel
    have HM := Lib.hid hM
    clear hM
    by_cases hlt : r < R
    · obtain ⟨wo, rfl⟩ : ∃ wo : World, wo = wr := ⟨_, rfl⟩
      go_wp2_with fail
      go_loopw [44] (fun i wr => ∃ c : Nat, c ≤ C ∧ i = .int .i64 c ∧ ∃ A cap, MadeAt w wr exp R C f A cap (r * C + c)) (fun i _ => C - (intOf i).toNat)
      case atStart => exact ⟨0, Nat.zero_le _, rfl, _, _, HM.out⟩
      case round =>
        clear HM
        obtain ⟨c, hc, rfl, A, cap, hM⟩ := hrel
        have HM := Lib.hid hM
        have c2 := blk_cell hM.b2 2
        have f2 := blk_frozen hM.b2 2
        have l2 := blk_lt hM.b2
        simp at c2
        clear hM
        by_cases hltc : c < C
        · have hk : r * C + c + 1 ≤ 8192 := by
            have h1 : (r + 1) * C ≤ R * C := Nat.mul_le_mul_right C (by omega)
            have h2 := HRC.out
            rw [Nat.add_mul, Nat.one_mul] at h1
            omega
          generalize hkk : r * C + c = K at *
          have HK := Lib.hid hkk
          have HNE := Lib.hid (show some (w.heap.size + 1 + 1) ≠ (Value.slice A K cap).ownBlock from fun he => by have := (HM.out.own.lt _ he.symm).1; omega)
          clear hkk
          go_wp2_with fail
          go_region_law (first
            | (go_simp; refine (HCL.out r c _ hlt hltc ?_).mono ?_; exact HM.out.bel.drew; rintro e w1 ⟨rfl, kk, rfl⟩)
            | (refine step_append_lies _ (by rfl) _ _ _ (by rfl) (w.heap.size + 3) 21 i0 _ 1 4 Try.underlying29 hi0 hz0 hz1 hz2 rfl (by omega) (.slice A K cap) K ((Pl.madeTo C K f).map (Value.int .i32)) (by rfl) (HM.out.own.alloc _)
                ⟨wr.heap.size, 0, none⟩ 1 1 [.int .i32 (IntKind.i32.wrap (f r c))] (by rfl) (by rfl) (World.news_of_block (cs := #[.int .i32 (IntKind.i32.wrap (f r c))]) (t := 21) (fr := (0, 0)) (heap_alloc_new _ _)) (by simp [Value.oneCell']) (by omega) (by simp only [maxLen]; omega) (by omega) (by simp; omega) (wr.heap.size + 1) (by simp) ?_; intro g cap1 w2 hown1 hgrow hat hlt2; have HB2 := Lib.hid ((hgrow.block (w.heap.size + 1 + 1) (by simp; omega) HNE.out).trans ((Below.heap_alloc _ _ _ (by simp; omega)).trans HM.out.b2)); have f3 := blk_frozen HB2.out 2; have c3 := blk_cell HB2.out 2))
          all_goals
            clear c3 f3
            have HS := Lib.hid (HM.out.step HK.out hltc hown1 hgrow)
            clear hown1 hgrow hat
            go_wp2_with fail
            go_roundw
            case rel => exact ⟨c + 1, by omega, by go_num, _, _, by rw [← Nat.add_assoc, HK.out]; exact HS.out⟩
            case measure => simp [intOf]; omega
        · have hcc : c = C := by omega
          have HS := Lib.hid (show MadeAt w wr exp R C f A cap ((r + 1) * C) by rw [Nat.add_mul, Nat.one_mul]; have hq := HM.out; rw [hcc] at hq; exact hq)
          clear hcc HM c2 f2 l2
          go_wp2_with fail
          go_roundw
          case rel => exact ⟨r + 1, by omega, by go_num, _, _, HS.out⟩
          case measure => simp [intOf]; omega
    · have hrr : r = R := by omega
      have hM := HM.out
      rw [hrr] at hM
      have c0 := blk_cell hM.b2 0
      have c1 := blk_cell hM.b2 1
      have c2 := blk_cell hM.b2 2
      have d0 := blk_cell hM.b0 0
      have d1 := blk_cell hM.b0 1
      have d2 := blk_cell hM.b0 2
      have f0 := blk_frozen hM.b0 0
      have f1 := blk_frozen hM.b0 1
      have f2 := blk_frozen hM.b0 2
      have l2 := blk_lt hM.b2
      simp at c0 c1 c2 d0 d1 d2
      have HN := Lib.hid hM
      clear hM HM hrr
      go_wp2_with fail
      refine bodyPost_ret (v := .tuple #[.agg #[.slice (some ⟨w.heap.size + 1, 0, none⟩) 2 2, .int .i64 exp, .slice A0 (R * C) cap0], .int .i64 0]) (by simp [results, Try.results27, go_sem, d0, d1, d2]) rfl ?_
      have hp : 0 < R * C := Nat.mul_pos (by omega) (by omega)
      exact HN.out.done hp HRC.out HE.out _ _ _

theorem made_any (rows cols n exp : Int) (f : Nat → Nat → Int) (fid : FuncId) (caps : Array Value) (w : World)
    (hrun : ∀ (xs : Array Value) (W : World), Sem.run Try.prog (callFunc fid xs) W = .ok (.enter fid xs) W)
    (hcl : Pl.madeErr rows cols n exp = 0 → ∀ (r c : Nat) (W : World), r < rows.toNat → c < cols.toNat → Below w.heap.size w W →
      Calls Try.prog fid (#[.int .i64 r, .int .i64 c] ++ caps) W fun e W' => e = .returned (.int .i64 (f r c)) ∧ ∃ k, W' = W.drewN k) :
    Calls Try.prog 27 #[.int .i64 rows, .int .i64 cols, .int .i64 n, .int .i64 exp, .func (.func fid) #[] caps] w (MadePost w rows cols n exp f) := by
  by_cases h1 : Pl.fits n = false ∨ 128 < exp ∨ exp < -128
  · exact made_err3 rows cols n exp f _ w h1
  · have h2 : Pl.fits n = true := by
      cases hq : Pl.fits n
      · exact absurd (.inl hq) h1
      · rfl
    by_cases h3 : Pl.size [rows, cols] ≤ 0
    · exact made_err1 rows cols n exp f _ w h2 (by omega) (by omega) h3
    · exact made_ok rows cols n exp f fid caps w h2 (by omega) (by omega) (by omega) hrun (hcl (by unfold Pl.madeErr; rw [if_neg h1, if_neg h3]))

end Go.Proofs.Ytanjlcjpcenejaa
