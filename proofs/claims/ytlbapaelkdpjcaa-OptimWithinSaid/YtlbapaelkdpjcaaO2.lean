/- A step down: what is small, the known step, the law OptimByHand. No condition. -/
import Derived.Test.YtlbapaelkdpjcaaO1
import Derived.Test.YtlbapaelkdpjcaaN8
namespace Go.Proofs.Ytlbapaelkdpjcaa
open Go.Mach Go.RowKit
set_option maxRecDepth 100000
set_option linter.unusedVariables false
set_option linter.unusedSimpArgs false

theorem dataF_len {b s t sh : Int} {l : List Int} : (dataF b s t sh l).length = l.length := by simp [dataF]
theorem dataF_get {b s t sh : Int} {l : List Int} {j : Nat} (h : j < l.length) : (dataF b s t sh l).getD j 0 = cellF b s t sh l j := by
  unfold dataF
  rw [List.getD_eq_getElem?_getD, List.getElem?_map, List.getElem?_range h]
  rfl

theorem bits_small : ∀ i : Fin 255, bitF (IntKind.i64.wrap ((i.1 : Int) - 127)) ≤ 7 := by decide +kernel
theorem bits_le7 {x : Int} (h1 : -127 ≤ x) (h2 : x ≤ 127) : bitF (IntKind.i64.wrap x) ≤ 7 := by
  have := bits_small ⟨(x + 127).toNat, by omega⟩
  simp only at this
  rw [show (((x + 127).toNat : Nat) : Int) - 127 = x by omega] at this
  exact this
theorem wideF_le7 {l : List Int} (h : ∀ x ∈ l, -127 ≤ x ∧ x ≤ 127) : wideF l ≤ 7 := by
  have : ∀ (l : List Int) (m : Int), (∀ x ∈ l, -127 ≤ x ∧ x ≤ 127) → m ≤ 7 → l.foldl (fun m x => greater m (bitF (IntKind.i64.wrap x))) m ≤ 7 := by
    intro l
    induction l with
    | nil => exact fun m _ h => h
    | cons x l ih =>
      intro m hx hm
      have hb := bits_le7 (hx x (List.mem_cons_self ..)).1 (hx x (List.mem_cons_self ..)).2
      refine ih _ (fun y hy => hx y (List.mem_cons_of_mem _ hy)) ?_
      show greater m _ ≤ 7
      unfold greater
      split <;> assumption
  exact this l 0 h (by omega)
theorem topF8 : topF 8 = 127 := by decide +kernel
theorem cell_id {l : List Int} {s t : Int} {i : Nat} (h : -127 ≤ l.getD i 0 ∧ l.getD i 0 ≤ 127) : cellF 8 s t 0 l i = l.getD i 0 := by
  unfold cellF
  rw [chF_zero]
  unfold clF
  rw [topF8, wrap_i64 (l.getD i 0) (by omega) (by omega), valF_id (a := l.getD i 0) (by omega) (by omega), valF_id (a := l.getD i 0) (by omega) (by omega), wrap_i64 (0 - 127) (by omega) (by omega)]
  have : greater (0 - 127) (smaller (l.getD i 0) 127) = l.getD i 0 := by
    unfold greater smaller
    split <;> split <;> omega
  rw [this, wrap_i8 _ (by omega) (by omega)]
theorem dataF_id {l : List Int} {s t : Int} (h : ∀ x ∈ l, -127 ≤ x ∧ x ≤ 127) : dataF 8 s t 0 l = l := by
  refine List.ext_getElem dataF_len fun i h1 h2 => ?_
  have e1 := dataF_get (b := 8) (s := s) (t := t) (sh := 0) (l := l) h2
  have e3 : l.getD i 0 = l[i] := by rw [List.getD_eq_getElem?_getD, List.getElem?_eq_getElem h2]; rfl
  rw [cell_id (by rw [e3]; exact h _ (List.getElem_mem h2)), e3, List.getD_eq_getElem?_getD, List.getElem?_eq_getElem h1] at e1
  exact e1

theorem small_id {a : List Int × Int × List Int} {s t : Int} (hm : mayF a = true) (h : ∀ x ∈ a.2.2, -128 ≤ x ∧ x ≤ 127) : smallF a 8 s t = (a, 0) ∧ widthF a ≤ 7 ∧ mayAccF a = true := by
  obtain ⟨m1, m2, m3, m4⟩ := mayF_inv hm
  have h' : ∀ x ∈ a.2.2, -127 ≤ x ∧ x ≤ 127 := fun x hx => by
    have := h x hx
    have : x ≠ -128 := fun e => m4 (e ▸ hx)
    omega
  have hw := wideF_le7 h'
  have hr := wideF_rng a.2.2
  have ew : widthF a = wideF a.2.2 := by unfold widthF; rw [m1]; rfl
  have es : shiftF a 8 = 0 := by
    unfold shiftF
    rw [ew, wrap_i64 (8 - 1) (by omega) (by omega), wrap_i64 _ (by omega) (by omega)]
    unfold greater
    split <;> omega
  refine ⟨?_, by rw [ew]; exact hw, m1⟩
  unfold smallF
  rw [m1, es, Int.add_zero, wrap_i64 a.2.1 (by omega) (by omega), dataF_id h']
  have : expF a.2.1 64 = true := by
    unfold expF
    rw [wrap_i64 (0 - 64) (by omega) (by omega)]
    simp only [Bool.and_eq_true, decide_eq_true_eq]
    omega
  rw [this]
  rfl

theorem mask_d : ∀ d : Fin 32, (BitVec.ofInt (IntKind.u64).bits (IntKind.u64.wrap ((IntKind.u64.wrap (1 * 2 ^ (min (shF (d.1 : Int)).toNat (IntKind.u64).bits))) - 1))).toNat = 2 ^ d.1 - 1 ∧ (2 : Int) ^ (min (shF (d.1 : Int)).toNat (IntKind.i64).bits) = 2 ^ d.1 ∧ (2 : Nat) ^ d.1 ≤ 2147483648 := by decide +kernel
theorem chF_k {x r : Int} {d : Nat} (hd : d ≤ 31) (h0 : -2147483648 ≤ x) (h1 : x ≤ 2147483647) : ∃ m : Int, 0 ≤ m ∧ m < 2 ^ d ∧ chF x d r = (x + m) / 2 ^ d := by
  obtain ⟨e1, e2, e3⟩ := mask_d ⟨d, by omega⟩
  simp only at e1 e2 e3
  unfold chF
  rw [BitVec.toNat_and, e1, e2, Nat.and_two_pow_sub_one_eq_mod, valF_id (by omega) (by omega)]
  have hm := Nat.mod_lt (BitVec.ofInt (IntKind.u64).bits r).toNat (show 0 < 2 ^ d from Nat.two_pow_pos d)
  generalize (BitVec.ofInt (IntKind.u64).bits r).toNat % 2 ^ d = m at hm ⊢
  have hp : ((2 ^ d : Nat) : Int) = (2 : Int) ^ d := by rw [Int.natCast_pow]; rfl
  refine ⟨m, by omega, by rw [← hp]; omega, ?_⟩
  rw [wrap_u64 (m : Int) (by omega) (by omega), wrap_i64 (m : Int) (by omega) (by omega), wrap_i64 (x + m) (by omega) (by omega), Int.fdiv_eq_ediv_of_nonneg _ (by rw [← hp]; omega)]


/-! ### Small facts -/
theorem chnF_zero {seed step layer what n : Int} {i : Nat} : chnF seed step layer what n 0 i = valF n := chF_zero
theorem clF8 (n : Int) : clF n 8 = greater (-127) (smaller (valF n) 127) := by
  unfold clF
  rw [topF8, wrap_i64 (0 - 127) (by omega) (by omega)]
  rfl
theorem clF8_rng (n : Int) : -127 ≤ clF n 8 ∧ clF n 8 ≤ 127 := by rw [clF8]; exact gs_rng _ _ _ (by omega)
theorem clF8_id {n : Int} (h1 : -127 ≤ n) (h2 : n ≤ 127) : clF n 8 = n := by
  rw [clF8, valF_id (by omega) (by omega)]
  unfold greater smaller
  split <;> split <;> omega
theorem cutC_rng (g : Bool) (n : Int) : -127 ≤ cutC g n ∧ cutC g n ≤ 127 := by
  unfold cutC
  have := clF8_rng (if g = true then nearF n 1 else n)
  rw [wrap_i8 _ (by omega) (by omega)]
  exact this
theorem cutC_id {n : Int} (h1 : -127 ≤ n) (h2 : n ≤ 127) : cutC false n = n := by
  unfold cutC
  rw [if_neg (by simp), clF8_id h1 h2, wrap_i8 _ (by omega) (by omega)]
theorem mov0 {m u : List Int} {i : Nat} (h : -1048576 ≤ u.getD i 0 ∧ u.getD i 0 ≤ 1048576) : movC 0 m u i = u.getD i 0 := by
  unfold movC
  rw [if_pos rfl, Int.zero_add, wrap_i64 (u.getD i 0) (by omega) (by omega), wrap_i64 (u.getD i 0) (by omega) (by omega)]
  have : greater (-1048576) (smaller (u.getD i 0) 1048576) = u.getD i 0 := by
    unfold greater smaller
    split <;> split <;> omega
  rw [this, wrap_i32 _ (by omega) (by omega)]

theorem awake_step : stepF (([1, 1], 0, [5]), [9], ([1], 0, [0])) (true, ([1, 1], 0, [2]), ([1], 0, [0])) (1, 8, 0, 0, 0, 0) 1 0 1 = ((([1, 1], 0, [3]), [2], ([1], 0, [0])), 0) := by
  have hs1 : dsmF (1, 8, 0, 0, 0, 0) 1 0 1 ([1, 1], 0, [2]) 3 = (([1, 1], 0, [2]), 0) := (small_id (by decide +kernel) (by decide)).1
  have hs2 : dsmF (1, 8, 0, 0, 0, 0) 1 0 1 ([1], 0, [0]) 5 = (([1], 0, [0]), 0) := (small_id (by decide +kernel) (by decide)).1
  have hm : movF 0 [9] [2] = [2] := by decide +kernel
  have hw : wgF (1, 8, 0, 0, 0, 0) 1 0 1 ([1, 1], 0, [5]) [2] = ([1, 1], 0, [3]) := by
    have e : wNs (1, 8, 0, 0, 0, 0) 1 0 1 [5] [2] 1 = [3] := by
      show [wN (1, 8, 0, 0, 0, 0) 1 0 1 [5] [2] 0] = _
      unfold wN
      simp only [chnF_zero]
      decide +kernel
    unfold wgF
    simp only
    rw [show ([5] : List Int).length = 1 from rfl, e]
    decide +kernel
  have hb : bsF (1, 8, 0, 0, 0, 0) 1 0 1 ([1], 0, [0]) [0] = ([1], 0, [0]) := by
    show ([1], 0, [bC (1, 8, 0, 0, 0, 0) 1 0 1 [0] [0] 0]) = _
    unfold bC
    simp only [chnF_zero]
    decide +kernel
  unfold stepF
  rw [if_neg (by decide +kernel), if_neg (by simp), if_neg (by decide +kernel)]
  simp only
  rw [hs1, hs2, if_neg (by simp), if_neg (by simp)]
  simp only
  rw [hm, hw, hb]
theorem awake21_v {Q : Bool → Prop} (h : Q true) : pedagoguelaw21_awake Q := by
  refine ⟨?_⟩
  unfold pedagoguelaw21_awake_t
  refine step_v (p := (([1, 1], 0, [5]), [9], ([1], 0, [0]))) (g := (true, ([1, 1], 0, [2]), ([1], 0, [0]))) (h := (1, 8, 0, 0, 0, 0)) (by simp) (by simp) (by simp) (by simp) (by simp) ?_
  rw [awake_step]
  exact ⟨by decide, by decide, h⟩

/-! ### OptimByHand -/
def wv (w : List Int) (i : Nat) : Int := greater (w.getD i 0) (-127)
def dv (g : List Int) (i : Nat) : Int := IntKind.i32.wrap (greater (g.getD i 0) (-127))
theorem wv_rng {w : List Int} (h : All8 w) (i : Nat) : -127 ≤ wv w i ∧ wv w i ≤ 127 := by
  have := h.at_ i
  unfold wv greater
  split <;> omega
theorem dv_eq {w : List Int} (h : All8 w) (i : Nat) : dv w i = wv w i := by
  have := wv_rng h i
  unfold dv
  exact wrap_i32 _ (by unfold wv at this; omega) (by unfold wv at this; omega)
noncomputable def xv (w g : List Int) (rate seed step : Int) (i : Nat) : Int := IntKind.i64.wrap ((IntKind.i64.wrap (wv w i)) - chnF seed step 3 4 (IntKind.i64.wrap (dv g i)) rate i)
theorem map_len (h : Nat → Int) (N : Nat) : ((List.range N).map h).length = N := by simp
theorem no_min {l : List Int} (h : ∀ x ∈ l, -127 ≤ x ∧ x ≤ 127) : -128 ∉ l := fun hm => by have := h _ hm; omega
theorem any_zero (N : Nat) : (List.replicate N (0 : Int)).any greatM = false := by
  rw [List.any_eq_false]
  intro x hx
  rw [(List.mem_replicate.1 hx).2]
  decide
theorem row_may {N : Nat} {e : Int} {l : List Int} (h1 : 1 ≤ N) (h2 : N ≤ 4096) (he : e = 0 ∨ e = 1) (hl : l.length = N) (hr : ∀ x ∈ l, -127 ≤ x ∧ x ≤ 127) : mayF ([1, (N : Int)], e, l) = true := by
  have es : szF [1, (N : Int)] = (N : Int) := by rw [szF2_of (by omega) (by omega) (by omega) (by omega) (by omega), Int.one_mul]
  refine mayF_of ?_ ?_ ?_ ?_ (no_min hr)
  · show 0 < szF [1, (N : Int)]; rw [es]; omega
  · show (l.length : Int) = szF [1, (N : Int)]; rw [es, hl]
  · show -64 ≤ e; omega
  · show e ≤ 64; omega
theorem one_may : mayF ([1], 0, [0]) = true := by decide +kernel
theorem hand_step {w g : List Int} {rate seed step : Int} {N : Nat} (hw : All8 w) (hg : All8 g) (h1 : 1 ≤ N) (h2 : N ≤ 100) (hr : 0 ≤ rate ∧ rate ≤ 20) (hs : 0 ≤ step ∧ step ≤ 1000000) :
    stepF (([1, (N : Int)], 0, (List.range N).map (wv w)), List.replicate N 0, ([1], 0, [0])) (true, ([1, (N : Int)], 0, (List.range N).map (dv g)), ([1], 0, [0])) (1, 8, rate, 0, 0, 0) seed step 3 =
      ((([1, (N : Int)], (if ((List.range N).map (xv w g rate seed step)).any over = true then 1 else 0), ((List.range N).map (xv w g rate seed step)).map (cutC (((List.range N).map (xv w g rate seed step)).any over))), (List.range N).map (dv g), bsF (1, 8, rate, 0, 0, 0) seed step 3 ([1], 0, [0]) [0]), 0) := by
  have mw : ∀ x ∈ (List.range N).map (wv w), -127 ≤ x ∧ x ≤ 127 := by
    intro x hx
    obtain ⟨i, _, rfl⟩ := List.mem_map.1 hx
    exact wv_rng hw i
  have md : ∀ x ∈ (List.range N).map (dv g), -127 ≤ x ∧ x ≤ 127 := by
    intro x hx
    obtain ⟨i, _, rfl⟩ := List.mem_map.1 hx
    rw [dv_eq hg]
    exact wv_rng hg i
  have k1 := row_may (e := 0) h1 (by omega) (.inl rfl) (map_len (wv w) N) mw
  have k2 := row_may (e := 0) h1 (by omega) (.inl rfl) (map_len (dv g) N) md
  have a2 := (mayF_inv k2).1
  have hs1 : dsmF (1, 8, rate, 0, 0, 0) seed step 3 ([1, (N : Int)], 0, (List.range N).map (dv g)) 3 = (([1, (N : Int)], 0, (List.range N).map (dv g)), 0) := (small_id k2 (fun x hx => by have := md x hx; omega)).1
  have hs2 : dsmF (1, 8, rate, 0, 0, 0) seed step 3 ([1], 0, [0]) 5 = (([1], 0, [0]), 0) := (small_id one_may (by decide)).1
  have hm : movF 0 (List.replicate N 0) ((List.range N).map (dv g)) = (List.range N).map (dv g) := by
    unfold movF
    rw [List.length_replicate]
    refine List.map_congr_left fun i hi => ?_
    have hi := List.mem_range.1 hi
    have e := map_get (h := dv g) hi
    rw [mov0 (by rw [e, dv_eq hg]; have := wv_rng hg i; omega), e]
  have hbad : badArgs (1, 8, rate, 0, 0, 0) step 3 = false := by
    unfold badArgs mayHF inB
    simp only [Bool.or_eq_false_iff, Bool.not_eq_false', Bool.and_eq_true, decide_eq_true_eq]
    omega
  have hmay : mayPGF (([1, (N : Int)], 0, (List.range N).map (wv w)), List.replicate N 0, ([1], 0, [0])) (true, ([1, (N : Int)], 0, (List.range N).map (dv g)), ([1], 0, [0])) = 0 := by
    unfold mayPGF badPG
    simp only
    rw [k1, one_may, a2, (mayF_inv one_may).1, any_zero]
    simp
  have hwn : wNs (1, 8, rate, 0, 0, 0) seed step 3 ((List.range N).map (wv w)) ((List.range N).map (dv g)) N = (List.range N).map (xv w g rate seed step) := by
    unfold wNs
    refine List.map_congr_left fun i hi => ?_
    have hi := List.mem_range.1 hi
    unfold wN xv
    simp only
    rw [map_get hi, map_get hi, if_neg (by omega)]
  unfold stepF
  rw [hbad, if_neg (by simp), if_neg (by simp), hmay, if_neg (by simp)]
  simp only
  rw [hs1, hs2, if_neg (by simp), if_neg (by simp)]
  simp only
  rw [hm]
  unfold wgF
  simp only
  rw [map_len, hwn]
  have e64 : decide ((0 : Int) < 64) = true := by decide
  rw [e64, Bool.and_true]
  have e1 : IntKind.i64.wrap (0 + 1) = 1 := by decide
  rw [e1]
theorem smaller_nat (a b : Nat) : smaller (a : Int) (b : Int) = ((min a b : Nat) : Int) := by
  unfold smaller
  split <;> omega
theorem modq (a : Int) (q : Nat) (h1 : 1 ≤ q) (h2 : q ≤ 1000) : 0 ≤ IntKind.i64.wrap ((IntKind.u64.wrap a).tmod (q : Int)) ∧ IntKind.i64.wrap ((IntKind.u64.wrap a).tmod (q : Int)) < q := by
  have h0 : 0 ≤ IntKind.u64.wrap a := by
    simp only [IntKind.wrap, IntKind.bits, IntKind.signed]
    simp
    omega
  generalize IntKind.u64.wrap a = u at h0
  have h3 : u.tmod (q : Int) = u % (q : Int) := Int.tmod_eq_emod_of_nonneg h0
  have h4 := Int.emod_nonneg u (show (q : Int) ≠ 0 by omega)
  have h5 := Int.emod_lt_of_pos u (show 0 < (q : Int) by omega)
  rw [h3, wrap_i64 _ (by omega) (by omega)]
  exact ⟨h4, h5⟩
theorem hand_law {w g : List Int} {a seed b : Int} {Q : Bool → Prop} (hw : All8 w) (hg : All8 g) (h : Q true) : pedagoguelaw21_OptimByHand w g a seed b Q := by
  refine ⟨?_⟩
  unfold pedagoguelaw21_OptimByHand_t
  have e0 : smaller (smaller (w.length : Int) (g.length : Int)) 100 = ((min (min w.length g.length) 100 : Nat) : Int) := by
    rw [smaller_nat]
    exact smaller_nat _ 100
  rw [e0]
  have hNw : min (min w.length g.length) 100 ≤ w.length := by omega
  have hNg : min (min w.length g.length) 100 ≤ g.length := by omega
  have hN2 : min (min w.length g.length) 100 ≤ 100 := by omega
  generalize min (min w.length g.length) 100 = N at hNw hNg hN2 ⊢
  by_cases hz : N = 0
  · rw [if_pos (by rw [hz]; rfl)]
    exact awake21_v h
  · rw [if_neg (by simpa using hz)]
    obtain ⟨r1, r2⟩ := modq a 9 (by omega) (by omega)
    obtain ⟨s1, s2⟩ := modq b 1000 (by omega) (by omega)
    have r1 : 0 ≤ IntKind.i64.wrap ((IntKind.u64.wrap a).tmod 9) := r1
    have r2 : IntKind.i64.wrap ((IntKind.u64.wrap a).tmod 9) < 9 := r2
    have s1 : 0 ≤ IntKind.i64.wrap ((IntKind.u64.wrap b).tmod 1000) := s1
    have s2 : IntKind.i64.wrap ((IntKind.u64.wrap b).tmod 1000) < 1000 := s2
    generalize IntKind.i64.wrap ((IntKind.u64.wrap a).tmod 9) = rate at r1 r2 ⊢
    generalize IntKind.i64.wrap ((IntKind.u64.wrap b).tmod 1000) = step at s1 s2 ⊢
    refine ⟨by omega, by omega, ⟨by omega, by omega⟩, ⟨by omega, by omega⟩, ⟨by omega, by omega⟩, ⟨?_⟩⟩
    unfold pedagoguelaw21_OptimByHand_n255_t
    rw [Int.toNat_natCast]
    have hA : (List.replicate N (0 : Int)).length = N := by simp
    rw [show (false, (0 : Int), ([] : List Int), List.replicate N (0 : Int), List.replicate N (0 : Int)) = ((fun i : Nat => (((List.range i).map (xv w g rate seed step)).any over, (i : Int), (List.range i).map (xv w g rate seed step), upTo (wv w) (List.replicate N 0) i, upTo (dv g) (List.replicate N 0) i)) 0) from by
      show _ = (([] : List Int).any over, ((0 : Nat) : Int), ([] : List Int), upTo (wv w) (List.replicate N 0) 0, upTo (dv g) (List.replicate N 0) 0)
      rw [upTo_zero, upTo_zero]
      rfl]
    refine ⟨?_⟩
    refine Loop.range (B := pedagoguelaw21_OptimByHand_n8186_B w g rate seed step (N : Int) _) (f := fun i : Nat => (((List.range i).map (xv w g rate seed step)).any over, (i : Int), (List.range i).map (xv w g rate seed step), upTo (wv w) (List.replicate N 0) i, upTo (dv g) (List.replicate N 0) i)) N (fun _ => True) trivial ?_ ?_
    · intro i hi _ X hX
      have hX := hX trivial
      unfold pedagoguelaw21_OptimByHand_n8186_B
      rw [if_pos (decide_eq_true (show (i : Int) < (N : Int) by omega))]
      dsimp only at hX ⊢
      rw [Int.toNat_natCast]
      have ew : greater (w.getD i 0) (-127) = wv w i := rfl
      have ed : IntKind.i32.wrap (greater (g.getD i 0) (-127)) = dv g i := rfl
      rw [ew, ed, upTo_set (by omega), upTo_set (by omega)]
      have g1 : (upTo (wv w) (List.replicate N 0) (i + 1)).getD i 0 = wv w i := by
        unfold upTo
        rw [List.getD_eq_getElem?_getD, List.getElem?_append_left (by simp), ← List.getD_eq_getElem?_getD, map_get (by omega)]
      have g2 : (upTo (dv g) (List.replicate N 0) (i + 1)).getD i 0 = dv g i := by
        unfold upTo
        rw [List.getD_eq_getElem?_getD, List.getElem?_append_left (by simp), ← List.getD_eq_getElem?_getD, map_get (by omega)]
      rw [g1, g2]
      simp only [upTo_len (h := wv w) (A := List.replicate N 0) (j := i) (by omega), upTo_len (h := dv g) (A := List.replicate N 0) (j := i) (by omega), upTo_len (h := wv w) (A := List.replicate N 0) (j := i + 1) (by omega), upTo_len (h := dv g) (A := List.replicate N 0) (j := i + 1) (by omega), List.length_replicate]
      refine ⟨by omega, by omega, by omega, by omega, by omega, by omega, stream_v (at_v (chance_v ⟨?_⟩))⟩
      unfold pedagoguelaw21_OptimByHand_n4191439_t
      have ex : IntKind.i64.wrap ((IntKind.i64.wrap (wv w i)) - chF (IntKind.i64.wrap (dv g i)) rate (atF seed (streamF step 3 4) (IntKind.u64.wrap (i : Int)))) = xv w g rate seed step i := rfl
      rw [ex]
      refine ⟨by simp only [List.length_map, List.length_range, List.length_singleton]; omega, ?_⟩
      rw [wrap_i64 ((i : Int) + 1) (by omega) (by omega)]
      rw [List.range_succ, List.map_append, List.any_append] at hX
      have e2 : ((((List.range i).map (xv w g rate seed step)).any over || ([i].map (xv w g rate seed step)).any over)) = ((((List.range i).map (xv w g rate seed step)).any over || decide (127 < xv w g rate seed step i)) || decide (xv w g rate seed step i < -127)) := by
        simp [over, Bool.or_assoc]
      rw [e2] at hX
      exact hX
    · intro _ X
      unfold pedagoguelaw21_OptimByHand_n8186_B
      rw [if_neg (by simp)]
      dsimp only
      have f1 := upTo_all (h := wv w) (A := List.replicate N 0)
      have f2 := upTo_all (h := dv g) (A := List.replicate N 0)
      rw [hA] at f1 f2
      rw [f1, f2]
      refine step_v (p := (([1, (N : Int)], 0, (List.range N).map (wv w)), List.replicate N 0, ([1], 0, [0]))) (g := (true, ([1, (N : Int)], 0, (List.range N).map (dv g)), ([1], 0, [0]))) (h := (1, 8, rate, 0, 0, 0)) (by simp) (by simp; omega) (by simp; omega) (by simp) (by simp) ?_
      rw [hand_step hw hg (by omega) hN2 (by omega) (by omega)]
      have lx := map_len (xv w g rate seed step) N
      have gx : ∀ i, i < N → ((List.range N).map (xv w g rate seed step)).getD i 0 = xv w g rate seed step i := fun i hi => map_get hi
      generalize (List.range N).map (xv w g rate seed step) = L at lx ⊢
      dsimp only
      rw [if_neg (by
        rw [List.length_map, lx, map_len]
        cases hg2 : L.any over <;> simp)]
      refine ⟨?_⟩
      unfold pedagoguelaw21_OptimByHand_n8191_t
      rw [lx]
      refine ⟨?_⟩
      refine Loop.range (B := pedagoguelaw21_OptimByHand_n65530_B (L.any over) (N : Int) L ((List.range N).map (dv g)) (L.map (cutC (L.any over))) ((List.range N).map (dv g)) _ _) N (fun i => (i : Int)) (fun _ => True) trivial ?_ ?_
      · intro i hi _ X hX
        have hX := hX trivial
        unfold pedagoguelaw21_OptimByHand_n65530_B
        rw [if_pos (decide_eq_true (show (i : Int) < (N : Int) by omega))]
        refine ⟨by omega, ?_⟩
        rw [Int.toNat_natCast]
        have hget : (L.map (cutC (L.any over))).getD i 0 = cutC (L.any over) (L.getD i 0) := by
          rw [List.getD_eq_getElem?_getD, List.getElem?_map, List.getD_eq_getElem?_getD, List.getElem?_eq_getElem (by omega)]
          rfl
        have fin : ∀ n : Int, n = (if L.any over = true then nearF (L.getD i 0) 1 else L.getD i 0) → ∀ K0 K1 : Unit → Prop, K0 () → pedagoguelaw21_OptimByHand_n8387891 (i : Int) n ((List.range N).map (dv g)) (L.map (cutC (L.any over))) ((List.range N).map (dv g)) K0 K1 := by
          intro n hn K0 K1 hK
          refine ⟨?_⟩
          unfold pedagoguelaw21_OptimByHand_n8387891_t
          refine ⟨⟨by omega, by simp; omega⟩, clamp_v ?_⟩
          rw [Int.toNat_natCast, hget]
          have hc : cutC (L.any over) (L.getD i 0) = clF n 8 := by
            unfold cutC
            rw [← hn]
            have := clF8_rng n
            exact wrap_i8 _ (by omega) (by omega)
          have hr := clF8_rng n
          show (if (IntKind.i64.wrap (cutC (L.any over) (L.getD i 0)) != clF n 8) = true then _ else _)
          rw [hc, wrap_i64 _ (by omega) (by omega), if_neg (by simp)]
          refine ⟨⟨by omega, by simp; omega⟩, ⟨by omega, by simp; omega⟩, ?_⟩
          show (if (IntKind.i64.wrap (((List.range N).map (dv g)).getD i 0) != IntKind.i64.wrap (((List.range N).map (dv g)).getD i 0)) = true then K1 () else K0 ())
          rw [if_neg (by simp)]
          exact hK
        by_cases ho : L.any over = true
        · rw [if_pos ho]
          refine near_v (fin _ (by rw [if_pos ho]) _ _ ?_)
          rw [wrap_i64 ((i : Int) + 1) (by omega) (by omega)]
          exact hX
        · rw [if_neg ho]
          refine fin _ (by rw [if_neg ho]) _ _ ?_
          rw [wrap_i64 ((i : Int) + 1) (by omega) (by omega)]
          exact hX
      · intro _ X
        unfold pedagoguelaw21_OptimByHand_n65530_B
        rw [if_neg (by simp)]
        refine rmayT_v ?_
        rw [row_may (e := if L.any over = true then 1 else 0) (by omega) (by omega) (by split <;> simp) (by simp [lx]) (by
          intro x hx
          obtain ⟨y, _, rfl⟩ := List.mem_map.1 hx
          exact cutC_rng _ y)]
        exact awake21_v h
theorem hand_walk {a0 a1 : Option Addr} {l0 c0 l1 c1 : Nat} {z0 z1 : List Int} {r s t : Int} {w : World} (t0 : RowH .i8 w a0 l0 c0 z0) (t1 : RowH .i8 w a1 l1 c1 z1) :
    Calls Try.prog 11 #[.slice a0 l0 c0, .slice a1 l1 c1, .int .i64 r, .int .u64 s, .int .i64 t] w fun e w' => e = .returned (.bool true) ∧ Below w.heap.size w w' :=
  law_calls (azz := [.slice a0 l0 c0, .slice a1 l1 c1, .int .i64 r, .int .u64 s, .int .i64 t]) (by kernel_rfl)
    (pedagoguelaw21_OptimByHand_snd (z0.take l0, z1.take l1, r, s, t, ()) _ (hand_law (fun x hx => i8_rng ((row_RSl t0).2.2.2.1 x hx)) (fun x hx => i8_rng ((row_RSl t1).2.2.2.1 x hx)) (law_true rfl)))
    (.cons (row_R2 t0) (.cons (row_R2 t1) (.cons int_R2 (.cons int_R2 (.cons int_R2 .nil)))))
    (by
      intro x hx
      simp only [List.mem_cons, List.not_mem_nil, or_false] at hx
      rcases hx with rfl | rfl | rfl | rfl | rfl
      · exact (row_RSl t0).2.2.1
      · exact (row_RSl t1).2.2.1
      all_goals exact .int _ _)

end Go.Proofs.Ytlbapaelkdpjcaa
