/- The law OptimStill, plainly. No condition. -/
import Derived.Test.YtlbapaelkdpjcaaO3
import Derived.Test.YtlbapaelkdpjcaaZero
namespace Go.Proofs.Ytlbapaelkdpjcaa
open Go.Mach Go.RowKit
set_option maxRecDepth 100000
set_option linter.unusedVariables false
set_option linter.unusedSimpArgs false

theorem fdiv_rng {a L U p : Int} (hp : 1 ≤ p) (hL : L ≤ 0) (hU : 0 ≤ U) (h1 : L ≤ a) (h2 : a ≤ U) : L ≤ a.fdiv p ∧ a.fdiv p ≤ U := by
  rw [Int.fdiv_eq_ediv_of_nonneg _ (by omega)]
  constructor
  · rw [Int.le_ediv_iff_mul_le (by omega)]
    have : L * p ≤ L * 1 := Int.mul_le_mul_of_nonpos_left hL hp
    omega
  · have := Int.ediv_le_ediv (c := p) (by omega) h2
    have := Int.ediv_le_self (a := U) p hU
    omega

theorem chF_nought {r s : Int} (h1 : 0 ≤ s) (h2 : s ≤ 20) : chF 0 s r = 0 := by
  obtain ⟨m, k1, k2, k3⟩ := chF_k (x := 0) (r := r) (d := s.toNat) (by omega) (by omega) (by omega)
  rw [show ((s.toNat : Nat) : Int) = s by omega] at k3
  rw [k3, Int.zero_add]
  exact Int.ediv_eq_zero_of_lt k1 k2
theorem wrap0 : IntKind.i64.wrap 0 = 0 := by decide
theorem zeros_rng (N : Nat) : ∀ x ∈ List.replicate N (0 : Int), -127 ≤ x ∧ x ≤ 127 := by
  intro x hx
  rw [(List.mem_replicate.1 hx).2]
  omega
/-- A step with a gradient of noughts. -/
theorem step_still {p : Prm} {h : Hyp} {seed step layer : Int} (hp : mayPrmF p = true) (hh : mayHF h = true) (hs : 0 ≤ step ∧ step ≤ 1000000) (hl : 1 ≤ layer ∧ layer ≤ 12) :
    stepF p (true, (p.1.1, 0, List.replicate p.1.2.2.length 0), (p.2.2.1, 0, List.replicate p.2.2.2.2.length 0)) h seed step layer =
      ((wgF h seed step layer p.1 (movF h.2.2.2.1 p.2.1 (List.replicate p.1.2.2.length 0)), movF h.2.2.2.1 p.2.1 (List.replicate p.1.2.2.length 0), bsF h seed step layer p.2.2 (List.replicate p.2.2.2.2.length 0)), 0) := by
  obtain ⟨k1, k2, k3⟩ := mayPGF_of (v1 := List.replicate p.1.2.2.length 0) (v2 := List.replicate p.2.2.2.2.length 0) hp (by simp) (by simp) (no_min (zeros_rng _)) (no_min (zeros_rng _))
  have hw := mayHF_inv hh
  have hs1 : dsmF h seed step layer (p.1.1, 0, List.replicate p.1.2.2.length 0) 3 = ((p.1.1, 0, List.replicate p.1.2.2.length 0), 0) := (small_zero k2 ⟨hw.1, hw.2.1⟩).1
  have hs2 : dsmF h seed step layer (p.2.2.1, 0, List.replicate p.2.2.2.2.length 0) 5 = ((p.2.2.1, 0, List.replicate p.2.2.2.2.length 0), 0) := (small_zero k3 ⟨hw.1, hw.2.1⟩).1
  unfold stepF
  rw [badArgs_of hh hs hl, if_neg (by simp), if_neg (by simp), k1, if_neg (by simp)]
  simp only
  rw [hs1, hs2, if_neg (by simp), if_neg (by simp)]
theorem down0 (s : Int) : downF 0 s = 0 := by
  unfold downF
  rw [val0]
  exact Int.zero_fdiv _
theorem mov_zero {mom : Int} {N K : Nat} : movF mom (List.replicate N 0) (List.replicate K 0) = List.replicate N 0 := by
  unfold movF
  rw [List.length_replicate]
  refine List.ext_getElem (by simp) fun i h1 h2 => ?_
  simp only [List.getElem_map, List.getElem_range, List.getElem_replicate]
  unfold movC
  rw [rep_get, rep_get, wrap0, down0]
  split <;> decide
theorem may_rng {t : T3} (h : mayF t = true) (h8 : All8 t.2.2) (i : Nat) : -127 ≤ t.2.2.getD i 0 ∧ t.2.2.getD i 0 ≤ 127 := by
  have h1 := h8.at_ i
  have : t.2.2.getD i 0 ≠ -128 := by
    intro e
    apply (mayF_inv h).2.2.2
    rw [List.getD_eq_getElem?_getD] at e
    cases hq : t.2.2[i]? with
    | none => rw [hq] at e; cases e
    | some y => rw [hq] at e; simp only [Option.getD_some] at e; rw [← e]; exact List.mem_of_getElem? hq
  omega
theorem map_self {f : Nat → Int} {l : List Int} (h : ∀ i, i < l.length → f i = l.getD i 0) : (List.range l.length).map f = l := by
  refine List.ext_getElem (by simp) fun i h1 h2 => ?_
  simp only [List.getElem_map, List.getElem_range]
  rw [h i h2, List.getD_eq_getElem?_getD, List.getElem?_eq_getElem h2]
  rfl
theorem wg_still {h : Hyp} {seed step layer : Int} {w : T3} {N : Nat} (hw : mayF w = true) (h8 : All8 w.2.2) (hr : 0 ≤ h.2.2.1 ∧ h.2.2.1 ≤ 20) (hd : h.2.2.2.2.1 = 0) : wgF h seed step layer w (List.replicate N 0) = w := by
  have e : wNs h seed step layer w.2.2 (List.replicate N 0) w.2.2.length = w.2.2 := by
    unfold wNs
    refine map_self fun i hi => ?_
    have hx := may_rng hw h8 i
    unfold wN chnF
    rw [hd, rep_get, wrap0]
    simp only
    rw [if_neg (by omega), chF_nought hr.1 hr.2, Int.sub_zero, wrap_i64 (w.2.2.getD i 0) (by omega) (by omega), wrap_i64 (w.2.2.getD i 0) (by omega) (by omega)]
  have eo : w.2.2.any over = false := by
    rw [List.any_eq_false]
    intro x hx
    obtain ⟨i, hi, rfl⟩ := List.getElem_of_mem hx
    have := may_rng hw h8 i
    rw [List.getD_eq_getElem?_getD, List.getElem?_eq_getElem hi] at this
    simp only [Option.getD_some] at this
    unfold over
    simp
    omega
  unfold wgF
  rw [e]
  show (w.1, (if (w.2.2.any over && decide (w.2.1 < 64)) = true then IntKind.i64.wrap (w.2.1 + 1) else w.2.1), w.2.2.map (cutC (w.2.2.any over && decide (w.2.1 < 64)))) = w
  rw [eo]
  simp only [Bool.false_and, Bool.false_eq_true, if_false]
  have ed : w.2.2.map (cutC false) = w.2.2 := by
    refine List.ext_getElem (by simp) fun i h1 h2 => ?_
    simp only [List.getElem_map]
    have := may_rng hw h8 i
    rw [List.getD_eq_getElem?_getD, List.getElem?_eq_getElem h2] at this
    simp only [Option.getD_some] at this
    exact cutC_id this.1 this.2
  rw [ed]
theorem bs_still {h : Hyp} {seed step layer : Int} {b : T3} {N : Nat} (hb : mayF b = true) (h8 : All8 b.2.2) (hr : 0 ≤ h.2.2.1 ∧ h.2.2.1 ≤ 20) : bsF h seed step layer b (List.replicate N 0) = b := by
  have e : (List.range b.2.2.length).map (bC h seed step layer b.2.2 (List.replicate N 0)) = b.2.2 := by
    refine map_self fun i hi => ?_
    have hx := may_rng hb h8 i
    unfold bC chnF
    rw [rep_get, wrap0, chF_nought hr.1 hr.2, Int.sub_zero, wrap_i64 (b.2.2.getD i 0) (by omega) (by omega), wrap_i64 (b.2.2.getD i 0) (by omega) (by omega), clF8_id hx.1 hx.2, wrap_i8 _ (by omega) (by omega)]
  unfold bsF
  rw [e]
theorem down_rng {x s : Int} (hx : -1048576 ≤ x ∧ x ≤ 1048576) : (0 ≤ x → 0 ≤ downF x s ∧ downF x s ≤ x) ∧ (x ≤ 0 → x ≤ downF x s ∧ downF x s ≤ 0) := by
  unfold downF
  rw [valF_id (by omega) (by omega)]
  have hp := (pow2_le (min (shF s).toNat (IntKind.i64).bits) _ (Nat.le_refl _)).1
  exact ⟨fun h => fdiv_rng hp (by omega) h h (Int.le_refl _), fun h => fdiv_rng hp h (by omega) (Int.le_refl _) h⟩
theorem fade {mom : Int} {m : List Int} {N i : Nat} (hm : -1048576 ≤ m.getD i 0 ∧ m.getD i 0 ≤ 1048576) :
    (mom = 0 → movC mom m (List.replicate N 0) i = 0) ∧ smaller (m.getD i 0) 0 ≤ movC mom m (List.replicate N 0) i ∧ movC mom m (List.replicate N 0) i ≤ greater (m.getD i 0) 0 := by
  unfold movC
  rw [rep_get, wrap0, Int.add_zero]
  generalize m.getD i 0 = x at hm
  rw [wrap_i64 x (by omega) (by omega)]
  obtain ⟨d1, d2⟩ := down_rng (s := mom) hm
  by_cases h0 : mom = 0
  · rw [if_pos h0]
    have : IntKind.i32.wrap (greater (-1048576) (smaller (IntKind.i64.wrap 0) 1048576)) = 0 := by decide
    rw [this]
    refine ⟨fun _ => rfl, ?_, ?_⟩
    · unfold smaller; split <;> omega
    · unfold greater; split <;> omega
  · rw [if_neg h0]
    generalize downF x mom = d at d1 d2
    have hd : -1048576 ≤ x - d ∧ x - d ≤ 1048576 := by
      rcases Int.le_total 0 x with h | h
      · have := d1 h; omega
      · have := d2 h; omega
    rw [wrap_i64 (x - d) (by omega) (by omega), wrap_i64 (x - d) (by omega) (by omega)]
    have hc : greater (-1048576) (smaller (x - d) 1048576) = x - d := by
      unfold greater smaller
      split <;> split <;> omega
    rw [hc, wrap_i32 _ (by omega) (by omega)]
    refine ⟨fun h => absurd h h0, ?_, ?_⟩
    · unfold smaller
      rcases Int.le_total 0 x with h | h
      · have := d1 h; split <;> omega
      · have := d2 h; split <;> omega
    · unfold greater
      rcases Int.le_total 0 x with h | h
      · have := d1 h; split <;> omega
      · have := d2 h; split <;> omega
theorem m_rng {p : Prm} (hp : mayPrmF p = true) (i : Nat) : -1048576 ≤ p.2.1.getD i 0 ∧ p.2.1.getD i 0 ≤ 1048576 := by
  have ha := (mayPrmF_inv hp).2.2.2.2
  rw [List.any_eq_false] at ha
  rw [List.getD_eq_getElem?_getD]
  cases hq : p.2.1[i]? with
  | none => simp
  | some y =>
    have := ha y (List.mem_of_getElem? hq)
    unfold greatM at this
    simp only [Bool.or_eq_true, decide_eq_true_eq, not_or] at this
    simp only [Option.getD_some]
    omega
theorem still_law {p : Prm} {h : Hyp} {seed t : Int} {Q : Bool → Prop} (h1 : All8 p.1.2.2) (h2 : All8 p.2.2.2.2) (hq : Q true) : pedagoguelaw21_OptimStill p h seed t Q := by
  refine ⟨?_⟩
  unfold pedagoguelaw21_OptimStill_t
  have q1 : 0 ≤ IntKind.i64.wrap ((IntKind.u64.wrap t).tmod 1000) ∧ IntKind.i64.wrap ((IntKind.u64.wrap t).tmod 1000) < 1000 := modq t 1000 (by omega) (by omega)
  generalize IntKind.i64.wrap ((IntKind.u64.wrap t).tmod 1000) = step at q1 ⊢
  refine ⟨by omega, mayPrm_v (p := p) ?_⟩
  refine or_v (b := !mayPrmF p) (c := !mayHF h) (fun P hp => rmayH_v (h := h) hp) (fun v2 e2 => ?_) rfl
  by_cases hv : (v2 || decide (300 < (p.1.2.2.length : Int))) = true
  · rw [if_pos hv]; exact awake21_v hq
  · rw [if_neg hv]
    have hv2 : v2 = false := by
      cases v2 with
      | true => exact absurd rfl hv
      | false => rfl
    rw [hv2] at e2
    have e2 := e2.symm
    simp only [Bool.or_eq_false_iff, Bool.not_eq_false'] at e2
    obtain ⟨hp, hh⟩ := e2
    have hl := mayPrmF_lens hp
    have hl1 := hl.wd; have hl2 := hl.wv; have hl3 := hl.m; have hl4 := hl.bd; have hl5 := hl.bv
    obtain ⟨m1, m2, m3, m4, m5⟩ := mayPrmF_inv hp
    refine step_v (p := p) (g := (false, Z3, Z3)) (h := h) (by omega) (by omega) (by omega) (by omega) (by omega) ?_
    have ea : stepF p (false, Z3, Z3) h seed step 1 = (p, 0) := by
      unfold stepF
      rw [badArgs_of hh ⟨q1.1, by omega⟩ (by omega), if_neg (by simp), if_pos (by rfl)]
    rw [ea]
    simp only [jn]
    rw [if_neg (by simp)]
    refine one_v (a := p) (one_v (a := p) (sameP_refl (a := p) hl ?_))
    rw [if_neg (by simp)]
    refine ⟨?_⟩
    unfold pedagoguelaw21_OptimStill_n63_t
    simp only [Int.toNat_natCast]
    refine ⟨⟨by omega, by omega⟩, ⟨by omega, by omega⟩, ⟨by omega, by omega⟩, ?_⟩
    have hw := mayHF_inv hh
    have hh' : mayHF (h.1, h.2.1, h.2.2.1, h.2.2.2.1, 0, h.2.2.2.2.2) = true := by
      unfold mayHF inB at hh ⊢
      simp only [Bool.and_eq_true, decide_eq_true_eq] at hh ⊢
      omega
    -- without anything in M
    have hp0 : mayPrmF (p.1, List.replicate p.2.1.length 0, p.2.2) = true := by
      unfold mayPrmF
      simp only
      rw [m1, m2, any_zero, List.length_replicate, m4, m3]
      simp
    refine step_v (p := (p.1, List.replicate p.2.1.length 0, p.2.2)) (g := (true, (p.1.1, 0, List.replicate p.1.2.2.length 0), (p.2.2.1, 0, List.replicate p.2.2.2.2.length 0))) (h := (h.1, h.2.1, h.2.2.1, h.2.2.2.1, 0, h.2.2.2.2.2)) (by show p.1.1.length ≤ _; omega) (by show p.1.2.2.length ≤ _; omega) (by show (List.replicate _ _).length ≤ _; simp; omega) (by show p.2.2.1.length ≤ _; omega) (by show p.2.2.2.2.length ≤ _; omega) ?_
    have eb := step_still (seed := seed) (step := step) (layer := 1) hp0 hh' ⟨q1.1, by omega⟩ (by omega)
    simp only at eb
    rw [mov_zero, wg_still m1 h1 (by show 0 ≤ h.2.2.1 ∧ h.2.2.1 ≤ 20; omega) rfl, bs_still m2 h2 (by show 0 ≤ h.2.2.1 ∧ h.2.2.1 ≤ 20; omega)] at eb
    rw [eb]
    refine ⟨?_⟩
    unfold pedagoguelaw21_OptimStill_n2047_t
    refine step_v (p := p) (g := (true, (p.1.1, 0, List.replicate p.1.2.2.length 0), (p.2.2.1, 0, List.replicate p.2.2.2.2.length 0))) (h := (h.1, h.2.1, h.2.2.1, h.2.2.2.1, 0, h.2.2.2.2.2)) (by omega) (by omega) (by omega) (by omega) (by omega) ?_
    have ec := step_still (seed := seed) (step := step) (layer := 1) hp hh' ⟨q1.1, by omega⟩ (by omega)
    simp only at ec
    rw [ec]
    simp only [jn]
    rw [if_neg (by simp)]
    have hl0 : Lens (p.1, List.replicate p.2.1.length 0, p.2.2) := ⟨hl1, hl2, by show (List.replicate _ _).length ≤ _; simp; omega, hl4, hl5⟩
    refine one_v (a := (p.1, List.replicate p.2.1.length 0, p.2.2)) (one_v (a := (p.1, List.replicate p.2.1.length 0, p.2.2)) (sameP_refl (a := (p.1, List.replicate p.2.1.length 0, p.2.2)) hl0 ?_))
    have hml : (movF h.2.2.2.1 p.2.1 (List.replicate p.1.2.2.length 0)).length = p.2.1.length := by simp [movF]
    rw [hml, if_neg (by simp)]
    refine ⟨?_⟩
    refine Loop.range (B := pedagoguelaw21_OptimStill_n65530_B p.2.1 (p.2.1.length : Int) h.2.2.2.1 (movF h.2.2.2.1 p.2.1 (List.replicate p.1.2.2.length 0)) _ _) p.2.1.length (fun i => (i : Int)) (fun _ => True) trivial ?_ ?_
    · intro i hi _ X hX
      have hX := hX trivial
      unfold pedagoguelaw21_OptimStill_n65530_B
      rw [if_pos (decide_eq_true (show (i : Int) < (p.2.1.length : Int) by omega))]
      obtain ⟨f1, f2, f3⟩ := fade (mom := h.2.2.2.1) (N := p.1.2.2.length) (m_rng hp i)
      have hg : (movF h.2.2.2.1 p.2.1 (List.replicate p.1.2.2.length 0)).getD i 0 = movC h.2.2.2.1 p.2.1 (List.replicate p.1.2.2.length 0) i := map_get hi
      refine ⟨by omega, ?_⟩
      simp only [jn, Int.toNat_natCast, hg, hml]
      generalize movC h.2.2.2.1 p.2.1 (List.replicate p.1.2.2.length 0) i = c at f1 f2 f3 ⊢
      have tail : (if (false : Bool) = true then True else True) := by simp
      have fin : ck (0 ≤ (i : Int) ∧ (i : Int) < (p.2.1.length : Int)) (if decide (c < smaller (p.2.1.getD i 0) 0) = true then (if true = true then Q false else X (IntKind.i64.wrap ((i : Int) + 1))) else ck (0 ≤ (i : Int) ∧ (i : Int) < (p.2.1.length : Int)) (if decide (greater (p.2.1.getD i 0) 0 < c) = true then Q false else X (IntKind.i64.wrap ((i : Int) + 1)))) := by
        refine ⟨by omega, ?_⟩
        rw [if_neg (by rw [decide_eq_true_eq]; omega)]
        refine ⟨by omega, ?_⟩
        rw [if_neg (by rw [decide_eq_true_eq]; omega), wrap_i64 ((i : Int) + 1) (by omega) (by omega)]
        exact hX
      by_cases h0 : h.2.2.2.1 = 0
      · rw [if_pos (by rw [h0]; rfl)]
        refine ⟨by omega, ?_⟩
        rw [f1 h0]
        rw [f1 h0] at fin
        simpa using fin
      · rw [if_neg (by simpa using h0)]
        simpa using fin
    · intro _ X
      unfold pedagoguelaw21_OptimStill_n65530_B
      rw [if_neg (by simp)]
      exact awake21_v hq

end Go.Proofs.Ytlbapaelkdpjcaa
