/- The laws OptimWithin, OptimSame, OptimStill, plainly. No condition. -/
import Derived.Test.YtlbapaelkdpjcaaO2
namespace Go.Proofs.Ytlbapaelkdpjcaa
open Go.Mach Go.RowKit
set_option maxRecDepth 100000
set_option linter.unusedVariables false
set_option linter.unusedSimpArgs false

/-! ### Weights: may they be, are they the same -/
def mayPrmF (p : Prm) : Bool := (((mayF p.1 && mayF p.2.2) && ((p.2.2.1.length : Int) == 1)) && ((p.2.1.length : Int) == (p.1.2.2.length : Int))) && !p.2.1.any greatM
theorem mayPrmF_inv {p : Prm} (h : mayPrmF p = true) : mayF p.1 = true ∧ mayF p.2.2 = true ∧ p.2.2.1.length = 1 ∧ p.2.1.length = p.1.2.2.length ∧ p.2.1.any greatM = false := by
  unfold mayPrmF at h
  simp only [Bool.and_eq_true, beq_iff_eq, Bool.not_eq_true'] at h
  exact ⟨h.1.1.1.1, h.1.1.1.2, by omega, by omega, h.2⟩
structure Lens (p : Prm) : Prop where
  wd : p.1.1.length ≤ 4
  wv : p.1.2.2.length ≤ 8192
  m : p.2.1.length ≤ 8192
  bd : p.2.2.1.length ≤ 4
  bv : p.2.2.2.2.length ≤ 8192
theorem mayPrmF_lens {p : Prm} (h : mayPrmF p = true) : Lens p := by
  obtain ⟨m1, m2, m3, m4, _⟩ := mayPrmF_inv h
  obtain ⟨_, _, _, d1, f1⟩ := mayAccF_len (mayF_inv m1).1
  obtain ⟨_, _, _, d2, f2⟩ := mayAccF_len (mayF_inv m2).1
  exact ⟨d1, f1, by omega, d2, f2⟩
theorem mayPrm_v {p : Prm} {Q : Bool → Prop} (h : Q (mayPrmF p)) : pedagogueref10_MayParam p Q := by
  refine ⟨?_⟩
  unfold pedagogueref10_MayParam_t
  refine rmay_v (by simp) ?_
  have eall : ([(p.1.1, (p.1.2.1, p.1.2.2)), (p.2.2.1, (p.2.2.2.1, p.2.2.2.2))] : List T3).all mayF = (mayF p.1 && mayF p.2.2) := by
    show (mayF p.1 && (mayF p.2.2 && true)) = _
    rw [Bool.and_true]
  rw [eall]
  by_cases hc : (((!(mayF p.1 && mayF p.2.2)) || ((p.2.2.1.length : Int) != 1)) || ((p.2.1.length : Int) != (p.1.2.2.length : Int))) = true
  · rw [if_pos hc]
    have : mayPrmF p = false := by
      unfold mayPrmF
      unfold bne at hc
      cases h1 : (mayF p.1 && mayF p.2.2) <;> cases h2 : ((p.2.2.1.length : Int) == 1) <;> cases h3 : ((p.2.1.length : Int) == (p.1.2.2.length : Int)) <;> rw [h1, h2, h3] at hc <;> first | rfl | cases hc
    rw [this] at h
    exact h
  · rw [if_neg hc]
    have hc' : (((!(mayF p.1 && mayF p.2.2)) || ((p.2.2.1.length : Int) != 1)) || ((p.2.1.length : Int) != (p.1.2.2.length : Int))) = false := by simpa using hc
    unfold bne at hc'
    simp only [Bool.or_eq_false_iff, Bool.not_eq_false'] at hc'
    obtain ⟨⟨h1, h2⟩, h3⟩ := hc'
    unfold mayPrmF at h
    rw [h1, h2, h3] at h
    simp only [Bool.and_eq_true] at h1
    obtain ⟨_, _, _, _, f1⟩ := mayAccF_len (mayF_inv h1.1).1
    have hl : p.2.1.length ≤ 8192 := by simp only [beq_iff_eq] at h3; omega
    refine ⟨?_⟩
    refine Loop.range (B := pedagogueref10_MayParam_n58_B p.2.1 (p.2.1.length : Int) _ _) p.2.1.length (fun i => (i : Int)) (fun i => (p.2.1.take i).any greatM = false) rfl ?_ ?_
    · intro i hi hI X hX
      unfold pedagogueref10_MayParam_n58_B
      rw [if_pos (decide_eq_true (show (i : Int) < (p.2.1.length : Int) by omega))]
      refine ⟨by omega, ?_⟩
      rw [Int.toNat_natCast]
      have hget : p.2.1.getD i 0 = p.2.1[i] := by rw [List.getD_eq_getElem?_getD, List.getElem?_eq_getElem hi]; rfl
      show (if greatM (p.2.1.getD i 0) = true then _ else _)
      cases hm : greatM (p.2.1.getD i 0) with
      | true =>
        rw [if_pos rfl]
        have : p.2.1.any greatM = true := by
          rw [List.any_eq_true]
          exact ⟨p.2.1[i], List.getElem_mem hi, by rw [← hget]; exact hm⟩
        rw [this] at h
        exact h
      | false =>
        rw [if_neg (by simp), wrap_i64 _ (by omega) (by omega)]
        refine hX ?_
        rw [List.take_add_one, List.any_append, hI, List.getElem?_eq_getElem hi]
        rw [hget] at hm
        simp [hm]
    · intro hI X
      unfold pedagogueref10_MayParam_n58_B
      rw [if_neg (by simp)]
      rw [List.take_length] at hI
      rw [hI] at h
      exact h
theorem sameT_refl {a : T3} {Q : Bool → Prop} (h1 : a.1.length ≤ 1000000) (h2 : a.2.2.length ≤ 1000000) (h : Q true) : pedagogueref1_SameT a a Q := by
  refine ⟨?_⟩
  unfold pedagogueref1_SameT_t
  refine sints_v h1 ?_
  rw [decide_eq_true rfl, if_neg (by simp)]
  refine ⟨?_⟩
  refine Loop.range (B := pedagogueref1_SameT_n58_B (a.2.2.length : Int) a.2.2 a.2.2 (fun _ => Q true) (fun _ => Q false)) a.2.2.length (fun i => (i : Int)) (fun _ => True) trivial ?_ ?_
  · intro i hi _ X hX
    unfold pedagogueref1_SameT_n58_B
    rw [if_pos (decide_eq_true (show (i : Int) < (a.2.2.length : Int) by omega))]
    refine ⟨by omega, by omega, ?_⟩
    rw [if_neg (by simp), wrap_i64 _ (by omega) (by omega)]
    exact hX trivial
  · intro _ X
    unfold pedagogueref1_SameT_n58_B
    rw [if_neg (by simp)]
    exact h
theorem sameP_refl {a : Prm} {Q : Bool → Prop} (hl : Lens a) (h : Q true) : pedagogueref10_SameParams [a] [a] Q := by
  obtain ⟨l1, l2, l3, l4, l5⟩ := hl
  refine ⟨?_⟩
  unfold pedagogueref10_SameParams_t
  rw [if_neg (by simp)]
  refine ⟨?_⟩
  refine Loop.range (B := pedagogueref10_SameParams_n58_B [a] [a] (1 : Nat) (fun _ => Q true) (fun _ => Q false)) 1 (fun i => (i : Int)) (fun _ => True) trivial ?_ ?_
  · intro i hi _ X hX
    have hX := hX trivial
    have hi0 : i = 0 := by omega
    subst hi0
    unfold pedagogueref10_SameParams_n58_B
    rw [if_pos (by simp)]
    refine ⟨by simp, by simp, ?_⟩
    refine sameT_refl (a := a.1) (by omega) (by omega) ?_
    simp only [jn, Bool.not_true, Bool.false_eq_true, if_false]
    refine ⟨by simp, by simp, ?_⟩
    refine sameT_refl (a := a.2.2) (by omega) (by omega) ?_
    simp only [Bool.not_true, Bool.false_eq_true, if_false]
    refine ⟨by simp, by simp, ?_⟩
    have en : ((a.2.1.length : Int) != (a.2.1.length : Int)) = false := by simp
    show (if ((a.2.1.length : Int) != (a.2.1.length : Int)) = true then Q false else _)
    rw [if_neg (by rw [en]; simp)]
    refine ⟨by simp, ⟨?_⟩⟩
    show Go.Mach.Loop (pedagogueref10_SameParams_n29902_B [a] [a] (0 : Int) (a.2.1.length : Int) _ _) 0
    refine Loop.range (B := pedagogueref10_SameParams_n29902_B [a] [a] (0 : Int) (a.2.1.length : Int) _ _) a.2.1.length (fun i => (i : Int)) (fun _ => True) trivial ?_ ?_
    · intro j hj _ Y hY
      have hY := hY trivial
      unfold pedagogueref10_SameParams_n29902_B
      rw [if_pos (decide_eq_true (show (j : Int) < (a.2.1.length : Int) by omega))]
      refine ⟨by simp, ?_, by simp, ?_, ?_⟩
      · show 0 ≤ (j : Int) ∧ (j : Int) < (a.2.1.length : Int); omega
      · show 0 ≤ (j : Int) ∧ (j : Int) < (a.2.1.length : Int); omega
      · show (if (a.2.1.getD ((j : Int)).toNat 0 != a.2.1.getD ((j : Int)).toNat 0) = true then _ else _)
        rw [if_neg (by simp), wrap_i64 ((j : Int) + 1) (by omega) (by omega)]
        exact hY
    · intro _ Y
      unfold pedagogueref10_SameParams_n29902_B
      rw [if_neg (by simp)]
      exact hX
  · intro _ X
    unfold pedagogueref10_SameParams_n58_B
    rw [if_neg (by simp)]
    exact h
theorem one_v {a : Prm} {Q : List Prm → Prop} (h : Q [a]) : pedagoguelaw21_one a Q := ⟨h⟩
theorem rmayH_v {h : Hyp} {Q : Bool → Prop} (hq : Q (mayHF h)) : pedagogueref18_MayHyper h Q := by
  have rin : ∀ {a b c : Int} {Q : Bool → Prop}, Q (inB a b c) → pedagogueref18_in a b c Q := fun h => ⟨h⟩
  refine ⟨?_⟩
  unfold pedagogueref18_MayHyper_t
  refine rin ?_
  refine and_v (c := inB h.2.1 2 8) (fun P hp => rin hp) (fun v2 e2 => ?_) rfl
  refine and_v (c := inB h.2.2.1 0 20) (fun P hp => rin hp) (fun v3 e3 => ?_) rfl
  refine and_v (c := inB h.2.2.2.1 0 20) (fun P hp => rin hp) (fun v4 e4 => ?_) rfl
  refine and_v (c := inB h.2.2.2.2.1 0 20) (fun P hp => rin hp) (fun v5 e5 => ?_) rfl
  refine and_v (c := inB h.2.2.2.2.2 0 1000000) (fun P hp => rin hp) (fun v6 e6 => ?_) rfl
  rw [e6, e5, e4, e3, e2]
  exact hq

/-! ### What a step leaves may be -/
theorem step_err {p : Prm} {g : Grd} {h : Hyp} {seed step layer : Int} (e : (stepF p g h seed step layer).2 ≠ 0) : (stepF p g h seed step layer).1 = ZP := by
  unfold stepF at e ⊢
  by_cases h1 : badArgs h step layer = true
  · rw [if_pos h1]
  · rw [if_neg h1] at e ⊢
    by_cases h2 : (!g.1) = true
    · rw [if_pos h2] at e; exact absurd rfl e
    · rw [if_neg h2] at e ⊢
      by_cases h3 : (mayPGF p g != 0) = true
      · rw [if_pos h3]
      · rw [if_neg h3] at e ⊢
        by_cases h4 : ((dsmF h seed step layer g.2.1 3).2 != 0) = true
        · rw [if_pos h4]
        · rw [if_neg h4] at e ⊢
          by_cases h5 : ((dsmF h seed step layer g.2.2 5).2 != 0) = true
          · rw [if_pos h5]
          · rw [if_neg h5] at e; exact absurd rfl e
theorem movC_rng (mom : Int) (m u : List Int) (i : Nat) : -1048576 ≤ movC mom m u i ∧ movC mom m u i ≤ 1048576 := by
  unfold movC
  have := gs_rng (IntKind.i64.wrap ((if mom = 0 then 0 else IntKind.i64.wrap ((IntKind.i64.wrap (m.getD i 0)) - downF (IntKind.i64.wrap (m.getD i 0)) mom)) + (IntKind.i64.wrap (u.getD i 0)))) (-1048576) 1048576 (by omega)
  rw [wrap_i32 _ (by omega) (by omega)]
  exact this
theorem mov_any (mom : Int) (m u : List Int) : (movF mom m u).any greatM = false := by
  rw [List.any_eq_false]
  intro x hx
  obtain ⟨i, _, rfl⟩ := List.mem_map.1 hx
  have := movC_rng mom m u i
  unfold greatM
  simp
  omega
theorem may_of_shape {d : List Int} {e e' : Int} {v v' : List Int} (h : mayF (d, e, v) = true) (h1 : -64 ≤ e') (h2 : e' ≤ 64) (hl : v'.length = v.length) (hn : -128 ∉ v') : mayF (d, e', v') = true := by
  obtain ⟨a, _, _, _⟩ := mayF_inv h
  obtain ⟨s1, s2, _, _, _⟩ := mayAccF_len a
  exact mayF_of s1 (by show (v'.length : Int) = szF d; rw [hl]; exact s2) h1 h2 hn
theorem wgF_may {h : Hyp} {seed step layer : Int} {w : T3} {m : List Int} (hw : mayF w = true) : mayF (wgF h seed step layer w m) = true ∧ w.2.1 ≤ (wgF h seed step layer w m).2.1 ∧ (wgF h seed step layer w m).2.1 ≤ w.2.1 + 1 ∧ (wgF h seed step layer w m).2.2.length = w.2.2.length := by
  obtain ⟨_, e1, e2, _⟩ := mayF_inv hw
  have hl : (wNs h seed step layer w.2.2 m w.2.2.length).length = w.2.2.length := by simp [wNs]
  unfold wgF
  simp only
  generalize wNs h seed step layer w.2.2 m w.2.2.length = L at hl ⊢
  have hx : w.2.1 ≤ (if (L.any over && decide (w.2.1 < 64)) = true then IntKind.i64.wrap (w.2.1 + 1) else w.2.1) ∧ (if (L.any over && decide (w.2.1 < 64)) = true then IntKind.i64.wrap (w.2.1 + 1) else w.2.1) ≤ w.2.1 + 1 ∧ (if (L.any over && decide (w.2.1 < 64)) = true then IntKind.i64.wrap (w.2.1 + 1) else w.2.1) ≤ 64 := by
    split
    · rename_i hc
      simp only [Bool.and_eq_true, decide_eq_true_eq] at hc
      rw [wrap_i64 _ (by omega) (by omega)]
      omega
    · omega
  refine ⟨may_of_shape (d := w.1) (e := w.2.1) (v := w.2.2) hw (by omega) hx.2.2 (by simp [hl]) ?_, hx.1, hx.2.1, by simp [hl]⟩
  refine no_min fun x hx => ?_
  obtain ⟨y, _, rfl⟩ := List.mem_map.1 hx
  exact cutC_rng _ y
theorem bC_rng {h : Hyp} {seed step layer : Int} {b v : List Int} {i : Nat} : -127 ≤ bC h seed step layer b v i ∧ bC h seed step layer b v i ≤ 127 := by
  unfold bC
  have := clF8_rng (IntKind.i64.wrap ((IntKind.i64.wrap (b.getD i 0)) - chnF seed step layer 6 (IntKind.i64.wrap (v.getD i 0)) h.2.2.1 i))
  rw [wrap_i8 _ (by omega) (by omega)]
  exact this
theorem bsF_may {h : Hyp} {seed step layer : Int} {b : T3} {v : List Int} (hb : mayF b = true) : mayF (bsF h seed step layer b v) = true ∧ (bsF h seed step layer b v).2.2.length = b.2.2.length := by
  obtain ⟨_, e1, e2, _⟩ := mayF_inv hb
  unfold bsF
  refine ⟨may_of_shape (d := b.1) (e := b.2.1) (v := b.2.2) hb e1 e2 (by simp) ?_, by simp⟩
  refine no_min fun x hx => ?_
  obtain ⟨i, _, rfl⟩ := List.mem_map.1 hx
  exact bC_rng
theorem step_ok {p : Prm} {g : Grd} {h : Hyp} {seed step layer : Int} (hp : mayPrmF p = true) (e : (stepF p g h seed step layer).2 = 0) :
    mayPrmF (stepF p g h seed step layer).1 = true ∧ (stepF p g h seed step layer).1.2.1.length = p.2.1.length ∧ (stepF p g h seed step layer).1.2.2.2.2.length = p.2.2.2.2.length ∧ p.1.2.1 ≤ (stepF p g h seed step layer).1.1.2.1 ∧ (stepF p g h seed step layer).1.1.2.1 ≤ p.1.2.1 + 1 := by
  obtain ⟨m1, m2, m3, m4, m5⟩ := mayPrmF_inv hp
  unfold stepF at e ⊢
  by_cases h1 : badArgs h step layer = true
  · rw [if_pos h1] at e; cases e
  · rw [if_neg h1] at e ⊢
    by_cases h2 : (!g.1) = true
    · rw [if_pos h2]; exact ⟨hp, rfl, rfl, Int.le_refl _, by show p.1.2.1 ≤ p.1.2.1 + 1; omega⟩
    · rw [if_neg h2] at e ⊢
      by_cases h3 : (mayPGF p g != 0) = true
      · rw [if_pos h3] at e
        have e : mayPGF p g = 0 := e
        rw [e] at h3; cases h3
      · rw [if_neg h3] at e ⊢
        by_cases h4 : ((dsmF h seed step layer g.2.1 3).2 != 0) = true
        · rw [if_pos h4] at e
          have e : (dsmF h seed step layer g.2.1 3).2 = 0 := e
          rw [e] at h4; cases h4
        · rw [if_neg h4] at e ⊢
          by_cases h5 : ((dsmF h seed step layer g.2.2 5).2 != 0) = true
          · rw [if_pos h5] at e
            have e : (dsmF h seed step layer g.2.2 5).2 = 0 := e
            rw [e] at h5; cases h5
          · rw [if_neg h5]
            generalize (dsmF h seed step layer g.2.1 3).1.2.2 = u
            generalize (dsmF h seed step layer g.2.2 5).1.2.2 = v
            have hml : (movF h.2.2.2.1 p.2.1 u).length = p.2.1.length := by simp [movF]
            obtain ⟨k1, k2, k3, k4⟩ := wgF_may (h := h) (seed := seed) (step := step) (layer := layer) (w := p.1) (m := movF h.2.2.2.1 p.2.1 u) m1
            obtain ⟨k5, k6⟩ := bsF_may (h := h) (seed := seed) (step := step) (layer := layer) (b := p.2.2) (v := v) m2
            refine ⟨?_, hml, k6, k2, k3⟩
            unfold mayPrmF
            simp only
            rw [k1, k5, mov_any, k4, hml, m4]
            have : ((bsF h seed step layer p.2.2 v).1.length : Int) = 1 := by
              show (p.2.2.1.length : Int) = 1
              omega
            rw [this]
            simp
theorem within_law {p : Prm} {g : Grd} {h : Hyp} {seed step layer : Int} {Q : Bool → Prop} (hq : Q true) : pedagoguelaw21_OptimWithin p g h seed step layer Q := by
  refine ⟨?_⟩
  unfold pedagoguelaw21_OptimWithin_t
  refine ⟨?_⟩
  unfold pedagoguelaw21_light_t
  refine or_v (b := !_) (c := !mayPrmF p) (fun P hp => mayPrm_v (p := p) hp) (fun v2 e2 => ?_) rfl
  cases v2 with
  | true => rw [if_pos rfl]; exact awake21_v hq
  | false =>
    rw [if_neg (by simp)]
    have hp : mayPrmF p = true := by
      have := e2.symm
      simp only [Bool.or_eq_false_iff, Bool.not_eq_false'] at this
      exact this.2
    have hl := mayPrmF_lens hp
    have hl1 := hl.wd; have hl2 := hl.wv; have hl3 := hl.m; have hl4 := hl.bd; have hl5 := hl.bv
    refine step_v (p := p) (g := g) (h := h) (by omega) (by omega) (by omega) (by omega) (by omega) ?_
    by_cases he : (stepF p g h seed step layer).2 = 0
    · rw [if_neg (by rw [he]; simp)]
      obtain ⟨k1, k2, k3, k4, k5⟩ := step_ok hp he
      refine mayPrm_v (p := (stepF p g h seed step layer).1) ?_
      obtain ⟨_, b1, b2, _⟩ := mayF_inv (mayPrmF_inv hp).1
      rw [k1, k2, k3, wrap_i64 (p.1.2.1 + 1) (by omega) (by omega), decide_eq_true k4, decide_eq_true k5]
      show (if ((((true && _) && _) && true) && true) = true then _ else _)
      rw [if_pos (by simp)]
      exact awake21_v hq
    · rw [if_pos (by simpa using he), step_err he]
      exact awake21_v hq

/-! ### The same -/
theorem inB_of {a lo hi : Int} (h1 : lo ≤ a) (h2 : a ≤ hi) : inB a lo hi = true := by
  unfold inB
  rw [decide_eq_true h1, decide_eq_true h2]
  rfl
theorem badArgs_of {h : Hyp} {step layer : Int} (hh : mayHF h = true) (h1 : 0 ≤ step ∧ step ≤ 1000000) (h2 : 1 ≤ layer ∧ layer ≤ 12) : badArgs h step layer = false := by
  unfold badArgs
  rw [hh, inB_of h1.1 h1.2, inB_of h2.1 h2.2]
  rfl
theorem mayPGF_of {p : Prm} {v1 v2 : List Int} (hp : mayPrmF p = true) (h1 : v1.length = p.1.2.2.length) (h2 : v2.length = p.2.2.2.2.length) (n1 : -128 ∉ v1) (n2 : -128 ∉ v2) :
    mayPGF p (true, (p.1.1, 0, v1), (p.2.2.1, 0, v2)) = 0 ∧ mayF (p.1.1, 0, v1) = true ∧ mayF (p.2.2.1, 0, v2) = true := by
  obtain ⟨m1, m2, m3, m4, m5⟩ := mayPrmF_inv hp
  have k1 : mayF (p.1.1, 0, v1) = true := may_of_shape (e := p.1.2.1) (v := p.1.2.2) m1 (by omega) (by omega) h1 n1
  have k2 : mayF (p.2.2.1, 0, v2) = true := may_of_shape (e := p.2.2.2.1) (v := p.2.2.2.2) m2 (by omega) (by omega) h2 n2
  refine ⟨?_, k1, k2⟩
  unfold mayPGF badPG
  simp only
  rw [m1, m2, (mayF_inv k1).1, (mayF_inv k2).1, m4, m5]
  simp
/-- A step with a small gradient, at a rate of nothing: no chance is in it. -/
noncomputable def sureF (p : Prm) (h : Hyp) (u v : List Int) : Prm := (wgF h 0 0 1 p.1 (movF h.2.2.2.1 p.2.1 u), movF h.2.2.2.1 p.2.1 u, bsF h 0 0 1 p.2.2 v)
theorem wgF_sure {h : Hyp} {s t l s' t' l' : Int} {w : T3} {m : List Int} (hr : h.2.2.1 = 0) : wgF h s t l w m = wgF h s' t' l' w m := by
  have e : wNs h s t l w.2.2 m w.2.2.length = wNs h s' t' l' w.2.2 m w.2.2.length := by
    unfold wNs
    refine List.map_congr_left fun i _ => ?_
    unfold wN
    rw [hr]
    simp only [chnF_zero]
  unfold wgF
  rw [e]
theorem bsF_sure {h : Hyp} {s t l s' t' l' : Int} {b : T3} {v : List Int} (hr : h.2.2.1 = 0) : bsF h s t l b v = bsF h s' t' l' b v := by
  have e : (List.range b.2.2.length).map (bC h s t l b.2.2 v) = (List.range b.2.2.length).map (bC h s' t' l' b.2.2 v) := by
    refine List.map_congr_left fun i _ => ?_
    unfold bC
    rw [hr]
    simp only [chnF_zero]
  unfold bsF
  rw [e]
theorem step_sure {p : Prm} {h : Hyp} {seed step layer : Int} {v1 v2 : List Int} (hp : mayPrmF p = true) (hh : mayHF h = true) (hw8 : h.2.1 = 8) (hr : h.2.2.1 = 0) (hs : 0 ≤ step ∧ step ≤ 1000000) (hl : 1 ≤ layer ∧ layer ≤ 12)
    (h1 : v1.length = p.1.2.2.length) (h2 : v2.length = p.2.2.2.2.length) (n1 : ∀ x ∈ v1, -127 ≤ x ∧ x ≤ 127) (n2 : ∀ x ∈ v2, -127 ≤ x ∧ x ≤ 127) :
    stepF p (true, (p.1.1, 0, v1), (p.2.2.1, 0, v2)) h seed step layer = (sureF p h v1 v2, 0) := by
  obtain ⟨k1, k2, k3⟩ := mayPGF_of hp h1 h2 (no_min n1) (no_min n2)
  have hs1 : dsmF h seed step layer (p.1.1, 0, v1) 3 = ((p.1.1, 0, v1), 0) := by
    unfold dsmF
    rw [hw8]
    exact (small_id k2 (fun x hx => by have := n1 x hx; omega)).1
  have hs2 : dsmF h seed step layer (p.2.2.1, 0, v2) 5 = ((p.2.2.1, 0, v2), 0) := by
    unfold dsmF
    rw [hw8]
    exact (small_id k3 (fun x hx => by have := n2 x hx; omega)).1
  unfold stepF
  rw [badArgs_of hh hs hl, if_neg (by simp), if_neg (by simp), k1, if_neg (by simp)]
  simp only
  rw [hs1, hs2, if_neg (by simp), if_neg (by simp)]
  unfold sureF
  simp only
  rw [wgF_sure (s' := 0) (t' := 0) (l' := 1) hr, bsF_sure (s' := 0) (t' := 0) (l' := 1) hr]
def gv (g : List Int) (i : Nat) : Int := if i < g.length then dv g i else 0
theorem gv_rng {g : List Int} (hg : All8 g) (i : Nat) : -127 ≤ gv g i ∧ gv g i ≤ 127 := by
  unfold gv
  split
  · rw [dv_eq hg]; exact wv_rng hg i
  · omega
theorem sureF_lens {p : Prm} {h : Hyp} {u v : List Int} (hl : Lens p) : Lens (sureF p h u v) := by
  obtain ⟨l1, l2, l3, l4, l5⟩ := hl
  unfold sureF wgF bsF movF
  exact ⟨l1, by simp [wNs]; omega, by simp; omega, l4, by simp; omega⟩
theorem same_law {p : Prm} {g : List Int} {h : Hyp} {a b s t : Int} {Q : Bool → Prop} (hg : All8 g) (hq : Q true) : pedagoguelaw21_OptimSame p g h a b s t Q := by
  refine ⟨?_⟩
  unfold pedagoguelaw21_OptimSame_t
  refine mayPrm_v (p := p) ?_
  refine or_v (b := (!mayPrmF p) || decide (300 < (p.1.2.2.length : Int))) (c := !mayHF h) (fun P hp => rmayH_v (h := h) hp) (fun v2 e2 => ?_) rfl
  cases v2 with
  | true => rw [if_pos rfl]; exact awake21_v hq
  | false =>
    rw [if_neg (by simp)]
    have e2 := e2.symm
    simp only [Bool.or_eq_false_iff, Bool.not_eq_false'] at e2
    obtain ⟨⟨hp, _⟩, hh⟩ := e2
    have hl := mayPrmF_lens hp
    have hl1 := hl.wd; have hl2 := hl.wv; have hl3 := hl.m; have hl4 := hl.bd; have hl5 := hl.bv
    refine ⟨⟨by omega, by omega⟩, ⟨by omega, by omega⟩, ⟨?_⟩⟩
    unfold pedagoguelaw21_OptimSame_n31_t
    rw [Int.toNat_natCast, Int.toNat_natCast]
    have hA : (List.replicate p.1.2.2.length (0 : Int)).length = p.1.2.2.length := by simp
    rw [hA]
    refine ⟨?_⟩
    rw [show ((0 : Int), List.replicate p.1.2.2.length (0 : Int)) = ((fun i : Nat => ((i : Int), upTo (gv g) (List.replicate p.1.2.2.length 0) i)) 0) from by show _ = (((0 : Nat) : Int), upTo _ _ 0); rw [upTo_zero]; rfl]
    refine Loop.range (B := pedagoguelaw21_OptimSame_n250_B g (p.1.2.2.length : Int) _) (f := fun i : Nat => ((i : Int), upTo (gv g) (List.replicate p.1.2.2.length 0) i)) p.1.2.2.length (fun _ => True) trivial ?_ ?_
    · intro i hi _ X hX
      have hX := hX trivial
      unfold pedagoguelaw21_OptimSame_n250_B
      rw [if_pos (decide_eq_true (show (i : Int) < (p.1.2.2.length : Int) by omega))]
      dsimp only at hX ⊢
      have hr : (List.replicate p.1.2.2.length (0 : Int)).getD i 0 = 0 := by
        rw [List.getD_eq_getElem?_getD, List.getElem?_replicate]; split <;> rfl
      by_cases hgl : i < g.length
      · rw [if_pos (decide_eq_true (show (i : Int) < (g.length : Int) by omega))]
        refine ⟨by omega, ⟨by omega, by rw [upTo_len (by omega)]; omega⟩, ⟨?_⟩⟩
        unfold pedagoguelaw21_OptimSame_n4007_t
        rw [Int.toNat_natCast, wrap_i64 ((i : Int) + 1) (by omega) (by omega)]
        have ed : IntKind.i32.wrap (greater (g.getD i 0) (-127)) = gv g i := by unfold gv; rw [if_pos hgl]; rfl
        rw [ed, upTo_set (by omega)]
        exact hX
      · rw [if_neg (by simpa using hgl)]
        refine ⟨?_⟩
        unfold pedagoguelaw21_OptimSame_n4007_t
        rw [wrap_i64 ((i : Int) + 1) (by omega) (by omega), upTo_skip (h := gv g) (by omega) (by rw [hr]; unfold gv; rw [if_neg hgl])]
        exact hX
    · intro _ X
      unfold pedagoguelaw21_OptimSame_n250_B
      rw [if_neg (by simp)]
      have f1 := upTo_all (h := gv g) (A := List.replicate p.1.2.2.length 0)
      rw [hA] at f1
      rw [f1]
      have q1 : 0 ≤ IntKind.i64.wrap ((IntKind.u64.wrap s).tmod 1000) ∧ IntKind.i64.wrap ((IntKind.u64.wrap s).tmod 1000) < 1000 := modq s 1000 (by omega) (by omega)
      have q2 : 0 ≤ IntKind.i64.wrap ((IntKind.u64.wrap t).tmod 1000) ∧ IntKind.i64.wrap ((IntKind.u64.wrap t).tmod 1000) < 1000 := modq t 1000 (by omega) (by omega)
      have hh' : mayHF (h.1, 8, 0, h.2.2.2.1, h.2.2.2.2.1, h.2.2.2.2.2) = true := by
        unfold mayHF inB at hh ⊢
        simp only [Bool.and_eq_true, decide_eq_true_eq] at hh ⊢
        omega
      have rng1 : ∀ x ∈ (List.range p.1.2.2.length).map (gv g), -127 ≤ x ∧ x ≤ 127 := by
        intro x hx
        obtain ⟨i, _, rfl⟩ := List.mem_map.1 hx
        exact gv_rng hg i
      have rng2 : ∀ x ∈ List.replicate p.2.2.2.2.length (0 : Int), -127 ≤ x ∧ x ≤ 127 := by
        intro x hx
        rw [(List.mem_replicate.1 hx).2]
        omega
      refine ⟨by omega, step_v (p := p) (g := (true, (p.1.1, 0, (List.range p.1.2.2.length).map (gv g)), (p.2.2.1, 0, List.replicate p.2.2.2.2.length 0))) (h := (h.1, 8, 0, h.2.2.2.1, h.2.2.2.2.1, h.2.2.2.2.2)) (by omega) (by omega) (by omega) (by omega) (by omega) ?_⟩
      rw [step_sure hp hh' rfl rfl ⟨q1.1, by have := q1.2; omega⟩ (by omega) (by simp) (by simp) rng1 rng2]
      refine ⟨by omega, step_v (p := p) (g := (true, (p.1.1, 0, (List.range p.1.2.2.length).map (gv g)), (p.2.2.1, 0, List.replicate p.2.2.2.2.length 0))) (h := (h.1, 8, 0, h.2.2.2.1, h.2.2.2.2.1, h.2.2.2.2.2)) (by omega) (by omega) (by omega) (by omega) (by omega) ?_⟩
      rw [step_sure hp hh' rfl rfl ⟨q2.1, by have := q2.2; omega⟩ (by omega) (by simp) (by simp) rng1 rng2]
      simp only [jn]
      rw [if_pos (by rfl)]
      have hL := sureF_lens (h := (h.1, 8, 0, h.2.2.2.1, h.2.2.2.2.1, h.2.2.2.2.2)) (u := (List.range p.1.2.2.length).map (gv g)) (v := List.replicate p.2.2.2.2.length 0) hl
      generalize sureF p (h.1, 8, 0, h.2.2.2.1, h.2.2.2.2.1, h.2.2.2.2.2) ((List.range p.1.2.2.length).map (gv g)) (List.replicate p.2.2.2.2.length 0) = R at hL ⊢
      refine one_v (a := R) (one_v (a := R) (sameP_refl (a := R) hL ?_))
      rw [if_pos rfl]
      exact awake21_v hq

end Go.Proofs.Ytlbapaelkdpjcaa
