/- Values of optim.Step and of what it calls. Laws; no condition. -/
import Derived.Test.YtlbapaelkdpjcaaRef1
import Derived.Test.YtlbapaelkdpjcaaN7
namespace Go.Proofs.Ytlbapaelkdpjcaa
open Go.Mach Go.RowKit
set_option maxRecDepth 100000
set_option linter.unusedVariables false
set_option linter.unusedSimpArgs false

abbrev Prm := T3 × List Int × T3
abbrev Grd := Bool × T3 × T3
abbrev Hyp := Int × Int × Int × Int × Int × Int

/-! ### Small functions -/
def inB (a lo hi : Int) : Bool := decide (lo ≤ a) && decide (a ≤ hi)
theorem oin_v {a b c : Int} {Q : Bool → Prop} (h : Q (inB a b c)) : optim_in a b c Q := ⟨h⟩
theorem fin_v {a b c : Int} {Q : Bool → Prop} (h : Q (inB a b c)) : forward_in a b c Q := ⟨h⟩
def mayHF (h : Hyp) : Bool := (((((inB h.1 1 8 && inB h.2.1 2 8) && inB h.2.2.1 0 20) && inB h.2.2.2.1 0 20) && inB h.2.2.2.2.1 0 20) && inB h.2.2.2.2.2 0 1000000)
/-- One more condition, looked at only where the others hold. -/
theorem and_v {b c : Bool} {Q K : Bool → Prop} {G : (Bool → Prop) → Prop} (hG : ∀ P : Bool → Prop, P c → G P) (hK : ∀ v, v = (b && c) → K v) (hQ : Q = K) : jn (fun v => Q v) (fun J => if b = true then G J else J false) := by
  subst hQ
  cases b with
  | true => show (if true = true then G (fun v => Q v) else Q false); rw [if_pos rfl]; exact hG _ (hK _ (by simp))
  | false => exact hK _ rfl
theorem mayH_v {h : Hyp} {Q : Bool → Prop} (hq : Q (mayHF h)) : optim_May h Q := by
  refine ⟨?_⟩
  unfold optim_May_t
  refine oin_v ?_
  refine and_v (c := inB h.2.1 2 8) (fun P hp => oin_v hp) (fun v2 e2 => ?_) rfl
  refine and_v (c := inB h.2.2.1 0 20) (fun P hp => oin_v hp) (fun v3 e3 => ?_) rfl
  refine and_v (c := inB h.2.2.2.1 0 20) (fun P hp => oin_v hp) (fun v4 e4 => ?_) rfl
  refine and_v (c := inB h.2.2.2.2.1 0 20) (fun P hp => oin_v hp) (fun v5 e5 => ?_) rfl
  refine and_v (c := inB h.2.2.2.2.2 0 1000000) (fun P hp => oin_v hp) (fun v6 e6 => ?_) rfl
  rw [e6, e5, e4, e3, e2]
  exact hq
theorem mayHF_inv {h : Hyp} (e : mayHF h = true) : 2 ≤ h.2.1 ∧ h.2.1 ≤ 8 ∧ 0 ≤ h.2.2.1 ∧ h.2.2.1 ≤ 20 ∧ 0 ≤ h.2.2.2.1 ∧ h.2.2.2.1 ≤ 20 ∧ 0 ≤ h.2.2.2.2.1 ∧ h.2.2.2.2.1 ≤ 20 := by
  unfold mayHF inB at e
  simp only [Bool.and_eq_true, decide_eq_true_eq] at e
  omega
def streamF (a b c : Int) : Int := if ((inB a 0 1000000 && inB b 0 12) && inB c 0 15) = true then IntKind.u64.wrap (IntKind.i64.wrap ((IntKind.i64.wrap ((IntKind.i64.wrap (a * 1024)) + (IntKind.i64.wrap (b * 16)))) + c)) else 0
/-- One more condition, looked at only where none of the others has failed. -/
theorem or_v {b c : Bool} {Q K : Bool → Prop} {G : (Bool → Prop) → Prop} (hG : ∀ P : Bool → Prop, P c → G P) (hK : ∀ v, v = (b || c) → K v) (hQ : Q = K) : jn (fun v => Q v) (fun J => if b = true then J true else G J) := by
  subst hQ
  cases b with
  | true => exact hK _ rfl
  | false => show (if false = true then Q true else G (fun v => Q v)); rw [if_neg (by simp)]; exact hG _ (hK _ (by simp))
theorem stream_v {a b c : Int} {Q : Int → Prop} (h : Q (streamF a b c)) : forward_Stream a b c Q := by
  refine ⟨?_⟩
  unfold forward_Stream_t
  refine fin_v ?_
  refine or_v (b := !inB a 0 1000000) (c := !inB b 0 12) (fun P hp => fin_v hp) (fun v2 e2 => ?_) rfl
  refine or_v (c := !inB c 0 15) (fun P hp => fin_v hp) (fun v3 e3 => ?_) rfl
  unfold streamF at h
  rw [e3, e2]
  cases h1 : inB a 0 1000000 <;> cases h2 : inB b 0 12 <;> cases h3 : inB c 0 15 <;> rw [h1, h2, h3] at h <;> exact h
theorem clone8_v {a : List Int} {Q : List Int → Prop} (h1 : a.length ≤ 17592186044416) (h : Q a) : slices_Clone_int8_int8 a Q := by
  refine ⟨?_⟩
  unfold slices_Clone_int8_int8_t
  refine ⟨fun e => by rw [e] at h; exact h, ?_, h⟩
  simp only [List.length_nil]
  omega
theorem clone32_v {a : List Int} {Q : List Int → Prop} (h1 : a.length ≤ 17592186044416) (h : Q a) : slices_Clone_int32_int32 a Q := by
  refine ⟨?_⟩
  unfold slices_Clone_int32_int32_t
  refine ⟨fun e => by rw [e] at h; exact h, ?_, h⟩
  simp only [List.length_nil]
  omega
theorem own_v {t : T3} {Q : T3 → Prop} (h1 : t.1.length ≤ 17592186044416) (h2 : t.2.2.length ≤ 17592186044416) (h : Q t) : optim_own t Q := by
  refine ⟨?_⟩
  unfold optim_own_t
  exact clone_v h1 (clone8_v h2 h)

/-! ### May they be -/
def greatM (x : Int) : Bool := decide (x < -1048576) || decide (1048576 < x)
theorem anyM_v {l : List Int} {Q : Bool → Prop} (hl : l.length ≤ 1000000) (h : Q (l.any greatM)) : slices_ContainsFunc_int32_int32__optim_great l Q := by
  refine ⟨?_⟩
  unfold slices_ContainsFunc_int32_int32__optim_great_t
  refine ⟨?_⟩
  unfold slices_IndexFunc_int32_int32__optim_great_t
  refine ⟨?_⟩
  refine Loop.range (B := slices_IndexFunc_int32_int32__optim_great_n26_B l (l.length : Int) _ _) l.length (fun i => (i : Int)) (fun i => (l.take i).any greatM = false) rfl ?_ ?_
  · intro i hi hI X hX
    unfold slices_IndexFunc_int32_int32__optim_great_n26_B
    rw [if_pos (decide_eq_true (show (i : Int) < (l.length : Int) by omega))]
    refine ⟨by omega, ⟨?_⟩⟩
    unfold optim_great_t
    rw [Int.toNat_natCast]
    have hget : l.getD i 0 = l[i] := by rw [List.getD_eq_getElem?_getD, List.getElem?_eq_getElem hi]; rfl
    show (if greatM (l.getD i 0) = true then _ else _)
    cases hm : greatM (l.getD i 0) with
    | true =>
      rw [if_pos rfl]
      have : l.any greatM = true := by
        rw [List.any_eq_true]
        exact ⟨l[i], List.getElem_mem hi, by rw [← hget]; exact hm⟩
      rw [this] at h
      show Q (decide ((0 : Int) ≤ (i : Int)))
      rw [decide_eq_true (by omega)]
      exact h
    | false =>
      rw [if_neg (by simp), wrap_i64 _ (by omega) (by omega)]
      refine hX ?_
      rw [List.take_add_one, List.any_append, hI, List.getElem?_eq_getElem hi]
      rw [hget] at hm
      simp [hm]
  · intro hI X
    unfold slices_IndexFunc_int32_int32__optim_great_n26_B
    rw [if_neg (by simp)]
    rw [List.take_length] at hI
    rw [hI] at h
    exact h
/-- Not the weights' own faults. -/
def badPG (p : Prm) (g : Grd) : Bool := ((((!mayF p.1 || !mayF p.2.2) || !mayAccF g.2.1) || !mayAccF g.2.2) || ((p.2.1.length : Int) != (p.1.2.2.length : Int))) || p.2.1.any greatM
def mayPGF (p : Prm) (g : Grd) : Int :=
  if badPG p g = true then 1
  else if (!decide (g.2.1.1 = p.1.1) || !decide (g.2.2.1 = p.2.2.1)) = true then 2 else 0
theorem shapeSame_v {a b : List Int} {Q : Bool → Prop} (hl : a.length ≤ 1000000000000) (h : Q (decide (a = b))) : shape_Same a b Q := equal64_v hl h
theorem badPG_inv {p : Prm} {g : Grd} (h : badPG p g = false) : mayF p.1 = true ∧ mayF p.2.2 = true ∧ mayAccF g.2.1 = true ∧ mayAccF g.2.2 = true ∧ p.2.1.length = p.1.2.2.length ∧ p.2.1.any greatM = false := by
  unfold badPG at h
  simp only [Bool.or_eq_false_iff, Bool.not_eq_false', bne_eq_false_iff_eq] at h
  exact ⟨h.1.1.1.1.1, h.1.1.1.1.2, h.1.1.1.2, h.1.1.2, by omega, h.2⟩
theorem omay_v {p : Prm} {g : Grd} {Q : Int → Prop} (h : Q (mayPGF p g)) : optim_may p g Q := by
  refine ⟨?_⟩
  unfold optim_may_t
  refine mayT_v ?_
  refine or_v (b := !mayF p.1) (c := !mayF p.2.2) (fun P hp => mayT_v hp) (fun v2 e2 => ?_) rfl
  refine or_v (c := !mayAccF g.2.1) (fun P hp => mayAcc_v hp) (fun v3 e3 => ?_) rfl
  refine or_v (c := !mayAccF g.2.2) (fun P hp => mayAcc_v hp) (fun v4 e4 => ?_) rfl
  have key : ∀ v5 : Bool, v5 = badPG p g → (if v5 = true then Q 1 else shape_Same g.2.1.1 p.1.1 (fun (r14 : Bool) => jn (fun (v15 : Bool) => if v15 = true then Q 2 else Q 0) (fun J16 => if (!r14) = true then J16 true else shape_Same g.2.2.1 p.2.2.1 (fun (r17 : Bool) => J16 (!r17))))) := by
    intro v5 e5
    unfold mayPGF at h
    rw [← e5] at h
    cases v5 with
    | true => rw [if_pos rfl] at h ⊢; exact h
    | false =>
      rw [if_neg (by simp)] at h ⊢
      obtain ⟨_, _, k1, k2, _, _⟩ := badPG_inv e5.symm
      obtain ⟨_, _, _, l1, _⟩ := mayAccF_len k1
      obtain ⟨_, _, _, l2, _⟩ := mayAccF_len k2
      refine shapeSame_v (by omega) ?_
      refine or_v (b := !decide (g.2.1.1 = p.1.1)) (c := !decide (g.2.2.1 = p.2.2.1)) (fun P hp => shapeSame_v (by omega) hp) (fun v6 e6 => ?_) rfl
      rw [← e6] at h
      cases v6 with
      | true => rw [if_pos rfl] at h ⊢; exact h
      | false => rw [if_neg (by simp)] at h ⊢; exact h
  have e4' : v4 = (((!mayF p.1 || !mayF p.2.2) || !mayAccF g.2.1) || !mayAccF g.2.2) := by rw [e4, e3, e2]
  show (if (v4 || ((p.2.1.length : Int) != (p.1.2.2.length : Int))) = true then _ else _)
  by_cases h5 : (v4 || ((p.2.1.length : Int) != (p.1.2.2.length : Int))) = true
  · rw [if_pos h5]
    exact key true (by unfold badPG; rw [← e4', h5]; rfl)
  · rw [if_neg h5]
    have h5' : (v4 || ((p.2.1.length : Int) != (p.1.2.2.length : Int))) = false := by simpa using h5
    have hm : p.2.1.length ≤ 8192 := by
      simp only [Bool.or_eq_false_iff, bne_eq_false_iff_eq] at h5'
      rw [e4'] at h5'
      simp only [Bool.or_eq_false_iff, Bool.not_eq_false'] at h5'
      obtain ⟨m1, _, _, _⟩ := mayF_inv h5'.1.1.1.1
      obtain ⟨_, _, _, _, l1⟩ := mayAccF_len m1
      omega
    refine anyM_v (by omega) ?_
    exact key _ (by unfold badPG; rw [← e4', h5']; rfl)

/-! ### Sums made small, moved, weighed -/
noncomputable def dsmF (h : Hyp) (seed step layer : Int) (a : T3) (what : Int) : T3 × Int := smallF a h.2.1 seed (streamF step layer what)
theorem dsm_v {h : Hyp} {seed step layer what : Int} {a : T3} {Q : T3 × Int → Prop} (hq : Q (dsmF h seed step layer a what)) : optim_down_small (h, seed, step, layer) a what Q := by
  refine ⟨?_⟩
  unfold optim_down_small_t
  exact stream_v (small_v hq)
def downF (a s : Int) : Int := (valF a).fdiv (2 ^ (min (shF s).toNat (IntKind.i64).bits))
theorem down_v {a s : Int} {Q : Int → Prop} (h : Q (downF a s)) : round_Down a s Q := ⟨⟨(shF_rng s).1, h⟩⟩
def movC (mom : Int) (m u : List Int) (i : Nat) : Int :=
  IntKind.i32.wrap (greater (-1048576) (smaller (IntKind.i64.wrap ((if mom = 0 then 0 else IntKind.i64.wrap ((IntKind.i64.wrap (m.getD i 0)) - downF (IntKind.i64.wrap (m.getD i 0)) mom)) + (IntKind.i64.wrap (u.getD i 0)))) 1048576))
def movF (mom : Int) (m u : List Int) : List Int := (List.range m.length).map (movC mom m u)
theorem mov_v {h : Hyp} {seed step layer : Int} {m u : List Int} {Q : List Int → Prop} (hl : m.length ≤ 1000000) (hu : m.length ≤ u.length) (hq : Q (movF h.2.2.2.1 m u)) : optim_down_moved (h, seed, step, layer) m u Q := by
  refine ⟨?_⟩
  unfold optim_down_moved_t
  refine ⟨?_⟩
  refine Loop.range (B := optim_down_moved_n58_B u m (m.length : Int) h.2.2.2.1 _) (f := fun i : Nat => ((i : Int), (List.range i).map (movC h.2.2.2.1 m u))) m.length (fun _ => True) trivial ?_ ?_
  · intro i hi _ X hX
    have hX := hX trivial
    unfold optim_down_moved_n58_B
    rw [if_pos (decide_eq_true (show (i : Int) < (m.length : Int) by omega))]
    dsimp only at hX ⊢
    refine ⟨by omega, down_v ?_⟩
    rw [Int.toNat_natCast]
    have fin : ∀ n : Int, n = (if h.2.2.2.1 = 0 then 0 else IntKind.i64.wrap ((IntKind.i64.wrap (m.getD i 0)) - downF (IntKind.i64.wrap (m.getD i 0)) h.2.2.2.1)) → optim_down_moved_n14951 u (i : Int) n ((List.range i).map (movC h.2.2.2.1 m u)) (fun y5 => X (IntKind.i64.wrap ((i : Int) + 1), y5)) := by
      intro n hn
      refine ⟨?_⟩
      unfold optim_down_moved_n14951_t
      refine ⟨by omega, ⟨?_, ?_⟩⟩
      · simp only [List.length_map, List.length_range, List.length_singleton]; omega
      · rw [Int.toNat_natCast, wrap_i64 ((i : Int) + 1) (by omega) (by omega), hn]
        rw [List.range_succ, List.map_append] at hX
        exact hX
    by_cases h0 : h.2.2.2.1 = 0
    · rw [if_pos (by rw [h0]; rfl)]
      exact fin 0 (by rw [if_pos h0])
    · rw [if_neg (by simpa using h0)]
      exact fin _ (by rw [if_neg h0])
  · intro _ X
    unfold optim_down_moved_n58_B
    rw [if_neg (by simp)]
    exact hq
noncomputable def chnF (seed step layer what n shift : Int) (i : Nat) : Int := chF n shift (atF seed (streamF step layer what) (IntKind.u64.wrap (i : Int)))
theorem chn_v {h : Hyp} {seed step layer n shift what : Int} {i : Nat} {Q : Int → Prop} (hq : Q (chnF seed step layer what n shift i)) : optim_down_chance (h, seed, step, layer) n shift what (i : Int) Q := by
  refine ⟨?_⟩
  unfold optim_down_chance_t
  exact stream_v (at_v (chance_v hq))
def nearF (a s : Int) : Int := if shF s = 0 then valF a else (IntKind.i64.wrap (valF a + (IntKind.i64.wrap (1 * 2 ^ (min (IntKind.i64.wrap (shF s - 1)).toNat (IntKind.i64).bits))))).fdiv (2 ^ (min (shF s).toNat (IntKind.i64).bits))
theorem near_v {a s : Int} {Q : Int → Prop} (h : Q (nearF a s)) : round_Near a s Q := by
  refine ⟨?_⟩
  unfold round_Near_t
  have hr := shF_rng s
  unfold nearF at h
  show (if (shF s == 0) = true then Q (valF a) else _)
  by_cases h0 : shF s = 0
  · rw [if_pos h0] at h
    rw [if_pos (by rw [h0]; rfl)]
    exact h
  · rw [if_neg h0] at h
    rw [if_neg (by simpa using h0)]
    refine ⟨?_, hr.1, h⟩
    show 0 ≤ IntKind.i64.wrap (shF s - 1)
    rw [wrap_i64 _ (by omega) (by omega)]
    omega
/-- A weight, pushed. -/
noncomputable def wN (h : Hyp) (seed step layer : Int) (w m : List Int) (i : Nat) : Int :=
  let n := IntKind.i64.wrap ((IntKind.i64.wrap (w.getD i 0)) - chnF seed step layer 4 (IntKind.i64.wrap (m.getD i 0)) h.2.2.1 i)
  if 0 < h.2.2.2.2.1 then IntKind.i64.wrap (n - nearF (IntKind.i64.wrap (w.getD i 0)) h.2.2.2.2.1) else n
noncomputable def wNs (h : Hyp) (seed step layer : Int) (w m : List Int) (k : Nat) : List Int := (List.range k).map (wN h seed step layer w m)
def over (x : Int) : Bool := decide (127 < x) || decide (x < -127)
def cutC (g : Bool) (n : Int) : Int := IntKind.i8.wrap (clF (if g = true then nearF n 1 else n) 8)
noncomputable def wgF (h : Hyp) (seed step layer : Int) (w : T3) (m : List Int) : T3 :=
  let l := wNs h seed step layer w.2.2 m w.2.2.length
  let g := l.any over && decide (w.2.1 < 64)
  (w.1, (if g = true then IntKind.i64.wrap (w.2.1 + 1) else w.2.1), l.map (cutC g))
theorem wg_v {h : Hyp} {seed step layer : Int} {w : T3} {m : List Int} {Q : T3 → Prop} (hd : w.1.length ≤ 1000000) (hl : w.2.2.length ≤ 1000000) (hm : w.2.2.length ≤ m.length) (hq : Q (wgF h seed step layer w m)) : optim_down_weights (h, seed, step, layer) w m Q := by
  refine ⟨?_⟩
  unfold optim_down_weights_t
  refine ⟨?_⟩
  refine Loop.range (B := optim_down_weights_n122_B m w.2.2 (w.2.2.length : Int) h.1 h.2.1 h.2.2.1 h.2.2.2.1 h.2.2.2.2.1 h.2.2.2.2.2 seed step layer _) (f := fun i : Nat => ((wNs h seed step layer w.2.2 m i).any over, (i : Int), wNs h seed step layer w.2.2 m i)) w.2.2.length (fun _ => True) trivial ?_ ?_
  · intro i hi _ X hX
    have hX := hX trivial
    unfold optim_down_weights_n122_B
    rw [if_pos (decide_eq_true (show (i : Int) < (w.2.2.length : Int) by omega))]
    dsimp only at hX ⊢
    refine ⟨by omega, by omega, chn_v (h := (h.1, h.2.1, h.2.2.1, h.2.2.2.1, h.2.2.2.2.1, h.2.2.2.2.2)) ?_⟩
    rw [Int.toNat_natCast]
    have hlen : (wNs h seed step layer w.2.2 m i).length = i := by simp [wNs]
    have fin : ∀ n : Int, n = wN h seed step layer w.2.2 m i → optim_down_weights_n31335 ((wNs h seed step layer w.2.2 m i).any over) n (wNs h seed step layer w.2.2 m i) (fun y7 => X (y7, IntKind.i64.wrap ((i : Int) + 1), wNs h seed step layer w.2.2 m i ++ [n])) := by
      intro n hn
      refine ⟨?_⟩
      unfold optim_down_weights_n31335_t
      refine ⟨?_, ?_⟩
      · rw [hlen]; simp only [List.length_singleton]; omega
      · have e : wNs h seed step layer w.2.2 m (i + 1) = wNs h seed step layer w.2.2 m i ++ [n] := by
          unfold wNs
          rw [List.range_succ, List.map_append, hn]; rfl
        rw [e, List.any_append] at hX
        rw [wrap_i64 ((i : Int) + 1) (by omega) (by omega)]
        have e2 : ((wNs h seed step layer w.2.2 m i).any over || [n].any over) = (((wNs h seed step layer w.2.2 m i).any over || decide (127 < n)) || decide (n < -127)) := by
          simp [over, Bool.or_assoc]
        rw [e2] at hX
        exact hX
    by_cases hdc : 0 < h.2.2.2.2.1
    · rw [if_pos (decide_eq_true hdc)]
      refine near_v (fin _ ?_)
      unfold wN
      simp only
      rw [if_pos hdc]
    · rw [if_neg (by simpa using hdc)]
      refine fin _ ?_
      unfold wN
      simp only
      rw [if_neg hdc]
  · intro _ X
    unfold optim_down_weights_n122_B
    rw [if_neg (by simp)]
    dsimp only
    refine clone_v (by omega) ?_
    unfold wgF at hq
    simp only at hq
    have hLl : (wNs h seed step layer w.2.2 m w.2.2.length).length = w.2.2.length := by simp [wNs]
    generalize wNs h seed step layer w.2.2 m w.2.2.length = L at hq hLl ⊢
    have fin : ∀ g : Bool, ∀ K : List Int → Prop, K (L.map (cutC g)) → optim_down_weights_n127 g L K := by
      intro g K hK
      refine ⟨?_⟩
      unfold optim_down_weights_n127_t
      refine ⟨?_⟩
      refine Loop.range (B := optim_down_weights_n1018_B g (L.length : Int) L _) (f := fun i : Nat => ((i : Int), (L.take i).map (cutC g))) L.length (fun _ => True) trivial ?_ ?_
      · intro i hi _ Y hY
        have hY := hY trivial
        unfold optim_down_weights_n1018_B
        rw [if_pos (decide_eq_true (show (i : Int) < (L.length : Int) by omega))]
        dsimp only at hY ⊢
        refine ⟨by omega, ?_⟩
        rw [Int.toNat_natCast]
        have hget : L.getD i 0 = L[i] := by rw [List.getD_eq_getElem?_getD, List.getElem?_eq_getElem hi]; rfl
        have end_ : ∀ n : Int, n = (if g = true then nearF (L.getD i 0) 1 else L.getD i 0) → optim_down_weights_n130355 n ((L.take i).map (cutC g)) (fun y16 => Y (IntKind.i64.wrap ((i : Int) + 1), y16)) := by
          intro n hn
          refine ⟨?_⟩
          unfold optim_down_weights_n130355_t
          refine clamp_v ⟨?_, ?_⟩
          · simp only [List.length_map, List.length_take, List.length_singleton]; omega
          · rw [wrap_i64 ((i : Int) + 1) (by omega) (by omega)]
            rw [List.take_add_one, List.map_append, List.getElem?_eq_getElem hi] at hY
            rw [hn, hget]
            exact hY
        cases g with
        | true => rw [if_pos rfl]; exact near_v (end_ _ rfl)
        | false => rw [if_neg (by simp)]; exact end_ _ rfl
      · intro _ Y
        unfold optim_down_weights_n1018_B
        rw [if_neg (by simp)]
        dsimp only
        rw [List.take_length]
        exact hK
    by_cases hg : (L.any over && decide (w.2.1 < 64)) = true
    · rw [if_pos hg] at hq ⊢
      exact fin _ _ hq
    · rw [if_neg hg] at hq ⊢
      exact fin _ _ hq
noncomputable def bC (h : Hyp) (seed step layer : Int) (b v : List Int) (i : Nat) : Int := IntKind.i8.wrap (clF (IntKind.i64.wrap ((IntKind.i64.wrap (b.getD i 0)) - chnF seed step layer 6 (IntKind.i64.wrap (v.getD i 0)) h.2.2.1 i)) 8)
noncomputable def bsF (h : Hyp) (seed step layer : Int) (b : T3) (v : List Int) : T3 := (b.1, b.2.1, (List.range b.2.2.length).map (bC h seed step layer b.2.2 v))
theorem bias_v {h : Hyp} {seed step layer : Int} {b : T3} {v : List Int} {Q : T3 → Prop} (hd : b.1.length ≤ 1000000) (hl : b.2.2.length ≤ 1000000) (hv : b.2.2.length ≤ v.length) (hq : Q (bsF h seed step layer b v)) : optim_down_biases (h, seed, step, layer) b v Q := by
  refine ⟨?_⟩
  unfold optim_down_biases_t
  refine clone_v (by omega) ⟨?_⟩
  refine Loop.range (B := optim_down_biases_n58_B v b.2.2 (b.2.2.length : Int) h.1 h.2.1 h.2.2.1 h.2.2.2.1 h.2.2.2.2.1 h.2.2.2.2.2 seed step layer _) (f := fun i : Nat => ((i : Int), (List.range i).map (bC h seed step layer b.2.2 v))) b.2.2.length (fun _ => True) trivial ?_ ?_
  · intro i hi _ X hX
    have hX := hX trivial
    unfold optim_down_biases_n58_B
    rw [if_pos (decide_eq_true (show (i : Int) < (b.2.2.length : Int) by omega))]
    dsimp only at hX ⊢
    refine ⟨by omega, by omega, chn_v (h := (h.1, h.2.1, h.2.2.1, h.2.2.2.1, h.2.2.2.2.1, h.2.2.2.2.2)) (clamp_v ⟨?_, ?_⟩)⟩
    · simp only [List.length_map, List.length_range, List.length_singleton]; omega
    · rw [Int.toNat_natCast, wrap_i64 ((i : Int) + 1) (by omega) (by omega)]
      rw [List.range_succ, List.map_append] at hX
      exact hX
  · intro _ X
    unfold optim_down_biases_n58_B
    rw [if_neg (by simp)]
    exact hq

/-! ### A step -/
abbrev ZP : Prm := (Z3, [], Z3)
def badArgs (h : Hyp) (step layer : Int) : Bool := (!mayHF h || !inB step 0 1000000) || !inB layer 1 12
noncomputable def stepF (p : Prm) (g : Grd) (h : Hyp) (seed step layer : Int) : Prm × Int :=
  if badArgs h step layer = true then (ZP, 1)
  else if (!g.1) = true then (p, 0)
  else if (mayPGF p g != 0) = true then (ZP, mayPGF p g)
  else if ((dsmF h seed step layer g.2.1 3).2 != 0) = true then (ZP, (dsmF h seed step layer g.2.1 3).2)
  else if ((dsmF h seed step layer g.2.2 5).2 != 0) = true then (ZP, (dsmF h seed step layer g.2.2 5).2)
  else ((wgF h seed step layer p.1 (movF h.2.2.2.1 p.2.1 (dsmF h seed step layer g.2.1 3).1.2.2), (movF h.2.2.2.1 p.2.1 (dsmF h seed step layer g.2.1 3).1.2.2), bsF h seed step layer p.2.2 (dsmF h seed step layer g.2.2 5).1.2.2), 0)
theorem small_len {a : T3} {b s t : Int} (h : (smallF a b s t).2 = 0) : (smallF a b s t).1.2.2.length = a.2.2.length ∧ (smallF a b s t).1.1 = a.1 := by
  unfold smallF at h ⊢
  split at h
  · cases h
  · rename_i h1
    rw [if_neg h1]
    split at h
    · cases h
    · rename_i h2
      rw [if_neg h2]
      exact ⟨by simp [dataF], rfl⟩
theorem step_v {p : Prm} {g : Grd} {h : Hyp} {seed step layer : Int} {Q : Prm × Int → Prop} (l1 : p.1.1.length ≤ 17592186044416) (l2 : p.1.2.2.length ≤ 17592186044416) (l3 : p.2.1.length ≤ 17592186044416) (l4 : p.2.2.1.length ≤ 17592186044416) (l5 : p.2.2.2.2.length ≤ 17592186044416)
    (hq : Q (stepF p g h seed step layer)) : optim_Step p g h seed step layer Q := by
  refine ⟨?_⟩
  unfold optim_Step_t
  refine mayH_v (h := h) ?_
  refine or_v (b := !mayHF h) (c := !inB step 0 1000000) (fun P hp => oin_v hp) (fun v2 e2 => ?_) rfl
  refine or_v (c := !inB layer 1 12) (fun P hp => oin_v hp) (fun v5 e5 => ?_) rfl
  have e : v5 = badArgs h step layer := by rw [e5, e2]; rfl
  unfold stepF at hq
  rw [← e] at hq
  cases v5 with
  | true => rw [if_pos rfl] at hq ⊢; exact hq
  | false =>
    rw [if_neg (by simp)] at hq ⊢
    by_cases h1 : (!g.1) = true
    · rw [if_pos h1] at hq ⊢
      exact own_v l1 l2 (clone32_v l3 (own_v l4 l5 hq))
    · rw [if_neg h1] at hq ⊢
      refine omay_v (p := p) (g := g) ?_
      by_cases h2 : (mayPGF p g != 0) = true
      · rw [if_pos h2] at hq ⊢; exact hq
      · rw [if_neg h2] at hq ⊢
        refine dsm_v (h := h) ?_
        show (if ((dsmF h seed step layer g.2.1 3).2 != 0) = true then _ else _)
        by_cases h3 : ((dsmF h seed step layer g.2.1 3).2 != 0) = true
        · rw [if_pos h3] at hq ⊢; exact hq
        · rw [if_neg h3] at hq ⊢
          refine dsm_v (h := h) ?_
          show (if ((dsmF h seed step layer g.2.2 5).2 != 0) = true then _ else _)
          by_cases h4 : ((dsmF h seed step layer g.2.2 5).2 != 0) = true
          · rw [if_pos h4] at hq ⊢; exact hq
          · rw [if_neg h4] at hq ⊢
            have hbad : badPG p g = false := by
              cases hb : badPG p g with
              | false => rfl
              | true => exact absurd (by unfold mayPGF; rw [if_pos hb]; rfl) h2
            have hsh : g.2.1.1 = p.1.1 ∧ g.2.2.1 = p.2.2.1 := by
              by_cases hs : (!decide (g.2.1.1 = p.1.1) || !decide (g.2.2.1 = p.2.2.1)) = true
              · exact absurd (by unfold mayPGF; rw [if_neg (by rw [hbad]; simp), if_pos hs]; rfl) h2
              · simpa using hs
            obtain ⟨m1, m2, m3, m4, m5, m6⟩ := badPG_inv hbad
            obtain ⟨a1, _, _, _⟩ := mayF_inv m1
            obtain ⟨a2, _, _, _⟩ := mayF_inv m2
            obtain ⟨_, c1, _, d1, f1⟩ := mayAccF_len a1
            obtain ⟨_, c2, _, d2, f2⟩ := mayAccF_len a2
            obtain ⟨_, c3, _, d3, f3⟩ := mayAccF_len m3
            obtain ⟨_, c4, _, d4, f4⟩ := mayAccF_len m4
            have s1 := (small_len (a := g.2.1) (b := h.2.1) (s := seed) (t := streamF step layer 3) (show (dsmF h seed step layer g.2.1 3).2 = 0 from by simpa using h3)).1
            have s2 := (small_len (a := g.2.2) (b := h.2.1) (s := seed) (t := streamF step layer 5) (show (dsmF h seed step layer g.2.2 5).2 = 0 from by simpa using h4)).1
            rw [hsh.1] at c3
            rw [hsh.2] at c4
            have u1 : (dsmF h seed step layer g.2.1 3).1.2.2.length = g.2.1.2.2.length := s1
            have u2 : (dsmF h seed step layer g.2.2 5).1.2.2.length = g.2.2.2.2.length := s2
            refine mov_v (h := h) (by omega) (by show p.2.1.length ≤ (dsmF h seed step layer g.2.1 3).1.2.2.length; omega) ⟨?_⟩
            unfold optim_Step_n2047_t
            refine wg_v (h := h) (w := p.1) (by omega) (by omega) (by show p.1.2.2.length ≤ (movF _ _ _).length; simp [movF]; omega) ?_
            refine bias_v (h := h) (b := p.2.2) (by omega) (by omega) (by show p.2.2.2.2.length ≤ (dsmF h seed step layer g.2.2 5).1.2.2.length; omega) ?_
            exact hq

end Go.Proofs.Ytlbapaelkdpjcaa
