/- THE TABLE OF THE CONSOLE'S LINES: one caller that answers as the program does, wherever the console lies. No condition. -/
import Derived.Test.YtlgcbiacijgcmaaGreatDoorJX
namespace Go.Mach.J
open Go Go.Mach Go.RowKit

/-- What the table answers. -/
def Good (fl : Nat) (f : FuncId) (args : Array Value) (H : AHeap) (r : Value × AHeap) : Prop :=
  ∃ e σ, Tab e ∧ f = e.f ∧ args.toList = e.args.map (mvA σ) ∧ FitsD e.D σ fl H ∧ fl ≤ H.length ∧ r = (mvV (sgm e.e σ H.length) e.v, outH e.e σ H)

theorem str_inj {a b : List UInt8} (h : str a = str b) : a = b := by
  unfold str at h
  simp only [Value.string.injEq, ByteArray.mk.injEq, Array.mk.injEq] at h
  exact h
/-- A line of the table. -/
theorem good_line {fl c : Nat} {t : List UInt8} {H : AHeap} {r : Value × AHeap} (h : Good fl LN #[p c 0, str t] H r) :
    ∃ e σ, Tab e ∧ e.f = LN ∧ e.args = [cP, str t] ∧ σ 959 = c ∧ FitsD e.D σ fl H ∧ fl ≤ H.length ∧ r = (e.v, outH e.e σ H) := by
  obtain ⟨e, σ, h1, h2, h3, h4, h5, h6⟩ := h
  have key : ∀ (t' : List UInt8) (y : List UInt8), e.args = [cP, str t'] → e.v = str y → ∃ e σ, Tab e ∧ e.f = LN ∧ e.args = [cP, str t] ∧ σ 959 = c ∧ FitsD e.D σ fl H ∧ fl ≤ H.length ∧ r = (e.v, outH e.e σ H) := fun t' y ea ev => by
    rw [ea] at h3
    have h3 : [p c 0, str t] = [p (σ 959) 0, str t'] := h3
    simp only [List.cons.injEq, and_true] at h3
    have hc : c = σ 959 := by
      have := h3.1
      simp only [p, Value.pointer.injEq, Option.some.injEq, Addr.mk.injEq, and_true] at this
      exact this
    have ht := str_inj h3.2
    refine ⟨e, σ, h1, h2.symm, by rw [ea, ht], hc.symm, h4, h5, ?_⟩
    rw [h6, ev]
    rfl
  cases h1 with
  | t n k hn hk => exact key _ _ rfl rfl
  | p n hn => exact key _ _ rfl rfl
  | v n hn => exact key _ _ rfl rfl
  | c n hn => exact key _ _ rfl rfl
  | w => exact key _ _ rfl rfl
  | p2 => exact key _ _ rfl rfl
  | w2 => exact key _ _ rfl rfl
  | o => exact absurd h2 (by decide)
theorem args_inj {a b : List UInt8} (h : ([cP, str a] : List Value) = [cP, str b]) : a = b := by
  simp only [List.cons.injEq, true_and, and_true] at h
  exact str_inj h

/-- Which entries answer to a text. -/
theorem is_T {e : EK} (h : Tab e) (hf : e.f = LN) {x : UInt8} (ha : e.args = [cP, str (sTrain ++ [x])]) : ∃ n k, n < 34 ∧ k < 4 ∧ e = eT n k ∧ UInt8.ofNat (48 + k) = x := by
  cases h with
  | t n k hn hk =>
    have := args_inj ha
    have h2 := List.append_cancel_left this
    simp only [List.cons.injEq, and_true] at h2
    exact ⟨n, k, hn, hk, rfl, h2⟩
  | o => exact absurd hf (by decide)
  | _ => exact absurd (args_inj ha) (by simp [sStep, sSaved, sCrash, sWts, sTrain])
theorem is_P {e : EK} (h : Tab e) (hf : e.f = LN) (ha : e.args = [cP, str sStep]) : (∃ n, n < 37 ∧ e = eP n) ∨ e = eP2 := by
  cases h with
  | p n hn => exact .inl ⟨n, hn, rfl⟩
  | p2 => exact .inr rfl
  | o => exact absurd hf (by decide)
  | _ => exact absurd (args_inj ha) (by simp [sStep, sSaved, sCrash, sWts, sTrain])
theorem is_V {e : EK} (h : Tab e) (hf : e.f = LN) (ha : e.args = [cP, str sSaved]) : ∃ n, n < 37 ∧ e = eV n := by
  cases h with
  | v n hn => exact ⟨n, hn, rfl⟩
  | o => exact absurd hf (by decide)
  | _ => exact absurd (args_inj ha) (by simp [sStep, sSaved, sCrash, sWts, sTrain])
theorem is_C {e : EK} (h : Tab e) (hf : e.f = LN) (ha : e.args = [cP, str sCrash]) : ∃ n, n < 37 ∧ e = eC n := by
  cases h with
  | c n hn => exact ⟨n, hn, rfl⟩
  | o => exact absurd hf (by decide)
  | _ => exact absurd (args_inj ha) (by simp [sStep, sSaved, sCrash, sWts, sTrain])
theorem is_W {e : EK} (h : Tab e) (hf : e.f = LN) (ha : e.args = [cP, str sWts]) : e = eW ∨ e = eW2 := by
  cases h with
  | w => exact .inl rfl
  | w2 => exact .inr rfl
  | o => exact absurd hf (by decide)
  | _ => exact absurd (args_inj ha) (by simp [sStep, sSaved, sCrash, sWts, sTrain])

theorem key_ne {n m x y : Nat} (h : some (some (i n), some (i x)) = some (some (i m), some (i y))) : n = m ∧ x = y := by
  simp only [i, Option.some.injEq, Prod.mk.injEq, Value.int.injEq, true_and, Int.ofNat.injEq] at h
  exact h
theorem St_of {n p c fl : Nat} {σ : Nat → Nat} {H : AHeap} (hn : n < 37) (hd : nodK (DD n p) = true) (h : FitsD (DD n p) σ fl H) (hc : σ 959 = c) : St n c fl H := by
  rw [← shm n hn p] at h hd
  refine ⟨_, h.shift hd, ?_⟩
  show σ (sgN p 959) = c
  rw [sgN_lt (by decide)]
  exact hc
theorem l1 : 959 < n0 := by unfold n0; decide
theorem l2 : 959 < nC := by unfold nC n0; decide
theorem sgm959 {e : EK} (h : 959 < e.n) (σ : Nat → Nat) (l : Nat) : sgm e.e σ l 959 = σ 959 := if_pos h

open Classical in
/-- The table. -/
theorem table {xf1 : Caller} (hk1 : CallerKept xf1) (hS : CallS (callG extB1 xf1 Go.Proofs.Tryz.prog 100000) ck1) (hm : Go.Proofs.Tryz.prog.follows .mixedOrders = true)
    (hsnd : ∀ {base : Nat} {w0 : World}, LibVars w0 → gTop ≤ base → CallerSound base w0 Go.Proofs.Tryz.prog xf1) (h5 : gTop = 5) :
    ∃ xf : Caller, CallerKept xf ∧ (∀ {base : Nat} {w0 : World}, LibVars w0 → gTop ≤ base → CallerSound base w0 Go.Proofs.Tryz.prog xf) ∧ (∀ fl H, xf fl extW #[] H = some (.bool true, H)) ∧
      ∀ fl f args H r, f ≠ extW → Good fl f args H r → ∃ r', Good fl f args H r' ∧ xf fl f args H = some r' := by
  let xf : Caller := fun fl f args H => if f = extW then (if args.toList = [] then some (.bool true, H) else none) else if h : ∃ r, Good fl f args H r then some h.choose else none
  refine ⟨xf, ?_, ?_, fun fl H => ?_, fun fl f args H r hf h => ?_⟩
  · intro fl f args H v H' h
    simp only [xf] at h
    split at h
    · split at h
      · cases h; exact Kept.refl _ _
      · cases h
    · split at h
      · rename_i hg
        obtain ⟨e, σ, h1, h2, h3, h4, h6, h7⟩ := hg.choose_spec
        rw [Option.some.inj h] at h7
        cases h7
        exact out_kept (wfK_ok (tab_wf h1)) h4.fits
      · cases h
  · intro base w0 hL hb fl f args cargs ρ H H' w v S hbf hfl hfr hargs h
    simp only [xf] at h
    split at h
    · rename_i hf
      split at h
      · rename_i ha
        cases h
        subst hf
        rw [ha] at hargs
        have hc : cargs = #[] := by
          have := hargs.inv_nil
          cases cargs; simp at this; rw [this]
        subst hc
        refine (awake_calls (hL.now S hb)).mono ?_
        rintro e w' ⟨rfl, hb⟩
        exact ⟨_, ρ, rfl, .bool _, Step.behind S hb⟩
      · cases h
    · split at h
      · rename_i hg
        obtain ⟨e, σ, h1, h2, h3, h4, h6, h7⟩ := hg.choose_spec
        rw [Option.some.inj h] at h7
        cases h7
        subst h2
        have hs : CallerSound 5 w0 Go.Proofs.Tryz.prog (callG extB1 xf1 Go.Proofs.Tryz.prog 100000) := callG_sound extB1 hk1 Go.Proofs.Tryz.prog (hsnd hL (by rw [h5]; exact Nat.le_refl 5)) hm 100000
        refine reloc hs (wfK_ok (tab_wf h1)) (tab_run hS h1) S (by omega) hbf hfl hfr h4.fits ?_
        rw [h3] at hargs
        exact hargs
      · cases h
  · simp only [xf, if_true]
  · refine ⟨_, (⟨r, h⟩ : ∃ r, Good fl f args H r).choose_spec, ?_⟩
    simp only [xf]
    rw [if_neg hf, dif_pos ⟨r, h⟩]

/-- What the law asks of a caller. -/
structure Told (xf : Caller) : Prop where
  kept : CallerKept xf
  awake : ∀ fl H, xf fl extW #[] H = some (.bool true, H)
  new : ∀ fl H, fl ≤ H.length → ∃ c H', xf fl 4 #[] H = some (p c 0, H') ∧ St 0 c fl H'
  train : ∀ fl H c n k, n < 34 → k < 4 → St n c fl H → fl ≤ H.length → ∃ H', xf fl LN #[p c 0, str (sTrain ++ [UInt8.ofNat (48 + k)])] H = some (str (sOk ++ [UInt8.ofNat (48 + k)]), H') ∧ St (n + k) c fl H'
  step : ∀ fl H c n, n < 37 → St n c fl H → fl ≤ H.length → ∃ H', xf fl LN #[p c 0, str sStep] H = some (str (digs n), H') ∧ St n c fl H'
  saved : ∀ fl H c n, n < 37 → St n c fl H → fl ≤ H.length → ∃ H', xf fl LN #[p c 0, str sSaved] H = some (str [45], H') ∧ St n c fl H'
  crash : ∀ fl H c n, n < 37 → St n c fl H → fl ≤ H.length → ∃ H', xf fl LN #[p c 0, str sCrash] H = some (str (sOk ++ [48]), H') ∧ StC c fl H'
  step2 : ∀ fl H c, StC c fl H → fl ≤ H.length → ∃ H', xf fl LN #[p c 0, str sStep] H = some (str [48], H') ∧ StC c fl H'
  wts : ∀ fl H c, St 0 c fl H → fl ≤ H.length → ∃ H', xf fl LN #[p c 0, str sWts] H = some (str sW, H') ∧ St 0 c fl H'
  wts2 : ∀ fl H c, StC c fl H → fl ≤ H.length → ∃ H', xf fl LN #[p c 0, str sWts] H = some (str sW, H') ∧ StC c fl H'

theorem k_eq {k m : Nat} (hk : k < 4) (hm : m < 4) (h : UInt8.ofNat (48 + k) = UInt8.ofNat (48 + m)) : k = m := by
  have h1 := congrArg UInt8.toNat h
  simp only [UInt8.toNat_ofNat'] at h1
  omega
theorem told {xf : Caller} (hk : CallerKept xf) (ha : ∀ fl H, xf fl extW #[] H = some (.bool true, H))
    (hg : ∀ fl f args H r, f ≠ extW → Good fl f args H r → ∃ r', Good fl f args H r' ∧ xf fl f args H = some r') : Told xf := by
  -- a line, by the entry that lies there
  have line : ∀ (e : EK) (t : List UInt8) fl H c σ, Tab e → e.f = LN → e.args = [cP, str t] → FitsD e.D σ fl H → σ 959 = c → fl ≤ H.length →
      ∃ e' σ', Tab e' ∧ e'.f = LN ∧ e'.args = [cP, str t] ∧ σ' 959 = c ∧ FitsD e'.D σ' fl H ∧ FitsD e'.D1 (sgm e'.e σ' H.length) fl (outH e'.e σ' H) ∧ xf fl LN #[p c 0, str t] H = some (e'.v, outH e'.e σ' H) := by
    intro e t fl H c σ h1 h2 h3 h4 h5 h6
    obtain ⟨r', h7, h8⟩ := hg fl LN #[p c 0, str t] H (mvV (sgm e.e σ H.length) e.v, outH e.e σ H) (by decide) ⟨e, σ, h1, h2.symm, by rw [h3, ← h5]; rfl, h4, h6, rfl⟩
    obtain ⟨e', σ', k1, k2, k3, k4, k5, k6, k7⟩ := good_line h7
    exact ⟨e', σ', k1, k2, k3, k4, k5, out_fits (tab_wf k1) k5 k6, by rw [h8, k7]⟩
  have nod : ∀ {e : EK}, Tab e → nodK e.D1 = true := fun h => (wfK_nod (tab_wf h)).2
  refine ⟨hk, ha, ?_, ?_, ?_, ?_, ?_, ?_, ?_, ?_⟩
  · intro fl H hfl
    obtain ⟨r', h7, h8⟩ := hg fl 4 #[] H (mvV (sgm eO.e id H.length) eO.v, outH eO.e id H) (by decide) ⟨eO, id, .o, rfl, rfl, ⟨fun b B hb => (by cases hb), fun b c hb => (by cases hb)⟩, hfl, rfl⟩
    obtain ⟨e, σ, h1, h2, h3, h4, h5, h6⟩ := h7
    have hne : ∀ e : EK, Tab e → e.args = [] → e = eO := fun e h ha => by
      cases h <;> first | rfl | cases ha
    have := hne e h1 (by
      have : (e.args.map (mvA σ)) = [] := h3.symm
      simpa using this)
    subst this
    have hF := out_fits (tab_wf h1) h4 h5
    refine ⟨H.length + (959 - 5), outH eO.e σ H, by rw [h8, h6]; rfl, _, FitsD.shift (nod h1) hF, ?_⟩
    rfl
  · intro fl H c n k hn hk4 ⟨σ, hF, hc⟩ hfl
    obtain ⟨e, σ', h1, h2, h3, h4, h5, h6, h7⟩ := line (eT n k) _ fl H c σ (.t n k hn hk4) rfl rfl hF hc hfl
    obtain ⟨m, k', hm, hk', rfl, hx⟩ := is_T h1 h2 h3
    have := k_eq hk' hk4 hx
    subst this
    have hk1 := key_D hF
    have hk2 := key_D h5
    rw [hc] at hk1
    rw [h4, hk1] at hk2
    obtain ⟨rfl, _⟩ := key_ne hk2
    exact ⟨_, h7, St_of (by omega) (nod h1) h6 ((sgm959 l1 _ _).trans h4)⟩
  · intro fl H c n hn ⟨σ, hF, hc⟩ hfl
    obtain ⟨e, σ', h1, h2, h3, h4, h5, h6, h7⟩ := line (eP n) _ fl H c σ (.p n hn) rfl rfl hF hc hfl
    have hk1 := key_D hF
    rw [hc] at hk1
    rcases is_P h1 h2 h3 with ⟨m, hm, rfl⟩ | rfl
    · have hk2 := key_D h5
      rw [h4, hk1] at hk2
      obtain ⟨rfl, _⟩ := key_ne hk2
      exact ⟨_, h7, St_of hn (nod h1) h6 ((sgm959 l1 _ _).trans h4)⟩
    · have hk2 := key_C h5
      rw [h4, hk1] at hk2
      have := (key_ne hk2).2
      omega
  · intro fl H c n hn ⟨σ, hF, hc⟩ hfl
    obtain ⟨e, σ', h1, h2, h3, h4, h5, h6, h7⟩ := line (eV n) _ fl H c σ (.v n hn) rfl rfl hF hc hfl
    have hk1 := key_D hF
    rw [hc] at hk1
    obtain ⟨m, hm, rfl⟩ := is_V h1 h2 h3
    have hk2 := key_D h5
    rw [h4, hk1] at hk2
    obtain ⟨rfl, _⟩ := key_ne hk2
    exact ⟨_, h7, St_of hn (nod h1) h6 ((sgm959 l1 _ _).trans h4)⟩
  · intro fl H c n hn ⟨σ, hF, hc⟩ hfl
    obtain ⟨e, σ', h1, h2, h3, h4, h5, h6, h7⟩ := line (eC n) _ fl H c σ (.c n hn) rfl rfl hF hc hfl
    obtain ⟨m, hm, rfl⟩ := is_C h1 h2 h3
    exact ⟨_, h7, _, h6, (sgm959 l1 _ _).trans h4⟩
  · intro fl H c ⟨σ, hF, hc⟩ hfl
    obtain ⟨e, σ', h1, h2, h3, h4, h5, h6, h7⟩ := line eP2 _ fl H c σ .p2 rfl rfl hF hc hfl
    have hk1 := key_C hF
    rw [hc] at hk1
    rcases is_P h1 h2 h3 with ⟨m, hm, rfl⟩ | rfl
    · have hk2 := key_D h5
      rw [h4, hk1] at hk2
      have := (key_ne hk2).2
      omega
    · exact ⟨_, h7, _, h6, (sgm959 l2 _ _).trans h4⟩
  · intro fl H c ⟨σ, hF, hc⟩ hfl
    obtain ⟨e, σ', h1, h2, h3, h4, h5, h6, h7⟩ := line eW _ fl H c σ .w rfl rfl hF hc hfl
    have hk1 := key_D hF
    rw [hc] at hk1
    rcases is_W h1 h2 h3 with rfl | rfl
    · exact ⟨_, h7, St_of (n := 0) (p := q0) (Nat.zero_lt_succ 36) (nod h1) h6 ((sgm959 l1 _ _).trans h4)⟩
    · have hk2 := key_C h5
      rw [h4, hk1] at hk2
      have := (key_ne hk2).2
      omega
  · intro fl H c ⟨σ, hF, hc⟩ hfl
    obtain ⟨e, σ', h1, h2, h3, h4, h5, h6, h7⟩ := line eW2 _ fl H c σ .w2 rfl rfl hF hc hfl
    have hk1 := key_C hF
    rw [hc] at hk1
    rcases is_W h1 h2 h3 with rfl | rfl
    · have hk2 := key_D h5
      rw [h4, hk1] at hk2
      have := (key_ne hk2).2
      omega
    · exact ⟨_, h7, _, h6, (sgm959 l2 _ _).trans h4⟩
end Go.Mach.J
