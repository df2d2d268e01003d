/- WHAT THE MACHINE FOR CONCRETE RUNS COMES TO, THE FIRST MACHINE COMES TO: regions, texts, calls. No condition. -/
import Derived.Test.YtlgcbiacijgcmaaGreatDoorJ7
import Derived.Test.YtlgcbiacijgcmaaGreatDoorTrace
namespace Go.Mach.J
open Go Go.Mach

section
variable {P : Program}

/-- The floor that an operation hands on. -/
def flOf (lo : Bool) (fl : Nat) (H : AHeap) : Nat := if lo then fl else H.length

theorem loF_ok {o : KO} {op : Op} {lo : Bool} (hks : KS P o op) : ∀ f, loF lo o = .mk f → ∀ call ck fl T t K H k, CallS call ck → TRel T t → HRel K H → f ck fl fl T K k →
    ∃ v K' H', valOp P call fl (flOf lo fl H) op (eval t) H = some (v, H') ∧ HRel K' H' ∧ k v K' := by
  intro f hf call ck fl T t K H k hS hT hH h
  cases o with
  | mk g =>
    cases lo with
    | true =>
      cases hf
      exact hks call ck fl fl T t K H k hS hT hH h
    | false =>
      cases hf
      obtain ⟨n, tr⟩ := K
      have := hH.1
      simp only at this
      subst this
      exact hks call ck fl H.length T t ⟨H.length, tr⟩ H k hS hT hH h
/-- Is it the truth that a guard asks for? -/
def isV (b : Bool) : Value → Bool
  | .bool c => c == b
  | _ => false

theorem stepOp_val {call : Caller} {fl flc : Nat} {ops : Array Oper} {o : Oper} {t : Temps} {H H' : AHeap} {v : Value} (hw : wantedA ops t o = true) (h : valOp P call fl flc o.op (eval t) H = some (v, H')) :
    stepOp P call fl flc ops o t H = some (tput t o.dst v, H') := by
  unfold valOp at h
  unfold stepOp
  rw [if_pos hw]
  cases hp : prim P fl o.op (eval t) H with
  | none => rw [hp] at h; cases h
  | some r =>
    obtain ⟨r, H1⟩ := r
    rw [hp] at h
    cases r with
    | value u => cases h; rfl
    | skip => cases h; rfl
    | enter f args => simp only at h ⊢; rw [h]
theorem stepOp_not {call : Caller} {fl flc : Nat} {ops : Array Oper} {o : Oper} {t : Temps} {H : AHeap} (hw : wantedA ops t o = false) : stepOp P call fl flc ops o t H = some (tput t o.dst undef, H) := by
  unfold stepOp
  rw [if_neg (by rw [hw]; exact Bool.false_ne_true)]

theorem onBoolE_out {v : Value} {k : Bool → Prop} {e : Prop} (h : onBoolE v k e) : (∃ b, v = .bool b ∧ k b) ∨ ((∀ b, v ≠ .bool b) ∧ e) := by
  cases v with
  | bool b => exact .inl ⟨b, rfl, h⟩
  | _ => exact .inr ⟨(fun b h => by cases h), h⟩
theorem want_out {v : Value} {b : Bool} {p q : Prop} (h : wantK v b p q) : ((∃ c, v = .bool c ∧ (c == b) = true) ∧ p) ∨ (isV b v = false ∧ q) := by
  rcases onBoolE_out h with ⟨c, rfl, h1⟩ | ⟨h1, h2⟩
  · cases c <;> cases b
    · exact .inl ⟨⟨false, rfl, rfl⟩, h1⟩
    · exact .inr ⟨rfl, h1⟩
    · exact .inr ⟨rfl, h1⟩
    · exact .inl ⟨⟨true, rfl, rfl⟩, h1⟩
  · refine .inr ⟨?_, h2⟩
    cases v with
    | bool c => exact absurd rfl (h1 c)
    | _ => rfl

/-- One operation, made ready, ahead of others. -/
theorem oper_out {call : Caller} {ck : KC} {fl : Nat} {ops : Array Oper} {o : Oper} {lo : Bool} {r : KR} {T : TT} {t : Temps} {K : HT} {H : AHeap} {k : TT → HT → Prop} (hS : CallS call ck) (hT : TRel T t) (hH : HRel K H)
    (h : krun ck fl (cOper P ops o lo r) T K k) : ∃ T' t' K' H', stepOp P call fl (flOf lo fl H) ops o t H = some (t', H') ∧ TRel T' t' ∧ HRel K' H' ∧ krun ck fl r T' K' k := by
  have hop := loF_ok (lo := lo) (cop_ok (P := P) o.op)
  have hput : ∀ {d : Nat} {v : Value} {T : TT} {k : TT → Prop} {w : WF}, d < 256 → cw d = .mk w → o.dst = some d → TRel T t → w v T k → ∃ T', TRel T' (tput t o.dst v) ∧ k T' := by
    intro d v T k w hd hw ho hT h
    obtain ⟨h1, h2⟩ := wr_out (k := k) hd hT (by rw [hw]; exact h)
    exact ⟨_, by rw [ho]; exact h1, h2⟩
  unfold cOper at h
  split at h
  · rename_i f hf hg
    have hw : wantedA ops t o = true := by unfold wantedA; rw [hg]
    split at h
    · rename_i d hd
      split at h
      · rename_i hd256
        split at h
        rename_i w hcw
        obtain ⟨v, K', H', h1, h2, h3⟩ := hop f hf call ck fl T t K H (fun v K => w v T fun T => krun ck fl r T K k) hS hT hH h
        obtain ⟨T', h4, h5⟩ := hput (k := fun T => krun ck fl r T K' k) hd256 hcw hd hT h3
        exact ⟨T', _, K', H', stepOp_val hw h1, h4, h2, h5⟩
      · exact h.elim
    · rename_i hd
      obtain ⟨v, K', H', h1, h2, h3⟩ := hop f hf call ck fl T t K H (fun _ K => krun ck fl r T K k) hS hT hH h
      exact ⟨T, _, K', H', stepOp_val hw h1, by rw [hd]; exact hT, h2, h3⟩
  · rename_i f j b hf hg
    split at h
    · rename_i gd hgd
      have hwant : ∀ c : Bool, isV b (t gd) = c → wantedA ops t o = c := by
        intro c hc
        unfold wantedA
        rw [hg]
        simp only [hgd]
        rw [← hc]
        cases t gd <;> rfl
      split at h
      · rename_i g d hcg hd
        split at h
        · rename_i hd256
          split at h
          rename_i w hcw
          have h0 := rd_out (x := .tmp gd) (k := fun v => wantK v b (f ck fl fl T K fun v K => w v T fun T => krun ck fl r T K k) (w undef T fun T => krun ck fl r T K k)) hT (by rw [hcg]; exact h)
          rcases want_out h0 with ⟨⟨c, hc, hcb⟩, h1⟩ | ⟨hn, h1⟩
          · have hw := hwant true (by simp only [eval] at hc; rw [hc]; exact hcb)
            obtain ⟨v, K', H', h1, h2, h3⟩ := hop f hf call ck fl T t K H (fun v K => w v T fun T => krun ck fl r T K k) hS hT hH h1
            obtain ⟨T', h4, h5⟩ := hput (k := fun T => krun ck fl r T K' k) hd256 hcw hd hT h3
            exact ⟨T', _, K', H', stepOp_val hw h1, h4, h2, h5⟩
          · have hw := hwant false hn
            obtain ⟨T', h4, h5⟩ := hput (k := fun T => krun ck fl r T K k) hd256 hcw hd hT h1
            exact ⟨T', _, K, H, stepOp_not hw, h4, hH, h5⟩
        · exact h.elim
      · rename_i g hcg hd
        have h0 := rd_out (x := .tmp gd) (k := fun v => wantK v b (f ck fl fl T K fun _ K => krun ck fl r T K k) (krun ck fl r T K k)) hT (by rw [hcg]; exact h)
        rcases want_out h0 with ⟨⟨c, hc, hcb⟩, h1⟩ | ⟨hn, h1⟩
        · have hw := hwant true (by simp only [eval] at hc; rw [hc]; exact hcb)
          obtain ⟨v, K', H', h1, h2, h3⟩ := hop f hf call ck fl T t K H (fun _ K => krun ck fl r T K k) hS hT hH h1
          exact ⟨T, _, K', H', stepOp_val hw h1, by rw [hd]; exact hT, h2, h3⟩
        · have hw := hwant false hn
          exact ⟨T, _, K, H, stepOp_not hw, by rw [hd]; exact hT, hH, h1⟩
    · exact h.elim

theorem rg_out {call : Caller} {ck : KC} {fl : Nat} {ops : Array Oper} (hS : CallS call ck) : ∀ (l : List Oper) {T : TT} {t : Temps} {K : HT} {H : AHeap} {k : TT → HT → Prop}, TRel T t → HRel K H → krun ck fl (cRg P ops l) T K k →
    ∃ T' t' K' H', runOps P call fl ops l t H = some (t', H') ∧ TRel T' t' ∧ HRel K' H' ∧ k T' K'
  | [], T, t, K, H, k, hT, hH, h => ⟨T, t, K, H, rfl, hT, hH, h⟩
  | o :: l, T, t, K, H, k, hT, hH, h => by
    obtain ⟨T1, t1, K1, H1, h1, h2, h3, h4⟩ := oper_out hS hT hH h
    obtain ⟨T2, t2, K2, H2, h5, h6, h7, h8⟩ := rg_out hS l h2 h3 h4
    refine ⟨T2, t2, K2, H2, ?_, h6, h7, h8⟩
    simp only [flOf, if_true] at h1
    simp only [runOps, h1, h5]
theorem dr_out {call : Caller} {ck : KC} {fl : Nat} {ops : Array Oper} {b : Array Nat} (hS : CallS call ck) : ∀ (l : List Oper) (i : Nat) {T : TT} {t : Temps} {K : HT} {H : AHeap} {k : TT → HT → Prop}, TRel T t → HRel K H → krun ck fl (cDr P ops b i l) T K k →
    ∃ T' t' K' H', runDrawn P call fl ops b i l t H = some (t', H') ∧ TRel T' t' ∧ HRel K' H' ∧ k T' K'
  | [], _, T, t, K, H, k, hT, hH, h => ⟨T, t, K, H, rfl, hT, hH, h⟩
  | o :: l, i, T, t, K, H, k, hT, hH, h => by
    obtain ⟨T1, t1, K1, H1, h1, h2, h3, h4⟩ := oper_out hS hT hH h
    obtain ⟨T2, t2, K2, H2, h5, h6, h7, h8⟩ := dr_out hS l (i + 1) h2 h3 h4
    refine ⟨T2, t2, K2, H2, ?_, h6, h7, h8⟩
    simp only [runDrawn]
    rw [show (if (kindOf o.op == 4 && apartCall ops b i) = true then fl else H.length) = flOf (kindOf o.op == 4 && apartCall ops b i) fl H from rfl, h1]
    exact h5

theorem tmps_eval {T : TT} {t : Temps} (hT : TRel T t) {op : Op} (h : (opTmps op).all (fun d => Nat.blt d 256) = true) : ∀ x ∈ op.operands, eval T.fn x = eval t x := by
  intro x hx
  cases x with
  | tmp d =>
    have : d ∈ opTmps op := List.mem_filterMap.2 ⟨.tmp d, by simpa using hx, rfl⟩
    have := List.all_eq_true.1 h d this
    exact hT d (by simpa [Nat.blt_eq] using this)
  | _ => rfl
theorem clash_eq {ops : Array Oper} {T : TT} {t : Temps} (hT : TRel T t) (h : tmpsOk ops = true) (p : Nat × Nat) : clashOk ops T.fn p = clashOk ops t p := by
  have key : ∀ (i : Nat) (o : Oper), ops[i]? = some o → accOf o.op (eval T.fn) = accOf o.op (eval t) ∧ wrOf o.op (eval T.fn) = wrOf o.op (eval t) := by
    intro i o hi
    have hm : o ∈ ops.toList := by
      rw [← Array.getElem?_toList] at hi
      exact List.mem_of_getElem? hi
    have := tmps_eval hT (List.all_eq_true.1 h o hm)
    exact ⟨accOf_congr this, wrOf_congr this⟩
  unfold clashOk
  cases h1 : ops[p.1]? with
  | none => rfl
  | some o1 =>
    cases h2 : ops[p.2]? with
    | none => rfl
    | some o2 => simp only [(key _ _ h1).1, (key _ _ h1).2, (key _ _ h2).1, (key _ _ h2).2]
theorem clash_out {ops : Array Oper} {T : TT} {t : Temps} (hT : TRel T t) (ht : tmpsOk ops = true) : ∀ {l : List (Nat × Nat)} {p : Prop}, clashK ops l T p → l.all (clashOk ops t) = true ∧ p
  | [], _, h => ⟨rfl, h⟩
  | x :: l, p, h => by
    obtain ⟨h1, h2⟩ := chk_iff.1 (show chk (clashOk ops T.fn x) (clashK ops l T p) from h)
    obtain ⟨h3, h4⟩ := clash_out hT ht h2
    refine ⟨?_, h4⟩
    rw [List.all_cons, h3, ← clash_eq hT ht, h1]
    rfl

/-! ### Calls that may not touch some blocks -/
theorem lockK_out : ∀ (X : List Nat) {K : HT} {H : AHeap} {k : HT → Prop}, HRel K H → lockK X K k → ∃ K', HRel K' (lockH X H) ∧ k K'
  | [], K, H, k, hH, h => ⟨K, hH, h⟩
  | x :: X, K, H, k, hH, h => by
    obtain ⟨n, t⟩ := K
    have hsz := hH.1
    simp only at hsz
    rcases ifB_iff.1 (show ifB (Nat.blt x n) (setBK ⟨n, t⟩ x none (fun H => lockK X H k)) (lockK X ⟨n, t⟩ k) from h) with ⟨h1, h2⟩ | ⟨h1, h2⟩
    · have h1 : x < n := by simpa [Nat.blt_eq] using h1
      cases hx : H[x]? with
      | none => rw [List.getElem?_eq_none_iff] at hx; omega
      | some B =>
        obtain ⟨K1, h3, h4⟩ := drop_out (L := { B with alive := false }) hH h1 h2
        have he : lock1 H x = H.set x { B with alive := false } := by unfold lock1; rw [hx]
        show ∃ K', HRel K' (lockH X (lock1 H x)) ∧ k K'
        rw [he]
        exact lockK_out X h3 h4
    · have h1 : ¬ x < n := by simpa [← Bool.not_eq_true, Nat.blt_eq] using h1
      have he : lock1 H x = H := by unfold lock1; rw [List.getElem?_eq_none (by omega)]
      show ∃ K', HRel K' (lockH X (lock1 H x)) ∧ k K'
      rw [he]
      exact lockK_out X hH h2
theorem unlockK_out {K0 : HT} {H0 : AHeap} (h0 : HRel K0 H0) : ∀ (X : List Nat) {K : HT} {H : AHeap} {k : HT → Prop}, H0.length ≤ H.length → HRel K H → unlockK X K0 K k → ∃ K', HRel K' (unlockH X H0 H) ∧ k K'
  | [], K, H, k, _, hH, h => ⟨K, hH, h⟩
  | x :: X, K, H, k, hl, hH, h => by
    obtain ⟨n, t⟩ := K0
    have hsz := h0.1
    simp only at hsz
    show ∃ K', HRel K' (unlockH X H0 (unlock1 H0 H x)) ∧ k K'
    rcases ifB_iff.1 (show ifB (Nat.blt x n) (getB (pth x) t fun o => setBK K x o (fun H => unlockK X ⟨n, t⟩ H k)) (unlockK X ⟨n, t⟩ K k) from h) with ⟨h1, h2⟩ | ⟨h1, h2⟩
    · have h1 : x < n := by simpa [Nat.blt_eq] using h1
      have h3 := (getB_iff (pth x) t (fun o => setBK K x o (fun H => unlockK X ⟨n, t⟩ H k))).1 h2
      have hxK : x < K.size := by rw [hH.1]; omega
      cases hx : H0[x]? with
      | none => rw [List.getElem?_eq_none_iff] at hx; omega
      | some B =>
        have he : unlock1 H0 H x = H.set x B := by unfold unlock1; rw [hx]
        rw [he]
        cases hg : t.get (pth x) with
        | none =>
          rw [hg] at h3
          obtain ⟨K1, h4, h5⟩ := drop_out (L := B) hH hxK h3
          exact unlockK_out h0 X (by rw [List.length_set]; exact hl) h4 h5
        | some C =>
          rw [hg] at h3
          obtain ⟨L, hL, hC⟩ := h0.2.2 x C h1 hg
          rw [hx] at hL
          cases hL
          obtain ⟨K1, h4, h5⟩ := upd_out hH hxK hC h3
          exact unlockK_out h0 X (by rw [List.length_set]; exact hl) h4 h5
    · have h1 : ¬ x < n := by simpa [← Bool.not_eq_true, Nat.blt_eq] using h1
      have he : unlock1 H0 H x = H := by unfold unlock1; rw [List.getElem?_eq_none (by omega)]
      rw [he]
      exact unlockK_out h0 X hl hH h2
theorem lockC_ok {call : Caller} {ck : KC} (hk : CallerKept call) (hS : CallS call ck) (X : List Nat) : CallS (lockCall call X) (lockC X ck) := by
  intro fl f args T H k hH h
  obtain ⟨K1, h1, h2⟩ := lockK_out X hH h
  obtain ⟨v, K2, H2, h3, h4, h5⟩ := hS fl f args K1 (lockH X H) _ h1 h2
  have hl : H.length ≤ H2.length := by have := (hk _ _ _ _ _ _ h3).len; rw [lockH_len] at this; exact this
  obtain ⟨K3, h6, h7⟩ := unlockK_out hH X hl h4 h5
  exact ⟨v, K3, _, by unfold lockCall; rw [h3], h6, h7⟩
theorem semi_out {call : Caller} {ck : KC} {fl : Nat} {ops : Array Oper} {b : Array Nat} (hk : CallerKept call) (hS : CallS call ck) (ht : tmpsOk ops = true) : ∀ (l : List Oper) (i : Nat) (X : List Nat) (Z : List (Nat × List Nat × Nat)) {T : TT} {t : Temps} {K : HT} {H : AHeap} {k : TT → HT → Prop}, (∀ o ∈ l, o ∈ ops.toList) → TRel T t → HRel K H →
    krunS P ck fl ops b l i X Z T K k → ∃ T' t' K' H', runSemi P call fl ops b i X Z l t H = some (t', H') ∧ TRel T' t' ∧ HRel K' H' ∧ k T' K'
  | [], _, _, _, T, t, K, H, k, _, hT, hH, h => ⟨T, t, K, H, rfl, hT, hH, h⟩
  | o :: l, i, X, Z, T, t, K, H, k, hm, hT, hH, h => by
    have hac : accOf o.op (eval T.fn) = accOf o.op (eval t) := accOf_congr (tmps_eval hT (List.all_eq_true.1 ht o (hm o List.mem_cons_self)))
    obtain ⟨h1, h2⟩ := chk_iff.1 (show chk (semiChk b i Z (accOf o.op (eval T.fn))) _ from h)
    rw [hac] at h1 h2
    simp only [runSemi]
    rw [if_pos h1]
    have hm' : ∀ o ∈ l, o ∈ ops.toList := fun p hp => hm p (List.mem_cons_of_mem _ hp)
    rcases ifB_iff.1 h2 with ⟨h3, h4⟩ | ⟨h3, h4⟩
    · obtain ⟨T1, t1, K1, H1, h5, h6, h7, h8⟩ := oper_out (lockC_ok hk hS X) hT hH h4
      rw [show (HT.rec (motive := fun _ => Nat) (fun n _ => n) K : Nat) = H.length from by cases K; exact hH.1] at h8
      obtain ⟨T2, t2, K2, H2, h9, h10, h11, h12⟩ := semi_out hk hS ht l (i + 1) _ _ hm' h6 h7 h8
      refine ⟨T2, t2, K2, H2, ?_, h10, h11, h12⟩
      rw [if_pos h3, if_pos h3]
      unfold flOf at h5
      rw [h5]
      exact h9
    · have h3' : ¬ semiAt ops b i o = true := by rw [h3]; exact Bool.false_ne_true
      obtain ⟨T1, t1, K1, H1, h5, h6, h7, h8⟩ := oper_out hS hT hH h4
      obtain ⟨T2, t2, K2, H2, h9, h10, h11, h12⟩ := semi_out hk hS ht l (i + 1) _ _ hm' h6 h7 h8
      refine ⟨T2, t2, K2, H2, ?_, h10, h11, h12⟩
      rw [if_neg h3', if_neg h3']
      unfold flOf at h5
      rw [h5]
      exact h9

theorem kreg_out {call : Caller} {ck : KC} {fl : Nat} {ops : Array Oper} {draw : Bool} {T : TT} {t : Temps} {K : HT} {H : AHeap} {k : TT → HT → Prop} (hk : CallerKept call) (hS : CallS call ck) (hT : TRel T t) (hH : HRel K H)
    (h : kreg P ck fl ops draw T K k) : ∃ T' t' K' H', runRegion P call fl ops draw t H = some (t', H') ∧ TRel T' t' ∧ HRel K' H' ∧ k T' K' := by
  unfold kreg at h
  cases draw with
  | false =>
    obtain ⟨T', t', K', H', h1, h2, h3, h4⟩ := rg_out hS ops.toList hT hH (show krun ck fl (cRg P ops ops.toList) T K k from h)
    refine ⟨T', t', K', H', ?_, h2, h3, h4⟩
    unfold runRegion
    simp only [Bool.false_eq_true, if_false]
    exact h1
  | true =>
    unfold runRegion
    simp only [if_true]
    by_cases hs : hasSemi ops (befores ops.toList #[]) = true
    · simp only [creg, if_pos hs] at h
      by_cases hc : (drawOk0 ops (befores ops.toList #[]) && (clashes ops (befores ops.toList #[])).all (fun p => lasting ops p.1 && lasting ops p.2) && tmpsOk ops) = true
      · rw [if_pos hc] at h
        simp only [Bool.and_eq_true] at hc
        obtain ⟨T', t', K', H', h1, h2, h3, h4⟩ := semi_out hk hS hc.2 ops.toList 0 [] [] (fun _ h => h) hT hH h
        obtain ⟨h5, h6⟩ := clash_out h2 hc.2 h4
        refine ⟨T', t', K', H', ?_, h2, h3, h6⟩
        simp only [hc.1.1, hc.1.2, Bool.and_self, if_true, hs, h1, h5]
      · rw [if_neg hc] at h
        exact h.elim
    · simp only [creg, if_neg hs] at h
      have main : ∀ (k' : TT → HT → Prop), krun ck fl (cDraw P ops) T K k' → drawOk0 ops (befores ops.toList #[]) = true ∧ (clashes ops (befores ops.toList #[])).all (fun p => lasting ops p.1 && lasting ops p.2) = true ∧ tmpsOk ops = true ∧
          ∃ T' t' K' H', runDrawn P call fl ops (befores ops.toList #[]) 0 ops.toList t H = some (t', H') ∧ TRel T' t' ∧ HRel K' H' ∧ k' T' K' := by
        intro k' h
        unfold cDraw at h
        split at h
        · rename_i hc
          simp only [Bool.and_eq_true, drawOk] at hc
          exact ⟨hc.1.1.1, hc.1.2, hc.2, dr_out hS ops.toList 0 hT hH h⟩
        · exact h.elim
      cases hcl : clashes ops (befores ops.toList #[]) with
      | nil =>
        rw [hcl] at h
        obtain ⟨e1, e2, e3, T', t', K', H', h1, h2, h3, h4⟩ := main k h
        rw [hcl] at e2
        refine ⟨T', t', K', H', ?_, h2, h3, h4⟩
        simp only [e1, e2, Bool.and_self, if_true, if_neg hs, h1, List.all_nil]
      | cons x l =>
        rw [hcl] at h
        obtain ⟨e1, e2, e3, T', t', K', H', h1, h2, h3, h4⟩ := main (fun T H => clashK ops (x :: l) T (k T H)) h
        rw [hcl] at e2
        obtain ⟨h5, h6⟩ := clash_out h2 e3 h4
        refine ⟨T', t', K', H', ?_, h2, h3, h6⟩
        simp only [e1, e2, Bool.and_self, if_true, if_neg hs, h1, h5]

/-! ### Texts -/
/-- Where a text ends, what follows. -/
def Ends (kn : TT → HT → Prop) (x : AExit → TT → HT → Prop) (e : AExit) (T : TT) (H : HT) : Prop := match e with
  | .normal => kn T H
  | e => x e T H
def XS (f : Temps → AHeap → Option (AExit × Temps × AHeap)) (g : XT) : Prop := ∀ T t K H kn x, TRel T t → HRel K H → g T K kn x →
  ∃ e T' t' K' H', f t H = some (e, t', H') ∧ TRel T' t' ∧ HRel K' H' ∧ Ends kn x e T' K'
theorem loop_out {f : Temps → AHeap → Option (AExit × Temps × AHeap)} {g : XT} (hf : XS f g) : ∀ (m : Nat) (T : TT) (t : Temps) (K : HT) (H : AHeap) (x : AExit → TT → HT → Prop), TRel T t → HRel K H → kloop g m T K x →
    ∃ e T' t' K' H', loopN f m t H = some (e, t', H') ∧ TRel T' t' ∧ HRel K' H' ∧ Ends (fun _ _ => False) x e T' K'
  | 0, _, _, _, _, _, _, _, h => h.elim
  | m + 1, T, t, K, H, x, hT, hH, h => by
    obtain ⟨e, T1, t1, K1, H1, h1, h2, h3, h4⟩ := hf T t K H (fun T K => kloop g m T K x) x hT hH h
    cases e with
    | normal =>
      obtain ⟨e2, T2, t2, K2, H2, h5, h6, h7, h8⟩ := loop_out hf m T1 t1 K1 H1 x h2 h3 h4
      exact ⟨e2, T2, t2, K2, H2, by simp only [loopN, h1, h5], h6, h7, h8⟩
    | exit i => exact ⟨.exit i, T1, t1, K1, H1, by simp only [loopN, h1], h2, h3, h4⟩
    | goto i => exact ⟨.goto i, T1, t1, K1, H1, by simp only [loopN, h1], h2, h3, h4⟩
    | ret => exact ⟨.ret, T1, t1, K1, H1, by simp only [loopN, h1], h2, h3, h4⟩
theorem exec_out {call : Caller} {ck : KC} (hk : CallerKept call) (hS : CallS call ck) (m fl : Nat) : ∀ (c : Code), XS (exec P call m fl c) (kexec P ck m fl c) := by
  intro c
  induction c with
  | skip => intro T t K H kn x hT hH h; exact ⟨.normal, T, t, K, H, rfl, hT, hH, h⟩
  | label l => intro T t K H kn x hT hH h; exact ⟨.normal, T, t, K, H, rfl, hT, hH, h⟩
  | exit id => intro T t K H kn x hT hH h; exact ⟨.exit id, T, t, K, H, rfl, hT, hH, h⟩
  | goto l => intro T t K H kn x hT hH h; exact ⟨.goto l, T, t, K, H, rfl, hT, hH, h⟩
  | ret => intro T t K H kn x hT hH h; exact ⟨.ret, T, t, K, H, rfl, hT, hH, h⟩
  | rangeFunc => intro T t K H kn x hT hH h; exact h.elim
  | scope => intro T t K H kn x hT hH h; exact h.elim
  | refuse => intro T t K H kn x hT hH h; exact h.elim
  | region id ops draw =>
    intro T t K H kn x hT hH h
    obtain ⟨T', t', K', H', h1, h2, h3, h4⟩ := kreg_out (P := P) hk hS hT hH h
    exact ⟨.normal, T', t', K', H', by simp only [exec, h1], h2, h3, h4⟩
  | seq a b iha ihb =>
    intro T t K H kn x hT hH h
    obtain ⟨e, T1, t1, K1, H1, h1, h2, h3, h4⟩ := iha T t K H (fun T K => kexec P ck m fl b T K kn x) x hT hH h
    cases e with
    | normal =>
      obtain ⟨e2, T2, t2, K2, H2, h5, h6, h7, h8⟩ := ihb T1 t1 K1 H1 kn x h2 h3 h4
      exact ⟨e2, T2, t2, K2, H2, by simp only [exec, h1, h5], h6, h7, h8⟩
    | exit i => exact ⟨.exit i, T1, t1, K1, H1, by simp only [exec, h1], h2, h3, h4⟩
    | goto i => exact ⟨.goto i, T1, t1, K1, H1, by simp only [exec, h1], h2, h3, h4⟩
    | ret => exact ⟨.ret, T1, t1, K1, H1, by simp only [exec, h1], h2, h3, h4⟩
  | cond c a b iha ihb =>
    intro T t K H kn x hT hH h
    have h1 := rd_out (k := fun v => onBool v fun d => ifB d (kexec P ck m fl a T K kn x) (kexec P ck m fl b T K kn x)) hT h
    obtain ⟨d, hd, h2⟩ := onBool_out h1
    rcases ifB_iff.1 h2 with ⟨rfl, h3⟩ | ⟨rfl, h3⟩
    · obtain ⟨e, T1, t1, K1, H1, h4, h5⟩ := iha T t K H kn x hT hH h3
      exact ⟨e, T1, t1, K1, H1, by simp only [exec, hd, h4], h5⟩
    · obtain ⟨e, T1, t1, K1, H1, h4, h5⟩ := ihb T t K H kn x hT hH h3
      exact ⟨e, T1, t1, K1, H1, by simp only [exec, hd, h4], h5⟩
  | block id a ih =>
    intro T t K H kn x hT hH h
    obtain ⟨e, T1, t1, K1, H1, h1, h2, h3, h4⟩ := ih T t K H kn _ hT hH h
    cases e with
    | normal => exact ⟨.normal, T1, t1, K1, H1, by simp only [exec, h1], h2, h3, h4⟩
    | exit i =>
      rcases ifB_iff.1 h4 with ⟨h5, h6⟩ | ⟨h5, h6⟩
      · have h5 : i = id := Nat.eq_of_beq_eq_true h5
        exact ⟨.normal, T1, t1, K1, H1, by simp only [exec, h1, h5, if_true], h2, h3, h6⟩
      · have h5 : i ≠ id := Nat.ne_of_beq_eq_false h5
        exact ⟨.exit i, T1, t1, K1, H1, by simp only [exec, h1, h5, if_false], h2, h3, h6⟩
    | goto i => exact ⟨.goto i, T1, t1, K1, H1, by simp only [exec, h1], h2, h3, h4⟩
    | ret => exact ⟨.ret, T1, t1, K1, H1, by simp only [exec, h1], h2, h3, h4⟩
  | loop a ih =>
    intro T t K H kn x hT hH h
    obtain ⟨e, T1, t1, K1, H1, h1, h2, h3, h4⟩ := loop_out ih m T t K H x hT hH h
    cases e with
    | normal => exact h4.elim
    | exit i => exact ⟨.exit i, T1, t1, K1, H1, by simp only [exec]; exact h1, h2, h3, h4⟩
    | goto i => exact ⟨.goto i, T1, t1, K1, H1, by simp only [exec]; exact h1, h2, h3, h4⟩
    | ret => exact ⟨.ret, T1, t1, K1, H1, by simp only [exec]; exact h1, h2, h3, h4⟩

/-! ### Calls -/
theorem T0_rel : TRel T0 fun _ => undef := fun i _ => by
  unfold TT.get T0
  rw [at_all, at_all]
theorem start_out : ∀ (l : List Value) (i : Nat) {T : TT} {t : Temps} {k : TT → Prop}, i + l.length ≤ 256 → TRel T t →
    List.rec (motive := fun _ => Nat → TT → Prop) (fun _ T => k T) (fun v _ ih i T => wr (cw i) v T fun T => forceN (Nat.succ i) fun i => ih i T) l i T →
    ∃ T', TRel T' (fun j => if i ≤ j ∧ j < i + l.length then l.getD (j - i) undef else t j) ∧ k T'
  | [], i, T, t, k, _, hT, h => ⟨T, fun j hj => (hT j hj).trans (if_neg (by simp only [List.length_nil]; omega)).symm, h⟩
  | v :: l, i, T, t, k, hl, hT, h => by
    simp only [List.length_cons] at hl
    obtain ⟨h1, h2⟩ := wr_out (k := fun T => forceN (Nat.succ i) fun i => List.rec (motive := fun _ => Nat → TT → Prop) (fun _ T => k T) (fun v _ ih i T => wr (cw i) v T fun T => forceN (Nat.succ i) fun i => ih i T) l i T) (by omega) hT h
    have h3 := (forceN_iff (n := Nat.succ i)).1 h2
    obtain ⟨T', h4, h5⟩ := start_out l (i + 1) (by omega) h1 h3
    refine ⟨T', fun j hj => ?_, h5⟩
    rw [h4 j hj]
    simp only [List.length_cons]
    by_cases h6 : i + 1 ≤ j ∧ j < i + 1 + l.length
    · rw [if_pos h6, if_pos (by omega), show j - i = (j - (i + 1)) + 1 from by omega, List.getD_cons_succ]
    · rw [if_neg h6]
      by_cases h7 : j = i
      · subst h7
        rw [if_pos (by omega), tset_same, Nat.sub_self, List.getD_cons_zero]
      · rw [if_neg (by omega), tset_ne _ _ _ _ h7]
theorem res_out {T : TT} {t : Temps} {K : HT} {H : AHeap} (hT : TRel T t) (hH : HRel K H) : ∀ (rs : List ResultVar) {k : List Value → Prop}, resK P T K rs k → ∃ vs, resultAll P t H rs = some vs ∧ k vs
  | [], _, h => ⟨[], rfl, h⟩
  | r :: rs, k, h => by
    cases r with
    | tmp d =>
      have h1 := rd_out (x := .tmp d) (k := fun v => resK P T K rs fun l => k (v :: l)) hT h
      obtain ⟨vs, h2, h3⟩ := res_out hT hH rs (k := fun l => k (t d :: l)) h1
      exact ⟨_, by simp only [resultAll, resultOne, h2], h3⟩
    | cell a ty =>
      have hks := cop_ok (P := P) (.load ty (.tmp a))
      have hno : CallS (fun _ _ _ _ => none) noK := fun _ _ _ _ _ _ _ h => h.elim
      have h0 : appF (cop P (.load ty (.tmp a))) noK 0 0 T K (fun v _ => resK P T K rs fun l => k (v :: l)) := h
      have : ∃ v K' H', valOp P (fun _ _ _ _ => none) 0 0 (.load ty (.tmp a)) (eval t) H = some (v, H') ∧ HRel K' H' ∧ resK P T K rs (fun l => k (v :: l)) := by
        cases hc : cop P (.load ty (.tmp a)) with
        | mk f =>
          rw [hc] at hks h0
          exact hks _ _ _ _ _ _ _ _ _ hno hT hH h0
      obtain ⟨v, K', H', h1, _, h2⟩ := this
      obtain ⟨vs, h3, h4⟩ := res_out hT hH rs h2
      refine ⟨v :: vs, ?_, h4⟩
      unfold valOp at h1
      simp only [prim, eval] at h1
      simp only [resultAll, resultOne, h3]
      split at h1
      · rename_i u H1 hp
        cases h1
        split at hp
        · rename_i p hpp
          cases hl : loadA P ty H p with
          | none => rw [hl] at hp; cases hp
          | some u =>
            rw [hl] at hp
            cases hp
            rw [hpp]
            simp only [hl]
        · cases hp
      · rename_i H1 hp
        split at hp
        · rename_i p hpp
          cases hl : loadA P ty H p with
          | none => rw [hl] at hp; cases hp
          | some u => rw [hl] at hp; cases hp
        · cases hp
      · rename_i f args H1 hp
        split at hp
        · rename_i p hpp
          cases hl : loadA P ty H p with
          | none => rw [hl] at hp; cases hp
          | some u => rw [hl] at hp; cases hp
        · cases hp
      · cases h1
theorem wrap_out {l : List Value} {k : Value → Prop} (h : wrapV l k) : k (wrap1 l) := by
  cases l with
  | nil => exact h
  | cons v r => cases r with
    | nil => exact h
    | cons w r => exact h
theorem ret_out {T : TT} {t : Temps} {K : HT} {H : AHeap} (hT : TRel T t) (hH : HRel K H) {rs : List ResultVar} {k : Value → HT → Prop} (h : retK P rs k T K) : ∃ vs, resultAll P t H rs = some vs ∧ k (wrap1 vs) K := by
  obtain ⟨vs, h1, h2⟩ := res_out hT hH rs h
  exact ⟨vs, h1, wrap_out (k := fun v => k v K) h2⟩
theorem fn_ok {xb : FuncId → Bool} {xf : Caller} {xk ck : KC} {n : Nat} (hX : CallS xf xk) (hS : CallS (callG xb xf P n) ck) (hk : CallerKept (callG xb xf P n)) : CallS (callG xb xf P (n + 1)) (kfn xb P xk ck n) := by
  intro fl f args K H k hH h
  unfold kfn at h
  simp only [callG]
  cases hc : cfun xb P f with
  | no => rw [hc] at h; exact h.elim
  | ext =>
    rw [hc] at h
    unfold cfun at hc
    split at hc
    · rename_i fn hfn
      split at hc
      · rename_i c hb
        split at hc
        · split at hc <;> cases hc
        · rename_i hok
          rw [hfn]
          simp only [hb]
          rw [if_neg (by rw [Bool.and_eq_true]; exact fun h => hok h.1)]
          exact hX fl f args K H k hH h
      · cases hc
    · cases hc
  | ok c nt rs =>
    rw [hc] at h
    unfold cfun at hc
    split at hc
    · rename_i fn hfn
      split at hc
      · rename_i c' hb
        split at hc
        · rename_i hok
          split at hc
          · rename_i hnt
            cases hc
            obtain ⟨h1, h2⟩ := chk_iff.1 (show chk (Nat.ble args.length fn.ntmps) _ from h)
            have h1 : args.length ≤ fn.ntmps := by simpa [Nat.ble_eq] using h1
            obtain ⟨T1, h3, h4⟩ := start_out args 0 (by omega) T0_rel h2
            have hst : TRel T1 (start ⟨args⟩) := by
              intro i hi
              rw [h3 i hi]
              unfold start
              simp only [Nat.zero_le, true_and, Nat.zero_add, Nat.sub_zero]
              split
              · rename_i hlt
                rw [Array.getD_eq_getD_getElem?, List.getElem?_toArray, List.getD_eq_getElem?_getD]
              · rename_i hlt
                rw [Array.getD_eq_getD_getElem?, List.getElem?_toArray, List.getElem?_eq_none (by omega)]
                rfl
            obtain ⟨e, T2, t2, K2, H2, h5, h6, h7, h8⟩ := exec_out (P := P) hk hS n fl c T1 _ K H _ _ hst hH h4
            have hcond : (okG xb f fn c && decide ((⟨args⟩ : Array Value).size ≤ fn.ntmps)) = true := by
              rw [Bool.and_eq_true]
              exact ⟨hok, by simpa using h1⟩
            rw [hfn]
            simp only [hb]
            rw [if_pos hcond, h5]
            cases e with
            | normal =>
              obtain ⟨vs, h9, h10⟩ := ret_out h6 h7 h8
              exact ⟨_, K2, H2, by simp only [h9, Option.map_some], h7, h10⟩
            | ret =>
              obtain ⟨vs, h9, h10⟩ := ret_out h6 h7 h8
              exact ⟨_, K2, H2, by simp only [h9, Option.map_some], h7, h10⟩
            | exit i => exact h8.elim
            | goto i => exact h8.elim
          · cases hc
        · cases hc
      · cases hc
    · cases hc
theorem call0_ok {xb : FuncId → Bool} {xf : Caller} {xk : KC} : CallS (callG xb xf P 0) (kcall xb P xk 0) := fun _ _ _ _ _ _ _ h => h.elim
theorem calls_ok {xb : FuncId → Bool} {xf : Caller} {xk : KC} (hX : CallS xf xk) (hk : ∀ N, CallerKept (callG xb xf P N)) : ∀ n, CallS (callG xb xf P n) (kcall xb P xk n)
  | 0 => call0_ok
  | n + 1 => fn_ok hX (calls_ok hX hk n) (hk n)
end
end Go.Mach.J
