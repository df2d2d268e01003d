/- How to reckon with the machine: what must hold so that a run of it ends as wished. Laws; no condition. -/
import Derived.Test.YtajjfflbcpkokaaGreatRun
namespace Go.Mach

/-! ### More fuel changes nothing -/

theorem loopN_mono {f g : Temps → AHeap → Option (AExit × Temps × AHeap)} (hfg : ∀ t H r, f t H = some r → g t H = some r) : ∀ {m m' : Nat}, m ≤ m' → ∀ t H r, loopN f m t H = some r → loopN g m' t H = some r
  | 0, _, _, _, _, _, h => by cases h
  | m + 1, 0, hm, _, _, _, _ => by omega
  | m + 1, m' + 1, hm, t, H, r, h => by
    simp only [loopN] at h ⊢
    split at h
    · rename_i t1 H1 hf
      rw [hfg _ _ _ hf]
      exact loopN_mono hfg (by omega) _ _ _ h
    · rename_i hne
      cases hf : f t H with
      | none => rw [hf] at h; cases h
      | some r' =>
        rw [hfg _ _ _ hf]
        obtain ⟨e, t1, H1⟩ := r'
        rw [hf] at h
        cases e with
        | normal => exact absurd hf (hne _ _)
        | _ => exact h

section
variable {P : Program} {call call' : Caller} (hc : ∀ fl f args H r, call fl f args H = some r → call' fl f args H = some r)
include hc

theorem stepOp_mono {fl flc : Nat} {ops : Array Oper} {o : Oper} {t : Temps} {H : AHeap} {r : Temps × AHeap} (h : stepOp P call fl flc ops o t H = some r) : stepOp P call' fl flc ops o t H = some r := by
  unfold stepOp at h ⊢
  split at h
  · rename_i hw
    rw [if_pos hw]
    split at h
    · exact h
    · exact h
    · rename_i f args H1 hp
      split at h
      · rename_i v H2 hcall
        simp only [hc _ _ _ _ _ hcall]
        exact h
      · cases h
    · cases h
  · rename_i hw
    rw [if_neg hw]; exact h

theorem runOps_mono {fl : Nat} {ops : Array Oper} : ∀ (l : List Oper) (t : Temps) (H : AHeap) (r : Temps × AHeap), runOps P call fl ops l t H = some r → runOps P call' fl ops l t H = some r
  | [], _, _, _, h => h
  | o :: l, t, H, r, h => by
    simp only [runOps] at h ⊢
    split at h
    · rename_i t1 H1 hs
      rw [stepOp_mono hc hs]
      exact runOps_mono l _ _ _ h
    · cases h

theorem runDrawn_mono {fl : Nat} {ops : Array Oper} {b : Array Nat} : ∀ (l : List Oper) (i : Nat) (t : Temps) (H : AHeap) (r : Temps × AHeap), runDrawn P call fl ops b i l t H = some r → runDrawn P call' fl ops b i l t H = some r
  | [], _, _, _, _, h => h
  | o :: l, i, t, H, r, h => by
    simp only [runDrawn] at h ⊢
    split at h
    · rename_i t1 H1 hs
      rw [stepOp_mono hc hs]
      exact runDrawn_mono l _ _ _ _ h
    · cases h

theorem lock_mono (X : List Nat) (fl : Nat) (f : FuncId) (args : Array Value) (H : AHeap) (r : Value × AHeap) (h : lockCall call X fl f args H = some r) : lockCall call' X fl f args H = some r := by
  unfold lockCall at h ⊢
  split at h
  · rename_i v K hk
    rw [hc _ _ _ _ _ hk]
    exact h
  · cases h
theorem runSemi_mono {fl : Nat} {ops : Array Oper} {b : Array Nat} : ∀ (l : List Oper) (i : Nat) (X : List Nat) (Z : List (Nat × List Nat)) (t : Temps) (H : AHeap) (r : Temps × AHeap), runSemi P call fl ops b i X Z l t H = some r → runSemi P call' fl ops b i X Z l t H = some r
  | [], _, _, _, _, _, _, h => h
  | o :: l, i, X, Z, t, H, r, h => by
    simp only [runSemi] at h ⊢
    split at h
    · rename_i hk
      rw [if_pos hk]
      split at h
      · rename_i t1 H1 hs
        have hs' : stepOp P (if semiAt ops b i o then lockCall call' X else call') fl (if kindOf o.op == 4 && (apartCall ops b i || semiC ops b i o) then fl else H.length) ops o t H = some (t1, H1) := by
          by_cases hsa : semiAt ops b i o = true
          · rw [if_pos hsa] at hs ⊢
            exact stepOp_mono (lock_mono hc X) hs
          · rw [if_neg hsa] at hs ⊢
            exact stepOp_mono hc hs
        rw [hs']
        exact runSemi_mono l _ _ _ _ _ _ h
      · cases h
    · cases h

theorem runRegion_mono {fl : Nat} {ops : Array Oper} {draw : Bool} {t : Temps} {H : AHeap} {r : Temps × AHeap} (h : runRegion P call fl ops draw t H = some r) : runRegion P call' fl ops draw t H = some r := by
  unfold runRegion at h ⊢
  split at h
  · rename_i hd
    rw [if_pos hd]
    simp only at h ⊢
    split at h
    · rename_i hs
      rw [if_pos hs]
      split at h
      · rename_i t1 H1 hr
        split at hr
        · rename_i hse
          rw [if_pos hse, runSemi_mono hc _ _ _ _ _ _ _ hr]
          exact h
        · rename_i hse
          rw [if_neg hse, runDrawn_mono hc _ _ _ _ _ hr]
          exact h
      · cases h
    · cases h
  · rename_i hd
    rw [if_neg hd]
    exact runOps_mono hc _ _ _ _ h

theorem exec_mono {m m' : Nat} (hm : m ≤ m') {fl : Nat} : ∀ (c : Code) (t : Temps) (H : AHeap) (r : AExit × Temps × AHeap), exec P call m fl c t H = some r → exec P call' m' fl c t H = some r := by
  intro c
  induction c with
  | region id ops draw =>
    intro t H r h
    simp only [exec] at h ⊢
    split at h
    · rename_i hr
      rw [runRegion_mono hc hr]; exact h
    · cases h
  | seq a b iha ihb =>
    intro t H r h
    simp only [exec] at h ⊢
    cases ha : exec P call m fl a t H with
    | none => rw [ha] at h; cases h
    | some r1 =>
      rw [ha] at h
      rw [iha _ _ _ ha]
      obtain ⟨e, t1, H1⟩ := r1
      cases e with
      | normal => exact ihb _ _ _ h
      | _ => exact h
  | cond c x y ihx ihy =>
    intro t H r h
    simp only [exec] at h ⊢
    split at h
    · exact ihx _ _ _ h
    · exact ihy _ _ _ h
    · cases h
  | block id b ih =>
    intro t H r h
    simp only [exec] at h ⊢
    cases hb : exec P call m fl b t H with
    | none => rw [hb] at h; cases h
    | some r1 =>
      rw [hb] at h
      rw [ih _ _ _ hb]
      exact h
  | loop b ih =>
    intro t H r h
    simp only [exec] at h ⊢
    exact loopN_mono ih hm _ _ _ h
  | _ => intro t H r h; exact h
end

theorem callN_mono (P : Program) : ∀ {N M : Nat}, N ≤ M → ∀ fl f args H r, callN P N fl f args H = some r → callN P M fl f args H = some r
  | 0, _, _, _, _, _, _, _, h => by cases h
  | N + 1, 0, hm, _, _, _, _, _, _ => by omega
  | N + 1, M + 1, hm, fl, f, args, H, r, h => by
    simp only [callN] at h ⊢
    cases hf : P.funcs[f]? with
    | none => simp [hf] at h
    | some fn =>
      simp only [hf] at h ⊢
      cases hb : bod fn with
      | none => simp [hb] at h
      | some c =>
        simp only [hb] at h ⊢
        split at h
        · rename_i hok
          rw [if_pos hok]
          cases hx : exec P (callN P N) N fl c (start args) H with
          | none => rw [hx] at h; cases h
          | some r1 =>
            rw [hx] at h
            rw [exec_mono (callN_mono P (show N ≤ M by omega)) (by omega) _ _ _ _ hx]
            exact h
        · rename_i hok
          rw [if_neg hok]
          exact h

/-! ### What must hold -/

def WCall (P : Program) (fl : Nat) (f : FuncId) (args : Array Value) (H : AHeap) (R : Value → AHeap → Prop) : Prop :=
  ∃ N v H', callN P N fl f args H = some (v, H') ∧ R v H'

theorem WCall.mono {P : Program} {fl : Nat} {f : FuncId} {args : Array Value} {H : AHeap} {R R' : Value → AHeap → Prop} (h : WCall P fl f args H R) (hr : ∀ v H', R v H' → R' v H') : WCall P fl f args H R' :=
  let ⟨N, v, H', hc, hR⟩ := h; ⟨N, v, H', hc, hr _ _ hR⟩

def WOp (P : Program) (fl flc : Nat) (ops : Array Oper) (o : Oper) (t : Temps) (H : AHeap) (K : Temps → AHeap → Prop) : Prop :=
  if wantedA ops t o then
    match prim P fl o.op (eval t) H with
    | some (.value v, H') => K (tput t o.dst v) H'
    | some (.skip, H') => K (tput t o.dst undef) H'
    | some (.enter f args, H') => WCall P flc f args H' fun v H2 => K (tput t o.dst v) H2
    | none => False
  else K (tput t o.dst undef) H

def WOps (P : Program) (fl : Nat) (ops : Array Oper) : List Oper → Temps → AHeap → (Temps → AHeap → Prop) → Prop
  | [], t, H, K => K t H
  | o :: l, t, H, K => WOp P fl fl ops o t H fun t' H' => WOps P fl ops l t' H' K

/-- The same for a region that draws its order; 'g': which calls may write what they wish. -/
def WDrawn (P : Program) (fl : Nat) (ops : Array Oper) : List Bool → List Oper → Temps → AHeap → (Temps → AHeap → Prop) → Prop
  | _, [], t, H, K => K t H
  | g, o :: l, t, H, K => WOp P fl (if g.headD false then fl else H.length) ops o t H fun t' H' => WDrawn P fl ops g.tail l t' H' K

def W (P : Program) (fl : Nat) (c : Code) (t : Temps) (H : AHeap) (Q : AExit → Temps → AHeap → Prop) : Prop :=
  ∃ N e t' H', exec P (callN P N) N fl c t H = some (e, t', H') ∧ Q e t' H'

section
variable {P : Program} {fl : Nat} {t : Temps} {H : AHeap} {Q : AExit → Temps → AHeap → Prop}

theorem WOp.run {flc : Nat} {ops : Array Oper} {o : Oper} {K : Temps → AHeap → Prop} (h : WOp P fl flc ops o t H K) : ∃ N t' H', stepOp P (callN P N) fl flc ops o t H = some (t', H') ∧ K t' H' := by
  unfold WOp at h
  unfold stepOp
  split at h
  · rename_i hw
    simp only [hw, if_true]
    split at h
    · rename_i hp
      exact ⟨0, _, _, by simp only [hp], h⟩
    · rename_i hp
      exact ⟨0, _, _, by simp only [hp], h⟩
    · rename_i hp
      obtain ⟨N, v, H2, hc, hK⟩ := h
      exact ⟨N, _, H2, by simp only [hp, hc], hK⟩
    · exact h.elim
  · rename_i hw
    simp only [hw, Bool.false_eq_true, if_false]
    exact ⟨0, _, _, rfl, h⟩

theorem WOps.run {ops : Array Oper} : ∀ (l : List Oper) {t : Temps} {H : AHeap} {K : Temps → AHeap → Prop}, WOps P fl ops l t H K → ∃ N t' H', runOps P (callN P N) fl ops l t H = some (t', H') ∧ K t' H'
  | [], t, H, K, h => ⟨0, t, H, rfl, h⟩
  | o :: l, t, H, K, h => by
    obtain ⟨N, t1, H1, h1, h2⟩ := WOp.run h
    obtain ⟨M, t2, H2, h3, h4⟩ := WOps.run l h2
    refine ⟨max N M, t2, H2, ?_, h4⟩
    simp only [runOps, stepOp_mono (callN_mono P (Nat.le_max_left N M)) h1]
    exact runOps_mono (callN_mono P (Nat.le_max_right N M)) _ _ _ _ h3

/-- Which calls may write what they wish. -/
def flags (ops : Array Oper) (b : Array Nat) (i : Nat) : List Oper → List Bool
  | [] => []
  | o :: l => (kindOf o.op == 4 && apartCall ops b i) :: flags ops b (i + 1) l

theorem WDrawn.run {ops : Array Oper} {b : Array Nat} : ∀ (l : List Oper) (i : Nat) {t : Temps} {H : AHeap} {K : Temps → AHeap → Prop}, WDrawn P fl ops (flags ops b i l) l t H K →
    ∃ N t' H', runDrawn P (callN P N) fl ops b i l t H = some (t', H') ∧ K t' H'
  | [], i, t, H, K, h => ⟨0, t, H, rfl, h⟩
  | o :: l, i, t, H, K, h => by
    have h : WOp P fl (if kindOf o.op == 4 && apartCall ops b i then fl else H.length) ops o t H (fun t' H' => WDrawn P fl ops (flags ops b (i + 1) l) l t' H' K) := h
    obtain ⟨N, t1, H1, h1, h2⟩ := WOp.run h
    obtain ⟨M, t2, H2, h3, h4⟩ := WDrawn.run l (i + 1) h2
    refine ⟨max N M, t2, H2, ?_, h4⟩
    simp only [runDrawn]
    rw [stepOp_mono (callN_mono P (Nat.le_max_left N M)) h1]
    exact runDrawn_mono (callN_mono P (Nat.le_max_right N M)) _ _ _ _ _ h3

theorem W_region {id : Nat} {ops : Array Oper} (h : WOps P fl ops ops.toList t H (Q .normal)) : W P fl (.region id ops false) t H Q := by
  obtain ⟨N, t', H', h1, h2⟩ := WOps.run _ h
  exact ⟨N, .normal, t', H', by simp [exec, runRegion, h1], h2⟩

/-- What the text of a region that draws its order must be. -/
def drawnOk (ops : Array Oper) (g : List Bool) (cl : List (Nat × Nat)) : Bool :=
  let b := befores ops.toList #[]
  drawOk ops b && (clashes ops b).all (fun p => lasting ops p.1 && lasting ops p.2) && flags ops b 0 ops.toList == g && clashes ops b == cl

theorem W_drawn {id : Nat} {ops : Array Oper} (g : List Bool) (cl : List (Nat × Nat)) (hok : drawnOk ops g cl = true)
    (h : WDrawn P fl ops g ops.toList t H fun t' H' => cl.all (clashOk ops t') = true ∧ Q .normal t' H') : W P fl (.region id ops true) t H Q := by
  simp only [drawnOk, drawOk, Bool.and_eq_true, beq_iff_eq, Bool.not_eq_true'] at hok
  obtain ⟨⟨⟨⟨h1, hse⟩, h2⟩, h3⟩, h4⟩ := hok
  rw [← h3] at h
  obtain ⟨N, t', H', h5, h6, h7⟩ := WDrawn.run _ _ h
  rw [← h4] at h6
  refine ⟨N, .normal, t', H', ?_, h7⟩
  simp only [exec, runRegion, if_true, h1, h2, hse, Bool.false_eq_true, if_false, Bool.and_self, h5, h6]

theorem W_seq {x y : Code} (h : W P fl x t H fun e t1 H1 => match e with | .normal => W P fl y t1 H1 Q | e => Q e t1 H1) : W P fl (.seq x y) t H Q := by
  obtain ⟨N, e, t1, H1, h1, h2⟩ := h
  cases e with
  | normal =>
    obtain ⟨M, e2, t2, H2, h3, h4⟩ := h2
    refine ⟨max N M, e2, t2, H2, ?_, h4⟩
    simp only [exec, exec_mono (callN_mono P (Nat.le_max_left N M)) (Nat.le_max_left N M) _ _ _ _ h1]
    exact exec_mono (callN_mono P (Nat.le_max_right N M)) (Nat.le_max_right N M) _ _ _ _ h3
  | _ => exact ⟨N, _, t1, H1, by simp only [exec, h1], h2⟩

theorem W_cond {c : Operand} {x y : Code} {b : Bool} (hc : eval t c = .bool b) (h1 : b = true → W P fl x t H Q) (h2 : b = false → W P fl y t H Q) : W P fl (.cond c x y) t H Q := by
  cases b with
  | true =>
    obtain ⟨N, e, t1, H1, h, hq⟩ := h1 rfl
    exact ⟨N, e, t1, H1, by simp only [exec, hc, h], hq⟩
  | false =>
    obtain ⟨N, e, t1, H1, h, hq⟩ := h2 rfl
    exact ⟨N, e, t1, H1, by simp only [exec, hc, h], hq⟩

theorem W_block {id : Nat} {x : Code} (h : W P fl x t H fun e t1 H1 => match e with | .exit id' => Q (if id' = id then .normal else .exit id') t1 H1 | e => Q e t1 H1) : W P fl (.block id x) t H Q := by
  obtain ⟨N, e, t1, H1, h1, h2⟩ := h
  cases e with
  | exit id' => exact ⟨N, _, t1, H1, by simp only [exec, h1], h2⟩
  | _ => exact ⟨N, _, t1, H1, by simp only [exec, h1], h2⟩

theorem W_skip (h : Q .normal t H) : W P fl .skip t H Q := ⟨0, _, t, H, rfl, h⟩
theorem W_label {l : Nat} (h : Q .normal t H) : W P fl (.label l) t H Q := ⟨0, _, t, H, rfl, h⟩
theorem W_exit {id : Nat} (h : Q (.exit id) t H) : W P fl (.exit id) t H Q := ⟨0, _, t, H, rfl, h⟩
theorem W_ret (h : Q .ret t H) : W P fl .ret t H Q := ⟨0, _, t, H, rfl, h⟩

theorem W.mono {c : Code} {Q' : AExit → Temps → AHeap → Prop} (h : W P fl c t H Q) (hq : ∀ e t H, Q e t H → Q' e t H) : W P fl c t H Q' :=
  let ⟨N, e, t', H', hx, hQ⟩ := h; ⟨N, e, t', H', hx, hq _ _ _ hQ⟩

/-- A loop: what holds at the head of each round, and a number that each round lowers. -/
theorem W_loop {x : Code} (I : Nat → Temps → AHeap → Prop) (n : Nat) (h0 : I n t H)
    (round : ∀ k t H, I k t H → W P fl x t H fun e t1 H1 => match e with | .normal => ∃ k', k' < k ∧ I k' t1 H1 | e => Q e t1 H1) : W P fl (.loop x) t H Q := by
  induction n using Nat.strongRecOn generalizing t H with
  | _ n ih =>
    obtain ⟨N, e, t1, H1, h1, h2⟩ := round n t H h0
    cases e with
    | normal =>
      obtain ⟨k', hk, hI⟩ := h2
      obtain ⟨M, e2, t2, H2, h3, h4⟩ := ih k' hk hI
      simp only [exec] at h3
      refine ⟨max N M + 1, e2, t2, H2, ?_, h4⟩
      simp only [exec, loopN]
      rw [exec_mono (callN_mono P (show N ≤ max N M + 1 by omega)) (show N ≤ max N M + 1 by omega) _ _ _ _ h1]
      exact loopN_mono (exec_mono (callN_mono P (show M ≤ max N M + 1 by omega)) (show M ≤ max N M + 1 by omega) x) (show M ≤ max N M by omega) _ _ _ h3
    | _ =>
      refine ⟨N + 1, _, t1, H1, ?_, h2⟩
      simp only [exec, loopN]
      rw [exec_mono (callN_mono P (Nat.le_succ N)) (Nat.le_succ N) _ _ _ _ h1]

theorem W_call {f : FuncId} {args : Array Value} {fn : Func} {c : Code} {R : Value → AHeap → Prop} (hf : P.funcs[f]? = some fn) (hb : bod fn = some c) (hok : okF f fn c = true) (hsz : args.size ≤ fn.ntmps)
    (h : W P fl c (start args) H fun e t' H' => match e with
      | .normal | .ret => ∃ vs, resultAll P t' H' fn.results.toList = some vs ∧ R (wrap1 vs) H'
      | _ => False) : WCall P fl f args H R := by
  obtain ⟨N, e, t', H', h1, h2⟩ := h
  cases e with
  | normal =>
    obtain ⟨vs, h3, h4⟩ := h2
    exact ⟨N + 1, wrap1 vs, H', by simp only [callN, hf, hb, hok, Bool.true_and, decide_eq_true_eq, if_pos hsz, h1, h3, Option.map_some], h4⟩
  | ret =>
    obtain ⟨vs, h3, h4⟩ := h2
    exact ⟨N + 1, wrap1 vs, H', by simp only [callN, hf, hb, hok, Bool.true_and, decide_eq_true_eq, if_pos hsz, h1, h3, Option.map_some], h4⟩
  | _ => exact h2.elim
/-! ### Operations without calls, one behind the other -/

def stepPrim (P : Program) (fl : Nat) (ops : Array Oper) (o : Oper) (t : Temps) (H : AHeap) : Option (Temps × AHeap) :=
  if wantedA ops t o then
    match prim P fl o.op (eval t) H with
    | some (.value v, H') => some (tput t o.dst v, H')
    | some (.skip, H') => some (tput t o.dst undef, H')
    | _ => none
  else some (tput t o.dst undef, H)

def runPrims (P : Program) (fl : Nat) (ops : Array Oper) : List Oper → Temps → AHeap → Option (Temps × AHeap)
  | [], t, H => some (t, H)
  | o :: l, t, H => match stepPrim P fl ops o t H with
    | some (t', H') => runPrims P fl ops l t' H'
    | none => none

theorem stepPrim_W {flc : Nat} {ops : Array Oper} {o : Oper} {t1 : Temps} {H1 : AHeap} {K : Temps → AHeap → Prop} (h : stepPrim P fl ops o t H = some (t1, H1)) (hK : K t1 H1) : WOp P fl flc ops o t H K := by
  unfold stepPrim at h
  unfold WOp
  split at h
  · rename_i hw
    rw [if_pos hw]
    split at h
    · rename_i hp; cases h; simp only [hp]; exact hK
    · rename_i hp; cases h; simp only [hp]; exact hK
    · cases h
  · rename_i hw
    rw [if_neg hw]
    cases h; exact hK

theorem W_prims {ops : Array Oper} (n : Nat) : ∀ {l : List Oper} {t t1 : Temps} {H H1 : AHeap} {K : Temps → AHeap → Prop}, runPrims P fl ops (l.take n) t H = some (t1, H1) → WOps P fl ops (l.drop n) t1 H1 K → WOps P fl ops l t H K := by
  induction n with
  | zero => intro l t t1 H H1 K h hK; simp [runPrims] at h; obtain ⟨rfl, rfl⟩ := h; exact hK
  | succ n ih =>
    intro l t t1 H H1 K h hK
    cases l with
    | nil => simp [runPrims] at h; obtain ⟨rfl, rfl⟩ := h; exact hK
    | cons o l =>
      simp only [List.take_succ_cons, runPrims] at h
      split at h
      · rename_i t2 H2 hs
        exact stepPrim_W hs (ih h hK)
      · cases h

theorem D_prims {ops : Array Oper} (n : Nat) : ∀ {g : List Bool} {l : List Oper} {t t1 : Temps} {H H1 : AHeap} {K : Temps → AHeap → Prop}, runPrims P fl ops (l.take n) t H = some (t1, H1) → WDrawn P fl ops (g.drop n) (l.drop n) t1 H1 K →
    WDrawn P fl ops g l t H K := by
  induction n with
  | zero => intro g l t t1 H H1 K h hK; simp [runPrims] at h; obtain ⟨rfl, rfl⟩ := h; exact hK
  | succ n ih =>
    intro g l t t1 H H1 K h hK
    cases l with
    | nil => simp [runPrims] at h; obtain ⟨rfl, rfl⟩ := h; simpa [WDrawn] using hK
    | cons o l =>
      simp only [List.take_succ_cons, runPrims] at h
      split at h
      · rename_i t2 H2 hs
        exact stepPrim_W hs (ih h (by cases g <;> simpa using hK))
      · cases h

/-- A region without a call. -/
theorem W_plain {id : Nat} {ops : Array Oper} {t1 : Temps} {H1 : AHeap} (h : runPrims P fl ops ops.toList t H = some (t1, H1)) (hQ : Q .normal t1 H1) : W P fl (.region id ops false) t H Q := by
  refine W_region (W_prims ops.toList.length (t1 := t1) (H1 := H1) ?_ ?_)
  · rw [List.take_length]; exact h
  · rw [List.drop_length]; exact hQ

theorem D_plain {id : Nat} {ops : Array Oper} {t1 : Temps} {H1 : AHeap} (cl : List (Nat × Nat)) (hok : drawnOk ops (ops.toList.map fun _ => false) cl = true) (h : runPrims P fl ops ops.toList t H = some (t1, H1))
    (hc : cl.all (clashOk ops t1) = true) (hQ : Q .normal t1 H1) : W P fl (.region id ops true) t H Q := by
  refine W_drawn _ cl hok (D_prims ops.toList.length (t1 := t1) (H1 := H1) ?_ ?_)
  · rw [List.take_length]; exact h
  · rw [List.drop_length]; exact ⟨hc, hQ⟩

/-- A piece of the slots is enough. -/
theorem fresh {T : Temps} {X : Temps → Prop} (h : ∀ t : Temps, (∀ i, t i = T i) → X t) : X T := h T fun _ => rfl

end
end Go.Mach
