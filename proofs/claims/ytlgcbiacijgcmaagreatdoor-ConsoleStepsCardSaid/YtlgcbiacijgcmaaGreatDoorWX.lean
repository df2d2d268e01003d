/- How to reckon with the machine: what must hold so that a run of it ends as wished. Laws; no condition. -/
import Derived.Test.YtlgcbiacijgcmaaGreatDoorRun
namespace Go.Mach

/-! ### More fuel changes nothing -/

theorem loopN_mono {f g : Temps → AHeap → Option (AExit × Temps × AHeap)} (hfg : ∀ t H r, f t H = some r → g t H = some r) : ∀ {m m' : Nat}, m ≤ m' → ∀ t H r, loopN f m t H = some r → loopN g m' t H = some r
  | 0, _, _, _, _, _, h => by cases h
  | m + 1, 0, hm, _, _, _, _ => by omega
  | m + 1, m' + 1, hm, t, H, r, h => by
    simp only [loopN] at h ⊢
    split at h
    · rename_i t1 H1 hf
      rw [hfg _ _ _ hf]
      exact loopN_mono hfg (by omega) _ _ _ h
    · rename_i hne
      cases hf : f t H with
      | none => rw [hf] at h; cases h
      | some r' =>
        rw [hfg _ _ _ hf]
        obtain ⟨e, t1, H1⟩ := r'
        rw [hf] at h
        cases e with
        | normal => exact absurd hf (hne _ _)
        | _ => exact h

section
variable {P : Program} {call call' : Caller} (hc : ∀ fl f args H r, call fl f args H = some r → call' fl f args H = some r)
include hc

theorem stepOp_mono {fl flc : Nat} {ops : Array Oper} {o : Oper} {t : Temps} {H : AHeap} {r : Temps × AHeap} (h : stepOp P call fl flc ops o t H = some r) : stepOp P call' fl flc ops o t H = some r := by
  unfold stepOp at h ⊢
  split at h
  · rename_i hw
    rw [if_pos hw]
    split at h
    · exact h
    · exact h
    · rename_i f args H1 hp
      split at h
      · rename_i v H2 hcall
        simp only [hc _ _ _ _ _ hcall]
        exact h
      · cases h
    · cases h
  · rename_i hw
    rw [if_neg hw]; exact h

theorem runOps_mono {fl : Nat} {ops : Array Oper} : ∀ (l : List Oper) (t : Temps) (H : AHeap) (r : Temps × AHeap), runOps P call fl ops l t H = some r → runOps P call' fl ops l t H = some r
  | [], _, _, _, h => h
  | o :: l, t, H, r, h => by
    simp only [runOps] at h ⊢
    split at h
    · rename_i t1 H1 hs
      rw [stepOp_mono hc hs]
      exact runOps_mono l _ _ _ h
    · cases h

theorem runDrawn_mono {fl : Nat} {ops : Array Oper} {b : Array Nat} : ∀ (l : List Oper) (i : Nat) (t : Temps) (H : AHeap) (r : Temps × AHeap), runDrawn P call fl ops b i l t H = some r → runDrawn P call' fl ops b i l t H = some r
  | [], _, _, _, _, h => h
  | o :: l, i, t, H, r, h => by
    simp only [runDrawn] at h ⊢
    split at h
    · rename_i t1 H1 hs
      rw [stepOp_mono hc hs]
      exact runDrawn_mono l _ _ _ _ h
    · cases h

theorem lock_mono (X : List Nat) (fl : Nat) (f : FuncId) (args : Array Value) (H : AHeap) (r : Value × AHeap) (h : lockCall call X fl f args H = some r) : lockCall call' X fl f args H = some r := by
  unfold lockCall at h ⊢
  split at h
  · rename_i v K hk
    rw [hc _ _ _ _ _ hk]
    exact h
  · cases h
theorem runSemi_mono {fl : Nat} {ops : Array Oper} {b : Array Nat} : ∀ (l : List Oper) (i : Nat) (X : List Nat) (Z : List (Nat × List Nat × Nat)) (t : Temps) (H : AHeap) (r : Temps × AHeap), runSemi P call fl ops b i X Z l t H = some r → runSemi P call' fl ops b i X Z l t H = some r
  | [], _, _, _, _, _, _, h => h
  | o :: l, i, X, Z, t, H, r, h => by
    simp only [runSemi] at h ⊢
    split at h
    · rename_i hk
      rw [if_pos hk]
      split at h
      · rename_i t1 H1 hs
        have hs' : stepOp P (if semiAt ops b i o then lockCall call' X else call') fl (if kindOf o.op == 4 && (apartCall ops b i || semiC ops b i o) then fl else H.length) ops o t H = some (t1, H1) := by
          by_cases hsa : semiAt ops b i o = true
          · rw [if_pos hsa] at hs ⊢
            exact stepOp_mono (lock_mono hc X) hs
          · rw [if_neg hsa] at hs ⊢
            exact stepOp_mono hc hs
        rw [hs']
        exact runSemi_mono l _ _ _ _ _ _ h
      · cases h
    · cases h

theorem runRegion_mono {fl : Nat} {ops : Array Oper} {draw : Bool} {t : Temps} {H : AHeap} {r : Temps × AHeap} (h : runRegion P call fl ops draw t H = some r) : runRegion P call' fl ops draw t H = some r := by
  unfold runRegion at h ⊢
  split at h
  · rename_i hd
    rw [if_pos hd]
    simp only at h ⊢
    split at h
    · rename_i hs
      rw [if_pos hs]
      split at h
      · rename_i t1 H1 hr
        split at hr
        · rename_i hse
          rw [if_pos hse, runSemi_mono hc _ _ _ _ _ _ _ hr]
          exact h
        · rename_i hse
          rw [if_neg hse, runDrawn_mono hc _ _ _ _ _ hr]
          exact h
      · cases h
    · cases h
  · rename_i hd
    rw [if_neg hd]
    exact runOps_mono hc _ _ _ _ h

theorem exec_mono {m m' : Nat} (hm : m ≤ m') {fl : Nat} : ∀ (c : Code) (t : Temps) (H : AHeap) (r : AExit × Temps × AHeap), exec P call m fl c t H = some r → exec P call' m' fl c t H = some r := by
  intro c
  induction c with
  | region id ops draw =>
    intro t H r h
    simp only [exec] at h ⊢
    split at h
    · rename_i hr
      rw [runRegion_mono hc hr]; exact h
    · cases h
  | seq a b iha ihb =>
    intro t H r h
    simp only [exec] at h ⊢
    cases ha : exec P call m fl a t H with
    | none => rw [ha] at h; cases h
    | some r1 =>
      rw [ha] at h
      rw [iha _ _ _ ha]
      obtain ⟨e, t1, H1⟩ := r1
      cases e with
      | normal => exact ihb _ _ _ h
      | _ => exact h
  | cond c x y ihx ihy =>
    intro t H r h
    simp only [exec] at h ⊢
    split at h
    · exact ihx _ _ _ h
    · exact ihy _ _ _ h
    · cases h
  | block id b ih =>
    intro t H r h
    simp only [exec] at h ⊢
    cases hb : exec P call m fl b t H with
    | none => rw [hb] at h; cases h
    | some r1 =>
      rw [hb] at h
      rw [ih _ _ _ hb]
      exact h
  | loop b ih =>
    intro t H r h
    simp only [exec] at h ⊢
    exact loopN_mono ih hm _ _ _ h
  | _ => intro t H r h; exact h
end

/-! ### What must hold -/

def WCall (call : Caller) (fl : Nat) (f : FuncId) (args : Array Value) (H : AHeap) (R : Value → AHeap → Prop) : Prop :=
  ∃ v H', call fl f args H = some (v, H') ∧ R v H'

theorem WCall.mono {call : Caller} {fl : Nat} {f : FuncId} {args : Array Value} {H : AHeap} {R R' : Value → AHeap → Prop} (h : WCall call fl f args H R) (hr : ∀ v H', R v H' → R' v H') : WCall call fl f args H R' :=
  let ⟨v, H', hc, hR⟩ := h; ⟨v, H', hc, hr _ _ hR⟩

def WOp (P : Program) (call : Caller) (fl flc : Nat) (ops : Array Oper) (o : Oper) (t : Temps) (H : AHeap) (K : Temps → AHeap → Prop) : Prop :=
  if wantedA ops t o then
    match prim P fl o.op (eval t) H with
    | some (.value v, H') => K (tput t o.dst v) H'
    | some (.skip, H') => K (tput t o.dst undef) H'
    | some (.enter f args, H') => WCall call flc f args H' fun v H2 => K (tput t o.dst v) H2
    | none => False
  else K (tput t o.dst undef) H

def WOps (P : Program) (call : Caller) (fl : Nat) (ops : Array Oper) : List Oper → Temps → AHeap → (Temps → AHeap → Prop) → Prop
  | [], t, H, K => K t H
  | o :: l, t, H, K => WOp P call fl fl ops o t H fun t' H' => WOps P call fl ops l t' H' K

/-- The same for a region that draws its order; 'g': which calls may write what they wish. -/
def WDrawn (P : Program) (call : Caller) (fl : Nat) (ops : Array Oper) : List Bool → List Oper → Temps → AHeap → (Temps → AHeap → Prop) → Prop
  | _, [], t, H, K => K t H
  | g, o :: l, t, H, K => WOp P call fl (if g.headD false then fl else H.length) ops o t H fun t' H' => WDrawn P call fl ops g.tail l t' H' K

def W (P : Program) (call : Caller) (fl : Nat) (c : Code) (t : Temps) (H : AHeap) (Q : AExit → Temps → AHeap → Prop) : Prop :=
  ∃ N e t' H', exec P call N fl c t H = some (e, t', H') ∧ Q e t' H'

section
variable {P : Program} {call : Caller} {fl : Nat} {t : Temps} {H : AHeap} {Q : AExit → Temps → AHeap → Prop}

theorem WOp.run {flc : Nat} {ops : Array Oper} {o : Oper} {K : Temps → AHeap → Prop} (h : WOp P call fl flc ops o t H K) : ∃ (N : Nat) (t' : Temps) (H' : AHeap), stepOp P (call) fl flc ops o t H = some (t', H') ∧ K t' H' := by
  unfold WOp at h
  unfold stepOp
  split at h
  · rename_i hw
    simp only [hw, if_true]
    split at h
    · rename_i hp
      exact ⟨0, _, _, by simp only [hp], h⟩
    · rename_i hp
      exact ⟨0, _, _, by simp only [hp], h⟩
    · rename_i hp
      obtain ⟨v, H2, hc, hK⟩ := h
      exact ⟨0, _, H2, by simp only [hp, hc], hK⟩
    · exact h.elim
  · rename_i hw
    simp only [hw, Bool.false_eq_true, if_false]
    exact ⟨0, _, _, rfl, h⟩

theorem WOps.run {ops : Array Oper} : ∀ (l : List Oper) {t : Temps} {H : AHeap} {K : Temps → AHeap → Prop}, WOps P call fl ops l t H K → ∃ (N : Nat) (t' : Temps) (H' : AHeap), runOps P (call) fl ops l t H = some (t', H') ∧ K t' H'
  | [], t, H, K, h => ⟨0, t, H, rfl, h⟩
  | o :: l, t, H, K, h => by
    obtain ⟨N, t1, H1, h1, h2⟩ := WOp.run h
    obtain ⟨M, t2, H2, h3, h4⟩ := WOps.run l h2
    refine ⟨max N M, t2, H2, ?_, h4⟩
    simp only [runOps, stepOp_mono (fun _ _ _ _ _ h => h) h1]
    exact runOps_mono (fun _ _ _ _ _ h => h) _ _ _ _ h3

/-- Which calls may write what they wish. -/
def flags (ops : Array Oper) (b : Array Nat) (i : Nat) : List Oper → List Bool
  | [] => []
  | o :: l => (kindOf o.op == 4 && apartCall ops b i) :: flags ops b (i + 1) l

theorem WDrawn.run {ops : Array Oper} {b : Array Nat} : ∀ (l : List Oper) (i : Nat) {t : Temps} {H : AHeap} {K : Temps → AHeap → Prop}, WDrawn P call fl ops (flags ops b i l) l t H K →
    ∃ (N : Nat) (t' : Temps) (H' : AHeap), runDrawn P (call) fl ops b i l t H = some (t', H') ∧ K t' H'
  | [], i, t, H, K, h => ⟨0, t, H, rfl, h⟩
  | o :: l, i, t, H, K, h => by
    have h : WOp P call fl (if kindOf o.op == 4 && apartCall ops b i then fl else H.length) ops o t H (fun t' H' => WDrawn P call fl ops (flags ops b (i + 1) l) l t' H' K) := h
    obtain ⟨N, t1, H1, h1, h2⟩ := WOp.run h
    obtain ⟨M, t2, H2, h3, h4⟩ := WDrawn.run l (i + 1) h2
    refine ⟨max N M, t2, H2, ?_, h4⟩
    simp only [runDrawn]
    rw [stepOp_mono (fun _ _ _ _ _ h => h) h1]
    exact runDrawn_mono (fun _ _ _ _ _ h => h) _ _ _ _ _ h3

theorem W_region {id : Nat} {ops : Array Oper} (h : WOps P call fl ops ops.toList t H (Q .normal)) : W P call fl (.region id ops false) t H Q := by
  obtain ⟨N, t', H', h1, h2⟩ := WOps.run _ h
  exact ⟨N, .normal, t', H', by simp [exec, runRegion, h1], h2⟩

/-- What the text of a region that draws its order must be. -/
def drawnOk (ops : Array Oper) (g : List Bool) (cl : List (Nat × Nat)) : Bool :=
  let b := befores ops.toList #[]
  drawOk ops b && (clashes ops b).all (fun p => lasting ops p.1 && lasting ops p.2) && flags ops b 0 ops.toList == g && clashes ops b == cl

theorem W_drawn {id : Nat} {ops : Array Oper} (g : List Bool) (cl : List (Nat × Nat)) (hok : drawnOk ops g cl = true)
    (h : WDrawn P call fl ops g ops.toList t H fun t' H' => cl.all (clashOk ops t') = true ∧ Q .normal t' H') : W P call fl (.region id ops true) t H Q := by
  simp only [drawnOk, drawOk, Bool.and_eq_true, beq_iff_eq, Bool.not_eq_true'] at hok
  obtain ⟨⟨⟨⟨h1, hse⟩, h2⟩, h3⟩, h4⟩ := hok
  rw [← h3] at h
  obtain ⟨N, t', H', h5, h6, h7⟩ := WDrawn.run _ _ h
  rw [← h4] at h6
  refine ⟨N, .normal, t', H', ?_, h7⟩
  simp only [exec, runRegion, if_true, h1, h2, hse, Bool.false_eq_true, if_false, Bool.and_self, h5, h6]

theorem W_seq {x y : Code} (h : W P call fl x t H fun e t1 H1 => match e with | .normal => W P call fl y t1 H1 Q | e => Q e t1 H1) : W P call fl (.seq x y) t H Q := by
  obtain ⟨N, e, t1, H1, h1, h2⟩ := h
  cases e with
  | normal =>
    obtain ⟨M, e2, t2, H2, h3, h4⟩ := h2
    refine ⟨max N M, e2, t2, H2, ?_, h4⟩
    simp only [exec, exec_mono (fun _ _ _ _ _ h => h) (Nat.le_max_left N M) _ _ _ _ h1]
    exact exec_mono (fun _ _ _ _ _ h => h) (Nat.le_max_right N M) _ _ _ _ h3
  | _ => exact ⟨N, _, t1, H1, by simp only [exec, h1], h2⟩

theorem W_cond {c : Operand} {x y : Code} {b : Bool} (hc : eval t c = .bool b) (h1 : b = true → W P call fl x t H Q) (h2 : b = false → W P call fl y t H Q) : W P call fl (.cond c x y) t H Q := by
  cases b with
  | true =>
    obtain ⟨N, e, t1, H1, h, hq⟩ := h1 rfl
    exact ⟨N, e, t1, H1, by simp only [exec, hc, h], hq⟩
  | false =>
    obtain ⟨N, e, t1, H1, h, hq⟩ := h2 rfl
    exact ⟨N, e, t1, H1, by simp only [exec, hc, h], hq⟩

theorem W_block {id : Nat} {x : Code} (h : W P call fl x t H fun e t1 H1 => match e with | .exit id' => Q (if id' = id then .normal else .exit id') t1 H1 | e => Q e t1 H1) : W P call fl (.block id x) t H Q := by
  obtain ⟨N, e, t1, H1, h1, h2⟩ := h
  cases e with
  | exit id' => exact ⟨N, _, t1, H1, by simp only [exec, h1], h2⟩
  | _ => exact ⟨N, _, t1, H1, by simp only [exec, h1], h2⟩

theorem W_skip (h : Q .normal t H) : W P call fl .skip t H Q := ⟨0, _, t, H, rfl, h⟩
theorem W_label {l : Nat} (h : Q .normal t H) : W P call fl (.label l) t H Q := ⟨0, _, t, H, rfl, h⟩
theorem W_exit {id : Nat} (h : Q (.exit id) t H) : W P call fl (.exit id) t H Q := ⟨0, _, t, H, rfl, h⟩
theorem W_ret (h : Q .ret t H) : W P call fl .ret t H Q := ⟨0, _, t, H, rfl, h⟩

theorem W.mono {c : Code} {Q' : AExit → Temps → AHeap → Prop} (h : W P call fl c t H Q) (hq : ∀ e t H, Q e t H → Q' e t H) : W P call fl c t H Q' :=
  let ⟨N, e, t', H', hx, hQ⟩ := h; ⟨N, e, t', H', hx, hq _ _ _ hQ⟩

/-- A loop: what holds at the head of each round, and a number that each round lowers. -/
theorem W_loop {x : Code} (I : Nat → Temps → AHeap → Prop) (n : Nat) (h0 : I n t H)
    (round : ∀ k t H, I k t H → W P call fl x t H fun e t1 H1 => match e with | .normal => ∃ k', k' < k ∧ I k' t1 H1 | e => Q e t1 H1) : W P call fl (.loop x) t H Q := by
  induction n using Nat.strongRecOn generalizing t H with
  | _ n ih =>
    obtain ⟨N, e, t1, H1, h1, h2⟩ := round n t H h0
    cases e with
    | normal =>
      obtain ⟨k', hk, hI⟩ := h2
      obtain ⟨M, e2, t2, H2, h3, h4⟩ := ih k' hk hI
      simp only [exec] at h3
      refine ⟨max N M + 1, e2, t2, H2, ?_, h4⟩
      simp only [exec, loopN]
      rw [exec_mono (fun _ _ _ _ _ h => h) (show N ≤ max N M + 1 by omega) _ _ _ _ h1]
      exact loopN_mono (exec_mono (fun _ _ _ _ _ h => h) (show M ≤ max N M + 1 by omega) x) (show M ≤ max N M by omega) _ _ _ h3
    | _ =>
      refine ⟨N + 1, _, t1, H1, ?_, h2⟩
      simp only [exec, loopN]
      rw [exec_mono (fun _ _ _ _ _ h => h) (Nat.le_succ N) _ _ _ _ h1]

/-! ### Operations without calls, one behind the other -/

def stepPrim (P : Program) (fl : Nat) (ops : Array Oper) (o : Oper) (t : Temps) (H : AHeap) : Option (Temps × AHeap) :=
  if wantedA ops t o then
    match prim P fl o.op (eval t) H with
    | some (.value v, H') => some (tput t o.dst v, H')
    | some (.skip, H') => some (tput t o.dst undef, H')
    | _ => none
  else some (tput t o.dst undef, H)

def runPrims (P : Program) (fl : Nat) (ops : Array Oper) : List Oper → Temps → AHeap → Option (Temps × AHeap)
  | [], t, H => some (t, H)
  | o :: l, t, H => match stepPrim P fl ops o t H with
    | some (t', H') => runPrims P fl ops l t' H'
    | none => none

theorem stepPrim_W {flc : Nat} {ops : Array Oper} {o : Oper} {t1 : Temps} {H1 : AHeap} {K : Temps → AHeap → Prop} (h : stepPrim P fl ops o t H = some (t1, H1)) (hK : K t1 H1) : WOp P call fl flc ops o t H K := by
  unfold stepPrim at h
  unfold WOp
  split at h
  · rename_i hw
    rw [if_pos hw]
    split at h
    · rename_i hp; cases h; simp only [hp]; exact hK
    · rename_i hp; cases h; simp only [hp]; exact hK
    · cases h
  · rename_i hw
    rw [if_neg hw]
    cases h; exact hK

theorem W_prims {ops : Array Oper} (n : Nat) : ∀ {l : List Oper} {t t1 : Temps} {H H1 : AHeap} {K : Temps → AHeap → Prop}, runPrims P fl ops (l.take n) t H = some (t1, H1) → WOps P call fl ops (l.drop n) t1 H1 K → WOps P call fl ops l t H K := by
  induction n with
  | zero => intro l t t1 H H1 K h hK; simp [runPrims] at h; obtain ⟨rfl, rfl⟩ := h; exact hK
  | succ n ih =>
    intro l t t1 H H1 K h hK
    cases l with
    | nil => simp [runPrims] at h; obtain ⟨rfl, rfl⟩ := h; exact hK
    | cons o l =>
      simp only [List.take_succ_cons, runPrims] at h
      split at h
      · rename_i t2 H2 hs
        exact stepPrim_W hs (ih h hK)
      · cases h

theorem D_prims {ops : Array Oper} (n : Nat) : ∀ {g : List Bool} {l : List Oper} {t t1 : Temps} {H H1 : AHeap} {K : Temps → AHeap → Prop}, runPrims P fl ops (l.take n) t H = some (t1, H1) → WDrawn P call fl ops (g.drop n) (l.drop n) t1 H1 K →
    WDrawn P call fl ops g l t H K := by
  induction n with
  | zero => intro g l t t1 H H1 K h hK; simp [runPrims] at h; obtain ⟨rfl, rfl⟩ := h; exact hK
  | succ n ih =>
    intro g l t t1 H H1 K h hK
    cases l with
    | nil => simp [runPrims] at h; obtain ⟨rfl, rfl⟩ := h; simpa [WDrawn] using hK
    | cons o l =>
      simp only [List.take_succ_cons, runPrims] at h
      split at h
      · rename_i t2 H2 hs
        exact stepPrim_W hs (ih h (by cases g <;> simpa using hK))
      · cases h

/-- A region without a call. -/
theorem W_plain {id : Nat} {ops : Array Oper} {t1 : Temps} {H1 : AHeap} (h : runPrims P fl ops ops.toList t H = some (t1, H1)) (hQ : Q .normal t1 H1) : W P call fl (.region id ops false) t H Q := by
  refine W_region (W_prims ops.toList.length (t1 := t1) (H1 := H1) ?_ ?_)
  · rw [List.take_length]; exact h
  · rw [List.drop_length]; exact hQ

theorem D_plain {id : Nat} {ops : Array Oper} {t1 : Temps} {H1 : AHeap} (cl : List (Nat × Nat)) (hok : drawnOk ops (ops.toList.map fun _ => false) cl = true) (h : runPrims P fl ops ops.toList t H = some (t1, H1))
    (hc : cl.all (clashOk ops t1) = true) (hQ : Q .normal t1 H1) : W P call fl (.region id ops true) t H Q := by
  refine W_drawn _ cl hok (D_prims ops.toList.length (t1 := t1) (H1 := H1) ?_ ?_)
  · rw [List.take_length]; exact h
  · rw [List.drop_length]; exact ⟨hc, hQ⟩

/-- A piece of the slots is enough. -/
theorem fresh {T : Temps} {X : Temps → Prop} (h : ∀ t : Temps, (∀ i, t i = T i) → X t) : X T := h T fun _ => rfl

end
/-- Slots by a list; the others are u's. -/
def tl : List (Nat × Value) → Temps → Temps
  | [], u => u
  | (d, v) :: l, u => tset (tl l u) d v

def KeepAll (T : Temps) : List (Nat × Value) → Prop
  | [] => True
  | (d, v) :: l => T d = v ∧ KeepAll T l

theorem tl_keep {T : Temps} : ∀ {l : List (Nat × Value)}, KeepAll T l → T = tl l T
  | [], _ => rfl
  | (d, v) :: l, h => by
    funext i
    show T i = tset (tl l T) d v i
    unfold tset
    split
    · rename_i he; rw [he]; exact h.1
    · exact congrFun (tl_keep h.2) i

/-- The slots that are read later are enough. -/
theorem forget {T : Temps} {X : Temps → Prop} (l : List (Nat × Value)) (hk : KeepAll T l) (h : ∀ u, X (tl l u)) : X T := by
  rw [tl_keep hk]; exact h T

section
variable {P : Program} {call : Caller} {fl : Nat} {t : Temps} {H H1 : AHeap} {Q : AExit → Temps → AHeap → Prop} {ops : Array Oper} {g : List Bool} {l : List Oper} {o : Oper} {K : Temps → AHeap → Prop}

theorem W_reg {id : Nat} {draw : Bool} (g : List Bool) (cl : List (Nat × Nat)) (hd : (draw = true ∧ drawnOk ops g cl = true) ∨ (draw = false ∧ g = ops.toList.map fun _ => true))
    (h : WDrawn P call fl ops g ops.toList t H fun t' H' => cl.all (clashOk ops t') = true ∧ Q .normal t' H') : W P call fl (.region id ops draw) t H Q := by
  rcases hd with ⟨rfl, hok⟩ | ⟨rfl, rfl⟩
  · exact W_drawn g cl hok h
  · refine W_region ?_
    have : ∀ (l : List Oper) (t : Temps) (H : AHeap), WDrawn P call fl ops (l.map fun _ => true) l t H (fun t' H' => cl.all (clashOk ops t') = true ∧ Q .normal t' H') → WOps P call fl ops l t H (Q .normal) := by
      intro l
      induction l with
      | nil => intro t H h; exact h.2
      | cons o l ih =>
        intro t H h
        have h : WOp P call fl fl ops o t H fun t' H' => WDrawn P call fl ops (l.map fun _ => true) l t' H' (fun t' H' => cl.all (clashOk ops t') = true ∧ Q .normal t' H') := h
        show WOp P call fl fl ops o t H fun t' H' => WOps P call fl ops l t' H' (Q .normal)
        unfold WOp at h ⊢
        split at h
        · rename_i hw
          rw [if_pos hw]
          split at h
          · exact ih _ _ h
          · exact ih _ _ h
          · exact h.mono fun v H' h => ih _ _ h
          · exact h.elim
        · rename_i hw
          rw [if_neg hw]; exact ih _ _ h
    exact this _ _ _ h

theorem D_nil (h : K t H) : WDrawn P call fl ops g [] t H K := by cases g <;> exact h

theorem D_op {v : Value} (hw : wantedA ops t o = true) (hp : prim P fl o.op (eval t) H = some (.value v, H1)) (h : WDrawn P call fl ops g.tail l (tput t o.dst v) H1 K) : WDrawn P call fl ops g (o :: l) t H K := by
  show WOp P call fl _ ops o t H _
  unfold WOp
  rw [if_pos hw]
  simp only [hp]
  exact h

theorem D_pure {v : Value} (hw : wantedA ops t o = true) (hp : prim P fl o.op (eval t) H = some (.value v, H)) (h : WDrawn P call fl ops g.tail l (tput t o.dst v) H K) : WDrawn P call fl ops g (o :: l) t H K := D_op hw hp h

theorem D_opw {v v' : Value} (hw : wantedA ops t o = true) (hp : prim P fl o.op (eval t) H = some (.value v', H)) (hv : v' = v) (h : WDrawn P call fl ops g.tail l (tput t o.dst v) H K) : WDrawn P call fl ops g (o :: l) t H K :=
  D_op hw hp (by rw [hv]; exact h)

theorem D_do (hw : wantedA ops t o = true) (hp : prim P fl o.op (eval t) H = some (.skip, H1)) (h : WDrawn P call fl ops g.tail l (tput t o.dst undef) H1 K) : WDrawn P call fl ops g (o :: l) t H K := by
  show WOp P call fl _ ops o t H _
  unfold WOp
  rw [if_pos hw]
  simp only [hp]
  exact h

theorem D_not (hw : wantedA ops t o = false) (h : WDrawn P call fl ops g.tail l (tput t o.dst undef) H K) : WDrawn P call fl ops g (o :: l) t H K := by
  show WOp P call fl _ ops o t H _
  unfold WOp
  rw [hw]
  exact h

theorem D_call {f : FuncId} {args : Array Value} (b : Bool) (hg : g.headD false = b) (hw : wantedA ops t o = true) (hp : prim P fl o.op (eval t) H = some (.enter f args, H))
    (h : WCall call (if b then fl else H.length) f args H fun v H2 => WDrawn P call fl ops g.tail l (tput t o.dst v) H2 K) : WDrawn P call fl ops g (o :: l) t H K := by
  subst hg
  show WOp P call fl _ ops o t H _
  unfold WOp
  rw [if_pos hw]
  simp only [hp]
  exact h

theorem D_mono {K' : Temps → AHeap → Prop} (hk : ∀ t H, K t H → K' t H) : ∀ {g : List Bool} {l : List Oper} {t : Temps} {H : AHeap}, WDrawn P call fl ops g l t H K → WDrawn P call fl ops g l t H K' := by
  intro g l
  induction l generalizing g with
  | nil => intro t H h; cases g <;> exact hk _ _ h
  | cons o l ih =>
    intro t H h
    have h : WOp P call fl (if g.headD false then fl else H.length) ops o t H fun t' H' => WDrawn P call fl ops g.tail l t' H' K := h
    show WOp P call fl (if g.headD false then fl else H.length) ops o t H fun t' H' => WDrawn P call fl ops g.tail l t' H' K'
    unfold WOp at h ⊢
    split at h
    · rename_i hw
      rw [if_pos hw]
      split at h
      · exact ih h
      · exact ih h
      · exact h.mono fun v H' h => ih h
      · exact h.elim
    · rename_i hw
      rw [if_neg hw]; exact ih h

theorem W_forget {c : Code} {T : Temps} (l : List (Nat × Value)) (hk : KeepAll T l) (h : ∀ u, W P call fl c (tl l u) H Q) : W P call fl c T H Q := by
  rw [tl_keep hk]; exact h T

theorem W_cut {id : Nat} {draw : Bool} (g : List Bool) (cl : List (Nat × Nat)) (hd : (draw = true ∧ drawnOk ops g cl = true) ∨ (draw = false ∧ g = ops.toList.map fun _ => true)) (l : List (Nat × Value)) (H2 : AHeap)
    (h1 : WDrawn P call fl ops g ops.toList t H fun t' H' => cl.all (clashOk ops t') = true ∧ KeepAll t' l ∧ H' = H2) (h2 : ∀ t', KeepAll t' l → Q .normal t' H2) : W P call fl (.region id ops draw) t H Q :=
  W_reg g cl hd (D_mono (fun t' H' ⟨a, b, c⟩ => ⟨a, by rw [c]; exact h2 t' b⟩) h1)

theorem W_true {c : Operand} {x y : Code} (hc : eval t c = .bool true) (h : W P call fl x t H Q) : W P call fl (.cond c x y) t H Q := W_cond hc (fun _ => h) (fun h => by cases h)
theorem W_false {c : Operand} {x y : Code} (hc : eval t c = .bool false) (h : W P call fl y t H Q) : W P call fl (.cond c x y) t H Q := W_cond hc (fun h => by cases h) (fun _ => h)

/-! ### Memory -/

theorem prim_load {ty : TypeId} {a : Operand} {p : Addr} {v : Value} (ha : eval t a = .pointer (some p)) (hl : loadA P ty H p = some v) : prim P fl (.load ty a) (eval t) H = some (.value v, H) := by
  simp only [prim, ha, hl, Option.map_some]
theorem prim_index {ty e es eb : TypeId} {x ix : Operand} {b o n c : Nat} {k : IntKind} {i : Int} (hty : aTy P ty = .slice e es eb) (hx : eval t x = .slice (some ⟨b, o, none⟩) n c) (hi : eval t ix = .int k i)
    (h0 : 0 ≤ i) (hn : i < n) : prim P fl (.indexAddr ty x ix) (eval t) H = some (.value (.pointer (some ⟨b, o + i.toNat * es, none⟩)), H) := by
  have : indexAddrA P ty (.slice (some ⟨b, o, none⟩) n c) (.int k i) = some (.pointer (some ⟨b, o + i.toNat * es, none⟩)) := by
    unfold indexAddrA
    rw [hty]
    simp only [h0, hn, and_self, if_true]
    unfold Addr.add
    split
    · rename_i h; simp [h]
    · rfl
  simp only [prim, hx, hi, this, Option.map_some]
end
theorem wrap_i64 (x : Int) (h1 : -9223372036854775808 ≤ x) (h2 : x ≤ 9223372036854775807) : IntKind.i64.wrap x = x := by
  simp only [IntKind.wrap, IntKind.bits, IntKind.signed]
  simp
  omega
theorem wrap_i32 (x : Int) (h1 : -2147483648 ≤ x) (h2 : x ≤ 2147483647) : IntKind.i32.wrap x = x := by
  simp only [IntKind.wrap, IntKind.bits, IntKind.signed]
  simp
  omega
theorem wrap_i8 (x : Int) (h1 : -128 ≤ x) (h2 : x ≤ 127) : IntKind.i8.wrap x = x := by
  simp only [IntKind.wrap, IntKind.bits, IntKind.signed]
  simp
  omega
theorem wrap_u8 (x : Int) (h1 : 0 ≤ x) (h2 : x ≤ 255) : IntKind.u8.wrap x = x := by
  simp only [IntKind.wrap, IntKind.bits, IntKind.signed]
  simp
  omega
theorem wrap_u64 (x : Int) (h1 : 0 ≤ x) (h2 : x ≤ 18446744073709551615) : IntKind.u64.wrap x = x := by
  simp only [IntKind.wrap, IntKind.bits, IntKind.signed]
  simp
  omega
theorem wrap_u32 (x : Int) (h1 : 0 ≤ x) (h2 : x ≤ 4294967295) : IntKind.u32.wrap x = x := by
  simp only [IntKind.wrap, IntKind.bits, IntKind.signed]
  simp
  omega

theorem wv {k : IntKind} {x : Int} (h : k.wrap x = x) : Value.int k (k.wrap x) = .int k x := by rw [h]

theorem iv {k : IntKind} {a b : Int} (h : a = b) : Value.int k a = .int k b := by rw [h]


/-! ### A region with a call that may not touch what is read beside it -/
section
variable {P : Program} {call : Caller} {fl : Nat} {t : Temps} {H H1 : AHeap} {Q : AExit → Temps → AHeap → Prop} {ops : Array Oper} {b : Array Nat} {i : Nat} {Z : List (Nat × List Nat × Nat)} {l : List Oper} {o : Oper} {K : Temps → AHeap → Prop}
def WSemi (P : Program) (call : Caller) (fl : Nat) (ops : Array Oper) (b : Array Nat) (i : Nat) (Z : List (Nat × List Nat × Nat)) (l : List Oper) (t : Temps) (H : AHeap) (K : Temps → AHeap → Prop) : Prop :=
  ∃ t' H', runSemi P call fl ops b i [] Z l t H = some (t', H') ∧ K t' H'
theorem W_semi {id : Nat} (b : Array Nat) (hb : befores ops.toList #[] = b) (cl : List (Nat × Nat)) (h0 : (drawOk0 ops b && (clashes ops b).all (fun p => lasting ops p.1 && lasting ops p.2) && hasSemi ops b) = true) (hcl : clashes ops b = cl)
    (h : WSemi P call fl ops b 0 [] ops.toList t H fun t' H' => cl.all (clashOk ops t') = true ∧ Q .normal t' H') : W P call fl (.region id ops true) t H Q := by
  obtain ⟨t', H', h1, h2, h3⟩ := h
  simp only [Bool.and_eq_true] at h0
  refine ⟨0, .normal, t', H', ?_, h3⟩
  subst hb
  subst hcl
  simp only [exec, runRegion, if_true, h0.1.1, h0.1.2, h0.2, Bool.and_self, h1, h2]
theorem S_nil (h : K t H) : WSemi P call fl ops b i Z [] t H K := ⟨t, H, rfl, h⟩
theorem S_op {v : Value} (hc : (semiChk b i Z (accOf o.op (eval t)) && !isLoad o.op && !semiAt ops b i o && wantedA ops t o) = true) (hp : prim P fl o.op (eval t) H = some (.value v, H1)) (h : WSemi P call fl ops b (i + 1) Z l (tput t o.dst v) H1 K) :
    WSemi P call fl ops b i Z (o :: l) t H K := by
  obtain ⟨t', H', h1, h2⟩ := h
  simp only [Bool.and_eq_true, Bool.not_eq_true'] at hc
  refine ⟨t', H', ?_, h2⟩
  simp only [runSemi, hc.1.1.1, if_true, hc.1.1.2, hc.1.2, Bool.false_eq_true, if_false, stepOp, hc.2, hp]
  exact h1
theorem S_pure {v : Value} (hc : (semiChk b i Z (accOf o.op (eval t)) && !isLoad o.op && !semiAt ops b i o && wantedA ops t o) = true) (hp : prim P fl o.op (eval t) H = some (.value v, H)) (h : WSemi P call fl ops b (i + 1) Z l (tput t o.dst v) H K) :
    WSemi P call fl ops b i Z (o :: l) t H K := S_op hc hp h
theorem S_pure2 {v : Value} {acc : List Nat} (ha : accOf o.op (eval t) = acc) (hz : semiChk b i Z acc = true) (hc : (!isLoad o.op && !semiAt ops b i o && wantedA ops t o) = true) (hp : prim P fl o.op (eval t) H = some (.value v, H)) (h : WSemi P call fl ops b (i + 1) Z l (tput t o.dst v) H K) :
    WSemi P call fl ops b i Z (o :: l) t H K := S_op (by rw [ha, hz]; simpa using hc) hp h
theorem S_call {f : FuncId} {args : Array Value} {v : Value} (hc : (semiChk b i Z (accOf o.op (eval t)) && !isLoad o.op && semiAt ops b i o && (kindOf o.op == 4 && (apartCall ops b i || semiC ops b i o)) && wantedA ops t o) = true) (hp : prim P fl o.op (eval t) H = some (.enter f args, H))
    (hk : call fl f args H = some (v, H1)) (h : WSemi P call fl ops b (i + 1) ((i, [], H.length) :: Z) l (tput t o.dst v) H1 K) : WSemi P call fl ops b i Z (o :: l) t H K := by
  obtain ⟨t', H', h1, h2⟩ := h
  simp only [Bool.and_eq_true, Bool.not_eq_true'] at hc
  refine ⟨t', H', ?_, h2⟩
  have hl : lockCall call [] fl f args H = some (v, H1) := by
    show (match call fl f args H with
      | some (v, K) => some (v, K)
      | none => none) = _
    rw [hk]
  have h5 : (kindOf o.op == 4 && (apartCall ops b i || semiC ops b i o)) = true := by
    simp only [Bool.and_eq_true]
    exact hc.1.2
  simp only [runSemi, hc.1.1.1.1, if_true, hc.1.1.1.2, hc.1.1.2, Bool.false_eq_true, if_false, stepOp, hc.2, hp, h5, hl]
  exact h1
end
end Go.Mach
