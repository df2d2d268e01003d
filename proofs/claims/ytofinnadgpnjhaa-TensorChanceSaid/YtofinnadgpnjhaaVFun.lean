/- Code and functions: what the value machine tells, the machine does. Laws; no condition. -/
import Derived.Test.YtofinnadgpnjhaaVSnd
namespace Go.Mach
set_option linter.unusedVariables false
set_option linter.unusedSimpArgs false

section
variable {G : Cfg} {F0 : Fz} {H0 : AHeap} {c c' : Ctx} {H H' : AHeap} {s : VS} {ta : Temps} {n fl : Nat} {ops : Array Oper}

/-! ### Drawn orders -/

/-- Where a value leads to. -/
def LocOf (c : Ctx) (b : Nat) : Option Nat → Prop
  | some i => c.ρ i = some b
  | none => ∃ B, c.F b = some B

theorem RL_blk {v : VV} {a : Value} (h : RL c v a) {locs : List (Option Nat)} (hl : locsV v = some locs) : ∀ b ∈ blkOf a, ∃ x ∈ locs, LocOf c b x := by
  cases v with
  | pl v =>
    obtain ⟨rfl, hp⟩ := h
    intro b hb
    cases a <;> simp only [blkOf] at hb <;> try (cases hb; done)
    case pointer x => cases x with
      | none => cases hb
      | some _ => cases hp
    case slice x _ _ => cases x with
      | none => cases hb
      | some _ => cases hp
  | own i =>
    cases hl
    intro b hb
    simp only [RL] at h
    cases hi : c.h[i]? with
    | none => rw [hi] at h; exact h.elim
    | some o =>
      rw [hi] at h
      refine ⟨some i, by simp, ?_⟩
      cases o with
      | box _ _ => exact h.elim
      | lst _ _ _ _ =>
        simp only at h
        subst h
        cases hρ : c.ρ i with
        | none => rw [hρ] at hb; cases hb
        | some b' => rw [hρ] at hb; simp [sl, blkOf] at hb; subst hb; exact hρ
      | dead _ =>
        obtain ⟨_, _, rfl⟩ := h
        cases hρ : c.ρ i with
        | none => rw [hρ] at hb; cases hb
        | some b' => rw [hρ] at hb; simp [blkOf] at hb; subst hb; exact hρ
  | ptr i off =>
    cases hl
    intro b hb
    obtain ⟨b', cs, fr, h1, h2, rfl⟩ := h
    simp [blkOf] at hb
    subst hb
    exact ⟨some i, by simp, h2⟩
  | eptr i ix off =>
    cases hl
    intro b hb
    obtain ⟨b', h1, h2⟩ := h
    have : b = b' := by
      split at h2
      · obtain ⟨_, rfl⟩ := h2; simpa [blkOf] using hb
      · obtain ⟨_, rfl⟩ := h2; simpa [blkOf] using hb
      · exact h2.elim
    subst this
    exact ⟨some i, by simp, h1⟩
  | fptr o t l ix off =>
    cases hl
    intro b hb
    obtain ⟨b', q, B, x, cs, rfl, h2, _⟩ := h
    simp [blkOf] at hb
    subst hb
    exact ⟨none, by simp, B, cutF_le _ _ h2⟩
  | hof i => cases hl
  | undef => cases hl
  | fz o t l => cases hl
  | agg l => exact h.elim
  | tup l => exact h.elim
  | bx l off => exact h.elim
  | fn f l => exact h.elim
  | nw t l => exact h.elim

theorem R2_blk {v : VV} {a : Value} (h : R2 c v a) {locs : List (Option Nat)} (hl : locsV v = some locs) : ∀ b ∈ blkOf a, ∃ x ∈ locs, LocOf c b x := by
  cases v
  case tup l => obtain ⟨azz, rfl, _⟩ := h; intro b hb; cases hb
  case fn f l => obtain ⟨azz, rfl, _⟩ := h; intro b hb; cases hb
  case agg l => obtain ⟨azz, rfl, _⟩ := h; intro b hb; cases hb
  case bx l off =>
    obtain ⟨b', B, rfl, h2, _⟩ := h
    cases hl
    intro b hb
    simp [blkOf] at hb
    subst hb
    exact ⟨none, by simp, B, h2⟩
  all_goals exact RL_blk (R1_leaf (fun _ e => by cases e) (fun _ _ e => by cases e) (R2_flat (fun _ e => by cases e) (fun _ _ e => by cases e) h)) hl

theorem locsAll_blk : ∀ {vs : List VV} {azz : List Value}, All2 (R2 c) vs azz → ∀ {locs : List (Option Nat)}, locsAll vs = some locs → ∀ b ∈ azz.flatMap blkOf, ∃ x ∈ locs, LocOf c b x
  | _, _, .nil, locs, h, b, hb => by cases hb
  | v :: vs, a :: azz, .cons h t, locs, hl, b, hb => by
    unfold locsAll at hl
    split at hl
    · rename_i x y h1 h2
      cases hl
      rw [List.flatMap_cons, List.mem_append] at hb
      rcases hb with hb | hb
      · obtain ⟨z, h3, h4⟩ := R2_blk h h1 b hb; exact ⟨z, List.mem_append_left _ h3, h4⟩
      · obtain ⟨z, h3, h4⟩ := locsAll_blk t h2 b hb; exact ⟨z, List.mem_append_right _ h3, h4⟩
    · cases hl

theorem accV_sound {op : Op} (ht : Tok c s.t ta) (hx : ∀ x ∈ op.operands.toList, operandOk n x = true) {locs : List (Option Nat)} (hl : accV op s.t = some locs) : ∀ b ∈ accOf op (eval ta), ∃ x ∈ locs, LocOf c b x := by
  cases op
  case load ty a => exact R2_blk (ev_rel ht (hx a (by simp [Op.operands]))) hl
  case store ty a y => exact R2_blk (ev_rel ht (hx a (by simp [Op.operands]))) hl
  case convert p d x => exact R2_blk (ev_rel ht (hx x (by simp [Op.operands]))) hl
  case call cl =>
    have hargs := args_rel ht (l := cl.args.toList) (fun x h => hx x (by simp only [Op.operands, Call.operands, Array.toList_append]; exact List.mem_append_right _ h))
    have e2 : (cl.args.map (eval ta)).toList = cl.args.toList.map (eval ta) := by simp
    simp only [accV, accOf] at hl ⊢
    cases hc : cl.callee with
    | builtin bt =>
      rw [hc] at hl
      cases bt <;> first
        | (simp only [e2]; exact locsAll_blk hargs hl)
        | (intro b hb; cases hb)
    | value f => intro b hb; cases hb
    | invoke f m => intro b hb; cases hb
  all_goals (intro b hb; cases hb)

theorem wrV_sound {op : Op} (ht : Tok c s.t ta) (hx : ∀ x ∈ op.operands.toList, operandOk n x = true) {locs : List (Option Nat)} (hl : wrV op s.t = some locs) : ∀ b ∈ wrOf op (eval ta), ∃ x ∈ locs, LocOf c b x := by
  cases op
  case store ty a y => exact R2_blk (ev_rel ht (hx a (by simp [Op.operands]))) hl
  case call cl =>
    have hax : ∀ x ∈ cl.args.toList, operandOk n x = true := fun x h => hx x (by simp only [Op.operands, Call.operands, Array.toList_append]; exact List.mem_append_right _ h)
    have key : ∀ locs, (match cl.args.toList with
        | x :: _ => locsV (evV s.t x)
        | [] => some []) = some locs → ∀ b ∈ (cl.args.map (eval ta))[0]?.elim [] blkOf, ∃ x ∈ locs, LocOf c b x := by
      intro locs hl b hb
      have e3 : (cl.args.map (eval ta))[0]? = (cl.args.toList.map (eval ta))[0]? := by
        rw [← Array.getElem?_toList]; simp
      rw [e3] at hb
      split at hl
      · rename_i x l e4
        rw [e4] at hb
        exact R2_blk (ev_rel ht (hax x (by rw [e4]; exact List.mem_cons_self))) hl b (by simpa using hb)
      · rename_i e4; rw [e4] at hb; simp at hb
    simp only [wrV, wrOf] at hl ⊢
    cases hc : cl.callee with
    | builtin bt =>
      rw [hc] at hl
      cases bt <;> first
        | exact key _ hl
        | (intro b hb; cases hb)
    | value f => intro b hb; cases hb
    | invoke f m => intro b hb; cases hb
  all_goals (intro b hb; cases hb)

theorem apart_sound (hr : Rel F0 H0 c s ta H) {x y : List (Option Nat)} {xs ys : List Nat} (h : apartV s.h (some x) (some y) = true) (hx : ∀ b ∈ xs, ∃ z ∈ x, LocOf c b z) (hy : ∀ b ∈ ys, ∃ z ∈ y, LocOf c b z) : apartB xs ys = true := by
  obtain ⟨hh, hok, ht⟩ := hr
  unfold apartV at h
  simp only [List.all_eq_true] at h
  unfold apartB
  simp only [List.all_eq_true, bne_iff_ne]
  intro b hb b' hb' e
  subst e
  obtain ⟨z, hz, hz2⟩ := hx b hb
  obtain ⟨w, hw, hw2⟩ := hy b hb'
  have ha := h z hz w hw
  have own : ∀ i, c.ρ i = some b → apartLoc.ownB (getO s.h i) = true → c.F b = none ∧ c.h[i]? ≠ some (.dead false) := by
    intro i hi ho
    have hlt := hok.lt hi
    have hg : c.h[i]? = some (getO s.h i) := by
      rw [← hh]
      unfold getO
      rw [List.getD_eq_getElem?_getD, List.getElem?_eq_getElem hlt]; rfl
    have ob := hok.obj i _ hg
    cases e : getO s.h i with
    | box cs fr =>
      rw [e] at ho hg
      obtain ⟨b', azz, k1, _, _, _, k5⟩ := ob.box cs fr e
      rw [hi] at k1; cases k1
      refine ⟨k5 (by cases fr <;> first | rfl | cases ho), by rw [hg]; intro e; cases e⟩
    | lst q t l fr =>
      rw [e] at ho hg
      obtain ⟨azz, ex, _, _, _, k4⟩ := (ob.lst q t l fr e).2 b hi
      refine ⟨k4 (by cases fr <;> first | rfl | cases ho), by rw [hg]; intro e; cases e⟩
    | dead d =>
      rw [e] at ho hg
      have : d = true := ho
      subst this
      exact ⟨ob.dead b e hi, by rw [hg]; intro e; cases e⟩
  cases z with
  | some i =>
    cases w with
    | some j =>
      unfold apartLoc at ha
      simp only [Bool.and_eq_true, bne_iff_ne] at ha
      rcases hok.inj i j b ha.1.1 hz2 hw2 with e | e
      · exact (own i hz2 ha.1.2).2 e
      · exact (own j hw2 ha.2).2 e
    | none =>
      obtain ⟨B, hB⟩ := hw2
      rw [(own i hz2 ha).1] at hB; cases hB
  | none =>
    cases w with
    | some j =>
      obtain ⟨B, hB⟩ := hz2
      rw [(own j hw2 ha).1] at hB; cases hB
    | none => cases ha

theorem clash_sound (hr : Rel F0 H0 c s ta H) (hop : ∀ o ∈ ops.toList, opOk n ops o = true) {p : Nat × Nat} (h : clashV ops s p = true) : clashOk ops ta p = true := by
  unfold clashV at h
  unfold clashOk
  split at h
  · rename_i oi oj h1 h2
    rw [h1, h2]
    have m1 : oi ∈ ops.toList := by rw [← Array.getElem?_toList] at h1; exact List.mem_of_getElem? h1
    have m2 : oj ∈ ops.toList := by rw [← Array.getElem?_toList] at h2; exact List.mem_of_getElem? h2
    simp only [Bool.and_eq_true] at h ⊢
    obtain ⟨ha, hb⟩ := h
    constructor
    · cases e1 : wrV oi.op s.t with
      | none => rw [e1] at ha; cases ha
      | some x =>
        cases e2 : accV oj.op s.t with
        | none => rw [e1, e2] at ha; cases ha
        | some y =>
          rw [e1, e2] at ha
          exact apart_sound hr ha (wrV_sound hr.2.2 (operands_ok (hop oi m1)) e1) (accV_sound hr.2.2 (operands_ok (hop oj m2)) e2)
    · cases e1 : accV oi.op s.t with
      | none => rw [e1] at hb; cases hb
      | some x =>
        cases e2 : wrV oj.op s.t with
        | none => rw [e1, e2] at hb; cases hb
        | some y =>
          rw [e1, e2] at hb
          exact apart_sound hr hb (accV_sound hr.2.2 (operands_ok (hop oi m1)) e1) (wrV_sound hr.2.2 (operands_ok (hop oj m2)) e2)
  · cases h

/-- A region. -/
theorem vregion_sound {id : Nat} {draw : Bool} {k : VS → Prop} (he : Env G H0 c fl n ops) (hr : Rel F0 H0 c s ta H) (hop : ∀ o ∈ ops.toList, opOk n ops o = true) (hv : vregion G ops draw s k) {Q : AExit → Temps → AHeap → Prop}
    (hQ : ∀ ta' H', After F0 H0 c k ta' H' → Q .normal ta' H') : W G.P fl (.region id ops draw) ta H Q := by
  unfold vregion at hv
  split at hv
  · refine W_reg (ops.toList.map fun _ => true) [] (.inr ⟨rfl, rfl⟩) ?_
    refine D_mono ?_ (vops_sound (ops.size + 1) none ops.toList _ he hr trivial hop (fun j w d e => by cases e) hv)
    rintro t' H' ⟨hA, _⟩
    exact ⟨rfl, hQ t' H' hA⟩
  · split at hv
    · rename_i hd
      refine W_reg (flags ops (befores ops.toList #[]) 0 ops.toList) (clashes ops (befores ops.toList #[])) (.inl ⟨rfl, ?_⟩) ?_
      · unfold drawnOk
        simp only [hd, Bool.true_and]
        simp
      · refine D_mono ?_ (vops_sound (ops.size + 1) none ops.toList _ he hr trivial hop (fun j w d e => by cases e) hv)
        rintro t' H' ⟨⟨s', c', hle, hr', hk⟩, _⟩
        split at hk
        · rename_i hcl
          refine ⟨?_, hQ t' H' ⟨s', c', hle, hr', hk⟩⟩
          rw [List.all_eq_true] at hcl ⊢
          exact fun p hp => clash_sound hr' hop (hcl p hp)
        · exact hk.elim
    · exact hv.elim

end
end Go.Mach
