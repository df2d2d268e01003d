/- Code and functions: what the value machine tells, the machine does. Laws; no condition. -/
/- States told by their shape; code; functions. Laws; no condition. -/
/- Functions: what the value machine tells of one, the machine does. Laws; no condition. -/
import Derived.Test.YtajjfflbcpkokaaGreatVHav
import Derived.Test.YtajjfflbcpkokaaGreatFrame
import Derived.KernelRfl
namespace Go.Mach
set_option linter.unusedVariables false
set_option linter.unusedSimpArgs false

section
variable {G : Cfg} {F0 : Fz} {H0 : AHeap} {c c' : Ctx} {H H' : AHeap} {s : VS} {ta : Temps} {n fl : Nat} {ops : Array Oper}

/-! ### Drawn orders -/

/-- Where a value leads to. -/
def LocOf (c : Ctx) (b : Nat) : Option Nat → Prop
  | some i => c.ρ i = some b
  | none => ∃ B, c.F b = some B

theorem RL_blk {v : VV} {a : Value} (h : RL c v a) {locs : List (Option Nat)} (hl : locsV v = some locs) : ∀ b ∈ blkOf a, ∃ x ∈ locs, LocOf c b x := by
  cases v with
  | pl v =>
    obtain ⟨rfl, hp⟩ := h
    intro b hb
    cases a <;> simp only [blkOf] at hb <;> try (cases hb; done)
    case pointer x => cases x with
      | none => cases hb
      | some _ => cases hp
    case slice x _ _ => cases x with
      | none => cases hb
      | some _ => cases hp
  | own i =>
    cases hl
    intro b hb
    simp only [RL] at h
    cases hi : c.h[i]? with
    | none => rw [hi] at h; exact h.elim
    | some o =>
      rw [hi] at h
      refine ⟨some i, by simp, ?_⟩
      cases o with
      | box _ _ => exact h.elim
      | lst _ _ _ _ =>
        simp only at h
        subst h
        cases hρ : c.ρ i with
        | none => rw [hρ] at hb; cases hb
        | some b' => rw [hρ] at hb; simp [sl, blkOf] at hb; subst hb; exact hρ
      | dead _ =>
        obtain ⟨_, _, rfl⟩ := h
        cases hρ : c.ρ i with
        | none => rw [hρ] at hb; cases hb
        | some b' => rw [hρ] at hb; simp [blkOf] at hb; subst hb; exact hρ
  | ptr i off =>
    cases hl
    intro b hb
    obtain ⟨b', cs, fr, h1, h2, rfl⟩ := h
    simp [blkOf] at hb
    subst hb
    exact ⟨some i, by simp, h2⟩
  | mptr i off =>
    cases hl
    intro b hb
    rcases h with rfl | ⟨b', h1, h2, rfl⟩
    · cases hb
    · simp [blkOf] at hb
      subst hb
      exact ⟨some i, by simp, h1⟩
  | eptr i ix off =>
    cases hl
    intro b hb
    obtain ⟨b', h1, h2⟩ := h
    have : b = b' := by
      split at h2
      · obtain ⟨_, rfl⟩ := h2; simpa [blkOf] using hb
      · obtain ⟨_, rfl⟩ := h2; simpa [blkOf] using hb
      · exact h2.elim
    subst this
    exact ⟨some i, by simp, h1⟩
  | fptr o t l ix off =>
    cases hl
    intro b hb
    obtain ⟨b', q, B, x, cs, rfl, h2, _⟩ := h
    simp [blkOf] at hb
    subst hb
    exact ⟨none, by simp, B, cutF_le _ _ h2⟩
  | hof i => cases hl
  | er b => cases hl
  | bs l => exact h.elim
  | undef => cases hl
  | fz o t l => cases hl
  | agg l => exact h.elim
  | tup l => exact h.elim
  | bx l off => exact h.elim
  | fn f l => exact h.elim
  | nw t l => exact h.elim

theorem R2_blk {v : VV} {a : Value} (h : R2 c v a) {locs : List (Option Nat)} (hl : locsV v = some locs) : ∀ b ∈ blkOf a, ∃ x ∈ locs, LocOf c b x := by
  cases v
  case tup l => obtain ⟨as, rfl, _⟩ := h; intro b hb; cases hb
  case fn f l => obtain ⟨as, rfl, _⟩ := h; intro b hb; cases hb
  case agg l => obtain ⟨as, rfl, _⟩ := h; intro b hb; cases hb
  case bx l off =>
    obtain ⟨b', B, rfl, h2, _⟩ := h
    cases hl
    intro b hb
    simp [blkOf] at hb
    subst hb
    exact ⟨none, by simp, B, h2⟩
  case bs l => cases hl
  all_goals exact RL_blk (R1_leaf (fun _ e => by cases e) (fun _ _ e => by cases e) (fun _ e => by cases e) (R2_flat (fun _ e => by cases e) (fun _ _ e => by cases e) h)) hl

theorem locsAll_blk : ∀ {vs : List VV} {as : List Value}, All2 (R2 c) vs as → ∀ {locs : List (Option Nat)}, locsAll vs = some locs → ∀ b ∈ as.flatMap blkOf, ∃ x ∈ locs, LocOf c b x
  | _, _, .nil, locs, h, b, hb => by cases hb
  | v :: vs, a :: as, .cons h t, locs, hl, b, hb => by
    unfold locsAll at hl
    split at hl
    · rename_i x y h1 h2
      cases hl
      rw [List.flatMap_cons, List.mem_append] at hb
      rcases hb with hb | hb
      · obtain ⟨z, h3, h4⟩ := R2_blk h h1 b hb; exact ⟨z, List.mem_append_left _ h3, h4⟩
      · obtain ⟨z, h3, h4⟩ := locsAll_blk t h2 b hb; exact ⟨z, List.mem_append_right _ h3, h4⟩
    · cases hl

theorem accV_sound {op : Op} (ht : Tok c s.t ta) (hx : ∀ x ∈ op.operands.toList, operandOk n x = true) {locs : List (Option Nat)} (hl : accV op s.t = some locs) : ∀ b ∈ accOf op (eval ta), ∃ x ∈ locs, LocOf c b x := by
  cases op
  case load ty a => exact R2_blk (ev_rel ht (hx a (by simp [Op.operands]))) hl
  case store ty a y => exact R2_blk (ev_rel ht (hx a (by simp [Op.operands]))) hl
  case convert p d x => exact R2_blk (ev_rel ht (hx x (by simp [Op.operands]))) hl
  case call cl =>
    have hargs := args_rel ht (l := cl.args.toList) (fun x h => hx x (by simp only [Op.operands, Call.operands, Array.toList_append]; exact List.mem_append_right _ h))
    have e2 : (cl.args.map (eval ta)).toList = cl.args.toList.map (eval ta) := by simp
    simp only [accV, accOf] at hl ⊢
    cases hc : cl.callee with
    | builtin bt =>
      rw [hc] at hl
      cases bt <;> first
        | (simp only [e2]; exact locsAll_blk hargs hl)
        | (intro b hb; cases hb)
    | value f => intro b hb; cases hb
    | invoke f m => intro b hb; cases hb
  all_goals (intro b hb; cases hb)

theorem wrV_sound {op : Op} (ht : Tok c s.t ta) (hx : ∀ x ∈ op.operands.toList, operandOk n x = true) {locs : List (Option Nat)} (hl : wrV op s.t = some locs) : ∀ b ∈ wrOf op (eval ta), ∃ x ∈ locs, LocOf c b x := by
  cases op
  case store ty a y => exact R2_blk (ev_rel ht (hx a (by simp [Op.operands]))) hl
  case convert p d x =>
    rw [wrOf_conv]
    unfold wrV at hl
    simp only at hl
    by_cases hs : p = d
    · rw [if_pos hs] at hl ⊢
      exact R2_blk (ev_rel ht (hx x (by simp [Op.operands]))) hl
    · rw [if_neg hs]
      intro b hb; cases hb
  case call cl =>
    have hax : ∀ x ∈ cl.args.toList, operandOk n x = true := fun x h => hx x (by simp only [Op.operands, Call.operands, Array.toList_append]; exact List.mem_append_right _ h)
    have key : ∀ locs, (match cl.args.toList with
        | x :: _ => locsV (evV s.t x)
        | [] => some []) = some locs → ∀ b ∈ (cl.args.map (eval ta))[0]?.elim [] blkOf, ∃ x ∈ locs, LocOf c b x := by
      intro locs hl b hb
      have e3 : (cl.args.map (eval ta))[0]? = (cl.args.toList.map (eval ta))[0]? := by
        rw [← Array.getElem?_toList]; simp
      rw [e3] at hb
      split at hl
      · rename_i x l e4
        rw [e4] at hb
        exact R2_blk (ev_rel ht (hax x (by rw [e4]; exact List.mem_cons_self))) hl b (by simpa using hb)
      · rename_i e4; rw [e4] at hb; simp at hb
    simp only [wrV, wrOf] at hl ⊢
    cases hc : cl.callee with
    | builtin bt =>
      rw [hc] at hl
      cases bt <;> first
        | exact key _ hl
        | (intro b hb; cases hb)
    | value f => intro b hb; cases hb
    | invoke f m => intro b hb; cases hb
  all_goals (intro b hb; cases hb)

theorem apart_sound (hr : Rel F0 H0 c s ta H) {x y : List (Option Nat)} {xs ys : List Nat} (h : apartV s.h (some x) (some y) = true) (hx : ∀ b ∈ xs, ∃ z ∈ x, LocOf c b z) (hy : ∀ b ∈ ys, ∃ z ∈ y, LocOf c b z) : apartB xs ys = true := by
  obtain ⟨hh, hok, ht⟩ := hr
  have h : (x.all fun x => y.all fun y => apartLoc s.h x y) = true := by
    cases x with
    | nil => rfl
    | cons _ _ =>
      cases y with
      | nil => simp
      | cons _ _ => exact h
  simp only [List.all_eq_true] at h
  unfold apartB
  simp only [List.all_eq_true, bne_iff_ne]
  intro b hb b' hb' e
  subst e
  obtain ⟨z, hz, hz2⟩ := hx b hb
  obtain ⟨w, hw, hw2⟩ := hy b hb'
  have ha := h z hz w hw
  have own : ∀ i, c.ρ i = some b → apartLoc.ownB (getO s.h i) = true → c.F b = none ∧ c.h[i]? ≠ some (.dead false) := by
    intro i hi ho
    have hlt := hok.lt hi
    have hg : c.h[i]? = some (getO s.h i) := by
      rw [← hh]
      unfold getO
      rw [List.getD_eq_getElem?_getD, List.getElem?_eq_getElem hlt]; rfl
    have ob := hok.obj i _ hg
    cases e : getO s.h i with
    | box cs fr =>
      rw [e] at ho hg
      obtain ⟨b', as, k1, _, _, _, k5⟩ := ob.box cs fr e
      rw [hi] at k1; cases k1
      refine ⟨k5 (by cases fr <;> first | rfl | cases ho), by rw [hg]; intro e; cases e⟩
    | lst q t l fr =>
      rw [e] at ho hg
      obtain ⟨as, ex, _, _, _, k4⟩ := (ob.lst q t l fr e).2 b hi
      refine ⟨k4 (by cases fr <;> first | rfl | cases ho), by rw [hg]; intro e; cases e⟩
    | dead d =>
      rw [e] at ho hg
      have : d = true := ho
      subst this
      exact ⟨ob.dead b e hi, by rw [hg]; intro e; cases e⟩
  cases z with
  | some i =>
    cases w with
    | some j =>
      unfold apartLoc at ha
      simp only [Bool.and_eq_true, Bool.or_eq_true, bne_iff_ne] at ha
      have bx : ∀ i j, i ≠ j → c.ρ i = some b → c.ρ j = some b → apartLoc.boxB (getO s.h i) = true → False := fun i j hij hi hj hb => by
        have hg : c.h[i]? = some (getO s.h i) := by
          rw [← hh]
          unfold getO
          rw [List.getD_eq_getElem?_getD, List.getElem?_eq_getElem (hok.lt hi)]; rfl
        have := hok.bj i j b _ hij hi hj hg
        cases e : getO s.h i with
        | box cs fr => rw [e] at this; cases this
        | lst _ _ _ _ => rw [e] at hb; cases hb
        | dead _ => rw [e] at hb; cases hb
      rcases ha.2 with ha2 | ha2
      · rcases ha2 with e | e
        · exact bx i j ha.1 hz2 hw2 e
        · exact bx j i (fun e => ha.1 e.symm) hw2 hz2 e
      · rcases hok.inj i j b ha.1 hz2 hw2 with e | e
        · exact (own i hz2 ha2.1).2 e
        · exact (own j hw2 ha2.2).2 e
    | none =>
      obtain ⟨B, hB⟩ := hw2
      rw [(own i hz2 ha).1] at hB; cases hB
  | none =>
    cases w with
    | some j =>
      obtain ⟨B, hB⟩ := hz2
      rw [(own j hw2 ha).1] at hB; cases hB
    | none => cases ha

theorem apart_opt (hr : Rel F0 H0 c s ta H) {X Y : Option (List (Option Nat))} {xs ys : List Nat} (h : apartV s.h X Y = true) (hx : ∀ x, X = some x → ∀ b ∈ xs, ∃ z ∈ x, LocOf c b z) (hy : ∀ y, Y = some y → ∀ b ∈ ys, ∃ z ∈ y, LocOf c b z) : apartB xs ys = true := by
  cases X with
  | some x =>
    cases Y with
    | some y => exact apart_sound hr h (hx x rfl) (hy y rfl)
    | none =>
      cases x with
      | nil =>
        have : xs = [] := List.eq_nil_iff_forall_not_mem.2 fun b hb => by obtain ⟨z, hz, _⟩ := hx [] rfl b hb; cases hz
        rw [this]; rfl
      | cons _ _ => cases h
  | none =>
    cases Y with
    | none => cases h
    | some y =>
      cases y with
      | nil =>
        have : ys = [] := List.eq_nil_iff_forall_not_mem.2 fun b hb => by obtain ⟨z, hz, _⟩ := hy [] rfl b hb; cases hz
        rw [this]; unfold apartB; simp
      | cons _ _ => cases h

theorem clash_sound (hr : Rel F0 H0 c s ta H) (hop : ∀ o ∈ ops.toList, opOk n ops o = true) {p : Nat × Nat} (h : clashV ops s p = true) : clashOk ops ta p = true := by
  unfold clashV at h
  unfold clashOk
  split at h
  · rename_i oi oj h1 h2
    rw [h1, h2]
    have m1 : oi ∈ ops.toList := by rw [← Array.getElem?_toList] at h1; exact List.mem_of_getElem? h1
    have m2 : oj ∈ ops.toList := by rw [← Array.getElem?_toList] at h2; exact List.mem_of_getElem? h2
    simp only [Bool.and_eq_true] at h ⊢
    obtain ⟨ha, hb⟩ := h
    exact ⟨apart_opt hr ha (fun x e => wrV_sound hr.2.2 (operands_ok (hop oi m1)) e) (fun y e => accV_sound hr.2.2 (operands_ok (hop oj m2)) e),
      apart_opt hr hb (fun x e => accV_sound hr.2.2 (operands_ok (hop oi m1)) e) (fun y e => wrV_sound hr.2.2 (operands_ok (hop oj m2)) e)⟩
  · cases h

/-- A region. -/
theorem vregion0_sound {id : Nat} {draw : Bool} {k : VS → Prop} (he : Env G H0 c fl n ops) (hr : Rel F0 H0 c s ta H) (hop : ∀ o ∈ ops.toList, opOk n ops o = true) (hv : vregion0 G ops draw s k) {Q : AExit → Temps → AHeap → Prop}
    (hQ : ∀ ta' H', After F0 H0 c k ta' H' → Q .normal ta' H') : W G.P fl (.region id ops draw) ta H Q := by
  unfold vregion0 at hv
  split at hv
  · refine W_reg (ops.toList.map fun _ => true) [] (.inr ⟨rfl, rfl⟩) ?_
    refine D_mono ?_ (vops_sound (ops.size + 1) none ops.toList _ he hr trivial hop (fun j w d e => by cases e) hv)
    rintro t' H' ⟨hA, _⟩
    exact ⟨rfl, hQ t' H' hA⟩
  · split at hv
    · rename_i hd
      refine W_reg (flags ops (befores ops.toList #[]) 0 ops.toList) (clashes ops (befores ops.toList #[])) (.inl ⟨rfl, ?_⟩) ?_
      · unfold drawnOk
        simp only [hd, Bool.true_and]
        simp
      · refine D_mono ?_ (vops_sound (ops.size + 1) none ops.toList _ he hr trivial hop (fun j w d e => by cases e) hv)
        rintro t' H' ⟨⟨s', c', hle, hr', hk⟩, _⟩
        split at hk
        · rename_i hcl
          refine ⟨?_, hQ t' H' ⟨s', c', hle, hr', hk⟩⟩
          rw [List.all_eq_true] at hcl ⊢
          exact fun p hp => clash_sound hr' hop (hcl p hp)
        · exact hk.elim
    · exact hv.elim

theorem lastOp_eq : ∀ {l : List Oper} {p : List Oper} {o : Oper}, lastOp l = some (p, o) → l = p ++ [o]
  | [], p, o, h => by cases h
  | [x], p, o, h => by cases h; rfl
  | x :: y :: l, p, o, h => by
    simp only [lastOp] at h
    split at h
    · rename_i e; cases e
    · rename_i q z e
      cases h
      have := lastOp_eq (l := y :: l) e
      rw [this]; rfl
    · cases h

theorem flags_drop {b : Array Nat} : ∀ (p : List Oper) (i : Nat) (l : List Oper), (flags ops b i (p ++ l)).drop p.length = flags ops b (i + p.length) l
  | [], i, l => rfl
  | x :: p, i, l => by
    simp only [List.cons_append, flags, List.length_cons, List.drop_succ_cons]
    rw [flags_drop p (i + 1) l, show i + 1 + p.length = i + (p.length + 1) by omega]

def InlSound (P : Program) (J : Inl) : Prop := ∀ (g : FuncId) (args : List VV) (s : VS) (k : VV → VS → Prop), J.B g = true → J.run g args s k →
  ∀ (F0 : Fz) (H0 : AHeap) (c : Ctx) (H : AHeap) (fl : Nat) (ta : Temps) (az : List Value), Rel F0 H0 c s ta H → fl ≤ H0.length → All2 (R2 c) args az →
    WCall P fl g az.toArray H fun v H' => ∃ vv s2 c2, c2.hs = c.hs ∧ Rel F0 H0 c2 s2 ta H' ∧ R2 c2 vv v ∧ k vv s2

theorem midAt_eq {B : FuncId → Bool} : ∀ {l p : List Oper} {q : List Oper × Oper × FuncId × List Operand × List Oper}, midAt B p l = some q →
    p ++ l = q.1 ++ q.2.1 :: q.2.2.2.2 ∧ q.2.1.guard = none ∧ ∃ cl, q.2.1.op = .call cl ∧ cl.callee = .value (.func q.2.2.1) ∧ q.2.2.2.1 = cl.args.toList ∧ B q.2.2.1 = true
  | [], p, q, h => by cases h
  | o :: l, p, q, h => by
    have next : midAt B (p ++ [o]) l = some q → p ++ o :: l = q.1 ++ q.2.1 :: q.2.2.2.2 ∧ q.2.1.guard = none ∧ ∃ cl, q.2.1.op = .call cl ∧ cl.callee = .value (.func q.2.2.1) ∧ q.2.2.2.1 = cl.args.toList ∧ B q.2.2.1 = true := fun h => by
      have := midAt_eq h
      rw [List.append_assoc] at this
      exact this
    unfold midAt at h
    split at h
    · rename_i cl hg hop
      split at h
      · rename_i g hc
        split at h
        · rename_i hb
          cases h
          exact ⟨rfl, hg, cl, hop, hc, rfl, hb⟩
        · exact next h
      · exact next h
    · exact next h

theorem vmid_sound {id : Nat} {draw : Bool} {k : VS → Prop} {J : Inl} {pre post : List Oper} {o : Oper} {g' : FuncId} {args : List Operand} (he : Env G H0 c fl n ops) (hI : InlSound G.P J) (hr : Rel F0 H0 c s ta H) (hop : ∀ o ∈ ops.toList, opOk n ops o = true)
    (hm : midCall J.B ops draw = some (pre, o, g', args, post)) (hv : vops G ops (ops.size + 1) none pre s fun s1 => match goodFn G.P g' with
        | true => J.run g' (args.map (evV s1.t)) s1 fun v s2 => vops G ops (ops.size + 1) none post (VS.set s2 o.dst v) fun s' => match !draw || (clashes ops (befores ops.toList #[])).all (clashV ops s') with
          | true => k s'
          | false => False
        | false => False) {Q : AExit → Temps → AHeap → Prop}
    (hQ : ∀ ta' H' s' c', c'.hs = c.hs → Rel F0 H0 c' s' ta' H' → k s' → Q .normal ta' H') : W G.P fl (.region id ops draw) ta H Q := by
  unfold midCall at hm
  split at hm
  · cases hm
  rename_i p1 o1 g1 as1 r1 hat
  obtain ⟨hl, hg, cl, hopc, hc, has, hb⟩ := midAt_eq hat
  rw [List.nil_append] at hl
  dsimp only at hl hg hopc hc has hb
  have key : ∃ (g : List Bool) (cl : List (Nat × Nat)), ((draw = true ∧ drawnOk ops g cl = true) ∨ (draw = false ∧ g = ops.toList.map fun _ => true)) ∧ (g.drop p1.length).headD false = true ∧ some (p1, o1, g1, as1, r1) = some (pre, o, g', args, post) ∧ ((draw = false ∧ cl = []) ∨ (draw = true ∧ cl = clashes ops (befores ops.toList #[]))) := by
    split at hm
    · refine ⟨_, [], .inr ⟨rfl, rfl⟩, ?_, hm, .inl ⟨rfl, rfl⟩⟩
      rw [hl]
      simp
    · split at hm
      · rename_i hd
        simp only [Bool.and_eq_true] at hd
        obtain ⟨⟨h1, h2⟩, h3⟩ := hd
        refine ⟨flags ops (befores ops.toList #[]) 0 ops.toList, clashes ops (befores ops.toList #[]), .inl ⟨rfl, ?_⟩, ?_, hm, .inr ⟨rfl, rfl⟩⟩
        · unfold drawnOk
          simp only [h1, h2, Bool.true_and, beq_self_eq_true, Bool.and_self]
        · have e1 : flags ops (befores ops.toList #[]) 0 ops.toList = flags ops (befores ops.toList #[]) 0 (p1 ++ o1 :: r1) := by rw [← hl]
          rw [e1, flags_drop p1 0 (o1 :: r1), Nat.zero_add]
          have hk : kindOf o1.op = 4 := by rw [hopc]; simp only [kindOf, hc]
          simp only [flags, List.headD_cons, hk, h3, beq_self_eq_true, Bool.and_self]
      · cases hm
  obtain ⟨g, ch, hd, hhead, he3, hch⟩ := key
  simp only [Option.some.injEq, Prod.mk.injEq] at he3
  obtain ⟨rfl, rfl, rfl, rfl, rfl⟩ := he3
  refine W_reg g ch hd ?_
  rw [hl]
  refine WDrawn_app p1 ?_
  have hopp : ∀ x ∈ p1, opOk n ops x = true := fun x hx => hop x (by rw [hl]; exact List.mem_append_left _ hx)
  have hopo : opOk n ops o1 = true := hop o1 (by rw [hl]; simp)
  have hopr : ∀ x ∈ r1, opOk n ops x = true := fun x hx => hop x (by rw [hl]; exact List.mem_append_right _ (List.mem_cons_of_mem _ hx))
  refine D_mono ?_ (vops_sound (ops.size + 1) none p1 g he hr trivial hopp (fun j w d e => by cases e) hv)
  rintro t1 H1 ⟨⟨s1, c1, hle, hr1, hk⟩, _⟩
  show WOp G.P fl (if (g.drop p1.length).headD false then fl else H1.length) ops o1 t1 H1 fun t' H' => WDrawn G.P fl ops (g.drop p1.length).tail r1 t' H' _
  rw [hhead, if_pos rfl]
  have hw : wantedA ops t1 o1 = true := by unfold wantedA; rw [hg]
  split at hk
  case h_2 => exact hk.elim
  rename_i hgood
  have hx := (operands_ok hopo)
  rw [hopc] at hx
  have hax : ∀ x ∈ cl.args.toList, operandOk n x = true := fun x h => hx x (by simp only [Op.operands, Call.operands, Array.toList_append]; exact List.mem_append_right _ h)
  subst has
  have hargs : All2 (R2 c1) (cl.args.toList.map (evV s1.t)) (cl.args.toList.map (eval t1)) := args_rel hr1.2.2 hax
  unfold WOp
  rw [if_pos hw]
  have hp : prim G.P fl o1.op (eval t1) H1 = some (.enter g1 (cl.args.toList.map (eval t1)).toArray, H1) := by
    have : cl.args.map (eval t1) = (cl.args.toList.map (eval t1)).toArray := by apply Array.toList_inj.1; simp
    rw [hopc]
    simp only [prim, callA, hc, eval, hgood, if_true, this]
    simp
  simp only [hp]
  refine WCall.mono (hI g1 _ _ _ hb hk F0 H0 c1 H1 fl t1 _ hr1 he.fl hargs) ?_
  rintro v H' ⟨vv, s2, c2, g1, g2, g3, g4⟩
  have hr2 : Rel F0 H0 c2 (VS.set s2 o1.dst vv) _ H' := ⟨by rw [set_h]; exact g2.1, g2.2.1, Tok.put (Le.refl c2) g2.2.2 g3⟩
  refine D_mono ?_ (vops_sound (ops.size + 1) none r1 (g.drop p1.length).tail (c := c2) ⟨he.O, he.fl⟩ hr2 trivial hopr (fun j w d e => by cases e) g4)
  rintro t3 H3 ⟨⟨s3, c3, hle3, hr3, hk3⟩, _⟩
  split at hk3
  case h_2 => exact hk3.elim
  rename_i hcl
  refine ⟨?_, hQ t3 H3 s3 c3 (hle3.hs.trans (g1.trans hle.hs)) hr3 hk3⟩
  rcases hch with ⟨_, rfl⟩ | ⟨rfl, rfl⟩
  · rfl
  · simp only [Bool.not_true, Bool.false_or] at hcl
    rw [List.all_eq_true] at hcl ⊢
    exact fun p hp => clash_sound hr3 hop (hcl p hp)

theorem vregion_sound {id : Nat} {draw : Bool} {k : VS → Prop} (he : Env G H0 c fl n ops) (hI : ∀ J, G.I = some J → InlSound G.P J) (hr : Rel F0 H0 c s ta H) (hop : ∀ o ∈ ops.toList, opOk n ops o = true) (hv : vregion G ops draw s k) {Q : AExit → Temps → AHeap → Prop}
    (hQ : ∀ ta' H' s' c', c'.hs = c.hs → Rel F0 H0 c' s' ta' H' → k s' → Q .normal ta' H') : W G.P fl (.region id ops draw) ta H Q := by
  have plain : vregion0 G ops draw s k → W G.P fl (.region id ops draw) ta H Q := fun h0 =>
    vregion0_sound he hr hop h0 fun ta' H' ⟨s', c', hle, hr', hk⟩ => hQ ta' H' s' c' hle.hs hr' hk
  unfold vregion at hv
  split at hv
  · exact plain hv
  rename_i J hJ
  split at hv
  · split at hv
    · exact plain hv
    · rename_i hm
      exact vmid_sound he (hI J hJ) hr hop hm hv hQ
  rename_i pre o f args he2
  unfold endCall at he2
  split at he2
  case h_2 => cases he2
  rename_i pre' o' hlast
  have hl := lastOp_eq hlast
  split at he2
  case h_2 => cases he2
  rename_i cl hg hopc
  split at he2
  case h_2 => cases he2
  rename_i f' hc
  -- what is asked of the region's text
  have key : ∃ g : List Bool, ((draw = true ∧ drawnOk ops g [] = true) ∨ (draw = false ∧ g = ops.toList.map fun _ => true)) ∧ (g.drop pre'.length).headD false = true ∧ some (pre', o', f', cl.args.toList) = some (pre, o, f, args) := by
    split at he2
    · refine ⟨_, .inr ⟨rfl, rfl⟩, ?_, he2⟩
      rw [hl]
      simp
    · split at he2
      · rename_i hd
        simp only [Bool.and_eq_true, List.isEmpty_iff] at hd
        obtain ⟨⟨h1, h2⟩, h3⟩ := hd
        refine ⟨flags ops (befores ops.toList #[]) 0 ops.toList, .inl ⟨rfl, ?_⟩, ?_, he2⟩
        · unfold drawnOk
          simp only [h1, h2, List.all_nil, Bool.true_and, Bool.and_true, beq_self_eq_true, Bool.and_self]
        · have e1 : flags ops (befores ops.toList #[]) 0 ops.toList = flags ops (befores ops.toList #[]) 0 (pre' ++ [o']) := by rw [← hl]
          rw [e1, flags_drop pre' 0 [o'], Nat.zero_add]
          have hk : kindOf o'.op = 4 := by rw [hopc]; simp only [kindOf, hc]
          simp only [flags, List.headD_cons, hk, h3, beq_self_eq_true, Bool.and_self]
      · cases he2
  obtain ⟨g, hd, hhead, he3⟩ := key
  simp only [Option.some.injEq, Prod.mk.injEq] at he3
  obtain ⟨rfl, rfl, rfl, rfl⟩ := he3
  refine W_reg g [] hd ?_
  rw [hl]
  refine WDrawn_app pre' ?_
  have hopp : ∀ x ∈ pre', opOk n ops x = true := fun x hx => hop x (by rw [hl]; exact List.mem_append_left _ hx)
  have hopo : opOk n ops o' = true := hop o' (by rw [hl]; simp)
  refine D_mono ?_ (vops_sound (ops.size + 1) none pre' g he hr trivial hopp (fun j w d e => by cases e) hv)
  rintro t1 H1 ⟨⟨s1, c1, hle, hr1, hk⟩, _⟩
  show WOp G.P fl (if (g.drop pre'.length).headD false then fl else H1.length) ops o' t1 H1 fun t' H' => WDrawn G.P fl ops (g.drop pre'.length).tail [] t' H' _
  rw [hhead, if_pos rfl]
  have hw : wantedA ops t1 o' = true := by unfold wantedA; rw [hg]
  have fin : ∀ t' H' s' c', c'.hs = c.hs → Rel F0 H0 c' s' t' H' → k s' → WDrawn G.P fl ops (g.drop pre'.length).tail [] t' H' fun t' H' => ([] : List (Nat × Nat)).all (clashOk ops t') = true ∧ Q .normal t' H' := by
    intro t' H' s' c' h1 h2 h3
    have : ∀ gs : List Bool, WDrawn G.P fl ops gs [] t' H' fun t' H' => ([] : List (Nat × Nat)).all (clashOk ops t') = true ∧ Q .normal t' H' := by
      intro gs
      cases gs <;> exact ⟨rfl, hQ t' H' s' c' h1 h2 h3⟩
    exact this _
  have hfl1 : fl ≤ H1.length := Nat.le_trans he.fl hr1.2.1.pre.len
  have one : vstep G o' s1 k → WOp G.P fl fl ops o' t1 H1 fun t' H' => WDrawn G.P fl ops (g.drop pre'.length).tail [] t' H' fun t' H' => ([] : List (Nat × Nat)).all (clashOk ops t') = true ∧ Q .normal t' H' := fun hv1 =>
    vstep_sound (he.le hle) hr1 hopo hw hv1 hfl1 fun t' H' _ _ ⟨s', c', hle', hr', hk'⟩ => fin t' H' s' c' (hle'.hs.trans hle.hs) hr' hk'
  split at hk
  · rename_i g' caps hev
    split at hk
    · rename_i hb
      simp only [Bool.and_eq_true] at hb
      have hx := (operands_ok hopo)
      rw [hopc] at hx
      have hfx : operandOk n f' = true := hx f' (by simp only [Op.operands, Call.operands, hc]; simp)
      have hax : ∀ x ∈ cl.args.toList, operandOk n x = true := fun x h => hx x (by simp only [Op.operands, Call.operands, Array.toList_append]; exact List.mem_append_right _ h)
      have hf := ev_rel hr1.2.2 hfx
      rw [hev] at hf
      obtain ⟨cp, e1, hcp⟩ := hf
      have hargs : All2 (R2 c1) (cl.args.toList.map (evV s1.t) ++ caps) (cl.args.toList.map (eval t1) ++ cp) := (args_rel hr1.2.2 hax).app (hcp.mono fun v a h => R1_R2 h)
      unfold WOp
      rw [if_pos hw]
      have hp : prim G.P fl o'.op (eval t1) H1 = some (.enter g' (cl.args.toList.map (eval t1) ++ cp).toArray, H1) := by
        have : cl.args.map (eval t1) = (cl.args.toList.map (eval t1)).toArray := by apply Array.toList_inj.1; simp
        rw [hopc]
        simp only [prim, callA, hc, e1, hb.2, if_true, this]
        simp
      simp only [hp]
      refine WCall.mono (hI J hJ g' _ _ _ hb.1 hk F0 H0 c1 H1 fl t1 _ hr1 he.fl hargs) ?_
      rintro v H' ⟨vv, s2, c2, g1, g2, g3, g4⟩
      exact fin _ _ _ c2 (g1.trans hle.hs) ⟨by rw [set_h]; exact g2.1, g2.2.1, Tok.put (Le.refl c2) g2.2.2 g3⟩ g4
    · exact one hk
  · exact one hk

theorem inB_at {cells : List Value} {q : Nat} {v : Value} (h : InB cells q 1 [v]) : cells[q]? = some v := by
  obtain ⟨h1, h2⟩ := h
  have hlt : q < cells.length := by omega
  rw [List.drop_eq_getElem_cons hlt, List.take_succ_cons, List.take_zero] at h2
  simp only [List.cons.injEq, and_true] at h2
  rw [List.getElem?_eq_getElem hlt, h2]

theorem vregionH_sound {id : Nat} {draw : Bool} {live : List Nat} {k : VS → Prop} (he : Env G H0 c fl n ops) (hI : ∀ J, G.I = some J → InlSound G.P J) (hr : Rel F0 H0 c s ta H) (hop : ∀ o ∈ ops.toList, opOk n ops o = true) (hv : vregionH G ops draw live s k) {Q : AExit → Temps → AHeap → Prop}
    (hQ : ∀ ta' H' s' c', c'.hs = c.hs → Rel F0 H0 c' s' ta' H' → k s' → Q .normal ta' H') : W G.P fl (.region id ops draw) ta H Q := by
  unfold vregionH at hv
  split at hv
  · exact vregion_sound he hI hr hop hv hQ
  split at hv
  · exact vregion_sound he hI hr hop hv hQ
  rename_i pre o ty a x he2
  unfold endStore at he2
  split at he2
  case h_2 => cases he2
  rename_i pre' o' hlast
  have hl := lastOp_eq hlast
  split at he2
  case h_2 => cases he2
  rename_i ty' a' x' hg hdst hopc
  have key : ∃ g : List Bool, ((draw = true ∧ drawnOk ops g [] = true) ∨ (draw = false ∧ g = ops.toList.map fun _ => true)) ∧ some (pre', o', ty', a', x') = some (pre, o, ty, a, x) := by
    split at he2
    · exact ⟨_, .inr ⟨rfl, rfl⟩, he2⟩
    · split at he2
      · rename_i hd
        simp only [Bool.and_eq_true, List.isEmpty_iff] at hd
        obtain ⟨h1, h2⟩ := hd
        refine ⟨flags ops (befores ops.toList #[]) 0 ops.toList, .inl ⟨rfl, ?_⟩, he2⟩
        unfold drawnOk
        simp only [h1, h2, List.all_nil, Bool.true_and, Bool.and_true, beq_self_eq_true, Bool.and_self]
      · cases he2
  obtain ⟨g, hd, he3⟩ := key
  simp only [Option.some.injEq, Prod.mk.injEq] at he3
  obtain ⟨rfl, rfl, rfl, rfl, rfl⟩ := he3
  refine W_reg g [] hd ?_
  rw [hl]
  refine WDrawn_app pre' ?_
  have hopp : ∀ x ∈ pre', opOk n ops x = true := fun x hx => hop x (by rw [hl]; exact List.mem_append_left _ hx)
  have hopo : opOk n ops o' = true := hop o' (by rw [hl]; simp)
  refine D_mono ?_ (vops_sound (ops.size + 1) none pre' g he hr trivial hopp (fun j w d e => by cases e) hv)
  rintro t1 H1 ⟨⟨s1, c1, hle, hr1, hk⟩, _⟩
  show WOp G.P fl (if (g.drop pre'.length).headD false then fl else H1.length) ops o' t1 H1 fun t' H' => WDrawn G.P fl ops (g.drop pre'.length).tail [] t' H' _
  have hw : wantedA ops t1 o' = true := by unfold wantedA; rw [hg]
  have fin : ∀ t' H' s' c', c'.hs = c.hs → Rel F0 H0 c' s' t' H' → k s' → WDrawn G.P fl ops (g.drop pre'.length).tail [] t' H' fun t' H' => ([] : List (Nat × Nat)).all (clashOk ops t') = true ∧ Q .normal t' H' := by
    intro t' H' s' c' h1 h2 h3
    have : ∀ gs : List Bool, WDrawn G.P fl ops gs [] t' H' fun t' H' => ([] : List (Nat × Nat)).all (clashOk ops t') = true ∧ Q .normal t' H' := by
      intro gs
      cases gs <;> exact ⟨rfl, hQ t' H' s' c' h1 h2 h3⟩
    exact this _
  have hfl1 : fl ≤ H1.length := Nat.le_trans he.fl hr1.2.1.pre.len
  have hflc : (if (g.drop pre'.length).headD false then fl else H1.length) ≤ H1.length := by split <;> omega
  have one : vstep G o' s1 k → WOp G.P fl (if (g.drop pre'.length).headD false then fl else H1.length) ops o' t1 H1 fun t' H' => WDrawn G.P fl ops (g.drop pre'.length).tail [] t' H' fun t' H' => ([] : List (Nat × Nat)).all (clashOk ops t') = true ∧ Q .normal t' H' := fun hv1 =>
    vstep_sound (he.le hle) hr1 hopo hw hv1 hflc fun t' H' _ _ ⟨s', c', hle', hr', hk'⟩ => fin t' H' s' c' (hle'.hs.trans hle.hs) hr' hk'
  split at hk
  · rename_i kd l ix kd' v ha hx
    split at hk
    case isFalse => exact hk.elim
    rename_i hc
    obtain ⟨rfl, hsz⟩ := hc
    have hxs := operands_ok hopo
    rw [hopc] at hxs
    have hax : operandOk n a' = true := hxs a' (by simp [Op.operands])
    have hxx : operandOk n x' = true := hxs x' (by simp [Op.operands])
    have h1 := ev_rel hr1.2.2 hax
    have h2 := ev_rel hr1.2.2 hxx
    rw [ha] at h1
    rw [hx] at h2
    obtain ⟨b, q, B, y, cs, e1, e2, e3, e4, e5⟩ := R2_fptr h1
    obtain ⟨e6, _⟩ := R2_pl h2
    have e5 : cs = [.int kd y] := e5
    subst e5
    have hq := inB_at e4
    have hb : c1.n0 ≤ b := by
      unfold cutF at e2
      split at e2
      · cases e2
      · rename_i hn; simp at hn; exact hn
    have hF : c1.F b = some B := cutF_le _ _ e2
    have hbk := hr1.2.1.fz b B hF
    have hn0 := hr1.2.1.n0
    have hqlt : q < B.cells.length := (List.getElem?_eq_some_iff.1 hq).1
    have hsb : storeB G.P ty' B (q + 0) (eval t1 x') = some { B with cells := B.cells.set q (.int kd v) } := by
      unfold storeB
      rw [e6]
      rw [if_pos ⟨hsz, by show q + 0 + 1 ≤ _; omega, rfl⟩]
      rfl
    obtain ⟨H', f1, f2, f3⟩ := store_blk (P := G.P) (fl := fl) hbk (by have := he.fl; omega) hsb
    unfold WOp
    rw [if_pos hw]
    have hp : prim G.P fl o'.op (eval t1) H1 = some (.skip, H') := by
      rw [hopc]
      simp only [prim, e1, f1, Option.map_some]
    simp only [hp]
    rw [hdst]
    show WDrawn G.P fl ops (g.drop pre'.length).tail [] t1 H' _
    obtain ⟨s2, c2, k1, k2, k3⟩ := hvS_sound hr1 hb hF rfl (.inr ⟨q, y, hq, rfl⟩) f3 f2 hk
    exact fin _ _ _ c2 (k1.trans hle.hs) k2 k3
  · exact one hk

end
end Go.Mach

namespace Go.Mach
set_option linter.unusedVariables false
set_option linter.unusedSimpArgs false

section
variable {G : Cfg} {F0 : Fz} {H0 : AHeap} {c c' : Ctx} {H H' : AHeap} {s : VS} {ta : Temps} {n fl : Nat} {ops : Array Oper}

/-! ### Cleaned -/

theorem reachF_nodup : ∀ (n : Nat) {h : List VO} {todo acc : List Nat}, acc.Nodup → (reachF n h todo acc).Nodup
  | 0, h, todo, acc, hn => hn
  | n + 1, h, [], acc, hn => hn
  | n + 1, h, i :: todo, acc, hn => by
    unfold reachF
    split
    · exact reachF_nodup n hn
    · rename_i hc
      refine reachF_nodup n ?_
      rw [List.nodup_append]
      refine ⟨hn, by simp, ?_⟩
      intro a ha b hb e
      rw [List.mem_singleton] at hb
      subst hb; subst e
      have : acc.contains a = true := by simpa using ha
      rw [this] at hc; cases hc

theorem indexOf_get : ∀ {ids : List Nat} {i n j : Nat}, indexOf' i ids n = some j → n ≤ j ∧ ids[j - n]? = some i
  | [], i, n, j, h => by cases h
  | x :: ids, i, n, j, h => by
    unfold indexOf' at h
    split at h
    · rename_i e; cases h; subst e; exact ⟨Nat.le_refl _, by simp⟩
    · obtain ⟨h1, h2⟩ := indexOf_get h
      refine ⟨by omega, ?_⟩
      rw [show j - n = (j - (n + 1)) + 1 by omega, List.getElem?_cons_succ]
      exact h2

def cleanC (c : Ctx) (ids : List Nat) : Ctx := ⟨c.n0, c.F, fun j => (ids[j]?).bind c.ρ, ids.map fun i => renO ids (getO c.h i), c.hs⟩

theorem clean_get {ids : List Nat} {i j : Nat} (h : indexOf' i ids 0 = some j) : (cleanC c ids).ρ j = c.ρ i ∧ (cleanC c ids).h[j]? = some (renO ids (getO c.h i)) := by
  have := (indexOf_get h).2
  rw [Nat.sub_zero] at this
  refine ⟨?_, ?_⟩
  · show (ids[j]?).bind c.ρ = _
    rw [this]; rfl
  · show (ids.map _)[j]? = _
    rw [List.getElem?_map, this]; rfl

theorem renL_rel (ids : List Nat) {v : VV} {a : Value} (h : RL c v a) : RL (cleanC c ids) (renL ids v) a := by
  cases v with
  | pl v => exact h
  | fz o t l => exact h
  | fptr o t l ix off => exact h
  | hof i => exact h
  | mptr i off => trivial
  | er b => exact h
  | bs l => exact h.elim
  | own i =>
    unfold renL
    simp only
    split
    · rename_i j hj
      obtain ⟨k1, k2⟩ := clean_get (c := c) hj
      simp only [RL] at h ⊢
      rw [k1, k2]
      cases hi : c.h[i]? with
      | none => rw [hi] at h; exact h.elim
      | some o =>
        rw [hi] at h
        rw [getO_of hi]
        cases o <;> exact h
    · trivial
  | ptr i off =>
    unfold renL
    simp only
    split
    · rename_i j hj
      obtain ⟨k1, k2⟩ := clean_get (c := c) hj
      obtain ⟨b, cs, fr, h1, h2, h3⟩ := h
      rw [getO_of h1] at k2
      exact ⟨b, _, fr, k2, k1.trans h2, h3⟩
    · trivial
  | eptr i ix off =>
    unfold renL
    simp only
    split
    · rename_i j hj
      obtain ⟨k1, k2⟩ := clean_get (c := c) hj
      obtain ⟨b, h1, h2⟩ := h
      refine ⟨b, k1.trans h1, ?_⟩
      rw [k2]
      cases hi : c.h[i]? with
      | none => rw [hi] at h2; exact h2.elim
      | some o =>
        rw [hi] at h2
        rw [getO_of hi]
        cases o <;> exact h2
    · trivial
  | undef => trivial
  | agg l => exact h.elim
  | tup l => exact h.elim
  | bx l off => exact h.elim
  | fn f l => exact h.elim
  | nw t l => exact h.elim

theorem ren1_rel (ids : List Nat) {v : VV} {a : Value} (h : R1 c v a) : R1 (cleanC c ids) (ren1 ids v) a := by
  cases v
  case agg l => obtain ⟨as, h1, h2⟩ := h; exact ⟨as, h1, h2.mapL fun v a h => renL_rel ids h⟩
  case bx l off => obtain ⟨b, B, h1, h2, h3⟩ := h; exact ⟨b, B, h1, h2, h3.mapL fun v a h => renL_rel ids h⟩
  case bs l => obtain ⟨b, B, k, h1, h2, h4, h3⟩ := h; exact ⟨b, B, k, by simpa using h1, h2, h4, h3.mapL fun v a h => renL_rel ids h⟩
  all_goals exact RL_R1 (renL_rel ids (R1_leaf (fun _ e => by cases e) (fun _ _ e => by cases e) (fun _ e => by cases e) h))

theorem ren2_rel (ids : List Nat) {v : VV} {a : Value} (h : R2 c v a) : R2 (cleanC c ids) (ren2 ids v) a := by
  cases v
  case tup l => obtain ⟨as, h1, h2⟩ := h; exact ⟨as, h1, h2.mapL fun v a h => ren1_rel ids h⟩
  case fn f l => obtain ⟨as, h1, h2⟩ := h; exact ⟨as, h1, h2.mapL fun v a h => ren1_rel ids h⟩
  all_goals exact R1_R2 (ren1_rel ids (R2_flat (fun _ e => by cases e) (fun _ _ e => by cases e) h))

theorem Ok.clean (h : Ok F0 H0 c H) {ids : List Nat} (hn : ids.Nodup) : Ok F0 H0 (cleanC c ids) H where
  n0 := h.n0
  pre := h.pre
  fz := h.fz
  low := h.low
  obj := fun j o hj => by
    have hj : (ids.map fun i => renO ids (getO c.h i))[j]? = some o := hj
    rw [List.getElem?_map] at hj
    cases e : ids[j]? with
    | none => rw [e] at hj; cases hj
    | some i =>
      rw [e] at hj
      have hj : renO ids (getO c.h i) = o := by simpa using hj
      subst hj
      have hρ : (cleanC c ids).ρ j = c.ρ i := by show (ids[j]?).bind c.ρ = _; rw [e]; rfl
      cases hi : c.h[i]? with
      | none =>
        have hg : getO c.h i = .dead false := by unfold getO; rw [List.getD_eq_getElem?_getD, hi]; rfl
        have hnone : c.ρ i = none := h.dom i (List.getElem?_eq_none_iff.1 hi)
        rw [hg]
        exact {
          lo := fun b e => by rw [hρ, hnone] at e; cases e
          box := fun _ _ e => (by cases e)
          lst := fun _ _ _ _ e => (by cases e)
          dead := fun _ e => (by cases e) }
      | some o =>
        rw [getO_of hi]
        have ob := h.obj i o hi
        exact {
          lo := fun b e => ob.lo b (by rw [← hρ]; exact e)
          box := fun cs fr e => by
            cases o with
            | box cs' fr' =>
              cases e
              obtain ⟨b, as, k1, k2, k3, k4⟩ := ob.box _ _ rfl
              exact ⟨b, as, hρ.trans k1, k2, k3.mapL fun v a h => renL_rel ids h, k4⟩
            | lst _ _ _ _ => cases e
            | dead _ => cases e
          lst := fun q t l fr e => by
            cases o with
            | box cs' fr' => cases e
            | dead _ => cases e
            | lst q' t' l' fr' => rw [hρ]; exact ob.lst q t l fr e
          dead := fun b e e' => by
            cases o with
            | box cs' fr' => cases e
            | lst _ _ _ _ => cases e
            | dead x => exact ob.dead b e (by rw [← hρ]; exact e') }
  inj := fun i j b hij hi hj => by
    have hi : (ids[i]?).bind c.ρ = some b := hi
    have hj : (ids[j]?).bind c.ρ = some b := hj
    show (ids.map fun i => renO ids (getO c.h i))[i]? = _ ∨ (ids.map fun i => renO ids (getO c.h i))[j]? = _
    rw [List.getElem?_map, List.getElem?_map]
    cases e1 : ids[i]? with
    | none => rw [e1] at hi; cases hi
    | some x =>
      cases e2 : ids[j]? with
      | none => rw [e2] at hj; cases hj
      | some y =>
        rw [e1] at hi
        rw [e2] at hj
        have hxy : x ≠ y := by
          intro e
          subst e
          have h1 := List.getElem?_eq_some_iff.1 e1
          have h2 := List.getElem?_eq_some_iff.1 e2
          obtain ⟨l1, g1⟩ := h1
          obtain ⟨l2, g2⟩ := h2
          have hp := List.pairwise_iff_getElem.1 hn
          rcases Nat.lt_trichotomy i j with hlt | he | hlt
          · exact hp i j l1 l2 hlt (g1.trans g2.symm)
          · exact hij he
          · exact hp j i l2 l1 hlt (g2.trans g1.symm)
        rcases h.inj x y b hxy hi hj with e | e
        · left; simp only [Option.map_some, getO_of e]; rfl
        · right; simp only [Option.map_some, getO_of e]; rfl
  bj := fun i j b o hij hi hj ho => by
    have hi : (ids[i]?).bind c.ρ = some b := hi
    have hj : (ids[j]?).bind c.ρ = some b := hj
    have ho : (ids.map fun i => renO ids (getO c.h i))[i]? = some o := ho
    rw [List.getElem?_map] at ho
    cases e1 : ids[i]? with
    | none => rw [e1] at hi; cases hi
    | some x =>
      cases e2 : ids[j]? with
      | none => rw [e2] at hj; cases hj
      | some y =>
        rw [e1] at hi ho
        rw [e2] at hj
        have hxy : x ≠ y := by
          intro e
          subst e
          obtain ⟨l1, g1⟩ := List.getElem?_eq_some_iff.1 e1
          obtain ⟨l2, g2⟩ := List.getElem?_eq_some_iff.1 e2
          have hp := List.pairwise_iff_getElem.1 hn
          rcases Nat.lt_trichotomy i j with hlt | he | hlt
          · exact hp i j l1 l2 hlt (g1.trans g2.symm)
          · exact hij he
          · exact hp j i l2 l1 hlt (g2.trans g1.symm)
        simp only [Option.map_some, Option.some.injEq] at ho
        subst ho
        cases hx : c.h[x]? with
        | none =>
          have hg : getO c.h x = .dead false := by unfold getO; rw [List.getD_eq_getElem?_getD, hx]; rfl
          rw [hg]; rfl
        | some p =>
          rw [getO_of hx]
          have := h.bj x y b p hxy hi hj hx
          cases p with
          | box _ _ => cases this
          | lst _ _ _ _ => rfl
          | dead _ => rfl
  dom := fun j hj => by
    have hj : (ids.map fun i => renO ids (getO c.h i)).length ≤ j := hj
    rw [List.length_map] at hj
    show (ids[j]?).bind c.ρ = none
    rw [List.getElem?_eq_none_iff.2 hj]; rfl

theorem zipT_look {R : VV → Value → Prop} (hu : ∀ a, R .undef a) : ∀ (live : List Nat) (vs : List VV) {ta : Temps}, All2 R vs (live.map ta) → ∀ d, R (lookV (zipT live vs) d) (ta d)
  | [], vs, ta, h, d => by cases h; exact hu _
  | x :: live, [], ta, h, d => by cases h
  | x :: live, v :: vs, ta, h, d => by
    cases h with
    | cons h t =>
      show R (if x = d then v else lookV (zipT live vs) d) (ta d)
      split
      · rename_i e; subst e; exact h
      · exact zipT_look hu live vs t d

theorem mapv_rel {R : VV → Value → Prop} {f : Nat → VV} {ta : Temps} (h : ∀ d, R (f d) (ta d)) : ∀ live : List Nat, All2 R (live.map f) (live.map ta)
  | [] => .nil
  | x :: l => .cons (h x) (mapv_rel h l)

/-- The state cleaned stands for the same. -/
theorem clean_sound (hr : Rel F0 H0 c s ta H) (live : List Nat) : ∃ c', c'.hs = c.hs ∧ c'.n0 = c.n0 ∧ c'.h = (cleanV live s).2 ∧ Ok F0 H0 c' H ∧ All2 (R2 c') (cleanV live s).1 (live.map ta) := by
  obtain ⟨hh, hok, ht⟩ := hr
  have hn := reachF_nodup (2 * s.h.length + 40) (h := s.h) (todo := (live.map (lookV s.t)).flatMap ids2) (acc := []) List.nodup_nil
  refine ⟨cleanC c (reachF (2 * s.h.length + 40) s.h ((live.map (lookV s.t)).flatMap ids2) []), rfl, rfl, ?_, hok.clean hn, ?_⟩
  · show (List.map _ _) = _
    rw [hh]; rfl
  · show All2 _ ((live.map (lookV s.t)).map _) _
    rw [List.map_map]
    exact mapv_rel (fun d => ren2_rel _ (ht d)) live

/-! ### Shapes -/

theorem sameL_eq {a b : VV} (h : sameL a b = true) : a = b := by
  unfold sameL at h
  split at h <;> first
    | (simp only [Bool.and_eq_true, beq_iff_eq, decide_eq_true_eq] at h; first | (obtain ⟨rfl, rfl⟩ := h; rfl) | (subst h; rfl))
    | rfl
    | cases h
theorem sameLs_eq : ∀ {a b : List VV}, sameLs a b = true → a = b
  | [], [], _ => rfl
  | [], _ :: _, h => by cases h
  | _ :: _, [], h => by cases h
  | a :: l, b :: r, h => by
    unfold sameLs at h
    simp only [Bool.and_eq_true] at h
    rw [sameL_eq h.1, sameLs_eq h.2]
theorem sameV_eq {a b : VV} (h : sameV a b = true) : a = b := by
  unfold sameV at h
  split at h
  · simp only [Bool.and_eq_true, beq_iff_eq] at h
    rw [h.1, sameLs_eq h.2]
  · exact sameL_eq h

theorem unF_sound {x : Lf} {v : VV} {K : x.den → Prop} (h : unF x v K) : ∃ d, v = packF x d ∧ K d := by
  unfold unF at h
  split at h
  · split at h
    · split at h
      · rename_i e; subst e; exact ⟨_, rfl, h⟩
      · exact h.elim
    · exact h.elim
  · split at h
    · exact ⟨_, rfl, h⟩
    · exact h.elim
  · split at h
    · exact ⟨_, rfl, h⟩
    · exact h.elim
  · split at h
    · rename_i x; exact ⟨x, rfl, h⟩
    · exact h.elim
  · split at h
    · rename_i a b; exact ⟨(a, b), rfl, h⟩
    · exact h.elim
  · split at h
    · split at h
      · rename_i e
        subst e
        obtain ⟨e, h⟩ := Ty.at_inv h
        subst e
        exact ⟨_, rfl, h⟩
      · exact h.elim
    · exact h.elim
  · split at h
    · rename_i e; exact ⟨(), (sameV_eq e).symm, h⟩
    · exact h.elim
  · split at h
    · split at h
      · rename_i e
        subst e
        obtain ⟨e, h⟩ := Ty.at_inv h
        subst e
        dsimp only at h
        split at h
        · exact ⟨_, rfl, h⟩
        · exact h.elim
      · exact h.elim
    · exact h.elim
theorem unL_sound : ∀ {l : List Lf} {vs : List VV} {K : denL l → Prop}, unL l vs K → ∃ d, vs = packL l d ∧ K d
  | [], vs, K, h => by
    unfold unL at h
    split at h
    · exact ⟨(), rfl, h⟩
    · exact h.elim
  | x :: l, vs, K, h => by
    unfold unL at h
    split at h
    · obtain ⟨a, rfl, h1⟩ := unF_sound h
      obtain ⟨b, rfl, h2⟩ := unL_sound h1
      exact ⟨(a, b), rfl, h2⟩
    · exact h.elim
theorem unCp_sound {x : Cp} {v : VV} {K : x.den → Prop} (h : unCp x v K) : ∃ d, v = packCp x d ∧ K d := by
  unfold unCp at h
  split at h
  · exact unF_sound h
  · split at h
    · obtain ⟨d, rfl, h1⟩ := unL_sound h; exact ⟨d, rfl, h1⟩
    · exact h.elim
  · split at h
    · obtain ⟨d, rfl, h1⟩ := unL_sound h; exact ⟨d, rfl, h1⟩
    · exact h.elim
theorem unC_sound : ∀ {l : List Cp} {vs : List VV} {K : denC l → Prop}, unC l vs K → ∃ d, vs = packC l d ∧ K d
  | [], vs, K, h => by
    unfold unC at h
    split at h
    · exact ⟨(), rfl, h⟩
    · exact h.elim
  | x :: l, vs, K, h => by
    unfold unC at h
    split at h
    · obtain ⟨a, rfl, h1⟩ := unCp_sound h
      obtain ⟨b, rfl, h2⟩ := unC_sound h1
      exact ⟨(a, b), rfl, h2⟩
    · exact h.elim
theorem unSh_sound {x : Sh} {v : VV} {K : x.den → Prop} (h : unSh x v K) : ∃ d, v = packSh x d ∧ K d := by
  unfold unSh at h
  split at h
  · exact unF_sound h
  · split at h
    · obtain ⟨d, rfl, h1⟩ := unL_sound h; exact ⟨d, rfl, h1⟩
    · exact h.elim
  · split at h
    · obtain ⟨d, rfl, h1⟩ := unL_sound h; exact ⟨d, rfl, h1⟩
    · exact h.elim
  · split at h
    · split at h
      · rename_i e
        subst e
        obtain ⟨d, rfl, h1⟩ := unC_sound h; exact ⟨d, rfl, h1⟩
      · exact h.elim
    · exact h.elim
theorem unS_sound : ∀ {l : List Sh} {vs : List VV} {K : denS l → Prop}, unS l vs K → ∃ d, vs = packS l d ∧ K d
  | [], vs, K, h => by
    unfold unS at h
    split at h
    · exact ⟨(), rfl, h⟩
    · exact h.elim
  | x :: l, vs, K, h => by
    unfold unS at h
    split at h
    · obtain ⟨a, rfl, h1⟩ := unSh_sound h
      obtain ⟨b, rfl, h2⟩ := unS_sound h1
      exact ⟨(a, b), rfl, h2⟩
    · exact h.elim
theorem unOb_sound {x : OSh} {v : VO} {K : x.den → Prop} (h : unOb x v K) : ∃ d, v = packOb x d ∧ K d := by
  unfold unOb at h
  split at h
  · split at h
    · split at h
      · rename_i e; subst e; obtain ⟨d, rfl, h1⟩ := unL_sound h; exact ⟨d, rfl, h1⟩
      · exact h.elim
    · exact h.elim
  · split at h
    · split at h
      · rename_i e
        obtain ⟨rfl, rfl⟩ := e
        obtain ⟨e, h⟩ := Ty.at_inv h
        subst e
        exact ⟨_, rfl, h⟩
      · exact h.elim
    · exact h.elim
  · split at h
    · exact ⟨(), rfl, h⟩
    · exact h.elim
theorem unO_sound : ∀ {l : List OSh} {vs : List VO} {K : denO l → Prop}, unO l vs K → ∃ d, vs = packO l d ∧ K d
  | [], vs, K, h => by
    unfold unO at h
    split at h
    · exact ⟨(), rfl, h⟩
    · exact h.elim
  | x :: l, vs, K, h => by
    unfold unO at h
    split at h
    · obtain ⟨a, rfl, h1⟩ := unOb_sound h
      obtain ⟨b, rfl, h2⟩ := unO_sound h1
      exact ⟨(a, b), rfl, h2⟩
    · exact h.elim

/-- Some context. -/
def RelE (F0 : Fz) (H0 : AHeap) (hs : Nat → Value → Prop) (s : VS) (ta : Temps) (H : AHeap) : Prop := ∃ c, c.hs = hs ∧ Rel F0 H0 c s ta H

theorem tidy_sound {hs : Nat → Value → Prop} (hr : RelE F0 H0 hs s ta H) (live : List Nat) : RelE F0 H0 hs (tidy live s) ta H := by
  obtain ⟨c, hc, hr⟩ := hr
  obtain ⟨c', h1, h2, h3, h4, h5⟩ := clean_sound hr live
  exact ⟨c', h1.trans hc, h3, h4, zipT_look (fun _ => trivial) live _ h5⟩
theorem frz_conv {i : Nat} {q : Bool} {T : Ty} {l : List T.den} {fr : Bool} {a : Value} (hok : Ok F0 H0 c H) (hi : getO c.h i = .lst q T l fr) (hr : RL c (.own i) a) :
    ∃ c', Le c c' ∧ c'.hs = c.hs ∧ c'.h = freeze c.h [i] ∧ Ok F0 H0 c' H ∧ RL c' (.fz q T l) a := by
  obtain ⟨c1, k1, k2, kn, kρ, k3, k4⟩ := hok.freezes [i]
  refine ⟨c1, k1, k1.hs, k2, k3, ?_⟩
  have hl : RL c1 (resolve c.h (.own i)) a := resolve_rel hok k1 kρ hr fun j hj => k4 j (by simpa [ownsL] using hj)
  have hres : resolve c.h (.own i) = .fz q T l := by unfold resolve; simp only [hi]
  rw [hres] at hl
  exact hl

theorem fzA {q : Bool} {T : Ty} {l : List T.den} {a : Value} (h : RL c (.fz q T l) a) : RL c (.fz false T l) a := by
  obtain ⟨ad, k, h1, h2⟩ := h
  have hext : (cutF q c.n0 c.F).ext (cutF false c.n0 c.F) := RT_weak (fun e => by cases e)
  exact ⟨ad, k, h1, h2.mono hext (RT.mono hext T)⟩

theorem vconv_sound {fz : Bool} {T : Ty} {v v' : VV} {h' : List VO} {a : Value} (hok : Ok F0 H0 c H) (hr : RL c v a) (hc : conv fz T c.h v = some (v', h')) : ∃ c', Le c c' ∧ c'.h = h' ∧ Ok F0 H0 c' H ∧ RL c' v' a := by
  unfold conv at hc
  split at hc
  · cases hc
    obtain ⟨rfl, _⟩ := hr
    exact ⟨_, addC_le _ _, rfl, hok.addNil true T (Pre.refl H), R2_topl (c := c) (a := none) (q := true) (l := ([] : List T.den)) rfl⟩
  · cases hc
    obtain ⟨rfl, _⟩ := hr
    exact ⟨c, Le.refl c, rfl, hok, none, _, rfl, ⟨Nat.zero_le _, .inl rfl⟩⟩
  · split at hc
    · rename_i hg
      cases hc
      obtain ⟨c', h1, h2, h3, h4, h5⟩ := frz_conv hok hg hr
      exact ⟨c', h1, h3, h4, fzA h5⟩
    · cases hc
  · cases hc
    exact ⟨c, Le.refl c, rfl, hok, fzA hr⟩
  · cases hc

theorem R2_RL {v : VV} {a : Value} {fz : Bool} {T : Ty} {h : List VO} {r : VV × List VO} (hc : conv fz T h v = some r) (hr : R2 c v a) : RL c v a := by
  unfold conv at hc
  split at hc
  · exact hr
  · exact hr
  · exact hr
  · exact hr
  · cases hc

theorem conv_get {fz : Bool} {T : Ty} {h h' : List VO} {v v' : VV} (hc : conv fz T h v = some (v', h')) {i : Nat} {cs : List VV} {fr : Bool} (hi : h[i]? = some (.box cs fr)) (hv : ∀ j, v = .own j → j ≠ i) : h'[i]? = some (.box cs fr) := by
  unfold conv at hc
  split at hc
  · cases hc; rw [List.getElem?_append_left (ltl_of_get hi)]; exact hi
  · cases hc; exact hi
  · rename_i j
    split at hc
    · cases hc
      show (h.set j (frozenO (getO h j)))[i]? = _
      rw [List.getElem?_set_ne (hv j rfl)]; exact hi
    · cases hc
  · cases hc; exact hi
  · cases hc

theorem co1_sound {hs : Nat → Value → Prop} (co : Co) (hr : RelE F0 H0 hs s ta H) : RelE F0 H0 hs (co1 s co) ta H := by
  obtain ⟨c, hc, hh, hok, ht⟩ := hr
  unfold co1
  split
  · split
    · rename_i v h' hcv
      rw [← hh] at hcv
      have hd := ht co.d
      obtain ⟨c', h1, h2, h3, h4⟩ := vconv_sound hok (R2_RL hcv hd) hcv
      refine ⟨c', h1.hs.trans hc, h2, h3, ?_⟩
      intro i
      show R2 c' (if co.d = i then v else lookV s.t i) _
      split
      · rename_i e; subst e; exact R1_R2 (RL_R1 h4)
      · exact R2.mono h1 _ _ (ht i)
    · exact ⟨c, hc, hh, hok, ht⟩
  · rename_i q hq
    split
    · rename_i i off hl
      split
      · rename_i cs fr hg
        split
        · rename_i u hu
          split
          · rename_i v h' hcv
            rw [← hh] at hcv hg
            have hi := getO_get hg (by intro e; cases e)
            obtain ⟨b, as, k1, k2, k3, k4, k5⟩ := (hok.obj i _ hi).box _ _ rfl
            obtain ⟨a, m1, m2⟩ := k3.get hu
            obtain ⟨c', h1, h2, h3, h4⟩ := vconv_sound hok m2 hcv
            have hi' : c'.h[i]? = some (.box cs fr) := by
              rw [h2]
              refine conv_get hcv hi fun j e => ?_
              intro e2
              subst e; subst e2
              simp only [RL, hi] at m2
            have hle : Le c' (setC c' i (.box (cs.set q v) fr)) := setC_le hi' trivial
            have ob := h3.obj i _ hi'
            obtain ⟨b', as', n1, n2, n3, n4, n5⟩ := ob.box _ _ rfl
            have hbb : b' = b := by
              rw [h1.ρ i (ltl_of_get hi), k1] at n1
              exact (Option.some.inj n1).symm
            subst hbb
            rw [k2] at n2
            cases n2
            refine ⟨setC c' i (.box (cs.set q v) fr), hle.hs.trans (h1.hs.trans hc), ?_, ?_, ?_⟩
            · show c'.h.set i _ = _; rw [h2]
            · exact {
                n0 := h3.n0, pre := h3.pre, fz := h3.fz, low := h3.low
                obj := fun j p hj => by
                  rcases setC_get hj with ⟨rfl, rfl⟩ | ⟨hne, hj'⟩
                  · exact {
                      lo := fun b e => ob.lo b e
                      box := fun cs2 fr2 e => by
                        cases e
                        refine ⟨b', as, n1, k2, ?_, n4, n5⟩
                        have hset : as.set q a = as := by
                          apply List.ext_getElem?
                          intro x
                          by_cases hx : q = x
                          · subst hx; rw [List.getElem?_set_self (ltl_of_get m1), m1]
                          · rw [List.getElem?_set_ne hx]
                        have := (n3.mono (RL.mono hle)).set q (RL.mono hle _ _ h4)
                        rw [hset] at this
                        exact this
                      lst := fun _ _ _ _ e => (by cases e)
                      dead := fun _ e => (by cases e) }
                  · exact (h3.obj j p hj').mono hle rfl (fun _ _ => rfl) (fun _ _ _ hB => hB) (Nat.le_refl _)
                inj := fun j k b' hjk hj hk => by
                  show (c'.h.set i _)[j]? = _ ∨ (c'.h.set i _)[k]? = _
                  rcases h3.inj j k b' hjk hj hk with e | e
                  · left
                    by_cases hji : i = j
                    · subst hji; rw [hi'] at e; cases e
                    · rw [List.getElem?_set_ne hji]; exact e
                  · right
                    by_cases hki : i = k
                    · subst hki; rw [hi'] at e; cases e
                    · rw [List.getElem?_set_ne hki]; exact e
                bj := h3.bj.set hi' (fun _ => rfl)
                dom := fun j hj => h3.dom j (by have : (c'.h.set i (.box (cs.set q v) fr)).length ≤ j := hj; simpa using this) }
            · exact fun d => R2.mono (h1.trans hle) _ _ (ht d)
          · exact ⟨c, hc, hh, hok, ht⟩
        · exact ⟨c, hc, hh, hok, ht⟩
      · exact ⟨c, hc, hh, hok, ht⟩
    · exact ⟨c, hc, hh, hok, ht⟩

theorem coAll_sound {hs : Nat → Value → Prop} : ∀ (cs : List Co) {s : VS}, RelE F0 H0 hs s ta H → RelE F0 H0 hs (coAll cs s) ta H
  | [], s, h => h
  | c :: cs, s, h => coAll_sound cs (co1_sound c h)

theorem tidyE_sound {hs : Nat → Value → Prop} (hr : RelE F0 H0 hs s ta H) (en : Ends) (m : Nat) : RelE F0 H0 hs (tidyE en m s) ta H := by
  unfold tidyE
  split
  · exact tidy_sound (coAll_sound _ hr) _
  · exact hr

theorem toSh_sound {hs : Nat → Value → Prop} {live : List Nat} {sh : List Sh} {ob : List OSh} {K : denS sh × denO ob → Prop} (hr : RelE F0 H0 hs s ta H) (h : toSh live sh ob s K) : ∃ x, K x ∧ RelE F0 H0 hs (stOf live sh ob x) ta H := by
  obtain ⟨c, hc, hr⟩ := hr
  obtain ⟨c', h1, h2, h3, h4, h5⟩ := clean_sound hr live
  unfold toSh at h
  obtain ⟨a, e1, h⟩ := unS_sound h
  obtain ⟨b, e2, h⟩ := unO_sound h
  refine ⟨(a, b), h, c', h1.trans hc, ?_, h4, ?_⟩
  · rw [h3, e2]; rfl
  · rw [e1] at h5
    exact zipT_look (fun _ => trivial) live _ h5

/-! ### Code -/

/-- The node of a text. -/
def subC : Nat → Code → Nat → Option Code
  | 0, _, _ => none
  | f + 1, root, n => if n ≤ 1 then some root else
    match subC f root (n / 2) with
    | some (.seq a b) => if n % 2 = 0 then some a else some b
    | some (.cond _ x y) => if n % 2 = 0 then some x else some y
    | some (.block _ b) => some b
    | some (.loop b) => some b
    | _ => none

theorem subC_det {root : Code} : ∀ {f f' n : Nat} {c c' : Code}, subC f root n = some c → subC f' root n = some c' → c = c' := by
  intro f
  induction f with
  | zero => intro f' n c c' h; cases h
  | succ f ih =>
    intro f' n c c' h h'
    cases f' with
    | zero => cases h'
    | succ f' =>
      unfold subC at h h'
      by_cases hn : n ≤ 1
      · rw [if_pos hn] at h h'; cases h; cases h'; rfl
      · rw [if_neg hn] at h h'
        cases e : subC f root (n / 2) with
        | none => rw [e] at h; cases h
        | some d =>
          cases e' : subC f' root (n / 2) with
          | none => rw [e'] at h'; cases h'
          | some d' =>
            have := ih e e'
            subst this
            rw [e] at h
            rw [e'] at h'
            rw [h] at h'
            exact Option.some.inj h'

theorem W_unroll {P : Program} {x : Code} {t : Temps} {Q : AExit → Temps → AHeap → Prop} (h : W P fl x t H fun e t1 H1 => match e with
    | .normal => W P fl (.loop x) t1 H1 Q
    | e => Q e t1 H1) : W P fl (.loop x) t H Q := by
  obtain ⟨N, e, t1, H1, h1, h2⟩ := h
  cases e with
  | normal =>
    obtain ⟨M, e2, t2, H2, h3, h4⟩ := h2
    simp only [exec] at h3
    refine ⟨max N M + 1, e2, t2, H2, ?_, h4⟩
    simp only [exec, loopN]
    rw [exec_mono (callN_mono P (show N ≤ max N M + 1 by omega)) (show N ≤ max N M + 1 by omega) _ _ _ _ h1]
    exact loopN_mono (exec_mono (callN_mono P (show M ≤ max N M + 1 by omega)) (show M ≤ max N M + 1 by omega) x) (show M ≤ max N M by omega) _ _ _ h3
  | _ =>
    refine ⟨N + 1, _, t1, H1, ?_, h2⟩
    simp only [exec, loopN]
    rw [exec_mono (callN_mono P (Nat.le_succ N)) (Nat.le_succ N) _ _ _ _ h1]

/-- A proposition behind a door: it is not looked into. -/
structure Tl (p : Prop) : Prop where
  it : p

/-- What the tables of a text must be. -/
def TabOk (G : Cfg) (ct : Tab) (en : Ends) (root : Code) : Prop :=
  ∀ n E, ct n = some E → ∀ f c, subC f root n = some c → ∀ x k, E.P x k → Tl (vwp G ct en c n (stOf E.live E.sh E.ob x) k)

theorem sub_kids {root a b : Code} {f m : Nat} (hm : 1 ≤ m) (h : subC f root m = some (.seq a b)) : subC (f + 1) root (2 * m) = some a ∧ subC (f + 1) root (2 * m + 1) = some b := by
  constructor
  · unfold subC
    rw [if_neg (by omega), show 2 * m / 2 = m by omega, h]
    simp
  · unfold subC
    rw [if_neg (by omega), show (2 * m + 1) / 2 = m by omega, h]
    simp only []
    rw [if_neg (by omega)]
theorem sub_kidsc {root a b : Code} {o : Operand} {f m : Nat} (hm : 1 ≤ m) (h : subC f root m = some (.cond o a b)) : subC (f + 1) root (2 * m) = some a ∧ subC (f + 1) root (2 * m + 1) = some b := by
  constructor
  · unfold subC
    rw [if_neg (by omega), show 2 * m / 2 = m by omega, h]
    simp
  · unfold subC
    rw [if_neg (by omega), show (2 * m + 1) / 2 = m by omega, h]
    simp only []
    rw [if_neg (by omega)]
theorem sub_kid {root b : Code} {f m : Nat} (hm : 1 ≤ m) (h : (∃ id, subC f root m = some (.block id b)) ∨ subC f root m = some (.loop b)) : subC (f + 1) root (2 * m) = some b := by
  unfold subC
  rw [if_neg (by omega), show 2 * m / 2 = m by omega]
  rcases h with ⟨id, h⟩ | h <;> rw [h]

/-- What holds for the whole of a text. -/
structure EnvF (G : Cfg) (H0 : AHeap) (hs : Nat → Value → Prop) (fl : Nat) : Prop where
  O : ∀ f args Q, G.O f args Q → Sound G.P f args Q
  fl : fl ≤ H0.length
  I : ∀ J, G.I = some J → InlSound G.P J

theorem vwp_sound {hs : Nat → Value → Prop} {ct : Tab} {en : Ends} {root : Code} (he : EnvF G H0 hs fl) (htab : TabOk G ct en root) : ∀ (c : Code) (m : Nat) {s : VS} {k : AExit → VS → Prop} {ta : Temps} {H : AHeap} {Q : AExit → Temps → AHeap → Prop}, 1 ≤ m → (∃ f, subC f root m = some c) → codeOk n c = true →
    RelE F0 H0 hs s ta H → vwp G ct en c m s k → (∀ e s' ta' H', RelE F0 H0 hs s' ta' H' → k e s' → Q e ta' H') → W G.P fl c ta H Q := by
  intro c
  -- at a node that may be told by its shape
  have cut : ∀ (x : Code) (m : Nat) {s : VS} {k : AExit → VS → Prop} {ta : Temps} {H : AHeap}, (∃ f, subC f root m = some x) → RelE F0 H0 hs s ta H → cutE ct m (vwp G ct en x m) s k → ∃ s', RelE F0 H0 hs s' ta H ∧ vwp G ct en x m s' k := by
    intro x m s k ta H hsub hr h
    unfold cutE at h
    split at h
    · rename_i E hE
      obtain ⟨y, h1, h2⟩ := toSh_sound hr h
      obtain ⟨f, hf⟩ := hsub
      exact ⟨_, h2, (htab m E hE f x hf y k h1).it⟩
    · exact ⟨s, hr, h⟩
  induction c with
  | skip =>
    intro m s k ta H Q hm hsub hco hr hv hQ
    exact W_skip (hQ _ _ _ _ (tidyE_sound hr en m) hv)
  | label l =>
    intro m s k ta H Q hm hsub hco hr hv hQ
    exact W_label (hQ _ _ _ _ (tidyE_sound hr en m) hv)
  | exit id =>
    intro m s k ta H Q hm hsub hco hr hv hQ
    exact W_exit (hQ _ _ _ _ (tidyE_sound hr en m) hv)
  | ret =>
    intro m s k ta H Q hm hsub hco hr hv hQ
    exact W_ret (hQ _ _ _ _ (tidyE_sound hr en m) hv)
  | region id ops draw =>
    intro m s k ta H Q hm hsub hco hr hv hQ
    obtain ⟨c, hc, hr⟩ := hr
    have hop : ∀ o ∈ ops.toList, opOk n ops o = true := by
      unfold codeOk at hco
      exact fun o ho => List.all_eq_true.1 hco o ho
    refine vregionH_sound (n := n) ⟨he.O, he.fl⟩ he.I hr hop hv ?_
    rintro ta' H' s' c' hle hr' hk
    exact hQ _ _ _ _ (tidyE_sound ⟨c', hle.trans hc, hr'⟩ en m) hk
  | seq a b iha ihb =>
    intro m s k ta H Q hm hsub hco hr hv hQ
    obtain ⟨f, hf⟩ := hsub
    obtain ⟨ka, kb⟩ := sub_kids hm hf
    simp only [codeOk, Bool.and_eq_true] at hco
    obtain ⟨s1, hr1, hv1⟩ := cut a (2 * m) ⟨_, ka⟩ hr hv
    refine W_seq (iha (2 * m) (by omega) ⟨_, ka⟩ hco.1 hr1 hv1 ?_)
    intro e s' ta' H' hr' hk
    cases e with
    | normal =>
      obtain ⟨s2, hr2, hv2⟩ := cut b (2 * m + 1) ⟨_, kb⟩ hr' hk
      exact ihb (2 * m + 1) (by omega) ⟨_, kb⟩ hco.2 hr2 hv2 hQ
    | _ => exact hQ _ _ _ _ hr' hk
  | cond o x y ihx ihy =>
    intro m s k ta H Q hm hsub hco hr hv hQ
    obtain ⟨f, hf⟩ := hsub
    obtain ⟨kx, ky⟩ := sub_kidsc hm hf
    simp only [codeOk, Bool.and_eq_true] at hco
    have hv : (match evV s.t o with
      | .pl (.bool b) => if b = true then cutE ct (2 * m) (vwp G ct en x (2 * m)) s k else cutE ct (2 * m + 1) (vwp G ct en y (2 * m + 1)) s k
      | _ => False) := hv
    obtain ⟨c, hc, hrc⟩ := hr
    have hev := ev_rel hrc.2.2 hco.1.1
    split at hv
    · rename_i b heq
      rw [heq] at hev
      refine W_cond (R2_pl hev).1 (fun hb => ?_) (fun hb => ?_)
      · rw [if_pos hb] at hv
        obtain ⟨s1, hr1, hv1⟩ := cut x (2 * m) ⟨_, kx⟩ ⟨c, hc, hrc⟩ hv
        exact ihx (2 * m) (by omega) ⟨_, kx⟩ hco.1.2 hr1 hv1 hQ
      · rw [if_neg (by rw [hb]; simp)] at hv
        obtain ⟨s1, hr1, hv1⟩ := cut y (2 * m + 1) ⟨_, ky⟩ ⟨c, hc, hrc⟩ hv
        exact ihy (2 * m + 1) (by omega) ⟨_, ky⟩ hco.2 hr1 hv1 hQ
    · exact hv.elim
  | block id b ih =>
    intro m s k ta H Q hm hsub hco hr hv hQ
    obtain ⟨f, hf⟩ := hsub
    have kb := sub_kid (b := b) hm (.inl ⟨id, hf⟩)
    obtain ⟨s1, hr1, hv1⟩ := cut b (2 * m) ⟨_, kb⟩ hr hv
    refine W_block (ih (2 * m) (by omega) ⟨_, kb⟩ hco hr1 hv1 ?_)
    intro e s' ta' H' hr' hk
    cases e with
    | exit id' => exact hQ _ _ _ _ hr' hk
    | _ => exact hQ _ _ _ _ hr' hk
  | loop b ih =>
    intro m s k ta H Q hm hsub hco hr hv hQ
    obtain ⟨f, hf⟩ := hsub
    have kb := sub_kid (b := b) hm (.inr hf)
    have step : ∀ (X : VS → Prop), (∀ s, X s → ∀ ta H, RelE F0 H0 hs s ta H → W G.P fl (.loop b) ta H Q) → ∀ s, LB k en m (cutE ct (2 * m) (vwp G ct en b (2 * m))) s X → ∀ ta H, RelE F0 H0 hs s ta H → W G.P fl (.loop b) ta H Q := by
      intro X hX s hB ta H hr
      refine W_unroll ?_
      obtain ⟨s1, hr1, hv1⟩ := cut b (2 * m) ⟨_, kb⟩ hr hB
      refine ih (2 * m) (by omega) ⟨_, kb⟩ hco hr1 hv1 ?_
      intro e s' ta' H' hr' hk
      cases e with
      | normal => exact hX _ hk ta' H' (tidyE_sound hr' en m)
      | _ => exact hQ _ _ _ _ hr' hk
    unfold vwp at hv
    split at hv
    · exact hv (fun s => ∀ ta H, RelE F0 H0 hs s ta H → W G.P fl (.loop b) ta H Q) (fun s hB => step _ (fun _ h => h) s hB) ta H (tidyE_sound hr en m)
    · rename_i u _
      have key : ∀ (u : Nat) s, unr (LB k en m (cutE ct (2 * m) (vwp G ct en b (2 * m)))) u s → ∀ ta H, RelE F0 H0 hs s ta H → W G.P fl (.loop b) ta H Q := by
        intro u
        induction u with
        | zero => intro s h; exact h.elim
        | succ u ihu => intro s h; exact step _ ihu s h
      exact key _ _ hv ta H (tidyE_sound hr en m)
  | rangeFunc f ps a b _ _ => intro m s k ta H Q hm hsub hco; simp [codeOk] at hco
  | scope b _ => intro m s k ta H Q hm hsub hco; simp [codeOk] at hco
  | goto l => intro m s k ta H Q hm hsub hco hr hv; simp [vwp] at hv
  | refuse w => intro m s k ta H Q hm hsub hco; simp [codeOk] at hco

end
end Go.Mach

namespace Go.Mach
set_option linter.unusedVariables false
set_option linter.unusedSimpArgs false

section
variable {G : Cfg} {F0 : Fz} {H0 : AHeap} {c c' : Ctx} {H H' : AHeap} {s : VS} {ta : Temps} {n fl : Nat} {ops : Array Oper}

theorem vres_sound (hr : Rel F0 H0 c s ta H) : ∀ {rs : List ResultVar} {K : List VV → Prop}, vres G s rs K → ∃ vs as, K vs ∧ All2 (R2 c) vs as ∧ resultAll G.P ta H rs = some as
  | [], K, h => ⟨[], [], h, .nil, rfl⟩
  | .tmp d :: rs, K, h => by
    obtain ⟨vs, as, h1, h2, h3⟩ := vres_sound hr (rs := rs) h
    exact ⟨_, _, h1, .cons (hr.2.2 d) h2, by simp only [resultAll, resultOne, h3]⟩
  | .cell d ty :: rs, K, h => by
    unfold vres at h
    split at h
    · rename_i i off he
      split at h
      · rename_i cs fr hg
        have hd := hr.2.2 d
        rw [he] at hd
        obtain ⟨b, cs', fr', k1, k2, k3⟩ := R2_ptr hd
        have hi := getO_get hg (by intro e; cases e)
        rw [hr.1, hi] at k1; cases k1
        obtain ⟨b', as, m1, m2, m3, _⟩ := (hr.2.1.obj i _ (by rw [hr.1]; exact hi)).box _ _ rfl
        rw [k2] at m1; cases m1
        obtain ⟨v, a, g1, g2, g3⟩ := vload_sound (es := 0) (ex := true) (al := true) m3 h
        obtain ⟨vs, as', h1, h2, h3⟩ := vres_sound hr (rs := rs) g1
        exact ⟨_, _, h1, .cons (R1_R2 g2) h2, by simp only [resultAll, resultOne, k3, load_blk m2 g3, h3]⟩
      · exact h.elim
    · exact h.elim

/-- Of the objects, those not yet handed over. -/
def Left (c : Ctx) (h : List VO) (used : List Nat) : Prop := ∀ i q t l fr, getO h i = .lst q t l fr → i ∉ used ∧ c.h[i]? = some (.lst q t l fr)

theorem Left.use {h : List VO} {used : List Nat} (hl : Left c h used) (i : Nat) : Left c (h.set i (.dead false)) (used ++ [i]) := by
  intro j q t l fr e
  have hji : j ≠ i := by
    intro e2
    subst e2
    unfold getO at e
    rw [List.getD_eq_getElem?_getD] at e
    by_cases hlt : j < h.length
    · rw [List.getElem?_set_self hlt] at e; cases e
    · rw [List.getElem?_eq_none (by simp; omega)] at e; cases e
  have e3 : getO h j = .lst q t l fr := by
    rw [← e]
    unfold getO
    rw [List.getD_eq_getElem?_getD, List.getD_eq_getElem?_getD, List.getElem?_set_ne (fun e => hji e.symm)]
  obtain ⟨h1, h2⟩ := hl j q t l fr e3
  exact ⟨fun hm => (List.mem_append.1 hm).elim h1 (fun hm => hji (List.mem_singleton.1 hm)), h2⟩

theorem XR.app {l : List VV} {is : List Nat} {as : List Value} (h : XR c l is as) : ∀ {m : List VV} {js : List Nat} {bs : List Value}, XR c m js bs → XR c (l ++ m) (is ++ js) (as ++ bs) := by
  induction h with
  | nil => intro m js bs k; exact k
  | pl h t ih => intro m js bs k; exact .pl h (ih k)
  | nw h t ih => intro m js bs k; exact .nw h (ih k)
  | nl t ih => intro m js bs k; exact .nl (ih k)
  | al h t ih => intro m js bs k; exact .al h (ih k)
  | er h t ih => intro m js bs k; exact .er h (ih k)

theorem xp_sound : ∀ (T : Ty) {cs : List VV} {as : List Value} {h : List VO} {used : List Nat} {K : T.den → List VV → List VO → Prop}, All2 (RL c) cs as → Left c h used → used.Nodup → xp T cs h K →
    ∃ x r h' is a1 a2, K x r h' ∧ as = a1 ++ a2 ∧ XR c (encN T x) is a1 ∧ All2 (RL c) r a2 ∧ Left c h' (used ++ is) ∧ (used ++ is).Nodup := by
  intro T
  induction T with
  | int k =>
    intro cs as h used K hr hl hn hx
    unfold xp at hx
    split at hx
    · split at hx
      · rename_i e; subst e
        cases hr with
        | cons hr t => obtain ⟨rfl, hp⟩ := hr; exact ⟨_, _, h, [], [_], _, hx, rfl, .pl hp .nil, t, by rw [List.append_nil]; exact hl, by rw [List.append_nil]; exact hn⟩
      · exact hx.elim
    · exact hx.elim
  | bool =>
    intro cs as h used K hr hl hn hx
    unfold xp at hx
    split at hx
    · cases hr with
      | cons hr t => obtain ⟨rfl, hp⟩ := hr; exact ⟨_, _, h, [], [_], _, hx, rfl, .pl hp .nil, t, by rw [List.append_nil]; exact hl, by rw [List.append_nil]; exact hn⟩
    · exact hx.elim
  | str =>
    intro cs as h used K hr hl hn hx
    unfold xp at hx
    split at hx
    · cases hr with
      | cons hr t => obtain ⟨rfl, hp⟩ := hr; exact ⟨_, _, h, [], [_], _, hx, rfl, .pl hp .nil, t, by rw [List.append_nil]; exact hl, by rw [List.append_nil]; exact hn⟩
    · exact hx.elim
  | flt =>
    intro cs as h used K hr hl hn hx
    unfold xp at hx
    split at hx
    · cases hr with
      | cons hr t => obtain ⟨rfl, hp⟩ := hr; exact ⟨_, _, h, [], [_], _, hx, rfl, .pl hp .nil, t, by rw [List.append_nil]; exact hl, by rw [List.append_nil]; exact hn⟩
    · exact hx.elim
  | cpx =>
    intro cs as h used K hr hl hn hx
    unfold xp at hx
    split at hx
    · cases hr with
      | cons hr t => obtain ⟨rfl, hp⟩ := hr; exact ⟨_, _, h, [], [_], _, hx, rfl, .pl hp .nil, t, by rw [List.append_nil]; exact hl, by rw [List.append_nil]; exact hn⟩
    · exact hx.elim
  | slc T ih =>
    intro cs as h used K hr hl hn hx
    unfold xp at hx
    split at hx
    · rename_i i r
      split at hx
      · rename_i t' l hg
        obtain ⟨e, hx⟩ := Ty.at_inv hx
        subst e
        obtain ⟨k1, k2⟩ := hl i _ _ _ _ hg
        cases hr with
        | cons hr t =>
          have ha := R2_own (c := c) (show R2 c (.own i) _ from hr) k2
          subst ha
          exact ⟨_, _, _, [i], [_], _, hx, rfl, .nw k2 .nil, t, hl.use i, by
            rw [List.nodup_append]
            exact ⟨hn, by simp, fun a ha b hb e => k1 (by rw [List.mem_singleton] at hb; subst hb; subst e; exact ha)⟩⟩
      · exact hx.elim
    · cases hr with
      | cons hr t => obtain ⟨rfl, hp⟩ := hr; exact ⟨_, _, h, [], [_], _, hx, rfl, .nl .nil, t, by rw [List.append_nil]; exact hl, by rw [List.append_nil]; exact hn⟩
    · exact hx.elim
  | ref T ih =>
    intro cs as h used K hr hl hn hx
    exact hx.elim
  | unit =>
    intro cs as h used K hr hl hn hx
    exact ⟨(), cs, h, [], [], as, hx, rfl, .nil, hr, by rw [List.append_nil]; exact hl, by rw [List.append_nil]; exact hn⟩
  | pair A B iha ihb =>
    intro cs as h used K hr hl hn hx
    unfold xp at hx
    obtain ⟨x, r, h1, is, a1, a2, k1, rfl, k3, k4, k5, k6⟩ := iha hr hl hn hx
    obtain ⟨y, r', h2, js, b1, b2, g1, rfl, g3, g4, g5, g6⟩ := ihb k4 k5 k6 k1
    exact ⟨(x, y), r', h2, is ++ js, a1 ++ b1, b2, g1, by rw [List.append_assoc], k3.app g3, g4, by rw [← List.append_assoc]; exact g5, by rw [← List.append_assoc]; exact g6⟩

theorem XR.len {l : List VV} {is : List Nat} {as : List Value} (h : XR c l is as) : l.length = as.length := by
  induction h with
  | nil => rfl
  | pl h t ih => simp [ih]
  | nw h t ih => simp [ih]
  | nl t ih => simp [ih]
  | al h t ih => simp [ih]
  | er h t ih => simp [ih]

theorem ownA {F0 : Fz} {H0 H : AHeap} (hok : Ok F0 H0 c H) {i : Nat} {q : Bool} {T : Ty} {l : List T.den} {a : Value} (hi : c.h[i]? = some (.lst q T l true)) (h : RL c (.own i) a) : RL c (.fz false T l) a := by
  have ha : a = sl (c.ρ i) l.length := R2_own (c := c) h hi
  refine ⟨_, _, ha, ?_⟩
  have hlst := (hok.obj i _ hi).lst _ _ _ _ rfl
  have hext : (cutF q c.n0 c.F).ext (cutF false c.n0 c.F) := RT_weak (fun e => by cases e)
  cases hb : c.ρ i with
  | none =>
    have := hlst.1 hb
    subst this
    exact ⟨Nat.le_refl _, .inl rfl⟩
  | some b =>
    obtain ⟨as, ex, k1, k2, k3, _⟩ := hlst.2 b hb
    refine (k2.mono hext).slice (b := b) (B := ⟨as, T.w, ex, true⟩) rfl ?_ (.inr rfl)
    unfold cutF
    rw [if_neg (by simp)]
    exact k3 rfl

theorem xpZ_sound (T : Ty) {cs : List VV} {as : List Value} {h : List VO} {used : List Nat} {K : List T.den → List VV → List VO → Prop} (hr : All2 (RL c) cs as) (hl : Left c h used) (hn : used.Nodup) (hx : xpA .z (.slc T) cs h K) :
    ∃ x r h' is a a2, K x r h' ∧ as = [a] ++ a2 ∧ XR c [.nw T x] is [a] ∧ (x = [] → a = .slice none 0 0) ∧ All2 (RL c) r a2 ∧ Left c h' (used ++ is) ∧ (used ++ is).Nodup := by
  unfold xpA at hx
  split at hx
  · rename_i i r
    split at hx
    · rename_i t' l hg
      obtain ⟨e, hx⟩ := Ty.at_inv hx
      subst e
      obtain ⟨hne, hx⟩ := hx
      obtain ⟨k1, k2⟩ := hl i _ _ _ _ hg
      cases hr with
      | cons hr t =>
        have ha := R2_own (c := c) (show R2 c (.own i) _ from hr) k2
        subst ha
        exact ⟨_, _, _, [i], _, _, hx, rfl, .nw k2 .nil, fun e => absurd e hne, t, hl.use i, by
          rw [List.nodup_append]
          exact ⟨hn, by simp, fun a ha b hb e => k1 (by rw [List.mem_singleton] at hb; subst hb; subst e; exact ha)⟩⟩
    · exact hx.elim
  · cases hr with
    | cons hr t => obtain ⟨rfl, hp⟩ := hr; exact ⟨_, _, h, [], _, _, hx, rfl, .nl .nil, fun _ => rfl, t, by rw [List.append_nil]; exact hl, by rw [List.append_nil]; exact hn⟩
  · exact hx.elim

theorem xpA_sound {F0 : Fz} {H0 H : AHeap} (hok : Ok F0 H0 c H) : ∀ (al : Al) (T : Ty) {cs : List VV} {as : List Value} {h : List VO} {used : List Nat} {K : T.den → List VV → List VO → Prop}, All2 (RL c) cs as → Left c h used → used.Nodup → xpA al T cs h K →
    ∃ x r h' is a1 a2, K x r h' ∧ as = a1 ++ a2 ∧ XR c (encA al T x) is a1 ∧ All2 (RL c) r a2 ∧ Left c h' (used ++ is) ∧ (used ++ is).Nodup := by
  intro al
  induction al with
  | n => intro T cs as h used K hr hl hn hx; cases T <;> exact xp_sound _ hr hl hn hx
  | f =>
    intro T cs as h used K hr hl hn hx
    cases T with
    | slc T =>
      have fin : ∀ {v : VV} {r : List VV} {l : List T.den}, All2 (RL c) (v :: r) as → (∀ a, RL c v a → RL c (.fz false T l) a) → K l r h → ∃ x r h' is a1 a2, K x r h' ∧ as = a1 ++ a2 ∧ XR c (encA .f (.slc T) x) is a1 ∧ All2 (RL c) r a2 ∧ Left c h' (used ++ is) ∧ (used ++ is).Nodup := by
        intro v r l hrr hv hk
        cases hrr with
        | cons h1 t => exact ⟨_, _, h, [], [_], _, hk, rfl, .al (hv _ h1) .nil, t, by rw [List.append_nil]; exact hl, by rw [List.append_nil]; exact hn⟩
      unfold xpA at hx
      split at hx
      · obtain ⟨e, hx⟩ := Ty.at_inv hx
        subst e
        exact fin hr (fun a => fzA) hx
      · split at hx
        · rename_i hg
          obtain ⟨e, hx⟩ := Ty.at_inv hx
          subst e
          cases hr with
          | cons hr t =>
            have hi : c.h[_]? = _ := (hl _ _ _ _ _ hg).2
            exact fin (.cons hr t) (fun a hra => ownA hok hi hra) hx
        · exact hx.elim
      · exact fin hr (fun a ha => by obtain ⟨rfl, _⟩ := ha; exact ⟨none, _, rfl, ⟨Nat.zero_le _, .inl rfl⟩⟩) hx
      · exact hx.elim
    | _ => exact xp_sound _ hr hl hn hx
  | z =>
    intro T cs as h used K hr hl hn hx
    cases T with
    | slc T =>
      obtain ⟨x, r, h', is, a, a2, k1, k2, k3, _, k4, k5, k6⟩ := xpZ_sound T hr hl hn hx
      exact ⟨x, r, h', is, [a], a2, k1, k2, k3, k4, k5, k6⟩
    | _ => exact xp_sound _ hr hl hn hx
  | p x y ihx ihy =>
    intro T cs as h used K hr hl hn hx
    cases T with
    | pair A B =>
      unfold xpA at hx
      obtain ⟨u, r, h1, is, a1, a2, k1, rfl, k3, k4, k5, k6⟩ := ihx A hr hl hn hx
      obtain ⟨v, r', h2, js, b1, b2, g1, rfl, g3, g4, g5, g6⟩ := ihy B k4 k5 k6 k1
      exact ⟨(u, v), r', h2, is ++ js, a1 ++ b1, b2, g1, by rw [List.append_assoc], k3.app g3, g4, by rw [← List.append_assoc]; exact g5, by rw [← List.append_assoc]; exact g6⟩
    | _ => exact xp_sound _ hr hl hn hx

theorem okL_leaf {v : VV} {a : Value} (hv : okL v = true) (h : R2 c v a) : RL c v a := by
  cases v <;> first | exact h | cases hv

theorem xpAll_sound {F0 : Fz} {H0 H : AHeap} (hok' : Ok F0 H0 c H) : ∀ (rt : ResT) (al : List Al) {vs : List VV} {as : List Value} {h : List VO} {used : List Nat} {K : denR rt → Prop}, All2 (R2 c) vs as → Left c h used → used.Nodup → xpAll rt al vs h K →
    ∃ x is, K x ∧ XZ c (slotsA rt al x) is as ∧ (used ++ is).Nodup := by
  intro rt
  induction rt with
  | nil =>
    intro al vs as h used K hr hl hn hx
    unfold xpAll at hx
    split at hx
    · cases hr; exact ⟨(), [], hx, .nil, by rw [List.append_nil]; exact hn⟩
    · exact hx.elim
  | cons p rt ih =>
    obtain ⟨g, T⟩ := p
    intro al vs as h used K hr hl hn hx
    unfold xpAll at hx
    split at hx
    · rename_i v r
      split at hx
      · rename_i hg
        cases hr with
        | cons hv t =>
          rename_i a as
          cases g with
          | true =>
            cases v with
            | agg l =>
              obtain ⟨bs, rfl, h2⟩ := R2_agg hv
              obtain ⟨x, left, h1, is, a1, a2, k1, k2, k3, k4, k5, k6⟩ := xpA_sound hok' (al.headD .n) T h2 hl hn hx
              split at k1
              · cases k4
                rw [List.append_nil] at k2
                subst k2
                obtain ⟨y, js, g1, g2, g3⟩ := ih al.tail t k5 k6 k1
                refine ⟨(x, y), is ++ js, g1, ?_, by rw [← List.append_assoc]; exact g3⟩
                have e0 : zmk true (al.headD .n) T = [] := by cases al.headD .n <;> rfl
                show XZ c ((true, encA (al.headD .n) T x ++ zmk true (al.headD .n) T) :: slotsA rt al.tail y) _ _
                rw [e0, List.append_nil]
                have := XZ.s (XS.agg k3 .nil) g2
                rwa [List.append_nil] at this
              · exact k1.elim
            | _ => cases hg.1
          | false =>
            have hok : okL v = true := hg.2.resolve_left (by simp)
            have hleaf := okL_leaf hok hv
            have hvc : vcells v = [v] := by cases v <;> first | rfl | cases hok
            rw [hvc] at hx
            by_cases hzz : ∃ T', al.headD .n = .z ∧ T = .slc T'
            · obtain ⟨T', e1, rfl⟩ := hzz
              rw [e1] at hx
              obtain ⟨x, left, h1, is, a1, a2, k1, k2, k3, kz, k4, k5, k6⟩ := xpZ_sound T' (.cons hleaf .nil) hl hn hx
              split at k1
              · cases k4
                cases k2
                obtain ⟨y, js, g1, g2, g3⟩ := ih al.tail t k5 k6 k1
                refine ⟨(x, y), is ++ js, g1, ?_, by rw [← List.append_assoc]; exact g3⟩
                show XZ c ((false, encA (al.headD .n) (.slc T') x ++ zmk false (al.headD .n) (.slc T')) :: slotsA rt al.tail y) _ _
                rw [e1]
                exact .z k3 kz g2
              · exact k1.elim
            have e0 : zmk false (al.headD .n) T = [] := by
              cases e1 : al.headD .n <;> cases T <;> first | rfl | exact absurd ⟨_, e1, rfl⟩ hzz
            obtain ⟨x, left, h1, is, a1, a2, k1, k2, k3, k4, k5, k6⟩ := xpA_sound hok' (al.headD .n) T (.cons hleaf .nil) hl hn hx
            split at k1
            · cases k4
              rw [List.append_nil] at k2
              subst k2
              obtain ⟨y, js, g1, g2, g3⟩ := ih al.tail t k5 k6 k1
              have hlen := k3.len
              match he : encA (al.headD .n) T x with
              | [z] =>
                rw [he] at k3
                refine ⟨(x, y), is ++ js, g1, ?_, by rw [← List.append_assoc]; exact g3⟩
                show XZ c ((false, encA (al.headD .n) T x ++ zmk false (al.headD .n) T) :: slotsA rt al.tail y) _ _
                rw [e0, he, List.append_nil]
                have := XZ.s (XS.one k3 .nil) g2
                rwa [List.append_nil] at this
              | [] => rw [he] at hlen; simp at hlen
              | _ :: _ :: _ => rw [he] at hlen; simp at hlen
            · exact k1.elim
      · exact hx.elim
    · exact hx.elim

theorem start_look (args : List Value) : ∀ d, start args.toArray d = args.getD d undef := by
  intro d
  unfold start
  rw [Array.getD_eq_getD_getElem?, List.getD_eq_getElem?_getD]
  simp

theorem zip_start {R : VV → Value → Prop} (hu : ∀ a, R .undef a) : ∀ {vs : List VV} {as : List Value} (k : Nat), All2 R vs as → ∀ d, k ≤ d → R (lookV (zipT (List.range' k vs.length) vs) d) (as.getD (d - k) undef)
  | [], [], k, .nil, d, _ => hu _
  | v :: vs, a :: as, k, .cons h t, d, hd => by
    show R (if k = d then v else lookV (zipT (List.range' (k + 1) vs.length) vs) d) _
    by_cases e : k = d
    · rw [if_pos e, show d - k = 0 by omega]; exact h
    · rw [if_neg e, show d - k = (d - (k + 1)) + 1 by omega, List.getD_cons_succ]
      exact zip_start hu (k + 1) t d (by omega)

theorem startV_tok {vs : List VV} {as : List Value} (h : All2 (R2 c) vs as) : Tok c (startV vs) (start as.toArray) := by
  intro d
  rw [start_look]
  unfold startV
  rw [List.range_eq_range']
  have := zip_start (R := R2 c) (fun _ => trivial) 0 h d (Nat.zero_le _)
  rwa [Nat.sub_zero] at this

theorem ctxF_ok (F : Fz) (H : AHeap) (hs : Nat → Value → Prop) (hF : ∀ b B, F b = some B → blk? H b = some B) : Ok F H (ctxF F H hs) H where
  n0 := rfl
  pre := Pre.refl H
  fz := hF
  low := fun b _ => rfl
  obj := fun i o h => by simp [ctxF] at h
  inj := fun i j b _ h => by cases h
  bj := fun i j b _ _ h => by cases h
  dom := fun _ _ => rfl

/-- A function. -/
theorem vfun_sound {ct : Tab} {en : Ends} {f : FuncId} {fn : Func} {cd : Code} {rt : ResT} (al : List Al) {args : List VV} {Q : List (Bool × List VV) → Prop}
    (hf : G.P.funcs[f]? = some fn) (hb : bod fn = some cd) (hfo : okF f fn cd = true) (hsz : args.length ≤ fn.ntmps) (htab : TabOk G ct en cd) (hO : ∀ f args Q, G.O f args Q → Sound G.P f args Q) (hI : ∀ J, G.I = some J → InlSound G.P J)
    (hv : vfun G ct en fn cd rt al args fun r => Q (slotsA rt al r)) : Sound G.P f args Q := by
  intro F fl H as hF hfl ha
  refine W_call hf hb hfo (by simp; rw [← ha.len]; exact hsz) ?_
  have hco : codeOk fn.ntmps cd = true := by
    have hfo := okF_ok hfo
    unfold funcOk at hfo
    simp only [Bool.and_eq_true] at hfo
    exact hfo.1.1
  have hr : RelE F H noHs ⟨startV args, []⟩ (start as.toArray) H := ⟨ctxF F H noHs, rfl, rfl, ctxF_ok F H noHs hF, startV_tok ha⟩
  have he : EnvF G H noHs fl := ⟨hO, hfl, hI⟩
  unfold vfun at hv
  have key : ∃ s', RelE F H noHs s' (start as.toArray) H ∧ vwp G ct en cd 1 s' (fun e s => match e with
      | .normal | .ret => vres G s fn.results.toList fun vs => xpAll rt al vs s.h fun r => Q (slotsA rt al r)
      | _ => False) := by
    unfold cutE at hv
    split at hv
    · rename_i E hE
      obtain ⟨y, h1, h2⟩ := toSh_sound hr hv
      exact ⟨_, h2, (htab 1 E hE 1 cd rfl y _ h1).it⟩
    · exact ⟨_, hr, hv⟩
  obtain ⟨s', hr', hv'⟩ := key
  refine vwp_sound (n := fn.ntmps) he htab cd 1 (Nat.le_refl _) ⟨1, rfl⟩ hco hr' hv' ?_
  intro e s2 ta2 H2 hr2 hk
  have fin : (vres G s2 fn.results.toList fun vs => xpAll rt al vs s2.h fun r => Q (slotsA rt al r)) → ∃ vs, resultAll G.P ta2 H2 fn.results.toList = some vs ∧ ∃ sl, Q sl ∧ ResOk F H H2 sl (wrap1 vs) := by
    intro hk
    obtain ⟨c2, hc2, hrel⟩ := hr2
    obtain ⟨vs, as2, h1, h2, h3⟩ := vres_sound hrel hk
    obtain ⟨x, is, g1, g2, g3⟩ := xpAll_sound hrel.2.1 rt al (h := s2.h) (used := []) h2 (fun i q t l fr e => ⟨by simp, by rw [hrel.1]; exact getO_get e (by intro e; cases e)⟩) List.nodup_nil h1
    exact ⟨as2, h3, _, g1, .inl ⟨c2, is, as2, hrel.2.1, g2, by simpa using g3, rfl⟩⟩
  cases e with
  | normal => exact fin hk
  | ret => exact fin hk
  | _ => exact hk.elim

theorem lookV_app : ∀ (a b : List (Nat × VV)) (i : Nat), lookV (a ++ b) i = if (a.any fun p => p.1 == i) = true then lookV a i else lookV b i
  | [], b, i => by simp
  | (d, v) :: a, b, i => by
    show (if d = i then v else lookV (a ++ b) i) = _
    by_cases e : d = i
    · rw [if_pos e, if_pos (by simp [e])]
      show v = if d = i then v else lookV a i
      rw [if_pos e]
    · rw [if_neg e, lookV_app a b i]
      have h1 : ((d, v) :: a).any (fun p => p.1 == i) = a.any fun p => p.1 == i := by simp [e]
      rw [h1]
      show _ = if _ then (if d = i then v else lookV a i) else _
      rw [if_neg e]
theorem lookV_none : ∀ (a : List (Nat × VV)) (i : Nat), (a.any fun p => p.1 == i) = false → lookV a i = .undef
  | [], _, _ => rfl
  | (d, v) :: a, i, h => by
    simp only [List.any_cons, Bool.or_eq_false_iff, beq_eq_false_iff_ne] at h
    show (if d = i then v else lookV a i) = _
    rw [if_neg h.1]
    exact lookV_none a i h.2
theorem lookV_shift (n : Nat) : ∀ (a : List (Nat × VV)) (i : Nat), lookV (shiftT n a) (i + n) = lookV a i
  | [], _ => rfl
  | (d, v) :: a, i => by
    show (if d + n = i + n then v else lookV (shiftT n a) (i + n)) = if d = i then v else lookV a i
    rw [lookV_shift n a i]
    by_cases e : d = i
    · rw [if_pos e, if_pos (by omega)]
    · rw [if_neg e, if_neg (by omega)]
theorem lookV_shift_lt (n : Nat) : ∀ (a : List (Nat × VV)) (i : Nat), i < n → lookV (shiftT n a) i = .undef
  | [], _, _ => rfl
  | (d, v) :: a, i, h => by
    show (if d + n = i then v else lookV (shiftT n a) i) = _
    rw [if_neg (by omega)]
    exact lookV_shift_lt n a i h
theorem lookV_unshift (n : Nat) : ∀ (a : List (Nat × VV)) (i : Nat), lookV (unshiftT n a) i = lookV a (i + n)
  | [], _ => rfl
  | (d, v) :: a, i => by
    unfold unshiftT
    by_cases h : n ≤ d
    · rw [if_pos h]
      show (if d - n = i then v else lookV (unshiftT n a) i) = if d = i + n then v else lookV a (i + n)
      rw [lookV_unshift n a i]
      by_cases e : d = i + n
      · rw [if_pos e, if_pos (by omega)]
      · rw [if_neg e, if_neg (by omega)]
    · rw [if_neg h, lookV_unshift n a i]
      show _ = if d = i + n then v else lookV a (i + n)
      rw [if_neg (by omega)]
theorem startV_keys (args : List VV) : ∀ i, ((startV args).any fun p => p.1 == i) = true → i < args.length := by
  intro i h
  rw [List.any_eq_true] at h
  obtain ⟨p, hp, hi⟩ := h
  have : ∀ (ks : List Nat) (vs : List VV) (p : Nat × VV), p ∈ zipT ks vs → p.1 ∈ ks := by
    intro ks
    induction ks with
    | nil => intro vs p hp; cases vs <;> simp [zipT] at hp
    | cons k ks ih =>
      intro vs p hp
      cases vs with
      | nil => simp [zipT] at hp
      | cons v vs =>
        simp only [zipT, List.mem_cons] at hp
        rcases hp with rfl | hp
        · simp
        · exact List.mem_cons_of_mem _ (ih vs p hp)
  have h2 := this _ _ _ hp
  rw [List.mem_range] at h2
  have : p.1 = i := by simpa using hi
  omega

theorem R2_R1b {v : VV} {a : Value} (hv : r1B v = true) (h : R2 c v a) : R1 c v a := by
  cases v <;> first | exact h | cases hv
theorem all2_R1 : ∀ {vs : List VV} {as : List Value}, vs.all r1B = true → All2 (R2 c) vs as → All2 (R1 c) vs as
  | [], _, _, .nil => .nil
  | _ :: _, _, hv, .cons h t => by
    simp only [List.all_cons, Bool.and_eq_true] at hv
    exact .cons (R2_R1b hv.1 h) (all2_R1 hv.2 t)
theorem resAll_agree {P : Program} {t t2 : Temps} {m : Nat} : ∀ {rs : List ResultVar}, (rs.all fun | .tmp d => d < m | .cell d _ => d < m) = true → Agree m t t2 → resultAll P t H rs = resultAll P t2 H rs
  | [], _, _ => rfl
  | r :: rs, h, ha => by
    simp only [List.all_cons, Bool.and_eq_true] at h
    simp only [resultAll]
    rw [resAll_agree h.2 ha]
    cases r with
    | tmp d => simp only [resultOne]; rw [ha d (of_decide_eq_true h.1)]
    | cell d ty => simp only [resultOne]; rw [ha d (of_decide_eq_true h.1)]

/-- A function that is carried out on the caller's memory. -/
theorem inl_ok {G1 : Cfg} {ct : Tab} {en : Ends} {F : FuncId} {fn : Func} {cd : Code}
    (hf : G1.P.funcs[F]? = some fn) (hb : bod fn = some cd) (hfo : okF F fn cd = true) (htab : TabOk G1 ct en cd) (hO : ∀ f args Q, G1.O f args Q → Sound G1.P f args Q) (hI : ∀ J, G1.I = some J → InlSound G1.P J) :
    InlSound G1.P ⟨fun g => g == F, fun _ args s k => inlRun G1 ct en fn cd args s k⟩ := by
  intro g args s k hB hr F0 H0 c H fl ta az hrel hfl ha
  have hg : g = F := by simpa using hB
  subst hg
  have hr : inlRun G1 ct en fn cd args s k := hr
  unfold inlRun at hr
  split at hr
  case isFalse => exact hr.elim
  rename_i hlen
  refine W_call hf hb hfo (by simp; rw [← ha.len]; exact hlen) ?_
  have hco : codeOk fn.ntmps cd = true := by
    have hfo := okF_ok hfo
    unfold funcOk at hfo
    simp only [Bool.and_eq_true] at hfo
    exact hfo.1.1
  have hres : (fn.results.toList.all fun | .tmp d => d < fn.ntmps | .cell d _ => d < fn.ntmps) = true := by
    have hfo := okF_ok hfo
    unfold funcOk at hfo
    simp only [Bool.and_eq_true] at hfo
    exact hfo.2
  generalize hn : fn.ntmps = n at *
  let t2 : Temps := fun i => if i < n then start az.toArray i else ta (i - n)
  have htok : Tok c (startV args ++ shiftT n s.t) t2 := by
    intro i
    rw [lookV_app]
    by_cases hi : i < n
    · have e2 : t2 i = start az.toArray i := if_pos hi
      rw [e2]
      have h1 := startV_tok ha i
      split
      · exact h1
      · rename_i hk
        rw [lookV_shift_lt n s.t i hi]
        rw [lookV_none _ _ (Bool.eq_false_iff.2 hk)] at h1
        exact h1
    · have e2 : t2 i = ta (i - n) := if_neg hi
      rw [e2]
      split
      · rename_i hk
        have := startV_keys args i hk
        omega
      · have := lookV_shift n s.t (i - n)
        rw [show i - n + n = i by omega] at this
        rw [this]
        exact hrel.2.2 (i - n)
  have hr0 : RelE F0 H0 c.hs ⟨startV args ++ shiftT n s.t, s.h⟩ t2 H := ⟨c, rfl, hrel.1, hrel.2.1, htok⟩
  have he : EnvF G1 H0 c.hs fl := ⟨hO, hfl, hI⟩
  have key : ∃ s', RelE F0 H0 c.hs s' t2 H ∧ vwp G1 ct en cd 1 s' (fun e s2 => match e with
      | .normal | .ret => vres G1 s2 fn.results.toList fun vs => if vs.all r1B = true then k (wrapV vs) ⟨unshiftT n s2.t, s2.h⟩ else False
      | _ => False) := by
    unfold cutE at hr
    split at hr
    · rename_i E hE
      obtain ⟨y, h1, h2⟩ := toSh_sound hr0 hr
      exact ⟨_, h2, (htab 1 E hE 1 cd rfl y _ h1).it⟩
    · exact ⟨_, hr0, hr⟩
  obtain ⟨s', hr', hv'⟩ := key
  have hW : W G1.P fl cd t2 H fun e ta' H' => ∃ s2, RelE F0 H0 c.hs s2 ta' H' ∧ (match e with
      | .normal | .ret => vres G1 s2 fn.results.toList fun vs => if vs.all r1B = true then k (wrapV vs) ⟨unshiftT n s2.t, s2.h⟩ else False
      | _ => False) := vwp_sound (n := n) he htab cd 1 (Nat.le_refl _) ⟨1, rfl⟩ hco hr' hv' fun e s2 ta' H' h1 h2 => ⟨s2, h1, h2⟩
  have hF := W_frame (t := start az.toArray) hco (fun i hi => (if_pos hi).symm) hW
  obtain ⟨N, e, t', H', h1, t2', h2, h3, s2, ⟨c2, q1, q2⟩, h5⟩ := hF
  refine ⟨N, e, t', H', h1, ?_⟩
  have fin : (vres G1 s2 fn.results.toList fun vs => if vs.all r1B = true then k (wrapV vs) ⟨unshiftT n s2.t, s2.h⟩ else False) → ∃ vs, resultAll G1.P t' H' fn.results.toList = some vs ∧ ∃ vv s2 c2, c2.hs = c.hs ∧ Rel F0 H0 c2 s2 ta H' ∧ R2 c2 vv (wrap1 vs) ∧ k vv s2 := by
    intro hk
    obtain ⟨vs, as2, g1, g2, g3⟩ := vres_sound q2 hk
    split at g1
    case isFalse => exact g1.elim
    rename_i hvs
    refine ⟨as2, (resAll_agree hres h2).trans g3, wrapV vs, ⟨unshiftT n s2.t, s2.h⟩, c2, q1, ⟨q2.1, q2.2.1, fun i => ?_⟩, wrapV_rel (all2_R1 hvs g2), g1⟩
    have h6 := q2.2.2 (i + n)
    rw [h3 (i + n) (by omega)] at h6
    have e2 : t2 (i + n) = ta i := by
      show (if i + n < n then _ else ta (i + n - n)) = ta i
      rw [if_neg (by omega), Nat.add_sub_cancel]
    have h6 : R2 c2 (lookV s2.t (i + n)) (t2 (i + n)) := h6
    rw [e2] at h6
    rw [lookV_unshift]
    exact h6
  cases e with
  | normal => exact fin h5
  | ret => exact fin h5
  | _ => exact h5.elim

/-- Two functions, each carried out on the caller's memory. -/
def inlTwo (J K : Inl) : Inl := ⟨fun g => J.B g || K.B g, fun g a s k => match J.B g with
  | true => J.run g a s k
  | false => K.run g a s k⟩
theorem inl_two {P : Program} {J K : Inl} (hJ : InlSound P J) (hK : InlSound P K) : InlSound P (inlTwo J K) := fun g args s k hB hr => by
  have hB : (J.B g || K.B g) = true := hB
  have hr : (match J.B g with
    | true => J.run g args s k
    | false => K.run g args s k) := hr
  cases h : J.B g with
  | true => rw [h] at hr; exact hJ g args s k h hr
  | false =>
    rw [h] at hr hB
    exact hK g args s k (by simpa using hB) hr

theorem hI_none {G : Cfg} (h : G.I = none) : ∀ J, G.I = some J → InlSound G.P J := fun J hJ => by rw [h] at hJ; cases hJ
theorem hI_some {G : Cfg} {J : Inl} (h : G.I = some J) (hJ : InlSound G.P J) : ∀ J', G.I = some J' → InlSound G.P J' := fun J' e => by rw [h] at e; cases e; exact hJ

/-- A function, by what the value machine comes to. -/
theorem vfun_told {ct : Tab} {en : Ends} {f : FuncId} {fn : Func} {cd : Code} {rt : ResT} (al : List Al) {args : List VV} {Q : List (Bool × List VV) → Prop} {R : Prop}
    (hf : G.P.funcs[f]? = some fn) (hb : bod fn = some cd) (hfo : okF f fn cd = true) (hsz : args.length ≤ fn.ntmps) (htab : TabOk G ct en cd) (hO : ∀ f args Q, G.O f args Q → Sound G.P f args Q) (hI : ∀ J, G.I = some J → InlSound G.P J)
    (h : R) (e : (vfun G ct en fn cd rt al args fun r => Q (slotsA rt al r)) = R) : Sound G.P f args Q :=
  vfun_sound al hf hb hfo hsz htab hO hI (e.symm ▸ h)

/-- A node, by what the value machine comes to. -/
theorem tab_node {ct : Tab} {en : Ends} {cd : Code} {m : Nat} {s : VS} {k : AExit → VS → Prop} {R : Prop} (h : R) (e : vwp G ct en cd m s k = R) : Tl (vwp G ct en cd m s k) := ⟨e.symm ▸ h⟩

/-- A loop told plainly is a loop of the value machine's. -/
theorem Loop.map {S S' : Type} {σ : S → S'} {B : S → (S → Prop) → Prop} {B' : S' → (S' → Prop) → Prop} (h : ∀ s X, B s (fun s => X (σ s)) → B' (σ s) X) {s : S} (hl : Loop B s) : Loop B' (σ s) :=
  fun X hX => hl (fun s => X (σ s)) fun s hs => hX _ (h s X hs)

/-- A loop: what holds at the head of each round, and a number that each round lowers. -/
theorem Loop.inv {S : Type} {B : S → (S → Prop) → Prop} (I : Nat → S → Prop) {n : Nat} {s : S} (h0 : I n s) (step : ∀ n s X, I n s → (∀ m s', m < n → I m s' → X s') → B s X) : Loop B s := by
  intro X hX
  have : ∀ n s, I n s → X s := by
    intro n
    induction n using Nat.strongRecOn with
    | _ n ih => exact fun s hs => hX s (step n s X hs fun m s' hm hs' => ih m hm s' hs')
  exact this n s h0

/-- A loop's node. -/
theorem tab_loop {S : Type} {ct : Tab} {en : Ends} {m : Nat} {s : VS} {k : AExit → VS → Prop} {cd b : Code} (hu : G.un = 0) (hc : cd = .loop b) (σ : S → VS) (y0 : S) {B : S → (S → Prop) → Prop} (hs : tidyE en m s = σ y0)
    (hB : ∀ y X, LB k en m (cutE ct (2 * m) (vwp G ct en b (2 * m))) (σ y) X = B y fun y => X (σ y)) (h : Loop B y0) : Tl (vwp G ct en cd m s k) := by
  subst hc
  refine ⟨?_⟩
  simp only [vwp, hu]
  rw [hs]
  exact Loop.map (fun y X hb => by rw [hB]; exact hb) h

theorem tab_loop2 {S : Type} {ct : Tab} {en : Ends} {f m : Nat} {s : VS} {k : AExit → VS → Prop} {root c : Code} (hu : G.un = 0) (hs : subC f root m = some c) (hc : subC 70 root m = some (.loop ((subC 70 root (2 * m)).getD .skip))) (σ : S → VS) (y0 : S) {B : S → (S → Prop) → Prop} (h1 : tidyE en m s = σ y0)
    (h2 : ∀ y X, LB k en m (cutE ct (2 * m) (vwp G ct en ((subC 70 root (2 * m)).getD .skip) (2 * m))) (σ y) X = B y fun y => X (σ y)) (h : Loop B y0) : Tl (vwp G ct en c m s k) :=
  tab_loop hu (subC_det hs hc) σ y0 h1 h2 h
theorem tab_node2 {ct : Tab} {en : Ends} {f m : Nat} {s : VS} {k : AExit → VS → Prop} {root c : Code} (hs : subC f root m = some c) {R : Prop} (hc : subC 70 root m = some ((subC 70 root m).getD .skip)) (e : vwp G ct en ((subC 70 root m).getD .skip) m s k = R) (h : R) : Tl (vwp G ct en c m s k) := by
  have := subC_det hs hc
  subst this
  exact tab_node h e

/-- Arguments, told by their shapes. -/
theorem unAF_sound {c : Ctx} {x : Lf} {v : VV} {a : Value} {K : x.den → Prop} (hr : R2 c v a) (h : unAF x v K) : ∃ d, K d ∧ R2 c (packF x d) a := by
  unfold unAF at h
  split at h
  · split at h
    · obtain ⟨e, h⟩ := Ty.at_inv h
      subst e
      exact ⟨_, h, hr⟩
    · obtain ⟨rfl, _⟩ := R2_pl hr
      exact ⟨[], h, none, _, rfl, ⟨Nat.zero_le _, .inl rfl⟩⟩
    · exact h.elim
  · obtain ⟨d, rfl, h1⟩ := unF_sound h
    exact ⟨d, h1, hr⟩
theorem unAFL_sound {c : Ctx} {x : Lf} {v : VV} {a : Value} {K : x.den → Prop} (hr : RL c v a) (h : unAF x v K) : ∃ d, K d ∧ RL c (packF x d) a := by
  unfold unAF at h
  split at h
  · split at h
    · obtain ⟨e, h⟩ := Ty.at_inv h
      subst e
      exact ⟨_, h, hr⟩
    · obtain ⟨rfl, _⟩ := hr
      exact ⟨[], h, none, _, rfl, ⟨Nat.zero_le _, .inl rfl⟩⟩
    · exact h.elim
  · obtain ⟨d, rfl, h1⟩ := unF_sound h
    exact ⟨d, h1, hr⟩
theorem unAL_sound {c : Ctx} : ∀ {l : List Lf} {vs : List VV} {as : List Value} {K : denL l → Prop}, All2 (RL c) vs as → unAL l vs K → ∃ d, K d ∧ All2 (RL c) (packL l d) as
  | [], vs, as, K, hr, h => by
    unfold unAL at h
    split at h
    · exact ⟨(), h, hr⟩
    · exact h.elim
  | x :: l, vs, as, K, hr, h => by
    unfold unAL at h
    split at h
    · cases hr with
      | cons hr t =>
        obtain ⟨a, h1, h2⟩ := unAFL_sound hr h
        obtain ⟨b, h3, h4⟩ := unAL_sound t h1
        exact ⟨(a, b), h3, .cons h2 h4⟩
    · exact h.elim
theorem unAF1_sound {c : Ctx} {x : Lf} {v : VV} {a : Value} {K : x.den → Prop} (hr : R1 c v a) (h : unAF x v K) : ∃ d, K d ∧ R1 c (packF x d) a := by
  have : ∃ d, K d ∧ RL c (packF x d) a := by
    refine unAFL_sound ?_ h
    cases v <;> first | exact hr | skip
    · exfalso
      cases x <;> simp [unAF, unF, sameV, sameL] at h
      rename_i o t; cases o <;> simp [unAF, unF] at h
    · exfalso
      cases x <;> simp [unAF, unF, sameV, sameL] at h
      rename_i o t; cases o <;> simp [unAF, unF] at h
    · exfalso
      cases x <;> simp [unAF, unF, sameV, sameL] at h
      rename_i o t; cases o <;> simp [unAF, unF] at h
  obtain ⟨d, k1, k2⟩ := this
  exact ⟨d, k1, RL_R1 k2⟩
theorem unACp_sound {c : Ctx} {x : Cp} {v : VV} {a : Value} {K : x.den → Prop} (hr : R1 c v a) (h : unACp x v K) : ∃ d, K d ∧ R1 c (packCp x d) a := by
  unfold unACp at h
  split at h
  · exact unAF1_sound hr h
  · split at h
    · obtain ⟨as, h1, h2⟩ := hr
      obtain ⟨d, k1, k2⟩ := unAL_sound h2 h
      exact ⟨d, k1, as, h1, k2⟩
    · exact h.elim
  · split at h
    · obtain ⟨b, B, h1, h2, h3⟩ := hr
      obtain ⟨d, k1, k2⟩ := unAL_sound h3 h
      exact ⟨d, k1, b, B, h1, h2, k2⟩
    · exact h.elim
theorem unAC_sound {c : Ctx} : ∀ {l : List Cp} {vs : List VV} {as : List Value} {K : denC l → Prop}, All2 (R1 c) vs as → unAC l vs K → ∃ d, K d ∧ All2 (R1 c) (packC l d) as
  | [], vs, as, K, hr, h => by
    unfold unAC at h
    split at h
    · exact ⟨(), h, hr⟩
    · exact h.elim
  | x :: l, vs, as, K, hr, h => by
    unfold unAC at h
    split at h
    · cases hr with
      | cons hr t =>
        obtain ⟨a, h1, h2⟩ := unACp_sound hr h
        obtain ⟨b, h3, h4⟩ := unAC_sound t h1
        exact ⟨(a, b), h3, .cons h2 h4⟩
    · exact h.elim
theorem unASh_sound {c : Ctx} {x : Sh} {v : VV} {a : Value} {K : x.den → Prop} (hr : R2 c v a) (h : unASh x v K) : ∃ d, K d ∧ R2 c (packSh x d) a := by
  unfold unASh at h
  split at h
  · exact unAF_sound hr h
  · split at h
    · obtain ⟨as, rfl, h2⟩ := R2_agg hr
      obtain ⟨d, k1, k2⟩ := unAL_sound h2 h
      exact ⟨d, k1, as, rfl, k2⟩
    · exact h.elim
  · split at h
    · obtain ⟨b, B, rfl, h2, h3⟩ := R2_bx hr
      obtain ⟨d, k1, k2⟩ := unAL_sound h3 h
      exact ⟨d, k1, b, B, rfl, h2, k2⟩
    · exact h.elim
  · split at h
    · split at h
      · rename_i e
        subst e
        obtain ⟨as, e1, h2⟩ := hr
        obtain ⟨d, k1, k2⟩ := unAC_sound h2 h
        exact ⟨d, k1, as, e1, k2⟩
      · exact h.elim
    · exact h.elim
theorem unA_sound {c : Ctx} : ∀ {l : List Sh} {vs : List VV} {as : List Value} {K : denS l → Prop}, All2 (R2 c) vs as → unA l vs K → ∃ d, K d ∧ All2 (R2 c) (packS l d) as
  | [], vs, as, K, hr, h => by
    unfold unA at h
    split at h
    · exact ⟨(), h, hr⟩
    · exact h.elim
  | x :: l, vs, as, K, hr, h => by
    unfold unA at h
    split at h
    · cases hr with
      | cons hr t =>
        obtain ⟨a, h1, h2⟩ := unASh_sound hr h
        obtain ⟨b, h3, h4⟩ := unA_sound t h1
        exact ⟨(a, b), h3, .cons h2 h4⟩
    · exact h.elim

/-- One function more in the table. -/
theorem tab_more {P : Program} {O : FuncId → List VV → (List (Bool × List VV) → Prop) → Prop} (hO : ∀ f args Q, O f args Q → Sound P f args Q) {f0 : FuncId} (sh : List Sh) (D : denS sh → (List (Bool × List VV) → Prop) → Prop) (hD : ∀ x Q, D x Q → Sound P f0 (packS sh x) Q) :
    ∀ f args Q, (if f = f0 then unA sh args (fun x => D x Q) else O f args Q) → Sound P f args Q := by
  intro f args Q h
  by_cases e : f = f0
  · rw [if_pos e] at h
    subst e
    intro F fl H as hF hfl ha
    obtain ⟨d, h1, h2⟩ := unA_sound ha h
    exact hD d Q h1 F fl H as hF hfl h2
  · rw [if_neg e] at h
    exact hO f args Q h

/-- The same, for a function that is told by the functions that are handed to it. -/
theorem tab_moreF {P : Program} {O : FuncId → List VV → (List (Bool × List VV) → Prop) → Prop} (hO : ∀ f args Q, O f args Q → Sound P f args Q) {f0 : FuncId} (gs : List Nat) (sh : List Sh) (D : denS sh → (List (Bool × List VV) → Prop) → Prop) (hD : ∀ x Q, D x Q → Sound P f0 (packS sh x) Q) :
    ∀ f args Q, (if f = f0 then (if eqNs (fnsOf args) gs = true then unA sh args (fun x => D x Q) else O f args Q) else O f args Q) → Sound P f args Q := by
  intro f args Q h
  by_cases e : f = f0
  · rw [if_pos e] at h
    by_cases e2 : eqNs (fnsOf args) gs = true
    · rw [if_pos e2] at h
      exact tab_more hO sh D hD f args Q (by rw [if_pos e]; exact h)
    · rw [if_neg e2] at h
      exact hO f args Q h
  · rw [if_neg e] at h
    exact hO f args Q h

/-! ### Tables, one function after the other -/

/-- Functions that are told. -/
structure Tb (P : Program) where
  O : FuncId → List VV → QT → Prop
  ok : ∀ f args Q, O f args Q → Sound P f args Q

def Tb.none {P : Program} : Tb P := ⟨fun _ _ _ => False, fun _ _ _ h => h.elim⟩
def Tb.add {P : Program} (t : Tb P) (f0 : FuncId) (sh : List Sh) {D : denS sh → QT → Prop} (hD : ∀ x Q, D x Q → Sound P f0 (packS sh x) Q) : Tb P :=
  ⟨fun f args Q => if f = f0 then unA sh args (fun x => D x Q) else t.O f args Q, tab_more t.ok sh D hD⟩
def Tb.addF {P : Program} (t : Tb P) (f0 : FuncId) (gs : List Nat) (sh : List Sh) {D : denS sh → QT → Prop} (hD : ∀ x Q, D x Q → Sound P f0 (packS sh x) Q) : Tb P :=
  ⟨fun f args Q => if f = f0 then (if eqNs (fnsOf args) gs = true then unA sh args (fun x => D x Q) else t.O f args Q) else t.O f args Q, tab_moreF t.ok gs sh D hD⟩
@[reducible] def Tb.cfg {P : Program} (t : Tb P) (tt : TypeId → Option Ty) (I : Option Inl) (hv : Bool) (un : Nat) : Cfg := ⟨P, tt, t.O, fun _ _ _ => False, I, hv, un⟩

/-- A function told by the table ahead of it. -/
theorem Tb.told {P : Program} (t : Tb P) {tt : TypeId → Option Ty} {I : Option Inl} {hv : Bool} {un : Nat} {ct : Tab} {en : Ends} {f : FuncId} {fn : Func} {cd : Code} {rt : ResT} (al : List Al) {args : List VV} {Q : QT} {R : Prop} (hI : ∀ J, I = some J → InlSound P J) (htab : TabOk (t.cfg tt I hv un) ct en cd)
    (hf : P.funcs[f]? = some fn) (hb : bod fn = some cd) (hfo : okF f fn cd = true) (hsz : args.length ≤ fn.ntmps) (h : R) (e : (vfun (t.cfg tt I hv un) ct en fn cd rt al args fun r => Q (slotsA rt al r)) = R) : Sound P f args Q :=
  vfun_told (G := t.cfg tt I hv un) al hf hb hfo hsz htab t.ok hI h e
theorem hI0 {P : Program} : ∀ J, (Option.none : Option Inl) = some J → InlSound P J := fun J h => by cases h
theorem hI1 {P : Program} {K : Inl} (h : InlSound P K) : ∀ J, some K = some J → InlSound P J := fun J e => by cases e; exact h

/-! ### Short forms -/

abbrev bd (fn : Func) : Code := (bod fn).getD .skip
/-- A text's nodes, by number. -/
def lk : List (Nat × Ent) → Tab
  | [] => fun _ => .none
  | p :: l => fun n => if n = p.1 then some p.2 else lk l n
def EOk (G : Cfg) (ct : Tab) (en : Ends) (root : Code) (p : Nat × Ent) : Prop :=
  ∀ f c, subC f root p.1 = some c → ∀ x k, p.2.P x k → Tl (vwp G ct en c p.1 (stOf p.2.live p.2.sh p.2.ob x) k)
def AllE (G : Cfg) (ct : Tab) (en : Ends) (root : Code) : List (Nat × Ent) → Prop
  | [] => True
  | p :: l => EOk G ct en root p ∧ AllE G ct en root l
theorem lk_ok {G : Cfg} {ct : Tab} {en : Ends} {root : Code} : ∀ {l : List (Nat × Ent)}, AllE G ct en root l → ∀ n E, lk l n = some E → EOk G ct en root (n, E)
  | [], _, n, E, e => by cases e
  | p :: l, ⟨h1, h2⟩, n, E, e => by
    unfold lk at e
    split at e
    · rename_i hn; subst hn; cases e; exact h1
    · exact lk_ok h2 n E e
theorem tabL {G : Cfg} {en : Ends} {root : Code} {l : List (Nat × Ent)} (h : AllE G (lk l) en root l) : TabOk G (lk l) en root :=
  fun n E e f c hs x k hp => lk_ok h n E e f c hs x k hp
theorem tab_loop3 {G : Cfg} {S : Type} {ct : Tab} {en : Ends} {f m : Nat} {k : AExit → VS → Prop} {root c : Code} {live : List Nat} {sh : List Sh} {ob : List OSh} {x : denS sh × denO ob} (hs : subC f root m = some c) (u : S → denS sh × denO ob) (y0 : S) {B : S → (S → Prop) → Prop} (h : Loop B y0)
    (hc : subC 70 root m = some (.loop ((subC 70 root (2 * m)).getD .skip)) := by kernel_rfl) (h1 : tidyE en m (stOf live sh ob x) = stOf live sh ob (u y0) := by kernel_rfl)
    (h2 : ∀ y X, LB k en m (cutE ct (2 * m) (vwp G ct en ((subC 70 root (2 * m)).getD .skip) (2 * m))) (stOf live sh ob (u y)) X = B y fun y => X (stOf live sh ob (u y)) := by intros; kernel_rfl) (hu : G.un = 0 := by rfl) : Tl (vwp G ct en c m (stOf live sh ob x) k) :=
  tab_loop2 hu hs hc (fun y => stOf live sh ob (u y)) y0 h1 h2 h
theorem tab_loop4 {G : Cfg} {S : Type} {ct : Tab} {en : Ends} {f m : Nat} {k : AExit → VS → Prop} {root c : Code} {s : VS} (hs : subC f root m = some c) (σ : S → VS) (y0 : S) {B : S → (S → Prop) → Prop} (h : Loop B y0)
    (hc : subC 70 root m = some (.loop ((subC 70 root (2 * m)).getD .skip)) := by kernel_rfl) (h1 : tidyE en m s = σ y0 := by kernel_rfl)
    (h2 : ∀ y X, LB k en m (cutE ct (2 * m) (vwp G ct en ((subC 70 root (2 * m)).getD .skip) (2 * m))) (σ y) X = B y fun y => X (σ y) := by intros; kernel_rfl) (hu : G.un = 0 := by rfl) : Tl (vwp G ct en c m s k) :=
  tab_loop2 hu hs hc σ y0 h1 h2 h
theorem tab_node3 {G : Cfg} {ct : Tab} {en : Ends} {f m : Nat} {s : VS} {k : AExit → VS → Prop} {root c : Code} (hs : subC f root m = some c) {R : Prop} (h : R) (hc : subC 70 root m = some ((subC 70 root m).getD .skip) := by kernel_rfl) (e : vwp G ct en ((subC 70 root m).getD .skip) m s k = R := by kernel_rfl) : Tl (vwp G ct en c m s k) :=
  tab_node2 hs hc e h

/-- Results, without a unit behind them. -/
@[reducible] def RD : ResT → Type
  | [] => Unit
  | [p] => p.2.den
  | p :: q :: l => p.2.den × RD (q :: l)
def RD.up : (rt : ResT) → RD rt → denR rt
  | [], _ => ()
  | [_], r => (r, ())
  | _ :: q :: l, r => (r.1, RD.up (q :: l) r.2)
theorem packS_len : ∀ (sh : List Sh) (x : denS sh), (packS sh x).length = sh.length
  | [], _ => rfl
  | _ :: l, x => congrArg (· + 1) (packS_len l x.2)
theorem put_ok {P : Program} (t : Tb P) {tt : TypeId → Option Ty} {I : Option Inl} {hv : Bool} {un : Nat} {f : FuncId} {fn : Func} (hf : P.funcs[f]? = some fn) {res : List Nat} {cos : List (Nat × List Co)} {l : List (Nat × Ent)} {sh : List Sh} {al : List Al} {rt : ResT} {D : denS sh → (RD rt → Prop) → Prop}
    (hI : ∀ J, I = some J → InlSound P J) (htab : AllE (t.cfg tt I hv un) (lk l) (mkEn (bd fn) res cos) (bd fn) l)
    (h : ∀ x (Q : QT), D x (fun r => Q (slotsA rt al (RD.up rt r))) → ∃ R : Prop, R ∧ (vfun (t.cfg tt I hv un) (lk l) (mkEn (bd fn) res cos) fn (bd fn) rt al (packS sh x) fun r => Q (slotsA rt al r)) = R)
    (hb : bod fn = some (bd fn)) (ho : okF f fn (bd fn) = true) (hs : Nat.ble sh.length fn.ntmps = true) (x : denS sh) (Q : QT) (hx : D x fun r => Q (slotsA rt al (RD.up rt r))) : Sound P f (packS sh x) Q := by
  obtain ⟨R, h1, e⟩ := h x Q hx
  exact t.told al hI (tabL htab) hf hb ho (by rw [packS_len]; exact Nat.le_of_ble_eq_true hs) h1 e
/-- One more function. -/
def Tb.put {P : Program} (t : Tb P) (tt : TypeId → Option Ty) (f : FuncId) {fn : Func} (hf : P.funcs[f]? = some fn) (res : List Nat) (cos : List (Nat × List Co)) (l : List (Nat × Ent)) (sh : List Sh) (al : List Al) (rt : ResT) (D : denS sh → (RD rt → Prop) → Prop)
    (htab : AllE (t.cfg tt .none false 0) (lk l) (mkEn (bd fn) res cos) (bd fn) l)
    (h : ∀ x (Q : QT), D x (fun r => Q (slotsA rt al (RD.up rt r))) → ∃ R : Prop, R ∧ (vfun (t.cfg tt .none false 0) (lk l) (mkEn (bd fn) res cos) fn (bd fn) rt al (packS sh x) fun r => Q (slotsA rt al r)) = R)
    (hb : bod fn = some (bd fn) := by kernel_rfl) (ho : okF f fn (bd fn) = true := by kernel_rfl) (hs : Nat.ble sh.length fn.ntmps = true := by kernel_rfl) : Tb P :=
  t.add f sh (put_ok t hf hI0 htab h hb ho hs)
def Tb.putX {P : Program} (t : Tb P) (tt : TypeId → Option Ty) (f : FuncId) {fn : Func} (hf : P.funcs[f]? = some fn) (res : List Nat) (cos : List (Nat × List Co)) (l : List (Nat × Ent)) (sh : List Sh) (al : List Al) (rt : ResT) (D : denS sh → (RD rt → Prop) → Prop) (gs : List Nat) (I : Option Inl) (hv : Bool) (un : Nat)
    (hI : ∀ J, I = some J → InlSound P J) (htab : AllE (t.cfg tt I hv un) (lk l) (mkEn (bd fn) res cos) (bd fn) l)
    (h : ∀ x (Q : QT), D x (fun r => Q (slotsA rt al (RD.up rt r))) → ∃ R : Prop, R ∧ (vfun (t.cfg tt I hv un) (lk l) (mkEn (bd fn) res cos) fn (bd fn) rt al (packS sh x) fun r => Q (slotsA rt al r)) = R)
    (hb : bod fn = some (bd fn) := by kernel_rfl) (ho : okF f fn (bd fn) = true := by kernel_rfl) (hs : Nat.ble sh.length fn.ntmps = true := by kernel_rfl) : Tb P :=
  t.addF f gs sh (put_ok t hf hI htab h hb ho hs)
def inlJ (G : Cfg) (f : FuncId) (fn : Func) (l : List (Nat × Ent)) (res : List Nat) (cos : List (Nat × List Co)) : Inl := ⟨fun g => g == f, fun _ args s k => inlRun G (lk l) (mkEn (bd fn) res cos) fn (bd fn) args s k⟩
theorem inlJ_ok {G : Cfg} {f : FuncId} {fn : Func} {l : List (Nat × Ent)} {res : List Nat} {cos : List (Nat × List Co)} (hf : G.P.funcs[f]? = some fn) (hO : ∀ f args Q, G.O f args Q → Sound G.P f args Q) (hI : ∀ J, G.I = some J → InlSound G.P J)
    (htab : AllE G (lk l) (mkEn (bd fn) res cos) (bd fn) l) (hb : bod fn = some (bd fn) := by kernel_rfl) (ho : okF f fn (bd fn) = true := by kernel_rfl) : InlSound G.P (inlJ G f fn l res cos) :=
  inl_ok hf hb ho (tabL htab) hO hI

end
end Go.Mach
