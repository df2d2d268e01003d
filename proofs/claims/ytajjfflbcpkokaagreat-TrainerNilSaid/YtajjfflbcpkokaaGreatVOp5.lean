/- What the value machine's operations do, the machine's do: values, cells, memory. Laws; no condition. -/
/- What the value machine's operations do, the machine's do: operation by operation. Laws; no condition. -/
/- What the value machine's operations do, the machine's do: the other operations. Laws; no condition. -/
/- What the value machine's operations do, the machine's do: slices, fields, indexes, built-in functions. Laws; no condition. -/
/- What the value machine's operations do, the machine's do: indexes of values, built-in functions, all together. Laws; no condition. -/
import Derived.Test.YtajjfflbcpkokaaGreatVApp
namespace Go.Mach
set_option linter.unusedVariables false

def Tok (c : Ctx) (t : List (Nat × VV)) (ta : Temps) : Prop := ∀ d, R2 c (lookV t d) (ta d)

theorem Tok.mono {c c' : Ctx} {t : List (Nat × VV)} {ta : Temps} (h : Tok c t ta) (hle : Le c c') : Tok c' t ta := fun d => R2.mono hle _ _ (h d)
theorem Tok.set {c : Ctx} {t : List (Nat × VV)} {ta : Temps} (h : Tok c t ta) {v : VV} {a : Value} (hv : R2 c v a) (d : Nat) : Tok c ((d, v) :: t) (tset ta d a) := fun i => by
  unfold lookV tset
  by_cases e : d = i
  · rw [if_pos e, if_pos e.symm]; exact hv
  · rw [if_neg e, if_neg (fun e' => e e'.symm)]; exact h i

section
variable {F0 : Fz} {H0 : AHeap} {c c' : Ctx} {H H' : AHeap} {t : List (Nat × VV)} {ta : Temps} {n : Nat}

theorem ev_rel (ht : Tok c t ta) {x : Operand} (hx : operandOk n x = true) : R2 c (evV t x) (eval ta x) := by
  cases x with
  | tmp i => exact ht i
  | const v => exact ⟨rfl, hx⟩
  | global g => cases hx
  | func f => exact ⟨[], rfl, .nil⟩

theorem R2_pl {v a : Value} (h : R2 c (.pl v) a) : a = v ∧ plainB v = true := h
theorem R2_fz {o : Bool} {T : Ty} {l : List T.den} {a : Value} (h : R2 c (.fz o T l) a) : ∃ ad k, a = .slice ad l.length k ∧ RSl (cutF o c.n0 c.F) (RT (cutF o c.n0 c.F) T) T.w ad k l := h
theorem R2_agg {l : List VV} {a : Value} (h : R2 c (.agg l) a) : ∃ as, a = .agg as.toArray ∧ All2 (RL c) l as := h
theorem R2_ptr {i off : Nat} {a : Value} (h : R2 c (.ptr i off) a) : ∃ b cs fr, c.h[i]? = some (.box cs fr) ∧ c.ρ i = some b ∧ a = .pointer (some ⟨b, off, none⟩) := h
theorem R2_fptr {o : Bool} {T : Ty} {l : List T.den} {ix off : Nat} {a : Value} (h : R2 c (.fptr o T l ix off) a) : ∃ b q B x cs, a = .pointer (some ⟨b, q + off, none⟩) ∧ cutF o c.n0 c.F b = some B ∧ l[ix]? = some x ∧ InB B.cells q T.w cs ∧ RT (cutF o c.n0 c.F) T x cs := h
theorem R2_bx {l : List VV} {off : Nat} {a : Value} (h : R2 c (.bx l off) a) : ∃ b B, a = .pointer (some ⟨b, off, none⟩) ∧ c.F b = some B ∧ All2 (RL c) l B.cells := h
theorem R2_tup {l : List VV} {a : Value} (h : R2 c (.tup l) a) : ∃ as, a = .tuple as.toArray ∧ All2 (R1 c) l as := h

theorem getO_get {h : List VO} {i : Nat} {o : VO} (e : getO h i = o) (hd : o ≠ .dead false) : h[i]? = some o := by
  unfold getO at e
  rw [List.getD_eq_getElem?_getD] at e
  cases k : h[i]? with
  | none => rw [k] at e; exact absurd e.symm hd
  | some o' => rw [k] at e; rw [show o' = o from e]

theorem R2_own {i : Nat} {q : Bool} {T : Ty} {l : List T.den} {fr : Bool} {a : Value} (h : R2 c (.own i) a) (hi : c.h[i]? = some (.lst q T l fr)) : a = sl (c.ρ i) l.length := by
  have h : RL c (.own i) a := h
  simp only [RL, hi] at h
  exact h
theorem R2_eptr {i ix off : Nat} {q : Bool} {T : Ty} {l : List T.den} {fr : Bool} {a : Value} (h : R2 c (.eptr i ix off) a) (hi : c.h[i]? = some (.lst q T l fr)) : ∃ b, c.ρ i = some b ∧ ix < l.length ∧ a = .pointer (some ⟨b, ix * T.w + off, none⟩) := by
  obtain ⟨b, h1, h2⟩ : RL c (.eptr i ix off) a := h
  rw [hi] at h2
  exact ⟨b, h1, h2⟩

theorem okL_cell {v : VV} {a : Value} (hv : okL v = true) (h : RL c v a) : holeB a = false ∧ Value.oneCell' a = true ∧ a.cells = #[a] ∧ R2 c v a ∧ R1 c v a := by
  cases v <;> simp only [okL] at hv <;> try (cases hv; done)
  case pl v =>
    obtain ⟨rfl, hp⟩ := h
    refine ⟨?_, ?_, ?_, ⟨rfl, hp⟩, ⟨rfl, hp⟩⟩ <;> cases a <;> first | rfl | (cases hp; done)
  case fz o T l => obtain ⟨ad, k, rfl, h2⟩ := h; exact ⟨rfl, rfl, rfl, ⟨ad, k, rfl, h2⟩, ⟨ad, k, rfl, h2⟩⟩
  case own i =>
    have h' := h
    simp only [RL] at h'
    cases e : c.h[i]? with
    | none => rw [e] at h'; exact h'.elim
    | some o =>
      rw [e] at h'
      cases o with
      | box _ _ => exact h'.elim
      | lst _ _ _ _ => simp only at h'; subst h'; exact ⟨rfl, rfl, rfl, h, h⟩
      | dead _ => obtain ⟨_, _, rfl⟩ := h'; exact ⟨rfl, rfl, rfl, h, h⟩
  case ptr i off => obtain ⟨b, cs, fr, h1, h2, rfl⟩ := h; exact ⟨rfl, rfl, rfl, ⟨b, cs, fr, h1, h2, rfl⟩, ⟨b, cs, fr, h1, h2, rfl⟩⟩
  case eptr i ix off =>
    have h' := h
    obtain ⟨b, h1, h2⟩ := h'
    cases e : c.h[i]? with
    | none => rw [e] at h2; exact h2.elim
    | some o =>
      rw [e] at h2
      cases o with
      | box _ _ => exact h2.elim
      | lst _ _ _ _ => obtain ⟨_, rfl⟩ := h2; exact ⟨rfl, rfl, rfl, h, h⟩
      | dead _ => obtain ⟨_, rfl⟩ := h2; exact ⟨rfl, rfl, rfl, h, h⟩
  case fptr o T l ix off => have h' := h; obtain ⟨b, q, B, x, cs, rfl, _⟩ := h'; exact ⟨rfl, rfl, rfl, h, h⟩

theorem okL_all {cs : List VV} {as : List Value} (hc : cs.all okL = true) (h : All2 (RL c) cs as) : as.all (fun v => !holeB v) = true ∧ as.all Value.oneCell' = true := by
  induction h with
  | nil => exact ⟨rfl, rfl⟩
  | cons h t ih =>
    simp only [List.all_cons, Bool.and_eq_true] at hc ⊢
    obtain ⟨h1, h2, _⟩ := okL_cell hc.1 h
    exact ⟨⟨by rw [h1]; rfl, (ih hc.2).1⟩, ⟨h2, (ih hc.2).2⟩⟩

/-- A value's cells. -/
theorem vcells_rel {v : VV} {a : Value} (hv : (vcells v).all okL = true) (h : R2 c v a) : All2 (RL c) (vcells v) a.cells.toList ∧ a.cells.size = (vcells v).length := by
  have key : ∀ v : VV, okL v = true → R2 c v a → vcells v = [v] → All2 (RL c) (vcells v) a.cells.toList ∧ a.cells.size = (vcells v).length := by
    intro v hv h e
    have h' : RL c v a := by cases v <;> first | exact h | (cases hv; done)
    rw [e, (okL_cell hv h').2.2.1]
    exact ⟨.cons h' .nil, rfl⟩
  cases v with
  | agg l =>
    obtain ⟨as, rfl, h2⟩ := R2_agg h
    exact ⟨h2, by simp [Value.cells, vcells, h2.len]⟩
  | _ => exact key _ (by simpa [vcells] using hv) h rfl

/-- A load out of cells. -/
theorem vload_sound {P : Program} {ty : TypeId} {cs : List VV} {as : List Value} {off : Nat} {K : VV → Prop} {es : Nat} {ex al : Bool} (h : All2 (RL c) cs as) (hv : vload (aTy P ty) cs off K) :
    ∃ v a, K v ∧ R1 c v a ∧ loadB P ty ⟨as, es, ex, al⟩ off = some a := by
  unfold vload at hv
  unfold loadB
  cases ht : aTy P ty with
  | struct sz fs =>
    simp only [ht] at hv ⊢
    split at hv
    · rename_i hc
      have h2 := (h.drop off).take sz
      refine ⟨_, _, hv, ⟨_, rfl, h2⟩, ?_⟩
      rw [if_pos ⟨by rw [← h.len]; exact hc.1, (okL_all hc.2 h2).1⟩]
    · exact hv.elim
  | array n e es' sz =>
    simp only [ht] at hv ⊢
    split at hv
    · rename_i hc
      have h2 := (h.drop off).take sz
      refine ⟨_, _, hv, ⟨_, rfl, h2⟩, ?_⟩
      rw [if_pos ⟨by rw [← h.len]; exact hc.1, (okL_all hc.2 h2).1⟩]
    · exact hv.elim
  | other => simp only [ht] at hv
  | one =>
    simp only [ht] at hv ⊢
    cases e : cs[off]? with
    | none => simp only [e] at hv
    | some v =>
      simp only [e] at hv
      split at hv
      · rename_i hk
        obtain ⟨a, h1, h2⟩ := h.get e
        obtain ⟨h3, _, _, _, h4⟩ := okL_cell hk h2
        exact ⟨v, a, hv, h4, by simp only [h1, h3]; rfl⟩
      · exact hv.elim
  | str =>
    simp only [ht] at hv ⊢
    cases e : cs[off]? with
    | none => simp only [e] at hv
    | some v =>
      simp only [e] at hv
      split at hv
      · rename_i hk
        obtain ⟨a, h1, h2⟩ := h.get e
        obtain ⟨h3, _, _, _, h4⟩ := okL_cell hk h2
        exact ⟨v, a, hv, h4, by simp only [h1, h3]; rfl⟩
      · exact hv.elim
  | slice e1 e2 e3 =>
    simp only [ht] at hv ⊢
    cases e : cs[off]? with
    | none => simp only [e] at hv
    | some v =>
      simp only [e] at hv
      split at hv
      · rename_i hk
        obtain ⟨a, h1, h2⟩ := h.get e
        obtain ⟨h3, _, _, _, h4⟩ := okL_cell hk h2
        exact ⟨v, a, hv, h4, by simp only [h1, h3]; rfl⟩
      · exact hv.elim

theorem R1_R2 {v : VV} {a : Value} (h : R1 c v a) : R2 c v a := by
  cases v <;> first | exact h | (exact (show False from h).elim)

/-- The part of a block that holds an element, for a load of it. -/
theorem loadB_part {P : Program} {ty : TypeId} {B : Blk} {q w : Nat} {cs : List Value} {off : Nat} {a : Value} (hp : InB B.cells q w cs) (hw : cs.length = w) {es : Nat} {ex al : Bool} (h : loadB P ty ⟨cs, es, ex, al⟩ off = some a) : loadB P ty B (q + off) = some a := by
  obtain ⟨h1, h2⟩ := hp
  have hd : ∀ k, off + k ≤ cs.length → (B.cells.drop (q + off)).take k = (cs.drop off).take k := by
    intro k hk
    rw [← h2, List.drop_take, List.drop_drop, List.take_take, Nat.min_eq_left (by omega)]
  have hg : off < cs.length → B.cells[q + off]? = cs[off]? := by
    intro hk
    rw [← h2, List.getElem?_take_of_lt (by omega), List.getElem?_drop]
  unfold loadB at h ⊢
  cases ht : aTy P ty with
  | struct sz fs =>
    simp only [ht] at h ⊢
    split at h
    · rename_i hc
      rw [hd sz hc.1, if_pos ⟨by omega, hc.2⟩]; exact h
    · cases h
  | array n e es' sz =>
    simp only [ht] at h ⊢
    split at h
    · rename_i hc
      rw [hd sz hc.1, if_pos ⟨by omega, hc.2⟩]; exact h
    · cases h
  | other => simp only [ht] at h; cases h
  | one =>
    simp only [ht] at h ⊢
    cases e : cs[off]? with
    | none => simp [e] at h
    | some v => rw [hg (ltl_of_get e), e]; rw [e] at h; exact h
  | str =>
    simp only [ht] at h ⊢
    cases e : cs[off]? with
    | none => simp [e] at h
    | some v => rw [hg (ltl_of_get e), e]; rw [e] at h; exact h
  | slice e1 e2 e3 =>
    simp only [ht] at h ⊢
    cases e : cs[off]? with
    | none => simp [e] at h
    | some v => rw [hg (ltl_of_get e), e]; rw [e] at h; exact h

theorem vsetCells_len (cs : List Value) (i : Nat) (vs : List Value) : (setCells cs i vs).length = cs.length := by
  induction vs generalizing cs i with
  | nil => rfl
  | cons v vs ih => simp only [setCells]; rw [ih]; simp
theorem vset_len (cs : List VV) (i : Nat) (vs : List VV) : (vset cs i vs).length = cs.length := by
  induction vs generalizing cs i with
  | nil => rfl
  | cons v vs ih => simp only [vset]; rw [ih]; simp
theorem vset_rel {R : VV → Value → Prop} {vs : List VV} {as : List Value} (h : All2 R vs as) : ∀ {cs : List VV} {bs : List Value} (i : Nat), All2 R cs bs → All2 R (vset cs i vs) (setCells bs i as) := by
  induction h with
  | nil => intro cs bs i k; exact k
  | cons h t ih => intro cs bs i k; exact ih (i + 1) (k.set i h)

/-- setCells within a part. -/
theorem setCells_part : ∀ (vs : List Value) (A cs D : List Value) (off : Nat), off + vs.length ≤ cs.length → setCells (A ++ cs ++ D) (A.length + off) vs = A ++ setCells cs off vs ++ D
  | [], A, cs, D, off, _ => rfl
  | v :: vs, A, cs, D, off, h => by
    simp only [List.length_cons] at h
    simp only [setCells]
    have e : (A ++ cs ++ D).set (A.length + off) v = A ++ cs.set off v ++ D := by
      rw [List.append_assoc, List.set_append_right _ _ (by omega), show A.length + off - A.length = off by omega, List.set_append_left _ _ (by omega), List.append_assoc]
    rw [e]
    exact setCells_part vs A (cs.set off v) D (off + 1) (by simp; omega)

/-- Values laid in their places. -/
theorem vfill_sound {place : Nat → Option (Nat × Nat)} {K : List VV → Prop} : ∀ (ps : List (Nat × VV)) (qs : List (Nat × Value)) {cs : List VV} {bs : List Value}, All2 (fun p q => p.1 = q.1 ∧ R2 c p.2 q.2) ps qs → All2 (RL c) cs bs → vfill place cs ps K →
    ∃ cs' bs', K cs' ∧ afill place bs qs = some bs' ∧ All2 (RL c) cs' bs' := by
  intro ps
  induction ps with
  | nil =>
    intro qs cs bs hp hc hv
    cases hp
    exact ⟨cs, bs, hv, rfl, hc⟩
  | cons p ps ih =>
    intro qs cs bs hp hc hv
    cases hp with
    | cons h t =>
      rename_i q qs
      obtain ⟨i, v⟩ := p
      obtain ⟨j, a⟩ := q
      obtain ⟨e, hr⟩ := h
      simp only at e hr
      subst e
      simp only [vfill] at hv
      simp only [afill]
      cases hpl : place i with
      | none => simp only [hpl] at hv
      | some os =>
        obtain ⟨off, size⟩ := os
        simp only [hpl] at hv ⊢
        split at hv
        · rename_i hc2
          obtain ⟨k1, k2⟩ := vcells_rel hc2.2.2 hr
          rw [if_pos ⟨by rw [k2]; exact hc2.1, by rw [← hc.len]; exact hc2.2.1⟩]
          exact ih qs t (vset_rel k1 off hc) hv
        · exact hv.elim

theorem plain_rel {cs : List Value} (h : cs.all plainB = true) : All2 (RL c) (cs.map VV.pl) cs := by
  induction cs with
  | nil => exact .nil
  | cons v cs ih =>
    simp only [List.all_cons, Bool.and_eq_true] at h
    exact .cons ⟨rfl, h.1⟩ (ih h.2)

theorem azero_plain {P : Program} {ty : TypeId} {z : List Value} (h : azero P ty = some z) : z.all plainB = true := by
  unfold azero at h
  split at h
  · rename_i z' hz
    split at h
    · rename_i hp; cases h; exact hp
    · cases h
  · cases h

theorem rowOf_plain {z : List Value} (h : z.all plainB = true) (n : Nat) : (rowOf z n).all plainB = true := by
  unfold rowOf
  rw [List.all_map, List.all_eq_true]
  intro i _
  simp only [Function.comp]
  by_cases hl : i % z.length < z.length
  · rw [getElem!_pos z _ hl]
    exact List.all_eq_true.1 h _ (List.getElem_mem hl)
  · rw [getElem!_neg z _ hl]
    rfl

/-! ### What is one's own told as lists -/

/-- These objects are read alone from now on, and what they hold is told. -/
def Froz (c : Ctx) (h : List VO) (i : Nat) : Prop := ∀ q T l fr, h[i]? = some (.lst q T l fr) → ∀ b, c.ρ i = some b → ∃ as ex, c.F b = some ⟨as, T.w, ex, true⟩ ∧ RC (cutF q c.n0 c.F) T l as

theorem Froz.mono (hle : Le c c') {h : List VO} {i : Nat} (hi : i < c.h.length) (k : Froz c h i) : Froz c' h i := fun q T l fr e b e' => by
  obtain ⟨as, ex, k1, k2⟩ := k q T l fr e b ((hle.ρ i hi) ▸ e')
  exact ⟨as, ex, hle.F _ _ k1, by rw [hle.n0]; exact k2.mono (cutF_ext hle.F)⟩

theorem freeze_len : ∀ (h : List VO) (is : List Nat), (freeze h is).length = h.length
  | h, [] => rfl
  | h, i :: is => by unfold freeze; rw [freeze_len]; simp

theorem frozen_lst {o : VO} {q : Bool} {T : Ty} {l : List T.den} {fr : Bool} (h : frozenO o = .lst q T l fr) : ∃ fr', o = .lst q T l fr' := by
  cases o with
  | lst q' T' l' fr' => cases h; exact ⟨fr', rfl⟩
  | box _ _ => cases h
  | dead _ => cases h

theorem Ok.freezes : ∀ (is : List Nat) {c : Ctx}, Ok F0 H0 c H → ∃ c', Le c c' ∧ c'.h = freeze c.h is ∧ c'.n0 = c.n0 ∧ c'.ρ = c.ρ ∧ Ok F0 H0 c' H ∧ ∀ i ∈ is, Froz c' c.h i
  | [], c, h => ⟨c, Le.refl c, rfl, rfl, rfl, h, fun i hi => by cases hi⟩
  | i :: is, c, h => by
    obtain ⟨F', h1, h2, h3, h4⟩ := h.freeze1 i
    obtain ⟨c', k1, k2, kn, kρ, k3, k4⟩ := Ok.freezes is h3
    refine ⟨c', h2.trans k1, k2, kn, kρ, k3, ?_⟩
    have hfi : ∀ (j : Nat) (q : Bool) (T : Ty) (l : List T.den) (fr : Bool), c.h[j]? = some (VO.lst q T l fr) → ∃ fr', (c.h.set i (frozenO (getO c.h i)))[j]? = some (VO.lst q T l fr') := by
      intro j q T l fr e
      by_cases hij : i = j
      · subst hij
        rw [List.getElem?_set_self (ltl_of_get e), getO_of e]
        exact ⟨true, rfl⟩
      · rw [List.getElem?_set_ne hij]; exact ⟨fr, e⟩
    intro j hj
    rcases List.mem_cons.1 hj with rfl | hj
    · intro q T l fr e b e'
      rw [kρ] at e'
      obtain ⟨as, ex, g1, g2⟩ := h4 q T l fr e b e'
      exact ⟨as, ex, k1.F _ _ g1, by rw [k1.n0]; exact g2.mono (cutF_ext k1.F)⟩
    · intro q T l fr e b e'
      obtain ⟨fr', e2⟩ := hfi j q T l fr e
      exact k4 j hj q T l fr' e2 b e'

/-- A cell, told as a list where it is one's own. -/
theorem resolve_rel {c1 : Ctx} (hok : Ok F0 H0 c H) (hle : Le c c1) (hρ : c1.ρ = c.ρ) {v : VV} {a : Value} (h : RL c v a) (hf : ∀ i ∈ ownsL v, Froz c1 c.h i) : RL c1 (resolve c.h v) a := by
  cases v with
  | own i =>
    unfold resolve
    simp only
    split
    · rename_i o T l fr e
      have hi := getO_get e (by intro e; cases e)
      have ha : a = sl (c.ρ i) l.length := R2_own (c := c) h hi
      have hfr := hf i (by simp [ownsL]) _ _ _ _ hi
      refine ⟨_, _, ha, ?_⟩
      cases hb : c.ρ i with
      | none =>
        have := ((hok.obj i _ hi).lst _ _ _ _ rfl).1 hb
        subst this
        exact ⟨Nat.le_refl _, .inl rfl⟩
      | some b =>
        obtain ⟨as, ex, k1, k2⟩ := hfr b (by rw [hρ]; exact hb)
        refine k2.slice (b := b) (B := ⟨as, T.w, ex, true⟩) rfl ?_ (.inr rfl)
        unfold cutF
        rw [if_neg (by intro hh; have := (hok.blk hb).1; have := hle.n0; omega)]
        exact k1
    · trivial
  | _ => exact RL.mono hle _ _ h

theorem RT_weak {F : Fz} {n0 : Nat} {o o' : Bool} (h : o' = true → o = true) : (cutF o n0 F).ext (cutF o' n0 F) := by
  intro b B hb
  unfold cutF at hb ⊢
  split at hb
  · cases hb
  · rename_i hh
    rw [if_neg (fun ⟨h1, h2⟩ => hh ⟨h h1, h2⟩)]; exact hb

theorem Ty.at_inv {T T' : Ty} {l : List T.den} {K : List T'.den → Prop} (h : Ty.at T T' l K) : ∃ e : T = T', K (e ▸ l) := by
  unfold Ty.at at h
  split at h
  · exact ⟨_, h⟩
  · exact h.elim

/-- What cells are told to stand for, they stand for. -/
theorem dec_sound : ∀ (T : Ty) {cs : List VV} {as : List Value} {K : T.den → Bool → List VV → Prop}, All2 (RL c) cs as → dec T cs K →
    ∃ x o rest as1 as2, K x o rest ∧ as = as1 ++ as2 ∧ RT (cutF o c.n0 c.F) T x as1 ∧ All2 (RL c) rest as2 := by
  intro T
  induction T with
  | int k =>
    intro cs as K h hd
    unfold dec at hd
    split at hd
    · split at hd
      · rename_i k' n r e; subst e
        cases h with
        | cons h t => obtain ⟨rfl, _⟩ := h; exact ⟨n, true, r, [_], _, hd, rfl, rfl, t⟩
      · exact hd.elim
    · exact hd.elim
  | bool =>
    intro cs as K h hd
    unfold dec at hd
    split at hd
    · rename_i b r
      cases h with
      | cons h t => obtain ⟨rfl, _⟩ := h; exact ⟨b, true, r, [_], _, hd, rfl, rfl, t⟩
    · exact hd.elim
  | str =>
    intro cs as K h hd
    unfold dec at hd
    split at hd
    · rename_i b r
      cases h with
      | cons h t => obtain ⟨rfl, _⟩ := h; exact ⟨b, true, r, [_], _, hd, rfl, rfl, t⟩
    · exact hd.elim
  | flt =>
    intro cs as K h hd
    unfold dec at hd
    split at hd
    · rename_i b r
      cases h with
      | cons h t => obtain ⟨rfl, _⟩ := h; exact ⟨b, true, r, [_], _, hd, rfl, rfl, t⟩
    · exact hd.elim
  | cpx =>
    intro cs as K h hd
    unfold dec at hd
    split at hd
    · rename_i b1 b2 r
      cases h with
      | cons h t => obtain ⟨rfl, _⟩ := h; exact ⟨(b1, b2), true, r, [_], _, hd, rfl, rfl, t⟩
    · exact hd.elim
  | ref T ih =>
    intro cs as K h hd
    unfold dec at hd
    split at hd
    · rename_i r
      cases h with
      | cons h t =>
        obtain ⟨rfl, _⟩ := h
        exact ⟨[], true, r, [_], _, hd, rfl, ⟨none, rfl, rfl⟩, t⟩
    · exact hd.elim
  | slc T ih =>
    intro cs as K h hd
    unfold dec at hd
    split at hd
    · rename_i o T' l r
      obtain ⟨e, hd⟩ := Ty.at_inv hd
      subst e
      cases h with
      | cons h t =>
        obtain ⟨ad, k, rfl, h2⟩ := h
        exact ⟨l, o, r, [_], _, hd, rfl, ⟨ad, k, rfl, h2⟩, t⟩
    · rename_i k r
      cases h with
      | cons h t =>
        obtain ⟨rfl, _⟩ := h
        exact ⟨[], true, r, [_], _, hd, rfl, ⟨none, k, rfl, ⟨Nat.zero_le _, .inl rfl⟩⟩, t⟩
    · exact hd.elim
  | unit =>
    intro cs as K h hd
    exact ⟨(), true, cs, [], as, hd, rfl, rfl, h⟩
  | pair A B iha ihb =>
    intro cs as K h hd
    unfold dec at hd
    obtain ⟨x, o, r, a1, a2, h1, rfl, h3, h4⟩ := iha h hd
    obtain ⟨y, o', r', b1, b2, k1, rfl, k3, k4⟩ := ihb h4 h1
    refine ⟨(x, y), o && o', r', a1 ++ b1, b2, k1, by rw [List.append_assoc], ⟨a1, b1, rfl, ?_, ?_⟩, k4⟩
    · exact RT.mono (RT_weak (fun e => by simp at e; exact e.1)) _ _ _ h3
    · exact RT.mono (RT_weak (fun e => by simp at e; exact e.2)) _ _ _ k3

theorem decN_sound (T : Ty) : ∀ (n : Nat) {cs : List VV} {as : List Value} {K : List T.den → Bool → Prop}, All2 (RL c) cs as → decN T n cs K → ∃ l o, K l o ∧ l.length = n ∧ RC (cutF o c.n0 c.F) T l as := by
  intro n
  induction n with
  | zero =>
    intro cs as K h hd
    unfold decN at hd
    split at hd
    · cases h; exact ⟨[], true, hd, rfl, RC.nil _ _⟩
    · exact hd.elim
  | succ n ih =>
    intro cs as K h hd
    unfold decN at hd
    obtain ⟨x, o, r, a1, a2, h1, rfl, h3, h4⟩ := dec_sound T h hd
    obtain ⟨l, o', k1, k2, k3⟩ := ih h4 h1
    refine ⟨x :: l, o && o', k1, by simp [k2], RC.cons ?_ ?_⟩
    · exact RT.mono (RT_weak (fun e => by simp at e; exact e.1)) _ _ _ h3
    · exact k3.mono (RT_weak (fun e => by simp at e; exact e.2))

end
end Go.Mach

namespace Go.Mach
set_option linter.unusedVariables false
set_option linter.unusedSimpArgs false

theorem All2.mapM {α β γ : Type} {R : α → β → Prop} {T : γ → β → Prop} {f : α → γ} : ∀ {l : List α} {m : List β}, All2 R l m → (∀ a ∈ l, ∀ b, R a b → T (f a) b) → All2 T (l.map f) m
  | _, _, .nil, _ => .nil
  | _, _, .cons h t, hf => .cons (hf _ List.mem_cons_self _ h) (t.mapM fun a ha => hf a (List.mem_cons_of_mem _ ha))

def VOut (F0 : Fz) (H0 : AHeap) (c : Ctx) (v : VV) (h' : List VO) (a : Value) (H' : AHeap) : Prop := ∃ c', Le c c' ∧ c'.h = h' ∧ Ok F0 H0 c' H' ∧ R2 c' v a

/-- The machine does what the value machine tells. -/
def Does (G : Cfg) (fl : Nat) (F0 : Fz) (H0 : AHeap) (c : Ctx) (H : AHeap) (op : Op) (ta : Temps) (K : VV → List VO → Prop) : Prop :=
  ∃ v h' a H', K v h' ∧ (prim G.P fl op (eval ta) H = some (.value a, H') ∨ (prim G.P fl op (eval ta) H = some (.skip, H') ∧ a = undef)) ∧ VOut F0 H0 c v h' a H'

section
variable {G : Cfg} {F0 : Fz} {H0 : AHeap} {c c' : Ctx} {H H' : AHeap} {t : List (Nat × VV)} {ta : Temps} {n fl : Nat} {K : VV → List VO → Prop}

theorem VOut.same (hok : Ok F0 H0 c H) {v : VV} {a : Value} (h : R2 c v a) : VOut F0 H0 c v c.h a H := ⟨c, Le.refl c, rfl, hok, h⟩

theorem does_pure {op : Op} {v : VV} {a : Value} (hok : Ok F0 H0 c H) (hk : K v c.h) (hp : prim G.P fl op (eval ta) H = some (.value a, H)) (hr : R2 c v a) : Does G fl F0 H0 c H op ta K :=
  ⟨v, c.h, a, H, hk, .inl hp, VOut.same hok hr⟩

theorem pure_pl {op : Op} {v : Value} (hok : Ok F0 H0 c H) (hk : K (.pl v) c.h) (hp : prim G.P fl op (eval ta) H = some (.value v, H)) (hv : plainB v = true) : Does G fl F0 H0 c H op ta K :=
  does_pure hok hk hp ⟨rfl, hv⟩

theorem op_move {x : Operand} (hok : Ok F0 H0 c H) (ht : Tok c t ta) (hx : operandOk n x = true) (hv : vprim G (.move x) t c.h K) : Does G fl F0 H0 c H (.move x) ta K :=
  does_pure hok hv rfl (ev_rel ht hx)
theorem op_assign {x : Operand} (hok : Ok F0 H0 c H) (ht : Tok c t ta) (hx : operandOk n x = true) (hv : vprim G (.assign x) t c.h K) : Does G fl F0 H0 c H (.assign x) ta K :=
  does_pure hok hv rfl (ev_rel ht hx)

theorem R2_top {c : Ctx} {b : Nat} {cs : List VV} {fr : Bool} : R2 (addC c (some b) (.box cs fr)) (.ptr c.h.length 0) (.pointer (some ⟨b, 0, none⟩)) :=
  ⟨b, cs, fr, addC_top, addC_ρ, rfl⟩
theorem R2_topl {c : Ctx} {a : Option Nat} {q : Bool} {T : Ty} {l : List T.den} {fr : Bool} {k : Nat} (hk : k = l.length) : R2 (addC c a (.lst q T l fr)) (.own c.h.length) (sl a k) := by
  subst hk
  show RL (addC c a (.lst q T l fr)) (.own c.h.length) (sl a l.length)
  simp only [RL, addC_top, addC_ρ]

theorem op_alloc {ty : TypeId} (hok : Ok F0 H0 c H) (hv : vprim G (.alloc ty) t c.h K) : Does G fl F0 H0 c H (.alloc ty) ta K := by
  simp only [vprim] at hv
  cases hz : azero G.P ty with
  | none => simp only [hz] at hv
  | some cs =>
    simp only [hz] at hv
    refine ⟨_, _, _, _, hv, .inl ?_, _, addC_le _ _, rfl, hok.addBox (plain_rel (azero_plain hz)), R2_top⟩
    simp only [prim, hz]

theorem op_box {ty : TypeId} {x : Operand} (hok : Ok F0 H0 c H) (ht : Tok c t ta) (hx : operandOk n x = true) (hv : vprim G (.box ty x) t c.h K) : Does G fl F0 H0 c H (.box ty x) ta K := by
  simp only [vprim] at hv
  split at hv
  · rename_i hc
    exact ⟨_, _, _, _, hv, .inl rfl, _, addC_le _ _, rfl, hok.addBox (vcells_rel hc (ev_rel ht hx)).1, R2_top⟩
  · exact hv.elim

theorem parts_rel (ht : Tok c t ta) {ps : List (Nat × Operand)} (hx : ∀ p ∈ ps, operandOk n p.2 = true) : All2 (fun p q => p.1 = q.1 ∧ R2 c p.2 q.2) (ps.map fun p => (p.1, evV t p.2)) (ps.map fun p => (p.1, eval ta p.2)) := by
  induction ps with
  | nil => exact .nil
  | cons p ps ih => exact .cons ⟨rfl, ev_rel ht (hx p List.mem_cons_self)⟩ (ih fun q hq => hx q (List.mem_cons_of_mem _ hq))

theorem op_build {ty : TypeId} {parts : Array (Nat × Operand)} (hok : Ok F0 H0 c H) (ht : Tok c t ta) (hx : ∀ p ∈ parts.toList, operandOk n p.2 = true) (hv : vprim G (.build ty parts) t c.h K) : Does G fl F0 H0 c H (.build ty parts) ta K := by
  simp only [vprim] at hv
  cases hz : azero G.P ty with
  | none => cases hty : aTy G.P ty <;> simp only [hty, hz] at hv
  | some z =>
    cases hty : aTy G.P ty with
    | struct sz fs =>
      simp only [hty, hz] at hv
      obtain ⟨cs, bs, h1, h2, h3⟩ := vfill_sound _ _ (parts_rel ht hx) (plain_rel (azero_plain hz)) hv
      refine does_pure hok h1 ?_ (a := .agg bs.toArray) ⟨bs, rfl, h3⟩
      simp only [prim, hty, hz, h2]
    | array m e es sz =>
      simp only [hty, hz] at hv
      obtain ⟨cs, bs, h1, h2, h3⟩ := vfill_sound _ _ (parts_rel ht hx) (plain_rel (azero_plain hz)) hv
      refine does_pure hok h1 ?_ (a := .agg bs.toArray) ⟨bs, rfl, h3⟩
      simp only [prim, hty, hz, h2]
    | one => simp only [hty, hz] at hv
    | str => simp only [hty, hz] at hv
    | slice _ _ _ => simp only [hty, hz] at hv
    | other => simp only [hty, hz] at hv

/-- A new block that is read alone. -/
def addF (c : Ctx) (n : Nat) (B : Blk) : Ctx := ⟨c.n0, fun b => if b = n then some B else c.F b, c.ρ, c.h, c.hs⟩
theorem addF_le (hok : Ok F0 H0 c H) (B : Blk) : Le c (addF c H.length B) where
  n0 := rfl
  F := fun b C e => by
    show (if b = H.length then some B else c.F b) = _
    rw [if_neg (by have := hok.below e; omega)]; exact e
  hs := rfl
  len := Nat.le_refl _
  ρ := fun _ _ => rfl
  h := fun i o e => ⟨o, e, VO.le_refl o⟩
theorem Ok.addF (hok : Ok F0 H0 c H) (B : Blk) (hB : B.alive = true) : Ok F0 H0 (addF c H.length B) (H ++ [B]) where
  n0 := hok.n0
  pre := hok.pre.trans (Pre.push _ _)
  fz := fun b C e => by
    have e : (if b = H.length then some B else c.F b) = some C := e
    split at e
    · rename_i hb; cases e; rw [hb]; exact new_get H B hB
    · exact (Pre.push H [B]).blk (hok.fz b C e)
  low := fun b hb => by
    show (if b = H.length then some B else c.F b) = _
    rw [if_neg (by have := hok.pre.len; omega)]
    exact hok.low b hb
  obj := fun i o hi => (hok.obj i o hi).mono (addF_le hok B) rfl (fun b e => by
    show (if b = H.length then some B else c.F b) = _
    rw [if_neg (by have := (hok.blk e).2; omega)]) (fun b C _ hC => (Pre.push H [B]).blk hC) (Pre.push H [B]).len
  inj := hok.inj
  bj := hok.bj
  dom := hok.dom

theorem op_buildSlice {ty : TypeId} {len : Nat} {parts : Array (Nat × Operand)} (hok : Ok F0 H0 c H) (ht : Tok c t ta) (hx : ∀ p ∈ parts.toList, operandOk n p.2 = true) (hv : vprim G (.buildSlice ty len parts) t c.h K) : Does G fl F0 H0 c H (.buildSlice ty len parts) ta K := by
  simp only [vprim] at hv
  cases hty : aTy G.P ty with
  | slice e es eb =>
    simp only [hty] at hv
    cases hz : azero G.P e with
    | none => cases hT : G.tt e <;> simp only [hz, hT] at hv
    | some z =>
      cases hT : G.tt e with
      | none =>
        simp only [hz, hT] at hv
        split at hv
        · rename_i hc
          obtain ⟨hc1, hc2⟩ := hc
          obtain ⟨cs, bs, h1, h2, h3⟩ := vfill_sound _ _ (parts_rel ht hx) (plain_rel (rowOf_plain (azero_plain hz) (len * es))) hv
          split at h1
          · rename_i hl
            obtain ⟨hl, _⟩ := hl
            subst hl
            subst hc2
            refine ⟨_, _, .slice (some ⟨H.length, 0, none⟩) cs.length cs.length, H ++ [⟨bs, 1, true, true⟩], h1, .inl ?_, addF c H.length ⟨bs, 1, true, true⟩, addF_le hok _, rfl, hok.addF _ rfl, ?_⟩
            · simp only [prim, hty, hc1, if_true, hz, h2]
            · exact ⟨H.length, _, _, rfl, by show (if H.length = H.length then _ else _) = _; rw [if_pos rfl], .inl rfl, h3.mono (RL.mono (addF_le hok _))⟩
          · exact h1.elim
        · exact hv.elim
      | some T =>
        simp only [hz, hT] at hv
        split at hv
        · rename_i hc
          obtain ⟨hc1, hc2⟩ := hc
          obtain ⟨cs, bs, h1, h2, h3⟩ := vfill_sound _ _ (parts_rel ht hx) (plain_rel (rowOf_plain (azero_plain hz) (len * es))) hv
          obtain ⟨c1, k1, k2, kn, kρ, k3, k4⟩ := hok.freezes (cs.flatMap ownsL)
          have hr : All2 (RL c1) (cs.map (resolve c.h)) bs := h3.mapM fun v hv a hr => resolve_rel hok k1 kρ hr fun i hi => k4 i (List.mem_flatMap.2 ⟨v, hv, hi⟩)
          obtain ⟨l, o, g1, g2, g3⟩ := decN_sound T len hr h1
          have hlen : c1.h.length = c.h.length := by rw [k2, freeze_len]
          subst hc2
          refine ⟨_, _, .slice (some ⟨H.length, 0, none⟩) len len, H ++ [⟨bs, T.w, true, true⟩], g1, .inl ?_, addC c1 (some H.length) (.lst o T l false), k1.trans (addC_le _ _), ?_, ?_, ?_⟩
          · simp only [prim, hty, hc1, if_true, hz, h2]
          · show c1.h ++ _ = _; rw [k2]
          · exact k3.addLst (ex := true) (Pre.push _ _) (Nat.le_refl _) (new_get H _ rfl) g3
          · rw [← hlen]; exact R2_topl g2.symm
        · exact hv.elim
  | one => simp only [hty] at hv
  | str => simp only [hty] at hv
  | struct _ _ => simp only [hty] at hv
  | array _ _ _ _ => simp only [hty] at hv
  | other => simp only [hty] at hv

theorem getD_of {α : Type} {l : List α} {i : Nat} {x d : α} (h : l[i]? = some x) : l.getD i d = x := by
  rw [List.getD_eq_getElem?_getD, h]; rfl

/-- What a cell of numbers stands for. -/
def valP : VV → Value
  | .pl v => v
  | _ => undef
theorem intsAt_rel (c : Ctx) (k : IntKind) (l : List Int) : ∀ (m i : Nat), All2 (RL c) (intsAt k l i m) ((intsAt k l i m).map valP)
  | 0, _ => .nil
  | m + 1, i => .cons ⟨rfl, rfl⟩ (intsAt_rel c k l m (i + 1))
theorem intsAt_good (k : IntKind) (l : List Int) : ∀ (m i : Nat), ((intsAt k l i m).map valP).all (fun v => !holeB v) = true
  | 0, _ => rfl
  | m + 1, i => by
    show ((!holeB (.int k (l.getD i 0))) && ((intsAt k l (i + 1) m).map valP).all (fun v => !holeB v)) = true
    rw [intsAt_good k l m (i + 1)]; rfl
theorem intsAt_cells {F : Fz} {k : IntKind} {l : List Int} {as : List Value} (h : RC F (.int k) l as) : ∀ (m i : Nat), i + m ≤ l.length → (as.drop i).take m = (intsAt k l i m).map valP ∧ i + m ≤ as.length := by
  have hl : as.length = l.length := by have := h.1; simpa [Ty.w] using this
  intro m
  induction m with
  | zero => intro i hi; exact ⟨by simp [intsAt], by omega⟩
  | succ m ih =>
    intro i hi
    obtain ⟨cs, ⟨h1, h2⟩, h3⟩ := h.2 i _ (List.getElem?_eq_getElem (show i < l.length by omega))
    have h3 : cs = [.int k (l[i])] := h3
    subst h3
    have hlt : i < as.length := by omega
    have h2 : (as.drop (i * 1)).take 1 = [.int k l[i]] := h2
    rw [Nat.mul_one, List.drop_eq_getElem_cons hlt, List.take_succ_cons, List.take_zero] at h2
    refine ⟨?_, by omega⟩
    rw [List.drop_eq_getElem_cons hlt, List.take_succ_cons, (ih (i + 1) (by omega)).1]
    simp only [intsAt, List.map_cons, valP]
    have h4 := (List.cons.inj h2).1
    rw [h4, List.getD_eq_getElem?_getD, List.getElem?_eq_getElem (show i < l.length by omega)]
    rfl
theorem velem_cases {a : ATy} {o : Bool} {T : Ty} {l : List T.den} {ix off : Nat} {K : VV → Prop} (h : velem a o T l ix off K) :
    vload a (enc o T (l.getD ix T.dflt)) off K ∨ ∃ k l' m e sz, ∃ (hT : T = .int k), HEq l' l ∧ a = .array m e 1 sz ∧ sz = m ∧ off = 0 ∧ 0 < m ∧ ix + m ≤ List.length (l' : List Int) ∧ K (.agg (intsAt k l' ix m)) := by
  cases T with
  | int k =>
    cases a with
    | array m e es sz =>
      simp only [velem] at h
      split at h
      · rename_i hc
        obtain ⟨rfl, h2, h3, h4⟩ := hc
        exact .inr ⟨k, l, m, e, sz, rfl, HEq.rfl, rfl, h2, h3, h4, h.1, h.2⟩
      · exact .inl h
    | _ => exact .inl h
  | ref T =>
    simp only [velem] at h
    split at h
    case h_2 => exact h.elim
    split at h
    case isFalse => exact h.elim
    rename_i h0
    subst h0
    left
    show vload .one (enc o (.ref T) (l.getD ix [])) 0 K
    match e : l.getD ix [] with
    | [] => exact h.1 (fun x hx => by rw [e] at hx; cases hx)
    | [x] => exact h.2 x e
    | _ :: _ :: _ => exact h.1 (fun x hx => by rw [e] at hx; cases hx)
  | _ => exact .inl h

theorem op_load {ty : TypeId} {x : Operand} (hok : Ok F0 H0 c H) (ht : Tok c t ta) (hx : operandOk n x = true) (hv : vprim G (.load ty x) t c.h K) : Does G fl F0 H0 c H (.load ty x) ta K := by
  have hr := ev_rel ht hx
  simp only [vprim] at hv
  cases he : evV t x with
  | ptr i off =>
    rw [he] at hr
    simp only [he] at hv
    obtain ⟨b, cs', fr', h1, h2, h3⟩ := R2_ptr hr
    split at hv
    · rename_i cs fr hg
      have hi := getO_get hg (by intro e; cases e)
      rw [hi] at h1; cases h1
      obtain ⟨b', as, k1, k2, k3, _⟩ := (hok.obj i _ hi).box _ _ rfl
      rw [h2] at k1; cases k1
      obtain ⟨v, a, g1, g2, g3⟩ := vload_sound (es := 0) (ex := true) (al := true) k3 hv
      exact does_pure hok g1 (prim_load h3 (load_blk k2 g3)) (R1_R2 g2)
    · exact hv.elim
  | eptr i ix off =>
    rw [he] at hr
    simp only [he] at hv
    split at hv
    · rename_i q T l fr hg
      have hi := getO_get hg (by intro e; cases e)
      obtain ⟨b, h1, h2, h3⟩ := R2_eptr hr hi
      obtain ⟨as, ex, k1, k2, _⟩ := ((hok.obj i _ hi).lst _ _ _ _ rfl).2 b h1
      obtain ⟨cs, g1, g2⟩ := k2.2 ix _ (List.getElem?_eq_getElem h2)
      rcases velem_cases hv with hv | ⟨k, l', m, e, sz, hT, hl', hty, he1, he2, he3, hle, hK⟩
      · rw [getD_of (List.getElem?_eq_getElem h2)] at hv
        obtain ⟨v, a, f1, f2, f3⟩ := vload_sound (es := 0) (ex := true) (al := true) (RT.enc (c := c) T _ _ g2) hv
        exact does_pure hok f1 (prim_load h3 (load_blk k1 (loadB_part (B := ⟨as, T.w, ex, true⟩) g1 (RT.len _ _ _ g2) f3))) (R1_R2 f2)
      · subst hT
        cases hl'
        subst he1 he2
        have hcs : (as.drop ix).take sz = (intsAt k l' ix sz).map valP ∧ ix + sz ≤ as.length := intsAt_cells k2 sz ix hle
        refine does_pure hok hK (a := .agg ((as.drop ix).take sz).toArray) ?_ ⟨_, rfl, ?_⟩
        · have hc : cellsAt H ⟨b, ix, none⟩ sz = some ((as.drop ix).take sz) := by
            unfold cellsAt
            simp only [k1]
            rw [if_pos ⟨hcs.2, by rw [hcs.1]; exact intsAt_good k l' sz ix⟩]
          simp only [prim, h3, Ty.w, Nat.mul_one, Nat.add_zero, loadA, hty, hc, Option.map_some]
        · rw [hcs.1]
          exact intsAt_rel c k l' sz ix
    · exact hv.elim
  | fptr o T l ix off =>
    rw [he] at hr
    simp only [he] at hv
    obtain ⟨b, q, B, y, cs, h1, h2, h3, h4, h5⟩ := R2_fptr hr
    rw [getD_of h3] at hv
    obtain ⟨v, a, f1, f2, f3⟩ := vload_sound (es := 0) (ex := true) (al := true) (RT.enc (c := c) T _ _ h5) hv
    exact does_pure hok f1 (prim_load h1 (load_blk (hok.fz b B (cutF_le _ _ h2)) (loadB_part h4 (RT.len _ _ _ h5) f3))) (R1_R2 f2)
  | bx cs off =>
    rw [he] at hr
    simp only [he] at hv
    obtain ⟨b, B, h1, h2, h3⟩ := R2_bx hr
    obtain ⟨v, a, f1, f2, f3⟩ := vload_sound (es := B.es) (ex := B.exact) (al := B.alive) h3 hv
    exact does_pure hok f1 (prim_load h1 (load_blk (hok.fz b B h2) f3)) (R1_R2 f2)
  | _ => simp only [he] at hv

theorem freeze_lst : ∀ (is : List Nat) {h : List VO} {i : Nat} {q : Bool} {T : Ty} {l : List T.den} {fr : Bool}, h[i]? = some (.lst q T l fr) → ∃ fr', (freeze h is)[i]? = some (.lst q T l fr')
  | [], h, i, q, T, l, fr, e => ⟨fr, e⟩
  | j :: is, h, i, q, T, l, fr, e => by
    unfold freeze
    by_cases hij : j = i
    · subst hij
      refine freeze_lst is (fr := true) ?_
      rw [List.getElem?_set_self (ltl_of_get e), getO_of e]; rfl
    · refine freeze_lst is (fr := fr) ?_
      rw [List.getElem?_set_ne hij]; exact e

theorem freeze_bx : ∀ (is : List Nat) {h : List VO} {i : Nat} {cs : List VV}, h[i]? = some (.box cs true) → (freeze h is)[i]? = some (.box cs true)
  | [], _, _, _, e => e
  | j :: is, h, i, cs, e => by
    unfold freeze
    by_cases hij : j = i
    · subst hij
      refine freeze_bx is ?_
      rw [List.getElem?_set_self (ltl_of_get e), getO_of e]; rfl
    · refine freeze_bx is ?_
      rw [List.getElem?_set_ne hij]; exact e

theorem op_store {ty : TypeId} {x y : Operand} (hfl : fl ≤ H0.length) (hok : Ok F0 H0 c H) (ht : Tok c t ta) (hx : operandOk n x = true) (hy : operandOk n y = true) (hv : vprim G (.store ty x y) t c.h K) : Does G fl F0 H0 c H (.store ty x y) ta K := by
  have hr := ev_rel ht hx
  have hs := ev_rel ht hy
  simp only [vprim] at hv
  cases he : evV t x with
  | ptr i off =>
    rw [he] at hr
    simp only [he] at hv
    obtain ⟨b, cs', fr', h1, h2, h3⟩ := R2_ptr hr
    split at hv
    · rename_i cs hg
      have hi := getO_get hg (by intro e; cases e)
      rw [hi] at h1; cases h1
      split at hv
      · rename_i hc
        obtain ⟨hc1, hc2, hc3, hc4⟩ := hc
        obtain ⟨b', as, k1, k2, k3, k4, k5⟩ := (hok.obj i _ hi).box _ _ rfl
        rw [h2] at k1; cases k1
        obtain ⟨g1, g2⟩ := vcells_rel hc3 hs
        have hlen : (eval ta y).cells.toList.length = (vcells (evV t y)).length := by rw [Array.length_toList, g2]
        have hsb : storeB G.P ty ⟨as, 0, true, true⟩ off (eval ta y) = some ⟨setCells as off (eval ta y).cells.toList, 0, true, true⟩ := by
          unfold storeB
          rw [if_pos ⟨by rw [g2]; exact hc1, by rw [hlen, ← k3.len]; exact hc2, (okL_all hc3 g1).2⟩]
        obtain ⟨H', f1, f2, f3⟩ := store_blk (P := G.P) (fl := fl) k2 (by have := (hok.blk h2).1; have := hok.n0; omega) hsb
        have hle : Le c (setC c i (.box (vset cs' off (vcells (evV t y))) false)) := setC_le hi trivial
        refine ⟨.undef, _, undef, H', hv, .inr ⟨?_, rfl⟩, setC c i (.box (vset cs' off (vcells (evV t y))) false), hle, rfl, ?_, trivial⟩
        · simp only [prim, h3, f1, Option.map_some]
        · refine hok.upd hi (by intro e; cases e) trivial h2 (k5 rfl) f3 ?_ (by intro e; cases e)
          exact {
            lo := fun b' e => by
              have e : c.ρ i = some b' := e
              have := hok.blk e
              rw [f3.len]; exact this
            box := fun cs2 fr2 e => by
              cases e
              exact ⟨b, _, h2, f2, (vset_rel g1 off k3).mono (RL.mono hle), fun e => (by cases e), fun _ => k5 rfl⟩
            lst := fun _ _ _ _ e => (by cases e)
            dead := fun _ e => (by cases e) }
      · exact hv.elim
    · exact hv.elim
  | eptr i ix off =>
    rw [he] at hr
    simp only [he] at hv
    split at hv
    · rename_i q T l hg
      have hi := getO_get hg (by intro e; cases e)
      split at hv
      case h_2 => exact hv.elim
      rename_i j hey
      split at hv
      case h_2 => exact hv.elim
      rename_i cs frj hgj
      have hj := getO_get hgj (by intro e; cases e)
      split at hv
      case isFalse => exact hv.elim
      rename_i hc
      obtain ⟨hc1, rfl⟩ := hc
      split at hv
      case h_2 => exact hv.elim
      rename_i q1 T1 l1 hg1
      rw [hey] at hs
      obtain ⟨bj, cs', fr', e1, e2, e3⟩ := R2_ptr hs
      obtain ⟨b, h1, h2, h3⟩ := R2_eptr hr hi
      obtain ⟨c1, k1, k2, kn, kρ, k3, k4⟩ := hok.freezes (j :: cs.flatMap ownsL)
      have hi1 : c1.h[i]? = some (.lst q (.ref T) l false) := by
        obtain ⟨fr', e1⟩ := freeze_lst (j :: cs.flatMap ownsL) hi
        have e2 := getO_get hg1 (by intro e; cases e)
        rw [e1] at e2
        cases e2
        rw [k2]; exact e1
      have hj1 : c1.h[j]? = some (.box cs true) := by
        rw [k2]
        unfold freeze
        refine freeze_bx (cs.flatMap ownsL) ?_
        rw [List.getElem?_set_self (ltl_of_get hj), getO_of hj]; rfl
      have hρ1 : c1.ρ i = some b := by rw [kρ]; exact h1
      obtain ⟨as, ex, m1, m2, m3, m4⟩ := ((k3.obj i _ hi1).lst _ _ _ _ rfl).2 b hρ1
      obtain ⟨as', ex', m1', m2', _⟩ := ((hok.obj i _ hi).lst _ _ _ _ rfl).2 b h1
      rw [m1] at m1'; cases m1'
      obtain ⟨bj1, bs, n1, n2, n3, n4, _⟩ := (k3.obj j _ hj1).box _ _ rfl
      rw [kρ, e2] at n1; cases n1
      obtain ⟨bj2, bs', p1, p2, p3, _⟩ := (hok.obj j _ hj).box _ _ rfl
      rw [e2] at p1; cases p1
      rw [n2] at p2; cases p2
      obtain ⟨ds, g1, g2⟩ := m2'.2 ix _ (List.getElem?_eq_getElem h2)
      have hcl : ds.length = 1 := RT.len _ _ _ g2
      have hrel1 : All2 (RL c1) (cs.map (resolve c.h)) bs :=
        p3.mapM fun v hv' a hr' => resolve_rel hok k1 kρ hr' fun j' hj' => k4 j' (List.mem_cons_of_mem _ (List.mem_flatMap.2 ⟨v, hv', hj'⟩))
      obtain ⟨z, o', rest, a1, a2, w1, w2, w3, w4⟩ := dec_sound T hrel1 hv
      subst w2
      have hw3 := RT.len _ _ _ w3
      have hcell : (eval ta y).cells.toList = [.pointer (some ⟨bj, 0, none⟩)] := by rw [e3]; rfl
      have hT : RT (cutF false c1.n0 c1.F) (.ref T) [z] [.pointer (some ⟨bj, 0, none⟩)] := by
        refine ⟨some ⟨bj, 0, none⟩, rfl, bj, ⟨a1 ++ a2, 0, true, true⟩, a1, rfl, ?_, ⟨by show 0 + T.w ≤ (a1 ++ a2).length; rw [List.length_append]; omega, ?_⟩, RT.mono (RT_weak (fun e => by cases e)) _ _ _ w3⟩
        · unfold cutF
          rw [if_neg (by simp)]
          exact n4 rfl
        · show ((a1 ++ a2).drop 0).take T.w = a1
          rw [List.drop_zero, ← hw3, List.take_left]
      have hb2 : ix * 1 + 1 ≤ as.length := g1.1
      have hsb : storeB G.P ty ⟨as, 1, ex, true⟩ (ix * 1 + 0) (eval ta y) = some ⟨setCells as (ix * 1 + 0) (eval ta y).cells.toList, 1, ex, true⟩ := by
        unfold storeB
        have hsz : (eval ta y).cells.size = 1 := by rw [← Array.length_toList, hcell]; rfl
        rw [if_pos ⟨by rw [hsz]; exact hc1, by rw [hcell]; show _ + 1 ≤ as.length; omega, by rw [hcell]; rfl⟩]
      have hset : setCells as (ix * 1 + 0) (eval ta y).cells.toList = as.take (ix * 1) ++ [.pointer (some ⟨bj, 0, none⟩)] ++ as.drop (ix * 1 + 1) := by
        have e0 : as = as.take (ix * 1) ++ ds ++ as.drop (ix * 1 + 1) := by
          have := g1.2
          rw [show Ty.w (.ref T) = 1 from rfl] at this
          rw [← this, List.append_assoc, ← List.drop_drop, List.take_append_drop, List.take_append_drop]
        have e1 : (as.take (ix * 1)).length = ix * 1 := by rw [List.length_take]; omega
        have e2 := setCells_part (eval ta y).cells.toList (as.take (ix * 1)) ds (as.drop (ix * 1 + 1)) 0 (by rw [hcell, hcl]; exact Nat.le_refl _)
        rw [← e0, e1] at e2
        rw [e2, hcell]
        match ds, hcl with
        | [d], _ => rfl
      obtain ⟨H', u1, u2, u3⟩ := store_blk (P := G.P) (fl := fl) m1 (by have := (hok.blk h1).1; have := hok.n0; omega) hsb
      have hle : Le c1 (setC c1 i (.lst false (.ref T) (l.set ix [z]) false)) := setC_le hi1 ⟨rfl, by simp⟩
      refine ⟨.undef, _, undef, H', w1, .inr ⟨?_, rfl⟩, setC c1 i (.lst false (.ref T) (l.set ix [z]) false), k1.trans hle, ?_, ?_, trivial⟩
      · simp only [prim, h3]
        rw [show ix * Ty.w (.ref T) + 0 = ix * 1 + 0 from rfl, u1]
        rfl
      · show c1.h.set i _ = _
        rw [k2]
      · refine k3.upd hi1 (by intro e; cases e) ⟨rfl, by simp⟩ hρ1 (m4 rfl) u3 ?_ (by intro e; cases e)
        exact {
          lo := fun b' e => by
            have e : c1.ρ i = some b' := e
            have := k3.blk e
            rw [u3.len]; exact this
          box := fun _ _ e => (by cases e)
          lst := fun q2 T2 l2 fr2 e => by
            cases e
            refine ⟨fun e => (by have e : c1.ρ i = none := e; rw [hρ1] at e; cases e), fun b' e => ?_⟩
            have e : c1.ρ i = some b' := e
            rw [hρ1] at e; cases e
            refine ⟨_, ex, u2, ?_, fun e => (by cases e), fun _ => m4 rfl⟩
            rw [hset]
            exact (m2.mono (RT_weak (o' := false) (fun e => by cases e))).set h2 hT
          dead := fun _ e => (by cases e) }
    · rename_i q T l hnr hg
      have hi := getO_get hg (by intro e; cases e)
      split at hv
      · rename_i hc
        obtain ⟨hc1, hc2, hc3, hc4⟩ := hc
        split at hv
        · rename_i q1 T1 l1 hg1
          obtain ⟨b, h1, h2, h3⟩ := R2_eptr hr hi
          obtain ⟨c1, k1, k2, kn, kρ, k3, k4⟩ := hok.freezes ((vset (enc q T (l.getD ix T.dflt)) off (vcells (evV t y))).flatMap ownsL)
          have hi1 : c1.h[i]? = some (.lst q T l false) := by
            obtain ⟨fr', e1⟩ := freeze_lst ((vset (enc q T (l.getD ix T.dflt)) off (vcells (evV t y))).flatMap ownsL) hi
            have e2 := getO_get hg1 (by intro e; cases e)
            rw [e1] at e2
            cases e2
            rw [k2]; exact e1
          have hρ1 : c1.ρ i = some b := by rw [kρ]; exact h1
          obtain ⟨as, ex, m1, m2, m3, m4⟩ := ((k3.obj i _ hi1).lst _ _ _ _ rfl).2 b hρ1
          obtain ⟨as', ex', m1', m2', _⟩ := ((hok.obj i _ hi).lst _ _ _ _ rfl).2 b h1
          rw [m1] at m1'; cases m1'
          obtain ⟨cs, g1, g2⟩ := m2'.2 ix _ (List.getElem?_eq_getElem h2)
          have hcl := RT.len _ _ _ g2
          rw [getD_of (List.getElem?_eq_getElem h2)] at hv k4
          obtain ⟨f1, f2⟩ := vcells_rel hc3 hs
          have hlen : (eval ta y).cells.toList.length = (vcells (evV t y)).length := by rw [Array.length_toList, f2]
          have hrel : All2 (RL c) (vset (enc q T l[ix]) off (vcells (evV t y))) (setCells cs off (eval ta y).cells.toList) := vset_rel f1 off (RT.enc (c := c) T _ _ g2)
          have hrel1 : All2 (RL c1) ((vset (enc q T l[ix]) off (vcells (evV t y))).map (resolve c.h)) (setCells cs off (eval ta y).cells.toList) :=
            hrel.mapM fun v hv' a hr' => resolve_rel hok k1 kρ hr' fun j hj => k4 j (List.mem_flatMap.2 ⟨v, hv', hj⟩)
          obtain ⟨z, o', rest, a1, a2, w1, w2, w3, w4⟩ := dec_sound T hrel1 hv
          have ha2 : a2 = [] := by
            have e1 := congrArg List.length w2
            rw [vsetCells_len, hcl, List.length_append, RT.len _ _ _ w3] at e1
            exact List.length_eq_zero_iff.1 (by omega)
          subst ha2
          rw [List.append_nil] at w2
          have hb2 : ix * T.w + T.w ≤ as.length := g1.1
          have hsb : storeB G.P ty ⟨as, T.w, ex, true⟩ (ix * T.w + off) (eval ta y) = some ⟨setCells as (ix * T.w + off) (eval ta y).cells.toList, T.w, ex, true⟩ := by
            unfold storeB
            rw [if_pos ⟨by rw [f2]; exact hc1, by rw [hlen]; show _ ≤ as.length; omega, (okL_all hc3 f1).2⟩]
          have hset : setCells as (ix * T.w + off) (eval ta y).cells.toList = as.take (ix * T.w) ++ a1 ++ as.drop (ix * T.w + T.w) := by
            have e0 : as = as.take (ix * T.w) ++ cs ++ as.drop (ix * T.w + T.w) := by
              rw [← g1.2, List.append_assoc, ← List.drop_drop, List.take_append_drop, List.take_append_drop]
            have e1 : (as.take (ix * T.w)).length = ix * T.w := by rw [List.length_take]; omega
            have e2 := setCells_part (eval ta y).cells.toList (as.take (ix * T.w)) cs (as.drop (ix * T.w + T.w)) off (by rw [hlen, hcl]; exact hc2)
            rw [← e0, e1] at e2
            rw [e2, w2]
          obtain ⟨H', u1, u2, u3⟩ := store_blk (P := G.P) (fl := fl) m1 (by have := (hok.blk h1).1; have := hok.n0; omega) hsb
          have hle : Le c1 (setC c1 i (.lst (q && o') T (l.set ix z) false)) := setC_le hi1 ⟨rfl, by simp⟩
          refine ⟨.undef, _, undef, H', w1, .inr ⟨?_, rfl⟩, setC c1 i (.lst (q && o') T (l.set ix z) false), k1.trans hle, ?_, ?_, trivial⟩
          · simp only [prim, h3, u1, Option.map_some]
          · show c1.h.set i _ = _
            rw [k2, getD_of (List.getElem?_eq_getElem h2)]
          · refine k3.upd hi1 (by intro e; cases e) ⟨rfl, by simp⟩ hρ1 (m4 rfl) u3 ?_ (by intro e; cases e)
            exact {
              lo := fun b' e => by
                have e : c1.ρ i = some b' := e
                have := k3.blk e
                rw [u3.len]; exact this
              box := fun _ _ e => (by cases e)
              lst := fun q2 T2 l2 fr2 e => by
                cases e
                refine ⟨fun e => (by have e : c1.ρ i = none := e; rw [hρ1] at e; cases e), fun b' e => ?_⟩
                have e : c1.ρ i = some b' := e
                rw [hρ1] at e; cases e
                refine ⟨_, ex, u2, ?_, fun e => (by cases e), fun _ => m4 rfl⟩
                rw [hset]
                exact (m2.mono (RT_weak (fun e => by simp at e; exact e.1))).set h2 (RT.mono (RT_weak (fun e => by simp at e; exact e.2)) _ _ _ w3)
              dead := fun _ e => (by cases e) }
        · exact hv.elim
      · exact hv.elim
    · exact hv.elim
  | _ => simp only [he] at hv

theorem op_nilCheck {x : Operand} (hok : Ok F0 H0 c H) (ht : Tok c t ta) (hx : operandOk n x = true) (hv : vprim G (.nilCheck x) t c.h K) : Does G fl F0 H0 c H (.nilCheck x) ta K := by
  have hr := ev_rel ht hx
  simp only [vprim] at hv
  cases he : evV t x with
  | ptr i off =>
    rw [he] at hr; simp only [he] at hv
    obtain ⟨b, cs', fr', h1, h2, h3⟩ := R2_ptr hr
    exact does_pure hok hv (by simp only [prim, h3]) ⟨b, cs', fr', h1, h2, rfl⟩
  | eptr i ix off =>
    rw [he] at hr; simp only [he] at hv
    obtain ⟨b, h1, h2⟩ : RL c (.eptr i ix off) (eval ta x) := hr
    have : ∃ p, eval ta x = .pointer (some p) := by
      split at h2
      · exact ⟨_, h2.2⟩
      · obtain ⟨q, e⟩ := h2; exact ⟨_, e⟩
      · exact h2.elim
    obtain ⟨p, hp⟩ := this
    refine does_pure hok hv (a := eval ta x) ?_ ⟨b, h1, h2⟩
    simp only [prim, hp]
  | fptr o T l ix off =>
    rw [he] at hr; simp only [he] at hv
    have hr' := hr
    obtain ⟨b, q, B, y, cs, h1, _⟩ := R2_fptr hr'
    refine does_pure hok hv (a := eval ta x) ?_ hr
    simp only [prim, h1]
  | bx l off =>
    rw [he] at hr; simp only [he] at hv
    have hr' := hr
    obtain ⟨b, B, h1, _⟩ := R2_bx hr'
    refine does_pure hok hv (a := eval ta x) ?_ hr
    simp only [prim, h1]
  | _ => simp only [he] at hv

end
end Go.Mach

namespace Go.Mach
set_option linter.unusedVariables false
set_option linter.unusedSimpArgs false

section
variable {G : Cfg} {F0 : Fz} {H0 : AHeap} {c c' : Ctx} {H H' : AHeap} {t : List (Nat × VV)} {ta : Temps} {n fl : Nat} {K : VV → List VO → Prop}

theorem vbin_sound {op : BinOp} {a b : Value} {K : Value → Prop} (h : vbin op a b K) : ∃ v, K v ∧ aBin op a b = some v ∧ plainB v = true ∧ (isBool a = true → ∃ x, a = .bool x) := by
  have hb : isBool a = true → ∃ x, a = .bool x := by
    intro e; cases a <;> first | exact ⟨_, rfl⟩ | cases e
  unfold vbin at h
  split at h <;> try exact h.elim
  all_goals first
    | (obtain ⟨h1, h2⟩ := h; refine ⟨_, h2, ?_, rfl, hb⟩; simp only [aBin]; rw [if_neg (Int.not_lt.2 h1)])
    | (obtain ⟨h1, h2⟩ := h; refine ⟨_, h2, ?_, rfl, hb⟩; simp only [aBin]; rw [if_pos h1])
    | (split at h
       · rename_i e; subst e
         first
           | exact ⟨_, h, by simp [aBin], rfl, hb⟩
           | (obtain ⟨h1, h2⟩ := h; exact ⟨_, h2, by simp [aBin, h1], rfl, hb⟩)
       · exact h.elim)
    | exact ⟨_, h, by simp [aBin], rfl, hb⟩

theorem vfl_sound {op : BinOp} {a b : Value} {K : Value → Prop} (h : vfl op a b K) : ∃ v, K v ∧ aFl op a b = some v ∧ plainB v = true ∧ aBin op a b = none := by
  unfold vfl at h
  split at h
  · split at h
    · rename_i e; subst e; exact ⟨_, h, by simp only [aFl, if_true], rfl, rfl⟩
    · exact h.elim
  · split at h
    · rename_i e; subst e; exact ⟨_, h, by simp only [aFl, if_true], rfl, rfl⟩
    · exact h.elim
  · split at h
    · rename_i e; subst e; exact ⟨_, h, by simp only [aFl, if_true], rfl, rfl⟩
    · exact h.elim
  · split at h
    · rename_i e; subst e; obtain ⟨r, h1, h2⟩ := h; exact ⟨_, h2, by simp only [aFl, if_true, h1, Option.map_some], rfl, rfl⟩
    · exact h.elim
  · split at h
    · rename_i e; subst e; obtain ⟨r, h1, h2⟩ := h; exact ⟨_, h2, by simp only [aFl, if_true, h1, Option.map_some], rfl, rfl⟩
    · exact h.elim
  · obtain ⟨r, h1, h2⟩ := h; exact ⟨_, h2, by simp only [aFl, h1, Option.map_some], rfl, rfl⟩
  · exact h.elim
theorem nilA_fl {P : Program} {op : BinOp} {t : TypeId} {q : Bool} {a b : Value} (h : isFl a = true) : nilA P op t q a b = none := by
  have he : nilEq P t q a b = none := by
    unfold nilEq
    cases a <;> first | (cases h; done) | (split <;> rfl)
  unfold nilA
  cases op <;> simp only [he, Option.map_none]

theorem vun_sound {op : UnOp} {a : Value} {K : Value → Prop} (h : vun op a K) : ∃ v, K v ∧ aUn op a = some v ∧ plainB v = true := by
  unfold vun at h
  split at h
  · exact ⟨_, h, rfl, rfl⟩
  · exact ⟨_, h, rfl, rfl⟩
  · exact ⟨_, h, rfl, rfl⟩
  · exact h.elim

theorem aBin_nil {op : BinOp} {x y : Value} (hy : isNil (.pl y) = true) : aBin op x y = none := by
  unfold isNil at hy
  split at hy
  · rename_i e; cases e; unfold aBin; split <;> first | rfl | simp_all
  · rename_i e; cases e; unfold aBin; split <;> first | rfl | simp_all
  · rename_i e; cases e; unfold aBin; split <;> first | rfl | simp_all
  · rename_i e; cases e; unfold aBin; split <;> first | rfl | simp_all
  · cases hy

/-- The constant nil that stands on the right. -/
theorem isNil_pl {v : VV} (h : isNil v = true) : ∃ y, v = .pl y := by
  unfold isNil at h
  split at h
  · exact ⟨_, rfl⟩
  · exact ⟨_, rfl⟩
  · exact ⟨_, rfl⟩
  · exact ⟨_, rfl⟩
  · cases h

/-- A list that is there is not nil. -/
theorem RSl.some_ {α : Type} {F : Fz} {r : α → List Value → Prop} {w : Nat} {ad : Option Addr} {k : Nat} {l : List α} (h : RSl F r w ad k l) (hl : l ≠ []) : ∃ b o, ad = some ⟨b, o, none⟩ := by
  rcases h.at_ with e | ⟨b, o, B, e, _⟩
  · exact absurd e hl
  · exact ⟨b, o, e⟩

theorem vnil_nilEq {P : Program} {ty : TypeId} {q : Bool} {v w : VV} {a y : Value} {K : Bool → Prop} (hok : Ok F0 H0 c H) (hr : R2 c v a) (hy : R2 c w y) (h : vnil (P.underlying ty) q c.h v w K) : ∃ b, K b ∧ nilEq P ty q a y = some b := by
  unfold vnil at h
  unfold nilEq
  split at h
  · rename_i hu; obtain ⟨rfl, _⟩ := R2_pl hy; obtain ⟨rfl, _⟩ := R2_pl hr; exact ⟨true, h, by simp [hu]⟩
  · rename_i hu; obtain ⟨rfl, _⟩ := R2_pl hy
    obtain ⟨ad, k, rfl, h2⟩ := R2_fz hr
    cases ad with
    | none =>
      rcases h2.at_ with e | ⟨b, o, B, e, _⟩
      · exact ⟨true, h.1 e, by simp [hu]⟩
      · cases e
    | some ad => exact ⟨false, h.2, by simp [hu]⟩
  · rename_i i hu
    obtain ⟨rfl, _⟩ := R2_pl hy
    split at h
    · rename_i hg
      have hi := getO_get hg (by intro e; cases e)
      have ha := R2_own hr hi
      subst ha
      cases e : c.ρ i with
      | none => exact ⟨true, h.1 (((hok.obj i _ hi).lst _ _ _ _ rfl).1 e), by simp [hu, sl, e]⟩
      | some b => exact ⟨false, h.2, by simp [hu, sl, e]⟩
    · exact h.elim
  · rename_i hu; obtain ⟨rfl, _⟩ := R2_pl hy; obtain ⟨rfl, _⟩ := R2_pl hr; exact ⟨true, h, by simp [hu]⟩
  · rename_i hu
    obtain ⟨rfl, _⟩ := R2_pl hy
    obtain ⟨as, rfl, _⟩ := hr
    exact ⟨false, h, by simp [hu]⟩
  · rename_i hu; obtain ⟨rfl, _⟩ := R2_pl hy; obtain ⟨rfl, _⟩ := R2_pl hr; exact ⟨true, h, by simp [hu]⟩
  · rename_i hu; obtain ⟨rfl, _⟩ := R2_pl hy
    obtain ⟨b, _, _, _, _, rfl⟩ := R2_ptr hr
    exact ⟨false, h, by simp [hu]⟩
  · rename_i hu; obtain ⟨rfl, _⟩ := R2_pl hy
    obtain ⟨b, q, B, y, cs, rfl, _⟩ := R2_fptr hr
    exact ⟨false, h, by simp [hu]⟩
  · rename_i hu; obtain ⟨rfl, _⟩ := R2_pl hy; obtain ⟨rfl, _⟩ := R2_pl hr
    split at h
    · rename_i hq; exact ⟨true, h, by simp [hu, hq]⟩
    · exact h.elim
  · rename_i hu; obtain ⟨rfl, _⟩ := R2_pl hy
    split at h
    · rename_i hq
      rcases hr with ⟨rfl, rfl⟩ | ⟨rfl, _, _, rfl⟩
      · exact ⟨true, h, by simp [hu, hq]⟩
      · exact ⟨false, h, by simp [hu]⟩
    · exact h.elim
  · exact h.elim

theorem nilEq_agg {P : Program} {t : TypeId} {c : Bool} {xs ys : Array Value} : nilEq P t c (.agg xs) (.agg ys) = none := by
  unfold nilEq
  split <;> first | rfl | (split <;> first | rfl | simp_all)

theorem vcells_sound {P : Program} {c : Ctx} : ∀ {l : List (TypeId × Nat)} {xs ys : List VV} {as bs : List Value} {K : Bool → Prop}, All2 (RL c) xs as → All2 (RL c) ys bs → vcellsEq P l xs ys K → ∃ b, K b ∧ cellsEq P l as bs = some b
  | [], _, _, _, _, K, _, _, h => ⟨true, h, rfl⟩
  | (t, o) :: r, xs, ys, as, bs, K, hx, hy, h => by
    simp only [vcellsEq] at h
    split at h
    case h_2 => exact h.elim
    rename_i x y h1 h2
    obtain ⟨a, a1, a2⟩ := hx.get h1
    obtain ⟨b, b1, b2⟩ := hy.get h2
    have key : ∃ e, scalEq (P.underlying t) a b = some e ∧ vcellsEq P r xs ys fun b' => K (e && b') := by
      unfold vscal at h
      split at h
      · rename_i hd
        obtain ⟨rfl, _⟩ := a2
        obtain ⟨rfl, _⟩ := b2
        split at h
        · rename_i hk
          exact ⟨_, by rw [hd]; simp only [scalEq, hk, if_true], h⟩
        · exact h.elim
      · rename_i hd
        obtain ⟨rfl, _⟩ := a2
        obtain ⟨rfl, _⟩ := b2
        exact ⟨_, by rw [hd]; rfl, h⟩
      · exact h.elim
    obtain ⟨e, e1, e2⟩ := key
    obtain ⟨b', k1, k2⟩ := vcells_sound hx hy e2
    exact ⟨_, k1, by simp only [cellsEq, a1, b1, e1, k2]⟩

theorem op_binOp {op : BinOp} {ty ty2 : TypeId} {x y : Operand} (hok : Ok F0 H0 c H) (ht : Tok c t ta) (hx : operandOk n x = true) (hy : operandOk n y = true) (hv : vprim G (.binOp op ty x y ty2) t c.h K) : Does G fl F0 H0 c H (.binOp op ty x y ty2) ta K := by
  have hr := ev_rel ht hx
  have hs := ev_rel ht hy
  simp only [vprim] at hv
  split at hv
  · rename_i hn
    obtain ⟨z, hz⟩ := isNil_pl hn
    have hz2 := hz ▸ hs
    obtain ⟨he, _⟩ := R2_pl hz2
    have hab : ∀ op, aBin op (eval ta x) (eval ta y) = none := fun op => by rw [he]; exact aBin_nil (by rw [← hz]; exact hn)
    split at hv
    · obtain ⟨b, h1, h2⟩ := vnil_nilEq (q := isConst x || isConst y) hok hr hs hv
      refine pure_pl hok h1 ?_ rfl
      simp only [prim, bin2A, nilA, hab, h2, Option.map_some]
    · obtain ⟨b, h1, h2⟩ := vnil_nilEq (q := isConst x || isConst y) hok hr hs hv
      refine pure_pl hok h1 ?_ rfl
      simp only [prim, bin2A, nilA, hab, h2, Option.map_some]
    · exact hv.elim
  · split at hv
    · rename_i a b he1 he2
      rw [he1] at hr
      rw [he2] at hs
      obtain ⟨e1, _⟩ := R2_pl hr
      obtain ⟨e2, _⟩ := R2_pl hs
      split at hv
      · rename_i hb hu
        obtain ⟨v, h1, h2, h3, h4⟩ := vbin_sound hv
        refine pure_pl hok h1 ?_ h3
        obtain ⟨x', rfl⟩ := h4 hb
        simp only [prim, bin2A, e1, e2, h2, boolTy, hu, if_true, Option.map_some]
      · rename_i hb
        split at hv
        · rename_i hfl
          obtain ⟨v, h1, h2, h3, h4⟩ := vfl_sound hv
          refine pure_pl hok h1 ?_ h3
          simp only [prim, bin2A, e1, e2, h4, nilA_fl hfl, h2, Option.map_some]
        obtain ⟨v, h1, h2, h3, h4⟩ := vbin_sound hv
        refine pure_pl hok h1 ?_ h3
        have hbt : boolTy G.P ty a = true := by
          unfold boolTy
          split
          · simp [isBool] at hb
          · rfl
        simp only [prim, bin2A, e1, e2, h2, hbt, if_true, Option.map_some]
      · exact hv.elim
    · rename_i xs ys he1 he2
      rw [he1] at hr
      rw [he2] at hs
      obtain ⟨as, ha, hxs⟩ := hr
      obtain ⟨bs, hb, hys⟩ := hs
      unfold vaggEq at hv
      split at hv
      case h_2 => exact hv.elim
      rename_i l hl hg hi
      split at hv
      · obtain ⟨b, h1, h2⟩ := vcells_sound hxs hys hv
        refine pure_pl hok h1 ?_ rfl
        have h3 : aggEq G.P ty (.agg as.toArray) (.agg bs.toArray) = some b := by
          simp only [aggEq, hl, hg, hi, Bool.false_eq_true, Bool.true_eq_false, or_self, if_false]
          simpa using h2
        simp only [prim, bin2A, ha, hb, aBin, nilA, nilEq_agg, aFl, eqA, h3, Option.map_some, Option.map_none]
      · obtain ⟨b, h1, h2⟩ := vcells_sound hxs hys hv
        refine pure_pl hok h1 ?_ rfl
        have h3 : aggEq G.P ty (.agg as.toArray) (.agg bs.toArray) = some b := by
          simp only [aggEq, hl, hg, hi, Bool.false_eq_true, Bool.true_eq_false, or_self, if_false]
          simpa using h2
        simp only [prim, bin2A, ha, hb, aBin, nilA, nilEq_agg, aFl, eqA, h3, Option.map_some, Option.map_none]
      · exact hv.elim
    · exact hv.elim

theorem op_unOp {op : UnOp} {ty : TypeId} {x : Operand} (hok : Ok F0 H0 c H) (ht : Tok c t ta) (hx : operandOk n x = true) (hv : vprim G (.unOp op ty x) t c.h K) : Does G fl F0 H0 c H (.unOp op ty x) ta K := by
  have hr := ev_rel ht hx
  simp only [vprim] at hv
  split at hv
  · rename_i a he
    rw [he] at hr
    obtain ⟨e1, _⟩ := R2_pl hr
    obtain ⟨v, h1, h2, h3⟩ := vun_sound hv
    exact pure_pl hok h1 (by simp only [prim, e1, h2, Option.map_some]) h3
  · exact hv.elim

theorem op_convert {s d : TypeId} {x : Operand} (hok : Ok F0 H0 c H) (ht : Tok c t ta) (hx : operandOk n x = true) (hv : vprim G (.convert s d x) t c.h K) : Does G fl F0 H0 c H (.convert s d x) ta K := by
  have hr := ev_rel ht hx
  simp only [vprim] at hv
  split at hv
  · rename_i h1 h2 he
    rw [he] at hr
    obtain ⟨e1, _⟩ := R2_pl hr
    exact pure_pl hok hv (by simp only [prim, markA, convA, e1, h1, h2, Option.map_some]) rfl
  · rename_i h1 h2 he
    rw [he] at hr
    obtain ⟨e1, _⟩ := R2_pl hr
    exact pure_pl hok hv (by simp only [prim, markA, convA, e1, h1, h2, Option.map_some]) rfl
  · rename_i h1 h2 he
    rw [he] at hr
    obtain ⟨e1, _⟩ := R2_pl hr
    exact pure_pl hok hv (by simp only [prim, markA, convA, e1, h1, h2, Option.map_some]) rfl
  · rename_i h1 h2 he
    rw [he] at hr
    obtain ⟨e1, _⟩ := R2_pl hr
    obtain ⟨m, k1, k2⟩ := hv
    exact pure_pl hok k2 (by simp only [prim, markA, convA, e1, h1, h2, k1, Option.map_some]) rfl
  · exact hv.elim

theorem R2_R1 {v : VV} {a : Value} (hc : okC v = true) (h : R2 c v a) : R1 c v a := by
  cases v <;> first | exact h | cases hc

theorem op_makeFunc {fn : Fn} {first caps : Array Operand} (hok : Ok F0 H0 c H) (ht : Tok c t ta) (hx : ∀ x ∈ caps.toList, operandOk n x = true) (hv : vprim G (.makeFunc fn first caps) t c.h K) : Does G fl F0 H0 c H (.makeFunc fn first caps) ta K := by
  simp only [vprim] at hv
  split at hv
  · rename_i f hf
    split at hv
    · rename_i hc
      have hfe : first = #[] := by
        apply Array.toList_inj.1; rw [hf]
      subst hfe
      have hrel : ∀ l : List Operand, (∀ x ∈ l, operandOk n x = true) → (l.map (evV t)).all okC = true → All2 (R1 c) (l.map (evV t)) (l.map (eval ta)) := by
        intro l
        induction l with
        | nil => intro _ _; exact .nil
        | cons o l ih =>
          intro h1 h2
          simp only [List.map_cons, List.all_cons, Bool.and_eq_true] at h2
          exact .cons (R2_R1 h2.1 (ev_rel ht (h1 o List.mem_cons_self))) (ih (fun x hx => h1 x (List.mem_cons_of_mem _ hx)) h2.2)
      refine does_pure hok hv (a := .func (.func f) #[] (caps.toList.map (eval ta)).toArray) ?_ ⟨_, rfl, hrel _ hx hc⟩
      have e1 : caps.map (eval ta) = (caps.toList.map (eval ta)).toArray := by apply Array.toList_inj.1; simp
      simp only [prim, e1, List.map_toArray, List.map_nil]
    · exact hv.elim
  · exact hv.elim

theorem rowOf_at {z : List Value} {w n i : Nat} (hz : z.length = w) (hi : i < n) : InB (rowOf z (n * w)) (i * w) w z := by
  have hb : i * w + w ≤ n * w := by
    have := Nat.mul_le_mul_right w (show i + 1 ≤ n from hi)
    rw [Nat.add_mul, Nat.one_mul] at this; exact this
  refine ⟨by unfold rowOf; simp; exact hb, ?_⟩
  apply List.ext_getElem
  · unfold rowOf; simp; omega
  · intro j h1 h2
    rw [List.getElem_take, List.getElem_drop]
    unfold rowOf
    simp only [List.getElem_map, List.getElem_range]
    have : (i * w + j) % z.length = j := by
      rw [hz, Nat.mul_comm, Nat.mul_add_mod, Nat.mod_eq_of_lt (by omega)]
    rw [this, getElem!_pos z j h2]

theorem sameTmp_eq {a b : Operand} (h : sameTmp a b = true) {k : IntKind} {m : Int} (ha : eval ta a = .int k m) : ∃ k', eval ta b = .int k' m := by
  unfold sameTmp at h
  split at h
  · rw [beq_iff_eq] at h; subst h; exact ⟨k, ha⟩
  · rw [beq_iff_eq] at h; subst h; cases ha; exact ⟨_, rfl⟩
  · cases h

theorem op_makeSlice {ty : TypeId} {x y : Operand} (hok : Ok F0 H0 c H) (ht : Tok c t ta) (hx : operandOk n x = true) (hv : vprim G (.makeSlice ty x y) t c.h K) : Does G fl F0 H0 c H (.makeSlice ty x y) ta K := by
  have hr := ev_rel ht hx
  simp only [vprim] at hv
  split at hv
  · rename_i e es eb k m hty he
    rw [he] at hr
    obtain ⟨e1, _⟩ := R2_pl hr
    split at hv
    · rename_i z T hz hT
      split at hv
      · rename_i hc
        obtain ⟨hc1, hc2, hc3, hc4⟩ := hc
        obtain ⟨⟨hm0, hm1⟩, hv⟩ := hv
        obtain ⟨k', e2⟩ := sameTmp_eq hc1 e1
        obtain ⟨l, o, g1, g2, g3⟩ := decN_sound T 1 (plain_rel (c := c) (azero_plain hz)) hv
        match l, g2 with
        | [d], _ =>
          obtain ⟨cs, ⟨p1, p2⟩, p3⟩ := g3.2 0 d (by simp)
          have hzc : z = cs := by
            rw [← p2, Nat.zero_mul, List.drop_zero, List.take_of_length_le]
            rw [hc3, hc2]; exact Nat.le_refl _
          subst hzc
          subst hc2
          have e46 : ((2 : Int) ^ 46) = 70368744177664 := by decide
          have hmb : m ≤ 70368744177664 := by
            have : m ≤ (eb : Int) * m := by
              have := Int.mul_le_mul_of_nonneg_right (show (1 : Int) ≤ (eb : Int) by omega) hm0
              omega
            omega
          refine ⟨_, _, .slice (some ⟨H.length, 0, none⟩) m.toNat m.toNat, H ++ [⟨rowOf z (m.toNat * T.w), T.w, true, true⟩], g1, .inl ?_, addC c (some H.length) (.lst (o && (!G.hv || T.flat)) T (List.replicate m.toNat d) false), addC_le _ _, rfl, ?_, ?_⟩
          · simp only [prim, hty, e1, e2]
            rw [if_pos ⟨hm0, Int.le_refl _, by rw [e46]; exact hmb, by rw [e46]; exact hm1⟩]
            simp only [hz]
          · refine hok.addLst (ex := true) (Pre.push _ _) (Nat.le_refl _) (new_get H _ rfl) ⟨by unfold rowOf; simp, fun i x hxx => ?_⟩
            have hi : i < m.toNat := by have := ltl_of_get hxx; rw [List.length_replicate] at this; exact this
            rw [List.getElem?_replicate, if_pos hi] at hxx
            cases hxx
            exact ⟨z, rowOf_at hc3 hi, RT.mono (RT_weak fun e => ((Bool.and_eq_true _ _).mp e).1) _ _ _ p3⟩
          · exact R2_topl (by simp)
      · exact hv.elim
    · exact hv.elim
  · exact hv.elim

end
end Go.Mach

namespace Go.Mach
set_option linter.unusedVariables false
set_option linter.unusedSimpArgs false

section
variable {G : Cfg} {F0 : Fz} {H0 : AHeap} {c c' : Ctx} {H H' : AHeap} {t : List (Nat × VV)} {ta : Temps} {n fl : Nat} {K : VV → List VO → Prop}

/-- The bounds that a slice expression was told to have. -/
theorem vslice_sound {α : Type} {ne : Prop} {l : List α} {lo hi mx : Option Operand} {cap : Nat} {K : List α → Prop} (ht : Tok c t ta) (hx : ∀ x ∈ lo.toList ++ hi.toList ++ mx.toList, operandOk n x = true) (hcap : l.length ≤ cap)
    (h : vslice ne l (lo.map (evV t)) (hi.map (evV t)) (mx.map (evV t)) K) :
    ∃ a b m : Nat, boundsA l.length cap (lo.map (eval ta)) (hi.map (eval ta)) (mx.map (eval ta)) = some (a, b, m) ∧ ne ∧ a ≤ b ∧ b ≤ l.length ∧ b ≤ m ∧ K ((l.take b).drop a) := by
  have key : ∀ x : Operand, x ∈ lo.toList ++ hi.toList ++ mx.toList → ∀ k i, evV t x = .pl (.int k i) → eval ta x = .int k i := by
    intro x hm k i e
    have := ev_rel ht (hx x hm)
    rw [e] at this
    exact (R2_pl this).1
  have go : ∀ (i j : Int) (m : Nat), (j ≤ m) → ck (ne ∧ 0 ≤ i ∧ i ≤ j ∧ j ≤ l.length) (K ((l.take j.toNat).drop i.toNat)) → ne ∧ i.toNat ≤ j.toNat ∧ j.toNat ≤ l.length ∧ j.toNat ≤ m ∧ K ((l.take j.toNat).drop i.toNat) := by
    intro i j m hm ⟨⟨h1, h2, h3, h4⟩, h5⟩
    exact ⟨h1, by omega, by omega, by omega, h5⟩
  unfold vslice at h
  unfold boundsA
  cases lo with
  | none =>
    simp only [Option.map_none] at h ⊢
    cases hi with
    | none =>
      simp only [Option.map_none] at h
      cases mx with
      | some m => simp at h
      | none =>
        simp only [Option.map_none, Option.isSome_none, Bool.false_eq_true, if_false] at h
        obtain ⟨h1, h2, h3, h4, h5⟩ := go 0 l.length l.length (Int.le_refl _) h
        refine ⟨0, l.length, cap, rfl, h1, by omega, Nat.le_refl _, hcap, by simpa using h5⟩
    | some hh =>
      simp only [Option.map_some] at h
      cases hv : evV t hh with
      | pl v =>
        cases v with
        | int k j =>
          have ej := key hh (by simp) k j hv
          simp only [hv] at h
          cases mx with
          | none =>
            simp only [Option.map_none, Option.isSome_none, Bool.false_eq_true, if_false] at h
            have hb := h.1
            obtain ⟨h1, h2, h3, h4, h5⟩ := go 0 j l.length (by omega) h
            refine ⟨0, j.toNat, cap, ?_, h1, by omega, h3, by omega, by simpa using h5⟩
            simp only [Option.map_some, Option.map_none, ej, boundA, bind, Option.bind]
            rw [if_pos ⟨by omega, by omega⟩]
          | some mm =>
            simp only [Option.map_some, Option.isSome_some, if_true] at h
            obtain ⟨h0, h⟩ := h
            cases hm : evV t mm with
            | pl v =>
              cases v with
              | int k2 m =>
                have em := key mm (by simp) k2 m hm
                simp only [hm] at h0
                have hb := h.1
                obtain ⟨h1, h2, h3, h4, h5⟩ := go 0 j m.toNat (by omega) h
                refine ⟨0, j.toNat, m.toNat, ?_, h1, by omega, h3, by omega, by simpa using h5⟩
                simp only [Option.map_some, ej, em, boundA, bind, Option.bind]
                rw [if_pos ⟨by omega, by omega⟩]
                simp only []
                rw [if_pos ⟨by omega, by omega⟩]
              | _ => simp only [hm] at h0
            | _ => simp only [hm] at h0
        | _ => simp only [hv] at h
      | _ => simp only [hv] at h
  | some ll =>
    simp only [Option.map_some] at h
    cases hvl : evV t ll with
    | pl v =>
      cases v with
      | int kl i =>
        have el := key ll (by simp) kl i hvl
        simp only [hvl] at h
        cases hi with
        | none =>
          simp only [Option.map_none] at h
          cases mx with
          | some m => simp at h
          | none =>
            simp only [Option.map_none, Option.isSome_none, Bool.false_eq_true, if_false] at h
            have hb := h.1
            obtain ⟨h1, h2, h3, h4, h5⟩ := go i l.length l.length (Int.le_refl _) h
            refine ⟨i.toNat, l.length, cap, ?_, h1, by omega, Nat.le_refl _, hcap, by simpa using h5⟩
            simp only [Option.map_some, Option.map_none, el, boundA, bind, Option.bind]
            rw [if_pos ⟨by omega, by omega⟩]
        | some hh =>
          simp only [Option.map_some] at h
          cases hv : evV t hh with
          | pl v =>
            cases v with
            | int k j =>
              have ej := key hh (by simp) k j hv
              simp only [hv] at h
              cases mx with
              | none =>
                simp only [Option.map_none, Option.isSome_none, Bool.false_eq_true, if_false] at h
                have hb := h.1
                obtain ⟨h1, h2, h3, h4, h5⟩ := go i j l.length (by omega) h
                refine ⟨i.toNat, j.toNat, cap, ?_, h1, h2, h3, by omega, h5⟩
                simp only [Option.map_some, Option.map_none, ej, el, boundA, bind, Option.bind]
                rw [if_pos ⟨by omega, by omega⟩]
                simp only []
                rw [if_pos ⟨by omega, by omega⟩]
              | some mm =>
                simp only [Option.map_some, Option.isSome_some, if_true] at h
                obtain ⟨h0, h⟩ := h
                cases hm : evV t mm with
                | pl v =>
                  cases v with
                  | int k2 m =>
                    have em := key mm (by simp) k2 m hm
                    simp only [hm] at h0
                    have hb := h.1
                    obtain ⟨h1, h2, h3, h4, h5⟩ := go i j m.toNat (by omega) h
                    refine ⟨i.toNat, j.toNat, m.toNat, ?_, h1, h2, h3, by omega, h5⟩
                    simp only [Option.map_some, ej, em, el, boundA, bind, Option.bind]
                    rw [if_pos ⟨by omega, by omega⟩]
                    simp only []
                    rw [if_pos ⟨by omega, by omega⟩]
                    simp only []
                    rw [if_pos ⟨by omega, by omega⟩]
                  | _ => simp only [hm] at h0
                | _ => simp only [hm] at h0
            | _ => simp only [hv] at h
          | _ => simp only [hv] at h
      | _ => simp only [hvl] at h
    | _ => simp only [hvl] at h

theorem addr_add {b o k : Nat} : (⟨b, o, none⟩ : Addr).add k = ⟨b, o + k, none⟩ := by
  unfold Addr.add
  split
  · rename_i e; subst e; rfl
  · rfl

theorem blk?_get {b : Nat} {B : Blk} (h : blk? H b = some B) : H[b]? = some B := by
  unfold blk? at h
  cases e : H[b]? with
  | none => simp [e] at h
  | some C =>
    simp only [e] at h
    split at h
    · exact h
    · cases h

/-- The slice itself. -/
theorem sliceA_sound {P : Program} {ty e es eb : TypeId} (hty : aTy P ty = .slice e es eb) {T : Ty} (hes : es = T.w) {F : Fz} {ad : Option Addr} {cap : Nat} {l : List T.den} (hr : RSl F (RT F T) T.w ad cap l)
    (hn : ad = none ∨ ∃ b o B, ad = some ⟨b, o, none⟩ ∧ H[b]? = some B ∧ (B.exact = true ∨ B.es = T.w))
    {lo hi mx : Option Value} {a b m : Nat} (hb : boundsA l.length cap lo hi mx = some (a, b, m)) (h1 : a ≤ b) (h2 : b ≤ l.length) (h3 : b ≤ m) :
    ∃ ad' cap', sliceA P ty (.slice ad l.length cap) lo hi mx H = some (.slice ad' (b - a) cap') ∧ RSl F (RT F T) T.w ad' cap' ((l.take b).drop a) := by
  unfold sliceA
  rw [hty]
  rcases hn with rfl | ⟨b', o, B, rfl, hg, e3⟩
  · simp only [hb]
    have hl : l = [] := by
      rcases hr.at_ with e | ⟨_, _, _, e, _⟩
      · exact e
      · cases e
    subst hl
    exact ⟨none, m - a, rfl, by simp, .inl (by simp)⟩
  · simp only [hb, hg]
    have hsub := hr.sub (lo := a) (hi := b) h1 h2 (m := m) h3
    subst hes
    by_cases hx : B.exact = true
    · rw [if_pos hx]
      by_cases hm : m = a
      · rw [if_pos hm]
        refine ⟨_, _, rfl, ?_, .inl ?_⟩
        · simp; omega
        · apply List.length_eq_zero_iff.1; simp; omega
      · rw [if_neg hm, addr_add]
        exact ⟨_, _, rfl, hsub⟩
    · rw [if_neg hx, if_pos (e3.resolve_left hx), addr_add]
      exact ⟨_, _, rfl, hsub⟩

theorem op_slice {ty : TypeId} {x : Operand} {lo hi mx : Option Operand} (hok : Ok F0 H0 c H) (ht : Tok c t ta) (hx : operandOk n x = true) (hxs : ∀ x ∈ lo.toList ++ hi.toList ++ mx.toList, operandOk n x = true) (hv : vprim G (.slice ty x lo hi mx) t c.h K) : Does G fl F0 H0 c H (.slice ty x lo hi mx) ta K := by
  have hr := ev_rel ht hx
  simp only [vprim] at hv
  split at hv
  · rename_i e es eb o T l hty he
    rw [he] at hr
    split at hv
    · rename_i hes
      obtain ⟨ad, cap, ha, h2⟩ := R2_fz hr
      obtain ⟨a, b, m, g1, g2, g3, g4, g5, g6⟩ := vslice_sound ht hxs h2.cap hv
      obtain ⟨b0, o0, B0, q1, q2, q3, _⟩ := h2.at_.resolve_left g2
      obtain ⟨ad', cap', k1, k2⟩ := sliceA_sound (H := H) hty hes h2 (.inr ⟨b0, o0, B0, q1, blk?_get (hok.fz b0 B0 (cutF_le _ _ q2)), q3⟩) g1 g3 g4 g5
      refine does_pure hok g6 (a := .slice ad' (b - a) cap') ?_ ⟨ad', cap', ?_, k2⟩
      · simp only [prim, ha, k1, Option.map_some]
      · congr 1; simp; omega
    · exact hv.elim
  · rename_i e es eb i hty he
    rw [he] at hr
    split at hv
    · rename_i q T l fr hg
      have hi := getO_get hg (by intro e; cases e)
      split at hv
      · rename_i hes
        have ha := R2_own hr hi
        obtain ⟨a, b, m, g1, g2, g3, g4, g5, g6⟩ := vslice_sound ht hxs (Nat.le_refl _) hv
        obtain ⟨c1, k1, k2, kn, kρ, k3, k4⟩ := hok.freezes [i]
        have hl : RL c1 (resolve c.h (.own i)) (eval ta x) := resolve_rel hok k1 kρ hr fun j hj => k4 j (by simpa [ownsL] using hj)
        have hres : resolve c.h (.own i) = .fz q T l := by unfold resolve; simp only [hg]
        rw [hres] at hl
        obtain ⟨ad, cap, e1, h2⟩ := hl
        rw [ha] at e1
        have hcap : cap = l.length := by unfold sl at e1; cases e1; rfl
        have had : ad = none ∨ ∃ b o B, ad = some ⟨b, o, none⟩ ∧ H[b]? = some B ∧ (B.exact = true ∨ B.es = T.w) := by
          cases hρ : c.ρ i with
          | none => rw [hρ] at e1; cases e1; exact .inl rfl
          | some b' =>
            rw [hρ] at e1
            obtain ⟨as, ex, z1, _⟩ := ((hok.obj i _ hi).lst _ _ _ _ rfl).2 b' hρ
            unfold sl at e1
            simp only [Option.map_some] at e1
            cases e1
            exact .inr ⟨b', 0, _, rfl, blk?_get z1, .inr rfl⟩
        subst hcap
        obtain ⟨ad', cap', w1, w2⟩ := sliceA_sound (H := H) hty hes h2 had g1 g3 g4 g5
        refine ⟨_, _, .slice ad' (b - a) cap', H, g6, .inl ?_, c1, k1, k2, k3, ad', cap', ?_, w2⟩
        · simp only [prim, ha, e1, w1, Option.map_some]
        · congr 1; simp; omega
      · exact hv.elim
    · exact hv.elim
  · rename_i s hty he
    rw [he] at hr
    obtain ⟨ha, _⟩ := R2_pl hr
    obtain ⟨a, b, m, g1, g2, g3, g4, g5, g6⟩ := vslice_sound ht hxs (Nat.le_refl _) hv
    split at g6
    · exact g6.elim
    · rename_i hmx
      cases mx with
      | some z => exact absurd rfl hmx
      | none =>
        have hsz : s.data.toList.length = s.size := rfl
        rw [hsz] at g1
        refine pure_pl hok g6 ?_ rfl
        simp only [prim, ha, sliceA, hty, Option.map_none, Option.isSome_none, Bool.false_eq_true, if_false] at g1 ⊢
        simp only [g1, Option.map_some]
        congr 3
        apply congrArg Value.string
        have : s.extract a b = ⟨(s.extract a b).data⟩ := rfl
        rw [this, ByteArray.data_extract]
        congr 1
        apply Array.toList_inj.1
        rw [Array.toList_extract, List.extract_eq_take_drop]
        simp
        rw [List.drop_take]
  · rename_i m e es eb i off hty he
    rw [he] at hr
    split at hv
    · rename_i cs fr hg
      split at hv
      · rename_i k l hil
        split at hv
        · rename_i hc
          obtain ⟨hes, hln, hm⟩ := hc
          have hi := getO_get hg (by intro e; cases e)
          obtain ⟨b, cs0, fr0, e1, e2, e3⟩ := hr
          obtain ⟨c1, k1, k2, kn, kρ, k3, _⟩ := hok.freezes [i]
          have hi1 : c1.h[i]? = some (.box cs true) := by
            rw [k2]
            have hlt := (List.getElem?_eq_some_iff.1 hi).1
            simp only [freeze, List.getElem?_set_self hlt, hg, frozenO]
          have hob := k3.obj i _ hi1
          obtain ⟨b', as, o1, o2, o3, o4, _⟩ := hob.box _ _ rfl
          rw [kρ, e2] at o1
          cases o1
          have hlo := (hob.lo b (by rw [kρ]; exact e2)).1
          have hge := intsOf_eq hil
          have hel : ∀ (j : Nat) (x : Int), l[j]? = some x → as[off + j]? = some (.int k x) := by
            intro j x hx
            have hj : j < m := by rw [← hln]; exact (List.getElem?_eq_some_iff.1 hx).1
            have h1 : ((cs.drop off).take m)[j]? = some (.pl (.int k x)) := by rw [hge, List.getElem?_map, hx]; rfl
            rw [List.getElem?_take_of_lt hj, List.getElem?_drop] at h1
            obtain ⟨a, a1, a2⟩ := o3.get h1
            obtain ⟨rfl, _⟩ := a2
            exact a1
          refine ⟨_, _, .slice (some ⟨b, off, none⟩) m m, H, hv, .inl ?_, c1, k1, k2, k3, some ⟨b, off, none⟩, m, by rw [hln], by rw [hln]; exact Nat.le_refl _, .inr ⟨b, off, ⟨as, 0, true, true⟩, rfl, ?_, .inl rfl, ?_⟩⟩
          · have hB := blk?_get o2
            have hm0 : ¬ m = 0 := by omega
            simp only [prim, sliceA, hty, e3, boundsA, Option.map_none, hB, if_true, Option.map_some, Nat.sub_zero, if_neg hm0, Addr.add, Nat.zero_mul, Nat.add_zero, bind, Option.bind, pure]
          · unfold cutF
            rw [if_neg (by rintro ⟨_, h⟩; omega)]
            exact o4 rfl
          · intro j x hx
            have h1 := hel j x hx
            have hlt := (List.getElem?_eq_some_iff.1 h1).1
            refine ⟨[.int k x], ⟨?_, ?_⟩, rfl⟩
            · show off + j * 1 + 1 ≤ as.length
              omega
            · show (as.drop (off + j * 1)).take 1 = _
              rw [Nat.mul_one, List.drop_eq_getElem_cons hlt, List.take_succ_cons, List.take_zero]
              rw [List.getElem?_eq_getElem hlt] at h1
              rw [Option.some.inj h1]
        · exact hv.elim
      · exact hv.elim
    · exact hv.elim
  · exact hv.elim

theorem op_fieldAddr {s : TypeId} {x : Operand} {f : Nat} (hok : Ok F0 H0 c H) (ht : Tok c t ta) (hx : operandOk n x = true) (hv : vprim G (.fieldAddr s x f) t c.h K) : Does G fl F0 H0 c H (.fieldAddr s x f) ta K := by
  have hr := ev_rel ht hx
  simp only [vprim] at hv
  split at hv
  · rename_i sz fs hty
    split at hv
    · rename_i off size ag hf
      split at hv
      · exact hv.elim
      · rename_i hs
        have hp : ∀ b o, eval ta x = .pointer (some ⟨b, o, none⟩) → prim G.P fl (.fieldAddr s x f) (eval ta) H = some (.value (.pointer (some ⟨b, o + off, none⟩)), H) := by
          intro b o e
          simp only [prim, e, fieldAddrA, hty, hf]
          rw [if_neg hs, addr_add]; rfl
        split at hv
        · rename_i i o he
          rw [he] at hr
          obtain ⟨b, cs, fr, h1, h2, h3⟩ := R2_ptr hr
          exact does_pure hok hv (hp b o h3) ⟨b, cs, fr, h1, h2, rfl⟩
        · rename_i i ix o he
          rw [he] at hr
          obtain ⟨b, h1, h2⟩ : RL c (.eptr i ix o) (eval ta x) := hr
          cases ho : c.h[i]? with
          | none => rw [ho] at h2; exact h2.elim
          | some ob =>
            rw [ho] at h2
            cases ob with
            | box _ _ => exact h2.elim
            | lst q T l fr =>
              exact does_pure hok hv (hp b _ h2.2) ⟨b, h1, by rw [ho]; exact ⟨h2.1, by rw [Nat.add_assoc]⟩⟩
            | dead d =>
              obtain ⟨q, e⟩ := h2
              exact does_pure hok hv (hp b _ e) ⟨b, h1, by rw [ho]; exact ⟨_, rfl⟩⟩
        · rename_i o T l ix o2 he
          rw [he] at hr
          obtain ⟨b, q, B, y, cs, h1, h2⟩ := R2_fptr hr
          exact does_pure hok hv (hp b _ h1) ⟨b, q, B, y, cs, by rw [Nat.add_assoc], h2⟩
        · rename_i l o he
          rw [he] at hr
          obtain ⟨b, B, h1, h2⟩ := R2_bx hr
          exact does_pure hok hv (hp b _ h1) ⟨b, B, rfl, h2⟩
        · exact hv.elim
    · exact hv.elim
  · exact hv.elim

theorem leaf_R2 {v : VV} {a : Value} (h : RL c v a) : R2 c v a := by
  cases v <;> first | exact h | exact (show False from h).elim

theorem op_field {s : TypeId} {x : Operand} {f : Nat} (hok : Ok F0 H0 c H) (ht : Tok c t ta) (hx : operandOk n x = true) (hv : vprim G (.field s x f) t c.h K) : Does G fl F0 H0 c H (.field s x f) ta K := by
  have hr := ev_rel ht hx
  simp only [vprim] at hv
  split at hv
  · rename_i sz fs cs hty he
    rw [he] at hr
    obtain ⟨as, ha, h2⟩ := R2_agg hr
    split at hv
    · rename_i off size hf
      split at hv
      · exact hv.elim
      · rename_i hs
        have hs1 : ¬ size = 0 := fun e => hs (.inl e)
        refine does_pure hok hv (a := .agg ((as.drop off).take size).toArray) ?_ ⟨_, rfl, (h2.drop off).take size⟩
        simp only [prim, ha, fieldA, hty, hf, if_neg hs1, partA, Option.map_some]
        congr 4
        rw [List.extract_toArray, List.extract_eq_take_drop]
        congr 2
        omega
    · rename_i off size hf
      split at hv
      · exact hv.elim
      · rename_i hs
        split at hv
        · rename_i v hc
          obtain ⟨a, k1, k2⟩ := h2.get hc
          refine does_pure hok hv (a := a) ?_ (leaf_R2 k2)
          simp only [prim, ha, fieldA, hty, hf, if_neg hs, partA, List.getElem?_toArray, k1, Option.map_some]
        · exact hv.elim
    · exact hv.elim
  · exact hv.elim

theorem op_extract {x : Operand} {i : Nat} (hok : Ok F0 H0 c H) (ht : Tok c t ta) (hx : operandOk n x = true) (hv : vprim G (.extract x i) t c.h K) : Does G fl F0 H0 c H (.extract x i) ta K := by
  have hr := ev_rel ht hx
  simp only [vprim] at hv
  split at hv
  · rename_i l he
    rw [he] at hr
    obtain ⟨as, ha, h2⟩ := R2_tup hr
    split at hv
    · rename_i v hc
      obtain ⟨a, k1, k2⟩ := h2.get hc
      refine does_pure hok hv (a := a) ?_ (R1_R2 k2)
      simp only [prim, ha, List.getElem?_toArray, k1, Option.map_some]
    · exact hv.elim
  · exact hv.elim

theorem prim_ia {ty e es eb : TypeId} {x ix : Operand} {b o m cp : Nat} {k : IntKind} {i : Int} (hty : aTy G.P ty = .slice e es eb) (hx : eval ta x = .slice (some ⟨b, o, none⟩) m cp) (hi : eval ta ix = .int k i) (h0 : 0 ≤ i) (h1 : i < m) :
    prim G.P fl (.indexAddr ty x ix) (eval ta) H = some (.value (.pointer (some ⟨b, o + i.toNat * es, none⟩)), H) := prim_index hty hx hi h0 h1

theorem op_indexAddr {ty : TypeId} {x ix : Operand} (hok : Ok F0 H0 c H) (ht : Tok c t ta) (hx : operandOk n x = true) (hi : operandOk n ix = true) (hv : vprim G (.indexAddr ty x ix) t c.h K) : Does G fl F0 H0 c H (.indexAddr ty x ix) ta K := by
  have hr := ev_rel ht hx
  have hs := ev_rel ht hi
  simp only [vprim] at hv
  split at hv
  · rename_i e es eb o T l k i hty he1 he2
    rw [he1] at hr
    rw [he2] at hs
    obtain ⟨ei, _⟩ := R2_pl hs
    split at hv
    · rename_i hes
      obtain ⟨⟨h0, h1⟩, hv⟩ := hv
      obtain ⟨ad, cap, ha, h2⟩ := R2_fz hr
      have hlt : i.toNat < l.length := by omega
      rcases h2.at_ with e0 | ⟨b, q, B, e1, e2, e3, e4⟩
      · subst e0; simp at hlt
      · subst e1
        obtain ⟨cs, p1, p2⟩ := e4 i.toNat _ (List.getElem?_eq_getElem hlt)
        subst hes
        exact does_pure hok hv (prim_ia hty ha ei h0 h1) ⟨b, _, B, _, cs, by rw [Nat.add_zero], e2, List.getElem?_eq_getElem hlt, p1, p2⟩
    · exact hv.elim
  · rename_i e es eb j k i hty he1 he2
    rw [he1] at hr
    rw [he2] at hs
    obtain ⟨ei, _⟩ := R2_pl hs
    split at hv
    · rename_i q T l fr hg
      have hj := getO_get hg (by intro e; cases e)
      split at hv
      · rename_i hes
        obtain ⟨⟨h0, h1⟩, hv⟩ := hv
        have ha := R2_own hr hj
        have hlt : i.toNat < l.length := by omega
        have : ∃ b, c.ρ j = some b := by
          cases e : c.ρ j with
          | none =>
            have := ((hok.obj j _ hj).lst _ _ _ _ rfl).1 e
            subst this; simp at hlt
          | some b => exact ⟨b, rfl⟩
        obtain ⟨b, hb⟩ := this
        rw [hb] at ha
        subst hes
        refine does_pure hok hv (prim_ia hty ha ei h0 h1) ⟨b, hb, ?_⟩
        rw [hj]
        exact ⟨hlt, by simp⟩
      · exact hv.elim
    · exact hv.elim
  · rename_i e es eb l k i hty he1 he2
    rw [he1] at hr
    rw [he2] at hs
    obtain ⟨ei, _⟩ := R2_pl hs
    split at hv
    · rename_i hc
      obtain ⟨hes, h0, h1⟩ := hc
      obtain ⟨b, B, cp, ha, h2, _, h3⟩ := hr
      subst hes
      refine does_pure hok hv (a := .pointer (some ⟨b, i.toNat, none⟩)) ?_ ⟨b, B, rfl, h2, h3⟩
      rw [prim_ia hty ha ei h0 h1, Nat.zero_add, Nat.mul_one]
    · exact hv.elim
  · rename_i m e es sz j o k i hty he1 he2
    rw [he1] at hr
    rw [he2] at hs
    obtain ⟨ei, _⟩ := R2_pl hs
    split at hv
    · rename_i hc
      obtain ⟨b, cs, fr, h1, h2, h3⟩ := R2_ptr hr
      refine does_pure hok hv (a := .pointer (some ⟨b, o + i.toNat * es, none⟩)) ?_ ⟨b, cs, fr, h1, h2, rfl⟩
      simp only [prim, h3, ei, indexAddrA, hty]
      rw [if_pos hc, addr_add]; rfl
    · exact hv.elim
  · exact hv.elim

end
end Go.Mach

namespace Go.Mach
set_option linter.unusedVariables false
set_option linter.unusedSimpArgs false

section
variable {G : Cfg} {F0 : Fz} {H0 : AHeap} {c c' : Ctx} {H H' : AHeap} {t : List (Nat × VV)} {ta : Temps} {n fl : Nat} {K : VV → List VO → Prop}

theorem op_index {ty : TypeId} {x ix : Operand} (hok : Ok F0 H0 c H) (ht : Tok c t ta) (hx : operandOk n x = true) (hi : operandOk n ix = true) (hv : vprim G (.index ty x ix) t c.h K) : Does G fl F0 H0 c H (.index ty x ix) ta K := by
  have hr := ev_rel ht hx
  have hs := ev_rel ht hi
  simp only [vprim] at hv
  split at hv
  · rename_i m e es sz cs k i hty he1 he2
    rw [he1] at hr
    rw [he2] at hs
    obtain ⟨ei, _⟩ := R2_pl hs
    obtain ⟨as, ha, h2⟩ := R2_agg hr
    split at hv
    · rename_i k' l hio
      split at hv
      · rename_i hc
        obtain ⟨hn, hes, hag⟩ := hc
        obtain ⟨⟨h0, h1⟩, hv⟩ := hv
        have hlt : i.toNat < l.length := by omega
        have hcs : cs[i.toNat * es]? = some (.pl (.int k' (l.getD i.toNat 0))) := by
          rw [intsOf_eq hio, hes, Nat.mul_one, List.getElem?_map, List.getD_eq_getElem?_getD, List.getElem?_eq_getElem hlt]
          rfl
        obtain ⟨a, k1, k2⟩ := h2.get hcs
        refine does_pure hok hv (a := a) ?_ (leaf_R2 k2)
        simp only [prim, ha, ei, indexA, hty, if_pos (And.intro h0 h1), hag, partA, List.getElem?_toArray, k1, Option.map_some]
      · exact hv.elim
    · split at hv
      · rename_i hc
        split at hv
        · rename_i hag
          split at hv
          · rename_i hb
            refine does_pure hok hv (a := .agg ((as.drop (i.toNat * es)).take es).toArray) ?_ ⟨_, rfl, (h2.drop _).take _⟩
            simp only [prim, ha, ei, indexA, hty, if_pos hc, hag, partA, Option.map_some]
            congr 4
            rw [List.extract_toArray, List.extract_eq_take_drop]
            congr 2
            omega
          · exact hv.elim
        · rename_i hag
          split at hv
          · rename_i v hcs
            obtain ⟨a, k1, k2⟩ := h2.get hcs
            refine does_pure hok hv (a := a) ?_ (leaf_R2 k2)
            simp only [prim, ha, ei, indexA, hty, if_pos hc, hag, partA, List.getElem?_toArray, k1, Option.map_some]
          · exact hv.elim
        · exact hv.elim
      · exact hv.elim
  · rename_i s k i hty he1 he2
    rw [he1] at hr
    rw [he2] at hs
    obtain ⟨ei, _⟩ := R2_pl hs
    obtain ⟨es, _⟩ := R2_pl hr
    obtain ⟨⟨h0, h1⟩, hv⟩ := hv
    have hlt : i.toNat < s.size := by omega
    refine pure_pl hok hv ?_ rfl
    have e1 : s[i.toNat]? = some (s.data.toList.getD i.toNat 0) := by
      rw [getElem?_pos s _ hlt]
      congr 1
      rw [List.getD_eq_getElem?_getD, List.getElem?_eq_getElem (by simpa using hlt)]
      rfl
    simp only [prim, es, ei, indexA, hty, if_pos h0, e1, Option.map_some]
  · exact hv.elim

theorem op_arrAt {ty : TypeId} {x : Operand} (hok : Ok F0 H0 c H) (ht : Tok c t ta) (hx : operandOk n x = true) (hv : vprim G (.sliceToArrayPointer ty x) t c.h K) : Does G fl F0 H0 c H (.sliceToArrayPointer ty x) ta K := by
  have hr := ev_rel ht hx
  simp only [vprim] at hv
  split at hv
  case h_2 => exact hv.elim
  rename_i m e es sz i hty he
  rw [he] at hr
  split at hv
  case h_2 => exact hv.elim
  rename_i q k l fr hg
  have hi := getO_get hg (by intro e; cases e)
  split at hv
  case isFalse => exact hv.elim
  rename_i hm
  obtain ⟨hl, hv⟩ := hv
  have ha := R2_own hr hi
  have hlt : 0 < List.length l := by omega
  have : ∃ b, c.ρ i = some b := by
    cases e : c.ρ i with
    | none =>
      have := ((hok.obj i _ hi).lst _ _ _ _ rfl).1 e
      subst this; simp at hlt
    | some b => exact ⟨b, rfl⟩
  obtain ⟨b, hb⟩ := this
  rw [hb] at ha
  refine does_pure hok hv (a := .pointer (some ⟨b, 0, none⟩)) ?_ ⟨b, hb, ?_⟩
  · simp only [prim, ha, sl, Option.map_some, arrAtA, hty]
    rw [if_pos ⟨hm, hl⟩]
    rfl
  · rw [hi]
    exact ⟨hlt, by simp⟩

theorem vlen_sound {v : VV} {a : Value} {K : Nat → Prop} (hok : Ok F0 H0 c H) (hr : R2 c v a) (h : vlen c.h v K) : ∃ m, K m ∧ ∃ ad cap, a = .slice ad m cap := by
  unfold vlen at h
  split at h
  · obtain ⟨ad, k, rfl, _⟩ := R2_fz hr; exact ⟨_, h, _, _, rfl⟩
  · split at h
    · rename_i hg
      have := R2_own hr (getO_get hg (by intro e; cases e))
      subst this
      exact ⟨_, h, _, _, rfl⟩
    · exact h.elim
  · obtain ⟨rfl, _⟩ := R2_pl hr; exact ⟨_, h, _, _, rfl⟩
  · obtain ⟨b, B, k, rfl, _⟩ := hr; exact ⟨_, h, _, _, rfl⟩
  · exact h.elim

theorem vfold_sound {f : Int → Int → Int} {g : Value → Value → Option Value} {k : IntKind} (hg : ∀ x y, g (.int k x) (.int k y) = some (.int k (f x y))) {K : Int → Prop} : ∀ {l : List VV} {as : List Value} {x : Int}, All2 (R2 c) l as → vfold f k x l K → ∃ m, K m ∧ foldA g (.int k x) as = some (.int k m)
  | [], _, x, .nil, h => ⟨x, h, rfl⟩
  | v :: l, _, x, .cons (b := b) hr t, h => by
    unfold vfold at h
    split at h
    · rename_i e; cases e
    · rename_i k' y l' e
      cases e
      split at h
      · rename_i e; subst e
        obtain ⟨rfl, _⟩ := R2_pl hr
        obtain ⟨m, h1, h2⟩ := vfold_sound hg t h
        exact ⟨m, h1, by simp only [foldA, hg, h2]⟩
      · exact h.elim
    · exact h.elim

theorem args_rel (ht : Tok c t ta) : ∀ {l : List Operand}, (∀ x ∈ l, operandOk n x = true) → All2 (R2 c) (l.map (evV t)) (l.map (eval ta))
  | [], _ => .nil
  | x :: l, h => .cons (ev_rel ht (h x List.mem_cons_self)) (args_rel ht fun y hy => h y (List.mem_cons_of_mem _ hy))

theorem vfrom_sound {v : VV} {a : Value} {K : (T : Ty) → List T.den → Bool → Prop} (hok : Ok F0 H0 c H) (hr : R2 c v a) (h : vfrom c.h v K) :
    ∃ T l o new, K T l o ∧ lenA a = some l.length ∧ firstA H T.w l.length a = some new ∧ RC (cutF o c.n0 c.F) T l new := by
  unfold vfrom at h
  split at h
  · rename_i o T l
    obtain ⟨ad, k, rfl, h2⟩ := R2_fz hr
    obtain ⟨new, k1, k2⟩ := first_of (H := H) (fun b B e => hok.fz b B (cutF_le _ _ e)) h2 rfl
    exact ⟨T, l, _, new, h, rfl, k1, k2.flat⟩
  · rename_i i
    split at h
    · rename_i o T l fr hg
      have hi := getO_get hg (by intro e; cases e)
      have := R2_own hr hi
      subst this
      obtain ⟨k1, k2⟩ := (hok.obj _ _ hi).lst _ _ _ _ rfl
      obtain ⟨new, g1, g2⟩ := first_own (H := H) (F := cutF o c.n0 c.F) (k := l.length) (n := l.length) k1 (fun b e => by obtain ⟨as, ex, m1, m2, _⟩ := k2 b e; exact ⟨as, ex, m1, m2⟩) rfl
      exact ⟨T, l, _, new, h, rfl, g1, g2.flat⟩
    · exact h.elim
  · exact h.elim

theorem op_builtin {cl : Call} (hfl : fl ≤ H0.length) (hok : Ok F0 H0 c H) (ht : Tok c t ta) (hx : ∀ x ∈ cl.args.toList, operandOk n x = true) (hv : vprim G (.call cl) t c.h K) : Does G fl F0 H0 c H (.call cl) ta K := by
  simp only [vprim] at hv
  have hargs : cl.args.map (eval ta) = (cl.args.toList.map (eval ta)).toArray := by apply Array.toList_inj.1; simp
  split at hv
  · -- len
    rename_i hc
    split at hv
    · rename_i ty x hty hxa
      have hr := ev_rel ht (hx x (by rw [hxa]; exact List.mem_cons_self))
      have ha0 : (cl.args.map (eval ta))[0]? = some (eval ta x) := by rw [hargs, hxa]; rfl
      split at hv
      · rename_i m e es sz hta
        refine pure_pl hok hv ?_ rfl
        simp only [prim, callA, hc, lenOfA, hty, ha0, hta, Option.map_some]
      · rename_i hta
        split at hv
        · rename_i s he
          rw [he] at hr
          obtain ⟨e, _⟩ := R2_pl hr
          refine pure_pl hok hv ?_ rfl
          simp only [prim, callA, hc, lenOfA, hty, ha0, hta, e, Option.map_some]
        · exact hv.elim
      · rename_i e es eb hta
        obtain ⟨m, h1, ad, cap, e⟩ := vlen_sound hok hr hv
        refine pure_pl hok h1 ?_ rfl
        simp only [prim, callA, hc, lenOfA, hty, ha0, hta, e, Option.map_some]
      · exact hv.elim
    · exact hv.elim
  · -- min
    rename_i hc
    split at hv
    · rename_i k x l he
      have hrel := args_rel ht hx
      rw [he] at hrel
      cases e : cl.args.toList.map (eval ta) with
      | nil => rw [e] at hrel; cases hrel
      | cons a as =>
        rw [e] at hrel
        cases hrel with
        | cons hr tr =>
          obtain ⟨rfl, _⟩ := R2_pl hr
          obtain ⟨m, h1, h2⟩ := vfold_sound (g := min2A) (f := smaller) (fun x y => rfl) tr hv
          refine pure_pl hok h1 ?_ rfl
          simp only [prim, callA, hc, hargs, e, h2, Option.map_some]
    · exact hv.elim
  · -- max
    rename_i hc
    split at hv
    · rename_i k x l he
      have hrel := args_rel ht hx
      rw [he] at hrel
      cases e : cl.args.toList.map (eval ta) with
      | nil => rw [e] at hrel; cases hrel
      | cons a as =>
        rw [e] at hrel
        cases hrel with
        | cons hr tr =>
          obtain ⟨rfl, _⟩ := R2_pl hr
          obtain ⟨m, h1, h2⟩ := vfold_sound (g := max2A) (f := greater) (fun x y => rfl) tr hv
          refine pure_pl hok h1 ?_ rfl
          simp only [prim, callA, hc, hargs, e, h2, Option.map_some]
    · exact hv.elim
  · -- complex
    rename_i hc
    split at hv
    · rename_i k a k' b he
      split at hv
      · rename_i ek; subst ek
        have hrel := args_rel ht hx
        rw [he] at hrel
        cases e : cl.args.toList.map (eval ta) with
        | nil => rw [e] at hrel; cases hrel
        | cons u as =>
          rw [e] at hrel
          cases hrel with
          | cons hr tr =>
            obtain ⟨rfl, _⟩ := R2_pl hr
            cases tr with
            | cons hr2 tr2 =>
              obtain ⟨rfl, _⟩ := R2_pl hr2
              cases tr2
              refine pure_pl hok hv ?_ rfl
              simp only [prim, callA, hc, hargs, e, if_true]
      · exact hv.elim
    · exact hv.elim
  · -- real
    rename_i hc
    split at hv
    · rename_i k a b he
      have hrel := args_rel ht hx
      rw [he] at hrel
      cases e : cl.args.toList.map (eval ta) with
      | nil => rw [e] at hrel; cases hrel
      | cons u as =>
        rw [e] at hrel
        cases hrel with
        | cons hr tr =>
          obtain ⟨rfl, _⟩ := R2_pl hr
          cases tr
          refine pure_pl hok hv ?_ rfl
          simp only [prim, callA, hc, hargs, e]
    · exact hv.elim
  · -- imag
    rename_i hc
    split at hv
    · rename_i k a b he
      have hrel := args_rel ht hx
      rw [he] at hrel
      cases e : cl.args.toList.map (eval ta) with
      | nil => rw [e] at hrel; cases hrel
      | cons u as =>
        rw [e] at hrel
        cases hrel with
        | cons hr tr =>
          obtain ⟨rfl, _⟩ := R2_pl hr
          cases tr
          refine pure_pl hok hv ?_ rfl
          simp only [prim, callA, hc, hargs, e]
    · exact hv.elim
  · -- append
    rename_i hc
    split at hv
    · rename_i st xt x y hst hxt hxa
      have hr := ev_rel ht (hx x (by rw [hxa]; exact List.mem_cons_self))
      have hs := ev_rel ht (hx y (by rw [hxa]; exact List.mem_cons_of_mem _ List.mem_cons_self))
      have ha0 : (cl.args.map (eval ta))[0]? = some (eval ta x) := by rw [hargs, hxa]; rfl
      have ha1 : (cl.args.map (eval ta))[1]? = some (eval ta y) := by rw [hargs, hxa]; rfl
      split at hv
      · rename_i e es eb e2 es2 eb2 hta htb
        obtain ⟨T, l2, o2, new, h1, h2, h3, h4⟩ := vfrom_sound hok hs hv
        split at h1
        · rename_i hcc
          obtain ⟨hes, heb, hz⟩ := hcc
          subst hes
          split at h1
          · rename_i i he
            rw [he] at hr
            split at h1
            · rename_i q T' l hg
              have hi := getO_get hg (by intro e; cases e)
              obtain ⟨eT, h1⟩ := Ty.at_inv h1
              subst eT
              obtain ⟨hb, h1⟩ := h1
              have ha := R2_own hr hi
              obtain ⟨a', H', k1, k2⟩ := hok.append (P := G.P) hfl hi h3 h4 hz hb heb
              have hle : Le c (addC (setC c i (.dead (someOf l2))) a' (.lst (q && o2) T' (l ++ l2) false)) := (setC_le (o' := .dead (someOf l2)) hi trivial).trans (addC_le _ _)
              have hlen : (setC c i (.dead (someOf l2))).h.length = c.h.length := by simp [setC]
              refine ⟨_, _, sl a' (l.length + l2.length), H', h1, .inl ?_, _, hle, rfl, k2, ?_⟩
              · simp only [prim, callA, hc, appendA, hst, hxt, ha0, ha1, ha, sl, hta, htb, h2]
                rw [show (Option.map (fun b => (⟨b, 0, none⟩ : Addr)) (c.ρ i)) = (c.ρ i).map fun b => ⟨b, 0, none⟩ from rfl, k1]
                rfl
              · rw [← hlen]
                exact R2_topl (by simp)
            · exact h1.elim
          · rename_i he
            rw [he] at hr
            obtain ⟨ha, _⟩ := R2_pl hr
            obtain ⟨hb, h1⟩ := h1
            obtain ⟨a', H', k1, k2⟩ := hok.append0 (P := G.P) (fl := fl) h3 h4 hz hb heb
            refine ⟨_, _, sl a' l2.length, H', h1, .inl ?_, _, addC_le _ _, rfl, k2, R2_topl rfl⟩
            simp only [prim, callA, hc, appendA, hst, hxt, ha0, ha1, ha, hta, htb, h2]
            rw [k1]
            rfl
          · exact h1.elim
        · exact h1.elim
      · exact hv.elim
    · exact hv.elim
  · exact hv.elim

/-- What opOk tells of an operation's operands. -/
theorem operands_ok {ops : Array Oper} {o : Oper} (h : opOk n ops o = true) : ∀ x ∈ o.op.operands.toList, operandOk n x = true := by
  unfold opOk at h
  simp only [Bool.and_eq_true] at h
  exact fun x hx => List.all_eq_true.1 h.1.1 x hx

theorem vprim_does {op : Op} (hfl : fl ≤ H0.length) (hok : Ok F0 H0 c H) (ht : Tok c t ta) (hx : ∀ x ∈ op.operands.toList, operandOk n x = true) (hv : vprim G op t c.h K) : Does G fl F0 H0 c H op ta K := by
  cases op <;> try (simp only [vprim] at hv; done)
  case move x => exact op_move hok ht (hx x (by simp [Op.operands])) hv
  case assign x => exact op_assign hok ht (hx x (by simp [Op.operands])) hv
  case alloc ty => exact op_alloc hok hv
  case box ty x => exact op_box hok ht (hx x (by simp [Op.operands])) hv
  case build ty ps => exact op_build hok ht (fun p hp => hx p.2 (by simp only [Op.operands]; exact List.mem_map.2 ⟨p, hp, rfl⟩)) hv
  case buildSlice ty len ps => exact op_buildSlice hok ht (fun p hp => hx p.2 (by simp only [Op.operands]; exact List.mem_map.2 ⟨p, hp, rfl⟩)) hv
  case load ty x => exact op_load hok ht (hx x (by simp [Op.operands])) hv
  case store ty x y => exact op_store hfl hok ht (hx x (by simp [Op.operands])) (hx y (by simp [Op.operands])) hv
  case nilCheck x => exact op_nilCheck hok ht (hx x (by simp [Op.operands])) hv
  case binOp op ty x y ty2 => exact op_binOp hok ht (hx x (by simp [Op.operands])) (hx y (by simp [Op.operands])) hv
  case unOp op ty x => exact op_unOp hok ht (hx x (by simp [Op.operands])) hv
  case convert s d x => exact op_convert hok ht (hx x (by simp [Op.operands])) hv
  case makeFunc fn first caps => exact op_makeFunc hok ht (fun x h => hx x (by simp only [Op.operands, Array.toList_append]; exact List.mem_append_right _ h)) hv
  case makeSlice ty x y => exact op_makeSlice hok ht (hx x (by simp [Op.operands])) hv
  case slice ty x lo hi mx => exact op_slice hok ht (hx x (by simp [Op.operands])) (fun y hy => hx y (by
    simp only [Op.operands, Array.toList_append, List.mem_append]
    simp only [List.mem_append] at hy
    rcases hy with (hy | hy) | hy
    · left; left; right; cases lo <;> simp_all
    · left; right; cases hi <;> simp_all
    · right; cases mx <;> simp_all)) hv
  case fieldAddr s x f => exact op_fieldAddr hok ht (hx x (by simp [Op.operands])) hv
  case field s x f => exact op_field hok ht (hx x (by simp [Op.operands])) hv
  case indexAddr ty x ix => exact op_indexAddr hok ht (hx x (by simp [Op.operands])) (hx ix (by simp [Op.operands])) hv
  case index ty x ix => exact op_index hok ht (hx x (by simp [Op.operands])) (hx ix (by simp [Op.operands])) hv
  case sliceToArrayPointer ty x => exact op_arrAt hok ht (hx x (by simp [Op.operands])) hv
  case extract x i => exact op_extract hok ht (hx x (by simp [Op.operands])) hv
  case call cl => exact op_builtin hfl hok ht (fun x h => hx x (by simp only [Op.operands, Call.operands, Array.toList_append]; exact List.mem_append_right _ h)) hv

end
end Go.Mach
