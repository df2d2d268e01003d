/- What the value machine's operations do, the machine's do: values, cells, memory. Laws; no condition. -/
import Derived.Test.YtofinnadgpnjhaaVApp
namespace Go.Mach
set_option linter.unusedVariables false

def Tok (c : Ctx) (t : List (Nat × VV)) (ta : Temps) : Prop := ∀ d, R2 c (lookV t d) (ta d)

theorem Tok.mono {c c' : Ctx} {t : List (Nat × VV)} {ta : Temps} (h : Tok c t ta) (hle : Le c c') : Tok c' t ta := fun d => R2.mono hle _ _ (h d)
theorem Tok.set {c : Ctx} {t : List (Nat × VV)} {ta : Temps} (h : Tok c t ta) {v : VV} {a : Value} (hv : R2 c v a) (d : Nat) : Tok c ((d, v) :: t) (tset ta d a) := fun i => by
  unfold lookV tset
  by_cases e : d = i
  · rw [if_pos e, if_pos e.symm]; exact hv
  · rw [if_neg e, if_neg (fun e' => e e'.symm)]; exact h i

section
variable {F0 : Fz} {H0 : AHeap} {c c' : Ctx} {H H' : AHeap} {t : List (Nat × VV)} {ta : Temps} {n : Nat}

theorem ev_rel (ht : Tok c t ta) {x : Operand} (hx : operandOk n x = true) : R2 c (evV t x) (eval ta x) := by
  cases x with
  | tmp i => exact ht i
  | const v => exact ⟨rfl, hx⟩
  | global g => cases hx
  | func f => exact ⟨[], rfl, .nil⟩

theorem R2_pl {v a : Value} (h : R2 c (.pl v) a) : a = v ∧ plainB v = true := h
theorem R2_fz {o : Bool} {T : Ty} {l : List T.den} {a : Value} (h : R2 c (.fz o T l) a) : ∃ ad k, a = .slice ad l.length k ∧ RSl (cutF o c.n0 c.F) (RT (cutF o c.n0 c.F) T) T.w ad k l := h
theorem R2_agg {l : List VV} {a : Value} (h : R2 c (.agg l) a) : ∃ azz, a = .agg azz.toArray ∧ All2 (RL c) l azz := h
theorem R2_ptr {i off : Nat} {a : Value} (h : R2 c (.ptr i off) a) : ∃ b cs fr, c.h[i]? = some (.box cs fr) ∧ c.ρ i = some b ∧ a = .pointer (some ⟨b, off, none⟩) := h
theorem R2_fptr {o : Bool} {T : Ty} {l : List T.den} {ix off : Nat} {a : Value} (h : R2 c (.fptr o T l ix off) a) : ∃ b q B x cs, a = .pointer (some ⟨b, q + off, none⟩) ∧ cutF o c.n0 c.F b = some B ∧ l[ix]? = some x ∧ InB B.cells q T.w cs ∧ RT (cutF o c.n0 c.F) T x cs := h
theorem R2_bx {l : List VV} {off : Nat} {a : Value} (h : R2 c (.bx l off) a) : ∃ b B, a = .pointer (some ⟨b, off, none⟩) ∧ c.F b = some B ∧ All2 (RL c) l B.cells := h
theorem R2_tup {l : List VV} {a : Value} (h : R2 c (.tup l) a) : ∃ azz, a = .tuple azz.toArray ∧ All2 (R1 c) l azz := h

theorem getO_get {h : List VO} {i : Nat} {o : VO} (e : getO h i = o) (hd : o ≠ .dead false) : h[i]? = some o := by
  unfold getO at e
  rw [List.getD_eq_getElem?_getD] at e
  cases k : h[i]? with
  | none => rw [k] at e; exact absurd e.symm hd
  | some o' => rw [k] at e; rw [show o' = o from e]

theorem R2_own {i : Nat} {q : Bool} {T : Ty} {l : List T.den} {fr : Bool} {a : Value} (h : R2 c (.own i) a) (hi : c.h[i]? = some (.lst q T l fr)) : a = sl (c.ρ i) l.length := by
  have h : RL c (.own i) a := h
  simp only [RL, hi] at h
  exact h
theorem R2_eptr {i ix off : Nat} {q : Bool} {T : Ty} {l : List T.den} {fr : Bool} {a : Value} (h : R2 c (.eptr i ix off) a) (hi : c.h[i]? = some (.lst q T l fr)) : ∃ b, c.ρ i = some b ∧ ix < l.length ∧ a = .pointer (some ⟨b, ix * T.w + off, none⟩) := by
  obtain ⟨b, h1, h2⟩ : RL c (.eptr i ix off) a := h
  rw [hi] at h2
  exact ⟨b, h1, h2⟩

theorem okL_cell {v : VV} {a : Value} (hv : okL v = true) (h : RL c v a) : holeB a = false ∧ Value.oneCell' a = true ∧ a.cells = #[a] ∧ R2 c v a ∧ R1 c v a := by
  cases v <;> simp only [okL] at hv <;> try (cases hv; done)
  case pl v =>
    obtain ⟨rfl, hp⟩ := h
    refine ⟨?_, ?_, ?_, ⟨rfl, hp⟩, ⟨rfl, hp⟩⟩ <;> cases a <;> first | rfl | (cases hp; done)
  case fz o T l => obtain ⟨ad, k, rfl, h2⟩ := h; exact ⟨rfl, rfl, rfl, ⟨ad, k, rfl, h2⟩, ⟨ad, k, rfl, h2⟩⟩
  case own i =>
    have h' := h
    simp only [RL] at h'
    cases e : c.h[i]? with
    | none => rw [e] at h'; exact h'.elim
    | some o =>
      rw [e] at h'
      cases o with
      | box _ _ => exact h'.elim
      | lst _ _ _ _ => simp only at h'; subst h'; exact ⟨rfl, rfl, rfl, h, h⟩
      | dead _ => obtain ⟨_, _, rfl⟩ := h'; exact ⟨rfl, rfl, rfl, h, h⟩
  case ptr i off => obtain ⟨b, cs, fr, h1, h2, rfl⟩ := h; exact ⟨rfl, rfl, rfl, ⟨b, cs, fr, h1, h2, rfl⟩, ⟨b, cs, fr, h1, h2, rfl⟩⟩
  case eptr i ix off =>
    have h' := h
    obtain ⟨b, h1, h2⟩ := h'
    cases e : c.h[i]? with
    | none => rw [e] at h2; exact h2.elim
    | some o =>
      rw [e] at h2
      cases o with
      | box _ _ => exact h2.elim
      | lst _ _ _ _ => obtain ⟨_, rfl⟩ := h2; exact ⟨rfl, rfl, rfl, h, h⟩
      | dead _ => obtain ⟨_, rfl⟩ := h2; exact ⟨rfl, rfl, rfl, h, h⟩
  case fptr o T l ix off => have h' := h; obtain ⟨b, q, B, x, cs, rfl, _⟩ := h'; exact ⟨rfl, rfl, rfl, h, h⟩

theorem okL_all {cs : List VV} {azz : List Value} (hc : cs.all okL = true) (h : All2 (RL c) cs azz) : azz.all (fun v => !holeB v) = true ∧ azz.all Value.oneCell' = true := by
  induction h with
  | nil => exact ⟨rfl, rfl⟩
  | cons h t ih =>
    simp only [List.all_cons, Bool.and_eq_true] at hc ⊢
    obtain ⟨h1, h2, _⟩ := okL_cell hc.1 h
    exact ⟨⟨by rw [h1]; rfl, (ih hc.2).1⟩, ⟨h2, (ih hc.2).2⟩⟩

/-- A value's cells. -/
theorem vcells_rel {v : VV} {a : Value} (hv : (vcells v).all okL = true) (h : R2 c v a) : All2 (RL c) (vcells v) a.cells.toList ∧ a.cells.size = (vcells v).length := by
  have key : ∀ v : VV, okL v = true → R2 c v a → vcells v = [v] → All2 (RL c) (vcells v) a.cells.toList ∧ a.cells.size = (vcells v).length := by
    intro v hv h e
    have h' : RL c v a := by cases v <;> first | exact h | (cases hv; done)
    rw [e, (okL_cell hv h').2.2.1]
    exact ⟨.cons h' .nil, rfl⟩
  cases v with
  | agg l =>
    obtain ⟨azz, rfl, h2⟩ := R2_agg h
    exact ⟨h2, by simp [Value.cells, vcells, h2.len]⟩
  | _ => exact key _ (by simpa [vcells] using hv) h rfl

/-- A load out of cells. -/
theorem vload_sound {P : Program} {ty : TypeId} {cs : List VV} {azz : List Value} {off : Nat} {K : VV → Prop} {es : Nat} {ex al : Bool} (h : All2 (RL c) cs azz) (hv : vload (aTy P ty) cs off K) :
    ∃ v a, K v ∧ R1 c v a ∧ loadB P ty ⟨azz, es, ex, al⟩ off = some a := by
  unfold vload at hv
  unfold loadB
  cases ht : aTy P ty with
  | struct sz fs =>
    simp only [ht] at hv ⊢
    split at hv
    · rename_i hc
      have h2 := (h.drop off).take sz
      refine ⟨_, _, hv, ⟨_, rfl, h2⟩, ?_⟩
      rw [if_pos ⟨by rw [← h.len]; exact hc.1, (okL_all hc.2 h2).1⟩]
    · exact hv.elim
  | array n e es' sz =>
    simp only [ht] at hv ⊢
    split at hv
    · rename_i hc
      have h2 := (h.drop off).take sz
      refine ⟨_, _, hv, ⟨_, rfl, h2⟩, ?_⟩
      rw [if_pos ⟨by rw [← h.len]; exact hc.1, (okL_all hc.2 h2).1⟩]
    · exact hv.elim
  | other => simp only [ht] at hv
  | one =>
    simp only [ht] at hv ⊢
    cases e : cs[off]? with
    | none => simp only [e] at hv
    | some v =>
      simp only [e] at hv
      split at hv
      · rename_i hk
        obtain ⟨a, h1, h2⟩ := h.get e
        obtain ⟨h3, _, _, _, h4⟩ := okL_cell hk h2
        exact ⟨v, a, hv, h4, by simp only [h1, h3]; rfl⟩
      · exact hv.elim
  | str =>
    simp only [ht] at hv ⊢
    cases e : cs[off]? with
    | none => simp only [e] at hv
    | some v =>
      simp only [e] at hv
      split at hv
      · rename_i hk
        obtain ⟨a, h1, h2⟩ := h.get e
        obtain ⟨h3, _, _, _, h4⟩ := okL_cell hk h2
        exact ⟨v, a, hv, h4, by simp only [h1, h3]; rfl⟩
      · exact hv.elim
  | slice e1 e2 e3 =>
    simp only [ht] at hv ⊢
    cases e : cs[off]? with
    | none => simp only [e] at hv
    | some v =>
      simp only [e] at hv
      split at hv
      · rename_i hk
        obtain ⟨a, h1, h2⟩ := h.get e
        obtain ⟨h3, _, _, _, h4⟩ := okL_cell hk h2
        exact ⟨v, a, hv, h4, by simp only [h1, h3]; rfl⟩
      · exact hv.elim

theorem R1_R2 {v : VV} {a : Value} (h : R1 c v a) : R2 c v a := by
  cases v <;> first | exact h | (exact (show False from h).elim)

/-- The part of a block that holds an element, for a load of it. -/
theorem loadB_part {P : Program} {ty : TypeId} {B : Blk} {q w : Nat} {cs : List Value} {off : Nat} {a : Value} (hp : InB B.cells q w cs) (hw : cs.length = w) {es : Nat} {ex al : Bool} (h : loadB P ty ⟨cs, es, ex, al⟩ off = some a) : loadB P ty B (q + off) = some a := by
  obtain ⟨h1, h2⟩ := hp
  have hd : ∀ k, off + k ≤ cs.length → (B.cells.drop (q + off)).take k = (cs.drop off).take k := by
    intro k hk
    rw [← h2, List.drop_take, List.drop_drop, List.take_take, Nat.min_eq_left (by omega)]
  have hg : off < cs.length → B.cells[q + off]? = cs[off]? := by
    intro hk
    rw [← h2, List.getElem?_take_of_lt (by omega), List.getElem?_drop]
  unfold loadB at h ⊢
  cases ht : aTy P ty with
  | struct sz fs =>
    simp only [ht] at h ⊢
    split at h
    · rename_i hc
      rw [hd sz hc.1, if_pos ⟨by omega, hc.2⟩]; exact h
    · cases h
  | array n e es' sz =>
    simp only [ht] at h ⊢
    split at h
    · rename_i hc
      rw [hd sz hc.1, if_pos ⟨by omega, hc.2⟩]; exact h
    · cases h
  | other => simp only [ht] at h; cases h
  | one =>
    simp only [ht] at h ⊢
    cases e : cs[off]? with
    | none => simp [e] at h
    | some v => rw [hg (ltl_of_get e), e]; rw [e] at h; exact h
  | str =>
    simp only [ht] at h ⊢
    cases e : cs[off]? with
    | none => simp [e] at h
    | some v => rw [hg (ltl_of_get e), e]; rw [e] at h; exact h
  | slice e1 e2 e3 =>
    simp only [ht] at h ⊢
    cases e : cs[off]? with
    | none => simp [e] at h
    | some v => rw [hg (ltl_of_get e), e]; rw [e] at h; exact h

theorem vsetCells_len (cs : List Value) (i : Nat) (vs : List Value) : (setCells cs i vs).length = cs.length := by
  induction vs generalizing cs i with
  | nil => rfl
  | cons v vs ih => simp only [setCells]; rw [ih]; simp
theorem vset_len (cs : List VV) (i : Nat) (vs : List VV) : (vset cs i vs).length = cs.length := by
  induction vs generalizing cs i with
  | nil => rfl
  | cons v vs ih => simp only [vset]; rw [ih]; simp
theorem vset_rel {R : VV → Value → Prop} {vs : List VV} {azz : List Value} (h : All2 R vs azz) : ∀ {cs : List VV} {bs : List Value} (i : Nat), All2 R cs bs → All2 R (vset cs i vs) (setCells bs i azz) := by
  induction h with
  | nil => intro cs bs i k; exact k
  | cons h t ih => intro cs bs i k; exact ih (i + 1) (k.set i h)

/-- setCells within a part. -/
theorem setCells_part : ∀ (vs : List Value) (A cs D : List Value) (off : Nat), off + vs.length ≤ cs.length → setCells (A ++ cs ++ D) (A.length + off) vs = A ++ setCells cs off vs ++ D
  | [], A, cs, D, off, _ => rfl
  | v :: vs, A, cs, D, off, h => by
    simp only [List.length_cons] at h
    simp only [setCells]
    have e : (A ++ cs ++ D).set (A.length + off) v = A ++ cs.set off v ++ D := by
      rw [List.append_assoc, List.set_append_right _ _ (by omega), show A.length + off - A.length = off by omega, List.set_append_left _ _ (by omega), List.append_assoc]
    rw [e]
    exact setCells_part vs A (cs.set off v) D (off + 1) (by simp; omega)

/-- Values laid in their places. -/
theorem vfill_sound {place : Nat → Option (Nat × Nat)} {K : List VV → Prop} : ∀ (ps : List (Nat × VV)) (qs : List (Nat × Value)) {cs : List VV} {bs : List Value}, All2 (fun p q => p.1 = q.1 ∧ R2 c p.2 q.2) ps qs → All2 (RL c) cs bs → vfill place cs ps K →
    ∃ cs' bs', K cs' ∧ afill place bs qs = some bs' ∧ All2 (RL c) cs' bs' := by
  intro ps
  induction ps with
  | nil =>
    intro qs cs bs hp hc hv
    cases hp
    exact ⟨cs, bs, hv, rfl, hc⟩
  | cons p ps ih =>
    intro qs cs bs hp hc hv
    cases hp with
    | cons h t =>
      rename_i q qs
      obtain ⟨i, v⟩ := p
      obtain ⟨j, a⟩ := q
      obtain ⟨e, hr⟩ := h
      simp only at e hr
      subst e
      simp only [vfill] at hv
      simp only [afill]
      cases hpl : place i with
      | none => simp only [hpl] at hv
      | some os =>
        obtain ⟨off, size⟩ := os
        simp only [hpl] at hv ⊢
        split at hv
        · rename_i hc2
          obtain ⟨k1, k2⟩ := vcells_rel hc2.2.2 hr
          rw [if_pos ⟨by rw [k2]; exact hc2.1, by rw [← hc.len]; exact hc2.2.1⟩]
          exact ih qs t (vset_rel k1 off hc) hv
        · exact hv.elim

theorem plain_rel {cs : List Value} (h : cs.all plainB = true) : All2 (RL c) (cs.map VV.pl) cs := by
  induction cs with
  | nil => exact .nil
  | cons v cs ih =>
    simp only [List.all_cons, Bool.and_eq_true] at h
    exact .cons ⟨rfl, h.1⟩ (ih h.2)

theorem azero_plain {P : Program} {ty : TypeId} {z : List Value} (h : azero P ty = some z) : z.all plainB = true := by
  unfold azero at h
  split at h
  · rename_i z' hz
    split at h
    · rename_i hp; cases h; exact hp
    · cases h
  · cases h

theorem rowOf_plain {z : List Value} (h : z.all plainB = true) (n : Nat) : (rowOf z n).all plainB = true := by
  unfold rowOf
  rw [List.all_map, List.all_eq_true]
  intro i _
  simp only [Function.comp]
  by_cases hl : i % z.length < z.length
  · rw [getElem!_pos z _ hl]
    exact List.all_eq_true.1 h _ (List.getElem_mem hl)
  · rw [getElem!_neg z _ hl]
    rfl

/-! ### What is one's own told as lists -/

/-- These objects are read alone from now on, and what they hold is told. -/
def Froz (c : Ctx) (h : List VO) (i : Nat) : Prop := ∀ q T l fr, h[i]? = some (.lst q T l fr) → ∀ b, c.ρ i = some b → ∃ azz ex, c.F b = some ⟨azz, T.w, ex, true⟩ ∧ RC (cutF q c.n0 c.F) T l azz

theorem Froz.mono (hle : Le c c') {h : List VO} {i : Nat} (hi : i < c.h.length) (k : Froz c h i) : Froz c' h i := fun q T l fr e b e' => by
  obtain ⟨azz, ex, k1, k2⟩ := k q T l fr e b ((hle.ρ i hi) ▸ e')
  exact ⟨azz, ex, hle.F _ _ k1, by rw [hle.n0]; exact k2.mono (cutF_ext hle.F)⟩

theorem freeze_len : ∀ (h : List VO) (is : List Nat), (freeze h is).length = h.length
  | h, [] => rfl
  | h, i :: is => by unfold freeze; rw [freeze_len]; simp

theorem frozen_lst {o : VO} {q : Bool} {T : Ty} {l : List T.den} {fr : Bool} (h : frozenO o = .lst q T l fr) : ∃ fr', o = .lst q T l fr' := by
  cases o with
  | lst q' T' l' fr' => cases h; exact ⟨fr', rfl⟩
  | box _ _ => cases h
  | dead _ => cases h

theorem Ok.freezes : ∀ (is : List Nat) {c : Ctx}, Ok F0 H0 c H → ∃ c', Le c c' ∧ c'.h = freeze c.h is ∧ c'.n0 = c.n0 ∧ c'.ρ = c.ρ ∧ Ok F0 H0 c' H ∧ ∀ i ∈ is, Froz c' c.h i
  | [], c, h => ⟨c, Le.refl c, rfl, rfl, rfl, h, fun i hi => by cases hi⟩
  | i :: is, c, h => by
    obtain ⟨F', h1, h2, h3, h4⟩ := h.freeze1 i
    obtain ⟨c', k1, k2, kn, kρ, k3, k4⟩ := Ok.freezes is h3
    refine ⟨c', h2.trans k1, k2, kn, kρ, k3, ?_⟩
    have hfi : ∀ (j : Nat) (q : Bool) (T : Ty) (l : List T.den) (fr : Bool), c.h[j]? = some (VO.lst q T l fr) → ∃ fr', (c.h.set i (frozenO (getO c.h i)))[j]? = some (VO.lst q T l fr') := by
      intro j q T l fr e
      by_cases hij : i = j
      · subst hij
        rw [List.getElem?_set_self (ltl_of_get e), getO_of e]
        exact ⟨true, rfl⟩
      · rw [List.getElem?_set_ne hij]; exact ⟨fr, e⟩
    intro j hj
    rcases List.mem_cons.1 hj with rfl | hj
    · intro q T l fr e b e'
      rw [kρ] at e'
      obtain ⟨azz, ex, g1, g2⟩ := h4 q T l fr e b e'
      exact ⟨azz, ex, k1.F _ _ g1, by rw [k1.n0]; exact g2.mono (cutF_ext k1.F)⟩
    · intro q T l fr e b e'
      obtain ⟨fr', e2⟩ := hfi j q T l fr e
      exact k4 j hj q T l fr' e2 b e'

/-- A cell, told as a list where it is one's own. -/
theorem resolve_rel {c1 : Ctx} (hok : Ok F0 H0 c H) (hle : Le c c1) (hρ : c1.ρ = c.ρ) {v : VV} {a : Value} (h : RL c v a) (hf : ∀ i ∈ ownsL v, Froz c1 c.h i) : RL c1 (resolve c.h v) a := by
  cases v with
  | own i =>
    unfold resolve
    simp only
    split
    · rename_i o T l fr e
      have hi := getO_get e (by intro e; cases e)
      have ha : a = sl (c.ρ i) l.length := R2_own (c := c) h hi
      have hfr := hf i (by simp [ownsL]) _ _ _ _ hi
      refine ⟨_, _, ha, ?_⟩
      cases hb : c.ρ i with
      | none =>
        have := ((hok.obj i _ hi).lst _ _ _ _ rfl).1 hb
        subst this
        exact ⟨Nat.le_refl _, .inl rfl⟩
      | some b =>
        obtain ⟨azz, ex, k1, k2⟩ := hfr b (by rw [hρ]; exact hb)
        refine k2.slice (b := b) (B := ⟨azz, T.w, ex, true⟩) rfl ?_ (.inr rfl)
        unfold cutF
        rw [if_neg (by intro hh; have := (hok.blk hb).1; have := hle.n0; omega)]
        exact k1
    · trivial
  | _ => exact RL.mono hle _ _ h

theorem RT_weak {F : Fz} {n0 : Nat} {o o' : Bool} (h : o' = true → o = true) : (cutF o n0 F).ext (cutF o' n0 F) := by
  intro b B hb
  unfold cutF at hb ⊢
  split at hb
  · cases hb
  · rename_i hh
    rw [if_neg (fun ⟨h1, h2⟩ => hh ⟨h h1, h2⟩)]; exact hb

theorem Ty.at_inv {T T' : Ty} {l : List T.den} {K : List T'.den → Prop} (h : Ty.at T T' l K) : ∃ e : T = T', K (e ▸ l) := by
  unfold Ty.at at h
  split at h
  · exact ⟨_, h⟩
  · exact h.elim

/-- What cells are told to stand for, they stand for. -/
theorem dec_sound : ∀ (T : Ty) {cs : List VV} {azz : List Value} {K : T.den → Bool → List VV → Prop}, All2 (RL c) cs azz → dec T cs K →
    ∃ x o rest as1 as2, K x o rest ∧ azz = as1 ++ as2 ∧ RT (cutF o c.n0 c.F) T x as1 ∧ All2 (RL c) rest as2 := by
  intro T
  induction T with
  | int k =>
    intro cs azz K h hd
    unfold dec at hd
    split at hd
    · split at hd
      · rename_i k' n r e; subst e
        cases h with
        | cons h t => obtain ⟨rfl, _⟩ := h; exact ⟨n, true, r, [_], _, hd, rfl, rfl, t⟩
      · exact hd.elim
    · exact hd.elim
  | bool =>
    intro cs azz K h hd
    unfold dec at hd
    split at hd
    · rename_i b r
      cases h with
      | cons h t => obtain ⟨rfl, _⟩ := h; exact ⟨b, true, r, [_], _, hd, rfl, rfl, t⟩
    · exact hd.elim
  | str =>
    intro cs azz K h hd
    unfold dec at hd
    split at hd
    · rename_i b r
      cases h with
      | cons h t => obtain ⟨rfl, _⟩ := h; exact ⟨b, true, r, [_], _, hd, rfl, rfl, t⟩
    · exact hd.elim
  | slc T ih =>
    intro cs azz K h hd
    unfold dec at hd
    split at hd
    · rename_i o T' l r
      obtain ⟨e, hd⟩ := Ty.at_inv hd
      subst e
      cases h with
      | cons h t =>
        obtain ⟨ad, k, rfl, h2⟩ := h
        exact ⟨l, o, r, [_], _, hd, rfl, ⟨ad, k, rfl, h2⟩, t⟩
    · rename_i k r
      cases h with
      | cons h t =>
        obtain ⟨rfl, _⟩ := h
        exact ⟨[], true, r, [_], _, hd, rfl, ⟨none, k, rfl, ⟨Nat.zero_le _, .inl rfl⟩⟩, t⟩
    · exact hd.elim
  | unit =>
    intro cs azz K h hd
    exact ⟨(), true, cs, [], azz, hd, rfl, rfl, h⟩
  | pair A B iha ihb =>
    intro cs azz K h hd
    unfold dec at hd
    obtain ⟨x, o, r, a1, a2, h1, rfl, h3, h4⟩ := iha h hd
    obtain ⟨y, o', r', b1, b2, k1, rfl, k3, k4⟩ := ihb h4 h1
    refine ⟨(x, y), o && o', r', a1 ++ b1, b2, k1, by rw [List.append_assoc], ⟨a1, b1, rfl, ?_, ?_⟩, k4⟩
    · exact RT.mono (RT_weak (fun e => by simp at e; exact e.1)) _ _ _ h3
    · exact RT.mono (RT_weak (fun e => by simp at e; exact e.2)) _ _ _ k3

theorem decN_sound (T : Ty) : ∀ (n : Nat) {cs : List VV} {azz : List Value} {K : List T.den → Bool → Prop}, All2 (RL c) cs azz → decN T n cs K → ∃ l o, K l o ∧ l.length = n ∧ RC (cutF o c.n0 c.F) T l azz := by
  intro n
  induction n with
  | zero =>
    intro cs azz K h hd
    unfold decN at hd
    split at hd
    · cases h; exact ⟨[], true, hd, rfl, RC.nil _ _⟩
    · exact hd.elim
  | succ n ih =>
    intro cs azz K h hd
    unfold decN at hd
    obtain ⟨x, o, r, a1, a2, h1, rfl, h3, h4⟩ := dec_sound T h hd
    obtain ⟨l, o', k1, k2, k3⟩ := ih h4 h1
    refine ⟨x :: l, o && o', k1, by simp [k2], RC.cons ?_ ?_⟩
    · exact RT.mono (RT_weak (fun e => by simp at e; exact e.1)) _ _ _ h3
    · exact k3.mono (RT_weak (fun e => by simp at e; exact e.2))

end
end Go.Mach
