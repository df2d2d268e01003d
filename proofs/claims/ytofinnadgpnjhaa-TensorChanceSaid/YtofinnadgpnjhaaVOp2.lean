/- What the value machine's operations do, the machine's do: operation by operation. Laws; no condition. -/
import Derived.Test.YtofinnadgpnjhaaVOp1
namespace Go.Mach
set_option linter.unusedVariables false
set_option linter.unusedSimpArgs false

theorem All2.mapM {α β γ : Type} {R : α → β → Prop} {T : γ → β → Prop} {f : α → γ} : ∀ {l : List α} {m : List β}, All2 R l m → (∀ a ∈ l, ∀ b, R a b → T (f a) b) → All2 T (l.map f) m
  | _, _, .nil, _ => .nil
  | _, _, .cons h t, hf => .cons (hf _ List.mem_cons_self _ h) (t.mapM fun a ha => hf a (List.mem_cons_of_mem _ ha))

def VOut (F0 : Fz) (H0 : AHeap) (c : Ctx) (v : VV) (h' : List VO) (a : Value) (H' : AHeap) : Prop := ∃ c', Le c c' ∧ c'.h = h' ∧ Ok F0 H0 c' H' ∧ R2 c' v a

/-- The machine does what the value machine tells. -/
def Does (G : Cfg) (fl : Nat) (F0 : Fz) (H0 : AHeap) (c : Ctx) (H : AHeap) (op : Op) (ta : Temps) (K : VV → List VO → Prop) : Prop :=
  ∃ v h' a H', K v h' ∧ (prim G.P fl op (eval ta) H = some (.value a, H') ∨ (prim G.P fl op (eval ta) H = some (.skip, H') ∧ a = undef)) ∧ VOut F0 H0 c v h' a H'

section
variable {G : Cfg} {F0 : Fz} {H0 : AHeap} {c c' : Ctx} {H H' : AHeap} {t : List (Nat × VV)} {ta : Temps} {n fl : Nat} {K : VV → List VO → Prop}

theorem VOut.same (hok : Ok F0 H0 c H) {v : VV} {a : Value} (h : R2 c v a) : VOut F0 H0 c v c.h a H := ⟨c, Le.refl c, rfl, hok, h⟩

theorem does_pure {op : Op} {v : VV} {a : Value} (hok : Ok F0 H0 c H) (hk : K v c.h) (hp : prim G.P fl op (eval ta) H = some (.value a, H)) (hr : R2 c v a) : Does G fl F0 H0 c H op ta K :=
  ⟨v, c.h, a, H, hk, .inl hp, VOut.same hok hr⟩

theorem pure_pl {op : Op} {v : Value} (hok : Ok F0 H0 c H) (hk : K (.pl v) c.h) (hp : prim G.P fl op (eval ta) H = some (.value v, H)) (hv : plainB v = true) : Does G fl F0 H0 c H op ta K :=
  does_pure hok hk hp ⟨rfl, hv⟩

theorem op_move {x : Operand} (hok : Ok F0 H0 c H) (ht : Tok c t ta) (hx : operandOk n x = true) (hv : vprim G (.move x) t c.h K) : Does G fl F0 H0 c H (.move x) ta K :=
  does_pure hok hv rfl (ev_rel ht hx)
theorem op_assign {x : Operand} (hok : Ok F0 H0 c H) (ht : Tok c t ta) (hx : operandOk n x = true) (hv : vprim G (.assign x) t c.h K) : Does G fl F0 H0 c H (.assign x) ta K :=
  does_pure hok hv rfl (ev_rel ht hx)

theorem R2_top {c : Ctx} {b : Nat} {cs : List VV} {fr : Bool} : R2 (addC c (some b) (.box cs fr)) (.ptr c.h.length 0) (.pointer (some ⟨b, 0, none⟩)) :=
  ⟨b, cs, fr, addC_top, addC_ρ, rfl⟩
theorem R2_topl {c : Ctx} {a : Option Nat} {q : Bool} {T : Ty} {l : List T.den} {fr : Bool} {k : Nat} (hk : k = l.length) : R2 (addC c a (.lst q T l fr)) (.own c.h.length) (sl a k) := by
  subst hk
  show RL (addC c a (.lst q T l fr)) (.own c.h.length) (sl a l.length)
  simp only [RL, addC_top, addC_ρ]

theorem op_alloc {ty : TypeId} (hok : Ok F0 H0 c H) (hv : vprim G (.alloc ty) t c.h K) : Does G fl F0 H0 c H (.alloc ty) ta K := by
  simp only [vprim] at hv
  cases hz : azero G.P ty with
  | none => simp only [hz] at hv
  | some cs =>
    simp only [hz] at hv
    refine ⟨_, _, _, _, hv, .inl ?_, _, addC_le _ _, rfl, hok.addBox (plain_rel (azero_plain hz)), R2_top⟩
    simp only [prim, hz]

theorem op_box {ty : TypeId} {x : Operand} (hok : Ok F0 H0 c H) (ht : Tok c t ta) (hx : operandOk n x = true) (hv : vprim G (.box ty x) t c.h K) : Does G fl F0 H0 c H (.box ty x) ta K := by
  simp only [vprim] at hv
  split at hv
  · rename_i hc
    exact ⟨_, _, _, _, hv, .inl rfl, _, addC_le _ _, rfl, hok.addBox (vcells_rel hc (ev_rel ht hx)).1, R2_top⟩
  · exact hv.elim

theorem parts_rel (ht : Tok c t ta) {ps : List (Nat × Operand)} (hx : ∀ p ∈ ps, operandOk n p.2 = true) : All2 (fun p q => p.1 = q.1 ∧ R2 c p.2 q.2) (ps.map fun p => (p.1, evV t p.2)) (ps.map fun p => (p.1, eval ta p.2)) := by
  induction ps with
  | nil => exact .nil
  | cons p ps ih => exact .cons ⟨rfl, ev_rel ht (hx p List.mem_cons_self)⟩ (ih fun q hq => hx q (List.mem_cons_of_mem _ hq))

theorem op_build {ty : TypeId} {parts : Array (Nat × Operand)} (hok : Ok F0 H0 c H) (ht : Tok c t ta) (hx : ∀ p ∈ parts.toList, operandOk n p.2 = true) (hv : vprim G (.build ty parts) t c.h K) : Does G fl F0 H0 c H (.build ty parts) ta K := by
  simp only [vprim] at hv
  cases hz : azero G.P ty with
  | none => cases hty : aTy G.P ty <;> simp only [hty, hz] at hv
  | some z =>
    cases hty : aTy G.P ty with
    | struct sz fs =>
      simp only [hty, hz] at hv
      obtain ⟨cs, bs, h1, h2, h3⟩ := vfill_sound _ _ (parts_rel ht hx) (plain_rel (azero_plain hz)) hv
      refine does_pure hok h1 ?_ (a := .agg bs.toArray) ⟨bs, rfl, h3⟩
      simp only [prim, hty, hz, h2]
    | array m e es sz =>
      simp only [hty, hz] at hv
      obtain ⟨cs, bs, h1, h2, h3⟩ := vfill_sound _ _ (parts_rel ht hx) (plain_rel (azero_plain hz)) hv
      refine does_pure hok h1 ?_ (a := .agg bs.toArray) ⟨bs, rfl, h3⟩
      simp only [prim, hty, hz, h2]
    | one => simp only [hty, hz] at hv
    | str => simp only [hty, hz] at hv
    | slice _ _ _ => simp only [hty, hz] at hv
    | other => simp only [hty, hz] at hv

theorem op_buildSlice {ty : TypeId} {len : Nat} {parts : Array (Nat × Operand)} (hok : Ok F0 H0 c H) (ht : Tok c t ta) (hx : ∀ p ∈ parts.toList, operandOk n p.2 = true) (hv : vprim G (.buildSlice ty len parts) t c.h K) : Does G fl F0 H0 c H (.buildSlice ty len parts) ta K := by
  simp only [vprim] at hv
  cases hty : aTy G.P ty with
  | slice e es eb =>
    simp only [hty] at hv
    cases hz : azero G.P e with
    | none => cases hT : G.tt e <;> simp only [hz, hT] at hv
    | some z =>
      cases hT : G.tt e with
      | none => simp only [hz, hT] at hv
      | some T =>
        simp only [hz, hT] at hv
        split at hv
        · rename_i hc
          obtain ⟨hc1, hc2⟩ := hc
          obtain ⟨cs, bs, h1, h2, h3⟩ := vfill_sound _ _ (parts_rel ht hx) (plain_rel (rowOf_plain (azero_plain hz) (len * es))) hv
          obtain ⟨c1, k1, k2, kn, kρ, k3, k4⟩ := hok.freezes (cs.flatMap ownsL)
          have hr : All2 (RL c1) (cs.map (resolve c.h)) bs := h3.mapM fun v hv a hr => resolve_rel hok k1 kρ hr fun i hi => k4 i (List.mem_flatMap.2 ⟨v, hv, hi⟩)
          obtain ⟨l, o, g1, g2, g3⟩ := decN_sound T len hr h1
          have hlen : c1.h.length = c.h.length := by rw [k2, freeze_len]
          subst hc2
          refine ⟨_, _, .slice (some ⟨H.length, 0, none⟩) len len, H ++ [⟨bs, T.w, true, true⟩], g1, .inl ?_, addC c1 (some H.length) (.lst o T l false), k1.trans (addC_le _ _), ?_, ?_, ?_⟩
          · simp only [prim, hty, hc1, if_true, hz, h2]
          · show c1.h ++ _ = _; rw [k2]
          · exact k3.addLst (ex := true) (Pre.push _ _) (Nat.le_refl _) (new_get H _ rfl) g3
          · rw [← hlen]; exact R2_topl g2.symm
        · exact hv.elim
  | one => simp only [hty] at hv
  | str => simp only [hty] at hv
  | struct _ _ => simp only [hty] at hv
  | array _ _ _ _ => simp only [hty] at hv
  | other => simp only [hty] at hv

theorem getD_of {α : Type} {l : List α} {i : Nat} {x d : α} (h : l[i]? = some x) : l.getD i d = x := by
  rw [List.getD_eq_getElem?_getD, h]; rfl

theorem op_load {ty : TypeId} {x : Operand} (hok : Ok F0 H0 c H) (ht : Tok c t ta) (hx : operandOk n x = true) (hv : vprim G (.load ty x) t c.h K) : Does G fl F0 H0 c H (.load ty x) ta K := by
  have hr := ev_rel ht hx
  simp only [vprim] at hv
  cases he : evV t x with
  | ptr i off =>
    rw [he] at hr
    simp only [he] at hv
    obtain ⟨b, cs', fr', h1, h2, h3⟩ := R2_ptr hr
    split at hv
    · rename_i cs fr hg
      have hi := getO_get hg (by intro e; cases e)
      rw [hi] at h1; cases h1
      obtain ⟨b', azz, k1, k2, k3, _⟩ := (hok.obj i _ hi).box _ _ rfl
      rw [h2] at k1; cases k1
      obtain ⟨v, a, g1, g2, g3⟩ := vload_sound (es := 0) (ex := true) (al := true) k3 hv
      exact does_pure hok g1 (prim_load h3 (load_blk k2 g3)) (R1_R2 g2)
    · exact hv.elim
  | eptr i ix off =>
    rw [he] at hr
    simp only [he] at hv
    split at hv
    · rename_i q T l fr hg
      have hi := getO_get hg (by intro e; cases e)
      obtain ⟨b, h1, h2, h3⟩ := R2_eptr hr hi
      obtain ⟨azz, ex, k1, k2, _⟩ := ((hok.obj i _ hi).lst _ _ _ _ rfl).2 b h1
      obtain ⟨cs, g1, g2⟩ := k2.2 ix _ (List.getElem?_eq_getElem h2)
      rw [getD_of (List.getElem?_eq_getElem h2)] at hv
      obtain ⟨v, a, f1, f2, f3⟩ := vload_sound (es := 0) (ex := true) (al := true) (RT.enc (c := c) T _ _ g2) hv
      exact does_pure hok f1 (prim_load h3 (load_blk k1 (loadB_part (B := ⟨azz, T.w, ex, true⟩) g1 (RT.len _ _ _ g2) f3))) (R1_R2 f2)
    · exact hv.elim
  | fptr o T l ix off =>
    rw [he] at hr
    simp only [he] at hv
    obtain ⟨b, q, B, y, cs, h1, h2, h3, h4, h5⟩ := R2_fptr hr
    rw [getD_of h3] at hv
    obtain ⟨v, a, f1, f2, f3⟩ := vload_sound (es := 0) (ex := true) (al := true) (RT.enc (c := c) T _ _ h5) hv
    exact does_pure hok f1 (prim_load h1 (load_blk (hok.fz b B (cutF_le _ _ h2)) (loadB_part h4 (RT.len _ _ _ h5) f3))) (R1_R2 f2)
  | bx cs off =>
    rw [he] at hr
    simp only [he] at hv
    obtain ⟨b, B, h1, h2, h3⟩ := R2_bx hr
    obtain ⟨v, a, f1, f2, f3⟩ := vload_sound (es := B.es) (ex := B.exact) (al := B.alive) h3 hv
    exact does_pure hok f1 (prim_load h1 (load_blk (hok.fz b B h2) f3)) (R1_R2 f2)
  | _ => simp only [he] at hv

theorem freeze_lst : ∀ (is : List Nat) {h : List VO} {i : Nat} {q : Bool} {T : Ty} {l : List T.den} {fr : Bool}, h[i]? = some (.lst q T l fr) → ∃ fr', (freeze h is)[i]? = some (.lst q T l fr')
  | [], h, i, q, T, l, fr, e => ⟨fr, e⟩
  | j :: is, h, i, q, T, l, fr, e => by
    unfold freeze
    by_cases hij : j = i
    · subst hij
      refine freeze_lst is (fr := true) ?_
      rw [List.getElem?_set_self (ltl_of_get e), getO_of e]; rfl
    · refine freeze_lst is (fr := fr) ?_
      rw [List.getElem?_set_ne hij]; exact e

theorem op_store {ty : TypeId} {x y : Operand} (hfl : fl ≤ H0.length) (hok : Ok F0 H0 c H) (ht : Tok c t ta) (hx : operandOk n x = true) (hy : operandOk n y = true) (hv : vprim G (.store ty x y) t c.h K) : Does G fl F0 H0 c H (.store ty x y) ta K := by
  have hr := ev_rel ht hx
  have hs := ev_rel ht hy
  simp only [vprim] at hv
  cases he : evV t x with
  | ptr i off =>
    rw [he] at hr
    simp only [he] at hv
    obtain ⟨b, cs', fr', h1, h2, h3⟩ := R2_ptr hr
    split at hv
    · rename_i cs hg
      have hi := getO_get hg (by intro e; cases e)
      rw [hi] at h1; cases h1
      split at hv
      · rename_i hc
        obtain ⟨hc1, hc2, hc3, hc4⟩ := hc
        obtain ⟨b', azz, k1, k2, k3, k4, k5⟩ := (hok.obj i _ hi).box _ _ rfl
        rw [h2] at k1; cases k1
        obtain ⟨g1, g2⟩ := vcells_rel hc3 hs
        have hlen : (eval ta y).cells.toList.length = (vcells (evV t y)).length := by rw [Array.length_toList, g2]
        have hsb : storeB G.P ty ⟨azz, 0, true, true⟩ off (eval ta y) = some ⟨setCells azz off (eval ta y).cells.toList, 0, true, true⟩ := by
          unfold storeB
          rw [if_pos ⟨by rw [g2]; exact hc1, by rw [hlen, ← k3.len]; exact hc2, (okL_all hc3 g1).2⟩]
        obtain ⟨H', f1, f2, f3⟩ := store_blk (P := G.P) (fl := fl) k2 (by have := (hok.blk h2).1; have := hok.n0; omega) hsb
        have hle : Le c (setC c i (.box (vset cs' off (vcells (evV t y))) false)) := setC_le hi trivial
        refine ⟨.undef, _, undef, H', hv, .inr ⟨?_, rfl⟩, setC c i (.box (vset cs' off (vcells (evV t y))) false), hle, rfl, ?_, trivial⟩
        · simp only [prim, h3, f1, Option.map_some]
        · refine hok.upd hi (by intro e; cases e) trivial h2 (k5 rfl) f3 ?_ (by intro e; cases e)
          exact {
            lo := fun b' e => by
              have e : c.ρ i = some b' := e
              have := hok.blk e
              rw [f3.len]; exact this
            box := fun cs2 fr2 e => by
              cases e
              exact ⟨b, _, h2, f2, (vset_rel g1 off k3).mono (RL.mono hle), fun e => (by cases e), fun _ => k5 rfl⟩
            lst := fun _ _ _ _ e => (by cases e)
            dead := fun _ e => (by cases e) }
      · exact hv.elim
    · exact hv.elim
  | eptr i ix off =>
    rw [he] at hr
    simp only [he] at hv
    split at hv
    · rename_i q T l hg
      have hi := getO_get hg (by intro e; cases e)
      split at hv
      · rename_i hc
        obtain ⟨hc1, hc2, hc3, hc4⟩ := hc
        split at hv
        · rename_i q1 T1 l1 hg1
          obtain ⟨b, h1, h2, h3⟩ := R2_eptr hr hi
          obtain ⟨c1, k1, k2, kn, kρ, k3, k4⟩ := hok.freezes ((vset (enc q T (l.getD ix T.dflt)) off (vcells (evV t y))).flatMap ownsL)
          have hi1 : c1.h[i]? = some (.lst q T l false) := by
            obtain ⟨fr', e1⟩ := freeze_lst ((vset (enc q T (l.getD ix T.dflt)) off (vcells (evV t y))).flatMap ownsL) hi
            have e2 := getO_get hg1 (by intro e; cases e)
            rw [e1] at e2
            cases e2
            rw [k2]; exact e1
          have hρ1 : c1.ρ i = some b := by rw [kρ]; exact h1
          obtain ⟨azz, ex, m1, m2, m3, m4⟩ := ((k3.obj i _ hi1).lst _ _ _ _ rfl).2 b hρ1
          obtain ⟨as', ex', m1', m2', _⟩ := ((hok.obj i _ hi).lst _ _ _ _ rfl).2 b h1
          rw [m1] at m1'; cases m1'
          obtain ⟨cs, g1, g2⟩ := m2'.2 ix _ (List.getElem?_eq_getElem h2)
          have hcl := RT.len _ _ _ g2
          rw [getD_of (List.getElem?_eq_getElem h2)] at hv k4
          obtain ⟨f1, f2⟩ := vcells_rel hc3 hs
          have hlen : (eval ta y).cells.toList.length = (vcells (evV t y)).length := by rw [Array.length_toList, f2]
          have hrel : All2 (RL c) (vset (enc q T l[ix]) off (vcells (evV t y))) (setCells cs off (eval ta y).cells.toList) := vset_rel f1 off (RT.enc (c := c) T _ _ g2)
          have hrel1 : All2 (RL c1) ((vset (enc q T l[ix]) off (vcells (evV t y))).map (resolve c.h)) (setCells cs off (eval ta y).cells.toList) :=
            hrel.mapM fun v hv' a hr' => resolve_rel hok k1 kρ hr' fun j hj => k4 j (List.mem_flatMap.2 ⟨v, hv', hj⟩)
          obtain ⟨z, o', rest, a1, a2, w1, w2, w3, w4⟩ := dec_sound T hrel1 hv
          have ha2 : a2 = [] := by
            have e1 := congrArg List.length w2
            rw [vsetCells_len, hcl, List.length_append, RT.len _ _ _ w3] at e1
            exact List.length_eq_zero_iff.1 (by omega)
          subst ha2
          rw [List.append_nil] at w2
          have hb2 : ix * T.w + T.w ≤ azz.length := g1.1
          have hsb : storeB G.P ty ⟨azz, T.w, ex, true⟩ (ix * T.w + off) (eval ta y) = some ⟨setCells azz (ix * T.w + off) (eval ta y).cells.toList, T.w, ex, true⟩ := by
            unfold storeB
            rw [if_pos ⟨by rw [f2]; exact hc1, by rw [hlen]; show _ ≤ azz.length; omega, (okL_all hc3 f1).2⟩]
          have hset : setCells azz (ix * T.w + off) (eval ta y).cells.toList = azz.take (ix * T.w) ++ a1 ++ azz.drop (ix * T.w + T.w) := by
            have e0 : azz = azz.take (ix * T.w) ++ cs ++ azz.drop (ix * T.w + T.w) := by
              rw [← g1.2, List.append_assoc, ← List.drop_drop, List.take_append_drop, List.take_append_drop]
            have e1 : (azz.take (ix * T.w)).length = ix * T.w := by rw [List.length_take]; omega
            have e2 := setCells_part (eval ta y).cells.toList (azz.take (ix * T.w)) cs (azz.drop (ix * T.w + T.w)) off (by rw [hlen, hcl]; exact hc2)
            rw [← e0, e1] at e2
            rw [e2, w2]
          obtain ⟨H', u1, u2, u3⟩ := store_blk (P := G.P) (fl := fl) m1 (by have := (hok.blk h1).1; have := hok.n0; omega) hsb
          have hle : Le c1 (setC c1 i (.lst (q && o') T (l.set ix z) false)) := setC_le hi1 ⟨rfl, by simp⟩
          refine ⟨.undef, _, undef, H', w1, .inr ⟨?_, rfl⟩, setC c1 i (.lst (q && o') T (l.set ix z) false), k1.trans hle, ?_, ?_, trivial⟩
          · simp only [prim, h3, u1, Option.map_some]
          · show c1.h.set i _ = _
            rw [k2, getD_of (List.getElem?_eq_getElem h2)]
          · refine k3.upd hi1 (by intro e; cases e) ⟨rfl, by simp⟩ hρ1 (m4 rfl) u3 ?_ (by intro e; cases e)
            exact {
              lo := fun b' e => by
                have e : c1.ρ i = some b' := e
                have := k3.blk e
                rw [u3.len]; exact this
              box := fun _ _ e => (by cases e)
              lst := fun q2 T2 l2 fr2 e => by
                cases e
                refine ⟨fun e => (by have e : c1.ρ i = none := e; rw [hρ1] at e; cases e), fun b' e => ?_⟩
                have e : c1.ρ i = some b' := e
                rw [hρ1] at e; cases e
                refine ⟨_, ex, u2, ?_, fun e => (by cases e), fun _ => m4 rfl⟩
                rw [hset]
                exact (m2.mono (RT_weak (fun e => by simp at e; exact e.1))).set h2 (RT.mono (RT_weak (fun e => by simp at e; exact e.2)) _ _ _ w3)
              dead := fun _ e => (by cases e) }
        · exact hv.elim
      · exact hv.elim
    · exact hv.elim
  | _ => simp only [he] at hv

theorem op_nilCheck {x : Operand} (hok : Ok F0 H0 c H) (ht : Tok c t ta) (hx : operandOk n x = true) (hv : vprim G (.nilCheck x) t c.h K) : Does G fl F0 H0 c H (.nilCheck x) ta K := by
  have hr := ev_rel ht hx
  simp only [vprim] at hv
  cases he : evV t x with
  | ptr i off =>
    rw [he] at hr; simp only [he] at hv
    obtain ⟨b, cs', fr', h1, h2, h3⟩ := R2_ptr hr
    exact does_pure hok hv (by simp only [prim, h3]) ⟨b, cs', fr', h1, h2, rfl⟩
  | eptr i ix off =>
    rw [he] at hr; simp only [he] at hv
    obtain ⟨b, h1, h2⟩ : RL c (.eptr i ix off) (eval ta x) := hr
    have : ∃ p, eval ta x = .pointer (some p) := by
      split at h2
      · exact ⟨_, h2.2⟩
      · obtain ⟨q, e⟩ := h2; exact ⟨_, e⟩
      · exact h2.elim
    obtain ⟨p, hp⟩ := this
    refine does_pure hok hv (a := eval ta x) ?_ ⟨b, h1, h2⟩
    simp only [prim, hp]
  | fptr o T l ix off =>
    rw [he] at hr; simp only [he] at hv
    have hr' := hr
    obtain ⟨b, q, B, y, cs, h1, _⟩ := R2_fptr hr'
    refine does_pure hok hv (a := eval ta x) ?_ hr
    simp only [prim, h1]
  | bx l off =>
    rw [he] at hr; simp only [he] at hv
    have hr' := hr
    obtain ⟨b, B, h1, _⟩ := R2_bx hr'
    refine does_pure hok hv (a := eval ta x) ?_ hr
    simp only [prim, h1]
  | _ => simp only [he] at hv

end
end Go.Mach
