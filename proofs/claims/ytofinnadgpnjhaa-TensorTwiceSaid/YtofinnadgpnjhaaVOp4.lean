/- What the value machine's operations do, the machine's do: slices, fields, indexes, built-in functions. Laws; no condition. -/
import Derived.Test.YtofinnadgpnjhaaVOp3
namespace Go.Mach
set_option linter.unusedVariables false
set_option linter.unusedSimpArgs false

section
variable {G : Cfg} {F0 : Fz} {H0 : AHeap} {c c' : Ctx} {H H' : AHeap} {t : List (Nat × VV)} {ta : Temps} {n fl : Nat} {K : VV → List VO → Prop}

/-- The bounds that a slice expression was told to have. -/
theorem vslice_sound {α : Type} {ne : Prop} {l : List α} {lo hi mx : Option Operand} {cap : Nat} {K : List α → Prop} (ht : Tok c t ta) (hx : ∀ x ∈ lo.toList ++ hi.toList ++ mx.toList, operandOk n x = true) (hcap : l.length ≤ cap)
    (h : vslice ne l (lo.map (evV t)) (hi.map (evV t)) (mx.map (evV t)) K) :
    ∃ a b m : Nat, boundsA l.length cap (lo.map (eval ta)) (hi.map (eval ta)) (mx.map (eval ta)) = some (a, b, m) ∧ ne ∧ a ≤ b ∧ b ≤ l.length ∧ b ≤ m ∧ K ((l.take b).drop a) := by
  have key : ∀ x : Operand, x ∈ lo.toList ++ hi.toList ++ mx.toList → ∀ k i, evV t x = .pl (.int k i) → eval ta x = .int k i := by
    intro x hm k i e
    have := ev_rel ht (hx x hm)
    rw [e] at this
    exact (R2_pl this).1
  have go : ∀ (i j : Int) (m : Nat), (j ≤ m) → ck (ne ∧ 0 ≤ i ∧ i ≤ j ∧ j ≤ l.length) (K ((l.take j.toNat).drop i.toNat)) → ne ∧ i.toNat ≤ j.toNat ∧ j.toNat ≤ l.length ∧ j.toNat ≤ m ∧ K ((l.take j.toNat).drop i.toNat) := by
    intro i j m hm ⟨⟨h1, h2, h3, h4⟩, h5⟩
    exact ⟨h1, by omega, by omega, by omega, h5⟩
  unfold vslice at h
  unfold boundsA
  cases lo with
  | none =>
    simp only [Option.map_none] at h ⊢
    cases hi with
    | none =>
      simp only [Option.map_none] at h
      cases mx with
      | some m => simp at h
      | none =>
        simp only [Option.map_none, Option.isSome_none, Bool.false_eq_true, if_false] at h
        obtain ⟨h1, h2, h3, h4, h5⟩ := go 0 l.length l.length (Int.le_refl _) h
        refine ⟨0, l.length, cap, rfl, h1, by omega, Nat.le_refl _, hcap, by simpa using h5⟩
    | some hh =>
      simp only [Option.map_some] at h
      cases hv : evV t hh with
      | pl v =>
        cases v with
        | int k j =>
          have ej := key hh (by simp) k j hv
          simp only [hv] at h
          cases mx with
          | none =>
            simp only [Option.map_none, Option.isSome_none, Bool.false_eq_true, if_false] at h
            have hb := h.1
            obtain ⟨h1, h2, h3, h4, h5⟩ := go 0 j l.length (by omega) h
            refine ⟨0, j.toNat, cap, ?_, h1, by omega, h3, by omega, by simpa using h5⟩
            simp only [Option.map_some, Option.map_none, ej, boundA, bind, Option.bind]
            rw [if_pos ⟨by omega, by omega⟩]
          | some mm =>
            simp only [Option.map_some, Option.isSome_some, if_true] at h
            obtain ⟨h0, h⟩ := h
            cases hm : evV t mm with
            | pl v =>
              cases v with
              | int k2 m =>
                have em := key mm (by simp) k2 m hm
                simp only [hm] at h0
                have hb := h.1
                obtain ⟨h1, h2, h3, h4, h5⟩ := go 0 j m.toNat (by omega) h
                refine ⟨0, j.toNat, m.toNat, ?_, h1, by omega, h3, by omega, by simpa using h5⟩
                simp only [Option.map_some, ej, em, boundA, bind, Option.bind]
                rw [if_pos ⟨by omega, by omega⟩]
                simp only []
                rw [if_pos ⟨by omega, by omega⟩]
              | _ => simp only [hm] at h0
            | _ => simp only [hm] at h0
        | _ => simp only [hv] at h
      | _ => simp only [hv] at h
  | some ll =>
    simp only [Option.map_some] at h
    cases hvl : evV t ll with
    | pl v =>
      cases v with
      | int kl i =>
        have el := key ll (by simp) kl i hvl
        simp only [hvl] at h
        cases hi with
        | none =>
          simp only [Option.map_none] at h
          cases mx with
          | some m => simp at h
          | none =>
            simp only [Option.map_none, Option.isSome_none, Bool.false_eq_true, if_false] at h
            have hb := h.1
            obtain ⟨h1, h2, h3, h4, h5⟩ := go i l.length l.length (Int.le_refl _) h
            refine ⟨i.toNat, l.length, cap, ?_, h1, by omega, Nat.le_refl _, hcap, by simpa using h5⟩
            simp only [Option.map_some, Option.map_none, el, boundA, bind, Option.bind]
            rw [if_pos ⟨by omega, by omega⟩]
        | some hh =>
          simp only [Option.map_some] at h
          cases hv : evV t hh with
          | pl v =>
            cases v with
            | int k j =>
              have ej := key hh (by simp) k j hv
              simp only [hv] at h
              cases mx with
              | none =>
                simp only [Option.map_none, Option.isSome_none, Bool.false_eq_true, if_false] at h
                have hb := h.1
                obtain ⟨h1, h2, h3, h4, h5⟩ := go i j l.length (by omega) h
                refine ⟨i.toNat, j.toNat, cap, ?_, h1, h2, h3, by omega, h5⟩
                simp only [Option.map_some, Option.map_none, ej, el, boundA, bind, Option.bind]
                rw [if_pos ⟨by omega, by omega⟩]
                simp only []
                rw [if_pos ⟨by omega, by omega⟩]
              | some mm =>
                simp only [Option.map_some, Option.isSome_some, if_true] at h
                obtain ⟨h0, h⟩ := h
                cases hm : evV t mm with
                | pl v =>
                  cases v with
                  | int k2 m =>
                    have em := key mm (by simp) k2 m hm
                    simp only [hm] at h0
                    have hb := h.1
                    obtain ⟨h1, h2, h3, h4, h5⟩ := go i j m.toNat (by omega) h
                    refine ⟨i.toNat, j.toNat, m.toNat, ?_, h1, h2, h3, by omega, h5⟩
                    simp only [Option.map_some, ej, em, el, boundA, bind, Option.bind]
                    rw [if_pos ⟨by omega, by omega⟩]
                    simp only []
                    rw [if_pos ⟨by omega, by omega⟩]
                    simp only []
                    rw [if_pos ⟨by omega, by omega⟩]
                  | _ => simp only [hm] at h0
                | _ => simp only [hm] at h0
            | _ => simp only [hv] at h
          | _ => simp only [hv] at h
      | _ => simp only [hvl] at h
    | _ => simp only [hvl] at h

theorem addr_add {b o k : Nat} : (⟨b, o, none⟩ : Addr).add k = ⟨b, o + k, none⟩ := by
  unfold Addr.add
  split
  · rename_i e; subst e; rfl
  · rfl

theorem blk?_get {b : Nat} {B : Blk} (h : blk? H b = some B) : H[b]? = some B := by
  unfold blk? at h
  cases e : H[b]? with
  | none => simp [e] at h
  | some C =>
    simp only [e] at h
    split at h
    · exact h
    · cases h

/-- The slice itself. -/
theorem sliceA_sound {P : Program} {ty e es eb : TypeId} (hty : aTy P ty = .slice e es eb) {T : Ty} (hes : es = T.w) {F : Fz} {ad : Option Addr} {cap : Nat} {l : List T.den} (hr : RSl F (RT F T) T.w ad cap l)
    (hn : ad = none ∨ ∃ b o B, ad = some ⟨b, o, none⟩ ∧ H[b]? = some B ∧ (B.exact = true ∨ B.es = T.w))
    {lo hi mx : Option Value} {a b m : Nat} (hb : boundsA l.length cap lo hi mx = some (a, b, m)) (h1 : a ≤ b) (h2 : b ≤ l.length) (h3 : b ≤ m) :
    ∃ ad' cap', sliceA P ty (.slice ad l.length cap) lo hi mx H = some (.slice ad' (b - a) cap') ∧ RSl F (RT F T) T.w ad' cap' ((l.take b).drop a) := by
  unfold sliceA
  rw [hty]
  rcases hn with rfl | ⟨b', o, B, rfl, hg, e3⟩
  · simp only [hb]
    have hl : l = [] := by
      rcases hr.at_ with e | ⟨_, _, _, e, _⟩
      · exact e
      · cases e
    subst hl
    exact ⟨none, m - a, rfl, by simp, .inl (by simp)⟩
  · simp only [hb, hg]
    have hsub := hr.sub (lo := a) (hi := b) h1 h2 (m := m) h3
    subst hes
    by_cases hx : B.exact = true
    · rw [if_pos hx]
      by_cases hm : m = a
      · rw [if_pos hm]
        refine ⟨_, _, rfl, ?_, .inl ?_⟩
        · simp; omega
        · apply List.length_eq_zero_iff.1; simp; omega
      · rw [if_neg hm, addr_add]
        exact ⟨_, _, rfl, hsub⟩
    · rw [if_neg hx, if_pos (e3.resolve_left hx), addr_add]
      exact ⟨_, _, rfl, hsub⟩

theorem op_slice {ty : TypeId} {x : Operand} {lo hi mx : Option Operand} (hok : Ok F0 H0 c H) (ht : Tok c t ta) (hx : operandOk n x = true) (hxs : ∀ x ∈ lo.toList ++ hi.toList ++ mx.toList, operandOk n x = true) (hv : vprim G (.slice ty x lo hi mx) t c.h K) : Does G fl F0 H0 c H (.slice ty x lo hi mx) ta K := by
  have hr := ev_rel ht hx
  simp only [vprim] at hv
  split at hv
  · rename_i e es eb o T l hty he
    rw [he] at hr
    split at hv
    · rename_i hes
      obtain ⟨ad, cap, ha, h2⟩ := R2_fz hr
      obtain ⟨a, b, m, g1, g2, g3, g4, g5, g6⟩ := vslice_sound ht hxs h2.cap hv
      obtain ⟨b0, o0, B0, q1, q2, q3, _⟩ := h2.at_.resolve_left g2
      obtain ⟨ad', cap', k1, k2⟩ := sliceA_sound (H := H) hty hes h2 (.inr ⟨b0, o0, B0, q1, blk?_get (hok.fz b0 B0 (cutF_le _ _ q2)), q3⟩) g1 g3 g4 g5
      refine does_pure hok g6 (a := .slice ad' (b - a) cap') ?_ ⟨ad', cap', ?_, k2⟩
      · simp only [prim, ha, k1, Option.map_some]
      · congr 1; simp; omega
    · exact hv.elim
  · rename_i e es eb i hty he
    rw [he] at hr
    split at hv
    · rename_i q T l fr hg
      have hi := getO_get hg (by intro e; cases e)
      split at hv
      · rename_i hes
        have ha := R2_own hr hi
        obtain ⟨a, b, m, g1, g2, g3, g4, g5, g6⟩ := vslice_sound ht hxs (Nat.le_refl _) hv
        obtain ⟨c1, k1, k2, kn, kρ, k3, k4⟩ := hok.freezes [i]
        have hl : RL c1 (resolve c.h (.own i)) (eval ta x) := resolve_rel hok k1 kρ hr fun j hj => k4 j (by simpa [ownsL] using hj)
        have hres : resolve c.h (.own i) = .fz q T l := by unfold resolve; simp only [hg]
        rw [hres] at hl
        obtain ⟨ad, cap, e1, h2⟩ := hl
        rw [ha] at e1
        have hcap : cap = l.length := by unfold sl at e1; cases e1; rfl
        have had : ad = none ∨ ∃ b o B, ad = some ⟨b, o, none⟩ ∧ H[b]? = some B ∧ (B.exact = true ∨ B.es = T.w) := by
          cases hρ : c.ρ i with
          | none => rw [hρ] at e1; cases e1; exact .inl rfl
          | some b' =>
            rw [hρ] at e1
            obtain ⟨azz, ex, z1, _⟩ := ((hok.obj i _ hi).lst _ _ _ _ rfl).2 b' hρ
            unfold sl at e1
            simp only [Option.map_some] at e1
            cases e1
            exact .inr ⟨b', 0, _, rfl, blk?_get z1, .inr rfl⟩
        subst hcap
        obtain ⟨ad', cap', w1, w2⟩ := sliceA_sound (H := H) hty hes h2 had g1 g3 g4 g5
        refine ⟨_, _, .slice ad' (b - a) cap', H, g6, .inl ?_, c1, k1, k2, k3, ad', cap', ?_, w2⟩
        · simp only [prim, ha, e1, w1, Option.map_some]
        · congr 1; simp; omega
      · exact hv.elim
    · exact hv.elim
  · exact hv.elim

theorem op_fieldAddr {s : TypeId} {x : Operand} {f : Nat} (hok : Ok F0 H0 c H) (ht : Tok c t ta) (hx : operandOk n x = true) (hv : vprim G (.fieldAddr s x f) t c.h K) : Does G fl F0 H0 c H (.fieldAddr s x f) ta K := by
  have hr := ev_rel ht hx
  simp only [vprim] at hv
  split at hv
  · rename_i sz fs hty
    split at hv
    · rename_i off size ag hf
      split at hv
      · exact hv.elim
      · rename_i hs
        have hp : ∀ b o, eval ta x = .pointer (some ⟨b, o, none⟩) → prim G.P fl (.fieldAddr s x f) (eval ta) H = some (.value (.pointer (some ⟨b, o + off, none⟩)), H) := by
          intro b o e
          simp only [prim, e, fieldAddrA, hty, hf]
          rw [if_neg hs, addr_add]; rfl
        split at hv
        · rename_i i o he
          rw [he] at hr
          obtain ⟨b, cs, fr, h1, h2, h3⟩ := R2_ptr hr
          exact does_pure hok hv (hp b o h3) ⟨b, cs, fr, h1, h2, rfl⟩
        · rename_i i ix o he
          rw [he] at hr
          obtain ⟨b, h1, h2⟩ : RL c (.eptr i ix o) (eval ta x) := hr
          cases ho : c.h[i]? with
          | none => rw [ho] at h2; exact h2.elim
          | some ob =>
            rw [ho] at h2
            cases ob with
            | box _ _ => exact h2.elim
            | lst q T l fr =>
              exact does_pure hok hv (hp b _ h2.2) ⟨b, h1, by rw [ho]; exact ⟨h2.1, by rw [Nat.add_assoc]⟩⟩
            | dead d =>
              obtain ⟨q, e⟩ := h2
              exact does_pure hok hv (hp b _ e) ⟨b, h1, by rw [ho]; exact ⟨_, rfl⟩⟩
        · rename_i o T l ix o2 he
          rw [he] at hr
          obtain ⟨b, q, B, y, cs, h1, h2⟩ := R2_fptr hr
          exact does_pure hok hv (hp b _ h1) ⟨b, q, B, y, cs, by rw [Nat.add_assoc], h2⟩
        · rename_i l o he
          rw [he] at hr
          obtain ⟨b, B, h1, h2⟩ := R2_bx hr
          exact does_pure hok hv (hp b _ h1) ⟨b, B, rfl, h2⟩
        · exact hv.elim
    · exact hv.elim
  · exact hv.elim

theorem leaf_R2 {v : VV} {a : Value} (h : RL c v a) : R2 c v a := by
  cases v <;> first | exact h | exact (show False from h).elim

theorem op_field {s : TypeId} {x : Operand} {f : Nat} (hok : Ok F0 H0 c H) (ht : Tok c t ta) (hx : operandOk n x = true) (hv : vprim G (.field s x f) t c.h K) : Does G fl F0 H0 c H (.field s x f) ta K := by
  have hr := ev_rel ht hx
  simp only [vprim] at hv
  split at hv
  · rename_i sz fs cs hty he
    rw [he] at hr
    obtain ⟨azz, ha, h2⟩ := R2_agg hr
    split at hv
    · rename_i off size hf
      split at hv
      · exact hv.elim
      · rename_i hs
        have hs1 : ¬ size = 0 := fun e => hs (.inl e)
        refine does_pure hok hv (a := .agg ((azz.drop off).take size).toArray) ?_ ⟨_, rfl, (h2.drop off).take size⟩
        simp only [prim, ha, fieldA, hty, hf, if_neg hs1, partA, Option.map_some]
        congr 4
        rw [List.extract_toArray, List.extract_eq_take_drop]
        congr 2
        omega
    · rename_i off size hf
      split at hv
      · exact hv.elim
      · rename_i hs
        split at hv
        · rename_i v hc
          obtain ⟨a, k1, k2⟩ := h2.get hc
          refine does_pure hok hv (a := a) ?_ (leaf_R2 k2)
          simp only [prim, ha, fieldA, hty, hf, if_neg hs, partA, List.getElem?_toArray, k1, Option.map_some]
        · exact hv.elim
    · exact hv.elim
  · exact hv.elim

theorem op_extract {x : Operand} {i : Nat} (hok : Ok F0 H0 c H) (ht : Tok c t ta) (hx : operandOk n x = true) (hv : vprim G (.extract x i) t c.h K) : Does G fl F0 H0 c H (.extract x i) ta K := by
  have hr := ev_rel ht hx
  simp only [vprim] at hv
  split at hv
  · rename_i l he
    rw [he] at hr
    obtain ⟨azz, ha, h2⟩ := R2_tup hr
    split at hv
    · rename_i v hc
      obtain ⟨a, k1, k2⟩ := h2.get hc
      refine does_pure hok hv (a := a) ?_ (R1_R2 k2)
      simp only [prim, ha, List.getElem?_toArray, k1, Option.map_some]
    · exact hv.elim
  · exact hv.elim

theorem prim_ia {ty e es eb : TypeId} {x ix : Operand} {b o m cp : Nat} {k : IntKind} {i : Int} (hty : aTy G.P ty = .slice e es eb) (hx : eval ta x = .slice (some ⟨b, o, none⟩) m cp) (hi : eval ta ix = .int k i) (h0 : 0 ≤ i) (h1 : i < m) :
    prim G.P fl (.indexAddr ty x ix) (eval ta) H = some (.value (.pointer (some ⟨b, o + i.toNat * es, none⟩)), H) := prim_index hty hx hi h0 h1

theorem op_indexAddr {ty : TypeId} {x ix : Operand} (hok : Ok F0 H0 c H) (ht : Tok c t ta) (hx : operandOk n x = true) (hi : operandOk n ix = true) (hv : vprim G (.indexAddr ty x ix) t c.h K) : Does G fl F0 H0 c H (.indexAddr ty x ix) ta K := by
  have hr := ev_rel ht hx
  have hs := ev_rel ht hi
  simp only [vprim] at hv
  split at hv
  · rename_i e es eb o T l k i hty he1 he2
    rw [he1] at hr
    rw [he2] at hs
    obtain ⟨ei, _⟩ := R2_pl hs
    split at hv
    · rename_i hes
      obtain ⟨⟨h0, h1⟩, hv⟩ := hv
      obtain ⟨ad, cap, ha, h2⟩ := R2_fz hr
      have hlt : i.toNat < l.length := by omega
      rcases h2.at_ with e0 | ⟨b, q, B, e1, e2, e3, e4⟩
      · subst e0; simp at hlt
      · subst e1
        obtain ⟨cs, p1, p2⟩ := e4 i.toNat _ (List.getElem?_eq_getElem hlt)
        subst hes
        exact does_pure hok hv (prim_ia hty ha ei h0 h1) ⟨b, _, B, _, cs, by rw [Nat.add_zero], e2, List.getElem?_eq_getElem hlt, p1, p2⟩
    · exact hv.elim
  · rename_i e es eb j k i hty he1 he2
    rw [he1] at hr
    rw [he2] at hs
    obtain ⟨ei, _⟩ := R2_pl hs
    split at hv
    · rename_i q T l fr hg
      have hj := getO_get hg (by intro e; cases e)
      split at hv
      · rename_i hes
        obtain ⟨⟨h0, h1⟩, hv⟩ := hv
        have ha := R2_own hr hj
        have hlt : i.toNat < l.length := by omega
        have : ∃ b, c.ρ j = some b := by
          cases e : c.ρ j with
          | none =>
            have := ((hok.obj j _ hj).lst _ _ _ _ rfl).1 e
            subst this; simp at hlt
          | some b => exact ⟨b, rfl⟩
        obtain ⟨b, hb⟩ := this
        rw [hb] at ha
        subst hes
        refine does_pure hok hv (prim_ia hty ha ei h0 h1) ⟨b, hb, ?_⟩
        rw [hj]
        exact ⟨hlt, by simp⟩
      · exact hv.elim
    · exact hv.elim
  · rename_i m e es sz j o k i hty he1 he2
    rw [he1] at hr
    rw [he2] at hs
    obtain ⟨ei, _⟩ := R2_pl hs
    split at hv
    · rename_i hc
      obtain ⟨b, cs, fr, h1, h2, h3⟩ := R2_ptr hr
      refine does_pure hok hv (a := .pointer (some ⟨b, o + i.toNat * es, none⟩)) ?_ ⟨b, cs, fr, h1, h2, rfl⟩
      simp only [prim, h3, ei, indexAddrA, hty]
      rw [if_pos hc, addr_add]; rfl
    · exact hv.elim
  · exact hv.elim

end
end Go.Mach
