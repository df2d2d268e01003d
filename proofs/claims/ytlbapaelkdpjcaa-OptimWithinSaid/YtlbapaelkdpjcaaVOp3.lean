/- What the value machine's operations do, the machine's do: the other operations. Laws; no condition. -/
import Derived.Test.YtlbapaelkdpjcaaVOp2
namespace Go.Mach
set_option linter.unusedVariables false
set_option linter.unusedSimpArgs false

section
variable {G : Cfg} {F0 : Fz} {H0 : AHeap} {c c' : Ctx} {H H' : AHeap} {t : List (Nat × VV)} {ta : Temps} {n fl : Nat} {K : VV → List VO → Prop}

theorem vbin_sound {op : BinOp} {a b : Value} {K : Value → Prop} (h : vbin op a b K) : ∃ v, K v ∧ aBin op a b = some v ∧ plainB v = true ∧ (isBool a = true → ∃ x, a = .bool x) := by
  have hb : isBool a = true → ∃ x, a = .bool x := by
    intro e; cases a <;> first | exact ⟨_, rfl⟩ | cases e
  unfold vbin at h
  split at h <;> try exact h.elim
  all_goals first
    | (obtain ⟨h1, h2⟩ := h; refine ⟨_, h2, ?_, rfl, hb⟩; simp only [aBin]; rw [if_neg (Int.not_lt.2 h1)])
    | (obtain ⟨h1, h2⟩ := h; refine ⟨_, h2, ?_, rfl, hb⟩; simp only [aBin]; rw [if_pos h1])
    | (split at h
       · rename_i e; subst e
         first
           | exact ⟨_, h, by simp [aBin], rfl, hb⟩
           | (obtain ⟨h1, h2⟩ := h; exact ⟨_, h2, by simp [aBin, h1], rfl, hb⟩)
       · exact h.elim)
    | exact ⟨_, h, by simp [aBin], rfl, hb⟩

theorem vun_sound {op : UnOp} {a : Value} {K : Value → Prop} (h : vun op a K) : ∃ v, K v ∧ aUn op a = some v ∧ plainB v = true := by
  unfold vun at h
  split at h
  · exact ⟨_, h, rfl, rfl⟩
  · exact ⟨_, h, rfl, rfl⟩
  · exact ⟨_, h, rfl, rfl⟩
  · exact h.elim

theorem aBin_nil {op : BinOp} {x y : Value} (hy : isNil (.pl y) = true) : aBin op x y = none := by
  unfold isNil at hy
  split at hy
  · rename_i e; cases e; unfold aBin; split <;> first | rfl | simp_all
  · rename_i e; cases e; unfold aBin; split <;> first | rfl | simp_all
  · rename_i e; cases e; unfold aBin; split <;> first | rfl | simp_all
  · cases hy

/-- The constant nil that stands on the right. -/
theorem isNil_pl {v : VV} (h : isNil v = true) : ∃ y, v = .pl y ∧ ((∃ a b, y = .slice none a b) ∨ y = .nilFunc ∨ y = .pointer none) := by
  unfold isNil at h
  split at h
  · exact ⟨_, rfl, .inl ⟨_, _, rfl⟩⟩
  · exact ⟨_, rfl, .inr (.inl rfl)⟩
  · exact ⟨_, rfl, .inr (.inr rfl)⟩
  · cases h

/-- A list that is there is not nil. -/
theorem RSl.some_ {α : Type} {F : Fz} {r : α → List Value → Prop} {w : Nat} {ad : Option Addr} {k : Nat} {l : List α} (h : RSl F r w ad k l) (hl : l ≠ []) : ∃ b o, ad = some ⟨b, o, none⟩ := by
  rcases h.at_ with e | ⟨b, o, B, e, _⟩
  · exact absurd e hl
  · exact ⟨b, o, e⟩

theorem vnil_nilEq {P : Program} {ty : TypeId} {q : Bool} {v w : VV} {a y : Value} {K : Bool → Prop} (hok : Ok F0 H0 c H) (hr : R2 c v a) (hy : R2 c w y) (h : vnil (P.underlying ty) c.h v w K) : ∃ b, K b ∧ nilEq P ty q a y = some b := by
  unfold vnil at h
  unfold nilEq
  split at h
  · rename_i hu; obtain ⟨rfl, _⟩ := R2_pl hy; obtain ⟨rfl, _⟩ := R2_pl hr; exact ⟨true, h, by simp [hu]⟩
  · rename_i hu; obtain ⟨rfl, _⟩ := R2_pl hy
    obtain ⟨ad, k, rfl, h2⟩ := R2_fz hr
    cases ad with
    | none =>
      rcases h2.at_ with e | ⟨b, o, B, e, _⟩
      · exact ⟨true, h.1 e, by simp [hu]⟩
      · cases e
    | some ad => exact ⟨false, h.2, by simp [hu]⟩
  · rename_i i hu
    obtain ⟨rfl, _⟩ := R2_pl hy
    split at h
    · rename_i hg
      have hi := getO_get hg (by intro e; cases e)
      have ha := R2_own hr hi
      subst ha
      cases e : c.ρ i with
      | none => exact ⟨true, h.1 (((hok.obj i _ hi).lst _ _ _ _ rfl).1 e), by simp [hu, sl, e]⟩
      | some b => exact ⟨false, h.2, by simp [hu, sl, e]⟩
    · exact h.elim
  · rename_i hu; obtain ⟨rfl, _⟩ := R2_pl hy; obtain ⟨rfl, _⟩ := R2_pl hr; exact ⟨true, h, by simp [hu]⟩
  · rename_i hu
    obtain ⟨rfl, _⟩ := R2_pl hy
    obtain ⟨azz, rfl, _⟩ := hr
    exact ⟨false, h, by simp [hu]⟩
  · rename_i hu; obtain ⟨rfl, _⟩ := R2_pl hy; obtain ⟨rfl, _⟩ := R2_pl hr; exact ⟨true, h, by simp [hu]⟩
  · rename_i hu; obtain ⟨rfl, _⟩ := R2_pl hy
    obtain ⟨b, _, _, _, _, rfl⟩ := R2_ptr hr
    exact ⟨false, h, by simp [hu]⟩
  · exact h.elim

theorem op_binOp {op : BinOp} {ty ty2 : TypeId} {x y : Operand} (hok : Ok F0 H0 c H) (ht : Tok c t ta) (hx : operandOk n x = true) (hy : operandOk n y = true) (hv : vprim G (.binOp op ty x y ty2) t c.h K) : Does G fl F0 H0 c H (.binOp op ty x y ty2) ta K := by
  have hr := ev_rel ht hx
  have hs := ev_rel ht hy
  simp only [vprim] at hv
  split at hv
  · rename_i hn
    obtain ⟨z, hz, hzz⟩ := isNil_pl hn
    have hz2 := hz ▸ hs
    obtain ⟨he, _⟩ := R2_pl hz2
    have hab : ∀ op, aBin op (eval ta x) (eval ta y) = none := fun op => by rw [he]; exact aBin_nil (by rw [← hz]; exact hn)
    split at hv
    · obtain ⟨b, h1, h2⟩ := vnil_nilEq (q := isConst x || isConst y) hok hr hs hv
      refine pure_pl hok h1 ?_ rfl
      simp only [prim, bin2A, hab, h2, Option.map_some]
    · obtain ⟨b, h1, h2⟩ := vnil_nilEq (q := isConst x || isConst y) hok hr hs hv
      refine pure_pl hok h1 ?_ rfl
      simp only [prim, bin2A, hab, h2, Option.map_some]
    · exact hv.elim
  · split at hv
    · rename_i a b he1 he2
      rw [he1] at hr
      rw [he2] at hs
      obtain ⟨e1, _⟩ := R2_pl hr
      obtain ⟨e2, _⟩ := R2_pl hs
      split at hv
      · rename_i hb hu
        obtain ⟨v, h1, h2, h3, h4⟩ := vbin_sound hv
        refine pure_pl hok h1 ?_ h3
        obtain ⟨x', rfl⟩ := h4 hb
        simp only [prim, bin2A, e1, e2, h2, boolTy, hu, if_true, Option.map_some]
      · rename_i hb
        obtain ⟨v, h1, h2, h3, h4⟩ := vbin_sound hv
        refine pure_pl hok h1 ?_ h3
        have hbt : boolTy G.P ty a = true := by
          unfold boolTy
          split
          · simp [isBool] at hb
          · rfl
        simp only [prim, bin2A, e1, e2, h2, hbt, if_true, Option.map_some]
      · exact hv.elim
    · exact hv.elim

theorem op_unOp {op : UnOp} {ty : TypeId} {x : Operand} (hok : Ok F0 H0 c H) (ht : Tok c t ta) (hx : operandOk n x = true) (hv : vprim G (.unOp op ty x) t c.h K) : Does G fl F0 H0 c H (.unOp op ty x) ta K := by
  have hr := ev_rel ht hx
  simp only [vprim] at hv
  split at hv
  · rename_i a he
    rw [he] at hr
    obtain ⟨e1, _⟩ := R2_pl hr
    obtain ⟨v, h1, h2, h3⟩ := vun_sound hv
    exact pure_pl hok h1 (by simp only [prim, e1, h2, Option.map_some]) h3
  · exact hv.elim

theorem op_convert {s d : TypeId} {x : Operand} (hok : Ok F0 H0 c H) (ht : Tok c t ta) (hx : operandOk n x = true) (hv : vprim G (.convert s d x) t c.h K) : Does G fl F0 H0 c H (.convert s d x) ta K := by
  have hr := ev_rel ht hx
  simp only [vprim] at hv
  split at hv
  · rename_i h1 h2 he
    rw [he] at hr
    obtain ⟨e1, _⟩ := R2_pl hr
    exact pure_pl hok hv (by simp only [prim, convA, e1, h1, h2, Option.map_some]) rfl
  · rename_i h1 h2 he
    rw [he] at hr
    obtain ⟨e1, _⟩ := R2_pl hr
    exact pure_pl hok hv (by simp only [prim, convA, e1, h1, h2, Option.map_some]) rfl
  · exact hv.elim

theorem R2_R1 {v : VV} {a : Value} (hc : okC v = true) (h : R2 c v a) : R1 c v a := by
  cases v <;> first | exact h | cases hc

theorem op_makeFunc {fn : Fn} {first caps : Array Operand} (hok : Ok F0 H0 c H) (ht : Tok c t ta) (hx : ∀ x ∈ caps.toList, operandOk n x = true) (hv : vprim G (.makeFunc fn first caps) t c.h K) : Does G fl F0 H0 c H (.makeFunc fn first caps) ta K := by
  simp only [vprim] at hv
  split at hv
  · rename_i f hf
    split at hv
    · rename_i hc
      have hfe : first = #[] := by
        apply Array.toList_inj.1; rw [hf]
      subst hfe
      have hrel : ∀ l : List Operand, (∀ x ∈ l, operandOk n x = true) → (l.map (evV t)).all okC = true → All2 (R1 c) (l.map (evV t)) (l.map (eval ta)) := by
        intro l
        induction l with
        | nil => intro _ _; exact .nil
        | cons o l ih =>
          intro h1 h2
          simp only [List.map_cons, List.all_cons, Bool.and_eq_true] at h2
          exact .cons (R2_R1 h2.1 (ev_rel ht (h1 o List.mem_cons_self))) (ih (fun x hx => h1 x (List.mem_cons_of_mem _ hx)) h2.2)
      refine does_pure hok hv (a := .func (.func f) #[] (caps.toList.map (eval ta)).toArray) ?_ ⟨_, rfl, hrel _ hx hc⟩
      have e1 : caps.map (eval ta) = (caps.toList.map (eval ta)).toArray := by apply Array.toList_inj.1; simp
      simp only [prim, e1, List.map_toArray, List.map_nil]
    · exact hv.elim
  · exact hv.elim

theorem rowOf_at {z : List Value} {w n i : Nat} (hz : z.length = w) (hi : i < n) : InB (rowOf z (n * w)) (i * w) w z := by
  have hb : i * w + w ≤ n * w := by
    have := Nat.mul_le_mul_right w (show i + 1 ≤ n from hi)
    rw [Nat.add_mul, Nat.one_mul] at this; exact this
  refine ⟨by unfold rowOf; simp; exact hb, ?_⟩
  apply List.ext_getElem
  · unfold rowOf; simp; omega
  · intro j h1 h2
    rw [List.getElem_take, List.getElem_drop]
    unfold rowOf
    simp only [List.getElem_map, List.getElem_range]
    have : (i * w + j) % z.length = j := by
      rw [hz, Nat.mul_comm, Nat.mul_add_mod, Nat.mod_eq_of_lt (by omega)]
    rw [this, getElem!_pos z j h2]

theorem sameTmp_eq {a b : Operand} (h : sameTmp a b = true) {k : IntKind} {m : Int} (ha : eval ta a = .int k m) : ∃ k', eval ta b = .int k' m := by
  unfold sameTmp at h
  split at h
  · rw [beq_iff_eq] at h; subst h; exact ⟨k, ha⟩
  · rw [beq_iff_eq] at h; subst h; cases ha; exact ⟨_, rfl⟩
  · cases h

theorem op_makeSlice {ty : TypeId} {x y : Operand} (hok : Ok F0 H0 c H) (ht : Tok c t ta) (hx : operandOk n x = true) (hv : vprim G (.makeSlice ty x y) t c.h K) : Does G fl F0 H0 c H (.makeSlice ty x y) ta K := by
  have hr := ev_rel ht hx
  simp only [vprim] at hv
  split at hv
  · rename_i e es eb k m hty he
    rw [he] at hr
    obtain ⟨e1, _⟩ := R2_pl hr
    split at hv
    · rename_i z T hz hT
      split at hv
      · rename_i hc
        obtain ⟨hc1, hc2, hc3, hc4⟩ := hc
        obtain ⟨⟨hm0, hm1⟩, hv⟩ := hv
        obtain ⟨k', e2⟩ := sameTmp_eq hc1 e1
        obtain ⟨l, o, g1, g2, g3⟩ := decN_sound T 1 (plain_rel (c := c) (azero_plain hz)) hv
        match l, g2 with
        | [d], _ =>
          obtain ⟨cs, ⟨p1, p2⟩, p3⟩ := g3.2 0 d (by simp)
          have hzc : z = cs := by
            rw [← p2, Nat.zero_mul, List.drop_zero, List.take_of_length_le]
            rw [hc3, hc2]; exact Nat.le_refl _
          subst hzc
          subst hc2
          have e46 : ((2 : Int) ^ 46) = 70368744177664 := by decide
          have hmb : m ≤ 70368744177664 := by
            have : m ≤ (eb : Int) * m := by
              have := Int.mul_le_mul_of_nonneg_right (show (1 : Int) ≤ (eb : Int) by omega) hm0
              omega
            omega
          refine ⟨_, _, .slice (some ⟨H.length, 0, none⟩) m.toNat m.toNat, H ++ [⟨rowOf z (m.toNat * T.w), T.w, true, true⟩], g1, .inl ?_, addC c (some H.length) (.lst o T (List.replicate m.toNat d) false), addC_le _ _, rfl, ?_, ?_⟩
          · simp only [prim, hty, e1, e2]
            rw [if_pos ⟨hm0, Int.le_refl _, by rw [e46]; exact hmb, by rw [e46]; exact hm1⟩]
            simp only [hz]
          · refine hok.addLst (ex := true) (Pre.push _ _) (Nat.le_refl _) (new_get H _ rfl) ⟨by unfold rowOf; simp, fun i x hxx => ?_⟩
            have hi : i < m.toNat := by have := ltl_of_get hxx; rw [List.length_replicate] at this; exact this
            rw [List.getElem?_replicate, if_pos hi] at hxx
            cases hxx
            exact ⟨z, rowOf_at hc3 hi, p3⟩
          · exact R2_topl (by simp)
      · exact hv.elim
    · exact hv.elim
  · exact hv.elim

end
end Go.Mach
