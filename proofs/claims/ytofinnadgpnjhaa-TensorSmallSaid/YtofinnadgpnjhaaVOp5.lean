/- What the value machine's operations do, the machine's do: indexes of values, built-in functions, all together. Laws; no condition. -/
import Derived.Test.YtofinnadgpnjhaaVOp4
namespace Go.Mach
set_option linter.unusedVariables false
set_option linter.unusedSimpArgs false

section
variable {G : Cfg} {F0 : Fz} {H0 : AHeap} {c c' : Ctx} {H H' : AHeap} {t : List (Nat × VV)} {ta : Temps} {n fl : Nat} {K : VV → List VO → Prop}

theorem op_index {ty : TypeId} {x ix : Operand} (hok : Ok F0 H0 c H) (ht : Tok c t ta) (hx : operandOk n x = true) (hi : operandOk n ix = true) (hv : vprim G (.index ty x ix) t c.h K) : Does G fl F0 H0 c H (.index ty x ix) ta K := by
  have hr := ev_rel ht hx
  have hs := ev_rel ht hi
  simp only [vprim] at hv
  split at hv
  · rename_i m e es sz cs k i hty he1 he2
    rw [he1] at hr
    rw [he2] at hs
    obtain ⟨ei, _⟩ := R2_pl hs
    obtain ⟨azz, ha, h2⟩ := R2_agg hr
    split at hv
    · rename_i hc
      split at hv
      · rename_i hag
        split at hv
        · rename_i hb
          refine does_pure hok hv (a := .agg ((azz.drop (i.toNat * es)).take es).toArray) ?_ ⟨_, rfl, (h2.drop _).take _⟩
          simp only [prim, ha, ei, indexA, hty, if_pos hc, hag, partA, Option.map_some]
          congr 4
          rw [List.extract_toArray, List.extract_eq_take_drop]
          congr 2
          omega
        · exact hv.elim
      · rename_i hag
        split at hv
        · rename_i v hcs
          obtain ⟨a, k1, k2⟩ := h2.get hcs
          refine does_pure hok hv (a := a) ?_ (leaf_R2 k2)
          simp only [prim, ha, ei, indexA, hty, if_pos hc, hag, partA, List.getElem?_toArray, k1, Option.map_some]
        · exact hv.elim
      · exact hv.elim
    · exact hv.elim
  · rename_i s k i hty he1 he2
    rw [he1] at hr
    rw [he2] at hs
    obtain ⟨ei, _⟩ := R2_pl hs
    obtain ⟨es, _⟩ := R2_pl hr
    obtain ⟨⟨h0, h1⟩, hv⟩ := hv
    have hlt : i.toNat < s.size := by omega
    refine pure_pl hok hv ?_ rfl
    have e1 : s[i.toNat]? = some (s.data.toList.getD i.toNat 0) := by
      rw [getElem?_pos s _ hlt]
      congr 1
      rw [List.getD_eq_getElem?_getD, List.getElem?_eq_getElem (by simpa using hlt)]
      rfl
    simp only [prim, es, ei, indexA, hty, if_pos h0, e1, Option.map_some]
  · exact hv.elim

theorem vlen_sound {v : VV} {a : Value} {K : Nat → Prop} (hok : Ok F0 H0 c H) (hr : R2 c v a) (h : vlen c.h v K) : ∃ m, K m ∧ ∃ ad cap, a = .slice ad m cap := by
  unfold vlen at h
  split at h
  · obtain ⟨ad, k, rfl, _⟩ := R2_fz hr; exact ⟨_, h, _, _, rfl⟩
  · split at h
    · rename_i hg
      have := R2_own hr (getO_get hg (by intro e; cases e))
      subst this
      exact ⟨_, h, _, _, rfl⟩
    · exact h.elim
  · obtain ⟨rfl, _⟩ := R2_pl hr; exact ⟨_, h, _, _, rfl⟩
  · exact h.elim

theorem vfold_sound {f : Int → Int → Int} {g : Value → Value → Option Value} {k : IntKind} (hg : ∀ x y, g (.int k x) (.int k y) = some (.int k (f x y))) {K : Int → Prop} : ∀ {l : List VV} {azz : List Value} {x : Int}, All2 (R2 c) l azz → vfold f k x l K → ∃ m, K m ∧ foldA g (.int k x) azz = some (.int k m)
  | [], _, x, .nil, h => ⟨x, h, rfl⟩
  | v :: l, _, x, .cons (b := b) hr t, h => by
    unfold vfold at h
    split at h
    · rename_i e; cases e
    · rename_i k' y l' e
      cases e
      split at h
      · rename_i e; subst e
        obtain ⟨rfl, _⟩ := R2_pl hr
        obtain ⟨m, h1, h2⟩ := vfold_sound hg t h
        exact ⟨m, h1, by simp only [foldA, hg, h2]⟩
      · exact h.elim
    · exact h.elim

theorem args_rel (ht : Tok c t ta) : ∀ {l : List Operand}, (∀ x ∈ l, operandOk n x = true) → All2 (R2 c) (l.map (evV t)) (l.map (eval ta))
  | [], _ => .nil
  | x :: l, h => .cons (ev_rel ht (h x List.mem_cons_self)) (args_rel ht fun y hy => h y (List.mem_cons_of_mem _ hy))

theorem vfrom_sound {v : VV} {a : Value} {K : (T : Ty) → List T.den → Bool → Prop} (hok : Ok F0 H0 c H) (hr : R2 c v a) (h : vfrom c.h v K) :
    ∃ T l o new, K T l o ∧ lenA a = some l.length ∧ firstA H T.w l.length a = some new ∧ RC (cutF o c.n0 c.F) T l new := by
  unfold vfrom at h
  split at h
  · rename_i o T l
    obtain ⟨ad, k, rfl, h2⟩ := R2_fz hr
    obtain ⟨new, k1, k2⟩ := first_of (H := H) (fun b B e => hok.fz b B (cutF_le _ _ e)) h2 rfl
    exact ⟨T, l, _, new, h, rfl, k1, k2.flat⟩
  · rename_i i
    split at h
    · rename_i o T l fr hg
      have hi := getO_get hg (by intro e; cases e)
      have := R2_own hr hi
      subst this
      obtain ⟨k1, k2⟩ := (hok.obj _ _ hi).lst _ _ _ _ rfl
      obtain ⟨new, g1, g2⟩ := first_own (H := H) (F := cutF o c.n0 c.F) (k := l.length) (n := l.length) k1 (fun b e => by obtain ⟨azz, ex, m1, m2, _⟩ := k2 b e; exact ⟨azz, ex, m1, m2⟩) rfl
      exact ⟨T, l, _, new, h, rfl, g1, g2.flat⟩
    · exact h.elim
  · exact h.elim

theorem op_builtin {cl : Call} (hfl : fl ≤ H0.length) (hok : Ok F0 H0 c H) (ht : Tok c t ta) (hx : ∀ x ∈ cl.args.toList, operandOk n x = true) (hv : vprim G (.call cl) t c.h K) : Does G fl F0 H0 c H (.call cl) ta K := by
  simp only [vprim] at hv
  have hargs : cl.args.map (eval ta) = (cl.args.toList.map (eval ta)).toArray := by apply Array.toList_inj.1; simp
  split at hv
  · -- len
    rename_i hc
    split at hv
    · rename_i ty x hty hxa
      have hr := ev_rel ht (hx x (by rw [hxa]; exact List.mem_cons_self))
      have ha0 : (cl.args.map (eval ta))[0]? = some (eval ta x) := by rw [hargs, hxa]; rfl
      split at hv
      · rename_i m e es sz hta
        refine pure_pl hok hv ?_ rfl
        simp only [prim, callA, hc, lenOfA, hty, ha0, hta, Option.map_some]
      · rename_i hta
        split at hv
        · rename_i s he
          rw [he] at hr
          obtain ⟨e, _⟩ := R2_pl hr
          refine pure_pl hok hv ?_ rfl
          simp only [prim, callA, hc, lenOfA, hty, ha0, hta, e, Option.map_some]
        · exact hv.elim
      · rename_i e es eb hta
        obtain ⟨m, h1, ad, cap, e⟩ := vlen_sound hok hr hv
        refine pure_pl hok h1 ?_ rfl
        simp only [prim, callA, hc, lenOfA, hty, ha0, hta, e, Option.map_some]
      · exact hv.elim
    · exact hv.elim
  · -- min
    rename_i hc
    split at hv
    · rename_i k x l he
      have hrel := args_rel ht hx
      rw [he] at hrel
      cases e : cl.args.toList.map (eval ta) with
      | nil => rw [e] at hrel; cases hrel
      | cons a azz =>
        rw [e] at hrel
        cases hrel with
        | cons hr tr =>
          obtain ⟨rfl, _⟩ := R2_pl hr
          obtain ⟨m, h1, h2⟩ := vfold_sound (g := min2A) (f := smaller) (fun x y => rfl) tr hv
          refine pure_pl hok h1 ?_ rfl
          simp only [prim, callA, hc, hargs, e, h2, Option.map_some]
    · exact hv.elim
  · -- max
    rename_i hc
    split at hv
    · rename_i k x l he
      have hrel := args_rel ht hx
      rw [he] at hrel
      cases e : cl.args.toList.map (eval ta) with
      | nil => rw [e] at hrel; cases hrel
      | cons a azz =>
        rw [e] at hrel
        cases hrel with
        | cons hr tr =>
          obtain ⟨rfl, _⟩ := R2_pl hr
          obtain ⟨m, h1, h2⟩ := vfold_sound (g := max2A) (f := greater) (fun x y => rfl) tr hv
          refine pure_pl hok h1 ?_ rfl
          simp only [prim, callA, hc, hargs, e, h2, Option.map_some]
    · exact hv.elim
  · -- append
    rename_i hc
    split at hv
    · rename_i st xt x y hst hxt hxa
      have hr := ev_rel ht (hx x (by rw [hxa]; exact List.mem_cons_self))
      have hs := ev_rel ht (hx y (by rw [hxa]; exact List.mem_cons_of_mem _ List.mem_cons_self))
      have ha0 : (cl.args.map (eval ta))[0]? = some (eval ta x) := by rw [hargs, hxa]; rfl
      have ha1 : (cl.args.map (eval ta))[1]? = some (eval ta y) := by rw [hargs, hxa]; rfl
      split at hv
      · rename_i e es eb e2 es2 eb2 hta htb
        obtain ⟨T, l2, o2, new, h1, h2, h3, h4⟩ := vfrom_sound hok hs hv
        split at h1
        · rename_i hcc
          obtain ⟨hes, heb, hz⟩ := hcc
          subst hes
          split at h1
          · rename_i i he
            rw [he] at hr
            split at h1
            · rename_i q T' l hg
              have hi := getO_get hg (by intro e; cases e)
              obtain ⟨eT, h1⟩ := Ty.at_inv h1
              subst eT
              obtain ⟨hb, h1⟩ := h1
              have ha := R2_own hr hi
              obtain ⟨a', H', k1, k2⟩ := hok.append (P := G.P) hfl hi h3 h4 hz hb heb
              have hle : Le c (addC (setC c i (.dead (someOf l2))) a' (.lst (q && o2) T' (l ++ l2) false)) := (setC_le (o' := .dead (someOf l2)) hi trivial).trans (addC_le _ _)
              have hlen : (setC c i (.dead (someOf l2))).h.length = c.h.length := by simp [setC]
              refine ⟨_, _, sl a' (l.length + l2.length), H', h1, .inl ?_, _, hle, rfl, k2, ?_⟩
              · simp only [prim, callA, hc, appendA, hst, hxt, ha0, ha1, ha, sl, hta, htb, h2]
                rw [show (Option.map (fun b => (⟨b, 0, none⟩ : Addr)) (c.ρ i)) = (c.ρ i).map fun b => ⟨b, 0, none⟩ from rfl, k1]
                rfl
              · rw [← hlen]
                exact R2_topl (by simp)
            · exact h1.elim
          · rename_i he
            rw [he] at hr
            obtain ⟨ha, _⟩ := R2_pl hr
            obtain ⟨hb, h1⟩ := h1
            obtain ⟨a', H', k1, k2⟩ := hok.append0 (P := G.P) (fl := fl) h3 h4 hz hb heb
            refine ⟨_, _, sl a' l2.length, H', h1, .inl ?_, _, addC_le _ _, rfl, k2, R2_topl rfl⟩
            simp only [prim, callA, hc, appendA, hst, hxt, ha0, ha1, ha, hta, htb, h2]
            rw [k1]
            rfl
          · exact h1.elim
        · exact h1.elim
      · exact hv.elim
    · exact hv.elim
  · exact hv.elim

/-- What opOk tells of an operation's operands. -/
theorem operands_ok {ops : Array Oper} {o : Oper} (h : opOk n ops o = true) : ∀ x ∈ o.op.operands.toList, operandOk n x = true := by
  unfold opOk at h
  simp only [Bool.and_eq_true] at h
  exact fun x hx => List.all_eq_true.1 h.1.1 x hx

theorem vprim_does {op : Op} (hfl : fl ≤ H0.length) (hok : Ok F0 H0 c H) (ht : Tok c t ta) (hx : ∀ x ∈ op.operands.toList, operandOk n x = true) (hv : vprim G op t c.h K) : Does G fl F0 H0 c H op ta K := by
  cases op <;> try (simp only [vprim] at hv; done)
  case move x => exact op_move hok ht (hx x (by simp [Op.operands])) hv
  case assign x => exact op_assign hok ht (hx x (by simp [Op.operands])) hv
  case alloc ty => exact op_alloc hok hv
  case box ty x => exact op_box hok ht (hx x (by simp [Op.operands])) hv
  case build ty ps => exact op_build hok ht (fun p hp => hx p.2 (by simp only [Op.operands]; exact List.mem_map.2 ⟨p, hp, rfl⟩)) hv
  case buildSlice ty len ps => exact op_buildSlice hok ht (fun p hp => hx p.2 (by simp only [Op.operands]; exact List.mem_map.2 ⟨p, hp, rfl⟩)) hv
  case load ty x => exact op_load hok ht (hx x (by simp [Op.operands])) hv
  case store ty x y => exact op_store hfl hok ht (hx x (by simp [Op.operands])) (hx y (by simp [Op.operands])) hv
  case nilCheck x => exact op_nilCheck hok ht (hx x (by simp [Op.operands])) hv
  case binOp op ty x y ty2 => exact op_binOp hok ht (hx x (by simp [Op.operands])) (hx y (by simp [Op.operands])) hv
  case unOp op ty x => exact op_unOp hok ht (hx x (by simp [Op.operands])) hv
  case convert s d x => exact op_convert hok ht (hx x (by simp [Op.operands])) hv
  case makeFunc fn first caps => exact op_makeFunc hok ht (fun x h => hx x (by simp only [Op.operands, Array.toList_append]; exact List.mem_append_right _ h)) hv
  case makeSlice ty x y => exact op_makeSlice hok ht (hx x (by simp [Op.operands])) hv
  case slice ty x lo hi mx => exact op_slice hok ht (hx x (by simp [Op.operands])) (fun y hy => hx y (by
    simp only [Op.operands, Array.toList_append, List.mem_append]
    simp only [List.mem_append] at hy
    rcases hy with (hy | hy) | hy
    · left; left; right; cases lo <;> simp_all
    · left; right; cases hi <;> simp_all
    · right; cases mx <;> simp_all)) hv
  case fieldAddr s x f => exact op_fieldAddr hok ht (hx x (by simp [Op.operands])) hv
  case field s x f => exact op_field hok ht (hx x (by simp [Op.operands])) hv
  case indexAddr ty x ix => exact op_indexAddr hok ht (hx x (by simp [Op.operands])) (hx ix (by simp [Op.operands])) hv
  case index ty x ix => exact op_index hok ht (hx x (by simp [Op.operands])) (hx ix (by simp [Op.operands])) hv
  case extract x i => exact op_extract hok ht (hx x (by simp [Op.operands])) hv
  case call cl => exact op_builtin hfl hok ht (fun x h => hx x (by simp only [Op.operands, Call.operands, Array.toList_append]; exact List.mem_append_right _ h)) hv

end
end Go.Mach
