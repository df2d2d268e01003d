/- Regions: what the value machine tells of one, the machine does. Laws; no condition. -/
/- Regions: what the value machine tells of one, the machine does. Laws; no condition. -/
import Derived.Test.YtajjfflbcpkokaaGreatVCall
namespace Go.Mach
set_option linter.unusedVariables false
set_option linter.unusedSimpArgs false

/-! ### What quiet operations leave, and that total ones come through -/

def dsts : List Oper → List Nat
  | [] => []
  | o :: l => match o.dst with
    | some d => d :: dsts l
    | none => dsts l

/-- Objects of mine: those that were there are as they were; slots: only these have turned. -/
def QExt (ds : List Nat) (s s' : VS) : Prop := (∃ x, s'.h = s.h ++ x) ∧ ∀ d, d ∉ ds → lookV s'.t d = lookV s.t d

theorem QExt.refl (ds : List Nat) (s : VS) : QExt ds s s := ⟨⟨[], by simp⟩, fun _ _ => rfl⟩
theorem QExt.trans {ds es fs : List Nat} {a b c : VS} (h : QExt ds a b) (k : QExt es b c) (h1 : ∀ d ∈ ds, d ∈ fs) (h2 : ∀ d ∈ es, d ∈ fs) : QExt fs a c := by
  obtain ⟨⟨x, e⟩, h3⟩ := h
  obtain ⟨⟨y, e'⟩, k3⟩ := k
  exact ⟨⟨x ++ y, by rw [e', e, List.append_assoc]⟩, fun d hd => (k3 d (fun hm => hd (h2 d hm))).trans (h3 d (fun hm => hd (h1 d hm)))⟩

theorem set_look {s : VS} {h : List VO} {o : Option Nat} {v : VV} {d : Nat} (hd : o ≠ some d) : lookV (VS.set ⟨s.t, h⟩ o v).t d = lookV s.t d := by
  cases o with
  | none => rfl
  | some x =>
    show (if x = d then v else lookV s.t d) = _
    rw [if_neg (fun e => hd (by rw [e]))]

theorem set_h {s : VS} {h : List VO} {o : Option Nat} {v : VV} : (VS.set ⟨s.t, h⟩ o v).h = h := by cases o <;> rfl

theorem importL_ext : ∀ (cs : List VV) (h : List VO), ∃ x, (importL cs h).2 = h ++ x
  | [], h => ⟨[], by simp [importL]⟩
  | v :: r, h => by
    have key : ∃ x, (importL r h).2 = h ++ x := importL_ext r h
    cases v with
    | nw t l =>
      obtain ⟨x, e⟩ := importL_ext r (h ++ [.lst true t l false])
      exact ⟨.lst true t l false :: x, by simp only [importL]; rw [e, List.append_assoc]; rfl⟩
    | _ => exact key
theorem importS_ext : ∀ (cs : List (Bool × List VV)) (h : List VO), ∃ x, (importS cs h).2 = h ++ x
  | [], h => ⟨[], by simp [importS]⟩
  | (g, cs) :: r, h => by
    obtain ⟨x, e⟩ := importL_ext cs h
    obtain ⟨y, e'⟩ := importS_ext r (importL cs h).2
    refine ⟨x ++ y, ?_⟩
    simp only [importS]
    rw [e', e, List.append_assoc]

theorem vbin_and {op : BinOp} {a b : Value} {K : Value → Prop} (h : vbin op a b K) : ∃ v, K v := let ⟨v, h, _⟩ := vbin_sound h; ⟨v, h⟩

section
variable {G : Cfg}

theorem vload_ex {at_ : ATy} {cs : List VV} {off : Nat} {K : VV → Prop} (h : vload at_ cs off K) : ∃ v, K v := by
  unfold vload at h
  split at h
  · split at h
    · exact ⟨_, h⟩
    · exact h.elim
  · split at h
    · exact ⟨_, h⟩
    · exact h.elim
  · exact h.elim
  · split at h
    · split at h
      · exact ⟨_, h⟩
      · exact h.elim
    · exact h.elim

theorem vbin_map {op : BinOp} {a b : Value} {K K' : Value → Prop} (hp : ∀ v, K v → K' v) (h : vbin op a b K) : vbin op a b K' := by
  unfold vbin at h ⊢
  split at h <;> first
    | exact h.elim
    | exact hp _ h
    | exact ⟨h.1, hp _ h.2⟩
    | (split at h
       · rename_i e
         rw [if_pos e]
         first | exact hp _ h | exact ⟨h.1, hp _ h.2⟩
       · exact h.elim)

theorem got_map {α : Type} {o : Option α} {K K' : α → Prop} (hp : ∀ v, K v → K' v) (h : got o K) : got o K' := let ⟨r, h1, h2⟩ := h; ⟨r, h1, hp r h2⟩
theorem vfl_map {op : BinOp} {a b : Value} {K K' : Value → Prop} (hp : ∀ v, K v → K' v) (h : vfl op a b K) : vfl op a b K' := by
  unfold vfl at h ⊢
  split at h <;> first
    | exact h.elim
    | exact got_map (fun _ => hp _) h
    | (split at h
       · rename_i e
         rw [if_pos e]
         first | exact got_map (fun _ => hp _) h | exact hp _ h
       · exact h.elim)

theorem vnil_ex {u : Option TypeDesc} {q : Bool} {h : List VO} {v w : VV} {K : Bool → Prop} (k : vnil u q h v w K) : ∃ b, K b := by
  unfold vnil at k
  split at k <;> first
    | exact k.elim
    | exact ⟨_, k⟩
    | exact ⟨_, k.2⟩
    | (split at k
       · exact ⟨_, k.2⟩
       · exact k.elim)
    | (split at k
       · exact ⟨_, k⟩
       · exact k.elim)
theorem vlen_map {h : List VO} {v : VV} {K K' : Nat → Prop} (hp : ∀ b, K b → K' b) (k : vlen h v K) : vlen h v K' := by
  unfold vlen at k ⊢
  split at k <;> first
    | exact k.elim
    | exact hp _ k
    | (split at k
       · exact hp _ k
       · exact k.elim)
theorem vlen_ex {h : List VO} {v : VV} {K : Nat → Prop} (k : vlen h v K) : ∃ b, K b := by
  unfold vlen at k
  split at k <;> first
    | exact k.elim
    | exact ⟨_, k⟩
    | (split at k
       · exact ⟨_, k⟩
       · exact k.elim)
theorem vfold_map {f : Int → Int → Int} {k : IntKind} {K K' : Int → Prop} (hp : ∀ m, K m → K' m) : ∀ {l : List VV} {x : Int}, vfold f k x l K → vfold f k x l K'
  | [], x, h => hp _ h
  | v :: l, x, h => by
    cases v with
    | pl a =>
      cases a with
      | int k' y =>
        have h : (if k = k' then vfold f k (f x y) l K else False) := h
        show (if k = k' then vfold f k (f x y) l K' else False)
        by_cases hc : k = k'
        · rw [if_pos hc] at h ⊢; exact vfold_map hp h
        · rw [if_neg hc] at h; exact h.elim
      | _ => exact (show False from h).elim
    | _ => exact (show False from h).elim
theorem vfold_ex {f : Int → Int → Int} {k : IntKind} : ∀ {l : List VV} {x : Int} {K : Int → Prop}, vfold f k x l K → ∃ m, K m
  | [], x, K, h => ⟨_, h⟩
  | v :: l, x, K, h => by
    unfold vfold at h
    split at h <;> rename_i e <;> cases e
    · split at h
      · exact vfold_ex h
      · exact h.elim
    · exact h.elim


theorem vcellsEq_map {P : Program} : ∀ {l : List (TypeId × Nat)} {xs ys : List VV} {K K' : Bool → Prop}, (∀ b, K b → K' b) → vcellsEq P l xs ys K → vcellsEq P l xs ys K'
  | [], _, _, _, _, hp, h => hp _ h
  | (t, o) :: r, xs, ys, K, K', hp, h => by
    simp only [vcellsEq] at h ⊢
    split at h
    case h_2 => exact h.elim
    unfold vscal at h ⊢
    split at h
    · split at h
      · rename_i hk
        rw [if_pos hk]
        exact vcellsEq_map (fun _ => hp _) h
      · exact h.elim
    · exact vcellsEq_map (fun _ => hp _) h
    · exact h.elim
theorem vcellsEq_ex {P : Program} : ∀ {l : List (TypeId × Nat)} {xs ys : List VV} {K : Bool → Prop}, vcellsEq P l xs ys K → ∃ b, K b
  | [], _, _, _, h => ⟨_, h⟩
  | (t, o) :: r, xs, ys, K, h => by
    simp only [vcellsEq] at h
    split at h
    case h_2 => exact h.elim
    unfold vscal at h
    split at h
    · split at h
      · obtain ⟨b, h⟩ := vcellsEq_ex h; exact ⟨_, h⟩
      · exact h.elim
    · obtain ⟨b, h⟩ := vcellsEq_ex h; exact ⟨_, h⟩
    · exact h.elim
theorem vaggEq_map {P : Program} {op : BinOp} {t : TypeId} {xs ys : List VV} {K K' : VV → Prop} (hp : ∀ v, K v → K' v) (h : vaggEq P op t xs ys K) : vaggEq P op t xs ys K' := by
  unfold vaggEq at h ⊢
  split at h
  case h_2 => exact h.elim
  split at h
  · exact vcellsEq_map (fun _ => hp _) h
  · exact vcellsEq_map (fun _ => hp _) h
  · exact h.elim
theorem vaggEq_ex {P : Program} {op : BinOp} {t : TypeId} {xs ys : List VV} {K : VV → Prop} (h : vaggEq P op t xs ys K) : ∃ v, K v := by
  unfold vaggEq at h
  split at h
  case h_2 => exact h.elim
  split at h
  · obtain ⟨b, h⟩ := vcellsEq_ex h; exact ⟨_, h⟩
  · obtain ⟨b, h⟩ := vcellsEq_ex h; exact ⟨_, h⟩
  · exact h.elim

/-- A total operation comes through. -/
theorem vprim_total {op : Op} {t : List (Nat × VV)} {h : List VO} {K : VV → List VO → Prop} (hq : totalOp op = true) (hv : vprim G op t h K) : ∃ v h', K v h' := by
  cases op <;> try (cases hq; done)
  case move x => exact ⟨_, _, hv⟩
  case assign x => exact ⟨_, _, hv⟩
  case pick a b c => exact hv.elim
  case load ty x =>
    simp only [vprim] at hv
    split at hv
    · split at hv
      · obtain ⟨v, h⟩ := vload_ex hv; exact ⟨_, _, h⟩
      · exact hv.elim
    · split at hv
      · rcases velem_cases hv with hv | ⟨_, _, _, _, _, _, _, _, _, _, _, _, hv⟩
        · obtain ⟨v, h⟩ := vload_ex hv; exact ⟨_, _, h⟩
        · exact ⟨_, _, hv⟩
      · exact hv.elim
    · obtain ⟨v, h⟩ := vload_ex hv; exact ⟨_, _, h⟩
    · obtain ⟨v, h⟩ := vload_ex hv; exact ⟨_, _, h⟩
    · exact hv.elim
  case binOp op ty x y ty2 =>
    simp only [vprim] at hv
    split at hv
    · split at hv
      · obtain ⟨v, h⟩ := vnil_ex hv; exact ⟨_, _, h⟩
      · obtain ⟨v, h⟩ := vnil_ex hv; exact ⟨_, _, h⟩
      · exact hv.elim
    · split at hv
      · split at hv
        · obtain ⟨v, h⟩ := vbin_and hv; exact ⟨_, _, h⟩
        · split at hv
          · obtain ⟨v, h, _⟩ := vfl_sound hv; exact ⟨_, _, h⟩
          · obtain ⟨v, h⟩ := vbin_and hv; exact ⟨_, _, h⟩
        · exact hv.elim
      · obtain ⟨v, h⟩ := vaggEq_ex hv; exact ⟨_, _, h⟩
      · exact hv.elim
  case unOp op ty x =>
    simp only [vprim] at hv
    split at hv
    · obtain ⟨v, h, _⟩ := vun_sound hv; exact ⟨_, _, h⟩
    · exact hv.elim
  case convert s d x =>
    simp only [vprim] at hv
    split at hv
    · exact ⟨_, _, hv⟩
    · exact ⟨_, _, hv⟩
    · exact ⟨_, _, hv⟩
    · obtain ⟨m, _, h⟩ := hv; exact ⟨_, _, h⟩
    · exact hv.elim
  case fieldAddr s x f =>
    simp only [vprim] at hv
    split at hv
    · split at hv
      · split at hv
        · exact hv.elim
        · split at hv <;> first | exact ⟨_, _, hv⟩ | exact hv.elim
      · exact hv.elim
    · exact hv.elim
  case field s x f =>
    simp only [vprim] at hv
    split at hv
    · split at hv
      · split at hv
        · exact hv.elim
        · exact ⟨_, _, hv⟩
      · split at hv
        · exact hv.elim
        · split at hv
          · exact ⟨_, _, hv⟩
          · exact hv.elim
      · exact hv.elim
    · exact hv.elim
  case extract x i =>
    simp only [vprim] at hv
    split at hv
    · split at hv
      · exact ⟨_, _, hv⟩
      · exact hv.elim
    · exact hv.elim
  case call c =>
    simp only [vprim] at hv
    split at hv
    · split at hv
      · split at hv
        · exact ⟨_, _, hv⟩
        · split at hv
          · exact ⟨_, _, hv⟩
          · exact hv.elim
        · obtain ⟨v, h⟩ := vlen_ex hv; exact ⟨_, _, h⟩
        · exact hv.elim
      · exact hv.elim
    · split at hv
      · obtain ⟨v, h⟩ := vfold_ex hv; exact ⟨_, _, h⟩
      · exact hv.elim
    · split at hv
      · obtain ⟨v, h⟩ := vfold_ex hv; exact ⟨_, _, h⟩
      · exact hv.elim
    · split at hv
      · split at hv
        · exact ⟨_, _, hv⟩
        · exact hv.elim
      · exact hv.elim
    · split at hv
      · exact ⟨_, _, hv⟩
      · exact hv.elim
    · split at hv
      · exact ⟨_, _, hv⟩
      · exact hv.elim
    · rename_i hc; simp [totalOp, hc] at hq
    · exact hv.elim

end
end Go.Mach

namespace Go.Mach
set_option linter.unusedVariables false
set_option linter.unusedSimpArgs false

theorem guardEq_eq {a b : Option (Nat × Bool)} (h : guardEq a b = true) : a = b := by
  unfold guardEq at h
  split at h
  · rfl
  · simp only [Bool.and_eq_true, beq_iff_eq] at h; rw [h.1, h.2]
  · cases h
theorem spanG_eq (g : Option (Nat × Bool)) : ∀ l, l = (spanG g l).1 ++ (spanG g l).2
  | [] => rfl
  | o :: l => by
    unfold spanG
    split
    · rfl
    · show o :: l = o :: ((spanG g l).1 ++ (spanG g l).2)
      rw [← spanG_eq g l]
theorem spanG_res (g : Option (Nat × Bool)) : ∀ {l a r b}, spanG g l = (a, r :: b) → guardEq r.guard g = true
  | [], a, r, b, h => by cases h
  | o :: l, a, r, b, h => by
    unfold spanG at h
    split at h
    · rename_i e; cases h; exact e
    · cases h' : spanG g l with
      | mk x y =>
        rw [h'] at h
        simp only at h
        cases y with
        | nil => cases h
        | cons z w => cases h; exact spanG_res g h'

theorem dsts_eq (o : Oper) (l : List Oper) : dsts (o :: l) = match o.dst with
    | some d => d :: dsts l
    | none => dsts l := rfl
theorem dsts_app : ∀ (a b : List Oper), dsts (a ++ b) = dsts a ++ dsts b
  | [], b => rfl
  | o :: a, b => by
    rw [List.cons_append, dsts_eq, dsts_eq o a, dsts_app a b]
    cases o.dst <;> rfl
theorem dsts_cons (o : Oper) (l : List Oper) : ∀ d, d ∈ dsts (o :: l) ↔ o.dst = some d ∨ d ∈ dsts l := by
  intro d
  rw [dsts_eq]
  cases h : o.dst with
  | none => simp
  | some x =>
    simp only [List.mem_cons, Option.some.injEq]
    constructor
    · rintro (h | h)
      · exact .inl h.symm
      · exact .inr h
    · rintro (h | h)
      · exact .inl h.symm
      · exact .inr h
theorem maybes_look (n : Nat) (t2 : List (Nat × VV)) : ∀ (l : List Oper) (t : List (Nat × VV)) (d : Nat), (d ∈ dsts l → lookV (maybes n l t2 t) d = maybeV n (lookV t2 d)) ∧ (d ∉ dsts l → lookV (maybes n l t2 t) d = lookV t d)
  | [], t, d => ⟨fun h => (by cases h), fun _ => rfl⟩
  | o :: l, t, d => by
    have ih := maybes_look n t2 l t d
    constructor
    · intro h
      unfold maybes
      cases e : o.dst with
      | none => exact ih.1 (by rcases (dsts_cons o l d).1 h with h | h; · rw [e] at h; cases h
                               · exact h)
      | some x =>
        show (if x = d then maybeV n (lookV t2 x) else lookV (maybes n l t2 t) d) = _
        split
        · rename_i hx; rw [hx]
        · rename_i hx
          exact ih.1 (by rcases (dsts_cons o l d).1 h with h | h
                         · rw [e] at h; exact absurd (Option.some.inj h) hx
                         · exact h)
    · intro h
      have h1 : d ∉ dsts l := fun hm => h ((dsts_cons o l d).2 (.inr hm))
      unfold maybes
      cases e : o.dst with
      | none => exact ih.2 h1
      | some x =>
        show (if x = d then maybeV n (lookV t2 x) else lookV (maybes n l t2 t) d) = _
        rw [if_neg (fun hx => h ((dsts_cons o l d).2 (.inl (by rw [e, hx]))))]
        exact ih.2 h1
theorem undefs_look : ∀ (l : List Oper) (t : List (Nat × VV)) (d : Nat), (d ∈ dsts l → lookV (undefs l t) d = .undef) ∧ (d ∉ dsts l → lookV (undefs l t) d = lookV t d)
  | [], t, d => ⟨fun h => (by cases h), fun _ => rfl⟩
  | o :: l, t, d => by
    have ih := undefs_look l t d
    constructor
    · intro h
      unfold undefs
      cases e : o.dst with
      | none => exact ih.1 (by rcases (dsts_cons o l d).1 h with h | h; · rw [e] at h; cases h
                               · exact h)
      | some x =>
        show (if x = d then VV.undef else lookV (undefs l t) d) = _
        split
        · rfl
        · rename_i hx
          exact ih.1 (by rcases (dsts_cons o l d).1 h with h | h
                         · rw [e] at h; exact absurd (Option.some.inj h) hx
                         · exact h)
    · intro h
      have h1 : d ∉ dsts l := fun hm => h ((dsts_cons o l d).2 (.inr hm))
      unfold undefs
      cases e : o.dst with
      | none => exact ih.2 h1
      | some x =>
        show (if x = d then VV.undef else lookV (undefs l t) d) = _
        rw [if_neg (fun hx => h ((dsts_cons o l d).2 (.inl (by rw [e, hx]))))]
        exact ih.2 h1

section
variable {G : Cfg}

/-- A total group comes through. -/
theorem vstep_total {o : Oper} {s : VS} {k : VS → Prop} (hq : totalOp o.op = true) (h : vstep G o s k) : ∃ s', k s' := by
  unfold vstep at h
  cases hop : o.op with
  | call c =>
    rw [hop] at hq h
    simp only at h
    cases hc : c.callee with
    | value f => simp [totalOp, hc] at hq
    | builtin b => rw [hc] at h; simp only at h; obtain ⟨_, _, h⟩ := vprim_total hq h; exact ⟨_, h⟩
    | invoke r m => simp [totalOp, hc] at hq
  | _ => rw [hop] at hq h; simp only at h; obtain ⟨_, _, h⟩ := vprim_total hq h; exact ⟨_, h⟩

theorem vops_total {ops : Array Oper} : ∀ (n : Nat) (g : Option (Nat × Bool)) (l : List Oper) (s : VS) (k : VS → Prop), (∀ o ∈ l, totalOp o.op = true) → vops G ops n g l s k → ∃ s', k s' := by
  intro n
  induction n with
  | zero => intro g l s k _ h; exact h.elim
  | succ n ih =>
    intro g l s k hq h
    cases l with
    | nil => exact ⟨s, h⟩
    | cons o rest =>
      unfold vops at h
      split at h
      · obtain ⟨s', h⟩ := vstep_total (hq o List.mem_cons_self) h
        exact ih g rest s' k (fun x hx => hq x (List.mem_cons_of_mem _ hx)) h
      · split at h
        · rename_i body res rest' j w hsp hg
          have hl : o :: rest = body ++ res :: rest' := by
            have := spanG_eq g (o :: rest)
            rw [hsp] at this; exact this
          split at h
          · split at h
            · split at h
              · obtain ⟨s2, h⟩ := ih _ body s _ (fun x hx => hq x (by rw [hl]; exact List.mem_append_left _ hx)) h
                unfold boolOf at h
                split at h
                · exact ih g rest' _ k (fun x hx => hq x (by rw [hl]; exact List.mem_append_right _ (List.mem_cons_of_mem _ hx))) h
                · exact h.elim
              · rename_i hall
                rw [List.all_eq_false] at hall
                obtain ⟨x, hx, hxt⟩ := hall
                exact absurd (hq x (by rw [hl]; exact List.mem_append_left _ hx)) hxt
            · exact h.elim
          · exact h.elim
        · exact h.elim

end
end Go.Mach
