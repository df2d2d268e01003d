/- Regions: what the value machine tells of one, the machine does. Laws; no condition. -/
import Derived.Test.YtlbapaelkdpjcaaVReg
namespace Go.Mach
set_option linter.unusedVariables false
set_option linter.unusedSimpArgs false

theorem guardEq_eq {a b : Option (Nat × Bool)} (h : guardEq a b = true) : a = b := by
  unfold guardEq at h
  split at h
  · rfl
  · simp only [Bool.and_eq_true, beq_iff_eq] at h; rw [h.1, h.2]
  · cases h
theorem spanG_eq (g : Option (Nat × Bool)) : ∀ l, l = (spanG g l).1 ++ (spanG g l).2
  | [] => rfl
  | o :: l => by
    unfold spanG
    split
    · rfl
    · show o :: l = o :: ((spanG g l).1 ++ (spanG g l).2)
      rw [← spanG_eq g l]
theorem spanG_res (g : Option (Nat × Bool)) : ∀ {l a r b}, spanG g l = (a, r :: b) → guardEq r.guard g = true
  | [], a, r, b, h => by cases h
  | o :: l, a, r, b, h => by
    unfold spanG at h
    split at h
    · rename_i e; cases h; exact e
    · cases h' : spanG g l with
      | mk x y =>
        rw [h'] at h
        simp only at h
        cases y with
        | nil => cases h
        | cons z w => cases h; exact spanG_res g h'

theorem dsts_eq (o : Oper) (l : List Oper) : dsts (o :: l) = match o.dst with
    | some d => d :: dsts l
    | none => dsts l := rfl
theorem dsts_app : ∀ (a b : List Oper), dsts (a ++ b) = dsts a ++ dsts b
  | [], b => rfl
  | o :: a, b => by
    rw [List.cons_append, dsts_eq, dsts_eq o a, dsts_app a b]
    cases o.dst <;> rfl
theorem dsts_cons (o : Oper) (l : List Oper) : ∀ d, d ∈ dsts (o :: l) ↔ o.dst = some d ∨ d ∈ dsts l := by
  intro d
  rw [dsts_eq]
  cases h : o.dst with
  | none => simp
  | some x =>
    simp only [List.mem_cons, Option.some.injEq]
    constructor
    · rintro (h | h)
      · exact .inl h.symm
      · exact .inr h
    · rintro (h | h)
      · exact .inl h.symm
      · exact .inr h
theorem undefs_look : ∀ (l : List Oper) (t : List (Nat × VV)) (d : Nat), (d ∈ dsts l → lookV (undefs l t) d = .undef) ∧ (d ∉ dsts l → lookV (undefs l t) d = lookV t d)
  | [], t, d => ⟨fun h => (by cases h), fun _ => rfl⟩
  | o :: l, t, d => by
    have ih := undefs_look l t d
    constructor
    · intro h
      unfold undefs
      cases e : o.dst with
      | none => exact ih.1 (by rcases (dsts_cons o l d).1 h with h | h; · rw [e] at h; cases h
                               · exact h)
      | some x =>
        show (if x = d then VV.undef else lookV (undefs l t) d) = _
        split
        · rfl
        · rename_i hx
          exact ih.1 (by rcases (dsts_cons o l d).1 h with h | h
                         · rw [e] at h; exact absurd (Option.some.inj h) hx
                         · exact h)
    · intro h
      have h1 : d ∉ dsts l := fun hm => h ((dsts_cons o l d).2 (.inr hm))
      unfold undefs
      cases e : o.dst with
      | none => exact ih.2 h1
      | some x =>
        show (if x = d then VV.undef else lookV (undefs l t) d) = _
        rw [if_neg (fun hx => h ((dsts_cons o l d).2 (.inl (by rw [e, hx]))))]
        exact ih.2 h1

section
variable {G : Cfg}

/-- A total group comes through. -/
theorem vstep_total {o : Oper} {s : VS} {k : VS → Prop} (hq : totalOp o.op = true) (h : vstep G o s k) : ∃ s', k s' := by
  unfold vstep at h
  cases hop : o.op with
  | call c =>
    rw [hop] at hq h
    simp only at h
    cases hc : c.callee with
    | value f => simp [totalOp, hc] at hq
    | builtin b => rw [hc] at h; simp only at h; obtain ⟨_, _, h⟩ := vprim_total hq h; exact ⟨_, h⟩
    | invoke r m => simp [totalOp, hc] at hq
  | _ => rw [hop] at hq h; simp only at h; obtain ⟨_, _, h⟩ := vprim_total hq h; exact ⟨_, h⟩

theorem vops_total {ops : Array Oper} : ∀ (n : Nat) (g : Option (Nat × Bool)) (l : List Oper) (s : VS) (k : VS → Prop), (∀ o ∈ l, totalOp o.op = true) → vops G ops n g l s k → ∃ s', k s' := by
  intro n
  induction n with
  | zero => intro g l s k _ h; exact h.elim
  | succ n ih =>
    intro g l s k hq h
    cases l with
    | nil => exact ⟨s, h⟩
    | cons o rest =>
      unfold vops at h
      split at h
      · obtain ⟨s', h⟩ := vstep_total (hq o List.mem_cons_self) h
        exact ih g rest s' k (fun x hx => hq x (List.mem_cons_of_mem _ hx)) h
      · split at h
        · rename_i body res rest' j w hsp hg
          have hl : o :: rest = body ++ res :: rest' := by
            have := spanG_eq g (o :: rest)
            rw [hsp] at this; exact this
          split at h
          · split at h
            · split at h
              · obtain ⟨s2, h⟩ := ih _ body s _ (fun x hx => hq x (by rw [hl]; exact List.mem_append_left _ hx)) h
                unfold boolOf at h
                split at h
                · exact ih g rest' _ k (fun x hx => hq x (by rw [hl]; exact List.mem_append_right _ (List.mem_cons_of_mem _ hx))) h
                · exact h.elim
              · rename_i hall
                rw [List.all_eq_false] at hall
                obtain ⟨x, hx, hxt⟩ := hall
                exact absurd (hq x (by rw [hl]; exact List.mem_append_left _ hx)) hxt
            · exact h.elim
          · exact h.elim
        · exact h.elim

end
end Go.Mach
