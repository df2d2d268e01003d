/- Part of the proof. No condition. -/
import Derived.Test.YtbenbhdagmnapaaYVCall
namespace Go.Mach
set_option linter.unusedVariables false
set_option linter.unusedSimpArgs false
def pC : List Oper -> List Nat
  | [] => []
  | o :: l => match o.dst with
    | some d => d :: pC l
    | none => pC l
def QExt (ds : List Nat) (s s' : VS) : Prop := (∃ x, s'.h = s.h ++ x) /\ ∀ d, d ∉ ds -> bL s'.t d = bL s.t d
theorem QExt.refl (ds : List Nat) (s : VS) : QExt ds s s := ⟨⟨[], by simp⟩, fun _ _ => rfl⟩
theorem QExt.trans {ds es fs : List Nat} {a b c : VS} (h : QExt ds a b) (k : QExt es b c) (h1 : ∀ d ∈ ds, d ∈ fs) (h2 : ∀ d ∈ es, d ∈ fs) : QExt fs a c := by
 obtain ⟨⟨x, e⟩, h3⟩ := h
 obtain ⟨⟨y, e'⟩, k3⟩ := k
 exact ⟨⟨x ++ y, by rw [e', e, List.append_assoc]⟩, fun d hd => (k3 d (fun hm => hd (h2 d hm))).trans (h3 d (fun hm => hd (h1 d hm)))⟩
theorem aLV {s : VS} {h : List VO} {o : Option Nat} {v : VV} : (VS.set ⟨s.t, h⟩ o v).h = h := by cases o <;> rfl
theorem aI6 {op : BinOp} {a b : Value} {K : Value -> Prop} (h : aMV op a b K) : ∃ v, K v := let ⟨v, h, _⟩ := T5 h; ⟨v, h⟩
section
variable {G : Cfg}
theorem VC {at_ : ATy} {cs : List VV} {off : Nat} {K : VV -> Prop} (h : XH at_ cs off K) : ∃ v, K v := by
 unfold XH at h
 split at h
 ·split at h
  ·exact ⟨_, h⟩
  ·exact h.elim
 ·split at h
  ·exact ⟨_, h⟩
  ·exact h.elim
 ·exact h.elim
 ·split at h
  ·split at h
   ·exact ⟨_, h⟩
   ·exact h.elim
  ·exact h.elim
theorem aJr {u : Option TypeDesc} {h : List VO} {v w : VV} {K : Bool -> Prop} (k : aK2 u h v w K) : ∃ b, K b := by
  unfold aK2 at k
  split at k <;> first
    | exact k.elim
    | exact ⟨_, k⟩
    | exact ⟨_, k.2⟩
    | (split at k
       · exact ⟨_, k.2⟩
       · exact k.elim)
theorem aMg {h : List VO} {v : VV} {K : Nat -> Prop} (k : aMT h v K) : ∃ b, K b := by
  unfold aMT at k
  split at k <;> first
    | exact k.elim
    | exact ⟨_, k⟩
    | (split at k
       · exact ⟨_, k⟩
       · exact k.elim)
theorem aD8 {f : Int -> Int -> Int} {k : IntKind} : ∀ {l : List VV} {x : Int} {K : Int -> Prop}, aCl f k x l K -> ∃ m, K m
  | [], x, K, h => ⟨_, h⟩
  | v :: l, x, K, h => by
    unfold aCl at h
    split at h <;> rename_i e <;> cases e
    · split at h
      · exact aD8 h
      · exact h.elim
    · exact h.elim
theorem D7 {P : Program} : ∀ {l : List (TypeId × Nat)} {xs ys : List VV} {K : Bool -> Prop}, zH P l xs ys K -> ∃ b, K b
  | [], _, _, _, h => ⟨_, h⟩
  | (t, o) :: r, xs, ys, K, h => by
    simp only [zH] at h
    split at h
    case h_2 => exact h.elim
    unfold aMA at h
    split at h
    · split at h
      · obtain ⟨b, h⟩ := D7 h; exact ⟨_, h⟩
      · exact h.elim
    · obtain ⟨b, h⟩ := D7 h; exact ⟨_, h⟩
    · exact h.elim
theorem aKY {P : Program} {op : BinOp} {t : TypeId} {xs ys : List VV} {K : VV -> Prop} (h : aGx P op t xs ys K) : ∃ v, K v := by
 unfold aGx at h
 split at h
 case h_2 => exact h.elim
 split at h
 ·obtain ⟨b, h⟩ := D7 h; exact ⟨_, h⟩
 ·obtain ⟨b, h⟩ := D7 h; exact ⟨_, h⟩
 ·exact h.elim
theorem aAW {op : Op} {t : List (Nat × VV)} {h : List VO} {K : VV -> List VO -> Prop} (hq : EC op = true) (hv : bT G op t h K) : ∃ v h', K v h' := by
  cases op <;> try (cases hq; done)
  case move x => exact ⟨_, _, hv⟩
  case assign x => exact ⟨_, _, hv⟩
  case pick a b c => exact hv.elim
  case load ty x =>
    simp only [bT] at hv
    split at hv
    · split at hv
      · obtain ⟨v, h⟩ := VC hv; exact ⟨_, _, h⟩
      · exact hv.elim
    · split at hv
      · obtain ⟨v, h⟩ := VC hv; exact ⟨_, _, h⟩
      · exact hv.elim
    · obtain ⟨v, h⟩ := VC hv; exact ⟨_, _, h⟩
    · obtain ⟨v, h⟩ := VC hv; exact ⟨_, _, h⟩
    · exact hv.elim
  case binOp op ty x y ty2 =>
    simp only [bT] at hv
    split at hv
    · split at hv
      · obtain ⟨v, h⟩ := aJr hv; exact ⟨_, _, h⟩
      · obtain ⟨v, h⟩ := aJr hv; exact ⟨_, _, h⟩
      · exact hv.elim
    · split at hv
      · split at hv
        · obtain ⟨v, h⟩ := aI6 hv; exact ⟨_, _, h⟩
        · split at hv
          · obtain ⟨v, h, _⟩ := aF8 hv; exact ⟨_, _, h⟩
          · obtain ⟨v, h⟩ := aI6 hv; exact ⟨_, _, h⟩
        · exact hv.elim
      · obtain ⟨v, h⟩ := aKY hv; exact ⟨_, _, h⟩
      · exact hv.elim
  case unOp op ty x =>
    simp only [bT] at hv
    split at hv
    · obtain ⟨v, h, _⟩ := aFe hv; exact ⟨_, _, h⟩
    · exact hv.elim
  case convert s d x =>
    simp only [bT] at hv
    split at hv
    · exact ⟨_, _, hv⟩
    · exact ⟨_, _, hv⟩
    · exact ⟨_, _, hv⟩
    · obtain ⟨m, _, h⟩ := hv; exact ⟨_, _, h⟩
    · exact hv.elim
  case fieldAddr s x f =>
    simp only [bT] at hv
    split at hv
    · split at hv
      · split at hv
        · exact hv.elim
        · split at hv <;> first | exact ⟨_, _, hv⟩ | exact hv.elim
      · exact hv.elim
    · exact hv.elim
  case field s x f =>
    simp only [bT] at hv
    split at hv
    · split at hv
      · split at hv
        · exact hv.elim
        · exact ⟨_, _, hv⟩
      · split at hv
        · exact hv.elim
        · split at hv
          · exact ⟨_, _, hv⟩
          · exact hv.elim
      · exact hv.elim
    · exact hv.elim
  case extract x i =>
    simp only [bT] at hv
    split at hv
    · split at hv
      · exact ⟨_, _, hv⟩
      · exact hv.elim
    · exact hv.elim
  case call c =>
    simp only [bT] at hv
    split at hv
    · split at hv
      · split at hv
        · exact ⟨_, _, hv⟩
        · split at hv
          · exact ⟨_, _, hv⟩
          · exact hv.elim
        · obtain ⟨v, h⟩ := aMg hv; exact ⟨_, _, h⟩
        · exact hv.elim
      · exact hv.elim
    · split at hv
      · obtain ⟨v, h⟩ := aD8 hv; exact ⟨_, _, h⟩
      · exact hv.elim
    · split at hv
      · obtain ⟨v, h⟩ := aD8 hv; exact ⟨_, _, h⟩
      · exact hv.elim
    · split at hv
      · split at hv
        · exact ⟨_, _, hv⟩
        · exact hv.elim
      · exact hv.elim
    · split at hv
      · exact ⟨_, _, hv⟩
      · exact hv.elim
    · split at hv
      · exact ⟨_, _, hv⟩
      · exact hv.elim
    · rename_i hc; simp [EC, hc] at hq
    · exact hv.elim
end
end Go.Mach
namespace Go.Mach
set_option linter.unusedVariables false
set_option linter.unusedSimpArgs false
theorem aDl {a b : Option (Nat × Bool)} (h : WO a b = true) : a = b := by
 unfold WO at h
 split at h
 ·rfl
 ·simp only [Bool.and_eq_true, beq_iff_eq] at h; rw [h.1, h.2]
 ·cases h
theorem aC8 (g : Option (Nat × Bool)) : ∀ l, l = (QW g l).1 ++ (QW g l).2
  | [] => rfl
  | o :: l => by
    unfold QW
    split
    · rfl
    · show o :: l = o :: ((QW g l).1 ++ (QW g l).2)
      rw [<- aC8 g l]
theorem aFg (g : Option (Nat × Bool)) : ∀ {l a r b}, QW g l = (a, r :: b) -> WO r.guard g = true
  | [], a, r, b, h => by cases h
  | o :: l, a, r, b, h => by
    unfold QW at h
    split at h
    · rename_i e; cases h; exact e
    · cases h' : QW g l with
      | mk x y =>
        rw [h'] at h
        simp only at h
        cases y with
        | nil => cases h
        | cons z w => cases h; exact aFg g h'
theorem aGs (o : Oper) (l : List Oper) : pC (o :: l) = match o.dst with
  | some d => d :: pC l
  | none => pC l := rfl
theorem aHR : ∀ (a b : List Oper), pC (a ++ b) = pC a ++ pC b
  | [], b => rfl
  | o :: a, b => by
    rw [List.cons_append, aGs, aGs o a, aHR a b]
    cases o.dst <;> rfl
theorem eW (o : Oper) (l : List Oper) : ∀ d, d ∈ pC (o :: l) ↔ o.dst = some d \/ d ∈ pC l := by
  intro d
  rw [aGs]
  cases h : o.dst with
  | none => simp
  | some x =>
    simp only [List.mem_cons, Option.some.injEq]
    constructor
    · rintro (h | h)
      · exact .inl h.symm
      · exact .inr h
    · rintro (h | h)
      · exact .inl h.symm
      · exact .inr h
theorem zC (n : Nat) (t2 : List (Nat × VV)) : ∀ (l : List Oper) (t : List (Nat × VV)) (d : Nat), (d ∈ pC l -> bL (vH n l t2 t) d = Y5 n (bL t2 d)) /\ (d ∉ pC l -> bL (vH n l t2 t) d = bL t d)
  | [], t, d => ⟨fun h => (by cases h), fun _ => rfl⟩
  | o :: l, t, d => by
    have ih := zC n t2 l t d
    constructor
    · intro h
      unfold vH
      cases e : o.dst with
      | none => exact ih.1 (by rcases (eW o l d).1 h with h | h; · rw [e] at h; cases h
                               · exact h)
      | some x =>
        show (if x = d then Y5 n (bL t2 x) else bL (vH n l t2 t) d) = _
        split
        · rename_i hx; rw [hx]
        · rename_i hx
          exact ih.1 (by rcases (eW o l d).1 h with h | h
                         · rw [e] at h; exact absurd (Option.some.inj h) hx
                         · exact h)
    · intro h
      have h1 : d ∉ pC l := fun hm => h ((eW o l d).2 (.inr hm))
      unfold vH
      cases e : o.dst with
      | none => exact ih.2 h1
      | some x =>
        show (if x = d then Y5 n (bL t2 x) else bL (vH n l t2 t) d) = _
        rw [if_neg (fun hx => h ((eW o l d).2 (.inl (by rw [e, hx]))))]
        exact ih.2 h1
theorem zO : ∀ (l : List Oper) (t : List (Nat × VV)) (d : Nat), (d ∈ pC l -> bL (xH l t) d = .undef) /\ (d ∉ pC l -> bL (xH l t) d = bL t d)
  | [], t, d => ⟨fun h => (by cases h), fun _ => rfl⟩
  | o :: l, t, d => by
    have ih := zO l t d
    constructor
    · intro h
      unfold xH
      cases e : o.dst with
      | none => exact ih.1 (by rcases (eW o l d).1 h with h | h; · rw [e] at h; cases h
                               · exact h)
      | some x =>
        show (if x = d then VV.undef else bL (xH l t) d) = _
        split
        · rfl
        · rename_i hx
          exact ih.1 (by rcases (eW o l d).1 h with h | h
                         · rw [e] at h; exact absurd (Option.some.inj h) hx
                         · exact h)
    · intro h
      have h1 : d ∉ pC l := fun hm => h ((eW o l d).2 (.inr hm))
      unfold xH
      cases e : o.dst with
      | none => exact ih.2 h1
      | some x =>
        show (if x = d then VV.undef else bL (xH l t) d) = _
        rw [if_neg (fun hx => h ((eW o l d).2 (.inl (by rw [e, hx]))))]
        exact ih.2 h1
section
variable {G : Cfg}
theorem aIY {o : Oper} {s : VS} {k : VS -> Prop} (hq : EC o.op = true) (h : RR G o s k) : ∃ s', k s' := by
  unfold RR at h
  cases hop : o.op with
  | call c =>
    rw [hop] at hq h
    simp only at h
    cases hc : c.callee with
    | value f => simp [EC, hc] at hq
    | builtin b => rw [hc] at h; simp only at h; obtain ⟨_, _, h⟩ := aAW hq h; exact ⟨_, h⟩
    | invoke r m => simp [EC, hc] at hq
  | _ => rw [hop] at hq h; simp only at h; obtain ⟨_, _, h⟩ := aAW hq h; exact ⟨_, h⟩
theorem aJD {ops : Array Oper} : ∀ (n : Nat) (g : Option (Nat × Bool)) (l : List Oper) (s : VS) (k : VS -> Prop), (∀ o ∈ l, EC o.op = true) -> I4 G ops n g l s k -> ∃ s', k s' := by
  intro n
  induction n with
  | zero => intro g l s k _ h; exact h.elim
  | succ n ih =>
    intro g l s k hq h
    cases l with
    | nil => exact ⟨s, h⟩
    | cons o rest =>
      unfold I4 at h
      split at h
      · obtain ⟨s', h⟩ := aIY (hq o List.mem_cons_self) h
        exact ih g rest s' k (fun x hx => hq x (List.mem_cons_of_mem _ hx)) h
      · split at h
        · rename_i body res rest' j w hsp hg
          have hl : o :: rest = body ++ res :: rest' := by
            have := aC8 g (o :: rest)
            rw [hsp] at this; exact this
          split at h
          · split at h
            · split at h
              · obtain ⟨s2, h⟩ := ih _ body s _ (fun x hx => hq x (by rw [hl]; exact List.mem_append_left _ hx)) h
                unfold T7 at h
                split at h
                · exact ih g rest' _ k (fun x hx => hq x (by rw [hl]; exact List.mem_append_right _ (List.mem_cons_of_mem _ hx))) h
                · exact h.elim
              · rename_i hall
                rw [List.all_eq_false] at hall
                obtain ⟨x, hx, hxt⟩ := hall
                exact absurd (hq x (by rw [hl]; exact List.mem_append_left _ hx)) hxt
            · exact h.elim
          · exact h.elim
        · exact h.elim
end
end Go.Mach
