/- Part of the proof. No condition. -/
import Derived.Test.YtbenbhdagmnapaaYVCall
namespace Go.Mach
set_option linter.unusedVariables false
set_option linter.unusedSimpArgs false
def oS : List Oper -> List Nat
  | [] => []
  | o :: l => match o.dst with
    | some d => d :: oS l
    | none => oS l
def QExt (ds : List Nat) (s s' : VS) : Prop := (∃ x, s'.h = s.h ++ x) /\ ∀ d, d ∉ ds -> bM s'.t d = bM s.t d
theorem QExt.refl (ds : List Nat) (s : VS) : QExt ds s s := ⟨⟨[], by simp⟩, fun _ _ => rfl⟩
theorem QExt.trans {ds es fs : List Nat} {a b c : VS} (h : QExt ds a b) (k : QExt es b c) (h1 : ∀ d ∈ ds, d ∈ fs) (h2 : ∀ d ∈ es, d ∈ fs) : QExt fs a c := by
 obtain ⟨⟨x, e⟩, h3⟩ := h
 obtain ⟨⟨y, e'⟩, k3⟩ := k
 exact ⟨⟨x ++ y, by rw [e', e, List.append_assoc]⟩, fun d hd => (k3 d (fun hm => hd (h2 d hm))).trans (h3 d (fun hm => hd (h1 d hm)))⟩
theorem aL7 {s : VS} {h : List VO} {o : Option Nat} {v : VV} : (VS.set ⟨s.t, h⟩ o v).h = h := by cases o <;> rfl
theorem aHd {op : BinOp} {a b : Value} {K : Value -> Prop} (h : aMD op a b K) : ∃ v, K v := let ⟨v, h, _⟩ := UI h; ⟨v, h⟩
section
variable {G : Cfg}
theorem WM {at_ : ATy} {cs : List VV} {off : Nat} {K : VV -> Prop} (h : X3 at_ cs off K) : ∃ v, K v := by
 unfold X3 at h
 split at h
 ·split at h
  ·exact ⟨_, h⟩
  ·exact h.elim
 ·split at h
  ·exact ⟨_, h⟩
  ·exact h.elim
 ·exact h.elim
 ·split at h
  ·split at h
   ·exact ⟨_, h⟩
   ·exact h.elim
  ·exact h.elim
theorem aKN {u : Option TypeDesc} {h : List VO} {v w : VV} {K : Bool -> Prop} (k : aKj u h v w K) : ∃ b, K b := by
  unfold aKj at k
  split at k <;> first
    | exact k.elim
    | exact ⟨_, k⟩
    | exact ⟨_, k.2⟩
    | (split at k
       · exact ⟨_, k.2⟩
       · exact k.elim)
theorem aNc {h : List VO} {v : VV} {K : Nat -> Prop} (k : aL6 h v K) : ∃ b, K b := by
  unfold aL6 at k
  split at k <;> first
    | exact k.elim
    | exact ⟨_, k⟩
    | (split at k
       · exact ⟨_, k⟩
       · exact k.elim)
theorem aDy {f : Int -> Int -> Int} {k : IntKind} : ∀ {l : List VV} {x : Int} {K : Int -> Prop}, aEG f k x l K -> ∃ m, K m
  | [], x, K, h => ⟨_, h⟩
  | v :: l, x, K, h => by
    unfold aEG at h
    split at h <;> rename_i e <;> cases e
    · split at h
      · exact aDy h
      · exact h.elim
    · exact h.elim
theorem E3 {P : Program} : ∀ {l : List (TypeId × Nat)} {xs ys : List VV} {K : Bool -> Prop}, zU P l xs ys K -> ∃ b, K b
  | [], _, _, _, h => ⟨_, h⟩
  | (t, o) :: r, xs, ys, K, h => by
    simp only [zU] at h
    split at h
    case h_2 => exact h.elim
    unfold aMh at h
    split at h
    · split at h
      · obtain ⟨b, h⟩ := E3 h; exact ⟨_, h⟩
      · exact h.elim
    · obtain ⟨b, h⟩ := E3 h; exact ⟨_, h⟩
    · exact h.elim
theorem aLP {P : Program} {op : BinOp} {t : TypeId} {xs ys : List VV} {K : VV -> Prop} (h : aGW P op t xs ys K) : ∃ v, K v := by
 unfold aGW at h
 split at h
 case h_2 => exact h.elim
 split at h
 ·obtain ⟨b, h⟩ := E3 h; exact ⟨_, h⟩
 ·obtain ⟨b, h⟩ := E3 h; exact ⟨_, h⟩
 ·exact h.elim
theorem aAg {op : Op} {t : List (Nat × VV)} {h : List VO} {K : VV -> List VO -> Prop} (hq : ED op = true) (hv : bU G op t h K) : ∃ v h', K v h' := by
  cases op <;> try (cases hq; done)
  case move x => exact ⟨_, _, hv⟩
  case assign x => exact ⟨_, _, hv⟩
  case pick a b c => exact hv.elim
  case load ty x =>
    simp only [bU] at hv
    split at hv
    · split at hv
      · obtain ⟨v, h⟩ := WM hv; exact ⟨_, _, h⟩
      · exact hv.elim
    · split at hv
      · obtain ⟨v, h⟩ := WM hv; exact ⟨_, _, h⟩
      · exact hv.elim
    · obtain ⟨v, h⟩ := WM hv; exact ⟨_, _, h⟩
    · obtain ⟨v, h⟩ := WM hv; exact ⟨_, _, h⟩
    · exact hv.elim
  case binOp op ty x y ty2 =>
    simp only [bU] at hv
    split at hv
    · split at hv
      · obtain ⟨v, h⟩ := aKN hv; exact ⟨_, _, h⟩
      · obtain ⟨v, h⟩ := aKN hv; exact ⟨_, _, h⟩
      · exact hv.elim
    · split at hv
      · split at hv
        · obtain ⟨v, h⟩ := aHd hv; exact ⟨_, _, h⟩
        · split at hv
          · obtain ⟨v, h, _⟩ := aFH hv; exact ⟨_, _, h⟩
          · obtain ⟨v, h⟩ := aHd hv; exact ⟨_, _, h⟩
        · exact hv.elim
      · obtain ⟨v, h⟩ := aLP hv; exact ⟨_, _, h⟩
      · exact hv.elim
  case unOp op ty x =>
    simp only [bU] at hv
    split at hv
    · obtain ⟨v, h, _⟩ := aGJ hv; exact ⟨_, _, h⟩
    · exact hv.elim
  case convert s d x =>
    simp only [bU] at hv
    split at hv
    · exact ⟨_, _, hv⟩
    · exact ⟨_, _, hv⟩
    · exact ⟨_, _, hv⟩
    · obtain ⟨m, _, h⟩ := hv; exact ⟨_, _, h⟩
    · exact hv.elim
  case fieldAddr s x f =>
    simp only [bU] at hv
    split at hv
    · split at hv
      · split at hv
        · exact hv.elim
        · split at hv <;> first | exact ⟨_, _, hv⟩ | exact hv.elim
      · exact hv.elim
    · exact hv.elim
  case field s x f =>
    simp only [bU] at hv
    split at hv
    · split at hv
      · split at hv
        · exact hv.elim
        · exact ⟨_, _, hv⟩
      · split at hv
        · exact hv.elim
        · split at hv
          · exact ⟨_, _, hv⟩
          · exact hv.elim
      · exact hv.elim
    · exact hv.elim
  case extract x i =>
    simp only [bU] at hv
    split at hv
    · split at hv
      · exact ⟨_, _, hv⟩
      · exact hv.elim
    · exact hv.elim
  case call c =>
    simp only [bU] at hv
    split at hv
    · split at hv
      · split at hv
        · exact ⟨_, _, hv⟩
        · split at hv
          · exact ⟨_, _, hv⟩
          · exact hv.elim
        · obtain ⟨v, h⟩ := aNc hv; exact ⟨_, _, h⟩
        · exact hv.elim
      · exact hv.elim
    · split at hv
      · obtain ⟨v, h⟩ := aDy hv; exact ⟨_, _, h⟩
      · exact hv.elim
    · split at hv
      · obtain ⟨v, h⟩ := aDy hv; exact ⟨_, _, h⟩
      · exact hv.elim
    · split at hv
      · split at hv
        · exact ⟨_, _, hv⟩
        · exact hv.elim
      · exact hv.elim
    · split at hv
      · exact ⟨_, _, hv⟩
      · exact hv.elim
    · split at hv
      · exact ⟨_, _, hv⟩
      · exact hv.elim
    · rename_i hc; simp [ED, hc] at hq
    · exact hv.elim
end
end Go.Mach
namespace Go.Mach
set_option linter.unusedVariables false
set_option linter.unusedSimpArgs false
theorem aCM {a b : Option (Nat × Bool)} (h : VU a b = true) : a = b := by
 unfold VU at h
 split at h
 ·rfl
 ·simp only [Bool.and_eq_true, beq_iff_eq] at h; rw [h.1, h.2]
 ·cases h
theorem aEX (g : Option (Nat × Bool)) : ∀ l, l = (R3 g l).1 ++ (R3 g l).2
  | [] => rfl
  | o :: l => by
    unfold R3
    split
    · rfl
    · show o :: l = o :: ((R3 g l).1 ++ (R3 g l).2)
      rw [<- aEX g l]
theorem aFg (g : Option (Nat × Bool)) : ∀ {l a r b}, R3 g l = (a, r :: b) -> VU r.guard g = true
  | [], a, r, b, h => by cases h
  | o :: l, a, r, b, h => by
    unfold R3 at h
    split at h
    · rename_i e; cases h; exact e
    · cases h' : R3 g l with
      | mk x y =>
        rw [h'] at h
        simp only at h
        cases y with
        | nil => cases h
        | cons z w => cases h; exact aFg g h'
theorem aHR (o : Oper) (l : List Oper) : oS (o :: l) = match o.dst with
  | some d => d :: oS l
  | none => oS l := rfl
theorem aIQ : ∀ (a b : List Oper), oS (a ++ b) = oS a ++ oS b
  | [], b => rfl
  | o :: a, b => by
    rw [List.cons_append, aHR, aHR o a, aIQ a b]
    cases o.dst <;> rfl
theorem eZ (o : Oper) (l : List Oper) : ∀ d, d ∈ oS (o :: l) ↔ o.dst = some d \/ d ∈ oS l := by
  intro d
  rw [aHR]
  cases h : o.dst with
  | none => simp
  | some x =>
    simp only [List.mem_cons, Option.some.injEq]
    constructor
    · rintro (h | h)
      · exact .inl h.symm
      · exact .inr h
    · rintro (h | h)
      · exact .inl h.symm
      · exact .inr h
theorem yY (n : Nat) (t2 : List (Nat × VV)) : ∀ (l : List Oper) (t : List (Nat × VV)) (d : Nat), (d ∈ oS l -> bM (vB n l t2 t) d = YY n (bM t2 d)) /\ (d ∉ oS l -> bM (vB n l t2 t) d = bM t d)
  | [], t, d => ⟨fun h => (by cases h), fun _ => rfl⟩
  | o :: l, t, d => by
    have ih := yY n t2 l t d
    constructor
    · intro h
      unfold vB
      cases e : o.dst with
      | none => exact ih.1 (by rcases (eZ o l d).1 h with h | h; · rw [e] at h; cases h
                               · exact h)
      | some x =>
        show (if x = d then YY n (bM t2 x) else bM (vB n l t2 t) d) = _
        split
        · rename_i hx; rw [hx]
        · rename_i hx
          exact ih.1 (by rcases (eZ o l d).1 h with h | h
                         · rw [e] at h; exact absurd (Option.some.inj h) hx
                         · exact h)
    · intro h
      have h1 : d ∉ oS l := fun hm => h ((eZ o l d).2 (.inr hm))
      unfold vB
      cases e : o.dst with
      | none => exact ih.2 h1
      | some x =>
        show (if x = d then YY n (bM t2 x) else bM (vB n l t2 t) d) = _
        rw [if_neg (fun hx => h ((eZ o l d).2 (.inl (by rw [e, hx]))))]
        exact ih.2 h1
theorem AD : ∀ (l : List Oper) (t : List (Nat × VV)) (d : Nat), (d ∈ oS l -> bM (xT l t) d = .undef) /\ (d ∉ oS l -> bM (xT l t) d = bM t d)
  | [], t, d => ⟨fun h => (by cases h), fun _ => rfl⟩
  | o :: l, t, d => by
    have ih := AD l t d
    constructor
    · intro h
      unfold xT
      cases e : o.dst with
      | none => exact ih.1 (by rcases (eZ o l d).1 h with h | h; · rw [e] at h; cases h
                               · exact h)
      | some x =>
        show (if x = d then VV.undef else bM (xT l t) d) = _
        split
        · rfl
        · rename_i hx
          exact ih.1 (by rcases (eZ o l d).1 h with h | h
                         · rw [e] at h; exact absurd (Option.some.inj h) hx
                         · exact h)
    · intro h
      have h1 : d ∉ oS l := fun hm => h ((eZ o l d).2 (.inr hm))
      unfold xT
      cases e : o.dst with
      | none => exact ih.2 h1
      | some x =>
        show (if x = d then VV.undef else bM (xT l t) d) = _
        rw [if_neg (fun hx => h ((eZ o l d).2 (.inl (by rw [e, hx]))))]
        exact ih.2 h1
section
variable {G : Cfg}
theorem aIl {o : Oper} {s : VS} {k : VS -> Prop} (hq : ED o.op = true) (h : RG G o s k) : ∃ s', k s' := by
  unfold RG at h
  cases hop : o.op with
  | call c =>
    rw [hop] at hq h
    simp only at h
    cases hc : c.callee with
    | value f => simp [ED, hc] at hq
    | builtin b => rw [hc] at h; simp only at h; obtain ⟨_, _, h⟩ := aAg hq h; exact ⟨_, h⟩
    | invoke r m => simp [ED, hc] at hq
  | _ => rw [hop] at hq h; simp only at h; obtain ⟨_, _, h⟩ := aAg hq h; exact ⟨_, h⟩
theorem aJ0 {ops : Array Oper} : ∀ (n : Nat) (g : Option (Nat × Bool)) (l : List Oper) (s : VS) (k : VS -> Prop), (∀ o ∈ l, ED o.op = true) -> KZ G ops n g l s k -> ∃ s', k s' := by
  intro n
  induction n with
  | zero => intro g l s k _ h; exact h.elim
  | succ n ih =>
    intro g l s k hq h
    cases l with
    | nil => exact ⟨s, h⟩
    | cons o rest =>
      unfold KZ at h
      split at h
      · obtain ⟨s', h⟩ := aIl (hq o List.mem_cons_self) h
        exact ih g rest s' k (fun x hx => hq x (List.mem_cons_of_mem _ hx)) h
      · split at h
        · rename_i body res rest' j w hsp hg
          have hl : o :: rest = body ++ res :: rest' := by
            have := aEX g (o :: rest)
            rw [hsp] at this; exact this
          split at h
          · split at h
            · split at h
              · obtain ⟨s2, h⟩ := ih _ body s _ (fun x hx => hq x (by rw [hl]; exact List.mem_append_left _ hx)) h
                unfold TU at h
                split at h
                · exact ih g rest' _ k (fun x hx => hq x (by rw [hl]; exact List.mem_append_right _ (List.mem_cons_of_mem _ hx))) h
                · exact h.elim
              · rename_i hall
                rw [List.all_eq_false] at hall
                obtain ⟨x, hx, hxt⟩ := hall
                exact absurd (hq x (by rw [hl]; exact List.mem_append_left _ hx)) hxt
            · exact h.elim
          · exact h.elim
        · exact h.elim
end
end Go.Mach
