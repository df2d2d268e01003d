/- Part of the proof. No condition. -/
import Derived.Test.YtcfpfefadlnmcaaGreatYVCall
namespace Go.Mach
set_option linter.unusedVariables false
set_option linter.unusedSimpArgs false
def m8 : List Oper -> List Nat
  | [] => []
  | o :: l => match o.dst with
    | some d => d :: m8 l
    | none => m8 l
theorem aBY {s:VS} {h:List VO} {o:Option Nat} {v:VV}:(VS.set ⟨s.t,h⟩ o v).h=h:=by cases o <;> rfl
theorem Y6 {op:BinOp} {a b:Value} {K:Value->Prop} (h:aCs op a b K):∃ v,K v:=let ⟨v,h,_⟩:=GZ h; ⟨v,h⟩
section
variable {G:Cfg}
theorem HP {at_:ATy} {cs:List VV} {off:Nat} {K:VV->Prop} (h:zE at_ cs off K):∃ v,K v:=by
 unfold zE at h
 split at h
 ·split at h
  ·exact ⟨_,h⟩
  ·exact h.elim
 ·split at h
  ·exact ⟨_,h⟩
  ·exact h.elim
 ·exact h.elim
 ·split at h
  ·split at h
   ·exact ⟨_,h⟩
   ·exact h.elim
  ·exact h.elim
theorem aB8 {u : Option TypeDesc} {q : Bool} {h : List VO} {v w : VV} {K : Bool -> Prop} (k : aCN u q h v w K) : ∃ b, K b := by
  unfold aCN at k
  split at k <;> first
    | exact k.elim
    | exact ⟨_, k⟩
    | exact ⟨_, k.2⟩
    | (split at k
       · exact ⟨_, k.2⟩
       · exact k.elim)
    | (split at k
       · exact ⟨_, k⟩
       · exact k.elim)
theorem aEe {h : List VO} {v : VV} {K : Nat -> Prop} (k : aDR h v K) : ∃ b, K b := by
  unfold aDR at k
  split at k <;> first
    | exact k.elim
    | exact ⟨_, k⟩
    | (split at k
       · exact ⟨_, k⟩
       · exact k.elim)
theorem QF {f : Int -> Int -> Int} {k : IntKind} : ∀ {l : List VV} {x : Int} {K : Int -> Prop}, OR f k x l K -> ∃ m, K m
  | [], x, K, h => ⟨_, h⟩
  | v :: l, x, K, h => by
    unfold OR at h
    split at h <;> rename_i e <;> cases e
    · split at h
      · exact QF h
      · exact h.elim
    · exact h.elim
theorem wR {P : Program} : ∀ {l : List (TypeId × Nat)} {xs ys : List VV} {K : Bool -> Prop}, tF P l xs ys K -> ∃ b, K b
  | [], _, _, _, h => ⟨_, h⟩
  | (t, o) :: r, xs, ys, K, h => by
    simp only [tF] at h
    split at h
    case h_2 => exact h.elim
    unfold aDf at h
    split at h
    · split at h
      · obtain ⟨b, h⟩ := wR h; exact ⟨_, h⟩
      · exact h.elim
    · obtain ⟨b, h⟩ := wR h; exact ⟨_, h⟩
    · exact h.elim
theorem aCT {P:Program} {op:BinOp} {t:TypeId} {xs ys:List VV} {K:VV->Prop} (h:VJ P op t xs ys K):∃ v,K v:=by
 unfold VJ at h
 split at h
 case h_2=>exact h.elim
 split at h
 ·obtain ⟨b,h⟩:=wR h; exact ⟨_,h⟩
 ·obtain ⟨b,h⟩:=wR h; exact ⟨_,h⟩
 ·exact h.elim
theorem L8 {op : Op} {t : List (Nat × VV)} {h : List VO} {K : VV -> List VO -> Prop} (hq : xD op = true) (hv : cF G op t h K) : ∃ v h', K v h' := by
  cases op <;> try (cases hq; done)
  case move x => exact ⟨_, _, hv⟩
  case assign x => exact ⟨_, _, hv⟩
  case pick a b c => exact hv.elim
  case load ty x =>
    simp only [cF] at hv
    split at hv
    · split at hv
      · obtain ⟨v, h⟩ := HP hv; exact ⟨_, _, h⟩
      · exact hv.elim
    · split at hv
      · rcases MD hv with hv | ⟨_, _, _, _, _, _, _, _, _, _, _, _, hv⟩
        · obtain ⟨v, h⟩ := HP hv; exact ⟨_, _, h⟩
        · exact ⟨_, _, hv⟩
      · exact hv.elim
    · obtain ⟨v, h⟩ := HP hv; exact ⟨_, _, h⟩
    · obtain ⟨v, h⟩ := HP hv; exact ⟨_, _, h⟩
    · exact hv.elim
  case binOp op ty x y ty2 =>
    simp only [cF] at hv
    split at hv
    · split at hv
      · obtain ⟨v, h⟩ := aB8 hv; exact ⟨_, _, h⟩
      · obtain ⟨v, h⟩ := aB8 hv; exact ⟨_, _, h⟩
      · exact hv.elim
    · split at hv
      · split at hv
        · obtain ⟨v, h⟩ := Y6 hv; exact ⟨_, _, h⟩
        · split at hv
          · obtain ⟨v, h, _⟩ := SS hv; exact ⟨_, _, h⟩
          · obtain ⟨v, h⟩ := Y6 hv; exact ⟨_, _, h⟩
        · exact hv.elim
      · obtain ⟨v, h⟩ := aCT hv; exact ⟨_, _, h⟩
      · exact hv.elim
  case unOp op ty x =>
    simp only [cF] at hv
    split at hv
    · obtain ⟨v, h, _⟩ := T4 hv; exact ⟨_, _, h⟩
    · exact hv.elim
  case convert s d x =>
    simp only [cF] at hv
    split at hv
    · exact ⟨_, _, hv⟩
    · exact ⟨_, _, hv⟩
    · exact ⟨_, _, hv⟩
    · obtain ⟨m, _, h⟩ := hv; exact ⟨_, _, h⟩
    · exact hv.elim
  case fieldAddr s x f =>
    simp only [cF] at hv
    split at hv
    · split at hv
      · split at hv
        · exact hv.elim
        · split at hv <;> first | exact ⟨_, _, hv⟩ | exact hv.elim
      · exact hv.elim
    · exact hv.elim
  case field s x f =>
    simp only [cF] at hv
    split at hv
    · split at hv
      · split at hv
        · exact hv.elim
        · exact ⟨_, _, hv⟩
      · split at hv
        · exact hv.elim
        · split at hv
          · exact ⟨_, _, hv⟩
          · exact hv.elim
      · exact hv.elim
    · exact hv.elim
  case extract x i =>
    simp only [cF] at hv
    split at hv
    · split at hv
      · exact ⟨_, _, hv⟩
      · exact hv.elim
    · exact hv.elim
  case call c =>
    simp only [cF] at hv
    split at hv
    · split at hv
      · split at hv
        · exact ⟨_, _, hv⟩
        · split at hv
          · exact ⟨_, _, hv⟩
          · exact hv.elim
        · obtain ⟨v, h⟩ := aEe hv; exact ⟨_, _, h⟩
        · exact hv.elim
      · exact hv.elim
    · split at hv
      · obtain ⟨v, h⟩ := QF hv; exact ⟨_, _, h⟩
      · exact hv.elim
    · split at hv
      · obtain ⟨v, h⟩ := QF hv; exact ⟨_, _, h⟩
      · exact hv.elim
    · split at hv
      · split at hv
        · exact ⟨_, _, hv⟩
        · exact hv.elim
      · exact hv.elim
    · split at hv
      · exact ⟨_, _, hv⟩
      · exact hv.elim
    · split at hv
      · exact ⟨_, _, hv⟩
      · exact hv.elim
    · rename_i hc; simp [xD, hc] at hq
    · exact hv.elim
end
end Go.Mach
namespace Go.Mach
set_option linter.unusedVariables false
set_option linter.unusedSimpArgs false
theorem N5 {a b:Option (Nat×Bool)} (h:IA a b=true):a=b:=by
 unfold IA at h
 split at h
 ·rfl
 ·simp only [Bool.and_eq_true,beq_iff_eq] at h; rw [h.1,h.2]
 ·cases h
theorem P8 (g : Option (Nat × Bool)) : ∀ l, l = (F1 g l).1 ++ (F1 g l).2
  | [] => rfl
  | o :: l => by
    unfold F1
    split
    · rfl
    · show o :: l = o :: ((F1 g l).1 ++ (F1 g l).2)
      rw [<- P8 g l]
theorem TX (g : Option (Nat × Bool)) : ∀ {l a r b}, F1 g l = (a, r :: b) -> IA r.guard g = true
  | [], a, r, b, h => by cases h
  | o :: l, a, r, b, h => by
    unfold F1 at h
    split at h
    · rename_i e; cases h; exact e
    · cases h' : F1 g l with
      | mk x y =>
        rw [h'] at h
        simp only at h
        cases y with
        | nil => cases h
        | cons z w => cases h; exact TX g h'
theorem UW (o:Oper) (l:List Oper):m8 (o::l)=match o.dst with
  | some d=>d::m8 l
  | none=>m8 l:=rfl
theorem XE : ∀ (a b : List Oper), m8 (a ++ b) = m8 a ++ m8 b
  | [], b => rfl
  | o :: a, b => by
    rw [List.cons_append, UW, UW o a, XE a b]
    cases o.dst <;> rfl
theorem fM (o : Oper) (l : List Oper) : ∀ d, d ∈ m8 (o :: l) ↔ o.dst = some d \/ d ∈ m8 l := by
  intro d
  rw [UW]
  cases h : o.dst with
  | none => simp
  | some x =>
    simp only [List.mem_cons, Option.some.injEq]
    constructor
    · rintro (h | h)
      · exact .inl h.symm
      · exact .inr h
    · rintro (h | h)
      · exact .inl h.symm
      · exact .inr h
theorem s9 (n : Nat) (t2 : List (Nat × VV)) : ∀ (l : List Oper) (t : List (Nat × VV)) (d : Nat), (d ∈ m8 l -> cN (qX n l t2 t) d = LJ n (cN t2 d)) /\ (d ∉ m8 l -> cN (qX n l t2 t) d = cN t d)
  | [], t, d => ⟨fun h => (by cases h), fun _ => rfl⟩
  | o :: l, t, d => by
    have ih := s9 n t2 l t d
    constructor
    · intro h
      unfold qX
      cases e : o.dst with
      | none => exact ih.1 (by rcases (fM o l d).1 h with h | h; · rw [e] at h; cases h
                               · exact h)
      | some x =>
        show (if x = d then LJ n (cN t2 x) else cN (qX n l t2 t) d) = _
        split
        · rename_i hx; rw [hx]
        · rename_i hx
          exact ih.1 (by rcases (fM o l d).1 h with h | h
                         · rw [e] at h; exact absurd (Option.some.inj h) hx
                         · exact h)
    · intro h
      have h1 : d ∉ m8 l := fun hm => h ((fM o l d).2 (.inr hm))
      unfold qX
      cases e : o.dst with
      | none => exact ih.2 h1
      | some x =>
        show (if x = d then LJ n (cN t2 x) else cN (qX n l t2 t) d) = _
        rw [if_neg (fun hx => h ((fM o l d).2 (.inl (by rw [e, hx]))))]
        exact ih.2 h1
theorem tD : ∀ (l : List Oper) (t : List (Nat × VV)) (d : Nat), (d ∈ m8 l -> cN (sL l t) d = .undef) /\ (d ∉ m8 l -> cN (sL l t) d = cN t d)
  | [], t, d => ⟨fun h => (by cases h), fun _ => rfl⟩
  | o :: l, t, d => by
    have ih := tD l t d
    constructor
    · intro h
      unfold sL
      cases e : o.dst with
      | none => exact ih.1 (by rcases (fM o l d).1 h with h | h; · rw [e] at h; cases h
                               · exact h)
      | some x =>
        show (if x = d then VV.undef else cN (sL l t) d) = _
        split
        · rfl
        · rename_i hx
          exact ih.1 (by rcases (fM o l d).1 h with h | h
                         · rw [e] at h; exact absurd (Option.some.inj h) hx
                         · exact h)
    · intro h
      have h1 : d ∉ m8 l := fun hm => h ((fM o l d).2 (.inr hm))
      unfold sL
      cases e : o.dst with
      | none => exact ih.2 h1
      | some x =>
        show (if x = d then VV.undef else cN (sL l t) d) = _
        rw [if_neg (fun hx => h ((fM o l d).2 (.inl (by rw [e, hx]))))]
        exact ih.2 h1
section
variable {G:Cfg}
theorem W9 {o : Oper} {s : VS} {k : VS -> Prop} (hq : xD o.op = true) (h : FI G o s k) : ∃ s', k s' := by
  unfold FI at h
  cases hop : o.op with
  | call c =>
    rw [hop] at hq h
    simp only at h
    cases hc : c.callee with
    | value f => simp [xD, hc] at hq
    | builtin b => rw [hc] at h; simp only at h; obtain ⟨_, _, h⟩ := L8 hq h; exact ⟨_, h⟩
    | invoke r m => simp [xD, hc] at hq
  | _ => rw [hop] at hq h; simp only at h; obtain ⟨_, _, h⟩ := L8 hq h; exact ⟨_, h⟩
theorem aAg {ops : Array Oper} : ∀ (n : Nat) (g : Option (Nat × Bool)) (l : List Oper) (s : VS) (k : VS -> Prop), (∀ o ∈ l, xD o.op = true) -> wD G ops n g l s k -> ∃ s', k s' := by
  intro n
  induction n with
  | zero => intro g l s k _ h; exact h.elim
  | succ n ih =>
    intro g l s k hq h
    cases l with
    | nil => exact ⟨s, h⟩
    | cons o rest =>
      unfold wD at h
      split at h
      · obtain ⟨s', h⟩ := W9 (hq o List.mem_cons_self) h
        exact ih g rest s' k (fun x hx => hq x (List.mem_cons_of_mem _ hx)) h
      · split at h
        · rename_i body res rest' j w hsp hg
          have hl : o :: rest = body ++ res :: rest' := by
            have := P8 g (o :: rest)
            rw [hsp] at this; exact this
          split at h
          · split at h
            · split at h
              · obtain ⟨s2, h⟩ := ih _ body s _ (fun x hx => hq x (by rw [hl]; exact List.mem_append_left _ hx)) h
                unfold G0 at h
                split at h
                · exact ih g rest' _ k (fun x hx => hq x (by rw [hl]; exact List.mem_append_right _ (List.mem_cons_of_mem _ hx))) h
                · exact h.elim
              · rename_i hall
                rw [List.all_eq_false] at hall
                obtain ⟨x, hx, hxt⟩ := hall
                exact absurd (hq x (by rw [hl]; exact List.mem_append_left _ hx)) hxt
            · exact h.elim
          · exact h.elim
        · exact h.elim
end
end Go.Mach
