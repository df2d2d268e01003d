/- Part of the proof. No condition. -/
import Derived.Test.YtcfpfefadlnmcaaGreatYVCall
namespace Go.Mach
set_option linter.unusedVariables false
set_option linter.unusedSimpArgs false
def m5 : List Oper -> List Nat
  | [] => []
  | o :: l => match o.dst with
    | some d => d :: m5 l
    | none => m5 l
def QExt (ds:List Nat) (s s':VS):Prop:=(∃ x,s'.h=s.h++x)/\∀ d,d∉ds->cD s'.t d=cD s.t d
theorem QExt.refl (ds:List Nat) (s:VS):QExt ds s s:=⟨⟨[],by simp⟩,fun _ _=>rfl⟩
theorem QExt.trans {ds es fs:List Nat} {a b c:VS} (h:QExt ds a b) (k:QExt es b c) (h1:∀ d∈ds,d∈fs) (h2:∀ d∈es,d∈fs):QExt fs a c:=by
 obtain ⟨⟨x,e⟩,h3⟩:=h
 obtain ⟨⟨y,e'⟩,k3⟩:=k
 exact ⟨⟨x++y,by rw [e',e,List.append_assoc]⟩,fun d hd=>(k3 d (fun hm=>hd (h2 d hm))).trans (h3 d (fun hm=>hd (h1 d hm)))⟩
theorem aAT {s:VS} {h:List VO} {o:Option Nat} {v:VV}:(VS.set ⟨s.t,h⟩ o v).h=h:=by cases o <;> rfl
theorem WO {op:BinOp} {a b:Value} {K:Value->Prop} (h:aC9 op a b K):∃ v,K v:=let ⟨v,h,_⟩:=FN h; ⟨v,h⟩
section
variable {G:Cfg}
theorem GW {at_:ATy} {cs:List VV} {off:Nat} {K:VV->Prop} (h:yK at_ cs off K):∃ v,K v:=by
 unfold yK at h
 split at h
 ·split at h
  ·exact ⟨_,h⟩
  ·exact h.elim
 ·split at h
  ·exact ⟨_,h⟩
  ·exact h.elim
 ·exact h.elim
 ·split at h
  ·split at h
   ·exact ⟨_,h⟩
   ·exact h.elim
  ·exact h.elim
theorem aAW {u : Option TypeDesc} {q : Bool} {h : List VO} {v w : VV} {K : Bool -> Prop} (k : aBJ u q h v w K) : ∃ b, K b := by
  unfold aBJ at k
  split at k <;> first
    | exact k.elim
    | exact ⟨_, k⟩
    | exact ⟨_, k.2⟩
    | (split at k
       · exact ⟨_, k.2⟩
       · exact k.elim)
    | (split at k
       · exact ⟨_, k⟩
       · exact k.elim)
theorem aES {h : List VO} {v : VV} {K : Nat -> Prop} (k : aDK h v K) : ∃ b, K b := by
  unfold aDK at k
  split at k <;> first
    | exact k.elim
    | exact ⟨_, k⟩
    | (split at k
       · exact ⟨_, k⟩
       · exact k.elim)
theorem N9 {f : Int -> Int -> Int} {k : IntKind} : ∀ {l : List VV} {x : Int} {K : Int -> Prop}, OM f k x l K -> ∃ m, K m
  | [], x, K, h => ⟨_, h⟩
  | v :: l, x, K, h => by
    unfold OM at h
    split at h <;> rename_i e <;> cases e
    · split at h
      · exact N9 h
      · exact h.elim
    · exact h.elim
theorem wF {P : Program} : ∀ {l : List (TypeId × Nat)} {xs ys : List VV} {K : Bool -> Prop}, sQ P l xs ys K -> ∃ b, K b
  | [], _, _, _, h => ⟨_, h⟩
  | (t, o) :: r, xs, ys, K, h => by
    simp only [sQ] at h
    split at h
    case h_2 => exact h.elim
    unfold aDT at h
    split at h
    · split at h
      · obtain ⟨b, h⟩ := wF h; exact ⟨_, h⟩
      · exact h.elim
    · obtain ⟨b, h⟩ := wF h; exact ⟨_, h⟩
    · exact h.elim
theorem aBR {P:Program} {op:BinOp} {t:TypeId} {xs ys:List VV} {K:VV->Prop} (h:UV P op t xs ys K):∃ v,K v:=by
 unfold UV at h
 split at h
 case h_2=>exact h.elim
 split at h
 ·obtain ⟨b,h⟩:=wF h; exact ⟨_,h⟩
 ·obtain ⟨b,h⟩:=wF h; exact ⟨_,h⟩
 ·exact h.elim
theorem LM {op : Op} {t : List (Nat × VV)} {h : List VO} {K : VV -> List VO -> Prop} (hq : wJ op = true) (hv : cE G op t h K) : ∃ v h', K v h' := by
  cases op <;> try (cases hq; done)
  case move x => exact ⟨_, _, hv⟩
  case assign x => exact ⟨_, _, hv⟩
  case pick a b c => exact hv.elim
  case load ty x =>
    simp only [cE] at hv
    split at hv
    · split at hv
      · obtain ⟨v, h⟩ := GW hv; exact ⟨_, _, h⟩
      · exact hv.elim
    · split at hv
      · rcases LO hv with hv | ⟨_, _, _, _, _, _, _, _, _, _, _, _, hv⟩
        · obtain ⟨v, h⟩ := GW hv; exact ⟨_, _, h⟩
        · exact ⟨_, _, hv⟩
      · exact hv.elim
    · obtain ⟨v, h⟩ := GW hv; exact ⟨_, _, h⟩
    · obtain ⟨v, h⟩ := GW hv; exact ⟨_, _, h⟩
    · exact hv.elim
  case binOp op ty x y ty2 =>
    simp only [cE] at hv
    split at hv
    · split at hv
      · obtain ⟨v, h⟩ := aAW hv; exact ⟨_, _, h⟩
      · obtain ⟨v, h⟩ := aAW hv; exact ⟨_, _, h⟩
      · exact hv.elim
    · split at hv
      · split at hv
        · obtain ⟨v, h⟩ := WO hv; exact ⟨_, _, h⟩
        · split at hv
          · obtain ⟨v, h, _⟩ := SK hv; exact ⟨_, _, h⟩
          · obtain ⟨v, h⟩ := WO hv; exact ⟨_, _, h⟩
        · exact hv.elim
      · obtain ⟨v, h⟩ := aBR hv; exact ⟨_, _, h⟩
      · exact hv.elim
  case unOp op ty x =>
    simp only [cE] at hv
    split at hv
    · obtain ⟨v, h, _⟩ := Q8 hv; exact ⟨_, _, h⟩
    · exact hv.elim
  case convert s d x =>
    simp only [cE] at hv
    split at hv
    · exact ⟨_, _, hv⟩
    · exact ⟨_, _, hv⟩
    · exact ⟨_, _, hv⟩
    · obtain ⟨m, _, h⟩ := hv; exact ⟨_, _, h⟩
    · exact hv.elim
  case fieldAddr s x f =>
    simp only [cE] at hv
    split at hv
    · split at hv
      · split at hv
        · exact hv.elim
        · split at hv <;> first | exact ⟨_, _, hv⟩ | exact hv.elim
      · exact hv.elim
    · exact hv.elim
  case field s x f =>
    simp only [cE] at hv
    split at hv
    · split at hv
      · split at hv
        · exact hv.elim
        · exact ⟨_, _, hv⟩
      · split at hv
        · exact hv.elim
        · split at hv
          · exact ⟨_, _, hv⟩
          · exact hv.elim
      · exact hv.elim
    · exact hv.elim
  case extract x i =>
    simp only [cE] at hv
    split at hv
    · split at hv
      · exact ⟨_, _, hv⟩
      · exact hv.elim
    · exact hv.elim
  case call c =>
    simp only [cE] at hv
    split at hv
    · split at hv
      · split at hv
        · exact ⟨_, _, hv⟩
        · split at hv
          · exact ⟨_, _, hv⟩
          · exact hv.elim
        · obtain ⟨v, h⟩ := aES hv; exact ⟨_, _, h⟩
        · exact hv.elim
      · exact hv.elim
    · split at hv
      · obtain ⟨v, h⟩ := N9 hv; exact ⟨_, _, h⟩
      · exact hv.elim
    · split at hv
      · obtain ⟨v, h⟩ := N9 hv; exact ⟨_, _, h⟩
      · exact hv.elim
    · split at hv
      · split at hv
        · exact ⟨_, _, hv⟩
        · exact hv.elim
      · exact hv.elim
    · split at hv
      · exact ⟨_, _, hv⟩
      · exact hv.elim
    · split at hv
      · exact ⟨_, _, hv⟩
      · exact hv.elim
    · rename_i hc; simp [wJ, hc] at hq
    · exact hv.elim
end
end Go.Mach
namespace Go.Mach
set_option linter.unusedVariables false
set_option linter.unusedSimpArgs false
theorem O6 {a b:Option (Nat×Bool)} (h:GH a b=true):a=b:=by
 unfold GH at h
 split at h
 ·rfl
 ·simp only [Bool.and_eq_true,beq_iff_eq] at h; rw [h.1,h.2]
 ·cases h
theorem PY (g : Option (Nat × Bool)) : ∀ l, l = (ES g l).1 ++ (ES g l).2
  | [] => rfl
  | o :: l => by
    unfold ES
    split
    · rfl
    · show o :: l = o :: ((ES g l).1 ++ (ES g l).2)
      rw [<- PY g l]
theorem SS (g : Option (Nat × Bool)) : ∀ {l a r b}, ES g l = (a, r :: b) -> GH r.guard g = true
  | [], a, r, b, h => by cases h
  | o :: l, a, r, b, h => by
    unfold ES at h
    split at h
    · rename_i e; cases h; exact e
    · cases h' : ES g l with
      | mk x y =>
        rw [h'] at h
        simp only at h
        cases y with
        | nil => cases h
        | cons z w => cases h; exact SS g h'
theorem TO (o:Oper) (l:List Oper):m5 (o::l)=match o.dst with
  | some d=>d::m5 l
  | none=>m5 l:=rfl
theorem VD : ∀ (a b : List Oper), m5 (a ++ b) = m5 a ++ m5 b
  | [], b => rfl
  | o :: a, b => by
    rw [List.cons_append, TO, TO o a, VD a b]
    cases o.dst <;> rfl
theorem fF (o : Oper) (l : List Oper) : ∀ d, d ∈ m5 (o :: l) ↔ o.dst = some d \/ d ∈ m5 l := by
  intro d
  rw [TO]
  cases h : o.dst with
  | none => simp
  | some x =>
    simp only [List.mem_cons, Option.some.injEq]
    constructor
    · rintro (h | h)
      · exact .inl h.symm
      · exact .inr h
    · rintro (h | h)
      · exact .inl h.symm
      · exact .inr h
theorem sP (n : Nat) (t2 : List (Nat × VV)) : ∀ (l : List Oper) (t : List (Nat × VV)) (d : Nat), (d ∈ m5 l -> cD (qM n l t2 t) d = JA n (cD t2 d)) /\ (d ∉ m5 l -> cD (qM n l t2 t) d = cD t d)
  | [], t, d => ⟨fun h => (by cases h), fun _ => rfl⟩
  | o :: l, t, d => by
    have ih := sP n t2 l t d
    constructor
    · intro h
      unfold qM
      cases e : o.dst with
      | none => exact ih.1 (by rcases (fF o l d).1 h with h | h; · rw [e] at h; cases h
                               · exact h)
      | some x =>
        show (if x = d then JA n (cD t2 x) else cD (qM n l t2 t) d) = _
        split
        · rename_i hx; rw [hx]
        · rename_i hx
          exact ih.1 (by rcases (fF o l d).1 h with h | h
                         · rw [e] at h; exact absurd (Option.some.inj h) hx
                         · exact h)
    · intro h
      have h1 : d ∉ m5 l := fun hm => h ((fF o l d).2 (.inr hm))
      unfold qM
      cases e : o.dst with
      | none => exact ih.2 h1
      | some x =>
        show (if x = d then JA n (cD t2 x) else cD (qM n l t2 t) d) = _
        rw [if_neg (fun hx => h ((fF o l d).2 (.inl (by rw [e, hx]))))]
        exact ih.2 h1
theorem sN : ∀ (l : List Oper) (t : List (Nat × VV)) (d : Nat), (d ∈ m5 l -> cD (rV l t) d = .undef) /\ (d ∉ m5 l -> cD (rV l t) d = cD t d)
  | [], t, d => ⟨fun h => (by cases h), fun _ => rfl⟩
  | o :: l, t, d => by
    have ih := sN l t d
    constructor
    · intro h
      unfold rV
      cases e : o.dst with
      | none => exact ih.1 (by rcases (fF o l d).1 h with h | h; · rw [e] at h; cases h
                               · exact h)
      | some x =>
        show (if x = d then VV.undef else cD (rV l t) d) = _
        split
        · rfl
        · rename_i hx
          exact ih.1 (by rcases (fF o l d).1 h with h | h
                         · rw [e] at h; exact absurd (Option.some.inj h) hx
                         · exact h)
    · intro h
      have h1 : d ∉ m5 l := fun hm => h ((fF o l d).2 (.inr hm))
      unfold rV
      cases e : o.dst with
      | none => exact ih.2 h1
      | some x =>
        show (if x = d then VV.undef else cD (rV l t) d) = _
        rw [if_neg (fun hx => h ((fF o l d).2 (.inl (by rw [e, hx]))))]
        exact ih.2 h1
section
variable {G:Cfg}
theorem WD {o : Oper} {s : VS} {k : VS -> Prop} (hq : wJ o.op = true) (h : E8 G o s k) : ∃ s', k s' := by
  unfold E8 at h
  cases hop : o.op with
  | call c =>
    rw [hop] at hq h
    simp only at h
    cases hc : c.callee with
    | value f => simp [wJ, hc] at hq
    | builtin b => rw [hc] at h; simp only at h; obtain ⟨_, _, h⟩ := LM hq h; exact ⟨_, h⟩
    | invoke r m => simp [wJ, hc] at hq
  | _ => rw [hop] at hq h; simp only at h; obtain ⟨_, _, h⟩ := LM hq h; exact ⟨_, h⟩
theorem YU {ops : Array Oper} : ∀ (n : Nat) (g : Option (Nat × Bool)) (l : List Oper) (s : VS) (k : VS -> Prop), (∀ o ∈ l, wJ o.op = true) -> u6 G ops n g l s k -> ∃ s', k s' := by
  intro n
  induction n with
  | zero => intro g l s k _ h; exact h.elim
  | succ n ih =>
    intro g l s k hq h
    cases l with
    | nil => exact ⟨s, h⟩
    | cons o rest =>
      unfold u6 at h
      split at h
      · obtain ⟨s', h⟩ := WD (hq o List.mem_cons_self) h
        exact ih g rest s' k (fun x hx => hq x (List.mem_cons_of_mem _ hx)) h
      · split at h
        · rename_i body res rest' j w hsp hg
          have hl : o :: rest = body ++ res :: rest' := by
            have := PY g (o :: rest)
            rw [hsp] at this; exact this
          split at h
          · split at h
            · split at h
              · obtain ⟨s2, h⟩ := ih _ body s _ (fun x hx => hq x (by rw [hl]; exact List.mem_append_left _ hx)) h
                unfold GE at h
                split at h
                · exact ih g rest' _ k (fun x hx => hq x (by rw [hl]; exact List.mem_append_right _ (List.mem_cons_of_mem _ hx))) h
                · exact h.elim
              · rename_i hall
                rw [List.all_eq_false] at hall
                obtain ⟨x, hx, hxt⟩ := hall
                exact absurd (hq x (by rw [hl]; exact List.mem_append_left _ hx)) hxt
            · exact h.elim
          · exact h.elim
        · exact h.elim
end
end Go.Mach
