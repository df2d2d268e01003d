/- Part of the proof. No condition. -/
import Derived.Test.YtcfpfefadlnmcaaGreatYVCall
namespace Go.Mach
set_option linter.unusedVariables false
set_option linter.unusedSimpArgs false
def nH:List Oper->List Nat
 | []=>[]
 | o::l=>match o.dst with
   | some d=>d::nH l
   | none=>nH l
theorem aBV {s:VS}{h:List VO}{o:Option Nat}{v:VV}:(VS.set ⟨s.t,h⟩ o v).h=h:=by cases o <;> rfl
theorem WX {op:BinOp}{a b:Value}{K:Value->Prop}(h:aD9 op a b K):∃ v,K v:=let ⟨v,h,_⟩:=GI h;⟨v,h⟩
section
variable {G:Cfg}
theorem IZ {at_:ATy}{cs:List VV}{off:Nat}{K:VV->Prop}(h:zJ at_ cs off K):∃ v,K v:=by
 unfold zJ at h
 split at h
 ·split at h
  ·exact⟨_,h⟩
  ·exact h.elim
 ·split at h
  ·exact⟨_,h⟩
  ·exact h.elim
 ·exact h.elim
 ·split at h
  ·split at h
   ·exact⟨_,h⟩
   ·exact h.elim
  ·exact h.elim
theorem aBF {u:Option TypeDesc}{q:Bool}{h:List VO}{v w:VV}{K:Bool->Prop}(k:aCW u q h v w K):∃ b,K b:=by
 unfold aCW at k
 split at k <;> first
  | exact k.elim
  | exact⟨_,k⟩
  | exact⟨_,k.2⟩
  | (split at k
     ·exact⟨_,k.2⟩
     ·exact k.elim)
  | (split at k
     ·exact⟨_,k⟩
     ·exact k.elim)
theorem aFV {h:List VO}{v:VV}{K:Nat->Prop}(k:aE1 h v K):∃ b,K b:=by
 unfold aE1 at k
 split at k <;> first
  | exact k.elim
  | exact⟨_,k⟩
  | (split at k
     ·exact⟨_,k⟩
     ·exact k.elim)
theorem Q2 {f:Int->Int->Int}{k:IntKind}:∀ {l:List VV} {x:Int} {K:Int->Prop},N5 f k x l K->∃ m,K m
 | [],x,K,h=>⟨_,h⟩
 | v::l,x,K,h=>by
   unfold N5 at h
   split at h <;> rename_i e <;> cases e
   ·split at h
    ·exact Q2 h
    ·exact h.elim
   ·exact h.elim
theorem wR {P:Program}:∀ {l:List (TypeId×Nat)} {xs ys:List VV} {K:Bool->Prop},sY P l xs ys K->∃ b,K b
 | [],_,_,_,h=>⟨_,h⟩
 | (t,o)::r,xs,ys,K,h=>by
   simp only[sY]at h
   split at h
   case h_2=>exact h.elim
   unfold aDa at h
   split at h
   ·split at h
    ·obtain⟨b,h⟩:=wR h;exact⟨_,h⟩
    ·exact h.elim
   ·obtain⟨b,h⟩:=wR h;exact⟨_,h⟩
   ·exact h.elim
theorem aCA {P:Program}{op:BinOp}{t:TypeId}{xs ys:List VV}{K:VV->Prop}(h:UN P op t xs ys K):∃ v,K v:=by
 unfold UN at h
 split at h
 case h_2=>exact h.elim
 split at h
 ·obtain⟨b,h⟩:=wR h;exact⟨_,h⟩
 ·obtain⟨b,h⟩:=wR h;exact⟨_,h⟩
 ·exact h.elim
theorem L6 {op:Op}{t:List (Nat×VV)}{h:List VO}{K:VV->List VO->Prop}(hq:xD op=true)(hv:cE G op t h K):∃ v h',K v h':=by
 cases op <;> try (cases hq;done)
 case move x=>exact⟨_,_,hv⟩
 case assign x=>exact⟨_,_,hv⟩
 case pick a b c=>exact hv.elim
 case load ty x =>
  simp only[cE]at hv
  split at hv
  ·split at hv
   ·obtain⟨v,h⟩:=IZ hv;exact⟨_,_,h⟩
   ·exact hv.elim
  ·split at hv
   ·rcases L4 hv with hv|⟨_,_,_,_,_,_,_,_,_,_,_,_,hv⟩
    ·obtain⟨v,h⟩:=IZ hv;exact⟨_,_,h⟩
    ·exact⟨_,_,hv⟩
   ·exact hv.elim
  ·obtain⟨v,h⟩:=IZ hv;exact⟨_,_,h⟩
  ·obtain⟨v,h⟩:=IZ hv;exact⟨_,_,h⟩
  ·exact hv.elim
 case binOp op ty x y ty2 =>
  simp only[cE]at hv
  split at hv
  ·split at hv
   ·obtain⟨v,h⟩:=aBF hv;exact⟨_,_,h⟩
   ·obtain⟨v,h⟩:=aBF hv;exact⟨_,_,h⟩
   ·exact hv.elim
  ·split at hv
   ·split at hv
    ·obtain⟨v,h⟩:=WX hv;exact⟨_,_,h⟩
    ·split at hv
     ·obtain⟨v,h,_⟩:=SS hv;exact⟨_,_,h⟩
     ·obtain⟨v,h⟩:=WX hv;exact⟨_,_,h⟩
    ·exact hv.elim
   ·obtain⟨v,h⟩:=aCA hv;exact⟨_,_,h⟩
   ·exact hv.elim
 case unOp op ty x =>
  simp only[cE]at hv
  split at hv
  ·obtain⟨v,h,_⟩:=S6 hv;exact⟨_,_,h⟩
  ·exact hv.elim
 case convert s d x =>
  simp only[cE]at hv
  split at hv
  ·exact⟨_,_,hv⟩
  ·exact⟨_,_,hv⟩
  ·exact⟨_,_,hv⟩
  ·obtain⟨m,_,h⟩:=hv;exact⟨_,_,h⟩
  ·exact hv.elim
 case fieldAddr s x f =>
  simp only[cE]at hv
  split at hv
  ·split at hv
   ·split at hv
    ·exact hv.elim
    ·split at hv <;> first|exact⟨_,_,hv⟩|exact hv.elim
   ·exact hv.elim
  ·exact hv.elim
 case field s x f =>
  simp only[cE]at hv
  split at hv
  ·split at hv
   ·split at hv
    ·exact hv.elim
    ·exact⟨_,_,hv⟩
   ·split at hv
    ·exact hv.elim
    ·split at hv
     ·exact⟨_,_,hv⟩
     ·exact hv.elim
   ·exact hv.elim
  ·exact hv.elim
 case extract x i =>
  simp only[cE]at hv
  split at hv
  ·split at hv
   ·exact⟨_,_,hv⟩
   ·exact hv.elim
  ·exact hv.elim
 case call c =>
  simp only[cE]at hv
  split at hv
  ·split at hv
   ·split at hv
    ·exact⟨_,_,hv⟩
    ·split at hv
     ·exact⟨_,_,hv⟩
     ·exact hv.elim
    ·obtain⟨v,h⟩:=aFV hv;exact⟨_,_,h⟩
    ·exact hv.elim
   ·exact hv.elim
  ·split at hv
   ·obtain⟨v,h⟩:=Q2 hv;exact⟨_,_,h⟩
   ·exact hv.elim
  ·split at hv
   ·obtain⟨v,h⟩:=Q2 hv;exact⟨_,_,h⟩
   ·exact hv.elim
  ·split at hv
   ·split at hv
    ·exact⟨_,_,hv⟩
    ·exact hv.elim
   ·exact hv.elim
  ·split at hv
   ·exact⟨_,_,hv⟩
   ·exact hv.elim
  ·split at hv
   ·exact⟨_,_,hv⟩
   ·exact hv.elim
  ·rename_i hc;simp[xD,hc]at hq
  ·exact hv.elim
end
end Go.Mach
namespace Go.Mach
set_option linter.unusedVariables false
set_option linter.unusedSimpArgs false
theorem O9 {a b:Option (Nat×Bool)}(h:HM a b=true):a=b:=by
 unfold HM at h
 split at h
 ·rfl
 ·simp only[Bool.and_eq_true,beq_iff_eq]at h;rw[h.1,h.2]
 ·cases h
theorem PW (g:Option (Nat×Bool)):∀ l,l=(FK g l).1++(FK g l).2
 | []=>rfl
 | o::l=>by
   unfold FK
   split
   ·rfl
   ·show o::l=o::((FK g l).1++(FK g l).2)
    rw[<- PW g l]
theorem TP (g:Option (Nat×Bool)):∀ {l a r b},FK g l=(a,r::b)->HM r.guard g=true
 | [],a,r,b,h=>by cases h
 | o::l,a,r,b,h=>by
   unfold FK at h
   split at h
   ·rename_i e;cases h;exact e
   ·cases h':FK g l with
    | mk x y =>
      rw[h']at h
      simp only at h
      cases y with
      | nil=>cases h
      | cons z w=>cases h;exact TP g h'
theorem U1 (o:Oper)(l:List Oper):nH (o::l)=match o.dst with
 | some d=>d::nH l
 | none=>nH l:=rfl
theorem X5:∀ (a b:List Oper),nH (a++b)=nH a++nH b
 | [],b=>rfl
 | o::a,b=>by
   rw[List.cons_append,U1,U1 o a,X5 a b]
   cases o.dst <;> rfl
theorem fM (o:Oper)(l:List Oper):∀ d,d∈nH (o::l) ↔ o.dst=some d\/d∈nH l:=by
 intro d
 rw[U1]
 cases h:o.dst with
 | none=>simp
 | some x =>
   simp only[List.mem_cons,Option.some.injEq]
   constructor
   ·rintro(h|h)
    ·exact .inl h.symm
    ·exact .inr h
   ·rintro(h|h)
    ·exact .inl h.symm
    ·exact .inr h
theorem tC (n:Nat)(t2:List (Nat×VV)):∀ (l:List Oper) (t:List (Nat×VV)) (d:Nat),(d∈nH l->cO (qU n l t2 t) d=LI n (cO t2 d))/\(d∉nH l->cO (qU n l t2 t) d=cO t d)
 | [],t,d=>⟨fun h=>(by cases h),fun _=>rfl⟩
 | o::l,t,d=>by
   have ih:=tC n t2 l t d
   constructor
   ·intro h
    unfold qU
    cases e:o.dst with
    | none=>exact ih.1 (by rcases(fM o l d).1 h with h|h;· rw[e]at h;cases h
                           ·exact h)
    | some x =>
      show(if x=d then LI n (cO t2 x)else cO (qU n l t2 t) d)=_
      split
      ·rename_i hx;rw[hx]
      ·rename_i hx
       exact ih.1 (by rcases(fM o l d).1 h with h|h
                      ·rw[e]at h;exact absurd (Option.some.inj h) hx
                      ·exact h)
   ·intro h
    have h1:d∉nH l:=fun hm=>h ((fM o l d).2 (.inr hm))
    unfold qU
    cases e:o.dst with
    | none=>exact ih.2 h1
    | some x =>
      show(if x=d then LI n (cO t2 x)else cO (qU n l t2 t) d)=_
      rw[if_neg (fun hx=>h ((fM o l d).2 (.inl (by rw[e,hx]))))]
      exact ih.2 h1
theorem tL:∀ (l:List Oper) (t:List (Nat×VV)) (d:Nat),(d∈nH l->cO (rT l t) d = .undef)/\(d∉nH l->cO (rT l t) d=cO t d)
 | [],t,d=>⟨fun h=>(by cases h),fun _=>rfl⟩
 | o::l,t,d=>by
   have ih:=tL l t d
   constructor
   ·intro h
    unfold rT
    cases e:o.dst with
    | none=>exact ih.1 (by rcases(fM o l d).1 h with h|h;· rw[e]at h;cases h
                           ·exact h)
    | some x =>
      show(if x=d then VV.undef else cO (rT l t) d)=_
      split
      ·rfl
      ·rename_i hx
       exact ih.1 (by rcases(fM o l d).1 h with h|h
                      ·rw[e]at h;exact absurd (Option.some.inj h) hx
                      ·exact h)
   ·intro h
    have h1:d∉nH l:=fun hm=>h ((fM o l d).2 (.inr hm))
    unfold rT
    cases e:o.dst with
    | none=>exact ih.2 h1
    | some x =>
      show(if x=d then VV.undef else cO (rT l t) d)=_
      rw[if_neg (fun hx=>h ((fM o l d).2 (.inl (by rw[e,hx]))))]
      exact ih.2 h1
section
variable {G:Cfg}
theorem WU {o:Oper}{s:VS}{k:VS->Prop}(hq:xD o.op=true)(h:FM G o s k):∃ s',k s':=by
 unfold FM at h
 cases hop:o.op with
 | call c =>
   rw[hop]at hq h
   simp only at h
   cases hc:c.callee with
   | value f=>simp[xD,hc]at hq
   | builtin b=>rw[hc]at h;simp only at h;obtain⟨_,_,h⟩:=L6 hq h;exact⟨_,h⟩
   | invoke r m=>simp[xD,hc]at hq
 | _=>rw[hop]at hq h;simp only at h;obtain⟨_,_,h⟩:=L6 hq h;exact⟨_,h⟩
theorem aAs {ops:Array Oper}:∀ (n:Nat) (g:Option (Nat×Bool)) (l:List Oper) (s:VS) (k:VS->Prop),(∀ o∈l,xD o.op=true)->vX G ops n g l s k->∃ s',k s':=by
 intro n
 induction n with
 | zero=>intro g l s k _ h;exact h.elim
 | succ n ih =>
   intro g l s k hq h
   cases l with
   | nil=>exact⟨s,h⟩
   | cons o rest =>
     unfold vX at h
     split at h
     ·obtain⟨s',h⟩:=WU (hq o List.mem_cons_self) h
      exact ih g rest s' k (fun x hx=>hq x (List.mem_cons_of_mem _ hx)) h
     ·split at h
      ·rename_i body res rest' j w hsp hg
       have hl:o::rest=body++res::rest':=by
        have:=PW g (o::rest)
        rw[hsp]at this;exact this
       split at h
       ·split at h
        ·split at h
         ·obtain⟨s2,h⟩:=ih _ body s _ (fun x hx=>hq x (by rw[hl];exact List.mem_append_left _ hx)) h
          unfold F6 at h
          split at h
          ·exact ih g rest' _ k (fun x hx=>hq x (by rw[hl];exact List.mem_append_right _ (List.mem_cons_of_mem _ hx))) h
          ·exact h.elim
         ·rename_i hall
          rw[List.all_eq_false]at hall
          obtain⟨x,hx,hxt⟩:=hall
          exact absurd (hq x (by rw[hl];exact List.mem_append_left _ hx)) hxt
        ·exact h.elim
       ·exact h.elim
      ·exact h.elim
end
end Go.Mach
