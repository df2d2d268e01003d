/- Part of the proof. No condition. -/
import Derived.Test.YtcfpfefadlnmcaaGreatYVCall
namespace Go.Mach
set_option linter.unusedVariables false
set_option linter.unusedSimpArgs false
def tT:List Oper->List Nat
 | []=>[]
 | o::l=>match o.dst with
   | some d=>d::tT l
   | none=>tT l
theorem aH6 {s:VS}{h:List VO}{o:Option Nat}{v:VV}:(VS.set ⟨s.t,h⟩ o v).h=h:=by cases o <;> rfl
theorem aFK {op:BinOp}{a b:Value}{K:Value->Prop}(h:aJX op a b K):∃ v,K v:=let ⟨v,h,_⟩:=S6 h;⟨v,h⟩
section
variable {G:Cfg}
theorem UN {at_:ATy}{cs:List VV}{off:Nat}{K:VV->Prop}(h:I8 at_ cs off K):∃ v,K v:=by
 unfold I8 at h
 split at h
 ·split at h
  ·exact⟨_,h⟩
  ·exact h.elim
 ·split at h
  ·exact⟨_,h⟩
  ·exact h.elim
 ·exact h.elim
 ·split at h
  ·split at h
   ·exact⟨_,h⟩
   ·exact h.elim
  ·exact h.elim
theorem aHf {u:Option TypeDesc}{q:Bool}{h:List VO}{v w:VV}{K:Bool->Prop}(k:aIz u q h v w K):∃ b,K b:=by
 unfold aIz at k
 split at k <;> first
  | exact k.elim
  | exact⟨_,k⟩
  | exact⟨_,k.2⟩
  | (split at k
     ·exact⟨_,k.2⟩
     ·exact k.elim)
  | (split at k
     ·exact⟨_,k⟩
     ·exact k.elim)
theorem aLs {h:List VO}{v:VV}{K:Nat->Prop}(k:aJV h v K):∃ b,K b:=by
 unfold aJV at k
 split at k <;> first
  | exact k.elim
  | exact⟨_,k⟩
  | (split at k
     ·exact⟨_,k⟩
     ·exact k.elim)
theorem Y1 {f:Int->Int->Int}{k:IntKind}:∀ {l:List VV} {x:Int} {K:Int->Prop},aAq f k x l K->∃ m,K m
 | [],x,K,h=>⟨_,h⟩
 | v::l,x,K,h=>by
   unfold aAq at h
   split at h <;> rename_i e <;> cases e
   ·split at h
    ·exact Y1 h
    ·exact h.elim
   ·exact h.elim
theorem GF {P:Program}:∀ {l:List (TypeId×Nat)} {xs ys:List VV} {K:Bool->Prop},BH P l xs ys K->∃ b,K b
 | [],_,_,_,h=>⟨_,h⟩
 | (t,o)::r,xs,ys,K,h=>by
   simp only[BH]at h
   split at h
   case h_2=>exact h.elim
   unfold aJ0 at h
   split at h
   ·split at h
    ·obtain⟨b,h⟩:=GF h;exact⟨_,h⟩
    ·exact h.elim
   ·obtain⟨b,h⟩:=GF h;exact⟨_,h⟩
   ·exact h.elim
theorem aI6 {P:Program}{op:BinOp}{t:TypeId}{xs ys:List VV}{K:VV->Prop}(h:aD6 P op t xs ys K):∃ v,K v:=by
 unfold aD6 at h
 split at h
 case h_2=>exact h.elim
 split at h
 ·obtain⟨b,h⟩:=GF h;exact⟨_,h⟩
 ·obtain⟨b,h⟩:=GF h;exact⟨_,h⟩
 ·exact h.elim
theorem WY {op:Op}{t:List (Nat×VV)}{h:List VO}{K:VV->List VO->Prop}(hq:F9 op=true)(hv:d6 G op t h K):∃ v h',K v h':=by
 cases op <;> try (cases hq;done)
 case move x=>exact⟨_,_,hv⟩
 case assign x=>exact⟨_,_,hv⟩
 case pick a b c=>exact hv.elim
 case load ty x =>
  simp only[d6]at hv
  split at hv
  ·split at hv
   ·obtain⟨v,h⟩:=UN hv;exact⟨_,_,h⟩
   ·exact hv.elim
  ·split at hv
   ·rcases WS hv with hv|⟨_,_,_,_,_,_,_,_,_,_,_,_,hv⟩
    ·obtain⟨v,h⟩:=UN hv;exact⟨_,_,h⟩
    ·exact⟨_,_,hv⟩
   ·exact hv.elim
  ·obtain⟨v,h⟩:=UN hv;exact⟨_,_,h⟩
  ·obtain⟨v,h⟩:=UN hv;exact⟨_,_,h⟩
  ·exact hv.elim
 case binOp op ty x y ty2 =>
  simp only[d6]at hv
  split at hv
  ·split at hv
   ·obtain⟨v,h⟩:=aHf hv;exact⟨_,_,h⟩
   ·obtain⟨v,h⟩:=aHf hv;exact⟨_,_,h⟩
   ·exact hv.elim
  ·split at hv
   ·split at hv
    ·obtain⟨v,h⟩:=aFK hv;exact⟨_,_,h⟩
    ·split at hv
     ·obtain⟨v,h,_⟩:=aCq hv;exact⟨_,_,h⟩
     ·obtain⟨v,h⟩:=aFK hv;exact⟨_,_,h⟩
    ·exact hv.elim
   ·obtain⟨v,h⟩:=aI6 hv;exact⟨_,_,h⟩
   ·exact hv.elim
 case unOp op ty x =>
  simp only[d6]at hv
  split at hv
  ·obtain⟨v,h,_⟩:=aCT hv;exact⟨_,_,h⟩
  ·exact hv.elim
 case convert s d x =>
  simp only[d6]at hv
  split at hv
  ·exact⟨_,_,hv⟩
  ·exact⟨_,_,hv⟩
  ·exact⟨_,_,hv⟩
  ·obtain⟨m,_,h⟩:=hv;exact⟨_,_,h⟩
  ·exact hv.elim
 case fieldAddr s x f =>
  simp only[d6]at hv
  split at hv
  ·split at hv
   ·split at hv
    ·exact hv.elim
    ·split at hv <;> first|exact⟨_,_,hv⟩|exact hv.elim
   ·exact hv.elim
  ·exact hv.elim
 case field s x f =>
  simp only[d6]at hv
  split at hv
  ·split at hv
   ·split at hv
    ·exact hv.elim
    ·exact⟨_,_,hv⟩
   ·split at hv
    ·exact hv.elim
    ·split at hv
     ·exact⟨_,_,hv⟩
     ·exact hv.elim
   ·exact hv.elim
  ·exact hv.elim
 case extract x i =>
  simp only[d6]at hv
  split at hv
  ·split at hv
   ·exact⟨_,_,hv⟩
   ·exact hv.elim
  ·exact hv.elim
 case call c =>
  simp only[d6]at hv
  split at hv
  ·split at hv
   ·split at hv
    ·exact⟨_,_,hv⟩
    ·split at hv
     ·exact⟨_,_,hv⟩
     ·exact hv.elim
    ·obtain⟨v,h⟩:=aLs hv;exact⟨_,_,h⟩
    ·exact hv.elim
   ·exact hv.elim
  ·split at hv
   ·obtain⟨v,h⟩:=Y1 hv;exact⟨_,_,h⟩
   ·exact hv.elim
  ·split at hv
   ·obtain⟨v,h⟩:=Y1 hv;exact⟨_,_,h⟩
   ·exact hv.elim
  ·split at hv
   ·split at hv
    ·exact⟨_,_,hv⟩
    ·exact hv.elim
   ·exact hv.elim
  ·split at hv
   ·exact⟨_,_,hv⟩
   ·exact hv.elim
  ·split at hv
   ·exact⟨_,_,hv⟩
   ·exact hv.elim
  ·rename_i hc;simp[F9,hc]at hq
  ·exact hv.elim
end
end Go.Mach
namespace Go.Mach
set_option linter.unusedVariables false
set_option linter.unusedSimpArgs false
theorem aAl {a b:Option (Nat×Bool)}(h:UY a b=true):a=b:=by
 unfold UY at h
 split at h
 ·rfl
 ·simp only[aI,dS]at h;rw[h.1,h.2]
 ·cases h
theorem Z9 (g:Option (Nat×Bool)):∀ l,l=(Q8 g l).1++(Q8 g l).2
 | []=>rfl
 | o::l=>by
   unfold Q8
   split
   ·rfl
   ·show o::l=o::((Q8 g l).1++(Q8 g l).2)
    rw[<- Z9 g l]
theorem aCQ (g:Option (Nat×Bool)):∀ {l a r b},Q8 g l=(a,r::b)->UY r.guard g=true
 | [],a,r,b,h=>by cases h
 | o::l,a,r,b,h=>by
   unfold Q8 at h
   split at h
   ·rename_i e;cases h;exact e
   ·cases h':Q8 g l with
    | mk x y =>
      rw[h']at h
      simp only at h
      cases y with
      | nil=>cases h
      | cons z w=>cases h;exact aCQ g h'
theorem aD7 (o:Oper)(l:List Oper):tT (o::l)=match o.dst with
 | some d=>d::tT l
 | none=>tT l:=rfl
theorem aFP:∀ (a b:List Oper),tT (a++b)=tT a++tT b
 | [],b=>rfl
 | o::a,b=>by
   rw[List.cons_append,aD7,aD7 o a,aFP a b]
   cases o.dst <;> rfl
theorem jK (o:Oper)(l:List Oper):∀ d,d∈tT (o::l) ↔ o.dst=some d\/d∈tT l:=by
 intro d
 rw[aD7]
 cases h:o.dst with
 | none=>simp
 | some x =>
   simp only[SI,iJ]
   constructor
   ·rintro(h|h)
    ·exact .inl h.symm
    ·exact .inr h
   ·rintro(h|h)
    ·exact .inl h.symm
    ·exact .inr h
theorem BR (n:Nat)(t2:List (Nat×VV)):∀ (l:List Oper) (t:List (Nat×VV)) (d:Nat),(d∈tT l->eH (zB n l t2 t) d=VI n (eH t2 d))/\(d∉tT l->eH (zB n l t2 t) d=eH t d)
 | [],t,d=>⟨fun h=>(by cases h),fun _=>rfl⟩
 | o::l,t,d=>by
   have ih:=BR n t2 l t d
   constructor
   ·intro h
    unfold zB
    cases e:o.dst with
    | none=>exact ih.1 (by rcases(jK o l d).1 h with h|h;· rw[e]at h;cases h
                           ·exact h)
    | some x =>
      show(if x=d then VI n (eH t2 x)else eH (zB n l t2 t) d)=_
      split
      ·rename_i hx;rw[hx]
      ·rename_i hx
       exact ih.1 (by rcases(jK o l d).1 h with h|h
                      ·rw[e]at h;exact absurd (pS h) hx
                      ·exact h)
   ·intro h
    have h1:d∉tT l:=fun hm=>h ((jK o l d).2 (.inr hm))
    unfold zB
    cases e:o.dst with
    | none=>exact ih.2 h1
    | some x =>
      show(if x=d then VI n (eH t2 x)else eH (zB n l t2 t) d)=_
      rw[aA (fun hx=>h ((jK o l d).2 (.inl (by rw[e,hx]))))]
      exact ih.2 h1
theorem BU:∀ (l:List Oper) (t:List (Nat×VV)) (d:Nat),(d∈tT l->eH (AK l t) d = .undef)/\(d∉tT l->eH (AK l t) d=eH t d)
 | [],t,d=>⟨fun h=>(by cases h),fun _=>rfl⟩
 | o::l,t,d=>by
   have ih:=BU l t d
   constructor
   ·intro h
    unfold AK
    cases e:o.dst with
    | none=>exact ih.1 (by rcases(jK o l d).1 h with h|h;· rw[e]at h;cases h
                           ·exact h)
    | some x =>
      show(if x=d then VV.undef else eH (AK l t) d)=_
      split
      ·rfl
      ·rename_i hx
       exact ih.1 (by rcases(jK o l d).1 h with h|h
                      ·rw[e]at h;exact absurd (pS h) hx
                      ·exact h)
   ·intro h
    have h1:d∉tT l:=fun hm=>h ((jK o l d).2 (.inr hm))
    unfold AK
    cases e:o.dst with
    | none=>exact ih.2 h1
    | some x =>
      show(if x=d then VV.undef else eH (AK l t) d)=_
      rw[aA (fun hx=>h ((jK o l d).2 (.inl (by rw[e,hx]))))]
      exact ih.2 h1
section
variable {G:Cfg}
theorem aFO {o:Oper}{s:VS}{k:VS->Prop}(hq:F9 o.op=true)(h:RQ G o s k):∃ s',k s':=by
 unfold RQ at h
 cases hop:o.op with
 | call c =>
   rw[hop]at hq h
   simp only at h
   cases hc:c.callee with
   | value f=>simp[F9,hc]at hq
   | builtin b=>rw[hc]at h;simp only at h;obtain⟨_,_,h⟩:=WY hq h;exact⟨_,h⟩
   | invoke r m=>simp[F9,hc]at hq
 | _=>rw[hop]at hq h;simp only at h;obtain⟨_,_,h⟩:=WY hq h;exact⟨_,h⟩
theorem aG0 {ops:Array Oper}:∀ (n:Nat) (g:Option (Nat×Bool)) (l:List Oper) (s:VS) (k:VS->Prop),(∀ o∈l,F9 o.op=true)->D5 G ops n g l s k->∃ s',k s':=by
 intro n
 induction n with
 | zero=>intro g l s k _ h;exact h.elim
 | succ n ih =>
   intro g l s k hq h
   cases l with
   | nil=>exact⟨s,h⟩
   | cons o rest =>
     unfold D5 at h
     split at h
     ·obtain⟨s',h⟩:=aFO (hq o jO) h
      exact ih g rest s' k (fun x hx=>hq x (lY _ hx)) h
     ·split at h
      ·rename_i body res rest' j w hsp hg
       have hl:o::rest=body++res::rest':=by
        have:=Z9 g (o::rest)
        rw[hsp]at this;exact this
       split at h
       ·split at h
        ·split at h
         ·obtain⟨s2,h⟩:=ih _ body s _ (fun x hx=>hq x (by rw[hl];exact CQ _ hx)) h
          unfold RU at h
          split at h
          ·exact ih g rest' _ k (fun x hx=>hq x (by rw[hl];exact sT _ (lY _ hx))) h
          ·exact h.elim
         ·rename_i hall
          rw[VY]at hall
          obtain⟨x,hx,hxt⟩:=hall
          exact absurd (hq x (by rw[hl];exact CQ _ hx)) hxt
        ·exact h.elim
       ·exact h.elim
      ·exact h.elim
end
end Go.Mach
