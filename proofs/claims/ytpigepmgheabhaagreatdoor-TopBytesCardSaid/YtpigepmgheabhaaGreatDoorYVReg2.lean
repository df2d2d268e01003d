/- Part of the proof. No condition. -/
import Derived.Test.YtpigepmgheabhaaGreatDoorYVCall
namespace Go.Mach
set_option linter.unusedVariables false
set_option linter.unusedSimpArgs false
def jL:List Oper->List Nat
 | []=>[]
 | o::l=>match o.dst with
   | some d=>d::jL l
   | none=>jL l
theorem NE {s:VS}{h:List VO}{o:Option Nat}{v:VV}:(VS.set ⟨s.t,h⟩ o v).h=h:=by cases o <;> rfl
theorem SF {op:BinOp}{a b:Value}{K:Value->Prop}(h:aA6 op a b K):∃ v,K v:=let ⟨v,h,_⟩:=z7 h;⟨v,h⟩
section
variable {G:Cfg}
theorem BN {at_:ATy}{cs:List VV}{off:Nat}{K:VV->Prop}(h:tR at_ cs off K):∃ v,K v:=by
 unfold tR at h
 grind
theorem XD {u:Option TypeDesc}{q:Bool}{h:List VO}{v w:VV}{K:Bool->Prop}(k:ZP u q h v w K):∃ b,K b:=by
 unfold ZP at k
 split at k <;> first
  | exact k.elim
  | exact⟨_,k⟩
  | exact⟨_,k.2⟩
  | (split at k
     ·exact⟨_,k.2⟩
     ·exact k.elim)
  | (split at k
     ·exact⟨_,k⟩
     ·exact k.elim)
theorem aDG {h:List VO}{v:VV}{K:Nat->Prop}(k:aAi h v K):∃ b,K b:=by
 unfold aAi at k
 grind
theorem I1 {f:Int->Int->Int}{k:IntKind}:∀ {l:List VV} {x:Int} {K:Int->Prop},LW f k x l K->∃ m,K m
 | [],x,K,h=>⟨_,h⟩
 | v::l,x,K,h=>by
   unfold LW at h
   split at h <;> rename_i e <;> cases e
   ·split at h
    ·exact I1 h
    ·exact h.elim
   ·exact h.elim
theorem sM {P:Program}:∀ {l:List (TypeId×Nat)} {xs ys:List VV} {K:Bool->Prop},oU P l xs ys K->∃ b,K b
 | [],_,_,_,h=>⟨_,h⟩
 | (t,o)::r,xs,ys,K,h=>by
   simp only[oU]at h
   split at h
   case h_2=>exact h.elim
   unfold aCa at h
   split at h
   ·split at h
    ·obtain⟨b,h⟩:=sM h;exact⟨_,h⟩
    ·exact h.elim
   ·obtain⟨b,h⟩:=sM h;exact⟨_,h⟩
   ·exact h.elim
theorem Z9 {P:Program}{op:BinOp}{t:TypeId}{xs ys:List VV}{K:VV->Prop}(h:O7 P op t xs ys K):∃ v,K v:=by
 unfold O7 at h
 split at h
 case h_2=>exact h.elim
 split at h
 ·obtain⟨b,h⟩:=sM h;exact⟨_,h⟩
 ·obtain⟨b,h⟩:=sM h;exact⟨_,h⟩
 ·exact h.elim
theorem ZQ {P:Program}{s d:Option TypeDesc}{v:VV}{h:List VO}{K:VV->List VO->Prop}(hv:HO P s d v h K):∃ v h',K v h':=by
 unfold HO at hv
 split at hv
 ·unfold V9 at hv
  split at hv
  ·exact⟨_,_,hv.2⟩
  ·exact hv.elim
 ·unfold VJ at hv
  split at hv
  ·unfold UQ at hv
   split at hv
   ·exact⟨_,_,hv⟩
   ·unfold T9 at hv
    split at hv
    ·exact⟨_,_,hv⟩
    ·exact hv.elim
   ·exact⟨_,_,hv⟩
   ·exact hv.elim
  ·exact hv.elim
 ·exact hv.elim
theorem F3 {op:Op}{t:List (Nat×VV)}{h:List VO}{K:VV->List VO->Prop}(hq:rZ op=true)(hv:b9 G op t h K):∃ v h',K v h':=by
 cases op <;> try (cases hq;done)
 case move x=>exact⟨_,_,hv⟩
 case assign x=>exact⟨_,_,hv⟩
 case pick a b c=>exact hv.elim
 case load ty x =>
  simp only[b9]at hv
  split at hv
  ·split at hv
   ·obtain⟨v,h⟩:=BN hv;exact⟨_,_,h⟩
   ·exact hv.elim
  ·split at hv
   ·rcases FH hv with hv|⟨_,_,_,_,_,_,_,_,_,_,_,_,hv⟩
    ·obtain⟨v,h⟩:=BN hv;exact⟨_,_,h⟩
    ·exact⟨_,_,hv⟩
   ·exact hv.elim
  ·obtain⟨v,h⟩:=BN hv;exact⟨_,_,h⟩
  ·obtain⟨v,h⟩:=BN hv;exact⟨_,_,h⟩
  ·exact hv.elim
 case binOp op ty x y ty2 =>
  simp only[b9]at hv
  split at hv
  ·split at hv
   ·obtain⟨v,h⟩:=XD hv;exact⟨_,_,h⟩
   ·obtain⟨v,h⟩:=XD hv;exact⟨_,_,h⟩
   ·exact hv.elim
  ·split at hv
   ·split at hv
    ·obtain⟨v,h⟩:=SF hv;exact⟨_,_,h⟩
    ·split at hv
     ·obtain⟨v,h,_⟩:=M6 hv;exact⟨_,_,h⟩
     ·obtain⟨v,h⟩:=SF hv;exact⟨_,_,h⟩
    ·exact hv.elim
   ·obtain⟨v,h⟩:=Z9 hv;exact⟨_,_,h⟩
   ·exact hv.elim
 case unOp op ty x =>
  simp only[b9]at hv
  split at hv
  ·obtain⟨v,h,_⟩:=NH hv;exact⟨_,_,h⟩
  ·exact hv.elim
 case convert s d x =>
  simp only[b9]at hv
  split at hv
  ·exact⟨_,_,hv⟩
  ·exact⟨_,_,hv⟩
  ·exact⟨_,_,hv⟩
  ·obtain⟨m,_,h⟩:=hv;exact⟨_,_,h⟩
  ·split at hv
   ·unfold PO at hv
    split at hv
    case h_2=>exact hv.elim
    split at hv
    case h_2=>exact hv.elim
    split at hv
    case h_2=>exact hv.elim
    split at hv
    case h_2=>exact hv.elim
    exact⟨_,_,hv.2⟩
   ·exact ZQ hv
 case fieldAddr s x f =>
  simp only[b9]at hv
  split at hv
  ·split at hv
   ·split at hv
    ·exact hv.elim
    ·split at hv <;> first|exact⟨_,_,hv⟩|exact hv.elim
   ·exact hv.elim
  ·exact hv.elim
 case field s x f =>
  simp only[b9]at hv
  split at hv
  ·split at hv
   ·split at hv
    ·exact hv.elim
    ·exact⟨_,_,hv⟩
   ·split at hv
    ·exact hv.elim
    ·split at hv
     ·exact⟨_,_,hv⟩
     ·exact hv.elim
   ·exact hv.elim
  ·exact hv.elim
 case extract x i =>
  simp only[b9]at hv
  split at hv
  ·split at hv
   ·exact⟨_,_,hv⟩
   ·exact hv.elim
  ·exact hv.elim
 case call c =>
  simp only[b9]at hv
  split at hv
  ·split at hv
   ·split at hv
    ·exact⟨_,_,hv⟩
    ·split at hv
     ·exact⟨_,_,hv⟩
     ·exact hv.elim
    ·obtain⟨v,h⟩:=aDG hv;exact⟨_,_,h⟩
    ·exact hv.elim
   ·exact hv.elim
  ·split at hv
   ·obtain⟨v,h⟩:=I1 hv;exact⟨_,_,h⟩
   ·exact hv.elim
  ·split at hv
   ·obtain⟨v,h⟩:=I1 hv;exact⟨_,_,h⟩
   ·exact hv.elim
  ·split at hv
   ·split at hv
    ·exact⟨_,_,hv⟩
    ·exact hv.elim
   ·exact hv.elim
  ·split at hv
   ·exact⟨_,_,hv⟩
   ·exact hv.elim
  ·split at hv
   ·exact⟨_,_,hv⟩
   ·exact hv.elim
  ·rename_i hc;simp[rZ,hc]at hq
  ·exact hv.elim
end
end Go.Mach
namespace Go.Mach
set_option linter.unusedVariables false
set_option linter.unusedSimpArgs false
theorem LA {a b:Option (Nat×Bool)}(h:DJ a b=true):a=b:=by
 unfold DJ at h
 grind
theorem KM (g:Option (Nat×Bool)):∀ l,l=(zD g l).1++(zD g l).2
 | []=>rfl
 | o::l=>by
   unfold zD
   split
   ·rfl
   ·show o::l=o::((zD g l).1++(zD g l).2)
    rw[<- KM g l]
theorem N7 (g:Option (Nat×Bool)):∀ {l a r b},zD g l=(a,r::b)->DJ r.guard g=true
 | [],a,r,b,h=>by cases h
 | o::l,a,r,b,h=>by
   unfold zD at h
   split at h
   ·rename_i e;cases h;exact e
   ·cases h':zD g l with
    | mk x y =>
      rw[h']at h
      simp only at h
      cases y with
      | nil=>cases h
      | cons z w=>cases h;exact N7 g h'
theorem PF (o:Oper)(l:List Oper):jL (o::l)=match o.dst with
 | some d=>d::jL l
 | none=>jL l:=rfl
theorem SY:∀ (a b:List Oper),jL (a++b)=jL a++jL b
 | [],b=>rfl
 | o::a,b=>by
   rw[List.cons_append,PF,PF o a,SY a b]
   cases o.dst <;> rfl
theorem eD (o:Oper)(l:List Oper):∀ d,d∈jL (o::l) ↔ o.dst=some d\/d∈jL l:=by
 intro d
 rw[PF]
 cases h:o.dst with
 | none=>simp
 | some x=>grind
theorem oP (n:Nat)(t2:List (Nat×VV)):∀ (l:List Oper) (t:List (Nat×VV)) (d:Nat),(d∈jL l->bQ (m9 n l t2 t) d=EZ n (bQ t2 d))/\(d∉jL l->bQ (m9 n l t2 t) d=bQ t d)
 | [],t,d=>⟨fun h=>(by cases h),fun _=>rfl⟩
 | o::l,t,d=>by
   have ih:=oP n t2 l t d
   constructor
   ·intro h
    unfold m9
    cases e:o.dst with
    | none=>exact ih.1 (by rcases(eD o l d).1 h with h|h;· rw[e]at h;cases h
                           ·exact h)
    | some x =>
      show(if x=d then EZ n (bQ t2 x)else bQ (m9 n l t2 t) d)=_
      split
      ·rename_i hx;rw[hx]
      ·rename_i hx
       exact ih.1 (by rcases(eD o l d).1 h with h|h
                      ·rw[e]at h;exact absurd (eR h) hx
                      ·exact h)
   ·intro h
    have h1:d∉jL l:=fun hm=>h ((eD o l d).2 (.inr hm))
    unfold m9
    cases e:o.dst with
    | none=>exact ih.2 h1
    | some x =>
      show(if x=d then EZ n (bQ t2 x)else bQ (m9 n l t2 t) d)=_
      rw[aC (fun hx=>h ((eD o l d).2 (.inl (by rw[e,hx]))))]
      exact ih.2 h1
theorem oR:∀ (l:List Oper) (t:List (Nat×VV)) (d:Nat),(d∈jL l->bQ (nX l t) d = .undef)/\(d∉jL l->bQ (nX l t) d=bQ t d)
 | [],t,d=>⟨fun h=>(by cases h),fun _=>rfl⟩
 | o::l,t,d=>by
   have ih:=oR l t d
   constructor
   ·intro h
    unfold nX
    cases e:o.dst with
    | none=>exact ih.1 (by rcases(eD o l d).1 h with h|h;· rw[e]at h;cases h
                           ·exact h)
    | some x =>
      show(if x=d then VV.undef else bQ (nX l t) d)=_
      split
      ·rfl
      ·rename_i hx
       exact ih.1 (by rcases(eD o l d).1 h with h|h
                      ·rw[e]at h;exact absurd (eR h) hx
                      ·exact h)
   ·intro h
    have h1:d∉jL l:=fun hm=>h ((eD o l d).2 (.inr hm))
    unfold nX
    cases e:o.dst with
    | none=>exact ih.2 h1
    | some x =>
      show(if x=d then VV.undef else bQ (nX l t) d)=_
      rw[aC (fun hx=>h ((eD o l d).2 (.inl (by rw[e,hx]))))]
      exact ih.2 h1
section
variable {G:Cfg}
theorem TM {o:Oper}{s:VS}{k:VS->Prop}(hq:rZ o.op=true)(h:vC G o s k):∃ s',k s':=by
 unfold vC at h
 cases hop:o.op with
 | call c =>
   rw[hop]at hq h
   simp only at h
   cases hc:c.callee with
   | value f=>simp[rZ,hc]at hq
   | builtin b=>rw[hc]at h;simp only at h;obtain⟨_,_,h⟩:=F3 hq h;exact⟨_,h⟩
   | invoke r m=>simp[rZ,hc]at hq
 | _=>rw[hop]at hq h;simp only at h;obtain⟨_,_,h⟩:=F3 hq h;exact⟨_,h⟩
theorem VL {ops:Array Oper}:∀ (n:Nat) (g:Option (Nat×Bool)) (l:List Oper) (s:VS) (k:VS->Prop),(∀ o∈l,rZ o.op=true)->qV G ops n g l s k->∃ s',k s':=by
 intro n
 induction n with
 | zero=>intro g l s k _ h;exact h.elim
 | succ n ih =>
   intro g l s k hq h
   cases l with
   | nil=>exact⟨s,h⟩
   | cons o rest =>
     unfold qV at h
     split at h
     ·obtain⟨s',h⟩:=TM (hq o cN) h
      grind
     ·split at h
      ·rename_i body res rest' j w hsp hg
       have hl:o::rest=body++res::rest':=by
        have:=KM g (o::rest)
        rw[hsp]at this;exact this
       split at h
       ·split at h
        ·split at h
         ·obtain⟨s2,h⟩:=ih _ body s _ (fun x hx=>hq x (by rw[hl];exact lU _ hx)) h
          unfold A0 at h
          grind
         ·grind
        ·exact h.elim
       ·exact h.elim
      ·exact h.elim
end
end Go.Mach
