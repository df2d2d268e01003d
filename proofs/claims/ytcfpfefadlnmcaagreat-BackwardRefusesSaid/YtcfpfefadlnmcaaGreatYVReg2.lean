/- Part of the proof. No condition. -/
import Derived.Test.YtcfpfefadlnmcaaGreatYVCall
namespace Go.Mach
set_option linter.unusedVariables false
set_option linter.unusedSimpArgs false
def uB:List Oper->List Nat
 | []=>[]
 | o::l=>match o.dst with
   | some d=>d::uB l
   | none=>uB l
theorem aIK {s:VS}{h:List VO}{o:Option Nat}{v:VV}:(VS.set ⟨s.t,h⟩ o v).h=h:=by cases o <;> rfl
theorem aFZ {op:BinOp}{a b:Value}{K:Value->Prop}(h:aJx op a b K):∃ v,K v:=let ⟨v,h,_⟩:=R8 h;⟨v,h⟩
section
variable {G:Cfg}
theorem TN {at_:ATy}{cs:List VV}{off:Nat}{K:VV->Prop}(h:JO at_ cs off K):∃ v,K v:=by
 unfold JO at h
 split at h
 ·split at h
  ·exact⟨_,h⟩
  ·exact h.elim
 ·split at h
  ·exact⟨_,h⟩
  ·exact h.elim
 ·exact h.elim
 ·split at h
  ·split at h
   ·exact⟨_,h⟩
   ·exact h.elim
  ·exact h.elim
theorem aIA {u:Option TypeDesc}{q:Bool}{h:List VO}{v w:VV}{K:Bool->Prop}(k:aIe u q h v w K):∃ b,K b:=by
 unfold aIe at k
 split at k <;> first
  | exact k.elim
  | exact⟨_,k⟩
  | exact⟨_,k.2⟩
  | (split at k
     ·exact⟨_,k.2⟩
     ·exact k.elim)
  | (split at k
     ·exact⟨_,k⟩
     ·exact k.elim)
theorem aMV {h:List VO}{v:VV}{K:Nat->Prop}(k:aJW h v K):∃ b,K b:=by
 unfold aJW at k
 split at k <;> first
  | exact k.elim
  | exact⟨_,k⟩
  | (split at k
     ·exact⟨_,k⟩
     ·exact k.elim)
theorem ZR {f:Int->Int->Int}{k:IntKind}:∀ {l:List VV} {x:Int} {K:Int->Prop},aAh f k x l K->∃ m,K m
 | [],x,K,h=>⟨_,h⟩
 | v::l,x,K,h=>by
   unfold aAh at h
   split at h <;> rename_i e <;> cases e
   ·split at h
    ·exact ZR h
    ·exact h.elim
   ·exact h.elim
theorem GI {P:Program}:∀ {l:List (TypeId×Nat)} {xs ys:List VV} {K:Bool->Prop},BE P l xs ys K->∃ b,K b
 | [],_,_,_,h=>⟨_,h⟩
 | (t,o)::r,xs,ys,K,h=>by
   simp only[BE]at h
   split at h
   case h_2=>exact h.elim
   unfold aKR at h
   split at h
   ·split at h
    ·obtain⟨b,h⟩:=GI h;exact⟨_,h⟩
    ·exact h.elim
   ·obtain⟨b,h⟩:=GI h;exact⟨_,h⟩
   ·exact h.elim
theorem aIc {P:Program}{op:BinOp}{t:TypeId}{xs ys:List VV}{K:VV->Prop}(h:aEB P op t xs ys K):∃ v,K v:=by
 unfold aEB at h
 split at h
 case h_2=>exact h.elim
 split at h
 ·obtain⟨b,h⟩:=GI h;exact⟨_,h⟩
 ·obtain⟨b,h⟩:=GI h;exact⟨_,h⟩
 ·exact h.elim
theorem XG {op:Op}{t:List (Nat×VV)}{h:List VO}{K:VV->List VO->Prop}(hq:F9 op=true)(hv:dX G op t h K):∃ v h',K v h':=by
 cases op <;> try (cases hq;done)
 case move x=>exact⟨_,_,hv⟩
 case assign x=>exact⟨_,_,hv⟩
 case pick a b c=>exact hv.elim
 case load ty x =>
  simp only[dX]at hv
  split at hv
  ·split at hv
   ·obtain⟨v,h⟩:=TN hv;exact⟨_,_,h⟩
   ·exact hv.elim
  ·split at hv
   ·rcases XE hv with hv|⟨_,_,_,_,_,_,_,_,_,_,_,_,hv⟩
    ·obtain⟨v,h⟩:=TN hv;exact⟨_,_,h⟩
    ·exact⟨_,_,hv⟩
   ·exact hv.elim
  ·obtain⟨v,h⟩:=TN hv;exact⟨_,_,h⟩
  ·obtain⟨v,h⟩:=TN hv;exact⟨_,_,h⟩
  ·exact hv.elim
 case binOp op ty x y ty2 =>
  simp only[dX]at hv
  split at hv
  ·split at hv
   ·obtain⟨v,h⟩:=aIA hv;exact⟨_,_,h⟩
   ·obtain⟨v,h⟩:=aIA hv;exact⟨_,_,h⟩
   ·exact hv.elim
  ·split at hv
   ·split at hv
    ·obtain⟨v,h⟩:=aFZ hv;exact⟨_,_,h⟩
    ·split at hv
     ·obtain⟨v,h,_⟩:=aC6 hv;exact⟨_,_,h⟩
     ·obtain⟨v,h⟩:=aFZ hv;exact⟨_,_,h⟩
    ·exact hv.elim
   ·obtain⟨v,h⟩:=aIc hv;exact⟨_,_,h⟩
   ·exact hv.elim
 case unOp op ty x =>
  simp only[dX]at hv
  split at hv
  ·obtain⟨v,h,_⟩:=aCr hv;exact⟨_,_,h⟩
  ·exact hv.elim
 case convert s d x =>
  simp only[dX]at hv
  split at hv
  ·exact⟨_,_,hv⟩
  ·exact⟨_,_,hv⟩
  ·exact⟨_,_,hv⟩
  ·obtain⟨m,_,h⟩:=hv;exact⟨_,_,h⟩
  ·exact hv.elim
 case fieldAddr s x f =>
  simp only[dX]at hv
  split at hv
  ·split at hv
   ·split at hv
    ·exact hv.elim
    ·split at hv <;> first|exact⟨_,_,hv⟩|exact hv.elim
   ·exact hv.elim
  ·exact hv.elim
 case field s x f =>
  simp only[dX]at hv
  split at hv
  ·split at hv
   ·split at hv
    ·exact hv.elim
    ·exact⟨_,_,hv⟩
   ·split at hv
    ·exact hv.elim
    ·split at hv
     ·exact⟨_,_,hv⟩
     ·exact hv.elim
   ·exact hv.elim
  ·exact hv.elim
 case extract x i =>
  simp only[dX]at hv
  split at hv
  ·split at hv
   ·exact⟨_,_,hv⟩
   ·exact hv.elim
  ·exact hv.elim
 case call c =>
  simp only[dX]at hv
  split at hv
  ·split at hv
   ·split at hv
    ·exact⟨_,_,hv⟩
    ·split at hv
     ·exact⟨_,_,hv⟩
     ·exact hv.elim
    ·obtain⟨v,h⟩:=aMV hv;exact⟨_,_,h⟩
    ·exact hv.elim
   ·exact hv.elim
  ·split at hv
   ·obtain⟨v,h⟩:=ZR hv;exact⟨_,_,h⟩
   ·exact hv.elim
  ·split at hv
   ·obtain⟨v,h⟩:=ZR hv;exact⟨_,_,h⟩
   ·exact hv.elim
  ·split at hv
   ·split at hv
    ·exact⟨_,_,hv⟩
    ·exact hv.elim
   ·exact hv.elim
  ·split at hv
   ·exact⟨_,_,hv⟩
   ·exact hv.elim
  ·split at hv
   ·exact⟨_,_,hv⟩
   ·exact hv.elim
  ·rename_i hc;simp[F9,hc]at hq
  ·exact hv.elim
end
end Go.Mach
namespace Go.Mach
set_option linter.unusedVariables false
set_option linter.unusedSimpArgs false
theorem aBZ {a b:Option (Nat×Bool)}(h:T8 a b=true):a=b:=by
 unfold T8 at h
 split at h
 ·rfl
 ·simp only[aK,dR]at h;rw[h.1,h.2]
 ·cases h
theorem aBS (g:Option (Nat×Bool)):∀ l,l=(RS g l).1++(RS g l).2
 | []=>rfl
 | o::l=>by
   unfold RS
   split
   ·rfl
   ·show o::l=o::((RS g l).1++(RS g l).2)
    rw[<- aBS g l]
theorem aDE (g:Option (Nat×Bool)):∀ {l a r b},RS g l=(a,r::b)->T8 r.guard g=true
 | [],a,r,b,h=>by cases h
 | o::l,a,r,b,h=>by
   unfold RS at h
   split at h
   ·rename_i e;cases h;exact e
   ·cases h':RS g l with
    | mk x y =>
      rw[h']at h
      simp only at h
      cases y with
      | nil=>cases h
      | cons z w=>cases h;exact aDE g h'
theorem aD9 (o:Oper)(l:List Oper):uB (o::l)=match o.dst with
 | some d=>d::uB l
 | none=>uB l:=rfl
theorem aF8:∀ (a b:List Oper),uB (a++b)=uB a++uB b
 | [],b=>rfl
 | o::a,b=>by
   rw[List.cons_append,aD9,aD9 o a,aF8 a b]
   cases o.dst <;> rfl
theorem jY (o:Oper)(l:List Oper):∀ d,d∈uB (o::l) ↔ o.dst=some d\/d∈uB l:=by
 intro d
 rw[aD9]
 cases h:o.dst with
 | none=>simp
 | some x =>
   simp only[S9,iU]
   constructor
   ·rintro(h|h)
    ·exact .inl h.symm
    ·exact .inr h
   ·rintro(h|h)
    ·exact .inl h.symm
    ·exact .inr h
theorem BS (n:Nat)(t2:List (Nat×VV)):∀ (l:List Oper) (t:List (Nat×VV)) (d:Nat),(d∈uB l->eG (zT n l t2 t) d=U7 n (eG t2 d))/\(d∉uB l->eG (zT n l t2 t) d=eG t d)
 | [],t,d=>⟨fun h=>(by cases h),fun _=>rfl⟩
 | o::l,t,d=>by
   have ih:=BS n t2 l t d
   constructor
   ·intro h
    unfold zT
    cases e:o.dst with
    | none=>exact ih.1 (by rcases(jY o l d).1 h with h|h;· rw[e]at h;cases h
                           ·exact h)
    | some x =>
      show(if x=d then U7 n (eG t2 x)else eG (zT n l t2 t) d)=_
      split
      ·rename_i hx;rw[hx]
      ·rename_i hx
       exact ih.1 (by rcases(jY o l d).1 h with h|h
                      ·rw[e]at h;exact absurd (nC h) hx
                      ·exact h)
   ·intro h
    have h1:d∉uB l:=fun hm=>h ((jY o l d).2 (.inr hm))
    unfold zT
    cases e:o.dst with
    | none=>exact ih.2 h1
    | some x =>
      show(if x=d then U7 n (eG t2 x)else eG (zT n l t2 t) d)=_
      rw[aA (fun hx=>h ((jY o l d).2 (.inl (by rw[e,hx]))))]
      exact ih.2 h1
theorem BM:∀ (l:List Oper) (t:List (Nat×VV)) (d:Nat),(d∈uB l->eG (AJ l t) d = .undef)/\(d∉uB l->eG (AJ l t) d=eG t d)
 | [],t,d=>⟨fun h=>(by cases h),fun _=>rfl⟩
 | o::l,t,d=>by
   have ih:=BM l t d
   constructor
   ·intro h
    unfold AJ
    cases e:o.dst with
    | none=>exact ih.1 (by rcases(jY o l d).1 h with h|h;· rw[e]at h;cases h
                           ·exact h)
    | some x =>
      show(if x=d then VV.undef else eG (AJ l t) d)=_
      split
      ·rfl
      ·rename_i hx
       exact ih.1 (by rcases(jY o l d).1 h with h|h
                      ·rw[e]at h;exact absurd (nC h) hx
                      ·exact h)
   ·intro h
    have h1:d∉uB l:=fun hm=>h ((jY o l d).2 (.inr hm))
    unfold AJ
    cases e:o.dst with
    | none=>exact ih.2 h1
    | some x =>
      show(if x=d then VV.undef else eG (AJ l t) d)=_
      rw[aA (fun hx=>h ((jY o l d).2 (.inl (by rw[e,hx]))))]
      exact ih.2 h1
section
variable {G:Cfg}
theorem aGA {o:Oper}{s:VS}{k:VS->Prop}(hq:F9 o.op=true)(h:RV G o s k):∃ s',k s':=by
 unfold RV at h
 cases hop:o.op with
 | call c =>
   rw[hop]at hq h
   simp only at h
   cases hc:c.callee with
   | value f=>simp[F9,hc]at hq
   | builtin b=>rw[hc]at h;simp only at h;obtain⟨_,_,h⟩:=XG hq h;exact⟨_,h⟩
   | invoke r m=>simp[F9,hc]at hq
 | _=>rw[hop]at hq h;simp only at h;obtain⟨_,_,h⟩:=XG hq h;exact⟨_,h⟩
theorem aGX {ops:Array Oper}:∀ (n:Nat) (g:Option (Nat×Bool)) (l:List Oper) (s:VS) (k:VS->Prop),(∀ o∈l,F9 o.op=true)->EV G ops n g l s k->∃ s',k s':=by
 intro n
 induction n with
 | zero=>intro g l s k _ h;exact h.elim
 | succ n ih =>
   intro g l s k hq h
   cases l with
   | nil=>exact⟨s,h⟩
   | cons o rest =>
     unfold EV at h
     split at h
     ·obtain⟨s',h⟩:=aGA (hq o jM) h
      exact ih g rest s' k (fun x hx=>hq x (kJ _ hx)) h
     ·split at h
      ·rename_i body res rest' j w hsp hg
       have hl:o::rest=body++res::rest':=by
        have:=aBS g (o::rest)
        rw[hsp]at this;exact this
       split at h
       ·split at h
        ·split at h
         ·obtain⟨s2,h⟩:=ih _ body s _ (fun x hx=>hq x (by rw[hl];exact CW _ hx)) h
          unfold SZ at h
          split at h
          ·exact ih g rest' _ k (fun x hx=>hq x (by rw[hl];exact sW _ (kJ _ hx))) h
          ·exact h.elim
         ·rename_i hall
          rw[VR]at hall
          obtain⟨x,hx,hxt⟩:=hall
          exact absurd (hq x (by rw[hl];exact CW _ hx)) hxt
        ·exact h.elim
       ·exact h.elim
      ·exact h.elim
end
end Go.Mach
