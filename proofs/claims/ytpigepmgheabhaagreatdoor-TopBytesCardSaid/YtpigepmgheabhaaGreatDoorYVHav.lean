/- Part of the proof. No condition. -/
import Derived.Test.YtpigepmgheabhaaGreatDoorYVSnd
namespace Go.Mach
set_option linter.unusedVariables false
set_option linter.unusedSimpArgs false
theorem SE.refl (kd:IntKind)(v:Int):∀ (T:Ty) (x:T.den),SE kd v T x x
 | .int _,_ => .inl rfl
 | .slc t,_=>⟨rfl,fun i x y h1 h2=>by rw[h1]at h2;cases h2;exact SE.refl kd v t x⟩
 | .ref t,_=>⟨rfl,fun i x y h1 h2=>by rw[h1]at h2;cases h2;exact SE.refl kd v t x⟩
 | .pair a b,x=>⟨SE.refl kd v a _,SE.refl kd v b _⟩
 | .bool,_=>rfl
 | .str,_=>rfl
 | .unit,_=>trivial
 | .flt,_=>rfl
 | .cpx,_=>rfl
theorem EQ {α:Type}:∀ {l m:List α},m.length=l.length->(∀ (i:Nat) (x y:α),l[i]? = some x->m[i]? = some y->y=x)->m=l
 | [],[],_,_=>rfl
 | [],_::_,h,_=>by cases h
 | _::_,[],h,_=>by cases h
 | a::l,b::m,h,k=>by
   have h1:=k 0 a b rfl rfl
   have h2:=EQ (l:=l) (m:=m) (by simpa using h) fun i x y e1 e2=>k (i+1) x y (by simpa using e1) (by simpa using e2)
   rw[h1,h2]
theorem SE.eq {kd:IntKind}{v:Int}:∀ (T:Ty) (x y:T.den),P5 kd T=false->SE kd v T x y->y=x
 | .int k,x,y,hk,h=>by
   rcases h with h|⟨h,_⟩
   ·exact h
   ·simp[P5,h]at hk
 | .slc t,l,m,hk,h=>EQ h.1 fun i x y e1 e2=>SE.eq t x y hk (h.2 i x y e1 e2)
 | .ref t,l,m,hk,h=>EQ h.1 fun i x y e1 e2=>SE.eq t x y hk (h.2 i x y e1 e2)
 | .pair a b,x,y,hk,h=>by
   simp only[P5,ER]at hk
   exact Prod.ext (SE.eq a _ _ hk.1 h.1) (SE.eq b _ _ hk.2 h.2)
 | .bool,_,_,_,h=>h
 | .str,_,_,_,h=>h
 | .unit,_,_,_,_=>rfl
 | .flt,_,_,_,h=>h
 | .cpx,_,_,_,h=>h
def Ch (kd:IntKind)(v:Int)(cs cs':List Value):Prop:=cs'=cs\/∃ j n,cs[j]? = some (.int kd n)/\cs'=cs.set j (.int kd v)
theorem Ch.len {kd:IntKind}{v:Int}{cs cs':List Value}(h:Ch kd v cs cs'):cs'.length=cs.length:=by
 rcases h with rfl|⟨j,n,_,rfl⟩
 ·rfl
 ·simp
theorem Ch.inB {kd:IntKind}{v:Int}{A A':List Value}(h:Ch kd v A A'){p w:Nat}{cs:List Value}(hi:InB A p w cs):∃ cs',InB A' p w cs'/\Ch kd v cs cs':=by
 rcases h with rfl|⟨j,n,h1,rfl⟩
 ·exact⟨cs,hi,.inl rfl⟩
 ·obtain⟨h2,rfl⟩:=hi
  refine⟨_,⟨by simpa using h2,rfl⟩,?_⟩
  by_cases hj:p<=j/\j<p+w
  ·right
   refine⟨j-p,n,?_,?_⟩
   ·grind
   ·rw[List.drop_set,aC (by omega),List.take_set]
  ·left
   rw[List.drop_set]
   split
   ·rfl
   ·rw[List.take_set,List.set_eq_of_length_le]
    simp;omega
theorem F4 {α β:Type}{P:Nat->α->β->Prop}:∀ {l:List α} {k:Nat},(∀ (i:Nat) (x:α),l[i]? = some x->∃ y,P (k+i) x y)->∃ m:List β,m.length=l.length/\∀ (i:Nat) (x:α) (y:β),l[i]? = some x->m[i]? = some y->P (k+i) x y
 | [],_,_=>⟨[],rfl,fun i x y h=>by simp at h⟩
 | a::l,k,h=>by
   obtain⟨b,hb⟩:=h 0 a rfl
   obtain⟨m,h1,h2⟩:=F4 (P:=P) (l:=l) (k:=k+1) fun i x e=>by
    obtain⟨y,hy⟩:=h (i+1) x (by simpa using e)
    exact⟨y,by rw[show k+1+i=k+(i+1) by omega];exact hy⟩
   refine⟨b::m,by simp[h1],fun i x y e1 e2 => ?_⟩
   cases i with
   | zero=>cases e1;cases e2;exact hb
   | succ i =>
     have:=h2 i x y (by simpa using e1) (by simpa using e2)
     rw[show k+(i+1)=k+1+i by omega];exact this
section
variable {kd:IntKind} {v x0:Int} {b q:Nat} {B B':Blk}
theorem JK {T:Ty}{G G':Fz}{cells cells':List Value}{o w:Nat}{l:List T.den}(ih:∀ (x:T.den) (cs cs':List Value),RT G T x cs->Ch kd v cs cs'->∃ y,SE kd v T x y/\RT G' T y cs')(hc:Ch kd v cells cells')
 (h:∀ i x,l[i]? = some x->∃ cs,InB cells (o+i*w) w cs/\RT G T x cs):∃ m:List T.den,SE kd v (.slc T) l m/\∀ i y,m[i]? = some y->∃ cs,InB cells' (o+i*w) w cs/\RT G' T y cs:=by
 obtain⟨m,h1,h2⟩:=F4 (k:=0) (P:=fun i x y=>SE kd v T x y/\∃ cs,InB cells' (o+i*w) w cs/\RT G' T y cs) (l:=l) fun i x hx=>by
  obtain⟨cs,k1,k2⟩:=h i x hx
  obtain⟨cs',k3,k4⟩:=hc.inB k1
  grind
 refine⟨m,⟨h1,fun i x y e1 e2=>(h2 i x y e1 e2).1⟩,fun i y hy => ?_⟩
 grind
theorem aBs {T:Ty}{G:Fz}(hG:G b=some B)(he:B'.exact=B.exact/\B'.es=B.es)(hB:Ch kd v B.cells B'.cells)(ih:∀ (x:T.den) (cs cs':List Value),RT G T x cs->Ch kd v cs cs'->∃ y,SE kd v T x y/\RT (frF G b B') T y cs')
 {a:Option Addr} {cp:Nat} {l:List T.den} (h:RSl G (RT G T) T.w a cp l):∃ m:List T.den,SE kd v (.slc T) l m/\RSl (frF G b B') (RT (frF G b B') T) T.w a cp m:=by
 rcases h.at_ with rfl|⟨b2,o,B2,h1,h2,h3,h4⟩
 ·exact⟨[],SE.refl kd v (.slc T) [],⟨eJ _,.inl rfl⟩⟩
 ·by_cases e:b2=b
  ·subst e
   rw[hG]at h2;cases h2
   obtain⟨m,k1,k2⟩:=JK ih hB h4
   exact⟨m,k1,⟨by rw[k1.1];exact h.cap,.inr ⟨b2,o,B',h1,by simp[frF],by rw[he.1,he.2];exact h3,k2⟩⟩⟩
  ·obtain⟨m,k1,k2⟩:=JK ih (.inl rfl) h4
   exact⟨m,k1,⟨by rw[k1.1];exact h.cap,.inr ⟨b2,o,B2,h1,by simp[frF,e,h2],h3,k2⟩⟩⟩
theorem MU {G:Fz}(hG:G b=some B)(he:B'.exact=B.exact/\B'.es=B.es)(hB:Ch kd v B.cells B'.cells):∀ (T:Ty) (x:T.den) (cs cs':List Value),RT G T x cs->Ch kd v cs cs'->∃ y,SE kd v T x y/\RT (frF G b B') T y cs'
 | .int k,x,cs,cs',h,hc=>by
   have h:cs=[.int k x]:=h
   subst h
   rcases hc with rfl|⟨j,n,h1,rfl⟩
   ·exact⟨x,.inl rfl,rfl⟩
   ·cases j with
    | zero =>
      simp only[List.getElem?_cons_zero,aX,Value.int.injEq]at h1
      obtain⟨rfl,rfl⟩:=h1
      exact⟨v,.inr ⟨rfl,rfl⟩,rfl⟩
    | succ j=>simp at h1
 | .bool,x,cs,cs',h,hc=>by
   have h:cs=[.bool x]:=h
   subst h
   rcases hc with rfl|⟨j,n,h1,rfl⟩
   ·exact⟨x,rfl,rfl⟩
   ·cases j <;> simp at h1
 | .str,x,cs,cs',h,hc=>by
   have h:cs=[.string x]:=h
   subst h
   rcases hc with rfl|⟨j,n,h1,rfl⟩
   ·exact⟨x,rfl,rfl⟩
   ·cases j <;> simp at h1
 | .flt,x,cs,cs',h,hc=>by
   have h:cs=[.float .f64 x]:=h
   subst h
   rcases hc with rfl|⟨j,n,h1,rfl⟩
   ·exact⟨x,rfl,rfl⟩
   ·cases j <;> simp at h1
 | .cpx,x,cs,cs',h,hc=>by
   have h:cs=[.complex .f64 x.1 x.2]:=h
   subst h
   rcases hc with rfl|⟨j,n,h1,rfl⟩
   ·exact⟨x,rfl,rfl⟩
   ·cases j <;> simp at h1
 | .unit,x,cs,cs',h,hc=>by
   have h:cs=[]:=h
   subst h
   rcases hc with rfl|⟨j,n,h1,rfl⟩
   ·exact⟨x,trivial,rfl⟩
   ·simp at h1
 | .slc t,l,cs,cs',⟨a,cp,h1,h2⟩,hc=>by
   subst h1
   have e:cs'=[.slice a l.length cp]:=by
    rcases hc with rfl|⟨j,n,h1,rfl⟩
    ·rfl
    ·cases j <;> simp at h1
   subst e
   obtain⟨m,k1,k2⟩:=aBs hG he hB (MU hG he hB t) h2
   exact⟨m,k1,a,cp,by rw[k1.1],k2⟩
 | .ref t,l,cs,cs',⟨p,h1,h2⟩,hc=>by
   subst h1
   have e:cs'=[.pointer p]:=by
    rcases hc with rfl|⟨j,n,h1,rfl⟩
    ·rfl
    ·cases j <;> simp at h1
   subst e
   match l,h2 with
   | [],h2=>exact⟨[],⟨rfl,fun i x y e1 e2=>by simp at e1⟩,p,rfl,h2⟩
   | [x],⟨b2,B2,ds,g1,g2,g3,g4⟩ =>
     have key:∃ B3 ds',frF G b B' b2=some B3/\InB B3.cells 0 t.w ds'/\Ch kd v ds ds':=by
      by_cases e:b2=b
      ·subst e
       rw[hG]at g2;cases g2
       obtain⟨ds',k1,k2⟩:=hB.inB g3
       exact⟨B',ds',by simp[frF],k1,k2⟩
      ·exact⟨B2,ds,by simp[frF,e,g2],g3,.inl rfl⟩
     obtain⟨B3,ds',k1,k2,k3⟩:=key
     obtain⟨y,k4,k5⟩:=MU hG he hB t x ds ds' g4 k3
     refine⟨[y],⟨rfl,fun i x' y' e1 e2 => ?_⟩,p,rfl,b2,B3,ds',g1,k1,k2,k5⟩
     cases i with
     | zero=>cases e1;cases e2;exact k4
     | succ i=>simp at e1
   | _::_::_,h2=>exact h2.elim
 | .pair a c,x,cs,cs',⟨c1,c2,h1,h2,h3⟩,hc=>by
   subst h1
   have key:∃ d1 d2,cs'=d1++d2/\Ch kd v c1 d1/\Ch kd v c2 d2:=by
    rcases hc with rfl|⟨j,n,h1,rfl⟩
    ·exact⟨c1,c2,rfl,.inl rfl,.inl rfl⟩
    ·by_cases hj:j<c1.length
     ·refine⟨c1.set j (.int kd v),c2,by rw[List.set_append,aA hj],.inr ⟨j,n,?_,rfl⟩,.inl rfl⟩
      rw[dL hj]at h1;exact h1
     ·refine⟨c1,c2.set (j-c1.length) (.int kd v),by rw[List.set_append,aC hj],.inl rfl,.inr ⟨j-c1.length,n,?_,rfl⟩⟩
      grind
   obtain⟨d1,d2,rfl,k1,k2⟩:=key
   obtain⟨y1,g1,g2⟩:=MU hG he hB a x.1 c1 d1 h2 k1
   obtain⟨y2,g3,g4⟩:=MU hG he hB c x.2 c2 d2 h3 k2
   exact⟨(y1,y2),⟨g1,g3⟩,d1,d2,rfl,g2,g4⟩
theorem aE6 {G:Fz}(hG:G b=some B)(he:B'.exact=B.exact/\B'.es=B.es)(hB:Ch kd v B.cells B'.cells){T:Ty}{l:List T.den}{azz as':List Value}(h:RC G T l azz)(hc:Ch kd v azz as'):∃ m:List T.den,SE kd v (.slc T) l m/\RC (frF G b B') T m as':=by
 obtain⟨m,k1,k2⟩:=JK (o:=0) (MU hG he hB T) hc (l:=l) (w:=T.w) fun i x hx=>by rw[e9];exact h.2 i x hx
 exact⟨m,k1,by rw[hc.len,k1.1];exact h.1,fun i y hy=>by have:=k2 i y hy;rw[e9]at this;exact this⟩
variable {F0:Fz} {H0:Base} {c:Ctx} {H H':aD} {s:VS} {ta:aE}
def hvC (c:Ctx)(b:Nat)(B':Blk)(h:List VO):Ctx:=⟨c.n0,frF c.F b B',c.ρ,h,c.hs⟩
theorem aCN {o:Bool}(hb:c.n0 b=false)(hF:c.F b=some B):cA o c.n0 c.F b=some B/\cA o c.n0 (frF c.F b B')=frF (cA o c.n0 c.F) b B':=by
 refine⟨by unfold cA;rw[aC (by rw[hb];simp)];exact hF,?_⟩
 funext x
 unfold cA frF
 by_cases e:x=b
 ·subst e;rw[aC (by rw[hb];simp),aA rfl,aA rfl]
 ·rw[aC e,aC e]
theorem M0 (hb:c.n0 b=false)(hF:c.F b=some B)(he:B'.exact=B.exact/\B'.es=B.es)(hB:Ch kd v B.cells B'.cells){x:VV}{a:Value}{K:VV->Prop}(hr:R2 c x a)(h:hvL kd v x K):∃ y,K y/\R2 (hvC c b B' c.h) y a/\(RL c x a->RL (hvC c b B' c.h) y a):=by
 cases x with
 | fz o T l =>
   obtain⟨ad,k,h1,h2⟩:=ND hr
   obtain⟨g1,g2⟩:=aCN (B':=B') (o:=o) hb hF
   obtain⟨m,k1,k2⟩:=aBs g1 he hB (MU g1 he hB T) h2
   have key:RL (hvC c b B' c.h) (.fz o T m) a:=by
    refine⟨ad,k,by rw[h1,k1.1],?_⟩
    show RSl (cA o c.n0 (frF c.F b B')) (RT (cA o c.n0 (frF c.F b B')) T) T.w ad k m
    rw[g2];exact k2
   simp only[hvL]at h
   split at h
   ·exact⟨_,h m k1,key,fun _=>key⟩
   ·rename_i hk
    have:=SE.eq (.slc T) l m hk k1
    subst this
    exact⟨_,h,key,fun _=>key⟩
 | pl x=>exact⟨_,h,hr,fun h=>h⟩
 | own i=>exact⟨_,h,hr,fun h=>h⟩
 | ptr i o=>exact⟨_,h,hr,fun h=>h⟩
 | hof i=>exact⟨_,h,hr,fun h=>h⟩
 | _=>exact⟨.undef,h,trivial,fun _=>trivial⟩
theorem JO (hb:c.n0 b=false)(hF:c.F b=some B)(he:B'.exact=B.exact/\B'.es=B.es)(hB:Ch kd v B.cells B'.cells):∀ {cs:List VV} {azz:List Value} {K:List VV->Prop},All2 (RL c) cs azz->aFf kd v cs K->∃ cs',K cs'/\All2 (RL (hvC c b B' c.h)) cs' azz
 | _,_,K,.nil,h=>⟨[],h,.nil⟩
 | _,_,K,.cons (a:=x) (b:=a) hx t,h=>by
   obtain⟨y,h1,_,h2⟩:=M0 hb hF he hB (rD (FU hx)) h
   obtain⟨cs',h3,h4⟩:=JO hb hF he hB t h1
   exact⟨_,h3,.cons (h2 hx) h4⟩
theorem NR (hb:c.n0 b=false)(hF:c.F b=some B)(he:B'.exact=B.exact/\B'.es=B.es)(hB:Ch kd v B.cells B'.cells)(ht:Tok c s.t ta):∀ {live:List Nat} {K:List (Nat×VV)->Prop},hvT kd v s.t live K->∃ t',K t'/\Tok (hvC c b B' c.h) t' ta
 | [],K,h=>⟨[],h,fun d=>trivial⟩
 | d::r,K,h=>by
   obtain⟨y,h1,h2,_⟩:=M0 hb hF he hB (ht d) h
   obtain⟨t',h3,h4⟩:=NR hb hF he hB ht h1
   refine⟨_,h3,fun i => ?_⟩
   show R2 _ (if d=i then y else bQ t' i) (ta i)
   split
   ·rename_i e;subst e;exact h2
   ·exact h4 i
theorem Z8 (hok:Ok F0 H0 c H)(hb:c.n0 b=false)(hF:c.F b=some B)(hB':B'={ B with cells:=B'.cells })(hB:Ch kd v B.cells B'.cells)(u:Upd H H' b)(hbk:blk? H' b=some B'){i:Nat}{o:VO}{K:VO->Prop}(ho:ObjOk c H i o)(h:hvO kd v o K) :
 ∃ o',K o'/\VO.le o o'/\ObjOk (hvC c b B' c.h) H' i o'/\(o = .dead false->o' = .dead false):=by
 have he:B'.exact=B.exact/\B'.es=B.es:=by rw[hB'];exact⟨rfl,rfl⟩
 have hlo:∀ b',c.ρ i=some b'->c.n0 b'=false/\b'<H'.length:=fun b' e=>by rw[u.len];exact ho.lo b' e
 have hne:∀ b',c.F b'=none->b'≠b:=fun b' e e'=>by subst e';rw[hF]at e;cases e
 have hfn:∀ b',c.F b'=none->frF c.F b B' b'=none:=fun b' e=>by unfold frF;rw[aC (hne b' e)];exact e
 cases o with
 | box cs fr =>
   cases fr with
   | true=>exact h.elim
   | false =>
     obtain⟨b2,azz,h1,h2,h3,h4,h5⟩:=ho.box _ _ rfl
     obtain⟨cs',k1,k2⟩:=JO hb hF he hB h3 h
     refine⟨_,k1,trivial,{ lo:=hlo,box:=fun cs2 fr2 e => ?_,lst:=fun _ _ _ _ e=>(by cases e),dead:=fun _ e=>(by cases e) },fun e=>(by cases e)⟩
     cases e
     exact⟨b2,azz,h1,u.blk (hne b2 (h5 rfl)) h2,k2,fun e=>(by cases e),fun _=>hfn _ (h5 rfl)⟩
 | dead bb =>
   refine⟨_,h,trivial,{ lo:=hlo,box:=fun _ _ e=>(by cases e),lst:=fun _ _ _ _ e=>(by cases e),dead:=fun b' e e2 => ?_ },fun e=>e⟩
   exact hfn _ (ho.dead b' e e2)
 | lst q T l fr =>
   obtain⟨h1,h2⟩:=ho.lst _ _ _ _ rfl
   obtain⟨g1,g2⟩:=aCN (B':=B') (o:=q) hb hF
   have key:∃ m:List T.den,SE kd v (.slc T) l m/\∀ b2,c.ρ i=some b2->∃ azz ex,blk? H' b2=some ⟨azz,T.w,ex,true⟩/\RC (cA q c.n0 (frF c.F b B')) T m azz/\(fr=true->frF c.F b B' b2=some ⟨azz,T.w,ex,true⟩)/\(fr=false->frF c.F b B' b2=none):=by
    cases hρ:c.ρ i with
    | none=>exact⟨l,SE.refl kd v (.slc T) l,fun b2 e=>by cases e⟩
    | some b2 =>
      obtain⟨azz,ex,k1,k2,k3,k4⟩:=h2 b2 hρ
      rw[g2]
      by_cases e:b2=b
      ·subst e
       have hfr:fr=true:=by
        cases fr with
        | true=>rfl
        | false=>rw[k4 rfl]at hF;cases hF
       subst hfr
       have:=k3 rfl
       rw[hF]at this;cases this
       obtain⟨m,m1,m2⟩:=aE6 g1 he hB k2 hB
       refine⟨m,m1,fun b3 e => ?_⟩
       cases e
       rw[hB']at hbk
       refine⟨B'.cells,ex,hbk,m2,fun _ => ?_,fun e=>(by cases e)⟩
       rw[hB']
       simp[frF]
      ·obtain⟨m,m1,m2⟩:=aE6 g1 he hB k2 (.inl rfl)
       refine⟨m,m1,fun b3 e3 => ?_⟩
       cases e3
       refine⟨azz,ex,u.blk e k1,m2,fun hf=>by unfold frF;rw[aC e];exact k3 hf,fun hf=>hfn _ (k4 hf)⟩
   obtain⟨m,k1,k2⟩:=key
   have hz:c.ρ i=none->m=[]:=fun e=>by
    have:=h1 e
    subst this
    exact List.length_eq_zero_iff.1 k1.1
   have fin:ObjOk (hvC c b B' c.h) H' i (.lst q T m fr):={ lo:=hlo,box:=fun _ _ e=>(by cases e),dead:=fun _ e=>(by cases e),lst:=fun q2 T2 l2 fr2 e=>(by cases e;exact⟨hz,k2⟩) }
   simp only[hvO]at h
   split at h
   ·exact⟨_,h m k1,⟨rfl,k1.1.symm⟩,fin,fun e=>(by cases e)⟩
   ·rename_i hk
    have:=SE.eq (.slc T) l m hk k1
    subst this
    exact⟨_,h,⟨rfl,rfl⟩,fin,fun e=>(by cases e)⟩
theorem N6 (hok:Ok F0 H0 c H)(hb:c.n0 b=false)(hF:c.F b=some B)(hB':B'={ B with cells:=B'.cells })(hB:Ch kd v B.cells B'.cells)(u:Upd H H' b)(hbk:blk? H' b=some B'):∀ {l:List VO} {i:Nat} {K:List VO->Prop},(∀ j o,l[j]? = some o->ObjOk c H (i+j) o)->hvH kd v l K ->
 ∃ l',K l'/\l'.length=l.length/\∀ (j:Nat) (o:VO),l[j]? = some o->∃ o',l'[j]? = some o'/\VO.le o o'/\ObjOk (hvC c b B' c.h) H' (i+j) o'/\(o = .dead false->o' = .dead false)
 | [],i,K,_,h=>⟨[],h,rfl,fun j o e=>by simp at e⟩
 | o::l,i,K,ho,h=>by
   obtain⟨o',h1,h2,h3,h4⟩:=Z8 hok hb hF hB' hB u hbk (ho 0 o rfl) h
   obtain⟨l',k1,k2,k3⟩:=N6 hok hb hF hB' hB u hbk (l:=l) (i:=i+1) (fun j p e=>by
    have:=ho (j+1) p (by simpa using e)
    rw[show i+1+j=i+(j+1) by omega];exact this) h1
   refine⟨_,k1,by simp[k2],fun j p e => ?_⟩
   cases j with
   | zero=>cases e;exact⟨o',rfl,h2,h3,h4⟩
   | succ j =>
     obtain⟨p',g1,g2⟩:=k3 j p (by simpa using e)
     rw[show i+1+j=i+(j+1) by omega]at g2
     exact⟨p',by simpa using g1,g2⟩
theorem Y9 (hr:Rel F0 H0 c s ta H)(hb:c.n0 b=false)(hF:c.F b=some B)(hB':B'={ B with cells:=B'.cells })(hB:Ch kd v B.cells B'.cells)(u:Upd H H' b)(hbk:blk? H' b=some B'){live:List Nat}{K:VS->Prop}(h:hvS kd v live s K):∃ s' c',c'.hs=c.hs/\Rel F0 H0 c' s' ta H'/\K s':=by
 obtain⟨hh,hok,ht⟩:=hr
 have he:B'.exact=B.exact/\B'.es=B.es:=by rw[hB'];exact⟨rfl,rfl⟩
 obtain⟨t',h1,h2⟩:=NR hb hF he hB ht h
 obtain⟨h',k1,k2,k3⟩:=N6 hok hb hF hB' hB u hbk (l:=s.h) (i:=0) (fun j o e=>by rw[e9];exact hok.obj j o (by rw[hh];exact e)) h1
 have hle:Le (hvC c b B' c.h) (hvC c b B' h'):={
  n0:=rfl
  F:=Fz.ext_refl _
  hs:=rfl
  len:=by show c.h.length<=h'.length;rw[hh,k2];exact aF _
  ρ:=fun _ _=>rfl
  h:=fun i o e=>by
   have e:c.h[i]? = some o:=e
   rw[hh]at e
   obtain⟨o',g1,g2,_⟩:=k3 i o e
   exact⟨o',g1,g2⟩ }
 have back:∀ (i:Nat) (o':VO),h'[i]? = some o'->∃ o,s.h[i]? = some o/\ObjOk (hvC c b B' c.h) H' i o'/\(o = .dead false->o' = .dead false):=by
  intro i o' e
  have hi:=(List.getElem?_eq_some_iff.1 e).1
  rw[k2]at hi
  obtain⟨p,g1,_,g2,g3⟩:=k3 i _ (aM hi)
  rw[e]at g1;cases g1
  rw[e9]at g2
  exact⟨_,aM hi,g2,g3⟩
 have hn:=hok.n0
 refine⟨⟨t',h'⟩,hvC c b B' h',rfl,⟨rfl,?_,h2.mono hle⟩,k1⟩
 exact {
  n0:=hok.n0
  pre:=hok.pre.upd u (by rw[<- hn];exact hb)
  fz:=fun b2 B2 e=>by
   have e:frF c.F b B' b2=some B2:=e
   unfold frF at e
   by_cases e2:b2=b
   ·rw[aA e2]at e
    rw[e2,<- eR e];exact hbk
   ·rw[aC e2]at e
    exact u.blk e2 (hok.fz b2 B2 e)
  low:=fun b2 hN=>by
   show frF c.F b B' b2=F0 b2
   unfold frF
   rw[aC (by intro e;subst e;rw[<- hn,hb]at hN;cases hN)]
   exact hok.low b2 hN
  obj:=fun i o' e=>by
   obtain⟨o,g1,g2,g3⟩:=back i o' e
   exact g2.mono hle rfl (fun _ _=>rfl) (fun _ _ _ h=>h) (aF _)
  inj:=fun i j b2 hij e1 e2=>by
   have key:∀ i:Nat,c.h[i]? = some (VO.dead false)->h'[i]? = some (VO.dead false):=fun i e=>by
    rw[hh]at e
    obtain⟨o',g1,_,_,g2⟩:=k3 i _ e
    rw[g1,g2 rfl]
   exact(hok.inj i j b2 hij e1 e2).imp (key i) (key j)
  bj:=hok.bj.of fun i o' e=>by
   have e:h'[i]? = some o':=e
   have hi:=(List.getElem?_eq_some_iff.1 e).1
   rw[k2]at hi
   obtain⟨p,g1,g2,_⟩:=k3 i _ (aM hi)
   rw[e]at g1;cases g1
   exact⟨_,by rw[hh];exact aM hi,VO.le_bx g2⟩
  dom:=fun i hi=>hok.dom i (by have:h'.length<=i:=hi;rw[hh];omega) }
end
end Go.Mach
