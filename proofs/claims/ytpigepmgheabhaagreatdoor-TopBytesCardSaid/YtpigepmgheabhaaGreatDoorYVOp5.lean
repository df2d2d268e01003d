/- Part of the proof. No condition. -/
import Derived.Test.YtpigepmgheabhaaGreatDoorYVApp
namespace Go.Mach
set_option linter.unusedVariables false
def Tok (c:Ctx)(t:List (Nat×VV))(ta:aE):Prop:=∀ d,R2 c (bQ t d) (ta d)
theorem Tok.mono {c c':Ctx}{t:List (Nat×VV)}{ta:aE}(h:Tok c t ta)(hle:Le c c'):Tok c' t ta:=fun d=>R2.mono hle _ _ (h d)
theorem Tok.set {c:Ctx}{t:List (Nat×VV)}{ta:aE}(h:Tok c t ta){v:VV}{a:Value}(hv:R2 c v a)(d:Nat):Tok c ((d,v)::t) (xV ta d a):=fun i=>by
 unfold bQ xV
 by_cases e:d=i
 ·rw[aA e,aA e.symm];exact hv
 ·rw[aC e,aC (fun e'=>e e'.symm)];exact h i
section
variable {F0:Fz} {H0:Base} {c c':Ctx} {H H':aD} {t:List (Nat×VV)} {ta:aE} {n:Nat}
theorem cD (ht:Tok c t ta){x:Operand}(hx:aG n x=true):R2 c (evV t x) (eval ta x):=by
 cases x with
 | tmp i=>exact ht i
 | const v=>exact⟨rfl,hx⟩
 | global g=>cases hx
 | func f=>exact⟨[],rfl,.nil⟩
theorem cY {v a:Value}(h:R2 c (.pl v) a):a=v/\fX v=true:=h
theorem ND {o:Bool}{T:Ty}{l:List T.den}{a:Value}(h:R2 c (.fz o T l) a):∃ ad k,a = .slice ad l.length k/\RSl (cA o c.n0 c.F) (RT (cA o c.n0 c.F) T) T.w ad k l:=h
theorem JS {l:List VV}{a:Value}(h:R2 c (.agg l) a):∃ azz,a = .agg azz.toArray/\All2 (RL c) l azz:=h
theorem wC {i off:Nat}{a:Value}(h:R2 c (.ptr i off) a):∃ b cs fr,c.h[i]? = some (.box cs fr)/\c.ρ i=some b/\a = .pointer (some ⟨b,off,none⟩):=h
theorem CK {o:Bool}{T:Ty}{l:List T.den}{ix off:Nat}{a:Value}(h:R2 c (.fptr o T l ix off) a):∃ b q B x cs,a = .pointer (some ⟨b,q+off,none⟩)/\cA o c.n0 c.F b=some B/\l[ix]? = some x/\InB B.cells q T.w cs/\RT (cA o c.n0 c.F) T x cs:=h
theorem X9 {l:List VV}{off:Nat}{a:Value}(h:R2 c (.bx l off) a):∃ b B,a = .pointer (some ⟨b,off,none⟩)/\c.F b=some B/\All2 (RL c) l B.cells:=h
theorem aFh {l:List VV}{a:Value}(h:R2 c (.tup l) a):∃ azz,a = .tuple azz.toArray/\All2 (R1 c) l azz:=h
theorem cV {h:List VO}{i:Nat}{o:VO}(e:aP h i=o)(hd:o ≠ .dead false):h[i]? = some o:=by
 unfold aP at e
 rw[cH]at e
 cases k:h[i]? with
 | none=>rw[k]at e;exact absurd e.symm hd
 | some o'=>rw[k]at e;rw[show o'=o from e]
theorem pJ {i:Nat}{q:Bool}{T:Ty}{l:List T.den}{fr:Bool}{a:Value}(h:R2 c (.own i) a)(hi:c.h[i]? = some (.lst q T l fr)):a=sl (c.ρ i) l.length:=by
 have h:RL c (.own i) a:=h
 simp only[RL,hi]at h
 exact h
theorem OV {i ix off:Nat}{q:Bool}{T:Ty}{l:List T.den}{fr:Bool}{a:Value}(h:R2 c (.eptr i ix off) a)(hi:c.h[i]? = some (.lst q T l fr)):∃ b,c.ρ i=some b/\ix<l.length/\a = .pointer (some ⟨b,ix*T.w+off,none⟩):=by
 obtain⟨b,h1,h2⟩:RL c (.eptr i ix off) a:=h
 rw[hi]at h2
 exact⟨b,h1,h2⟩
theorem xJ {v:VV}{a:Value}(hv:okL v=true)(h:RL c v a):lC a=false/\Value.oneCell' a=true/\a.cells = #[a]/\R2 c v a/\R1 c v a:=by
 cases v <;> simp only[okL]at hv <;> try (cases hv;done)
 case pl v =>
  obtain⟨rfl,hp⟩:=h
  refine⟨?_,?_,?_,⟨rfl,hp⟩,⟨rfl,hp⟩⟩ <;> cases a <;> first|rfl|(cases hp;done)
 case fz o T l=>obtain⟨ad,k,rfl,h2⟩:=h;exact⟨rfl,rfl,rfl,⟨ad,k,rfl,h2⟩,⟨ad,k,rfl,h2⟩⟩
 case own i =>
  have h':=h
  simp only[RL]at h'
  cases e:c.h[i]? with
  | none=>rw[e]at h';exact h'.elim
  | some o =>
    rw[e]at h'
    cases o with
    | box _ _=>exact h'.elim
    | lst _ _ _ _=>simp only at h';subst h';exact⟨rfl,rfl,rfl,h,h⟩
    | dead _=>obtain⟨_,_,rfl⟩:=h';exact⟨rfl,rfl,rfl,h,h⟩
 case ptr i off=>obtain⟨b,cs,fr,h1,h2,rfl⟩:=h;exact⟨rfl,rfl,rfl,⟨b,cs,fr,h1,h2,rfl⟩,⟨b,cs,fr,h1,h2,rfl⟩⟩
 case eptr i ix off =>
  have h':=h
  obtain⟨b,h1,h2⟩:=h'
  cases e:c.h[i]? with
  | none=>rw[e]at h2;exact h2.elim
  | some o =>
    rw[e]at h2
    cases o with
    | box _ _=>exact h2.elim
    | lst _ _ _ _=>obtain⟨_,rfl⟩:=h2;exact⟨rfl,rfl,rfl,h,h⟩
    | dead _=>obtain⟨_,rfl⟩:=h2;exact⟨rfl,rfl,rfl,h,h⟩
 case fptr o T l ix off=>have h':=h;obtain⟨b,q,B,x,cs,rfl,_⟩:=h';exact⟨rfl,rfl,rfl,h,h⟩
theorem G1 {cs:List VV}{azz:List Value}(hc:cs.all okL=true)(h:All2 (RL c) cs azz):azz.all (fun v => !lC v)=true/\azz.all Value.oneCell'=true:=by
 induction h with
 | nil=>exact⟨rfl,rfl⟩
 | cons h t ih =>
   simp only[List.all_cons,aH]at hc⊢
   obtain⟨h1,h2,_⟩:=xJ hc.1 h
   grind
theorem tY {v:VV}{a:Value}(hv:(c8 v).all okL=true)(h:R2 c v a):All2 (RL c) (c8 v) a.cells.toList/\a.cells.size=(c8 v).length:=by
 have key:∀ v:VV,okL v=true->R2 c v a->c8 v=[v]->All2 (RL c) (c8 v) a.cells.toList/\a.cells.size=(c8 v).length:=by
  intro v hv h e
  have h':RL c v a:=by cases v <;> first|exact h|(cases hv;done)
  rw[e,(xJ hv h').2.2.1]
  exact⟨.cons h' .nil,rfl⟩
 cases v with
 | agg l =>
   obtain⟨azz,rfl,h2⟩:=JS h
   exact⟨h2,by simp[Value.cells,c8,h2.len]⟩
 | _=>exact key _ (by simpa [c8] using hv) h rfl
theorem oX {P:Program}{ty:TypeId}{cs:List VV}{azz:List Value}{off:Nat}{K:VV->Prop}{es:Nat}{ex al:Bool}(h:All2 (RL c) cs azz)(hv:tR (aTy P ty) cs off K) :
 ∃ v a,K v/\R1 c v a/\IL P ty ⟨azz,es,ex,al⟩ off=some a:=by
 unfold tR at hv
 unfold IL
 cases ht:aTy P ty with
 | struct sz fs =>
   simp only[ht]at hv⊢
   split at hv
   ·rename_i hc
    have h2:=(h.drop off).take sz
    refine⟨_,_,hv,⟨_,rfl,h2⟩,?_⟩
    rw[aA ⟨by rw[<- h.len];exact hc.1,(G1 hc.2 h2).1⟩]
   ·exact hv.elim
 | array n e es' sz =>
   simp only[ht]at hv⊢
   split at hv
   ·rename_i hc
    have h2:=(h.drop off).take sz
    refine⟨_,_,hv,⟨_,rfl,h2⟩,?_⟩
    rw[aA ⟨by rw[<- h.len];exact hc.1,(G1 hc.2 h2).1⟩]
   ·exact hv.elim
 | other=>simp only[ht]at hv
 | one =>
   simp only[ht]at hv⊢
   cases e:cs[off]? with
   | none=>simp only[e]at hv
   | some v =>
     simp only[e]at hv
     split at hv
     ·rename_i hk
      obtain⟨a,h1,h2⟩:=h.get e
      obtain⟨h3,_,_,_,h4⟩:=xJ hk h2
      grind
     ·exact hv.elim
 | str =>
   simp only[ht]at hv⊢
   cases e:cs[off]? with
   | none=>simp only[e]at hv
   | some v =>
     simp only[e]at hv
     split at hv
     ·rename_i hk
      obtain⟨a,h1,h2⟩:=h.get e
      obtain⟨h3,_,_,_,h4⟩:=xJ hk h2
      exact⟨v,a,hv,h4,by simp only[h1,h3];rfl⟩
     ·exact hv.elim
 | slice e1 e2 e3 =>
   simp only[ht]at hv⊢
   cases e:cs[off]? with
   | none=>simp only[e]at hv
   | some v =>
     simp only[e]at hv
     split at hv
     ·rename_i hk
      obtain⟨a,h1,h2⟩:=h.get e
      obtain⟨h3,_,_,_,h4⟩:=xJ hk h2
      exact⟨v,a,hv,h4,by simp only[h1,h3];rfl⟩
     ·exact hv.elim
theorem rD {v:VV}{a:Value}(h:R1 c v a):R2 c v a:=by
 cases v <;> first|exact h|(exact(show False from h).elim)
theorem I6 {P:Program}{ty:TypeId}{B:Blk}{q w:Nat}{cs:List Value}{off:Nat}{a:Value}(hp:InB B.cells q w cs)(hw:cs.length=w){es:Nat}{ex al:Bool}(h:IL P ty ⟨cs,es,ex,al⟩ off=some a):IL P ty B (q+off)=some a:=by
 obtain⟨h1,h2⟩:=hp
 have hd:∀ k,off+k<=cs.length->(B.cells.drop (q+off)).take k=(cs.drop off).take k:=by
  intro k hk
  rw[<- h2,List.drop_take,s7,List.take_take,xG (by omega)]
 have hg:off<cs.length->B.cells[q+off]? = cs[off]? := by
  grind
 unfold IL at h⊢
 cases ht:aTy P ty with
 | struct sz fs=>grind
 | array n e es' sz=>grind
 | other=>simp only[ht]at h;cases h
 | one=>grind
 | str=>grind
 | slice e1 e2 e3=>grind
theorem L3 (cs:List Value)(i:Nat)(vs:List Value):(setCells cs i vs).length=cs.length:=by
 induction vs generalizing cs i with
 | nil=>rfl
 | cons v vs ih=>simp only[setCells];rw[ih];simp
theorem HQ {R:VV->Value->Prop}{vs:List VV}{azz:List Value}(h:All2 R vs azz):∀ {cs:List VV} {bs:List Value} (i:Nat),All2 R cs bs->All2 R (EY cs i vs) (setCells bs i azz):=by
 induction h with
 | nil=>intro cs bs i k;exact k
 | cons h t ih=>intro cs bs i k;exact ih (i+1) (k.set i h)
theorem tA:∀ (vs:List Value) (A cs D:List Value) (off:Nat),off+vs.length<=cs.length->setCells (A++cs++D) (A.length+off) vs=A++setCells cs off vs++D
 | [],A,cs,D,off,_=>rfl
 | v::vs,A,cs,D,off,h=>by
   simp only[List.length_cons]at h
   simp only[setCells]
   have e:(A++cs++D).set (A.length+off) v=A++cs.set off v++D:=by
    grind
   rw[e]
   exact tA vs A (cs.set off v) D (off+1) (by simp;omega)
theorem sH {place:Nat->Option (Nat×Nat)}{K:List VV->Prop}:∀ (ps:List (Nat×VV)) (qs:List (Nat×Value)) {cs:List VV} {bs:List Value},All2 (fun p q=>p.1=q.1/\R2 c p.2 q.2) ps qs->All2 (RL c) cs bs->JJ place cs ps K ->
 ∃ cs' bs',K cs'/\rS place bs qs=some bs'/\All2 (RL c) cs' bs':=by
 intro ps
 induction ps with
 | nil =>
   intro qs cs bs hp hc hv
   cases hp
   exact⟨cs,bs,hv,rfl,hc⟩
 | cons p ps ih =>
   intro qs cs bs hp hc hv
   cases hp with
   | cons h t =>
     rename_i q qs
     obtain⟨i,v⟩:=p
     obtain⟨j,a⟩:=q
     obtain⟨e,hr⟩:=h
     simp only at e hr
     subst e
     simp only[JJ]at hv
     simp only[rS]
     cases hpl:place i with
     | none=>simp only[hpl]at hv
     | some os =>
       obtain⟨off,size⟩:=os
       simp only[hpl]at hv⊢
       split at hv
       ·rename_i hc2
        obtain⟨k1,k2⟩:=tY hc2.2.2 hr
        rw[aA ⟨by rw[k2];exact hc2.1,by rw[<- hc.len];exact hc2.2.1⟩]
        exact ih qs t (HQ k1 off hc) hv
       ·exact hv.elim
theorem qC {cs:List Value}(h:cs.all fX=true):All2 (RL c) (cs.map VV.pl) cs:=by
 induction cs with
 | nil=>exact .nil
 | cons v cs ih =>
   simp only[List.all_cons,aH]at h
   exact .cons ⟨rfl,h.1⟩ (ih h.2)
theorem mB {P:Program}{ty:TypeId}{z:List Value}(h:cS P ty=some z):z.all fX=true:=by
 unfold cS at h
 grind
theorem F1 {z:List Value}(h:z.all fX=true)(n:Nat):(dW z n).all fX=true:=by
 unfold dW
 rw[List.all_map,bW]
 intro i _
 simp only[Function.comp]
 by_cases hl:i%z.length<z.length
 ·grind
 ·rw[getElem!_neg z _ hl]
  rfl
def aGn (c:Ctx)(h:List VO)(i:Nat):Prop:=∀ q T l fr,h[i]? = some (.lst q T l fr)->∀ b,c.ρ i=some b->∃ azz ex,c.F b=some ⟨azz,T.w,ex,true⟩/\RC (cA q c.n0 c.F) T l azz
theorem G9:∀ (h:List VO) (is:List Nat),(freeze h is).length=h.length
 | h,[]=>rfl
 | h,i::is=>by unfold freeze;rw[G9];simp
theorem Ok.freezes:∀ (is:List Nat) {c:Ctx},Ok F0 H0 c H->∃ c',Le c c'/\c'.h=freeze c.h is/\c'.n0=c.n0/\c'.ρ=c.ρ/\Ok F0 H0 c' H/\∀ i∈is,aGn c' c.h i
 | [],c,h=>⟨c,Le.refl c,rfl,rfl,rfl,h,fun i hi=>by cases hi⟩
 | i::is,c,h=>by
   obtain⟨F',h1,h2,h3,h4⟩:=h.freeze1 i
   obtain⟨c',k1,k2,kn,kρ,k3,k4⟩:=Ok.freezes is h3
   refine⟨c',h2.trans k1,k2,kn,kρ,k3,?_⟩
   have hfi:∀ (j:Nat) (q:Bool) (T:Ty) (l:List T.den) (fr:Bool),c.h[j]? = some (VO.lst q T l fr)->∃ fr',(c.h.set i (eU (aP c.h i)))[j]? = some (VO.lst q T l fr'):=by
    intro j q T l fr e
    by_cases hij:i=j
    ·subst hij
     rw[gQ (bB e),dP e]
     exact⟨true,rfl⟩
    ·rw[dK hij];exact⟨fr,e⟩
   intro j hj
   rcases List.mem_cons.1 hj with rfl|hj
   ·intro q T l fr e b e'
    rw[kρ]at e'
    obtain⟨azz,ex,g1,g2⟩:=h4 q T l fr e b e'
    exact⟨azz,ex,k1.F _ _ g1,by rw[k1.n0];exact g2.mono (oQ k1.F)⟩
   ·intro q T l fr e b e'
    obtain⟨fr',e2⟩:=hfi j q T l fr e
    exact k4 j hj q T l fr' e2 b e'
theorem oO {c1:Ctx}(hok:Ok F0 H0 c H)(hle:Le c c1)(hρ:c1.ρ=c.ρ){v:VV}{a:Value}(h:RL c v a)(hf:∀ i∈kH v,aGn c1 c.h i):RL c1 (eA c.h v) a:=by
 cases v with
 | own i =>
   unfold eA
   simp only
   split
   ·rename_i o T l fr e
    have hi:=cV e (by intro e;cases e)
    have ha:a=sl (c.ρ i) l.length:=pJ (c:=c) h hi
    have hfr:=hf i (by simp[kH]) _ _ _ _ hi
    refine⟨_,_,ha,?_⟩
    cases hb:c.ρ i with
    | none =>
      have:=((hok.obj i _ hi).lst _ _ _ _ rfl).1 hb
      subst this
      exact⟨aF _,.inl rfl⟩
    | some b =>
      obtain⟨azz,ex,k1,k2⟩:=hfr b (by rw[hρ];exact hb)
      refine k2.slice (b:=b) (B:=⟨azz,T.w,ex,true⟩) rfl ?_ (.inr rfl)
      unfold cA
      rw[aC (by intro hh;have:=(hok.blk hb).1;rw[<- hle.n0]at this;rw[this]at hh;cases hh.2)]
      exact k1
   ·trivial
 | _=>exact RL.mono hle _ _ h
theorem jJ {F:Fz}{n0:Nat->Bool}{o o':Bool}(h:o'=true->o=true):(cA o n0 F).ext (cA o' n0 F):=by
 intro b B hb
 unfold cA at hb⊢
 split at hb
 ·cases hb
 ·rename_i hh
  rw[aC (fun⟨h1,h2⟩=>hh ⟨h h1,h2⟩)];exact hb
theorem Ty.at_inv {T T':Ty}{l:List T.den}{K:List T'.den->Prop}(h:Ty.at T T' l K):∃ e:T=T',K (e▸l):=by
 unfold Ty.at at h
 split at h
 ·exact⟨_,h⟩
 ·exact h.elim
theorem EU:∀ (T:Ty) {cs:List VV} {azz:List Value} {K:T.den->Bool->List VV->Prop},All2 (RL c) cs azz->dec T cs K ->
 ∃ x o rest as1 as2,K x o rest/\azz=as1++as2/\RT (cA o c.n0 c.F) T x as1/\All2 (RL c) rest as2:=by
 intro T
 induction T with
 | int k =>
   intro cs azz K h hd
   unfold dec at hd
   split at hd
   ·split at hd
    ·rename_i k' n r e;subst e
     cases h with
     | cons h t=>obtain⟨rfl,_⟩:=h;exact⟨n,true,r,[_],_,hd,rfl,rfl,t⟩
    ·exact hd.elim
   ·exact hd.elim
 | bool =>
   intro cs azz K h hd
   unfold dec at hd
   split at hd
   ·rename_i b r
    cases h with
    | cons h t=>obtain⟨rfl,_⟩:=h;exact⟨b,true,r,[_],_,hd,rfl,rfl,t⟩
   ·exact hd.elim
 | str =>
   intro cs azz K h hd
   unfold dec at hd
   split at hd
   ·rename_i b r
    cases h with
    | cons h t=>obtain⟨rfl,_⟩:=h;exact⟨b,true,r,[_],_,hd,rfl,rfl,t⟩
   ·exact hd.elim
 | flt =>
   intro cs azz K h hd
   unfold dec at hd
   split at hd
   ·rename_i b r
    cases h with
    | cons h t=>obtain⟨rfl,_⟩:=h;exact⟨b,true,r,[_],_,hd,rfl,rfl,t⟩
   ·exact hd.elim
 | cpx =>
   intro cs azz K h hd
   unfold dec at hd
   split at hd
   ·rename_i b1 b2 r
    cases h with
    | cons h t=>obtain⟨rfl,_⟩:=h;exact⟨(b1,b2),true,r,[_],_,hd,rfl,rfl,t⟩
   ·exact hd.elim
 | ref T ih =>
   intro cs azz K h hd
   unfold dec at hd
   split at hd
   ·rename_i r
    cases h with
    | cons h t =>
      obtain⟨rfl,_⟩:=h
      exact⟨[],true,r,[_],_,hd,rfl,⟨none,rfl,rfl⟩,t⟩
   ·exact hd.elim
 | slc T ih =>
   intro cs azz K h hd
   unfold dec at hd
   split at hd
   ·rename_i o T' l r
    obtain⟨e,hd⟩:=Ty.at_inv hd
    subst e
    cases h with
    | cons h t =>
      obtain⟨ad,k,rfl,h2⟩:=h
      exact⟨l,o,r,[_],_,hd,rfl,⟨ad,k,rfl,h2⟩,t⟩
   ·rename_i k r
    cases h with
    | cons h t =>
      obtain⟨rfl,_⟩:=h
      exact⟨[],true,r,[_],_,hd,rfl,⟨none,k,rfl,⟨eJ _,.inl rfl⟩⟩,t⟩
   ·exact hd.elim
 | unit =>
   intro cs azz K h hd
   exact⟨(),true,cs,[],azz,hd,rfl,rfl,h⟩
 | pair A B iha ihb =>
   intro cs azz K h hd
   unfold dec at hd
   obtain⟨x,o,r,a1,a2,h1,rfl,h3,h4⟩:=iha h hd
   obtain⟨y,o',r',b1,b2,k1,rfl,k3,k4⟩:=ihb h4 h1
   refine⟨(x,y),o&&o',r',a1++b1,b2,k1,by rw[bM],⟨a1,b1,rfl,?_,?_⟩,k4⟩
   ·exact RT.mono (jJ (fun e=>by simp at e;exact e.1)) _ _ _ h3
   ·exact RT.mono (jJ (fun e=>by simp at e;exact e.2)) _ _ _ k3
theorem JZ (T:Ty):∀ (n:Nat) {cs:List VV} {azz:List Value} {K:List T.den->Bool->Prop},All2 (RL c) cs azz->YT T n cs K->∃ l o,K l o/\l.length=n/\RC (cA o c.n0 c.F) T l azz:=by
 intro n
 induction n with
 | zero =>
   intro cs azz K h hd
   unfold YT at hd
   split at hd
   ·cases h;exact⟨[],true,hd,rfl,RC.nil _ _⟩
   ·exact hd.elim
 | succ n ih =>
   intro cs azz K h hd
   unfold YT at hd
   obtain⟨x,o,r,a1,a2,h1,rfl,h3,h4⟩:=EU T h hd
   obtain⟨l,o',k1,k2,k3⟩:=ih h4 h1
   refine⟨x::l,o&&o',k1,by simp[k2],RC.cons ?_ ?_⟩
   ·exact RT.mono (jJ (fun e=>by simp at e;exact e.1)) _ _ _ h3
   ·exact k3.mono (jJ (fun e=>by simp at e;exact e.2))
end
end Go.Mach
namespace Go.Mach
set_option linter.unusedVariables false
set_option linter.unusedSimpArgs false
theorem All2.mapM {α β γ:Type}{R:α->β->Prop}{T:γ->β->Prop}{f:α->γ}:∀ {l:List α} {m:List β},All2 R l m->(∀ a∈l,∀ b,R a b->T (f a) b)->All2 T (l.map f) m
 | _,_,.nil,_ => .nil
 | _,_,.cons h t,hf => .cons (hf _ cN _ h) (t.mapM fun a ha=>hf a (dA _ ha))
def VOut (F0:Fz)(H0:Base)(c:Ctx)(v:VV)(h':List VO)(a:Value)(H':aD):Prop:=∃ c',Le c c'/\c'.h=h'/\Ok F0 H0 c' H'/\R2 c' v a
def nY (G:Cfg)(fl:Nat)(F0:Fz)(H0:Base)(c:Ctx)(H:aD)(op:Op)(ta:aE)(K:VV->List VO->Prop):Prop :=
 ∃ v h' a H',K v h'/\(aJ G.P fl op (eval ta) H=some (.value a,H')\/(aJ G.P fl op (eval ta) H=some (.skip,H')/\a=undef))/\VOut F0 H0 c v h' a H'
section
variable {G:Cfg} {F0:Fz} {H0:Base} {c c':Ctx} {H H':aD} {t:List (Nat×VV)} {ta:aE} {n fl:Nat} {K:VV->List VO->Prop}
theorem VOut.same (hok:Ok F0 H0 c H){v:VV}{a:Value}(h:R2 c v a):VOut F0 H0 c v c.h a H:=⟨c,Le.refl c,rfl,hok,h⟩
theorem aY {op:Op}{v:VV}{a:Value}(hok:Ok F0 H0 c H)(hk:K v c.h)(hp:aJ G.P fl op (eval ta) H=some (.value a,H))(hr:R2 c v a):nY G fl F0 H0 c H op ta K :=
 ⟨v,c.h,a,H,hk,.inl hp,VOut.same hok hr⟩
theorem dQ {op:Op}{v:Value}(hok:Ok F0 H0 c H)(hk:K (.pl v) c.h)(hp:aJ G.P fl op (eval ta) H=some (.value v,H))(hv:fX v=true):nY G fl F0 H0 c H op ta K :=
 aY hok hk hp ⟨rfl,hv⟩
theorem aEM {x:Operand}(hok:Ok F0 H0 c H)(ht:Tok c t ta)(hx:aG n x=true)(hv:b9 G (.move x) t c.h K):nY G fl F0 H0 c H (.move x) ta K :=
 aY hok hv rfl (cD ht hx)
theorem ZK {x:Operand}(hok:Ok F0 H0 c H)(ht:Tok c t ta)(hx:aG n x=true)(hv:b9 G (.assign x) t c.h K):nY G fl F0 H0 c H (.assign x) ta K :=
 aY hok hv rfl (cD ht hx)
theorem aBU {c:Ctx}{b:Nat}{cs:List VV}{fr:Bool}:R2 (mI c (some b) (.box cs fr)) (.ptr c.h.length 0) (.pointer (some ⟨b,0,none⟩)) :=
 ⟨b,cs,fr,QX,addC_ρ,rfl⟩
theorem rU {c:Ctx}{a:Option Nat}{q:Bool}{T:Ty}{l:List T.den}{fr:Bool}{k:Nat}(hk:k=l.length):R2 (mI c a (.lst q T l fr)) (.own c.h.length) (sl a k):=by
 subst hk
 show RL (mI c a (.lst q T l fr)) (.own c.h.length) (sl a l.length)
 simp only[RL,QX,addC_ρ]
theorem aBg {ty:TypeId}(hok:Ok F0 H0 c H)(hv:b9 G (.alloc ty) t c.h K):nY G fl F0 H0 c H (.alloc ty) ta K:=by
 simp only[b9]at hv
 cases hz:cS G.P ty with
 | none=>simp only[hz]at hv
 | some cs =>
   simp only[hz]at hv
   refine⟨_,_,_,_,hv,.inl ?_,_,gT _ _,rfl,hok.addBox (qC (mB hz)),aBU⟩
   simp only[aJ,hz]
theorem aGM {ty:TypeId}{x:Operand}(hok:Ok F0 H0 c H)(ht:Tok c t ta)(hx:aG n x=true)(hv:b9 G (.box ty x) t c.h K):nY G fl F0 H0 c H (.box ty x) ta K:=by
 simp only[b9]at hv
 split at hv
 ·rename_i hc
  exact⟨_,_,_,_,hv,.inl rfl,_,gT _ _,rfl,hok.addBox (tY hc (cD ht hx)).1,aBU⟩
 ·exact hv.elim
theorem yM (ht:Tok c t ta){ps:List (Nat×Operand)}(hx:∀ p∈ps,aG n p.2=true):All2 (fun p q=>p.1=q.1/\R2 c p.2 q.2) (ps.map fun p=>(p.1,evV t p.2)) (ps.map fun p=>(p.1,eval ta p.2)):=by
 induction ps with
 | nil=>exact .nil
 | cons p ps ih=>exact .cons ⟨rfl,cD ht (hx p cN)⟩ (ih fun q hq=>hx q (dA _ hq))
theorem aA9 {ty:TypeId}{parts:Array (Nat×Operand)}(hok:Ok F0 H0 c H)(ht:Tok c t ta)(hx:∀ p∈parts.toList,aG n p.2=true)(hv:b9 G (.build ty parts) t c.h K):nY G fl F0 H0 c H (.build ty parts) ta K:=by
 simp only[b9]at hv
 cases hz:cS G.P ty with
 | none=>grind
 | some z =>
   cases hty:aTy G.P ty with
   | struct sz fs =>
     simp only[hty,hz]at hv
     obtain⟨cs,bs,h1,h2,h3⟩:=sH _ _ (yM ht hx) (qC (mB hz)) hv
     refine aY hok h1 ?_ (a := .agg bs.toArray) ⟨bs,rfl,h3⟩
     simp only[aJ,hty,hz,h2]
   | array m e es sz =>
     simp only[hty,hz]at hv
     obtain⟨cs,bs,h1,h2,h3⟩:=sH _ _ (yM ht hx) (qC (mB hz)) hv
     refine aY hok h1 ?_ (a := .agg bs.toArray) ⟨bs,rfl,h3⟩
     simp only[aJ,hty,hz,h2]
   | one=>simp only[hty,hz]at hv
   | str=>simp only[hty,hz]at hv
   | slice _ _ _=>simp only[hty,hz]at hv
   | other=>simp only[hty,hz]at hv
def addF (c:Ctx)(n:Nat)(B:Blk):Ctx:=⟨c.n0,fun b=>if b=n then some B else c.F b,c.ρ,c.h,c.hs⟩
theorem PK (hok:Ok F0 H0 c H)(B:Blk):Le c (addF c H.length B) where
 n0:=rfl
 F:=fun b C e=>by
  show(if b=H.length then some B else c.F b)=_
  rw[aC (by have:=hok.below e;omega)];exact e
 hs:=rfl
 len:=aF _
 ρ:=fun _ _=>rfl
 h:=fun i o e=>⟨o,e,VO.le_refl o⟩
theorem Ok.addF (hok:Ok F0 H0 c H)(B:Blk)(hB:B.alive=true):Ok F0 H0 (addF c H.length B) (H++[B]) where
 n0:=hok.n0
 pre:=hok.pre.trans (Pre.push _ _)
 fz:=fun b C e=>by
  have e:(if b=H.length then some B else c.F b)=some C:=e
  split at e
  ·rename_i hb;cases e;rw[hb];exact rY H B hB
  ·exact(Pre.push H [B]).blk (hok.fz b C e)
 low:=fun b hb=>by
  show(if b=H.length then some B else c.F b)=_
  rw[aC (by have:=hok.pre.len;have:=H0.lt b hb;omega)]
  exact hok.low b hb
 obj:=fun i o hi=>(hok.obj i o hi).mono (PK hok B) rfl (fun b e=>by
  show(if b=H.length then some B else c.F b)=_
  rw[aC (by have:=(hok.blk e).2;omega)]) (fun b C _ hC=>(Pre.push H [B]).blk hC) (Pre.push H [B]).len
 inj:=hok.inj
 bj:=hok.bj
 dom:=hok.dom
theorem MR {ty:TypeId}{len:Nat}{parts:Array (Nat×Operand)}(hok:Ok F0 H0 c H)(ht:Tok c t ta)(hx:∀ p∈parts.toList,aG n p.2=true)(hv:b9 G (.buildSlice ty len parts) t c.h K):nY G fl F0 H0 c H (.buildSlice ty len parts) ta K:=by
 simp only[b9]at hv
 cases hty:aTy G.P ty with
 | slice e es eb =>
   simp only[hty]at hv
   cases hz:cS G.P e with
   | none=>grind
   | some z =>
     cases hT:G.tt e with
     | none =>
       simp only[hz,hT]at hv
       split at hv
       ·rename_i hc
        obtain⟨hc1,hc2⟩:=hc
        obtain⟨cs,bs,h1,h2,h3⟩:=sH _ _ (yM ht hx) (qC (F1 (mB hz) (len*es))) hv
        split at h1
        ·rename_i hl
         obtain⟨hl,_⟩:=hl
         subst hl
         subst hc2
         refine⟨_,_,.slice (some ⟨H.length,0,none⟩) cs.length cs.length,H++[⟨bs,1,true,true⟩],h1,.inl ?_,addF c H.length ⟨bs,1,true,true⟩,PK hok _,rfl,hok.addF _ rfl,?_⟩
         ·simp only[aJ,hty,hc1,aO,hz,h2]
         ·exact⟨H.length,_,_,rfl,by show(if H.length=H.length then _ else _)=_;rw[aA rfl],.inl rfl,h3.mono (RL.mono (PK hok _))⟩
        ·exact h1.elim
       ·exact hv.elim
     | some T =>
       simp only[hz,hT]at hv
       split at hv
       ·rename_i hc
        obtain⟨hc1,hc2⟩:=hc
        obtain⟨cs,bs,h1,h2,h3⟩:=sH _ _ (yM ht hx) (qC (F1 (mB hz) (len*es))) hv
        obtain⟨c1,k1,k2,kn,kρ,k3,k4⟩:=hok.freezes (cs.flatMap kH)
        have hr:All2 (RL c1) (cs.map (eA c.h)) bs:=h3.mapM fun v hv a hr=>oO hok k1 kρ hr fun i hi=>k4 i (List.mem_flatMap.2 ⟨v,hv,hi⟩)
        obtain⟨l,o,g1,g2,g3⟩:=JZ T len hr h1
        have hlen:c1.h.length=c.h.length:=by rw[k2,G9]
        subst hc2
        refine⟨_,_,.slice (some ⟨H.length,0,none⟩) len len,H++[⟨bs,T.w,true,true⟩],g1,.inl ?_,mI c1 (some H.length) (.lst o T l false),k1.trans (gT _ _),?_,?_,?_⟩
        ·simp only[aJ,hty,hc1,aO,hz,h2]
        ·show c1.h++_=_;rw[k2]
        ·exact k3.addLst (ex:=true) (Pre.push _ _) (aF _) (rY H _ rfl) g3
        ·rw[<- hlen];exact rU g2.symm
       ·exact hv.elim
 | one=>simp only[hty]at hv
 | str=>simp only[hty]at hv
 | struct _ _=>simp only[hty]at hv
 | array _ _ _ _=>simp only[hty]at hv
 | other=>simp only[hty]at hv
theorem G2 {α:Type}{l:List α}{i:Nat}{x d:α}(h:l[i]? = some x):l.getD i d=x:=by
 rw[cH,h];rfl
def YU:VV->Value
 | .pl v=>v
 | _=>undef
theorem G8 (c:Ctx)(k:IntKind)(l:List Int):∀ (m i:Nat),All2 (RL c) (rE k l i m) ((rE k l i m).map YU)
 | 0,_ => .nil
 | m+1,i => .cons ⟨rfl,rfl⟩ (G8 c k l m (i+1))
theorem FR (k:IntKind)(l:List Int):∀ (m i:Nat),((rE k l i m).map YU).all (fun v => !lC v)=true
 | 0,_=>rfl
 | m+1,i=>by
   show((!lC (.int k (l.getD i 0)))&&((rE k l (i+1) m).map YU).all (fun v => !lC v))=true
   rw[FR k l m (i+1)];rfl
theorem PZ {F:Fz}{k:IntKind}{l:List Int}{azz:List Value}(h:RC F (.int k) l azz):∀ (m i:Nat),i+m<=l.length->(azz.drop i).take m=(rE k l i m).map YU/\i+m<=azz.length:=by
 have hl:azz.length=l.length:=by have:=h.1;simpa [Ty.w] using this
 intro m
 induction m with
 | zero=>intro i hi;exact⟨by simp[rE],by omega⟩
 | succ m ih =>
   intro i hi
   obtain⟨cs,⟨h1,h2⟩,h3⟩:=h.2 i _ (aM (show i<l.length by omega))
   have h3:cs=[.int k (l[i])]:=h3
   subst h3
   have hlt:i<azz.length:=by omega
   have h2:(azz.drop (i*1)).take 1=[.int k l[i]]:=h2
   rw[mV,wF hlt,List.take_succ_cons,List.take_zero]at h2
   refine⟨?_,by omega⟩
   rw[wF hlt,List.take_succ_cons,(ih (i+1) (by omega)).1]
   simp only[rE,List.map_cons,YU]
   grind
theorem FH {a:ATy}{o:Bool}{T:Ty}{l:List T.den}{ix off:Nat}{K:VV->Prop}(h:YR a o T l ix off K) :
 tR a (enc o T (l.getD ix T.dflt)) off K\/∃ k l' m e sz,∃ (hT:T = .int k),HEq l' l/\a = .array m e 1 sz/\sz=m/\off=0/\0<m/\ix+m<=List.length (l':List Int)/\K (.agg (rE k l' ix m)):=by
 cases T with
 | int k =>
   cases a with
   | array m e es sz =>
     simp only[YR]at h
     split at h
     ·rename_i hc
      obtain⟨rfl,h2,h3,h4⟩:=hc
      exact .inr ⟨k,l,m,e,sz,rfl,HEq.rfl,rfl,h2,h3,h4,h.1,h.2⟩
     ·exact .inl h
   | _=>exact .inl h
 | ref T =>
   simp only[YR]at h
   split at h
   case h_2=>exact h.elim
   split at h
   case isFalse=>exact h.elim
   rename_i h0
   subst h0
   left
   show tR .one (enc o (.ref T) (l.getD ix [])) 0 K
   match e:l.getD ix []with
   | []=>exact h.1 (fun x hx=>by rw[e]at hx;cases hx)
   | [x]=>exact h.2 x e
   | _::_::_=>exact h.1 (fun x hx=>by rw[e]at hx;cases hx)
 | _=>exact .inl h
theorem aD0 {ty:TypeId}{x:Operand}(hok:Ok F0 H0 c H)(ht:Tok c t ta)(hx:aG n x=true)(hv:b9 G (.load ty x) t c.h K):nY G fl F0 H0 c H (.load ty x) ta K:=by
 have hr:=cD ht hx
 simp only[b9]at hv
 cases he:evV t x with
 | ptr i off =>
   rw[he]at hr
   simp only[he]at hv
   obtain⟨b,cs',fr',h1,h2,h3⟩:=wC hr
   split at hv
   ·rename_i cs fr hg
    have hi:=cV hg (by intro e;cases e)
    rw[hi]at h1;cases h1
    obtain⟨b',azz,k1,k2,k3,_⟩:=(hok.obj i _ hi).box _ _ rfl
    rw[h2]at k1;cases k1
    obtain⟨v,a,g1,g2,g3⟩:=oX (es:=0) (ex:=true) (al:=true) k3 hv
    exact aY hok g1 (yB h3 (vX k2 g3)) (rD g2)
   ·exact hv.elim
 | eptr i ix off =>
   rw[he]at hr
   simp only[he]at hv
   split at hv
   ·rename_i q T l fr hg
    have hi:=cV hg (by intro e;cases e)
    obtain⟨b,h1,h2,h3⟩:=OV hr hi
    obtain⟨azz,ex,k1,k2,_⟩:=((hok.obj i _ hi).lst _ _ _ _ rfl).2 b h1
    obtain⟨cs,g1,g2⟩:=k2.2 ix _ (aM h2)
    rcases FH hv with hv|⟨k,l',m,e,sz,hT,hl',hty,he1,he2,he3,hle,hK⟩
    ·rw[G2 (aM h2)]at hv
     obtain⟨v,a,f1,f2,f3⟩:=oX (es:=0) (ex:=true) (al:=true) (RT.enc (c:=c) T _ _ g2) hv
     exact aY hok f1 (yB h3 (vX k1 (I6 (B:=⟨azz,T.w,ex,true⟩) g1 (RT.len _ _ _ g2) f3))) (rD f2)
    ·subst hT
     cases hl'
     subst he1 he2
     have hcs:(azz.drop ix).take sz=(rE k l' ix sz).map YU/\ix+sz<=azz.length:=PZ k2 sz ix hle
     refine aY hok hK (a := .agg ((azz.drop ix).take sz).toArray) ?_ ⟨_,rfl,?_⟩
     ·have hc:fC H ⟨b,ix,none⟩ sz=some ((azz.drop ix).take sz):=by
       unfold fC
       simp only[k1]
       rw[aA ⟨hcs.2,by rw[hcs.1];exact FR k l' sz ix⟩]
      simp only[aJ,h3,Ty.w,mV,Nat.add_zero,lD,hty,hc,Option.map_some]
     ·rw[hcs.1]
      exact G8 c k l' sz ix
   ·exact hv.elim
 | fptr o T l ix off =>
   rw[he]at hr
   simp only[he]at hv
   obtain⟨b,q,B,y,cs,h1,h2,h3,h4,h5⟩:=CK hr
   rw[G2 h3]at hv
   obtain⟨v,a,f1,f2,f3⟩:=oX (es:=0) (ex:=true) (al:=true) (RT.enc (c:=c) T _ _ h5) hv
   exact aY hok f1 (yB h1 (vX (hok.fz b B (pV _ _ h2)) (I6 h4 (RT.len _ _ _ h5) f3))) (rD f2)
 | bx cs off =>
   rw[he]at hr
   simp only[he]at hv
   obtain⟨b,B,h1,h2,h3⟩:=X9 hr
   obtain⟨v,a,f1,f2,f3⟩:=oX (es:=B.es) (ex:=B.exact) (al:=B.alive) h3 hv
   exact aY hok f1 (yB h1 (vX (hok.fz b B h2) f3)) (rD f2)
 | _=>simp only[he]at hv
theorem uN:∀ (is:List Nat) {h:List VO} {i:Nat} {q:Bool} {T:Ty} {l:List T.den} {fr:Bool},h[i]? = some (.lst q T l fr)->∃ fr',(freeze h is)[i]? = some (.lst q T l fr')
 | [],h,i,q,T,l,fr,e=>⟨fr,e⟩
 | j::is,h,i,q,T,l,fr,e=>by
   unfold freeze
   by_cases hij:j=i
   ·subst hij
    refine uN is (fr:=true) ?_
    rw[gQ (bB e),dP e];rfl
   ·refine uN is (fr:=fr) ?_
    rw[dK hij];exact e
theorem EE:∀ (is:List Nat) {h:List VO} {i:Nat} {cs:List VV},h[i]? = some (.box cs true)->(freeze h is)[i]? = some (.box cs true)
 | [],_,_,_,e=>e
 | j::is,h,i,cs,e=>by
   unfold freeze
   by_cases hij:j=i
   ·subst hij
    refine EE is ?_
    rw[gQ (bB e),dP e];rfl
   ·refine EE is ?_
    rw[dK hij];exact e
theorem aCh {ty:TypeId}{x y:Operand}(hfl:Fl fl H0)(hok:Ok F0 H0 c H)(ht:Tok c t ta)(hx:aG n x=true)(hy:aG n y=true)(hv:b9 G (.store ty x y) t c.h K):nY G fl F0 H0 c H (.store ty x y) ta K:=by
 have hr:=cD ht hx
 have hs:=cD ht hy
 simp only[b9]at hv
 cases he:evV t x with
 | ptr i off =>
   rw[he]at hr
   simp only[he]at hv
   obtain⟨b,cs',fr',h1,h2,h3⟩:=wC hr
   split at hv
   ·rename_i cs hg
    have hi:=cV hg (by intro e;cases e)
    rw[hi]at h1;cases h1
    split at hv
    ·rename_i hc
     obtain⟨hc1,hc2,hc3,hc4⟩:=hc
     obtain⟨b',azz,k1,k2,k3,k4,k5⟩:=(hok.obj i _ hi).box _ _ rfl
     rw[h2]at k1;cases k1
     obtain⟨g1,g2⟩:=tY hc3 hs
     have hlen:(eval ta y).cells.toList.length=(c8 (evV t y)).length:=by rw[xE,g2]
     have hsb:tB G.P ty ⟨azz,0,true,true⟩ off (eval ta y)=some ⟨setCells azz off (eval ta y).cells.toList,0,true,true⟩:=by
      unfold tB
      rw[aA ⟨by rw[g2];exact hc1,by rw[hlen,<- k3.len];exact hc2,(G1 hc3 g1).2⟩]
     obtain⟨H',f1,f2,f3⟩:=xY (P:=G.P) (fl:=fl) k2 (hok.fl hfl h2) hsb
     have hle:Le c (kU c i (.box (EY cs' off (c8 (evV t y))) false)):=pS hi trivial
     refine⟨.undef,_,undef,H',hv,.inr ⟨?_,rfl⟩,kU c i (.box (EY cs' off (c8 (evV t y))) false),hle,rfl,?_,trivial⟩
     ·simp only[aJ,h3,f1,Option.map_some]
     ·refine hok.upd hi (by intro e;cases e) trivial h2 (k5 rfl) f3 ?_ (by intro e;cases e)
      exact {
       lo:=fun b' e=>by
        have e:c.ρ i=some b':=e
        have:=hok.blk e
        rw[f3.len];exact this
       box:=fun cs2 fr2 e=>by
        cases e
        exact⟨b,_,h2,f2,(HQ g1 off k3).mono (RL.mono hle),fun e=>(by cases e),fun _=>k5 rfl⟩
       lst:=fun _ _ _ _ e=>(by cases e)
       dead:=fun _ e=>(by cases e) }
    ·exact hv.elim
   ·exact hv.elim
 | eptr i ix off =>
   rw[he]at hr
   simp only[he]at hv
   split at hv
   ·rename_i q T l hg
    have hi:=cV hg (by intro e;cases e)
    split at hv
    case h_2=>exact hv.elim
    rename_i j hey
    split at hv
    case h_2=>exact hv.elim
    rename_i cs frj hgj
    have hj:=cV hgj (by intro e;cases e)
    split at hv
    case isFalse=>exact hv.elim
    rename_i hc
    obtain⟨hc1,rfl⟩:=hc
    split at hv
    case h_2=>exact hv.elim
    rename_i q1 T1 l1 hg1
    rw[hey]at hs
    obtain⟨bj,cs',fr',e1,e2,e3⟩:=wC hs
    obtain⟨b,h1,h2,h3⟩:=OV hr hi
    obtain⟨c1,k1,k2,kn,kρ,k3,k4⟩:=hok.freezes (j::cs.flatMap kH)
    have hi1:c1.h[i]? = some (.lst q (.ref T) l false):=by
     obtain⟨fr',e1⟩:=uN (j::cs.flatMap kH) hi
     have e2:=cV hg1 (by intro e;cases e)
     rw[e1]at e2
     cases e2
     rw[k2];exact e1
    have hj1:c1.h[j]? = some (.box cs true):=by
     rw[k2]
     unfold freeze
     refine EE (cs.flatMap kH) ?_
     rw[gQ (bB hj),dP hj];rfl
    have hρ1:c1.ρ i=some b:=by rw[kρ];exact h1
    obtain⟨azz,ex,m1,m2,m3,m4⟩:=((k3.obj i _ hi1).lst _ _ _ _ rfl).2 b hρ1
    obtain⟨as',ex',m1',m2',_⟩:=((hok.obj i _ hi).lst _ _ _ _ rfl).2 b h1
    rw[m1]at m1';cases m1'
    obtain⟨bj1,bs,n1,n2,n3,n4,_⟩:=(k3.obj j _ hj1).box _ _ rfl
    rw[kρ,e2]at n1;cases n1
    obtain⟨bj2,bs',p1,p2,p3,_⟩:=(hok.obj j _ hj).box _ _ rfl
    rw[e2]at p1;cases p1
    rw[n2]at p2;cases p2
    obtain⟨ds,g1,g2⟩:=m2'.2 ix _ (aM h2)
    have hcl:ds.length=1:=RT.len _ _ _ g2
    have hrel1:All2 (RL c1) (cs.map (eA c.h)) bs :=
     p3.mapM fun v hv' a hr'=>oO hok k1 kρ hr' fun j' hj'=>k4 j' (dA _ (List.mem_flatMap.2 ⟨v,hv',hj'⟩))
    obtain⟨z,o',rest,a1,a2,w1,w2,w3,w4⟩:=EU T hrel1 hv
    subst w2
    have hw3:=RT.len _ _ _ w3
    have hcell:(eval ta y).cells.toList=[.pointer (some ⟨bj,0,none⟩)]:=by rw[e3];rfl
    have hT:RT (cA false c1.n0 c1.F) (.ref T) [z] [.pointer (some ⟨bj,0,none⟩)]:=by
     refine⟨some ⟨bj,0,none⟩,rfl,bj,⟨a1++a2,0,true,true⟩,a1,rfl,?_,⟨by show 0+T.w<=(a1++a2).length;rw[aR];omega,?_⟩,RT.mono (jJ (fun e=>by cases e)) _ _ _ w3⟩
     ·unfold cA
      rw[aC (by simp)]
      exact n4 rfl
     ·show((a1++a2).drop 0).take T.w=a1
      rw[EJ,<- hw3,List.take_left]
    have hb2:ix*1+1<=azz.length:=g1.1
    have hsb:tB G.P ty ⟨azz,1,ex,true⟩ (ix*1+0) (eval ta y)=some ⟨setCells azz (ix*1+0) (eval ta y).cells.toList,1,ex,true⟩:=by
     unfold tB
     have hsz:(eval ta y).cells.size=1:=by rw[<- xE,hcell];rfl
     rw[aA ⟨by rw[hsz];exact hc1,by rw[hcell];show _+1<=azz.length;omega,by rw[hcell];rfl⟩]
    have hset:setCells azz (ix*1+0) (eval ta y).cells.toList=azz.take (ix*1)++[.pointer (some ⟨bj,0,none⟩)]++azz.drop (ix*1+1):=by
     have e0:azz=azz.take (ix*1)++ds++azz.drop (ix*1+1):=by
      have:=g1.2
      rw[show Ty.w (.ref T)=1 from rfl]at this
      rw[<- this,bM,<- s7,nV,nV]
     have e1:(azz.take (ix*1)).length=ix*1:=by rw[eI];omega
     have e2:=tA (eval ta y).cells.toList (azz.take (ix*1)) ds (azz.drop (ix*1+1)) 0 (by rw[hcell,hcl];exact aF _)
     rw[<- e0,e1]at e2
     rw[e2,hcell]
     match ds,hcl with
     | [d],_=>rfl
    obtain⟨H',u1,u2,u3⟩:=xY (P:=G.P) (fl:=fl) m1 (hok.fl hfl h1) hsb
    have hle:Le c1 (kU c1 i (.lst false (.ref T) (l.set ix [z]) false)):=pS hi1 ⟨rfl,by simp⟩
    refine⟨.undef,_,undef,H',w1,.inr ⟨?_,rfl⟩,kU c1 i (.lst false (.ref T) (l.set ix [z]) false),k1.trans hle,?_,?_,trivial⟩
    ·simp only[aJ,h3]
     rw[show ix*Ty.w (.ref T)+0=ix*1+0 from rfl,u1]
     rfl
    ·show c1.h.set i _=_
     rw[k2]
    ·refine k3.upd hi1 (by intro e;cases e) ⟨rfl,by simp⟩ hρ1 (m4 rfl) u3 ?_ (by intro e;cases e)
     exact {
      lo:=fun b' e=>by
       have e:c1.ρ i=some b':=e
       have:=k3.blk e
       rw[u3.len];exact this
      box:=fun _ _ e=>(by cases e)
      lst:=fun q2 T2 l2 fr2 e=>by
       cases e
       refine⟨fun e=>(by have e:c1.ρ i=none:=e;rw[hρ1]at e;cases e),fun b' e => ?_⟩
       have e:c1.ρ i=some b':=e
       rw[hρ1]at e;cases e
       refine⟨_,ex,u2,?_,fun e=>(by cases e),fun _=>m4 rfl⟩
       rw[hset]
       exact(m2.mono (jJ (o':=false) (fun e=>by cases e))).set h2 hT
      dead:=fun _ e=>(by cases e) }
   ·rename_i q T l hnr hg
    have hi:=cV hg (by intro e;cases e)
    split at hv
    ·rename_i hc
     obtain⟨hc1,hc2,hc3,hc4⟩:=hc
     split at hv
     ·rename_i q1 T1 l1 hg1
      obtain⟨b,h1,h2,h3⟩:=OV hr hi
      obtain⟨c1,k1,k2,kn,kρ,k3,k4⟩:=hok.freezes ((EY (enc q T (l.getD ix T.dflt)) off (c8 (evV t y))).flatMap kH)
      have hi1:c1.h[i]? = some (.lst q T l false):=by
       obtain⟨fr',e1⟩:=uN ((EY (enc q T (l.getD ix T.dflt)) off (c8 (evV t y))).flatMap kH) hi
       have e2:=cV hg1 (by intro e;cases e)
       rw[e1]at e2
       cases e2
       rw[k2];exact e1
      have hρ1:c1.ρ i=some b:=by rw[kρ];exact h1
      obtain⟨azz,ex,m1,m2,m3,m4⟩:=((k3.obj i _ hi1).lst _ _ _ _ rfl).2 b hρ1
      obtain⟨as',ex',m1',m2',_⟩:=((hok.obj i _ hi).lst _ _ _ _ rfl).2 b h1
      rw[m1]at m1';cases m1'
      obtain⟨cs,g1,g2⟩:=m2'.2 ix _ (aM h2)
      have hcl:=RT.len _ _ _ g2
      rw[G2 (aM h2)]at hv k4
      obtain⟨f1,f2⟩:=tY hc3 hs
      have hlen:(eval ta y).cells.toList.length=(c8 (evV t y)).length:=by rw[xE,f2]
      have hrel:All2 (RL c) (EY (enc q T l[ix]) off (c8 (evV t y))) (setCells cs off (eval ta y).cells.toList):=HQ f1 off (RT.enc (c:=c) T _ _ g2)
      have hrel1:All2 (RL c1) ((EY (enc q T l[ix]) off (c8 (evV t y))).map (eA c.h)) (setCells cs off (eval ta y).cells.toList) :=
       hrel.mapM fun v hv' a hr'=>oO hok k1 kρ hr' fun j hj=>k4 j (List.mem_flatMap.2 ⟨v,hv',hj⟩)
      obtain⟨z,o',rest,a1,a2,w1,w2,w3,w4⟩:=EU T hrel1 hv
      have ha2:a2=[]:=by
       have e1:=congrArg List.length w2
       rw[L3,hcl,aR,RT.len _ _ _ w3]at e1
       exact List.length_eq_zero_iff.1 (by omega)
      subst ha2
      rw[bJ]at w2
      have hb2:ix*T.w+T.w<=azz.length:=g1.1
      have hsb:tB G.P ty ⟨azz,T.w,ex,true⟩ (ix*T.w+off) (eval ta y)=some ⟨setCells azz (ix*T.w+off) (eval ta y).cells.toList,T.w,ex,true⟩:=by
       unfold tB
       rw[aA ⟨by rw[f2];exact hc1,by rw[hlen];show _<=azz.length;omega,(G1 hc3 f1).2⟩]
      have hset:setCells azz (ix*T.w+off) (eval ta y).cells.toList=azz.take (ix*T.w)++a1++azz.drop (ix*T.w+T.w):=by
       have e0:azz=azz.take (ix*T.w)++cs++azz.drop (ix*T.w+T.w):=by
        rw[<- g1.2,bM,<- s7,nV,nV]
       have e1:(azz.take (ix*T.w)).length=ix*T.w:=by rw[eI];omega
       have e2:=tA (eval ta y).cells.toList (azz.take (ix*T.w)) cs (azz.drop (ix*T.w+T.w)) off (by rw[hlen,hcl];exact hc2)
       rw[<- e0,e1]at e2
       rw[e2,w2]
      obtain⟨H',u1,u2,u3⟩:=xY (P:=G.P) (fl:=fl) m1 (hok.fl hfl h1) hsb
      have hle:Le c1 (kU c1 i (.lst (q&&o') T (l.set ix z) false)):=pS hi1 ⟨rfl,by simp⟩
      refine⟨.undef,_,undef,H',w1,.inr ⟨?_,rfl⟩,kU c1 i (.lst (q&&o') T (l.set ix z) false),k1.trans hle,?_,?_,trivial⟩
      ·simp only[aJ,h3,u1,Option.map_some]
      ·show c1.h.set i _=_
       rw[k2,G2 (aM h2)]
      ·refine k3.upd hi1 (by intro e;cases e) ⟨rfl,by simp⟩ hρ1 (m4 rfl) u3 ?_ (by intro e;cases e)
       exact {
        lo:=fun b' e=>by
         have e:c1.ρ i=some b':=e
         have:=k3.blk e
         rw[u3.len];exact this
        box:=fun _ _ e=>(by cases e)
        lst:=fun q2 T2 l2 fr2 e=>by
         cases e
         refine⟨fun e=>(by have e:c1.ρ i=none:=e;rw[hρ1]at e;cases e),fun b' e => ?_⟩
         have e:c1.ρ i=some b':=e
         rw[hρ1]at e;cases e
         refine⟨_,ex,u2,?_,fun e=>(by cases e),fun _=>m4 rfl⟩
         rw[hset]
         exact(m2.mono (jJ (fun e=>by simp at e;exact e.1))).set h2 (RT.mono (jJ (fun e=>by simp at e;exact e.2)) _ _ _ w3)
        dead:=fun _ e=>(by cases e) }
     ·exact hv.elim
    ·exact hv.elim
   ·exact hv.elim
 | _=>simp only[he]at hv
theorem S2 {x:Operand}(hok:Ok F0 H0 c H)(ht:Tok c t ta)(hx:aG n x=true)(hv:b9 G (.nilCheck x) t c.h K):nY G fl F0 H0 c H (.nilCheck x) ta K:=by
 have hr:=cD ht hx
 simp only[b9]at hv
 cases he:evV t x with
 | ptr i off =>
   rw[he]at hr;simp only[he]at hv
   obtain⟨b,cs',fr',h1,h2,h3⟩:=wC hr
   exact aY hok hv (by simp only[aJ,h3]) ⟨b,cs',fr',h1,h2,rfl⟩
 | eptr i ix off =>
   rw[he]at hr;simp only[he]at hv
   obtain⟨b,h1,h2⟩:RL c (.eptr i ix off) (eval ta x):=hr
   have:∃ p,eval ta x = .pointer (some p):=by
    grind
   obtain⟨p,hp⟩:=this
   refine aY hok hv (a:=eval ta x) ?_ ⟨b,h1,h2⟩
   simp only[aJ,hp]
 | fptr o T l ix off =>
   rw[he]at hr;simp only[he]at hv
   have hr':=hr
   obtain⟨b,q,B,y,cs,h1,_⟩:=CK hr'
   refine aY hok hv (a:=eval ta x) ?_ hr
   simp only[aJ,h1]
 | bx l off =>
   rw[he]at hr;simp only[he]at hv
   have hr':=hr
   obtain⟨b,B,h1,_⟩:=X9 hr'
   refine aY hok hv (a:=eval ta x) ?_ hr
   simp only[aJ,h1]
 | _=>simp only[he]at hv
end
end Go.Mach
namespace Go.Mach
set_option linter.unusedVariables false
set_option linter.unusedSimpArgs false
section
variable {G:Cfg} {F0:Fz} {H0:Base} {c c':Ctx} {H H':aD} {t:List (Nat×VV)} {ta:aE} {n fl:Nat} {K:VV->List VO->Prop}
theorem z7 {op:BinOp}{a b:Value}{K:Value->Prop}(h:aA6 op a b K):∃ v,K v/\fI op a b=some v/\fX v=true/\(PN a=true->∃ x,a = .bool x):=by
 have hb:PN a=true->∃ x,a = .bool x:=by
  intro e;cases a <;> first|exact⟨_,rfl⟩|cases e
 unfold aA6 at h
 split at h <;> try exact h.elim
 all_goals first
  | (obtain⟨h1,h2⟩:=h;refine⟨_,h2,?_,rfl,hb⟩;simp only[fI];rw[aC (Int.not_lt.2 h1)])
  | (obtain⟨h1,h2⟩:=h;refine⟨_,h2,?_,rfl,hb⟩;simp only[fI];rw[aA h1])
  | (split at h
     ·rename_i e;subst e
      first
       | exact⟨_,h,by simp[fI],rfl,hb⟩
       | (obtain⟨h1,h2⟩:=h;exact⟨_,h2,by simp[fI,h1],rfl,hb⟩)
     ·exact h.elim)
  | exact⟨_,h,by simp[fI],rfl,hb⟩
theorem M6 {op:BinOp}{a b:Value}{K:Value->Prop}(h:vfl op a b K):∃ v,K v/\aFl op a b=some v/\fX v=true/\fI op a b=none:=by
 unfold vfl at h
 split at h
 ·split at h
  ·rename_i e;subst e;exact⟨_,h,by simp only[aFl,aO],rfl,rfl⟩
  ·exact h.elim
 ·split at h
  ·rename_i e;subst e;exact⟨_,h,by simp only[aFl,aO],rfl,rfl⟩
  ·exact h.elim
 ·split at h
  ·rename_i e;subst e;exact⟨_,h,by simp only[aFl,aO],rfl,rfl⟩
  ·exact h.elim
 ·split at h
  ·rename_i e;subst e;obtain⟨r,h1,h2⟩:=h;exact⟨_,h2,by simp only[aFl,aO,h1,Option.map_some],rfl,rfl⟩
  ·exact h.elim
 ·split at h
  ·rename_i e;subst e;obtain⟨r,h1,h2⟩:=h;exact⟨_,h2,by simp only[aFl,aO,h1,Option.map_some],rfl,rfl⟩
  ·exact h.elim
 ·obtain⟨r,h1,h2⟩:=h;exact⟨_,h2,by simp only[aFl,h1,Option.map_some],rfl,rfl⟩
 ·exact h.elim
theorem aDR {P:Program}{op:BinOp}{t:TypeId}{q:Bool}{a b:Value}(h:aIC a=true):S4 P op t q a b=none:=by
 have he:vE P t q a b=none:=by
  unfold vE
  cases a <;> first|(cases h;done)|(split <;> rfl)
 unfold S4
 cases op <;> simp only[he,Option.map_none]
theorem NH {op:UnOp}{a:Value}{K:Value->Prop}(h:vun op a K):∃ v,K v/\aUn op a=some v/\fX v=true:=by
 unfold vun at h
 split at h
 ·exact⟨_,h,rfl,rfl⟩
 ·exact⟨_,h,rfl,rfl⟩
 ·exact⟨_,h,rfl,rfl⟩
 ·exact h.elim
theorem aCo {op:BinOp}{x y:Value}(hy:TD (.pl y)=true):fI op x y=none:=by
 unfold TD at hy
 split at hy
 ·rename_i e;cases e;unfold fI;split <;> first|rfl|simp_all
 ·rename_i e;cases e;unfold fI;split <;> first|rfl|simp_all
 ·rename_i e;cases e;unfold fI;split <;> first|rfl|simp_all
 ·rename_i e;cases e;unfold fI;split <;> first|rfl|simp_all
 ·cases hy
theorem aAo {v:VV}(h:TD v=true):∃ y,v = .pl y:=by
 unfold TD at h
 grind
theorem HC {P:Program}{ty:TypeId}{q:Bool}{v w:VV}{a y:Value}{K:Bool->Prop}(hok:Ok F0 H0 c H)(hr:R2 c v a)(hy:R2 c w y)(h:ZP (P.underlying ty) q c.h v w K):∃ b,K b/\vE P ty q a y=some b:=by
 unfold ZP at h
 unfold vE
 split at h
 ·rename_i hu;obtain⟨rfl,_⟩:=cY hy;obtain⟨rfl,_⟩:=cY hr;exact⟨true,h,by simp[hu]⟩
 ·rename_i hu;obtain⟨rfl,_⟩:=cY hy
  obtain⟨ad,k,rfl,h2⟩:=ND hr
  cases ad with
  | none =>
    rcases h2.at_ with e|⟨b,o,B,e,_⟩
    ·exact⟨true,h.1 e,by simp[hu]⟩
    ·cases e
  | some ad=>exact⟨false,h.2,by simp[hu]⟩
 ·rename_i i hu
  obtain⟨rfl,_⟩:=cY hy
  split at h
  ·rename_i hg
   have hi:=cV hg (by intro e;cases e)
   have ha:=pJ hr hi
   subst ha
   cases e:c.ρ i with
   | none=>exact⟨true,h.1 (((hok.obj i _ hi).lst _ _ _ _ rfl).1 e),by simp[hu,sl,e]⟩
   | some b=>exact⟨false,h.2,by simp[hu,sl,e]⟩
  ·exact h.elim
 ·rename_i hu;obtain⟨rfl,_⟩:=cY hy;obtain⟨rfl,_⟩:=cY hr;exact⟨true,h,by simp[hu]⟩
 ·rename_i hu
  obtain⟨rfl,_⟩:=cY hy
  obtain⟨azz,rfl,_⟩:=hr
  exact⟨false,h,by simp[hu]⟩
 ·rename_i hu;obtain⟨rfl,_⟩:=cY hy;obtain⟨rfl,_⟩:=cY hr;exact⟨true,h,by simp[hu]⟩
 ·rename_i hu;obtain⟨rfl,_⟩:=cY hy
  obtain⟨b,_,_,_,_,rfl⟩:=wC hr
  exact⟨false,h,by simp[hu]⟩
 ·rename_i hu;obtain⟨rfl,_⟩:=cY hy
  obtain⟨b,q,B,y,cs,rfl,_⟩:=CK hr
  exact⟨false,h,by simp[hu]⟩
 ·rename_i hu;obtain⟨rfl,_⟩:=cY hy;obtain⟨rfl,_⟩:=cY hr
  grind
 ·rename_i hu;obtain⟨rfl,_⟩:=cY hy
  split at h
  ·rename_i hq
   rcases hr with⟨rfl,rfl⟩|⟨rfl,_,_,rfl⟩
   ·exact⟨true,h,by simp[hu,hq]⟩
   ·exact⟨false,h,by simp[hu]⟩
  ·exact h.elim
 ·exact h.elim
theorem NA {P:Program}{t:TypeId}{c:Bool}{xs ys:Array Value}:vE P t c (.agg xs) (.agg ys)=none:=by
 unfold vE
 split <;> first|rfl|(split <;> first|rfl|simp_all)
theorem u6 {P:Program}{c:Ctx}:∀ {l:List (TypeId×Nat)} {xs ys:List VV} {azz bs:List Value} {K:Bool->Prop},All2 (RL c) xs azz->All2 (RL c) ys bs->oU P l xs ys K->∃ b,K b/\oD P l azz bs=some b
 | [],_,_,_,_,K,_,_,h=>⟨true,h,rfl⟩
 | (t,o)::r,xs,ys,azz,bs,K,hx,hy,h=>by
   simp only[oU]at h
   split at h
   case h_2=>exact h.elim
   rename_i x y h1 h2
   obtain⟨a,a1,a2⟩:=hx.get h1
   obtain⟨b,b1,b2⟩:=hy.get h2
   have key:∃ e,D7 (P.underlying t) a b=some e/\oU P r xs ys fun b'=>K (e&&b'):=by
    unfold aCa at h
    split at h
    ·rename_i hd
     obtain⟨rfl,_⟩:=a2
     obtain⟨rfl,_⟩:=b2
     split at h
     ·rename_i hk
      exact⟨_,by rw[hd];simp only[D7,hk,aO],h⟩
     ·exact h.elim
    ·rename_i hd
     obtain⟨rfl,_⟩:=a2
     obtain⟨rfl,_⟩:=b2
     exact⟨_,by rw[hd];rfl,h⟩
    ·exact h.elim
   obtain⟨e,e1,e2⟩:=key
   obtain⟨b',k1,k2⟩:=u6 hx hy e2
   exact⟨_,k1,by simp only[oD,a1,b1,e1,k2]⟩
theorem aCl {op:BinOp}{ty ty2:TypeId}{x y:Operand}(hok:Ok F0 H0 c H)(ht:Tok c t ta)(hx:aG n x=true)(hy:aG n y=true)(hv:b9 G (.binOp op ty x y ty2) t c.h K):nY G fl F0 H0 c H (.binOp op ty x y ty2) ta K:=by
 have hr:=cD ht hx
 have hs:=cD ht hy
 simp only[b9]at hv
 split at hv
 ·rename_i hn
  obtain⟨z,hz⟩:=aAo hn
  have hz2:=hz▸hs
  obtain⟨he,_⟩:=cY hz2
  have hab:∀ op,fI op (eval ta x) (eval ta y)=none:=fun op=>by rw[he];exact aCo (by rw[<- hz];exact hn)
  split at hv
  ·obtain⟨b,h1,h2⟩:=HC (q:=bR x||bR y) hok hr hs hv
   refine dQ hok h1 ?_ rfl
   simp only[aJ,nM,S4,hab,h2,Option.map_some]
  ·obtain⟨b,h1,h2⟩:=HC (q:=bR x||bR y) hok hr hs hv
   refine dQ hok h1 ?_ rfl
   simp only[aJ,nM,S4,hab,h2,Option.map_some]
  ·exact hv.elim
 ·split at hv
  ·rename_i a b he1 he2
   rw[he1]at hr
   rw[he2]at hs
   obtain⟨e1,_⟩:=cY hr
   obtain⟨e2,_⟩:=cY hs
   split at hv
   ·rename_i hb hu
    obtain⟨v,h1,h2,h3,h4⟩:=z7 hv
    refine dQ hok h1 ?_ h3
    obtain⟨x',rfl⟩:=h4 hb
    simp only[aJ,nM,e1,e2,h2,DX,hu,aO,Option.map_some]
   ·rename_i hb
    split at hv
    ·rename_i hfl
     obtain⟨v,h1,h2,h3,h4⟩:=M6 hv
     refine dQ hok h1 ?_ h3
     simp only[aJ,nM,e1,e2,h4,aDR hfl,h2,Option.map_some]
    obtain⟨v,h1,h2,h3,h4⟩:=z7 hv
    refine dQ hok h1 ?_ h3
    have hbt:DX G.P ty a=true:=by
     unfold DX
     split
     ·simp[PN]at hb
     ·rfl
    simp only[aJ,nM,e1,e2,h2,hbt,aO,Option.map_some]
   ·exact hv.elim
  ·rename_i xs ys he1 he2
   rw[he1]at hr
   rw[he2]at hs
   obtain⟨azz,ha,hxs⟩:=hr
   obtain⟨bs,hb,hys⟩:=hs
   unfold O7 at hv
   split at hv
   case h_2=>exact hv.elim
   rename_i l hl hg hi
   split at hv
   ·obtain⟨b,h1,h2⟩:=u6 hxs hys hv
    refine dQ hok h1 ?_ rfl
    have h3:zH G.P ty (.agg azz.toArray) (.agg bs.toArray)=some b:=by
     simp only[zH,hl,hg,hi,eK,Bool.true_eq_false,or_self,aS]
     simpa using h2
    simp only[aJ,nM,ha,hb,fI,S4,NA,aFl,eqA,h3,Option.map_some,Option.map_none]
   ·obtain⟨b,h1,h2⟩:=u6 hxs hys hv
    refine dQ hok h1 ?_ rfl
    have h3:zH G.P ty (.agg azz.toArray) (.agg bs.toArray)=some b:=by
     simp only[zH,hl,hg,hi,eK,Bool.true_eq_false,or_self,aS]
     simpa using h2
    simp only[aJ,nM,ha,hb,fI,S4,NA,aFl,eqA,h3,Option.map_some,Option.map_none]
   ·exact hv.elim
  ·exact hv.elim
theorem aDk {op:UnOp}{ty:TypeId}{x:Operand}(hok:Ok F0 H0 c H)(ht:Tok c t ta)(hx:aG n x=true)(hv:b9 G (.unOp op ty x) t c.h K):nY G fl F0 H0 c H (.unOp op ty x) ta K:=by
 have hr:=cD ht hx
 simp only[b9]at hv
 split at hv
 ·rename_i a he
  rw[he]at hr
  obtain⟨e1,_⟩:=cY hr
  obtain⟨v,h1,h2,h3⟩:=NH hv
  exact dQ hok h1 (by simp only[aJ,e1,h2,Option.map_some]) h3
 ·exact hv.elim
theorem SR {F:Fz}{l:List Int}{azz:List Value}(h:RC F (.int .u8) l azz):azz=l.map fun z => .int .u8 z:=by
 apply wQ
 intro i
 have hlen:azz.length=l.length:=by rw[h.1];exact mV _
 by_cases hi:i<l.length
 ·have hx:l[i]? = some l[i]:=aM hi
  obtain⟨cs,⟨g1,g2⟩,g3⟩:=h.2 i _ hx
  have hcs:cs=[.int .u8 l[i]]:=g3
  subst hcs
  have g2:(azz.drop (i*1)).take 1=[.int .u8 l[i]]:=g2
  rw[mV]at g2
  have h1:((azz.drop i).take 1)[0]? = some (.int .u8 l[i]):=by rw[g2];rfl
  rw[List.getElem?_take,aA Nat.one_pos,q8,Nat.add_zero]at h1
  rw[h1,b8,hx]
  rfl
 ·rw[qX (by omega),qX (by simp;omega)]
theorem OS (l:List Int):eZ (l.map fun z => .int .u8 z)=some (l.map fun z=>UInt8.ofNat z.toNat):=by
 induction l with
 | nil=>rfl
 | cons z l ih=>simp only[List.map_cons,eZ,ih,Option.map_some]
theorem AL {e d s:TypeId}{a:Option Addr}{k:Nat}{l:List Int}(h1:G.P.underlying s=some (.slice e))(h2:G.P.underlying d=some .string)(h3:G.P.underlying e=some (.int .u8))
 (h:∃ new,cU H 1 l.length (.slice a l.length k)=some new/\new=l.map fun z => .int .u8 z) (h0:a=none->l=[]) (hsd:s≠d) :
 kY G.P fl s d (.slice a l.length k) H=none/\kF G.P s d (.slice a l.length k) H=some (.string (pD l),H):=by
 refine⟨?_,?_⟩
 ·unfold kY
  split
  ·rename_i he
   rw[aC (fun h=>hsd h.1)]
  ·rfl
 ·obtain⟨new,g1,rfl⟩:=h
  unfold kF
  cases a with
  | none =>
    rw[h0 rfl]
    simp only[h1,h2,h3]
    rfl
  | some a =>
    simp only[h1,h2,h3]
    by_cases hl:l.length=0
    ·rw[aA hl,List.length_eq_zero_iff.1 hl]
     rfl
    ·rw[aC hl]
     simp only[cU,mV,aC hl]at g1
     rw[g1]
     simp only[OS]
     rfl
theorem aBF {s d:TypeId}{x:Operand}(hok:Ok F0 H0 c H)(hr:R2 c (evV t x) (eval ta x))(hv:HO G.P (G.P.underlying s) (G.P.underlying d) (evV t x) c.h K):nY G fl F0 H0 c H (.convert s d x) ta K:=by
 unfold HO at hv
 split at hv
 ·rename_i e h1 h2
  unfold V9 at hv
  split at hv
  ·rename_i b h3 he
   rw[he]at hr
   obtain⟨e1,_⟩:=cY hr
   obtain⟨hb,hv⟩:=hv
   have hl:(qL b).length=b.size:=by unfold qL;rw[e8,xE];rfl
   refine⟨_,_,.slice (some ⟨H.length,0,none⟩) b.size b.size,H++[⟨b.data.toList.map fun c => .int .u8 c.toNat,1,false,true⟩],hv,.inl ?_,mI c (some H.length) (.lst true (.int .u8) (qL b) false),gT _ _,rfl,?_,?_⟩
   ·simp only[aJ,kY,kF,e1,h1,h2,h3]
    rw[aA (show b.size<=2 ^ 60 from hb)]
    rfl
   ·refine hok.addLst (ex:=false) (Pre.push _ _) (aF _) (rY H _ rfl) ⟨by unfold qL;rw[e8,e8];exact(mV _).symm,fun i x hxx=>⟨[.int .u8 x],?_,rfl⟩⟩
    unfold qL at hxx
    rw[b8]at hxx
    cases hy:b.data.toList[i]? with
    | none=>rw[hy]at hxx;cases hxx
    | some y =>
      rw[hy]at hxx
      cases hxx
      have hi:=(List.getElem?_eq_some_iff.1 hy).1
      refine⟨by show i*1+1<=_;rw[e8];omega,?_⟩
      show((b.data.toList.map fun c=>Value.int .u8 c.toNat).drop (i*1)).take 1=[.int .u8 (y.toNat:Int)]
      rw[mV,wF (by rw[e8];exact hi)]
      simp only[List.take_succ_cons,List.take_zero,List.getElem_map]
      rw[(List.getElem?_eq_some_iff.1 hy).2]
   ·exact rU (a:=some H.length) (k:=b.size) hl.symm
  ·exact hv.elim
 ·rename_i e h1 h2
  unfold VJ at hv
  split at hv
  ·rename_i h3
   have hsd:s≠d:=fun e=>by rw[e,h2]at h1;cases h1
   unfold UQ at hv
   split at hv
   ·rename_i o l he
    rw[he]at hr
    obtain⟨ad,k,e1,g⟩:=hr
    obtain⟨new,k1,k2⟩:=RM (H:=H) (fun b B e=>hok.fz b B (pV _ _ e)) g rfl
    obtain⟨g1,g2⟩:=AL (G:=G) (H:=H) (fl:=fl) (k:=k) h1 h2 h3 ⟨new,k1,SR k2⟩ (fun e=>by
     rcases g.at_ with e'|⟨b,o,B,e',_⟩
     ·exact e'
     ·rw[e]at e';cases e') hsd
    exact dQ hok hv (by simp only[aJ,e1,g1,g2,Option.map_some]) rfl
   ·rename_i i he
    rw[he]at hr
    unfold T9 at hv
    split at hv
    ·rename_i o l fr hi
     have hi:=cV hi (by intro e;cases e)
     have hr:RL c (.own i) (eval ta x):=hr
     simp only[RL,hi]at hr
     obtain⟨k1,k2⟩:=(hok.obj i _ hi).lst _ _ _ _ rfl
     obtain⟨new,m1,m2⟩:=E3 (H:=H) (F:=cA o c.n0 c.F) (k:=l.length) (n:=l.length) k1 (fun b e=>by obtain⟨azz,ex,m1,m2,_⟩:=k2 b e;exact⟨azz,ex,m1,m2⟩) rfl
     obtain⟨g1,g2⟩:=AL (G:=G) (H:=H) (fl:=fl) (k:=l.length) h1 h2 h3 ⟨new,m1,SR m2⟩ (fun e=>k1 (by cases h:c.ρ i with
      | none=>rfl
      | some b=>rw[h]at e;cases e)) hsd
     have hr:eval ta x = .slice ((c.ρ i).map fun b=>⟨b,0,none⟩) l.length l.length:=hr
     exact dQ hok hv (by simp only[aJ,hr,g1,g2,Option.map_some]) rfl
    ·exact hv.elim
   ·rename_i k he
    rw[he]at hr
    obtain⟨e1,_⟩:=cY hr
    obtain⟨g1,g2⟩:=AL (G:=G) (H:=H) (fl:=fl) (a:=none) (k:=k) (l:=[]) h1 h2 h3 ⟨[],rfl,rfl⟩ (fun _=>rfl) hsd
    exact dQ hok hv (by simp only[aJ,e1];rw[show(Value.slice none 0 k) = .slice none ([]:List Int).length k from rfl,g1];simp only[g2,Option.map_some]) rfl
   ·exact hv.elim
  ·exact hv.elim
 ·exact hv.elim
theorem aD1 {s:TypeId}{x:Operand}(hfl:Fl fl H0)(hok:Ok F0 H0 c H)(hr:R2 c (evV t x) (eval ta x))(hv:PO G.P (G.P.underlying s) (evV t x) c.h K):nY G fl F0 H0 c H (.convert s s x) ta K:=by
 unfold PO at hv
 split at hv
 case h_2=>exact hv.elim
 rename_i e h1
 split at hv
 case h_2=>exact hv.elim
 rename_i h2
 split at hv
 case h_2=>exact hv.elim
 rename_i i he
 split at hv
 case h_2=>exact hv.elim
 rename_i o T l fr hi
 obtain⟨hne,hv⟩:=hv
 have hi:=cV hi (by intro e;cases e)
 rw[he]at hr
 have hr2:RL c (.own i) (eval ta x):=hr
 simp only[RL,hi]at hr2
 obtain⟨k1,k2⟩:=(hok.obj i _ hi).lst _ _ _ _ rfl
 cases hρ:c.ρ i with
 | none=>exact absurd (k1 hρ) hne
 | some b =>
   obtain⟨azz,ex,m1,_⟩:=k2 b hρ
   rw[hρ]at hr2
   obtain⟨m,hm⟩:∃ m,l.length=m+1:=⟨l.length-1,by have:l.length≠0:=fun e=>hne (List.length_eq_zero_iff.1 e);omega⟩
   have hr3:eval ta x = .slice (some ⟨b,0,none⟩) (m+1) (m+1):=by rw[hr2];unfold sl;rw[hm];rfl
   have hmk:kY G.P fl s s (eval ta x) H=some (eval ta x):=by
    rw[hr3]
    unfold kY
    simp only
    rw[aA ⟨trivial,hok.fl hfl hρ,by rw[m1];rfl⟩]
    simp only[h1,h2]
   exact aY hok hv (by simp only[aJ,hmk]) hr
theorem WB {s d:TypeId}{x:Operand}(hfl:Fl fl H0)(hok:Ok F0 H0 c H)(ht:Tok c t ta)(hx:aG n x=true)(hv:b9 G (.convert s d x) t c.h K):nY G fl F0 H0 c H (.convert s d x) ta K:=by
 have hr:=cD ht hx
 simp only[b9]at hv
 split at hv
 ·rename_i h1 h2 he
  rw[he]at hr
  obtain⟨e1,_⟩:=cY hr
  exact dQ hok hv (by simp only[aJ,kY,kF,e1,h1,h2,Option.map_some]) rfl
 ·rename_i h1 h2 he
  rw[he]at hr
  obtain⟨e1,_⟩:=cY hr
  exact dQ hok hv (by simp only[aJ,kY,kF,e1,h1,h2,Option.map_some]) rfl
 ·rename_i h1 h2 he
  rw[he]at hr
  obtain⟨e1,_⟩:=cY hr
  exact dQ hok hv (by simp only[aJ,kY,kF,e1,h1,h2,Option.map_some]) rfl
 ·rename_i h1 h2 he
  rw[he]at hr
  obtain⟨e1,_⟩:=cY hr
  obtain⟨m,k1,k2⟩:=hv
  exact dQ hok k2 (by simp only[aJ,kY,kF,e1,h1,h2,k1,Option.map_some]) rfl
 ·split at hv
  ·rename_i hsd
   have hsd:=tX hsd
   subst hsd
   exact aD1 hfl hok hr hv
  ·exact aBF hok hr hv
theorem aH9 {v:VV}{a:Value}(hc:okC v=true)(h:R2 c v a):R1 c v a:=by
 cases v <;> first|exact h|cases hc
theorem SS {fn:Fn}{first caps:Array Operand}(hok:Ok F0 H0 c H)(ht:Tok c t ta)(hx:∀ x∈caps.toList,aG n x=true)(hv:b9 G (.makeFunc fn first caps) t c.h K):nY G fl F0 H0 c H (.makeFunc fn first caps) ta K:=by
 simp only[b9]at hv
 split at hv
 ·rename_i f hf
  split at hv
  ·rename_i hc
   have hfe:first = #[]:=by
    apply Array.toList_inj.1;rw[hf]
   subst hfe
   have hrel:∀ l:List Operand,(∀ x∈l,aG n x=true)->(l.map (evV t)).all okC=true->All2 (R1 c) (l.map (evV t)) (l.map (eval ta)):=by
    intro l
    induction l with
    | nil=>intro _ _;exact .nil
    | cons o l ih =>
      intro h1 h2
      simp only[List.map_cons,List.all_cons,aH]at h2
      exact .cons (aH9 h2.1 (cD ht (h1 o cN))) (ih (fun x hx=>h1 x (dA _ hx)) h2.2)
   refine aY hok hv (a := .func (.func f) #[] (caps.toList.map (eval ta)).toArray) ?_ ⟨_,rfl,hrel _ hx hc⟩
   have e1:caps.map (eval ta)=(caps.toList.map (eval ta)).toArray:=by apply Array.toList_inj.1;simp
   simp only[aJ,e1,List.map_toArray,List.map_nil]
  ·exact hv.elim
 ·exact hv.elim
theorem aC7 {z:List Value}{w n i:Nat}(hz:z.length=w)(hi:i<n):InB (dW z (n*w)) (i*w) w z:=by
 have hb:i*w+w<=n*w:=by
  have:=uO w (show i+1<=n from hi)
  rw[fA,m8]at this;exact this
 refine⟨by unfold dW;simp;exact hb,?_⟩
 apply List.ext_getElem
 ·unfold dW;simp;omega
 ·intro j h1 h2
  rw[List.getElem_take,List.getElem_drop]
  unfold dW
  simp only[List.getElem_map,List.getElem_range]
  have:(i*w+j)%z.length=j:=by
   rw[hz,Nat.mul_comm,Nat.mul_add_mod,Nat.mod_eq_of_lt (by omega)]
  rw[this,getElem!_pos z j h2]
theorem VA {a b:Operand}(h:O5 a b=true){k:IntKind}{m:Int}(ha:eval ta a = .int k m):∃ k',eval ta b = .int k' m:=by
 unfold O5 at h
 split at h
 ·rw[eP]at h;subst h;exact⟨k,ha⟩
 ·rw[eP]at h;subst h;cases ha;exact⟨_,rfl⟩
 ·cases h
theorem P2 {ty:TypeId}{x y:Operand}(hok:Ok F0 H0 c H)(ht:Tok c t ta)(hx:aG n x=true)(hv:b9 G (.makeSlice ty x y) t c.h K):nY G fl F0 H0 c H (.makeSlice ty x y) ta K:=by
 have hr:=cD ht hx
 simp only[b9]at hv
 split at hv
 ·rename_i e es eb k m hty he
  rw[he]at hr
  obtain⟨e1,_⟩:=cY hr
  split at hv
  ·rename_i z T hz hT
   split at hv
   ·rename_i hc
    obtain⟨hc1,hc2,hc3,hc4⟩:=hc
    obtain⟨⟨hm0,hm1⟩,hv⟩:=hv
    obtain⟨k',e2⟩:=VA hc1 e1
    obtain⟨l,o,g1,g2,g3⟩:=JZ T 1 (qC (c:=c) (mB hz)) hv
    match l,g2 with
    | [d],_ =>
      obtain⟨cs,⟨p1,p2⟩,p3⟩:=g3.2 0 d (by simp)
      have hzc:z=cs:=by
       grind
      subst hzc
      subst hc2
      have e46:((2:Int) ^ 46)=70368744177664:=by decide
      have hmb:m<=70368744177664:=by
       have:m<=(eb:Int)*m:=by
        have:=Int.mul_le_mul_of_nonneg_right (show(1:Int)<=(eb:Int) by omega) hm0
        omega
       omega
      refine⟨_,_,.slice (some ⟨H.length,0,none⟩) m.toNat m.toNat,H++[⟨dW z (m.toNat*T.w),T.w,true,true⟩],g1,.inl ?_,mI c (some H.length) (.lst (o&&(!G.hv||T.flat)) T (List.replicate m.toNat d) false),gT _ _,rfl,?_,?_⟩
      ·simp only[aJ,hty,e1,e2]
       grind
      ·refine hok.addLst (ex:=true) (Pre.push _ _) (aF _) (rY H _ rfl) ⟨by unfold dW;simp,fun i x hxx => ?_⟩
       have hi:i<m.toNat:=by have:=bB hxx;rw[List.length_replicate]at this;exact this
       rw[List.getElem?_replicate,aA hi]at hxx
       cases hxx
       exact⟨z,aC7 hc3 hi,RT.mono (jJ fun e=>((aH _ _).mp e).1) _ _ _ p3⟩
      ·exact rU (by simp)
   ·exact hv.elim
  ·exact hv.elim
 ·exact hv.elim
end
end Go.Mach
namespace Go.Mach
set_option linter.unusedVariables false
set_option linter.unusedSimpArgs false
section
variable {G:Cfg} {F0:Fz} {H0:Base} {c c':Ctx} {H H':aD} {t:List (Nat×VV)} {ta:aE} {n fl:Nat} {K:VV->List VO->Prop}
theorem vA {α:Type}{ne:Prop}{l:List α}{lo hi mx:Option Operand}{cap:Nat}{K:List α->Prop}(ht:Tok c t ta)(hx:∀ x∈lo.toList++hi.toList++mx.toList,aG n x=true)(hcap:l.length<=cap)
 (h:JW ne l (lo.map (evV t)) (hi.map (evV t)) (mx.map (evV t)) K) :
 ∃ a b m:Nat,eW l.length cap (lo.map (eval ta)) (hi.map (eval ta)) (mx.map (eval ta))=some (a,b,m)/\ne/\a<=b/\b<=l.length/\b<=m/\K ((l.take b).drop a):=by
 have key:∀ x:Operand,x∈lo.toList++hi.toList++mx.toList->∀ k i,evV t x = .pl (.int k i)->eval ta x = .int k i:=by
  intro x hm k i e
  have:=cD ht (hx x hm)
  rw[e]at this
  exact(cY this).1
 have go:∀ (i j:Int) (m:Nat),(j<=m)->ck (ne/\0<=i/\i<=j/\j<=l.length) (K ((l.take j.toNat).drop i.toNat))->ne/\i.toNat<=j.toNat/\j.toNat<=l.length/\j.toNat<=m/\K ((l.take j.toNat).drop i.toNat):=by
  intro i j m hm ⟨⟨h1,h2,h3,h4⟩,h5⟩
  exact⟨h1,by omega,by omega,by omega,h5⟩
 unfold JW at h
 unfold eW
 cases lo with
 | none =>
   simp only[Option.map_none]at h⊢
   cases hi with
   | none =>
     simp only[Option.map_none]at h
     cases mx with
     | some m=>simp at h
     | none =>
       simp only[Option.map_none,Option.isSome_none,eK,aS]at h
       obtain⟨h1,h2,h3,h4,h5⟩:=go 0 l.length l.length (Int.le_refl _) h
       refine⟨0,l.length,cap,rfl,h1,by omega,aF _,hcap,by simpa using h5⟩
   | some hh =>
     simp only[Option.map_some]at h
     cases hv:evV t hh with
     | pl v =>
       cases v with
       | int k j =>
         have ej:=key hh (by simp) k j hv
         simp only[hv]at h
         cases mx with
         | none =>
           simp only[Option.map_none,Option.isSome_none,eK,aS]at h
           have hb:=h.1
           obtain⟨h1,h2,h3,h4,h5⟩:=go 0 j l.length (by omega) h
           refine⟨0,j.toNat,cap,?_,h1,by omega,h3,by omega,by simpa using h5⟩
           simp only[Option.map_some,Option.map_none,ej,jZ,bind,Option.bind]
           rw[aA ⟨by omega,by omega⟩]
         | some mm =>
           simp only[Option.map_some,Option.isSome_some,aO]at h
           obtain⟨h0,h⟩:=h
           cases hm:evV t mm with
           | pl v =>
             cases v with
             | int k2 m =>
               have em:=key mm (by simp) k2 m hm
               simp only[hm]at h0
               have hb:=h.1
               obtain⟨h1,h2,h3,h4,h5⟩:=go 0 j m.toNat (by omega) h
               refine⟨0,j.toNat,m.toNat,?_,h1,by omega,h3,by omega,by simpa using h5⟩
               simp only[Option.map_some,ej,em,jZ,bind,Option.bind]
               rw[aA ⟨by omega,by omega⟩]
               simp only[]
               rw[aA ⟨by omega,by omega⟩]
             | _=>simp only[hm]at h0
           | _=>simp only[hm]at h0
       | _=>simp only[hv]at h
     | _=>simp only[hv]at h
 | some ll =>
   simp only[Option.map_some]at h
   cases hvl:evV t ll with
   | pl v =>
     cases v with
     | int kl i =>
       have el:=key ll (by simp) kl i hvl
       simp only[hvl]at h
       cases hi with
       | none =>
         simp only[Option.map_none]at h
         cases mx with
         | some m=>simp at h
         | none =>
           simp only[Option.map_none,Option.isSome_none,eK,aS]at h
           have hb:=h.1
           obtain⟨h1,h2,h3,h4,h5⟩:=go i l.length l.length (Int.le_refl _) h
           refine⟨i.toNat,l.length,cap,?_,h1,by omega,aF _,hcap,by simpa using h5⟩
           simp only[Option.map_some,Option.map_none,el,jZ,bind,Option.bind]
           rw[aA ⟨by omega,by omega⟩]
       | some hh =>
         simp only[Option.map_some]at h
         cases hv:evV t hh with
         | pl v =>
           cases v with
           | int k j =>
             have ej:=key hh (by simp) k j hv
             simp only[hv]at h
             cases mx with
             | none =>
               simp only[Option.map_none,Option.isSome_none,eK,aS]at h
               have hb:=h.1
               obtain⟨h1,h2,h3,h4,h5⟩:=go i j l.length (by omega) h
               refine⟨i.toNat,j.toNat,cap,?_,h1,h2,h3,by omega,h5⟩
               simp only[Option.map_some,Option.map_none,ej,el,jZ,bind,Option.bind]
               rw[aA ⟨by omega,by omega⟩]
               simp only[]
               rw[aA ⟨by omega,by omega⟩]
             | some mm =>
               simp only[Option.map_some,Option.isSome_some,aO]at h
               obtain⟨h0,h⟩:=h
               cases hm:evV t mm with
               | pl v =>
                 cases v with
                 | int k2 m =>
                   have em:=key mm (by simp) k2 m hm
                   simp only[hm]at h0
                   have hb:=h.1
                   obtain⟨h1,h2,h3,h4,h5⟩:=go i j m.toNat (by omega) h
                   refine⟨i.toNat,j.toNat,m.toNat,?_,h1,h2,h3,by omega,h5⟩
                   simp only[Option.map_some,ej,em,el,jZ,bind,Option.bind]
                   rw[aA ⟨by omega,by omega⟩]
                   simp only[]
                   rw[aA ⟨by omega,by omega⟩]
                   simp only[]
                   rw[aA ⟨by omega,by omega⟩]
                 | _=>simp only[hm]at h0
               | _=>simp only[hm]at h0
           | _=>simp only[hv]at h
         | _=>simp only[hv]at h
     | _=>simp only[hvl]at h
   | _=>simp only[hvl]at h
theorem BS {b o k:Nat}:(⟨b,o,none⟩:Addr).add k=⟨b,o+k,none⟩:=by
 unfold Addr.add
 split
 ·rename_i e;subst e;rfl
 ·rfl
theorem blk?_get {b:Nat}{B:Blk}(h:blk? H b=some B):H[b]? = some B:=by
 unfold blk? at h
 cases e:H[b]? with
 | none=>simp[e]at h
 | some C=>grind
theorem C8 {P:Program}{ty e es eb:TypeId}(hty:aTy P ty = .slice e es eb){T:Ty}(hes:es=T.w){F:Fz}{ad:Option Addr}{cap:Nat}{l:List T.den}(hr:RSl F (RT F T) T.w ad cap l)
 (hn:ad=none\/∃ b o B,ad=some ⟨b,o,none⟩/\H[b]? = some B/\(B.exact=true\/B.es=T.w))
 {lo hi mx:Option Value} {a b m:Nat} (hb:eW l.length cap lo hi mx=some (a,b,m)) (h1:a<=b) (h2:b<=l.length) (h3:b<=m) :
 ∃ ad' cap',sX P ty (.slice ad l.length cap) lo hi mx H=some (.slice ad' (b-a) cap')/\RSl F (RT F T) T.w ad' cap' ((l.take b).drop a):=by
 unfold sX
 rw[hty]
 rcases hn with rfl|⟨b',o,B,rfl,hg,e3⟩
 ·simp only[hb]
  have hl:l=[]:=by
   rcases hr.at_ with e|⟨_,_,_,e,_⟩
   ·exact e
   ·cases e
  subst hl
  exact⟨none,m-a,rfl,by simp,.inl (by simp)⟩
 ·simp only[hb,hg]
  have hsub:=hr.sub (lo:=a) (hi:=b) h1 h2 (m:=m) h3
  subst hes
  by_cases hx:B.exact=true
  ·rw[aA hx]
   by_cases hm:m=a
   ·rw[aA hm]
    refine⟨_,_,rfl,?_,.inl ?_⟩
    ·simp;omega
    ·apply List.length_eq_zero_iff.1;simp;omega
   ·rw[aC hm,BS]
    exact⟨_,_,rfl,hsub⟩
  ·rw[aC hx,aA (e3.resolve_left hx),BS]
   exact⟨_,_,rfl,hsub⟩
theorem aBo {ty:TypeId}{x:Operand}{lo hi mx:Option Operand}(hok:Ok F0 H0 c H)(ht:Tok c t ta)(hx:aG n x=true)(hxs:∀ x∈lo.toList++hi.toList++mx.toList,aG n x=true)(hv:b9 G (.slice ty x lo hi mx) t c.h K):nY G fl F0 H0 c H (.slice ty x lo hi mx) ta K:=by
 have hr:=cD ht hx
 simp only[b9]at hv
 split at hv
 ·rename_i e es eb o T l hty he
  rw[he]at hr
  split at hv
  ·rename_i hes
   obtain⟨ad,cap,ha,h2⟩:=ND hr
   obtain⟨a,b,m,g1,g2,g3,g4,g5,g6⟩:=vA ht hxs h2.cap hv
   obtain⟨b0,o0,B0,q1,q2,q3,_⟩:=h2.at_.resolve_left g2
   obtain⟨ad',cap',k1,k2⟩:=C8 (H:=H) hty hes h2 (.inr ⟨b0,o0,B0,q1,blk?_get (hok.fz b0 B0 (pV _ _ q2)),q3⟩) g1 g3 g4 g5
   refine aY hok g6 (a := .slice ad' (b-a) cap') ?_ ⟨ad',cap',?_,k2⟩
   ·simp only[aJ,ha,k1,Option.map_some]
   ·congr 1;simp;omega
  ·exact hv.elim
 ·rename_i e es eb i hty he
  rw[he]at hr
  split at hv
  ·rename_i q T l fr hg
   have hi:=cV hg (by intro e;cases e)
   split at hv
   ·rename_i hes
    have ha:=pJ hr hi
    obtain⟨a,b,m,g1,g2,g3,g4,g5,g6⟩:=vA ht hxs (aF _) hv
    obtain⟨c1,k1,k2,kn,kρ,k3,k4⟩:=hok.freezes [i]
    have hl:RL c1 (eA c.h (.own i)) (eval ta x):=oO hok k1 kρ hr fun j hj=>k4 j (by simpa [kH] using hj)
    have hres:eA c.h (.own i) = .fz q T l:=by unfold eA;simp only[hg]
    rw[hres]at hl
    obtain⟨ad,cap,e1,h2⟩:=hl
    rw[ha]at e1
    have hcap:cap=l.length:=by unfold sl at e1;cases e1;rfl
    have had:ad=none\/∃ b o B,ad=some ⟨b,o,none⟩/\H[b]? = some B/\(B.exact=true\/B.es=T.w):=by
     cases hρ:c.ρ i with
     | none=>rw[hρ]at e1;cases e1;exact .inl rfl
     | some b' =>
       rw[hρ]at e1
       obtain⟨azz,ex,z1,_⟩:=((hok.obj i _ hi).lst _ _ _ _ rfl).2 b' hρ
       unfold sl at e1
       simp only[Option.map_some]at e1
       cases e1
       exact .inr ⟨b',0,_,rfl,blk?_get z1,.inr rfl⟩
    subst hcap
    obtain⟨ad',cap',w1,w2⟩:=C8 (H:=H) hty hes h2 had g1 g3 g4 g5
    refine⟨_,_,.slice ad' (b-a) cap',H,g6,.inl ?_,c1,k1,k2,k3,ad',cap',?_,w2⟩
    ·simp only[aJ,ha,e1,w1,Option.map_some]
    ·congr 1;simp;omega
   ·exact hv.elim
  ·exact hv.elim
 ·rename_i s hty he
  rw[he]at hr
  obtain⟨ha,_⟩:=cY hr
  obtain⟨a,b,m,g1,g2,g3,g4,g5,g6⟩:=vA ht hxs (aF _) hv
  split at g6
  ·exact g6.elim
  ·rename_i hmx
   cases mx with
   | some z=>exact absurd rfl hmx
   | none =>
     have hsz:s.data.toList.length=s.size:=rfl
     rw[hsz]at g1
     refine dQ hok g6 ?_ rfl
     simp only[aJ,ha,sX,hty,Option.map_none,Option.isSome_none,eK,aS]at g1⊢
     simp only[g1,Option.map_some]
     congr 3
     apply congrArg Value.string
     have:s.extract a b=⟨(s.extract a b).data⟩:=rfl
     rw[this,ByteArray.data_extract]
     congr 1
     apply Array.toList_inj.1
     rw[Array.toList_extract,List.extract_eq_take_drop]
     simp
     rw[List.drop_take]
 ·rename_i m e es eb i off hty he
  rw[he]at hr
  split at hv
  ·rename_i cs fr hg
   split at hv
   ·rename_i k l hil
    split at hv
    ·rename_i hc
     obtain⟨hes,hln,hm⟩:=hc
     have hi:=cV hg (by intro e;cases e)
     obtain⟨b,cs0,fr0,e1,e2,e3⟩:=hr
     obtain⟨c1,k1,k2,kn,kρ,k3,_⟩:=hok.freezes [i]
     have hi1:c1.h[i]? = some (.box cs true):=by
      rw[k2]
      have hlt:=(List.getElem?_eq_some_iff.1 hi).1
      simp only[freeze,gQ hlt,hg,eU]
     have hob:=k3.obj i _ hi1
     obtain⟨b',azz,o1,o2,o3,o4,_⟩:=hob.box _ _ rfl
     rw[kρ,e2]at o1
     cases o1
     have hlo:=(hob.lo b (by rw[kρ];exact e2)).1
     have hge:=DQ hil
     have hel:∀ (j:Nat) (x:Int),l[j]? = some x->azz[off+j]? = some (.int k x):=by
      intro j x hx
      have hj:j<m:=by rw[<- hln];exact(List.getElem?_eq_some_iff.1 hx).1
      have h1:((cs.drop off).take m)[j]? = some (.pl (.int k x)):=by rw[hge,b8,hx];rfl
      rw[List.getElem?_take_of_lt hj,q8]at h1
      obtain⟨a,a1,a2⟩:=o3.get h1
      obtain⟨rfl,_⟩:=a2
      exact a1
     refine⟨_,_,.slice (some ⟨b,off,none⟩) m m,H,hv,.inl ?_,c1,k1,k2,k3,some ⟨b,off,none⟩,m,by rw[hln],by rw[hln];exact aF _,.inr ⟨b,off,⟨azz,0,true,true⟩,rfl,?_,.inl rfl,?_⟩⟩
     ·have hB:=blk?_get o2
      have hm0 : ¬ m=0:=by omega
      simp only[aJ,sX,hty,e3,eW,Option.map_none,hB,aO,Option.map_some,Nat.sub_zero,aC hm0,Addr.add,Nat.zero_mul,Nat.add_zero,bind,Option.bind,pure]
     ·unfold cA
      rw[aC (by rintro⟨_,h⟩;rw[hlo]at h;cases h)]
      exact o4 rfl
     ·intro j x hx
      have h1:=hel j x hx
      have hlt:=(List.getElem?_eq_some_iff.1 h1).1
      refine⟨[.int k x],⟨?_,?_⟩,rfl⟩
      ·show off+j*1+1<=azz.length
       omega
      ·show(azz.drop (off+j*1)).take 1=_
       rw[mV,wF hlt,List.take_succ_cons,List.take_zero]
       rw[aM hlt]at h1
       rw[eR h1]
    ·exact hv.elim
   ·exact hv.elim
  ·exact hv.elim
 ·exact hv.elim
theorem O9 {s:TypeId}{x:Operand}{f:Nat}(hok:Ok F0 H0 c H)(ht:Tok c t ta)(hx:aG n x=true)(hv:b9 G (.fieldAddr s x f) t c.h K):nY G fl F0 H0 c H (.fieldAddr s x f) ta K:=by
 have hr:=cD ht hx
 simp only[b9]at hv
 split at hv
 ·rename_i sz fs hty
  split at hv
  ·rename_i off size ag hf
   split at hv
   ·exact hv.elim
   ·rename_i hs
    have hp:∀ b o,eval ta x = .pointer (some ⟨b,o,none⟩)->aJ G.P fl (.fieldAddr s x f) (eval ta) H=some (.value (.pointer (some ⟨b,o+off,none⟩)),H):=by
     intro b o e
     simp only[aJ,e,n6,hty,hf]
     rw[aC hs,BS];rfl
    split at hv
    ·rename_i i o he
     rw[he]at hr
     obtain⟨b,cs,fr,h1,h2,h3⟩:=wC hr
     exact aY hok hv (hp b o h3) ⟨b,cs,fr,h1,h2,rfl⟩
    ·rename_i i ix o he
     rw[he]at hr
     obtain⟨b,h1,h2⟩:RL c (.eptr i ix o) (eval ta x):=hr
     cases ho:c.h[i]? with
     | none=>rw[ho]at h2;exact h2.elim
     | some ob =>
       rw[ho]at h2
       cases ob with
       | box _ _=>exact h2.elim
       | lst q T l fr =>
         exact aY hok hv (hp b _ h2.2) ⟨b,h1,by rw[ho];exact⟨h2.1,by rw[rJ]⟩⟩
       | dead d =>
         obtain⟨q,e⟩:=h2
         exact aY hok hv (hp b _ e) ⟨b,h1,by rw[ho];exact⟨_,rfl⟩⟩
    ·rename_i o T l ix o2 he
     rw[he]at hr
     obtain⟨b,q,B,y,cs,h1,h2⟩:=CK hr
     exact aY hok hv (hp b _ h1) ⟨b,q,B,y,cs,by rw[rJ],h2⟩
    ·rename_i l o he
     rw[he]at hr
     obtain⟨b,B,h1,h2⟩:=X9 hr
     exact aY hok hv (hp b _ h1) ⟨b,B,rfl,h2⟩
    ·exact hv.elim
  ·exact hv.elim
 ·exact hv.elim
theorem PH {v:VV}{a:Value}(h:RL c v a):R2 c v a:=by
 cases v <;> first|exact h|exact(show False from h).elim
theorem aCK {s:TypeId}{x:Operand}{f:Nat}(hok:Ok F0 H0 c H)(ht:Tok c t ta)(hx:aG n x=true)(hv:b9 G (.field s x f) t c.h K):nY G fl F0 H0 c H (.field s x f) ta K:=by
 have hr:=cD ht hx
 simp only[b9]at hv
 split at hv
 ·rename_i sz fs cs hty he
  rw[he]at hr
  obtain⟨azz,ha,h2⟩:=JS hr
  split at hv
  ·rename_i off size hf
   split at hv
   ·exact hv.elim
   ·rename_i hs
    have hs1 : ¬ size=0:=fun e=>hs (.inl e)
    refine aY hok hv (a := .agg ((azz.drop off).take size).toArray) ?_ ⟨_,rfl,(h2.drop off).take size⟩
    simp only[aJ,ha,AV,hty,hf,aC hs1,wR,Option.map_some]
    grind
  ·rename_i off size hf
   split at hv
   ·exact hv.elim
   ·rename_i hs
    split at hv
    ·rename_i v hc
     obtain⟨a,k1,k2⟩:=h2.get hc
     refine aY hok hv (a:=a) ?_ (PH k2)
     simp only[aJ,ha,AV,hty,hf,aC hs,wR,List.getElem?_toArray,k1,Option.map_some]
    ·exact hv.elim
  ·exact hv.elim
 ·exact hv.elim
theorem VM {x:Operand}{i:Nat}(hok:Ok F0 H0 c H)(ht:Tok c t ta)(hx:aG n x=true)(hv:b9 G (.extract x i) t c.h K):nY G fl F0 H0 c H (.extract x i) ta K:=by
 have hr:=cD ht hx
 simp only[b9]at hv
 split at hv
 ·rename_i l he
  rw[he]at hr
  obtain⟨azz,ha,h2⟩:=aFh hr
  split at hv
  ·rename_i v hc
   obtain⟨a,k1,k2⟩:=h2.get hc
   refine aY hok hv (a:=a) ?_ (rD k2)
   simp only[aJ,ha,List.getElem?_toArray,k1,Option.map_some]
  ·exact hv.elim
 ·exact hv.elim
theorem PB {ty e es eb:TypeId}{x ix:Operand}{b o m cp:Nat}{k:IntKind}{i:Int}(hty:aTy G.P ty = .slice e es eb)(hx:eval ta x = .slice (some ⟨b,o,none⟩) m cp)(hi:eval ta ix = .int k i)(h0:0<=i)(h1:i<m) :
 aJ G.P fl (.indexAddr ty x ix) (eval ta) H=some (.value (.pointer (some ⟨b,o+i.toNat*es,none⟩)),H):=UF hty hx hi h0 h1
theorem QA {ty:TypeId}{x ix:Operand}(hok:Ok F0 H0 c H)(ht:Tok c t ta)(hx:aG n x=true)(hi:aG n ix=true)(hv:b9 G (.indexAddr ty x ix) t c.h K):nY G fl F0 H0 c H (.indexAddr ty x ix) ta K:=by
 have hr:=cD ht hx
 have hs:=cD ht hi
 simp only[b9]at hv
 split at hv
 ·rename_i e es eb o T l k i hty he1 he2
  rw[he1]at hr
  rw[he2]at hs
  obtain⟨ei,_⟩:=cY hs
  split at hv
  ·rename_i hes
   obtain⟨⟨h0,h1⟩,hv⟩:=hv
   obtain⟨ad,cap,ha,h2⟩:=ND hr
   have hlt:i.toNat<l.length:=by omega
   rcases h2.at_ with e0|⟨b,q,B,e1,e2,e3,e4⟩
   ·subst e0;simp at hlt
   ·subst e1
    obtain⟨cs,p1,p2⟩:=e4 i.toNat _ (aM hlt)
    subst hes
    exact aY hok hv (PB hty ha ei h0 h1) ⟨b,_,B,_,cs,by rw[Nat.add_zero],e2,aM hlt,p1,p2⟩
  ·exact hv.elim
 ·rename_i e es eb j k i hty he1 he2
  rw[he1]at hr
  rw[he2]at hs
  obtain⟨ei,_⟩:=cY hs
  split at hv
  ·rename_i q T l fr hg
   have hj:=cV hg (by intro e;cases e)
   split at hv
   ·rename_i hes
    obtain⟨⟨h0,h1⟩,hv⟩:=hv
    have ha:=pJ hr hj
    have hlt:i.toNat<l.length:=by omega
    have:∃ b,c.ρ j=some b:=by
     cases e:c.ρ j with
     | none =>
       have:=((hok.obj j _ hj).lst _ _ _ _ rfl).1 e
       subst this;simp at hlt
     | some b=>exact⟨b,rfl⟩
    obtain⟨b,hb⟩:=this
    rw[hb]at ha
    subst hes
    refine aY hok hv (PB hty ha ei h0 h1) ⟨b,hb,?_⟩
    rw[hj]
    exact⟨hlt,by simp⟩
   ·exact hv.elim
  ·exact hv.elim
 ·rename_i e es eb l k i hty he1 he2
  rw[he1]at hr
  rw[he2]at hs
  obtain⟨ei,_⟩:=cY hs
  split at hv
  ·rename_i hc
   obtain⟨hes,h0,h1⟩:=hc
   obtain⟨b,B,cp,ha,h2,_,h3⟩:=hr
   subst hes
   refine aY hok hv (a := .pointer (some ⟨b,i.toNat,none⟩)) ?_ ⟨b,B,rfl,h2,h3⟩
   rw[PB hty ha ei h0 h1,e9,mV]
  ·exact hv.elim
 ·rename_i m e es sz j o k i hty he1 he2
  rw[he1]at hr
  rw[he2]at hs
  obtain⟨ei,_⟩:=cY hs
  split at hv
  ·rename_i hc
   obtain⟨b,cs,fr,h1,h2,h3⟩:=wC hr
   refine aY hok hv (a := .pointer (some ⟨b,o+i.toNat*es,none⟩)) ?_ ⟨b,cs,fr,h1,h2,rfl⟩
   simp only[aJ,h3,ei,iL,hty]
   rw[aA hc,BS];rfl
  ·exact hv.elim
 ·exact hv.elim
end
end Go.Mach
namespace Go.Mach
set_option linter.unusedVariables false
set_option linter.unusedSimpArgs false
section
variable {G:Cfg} {F0:Fz} {H0:Base} {c c':Ctx} {H H':aD} {t:List (Nat×VV)} {ta:aE} {n fl:Nat} {K:VV->List VO->Prop}
theorem aC2 {ty:TypeId}{x ix:Operand}(hok:Ok F0 H0 c H)(ht:Tok c t ta)(hx:aG n x=true)(hi:aG n ix=true)(hv:b9 G (.index ty x ix) t c.h K):nY G fl F0 H0 c H (.index ty x ix) ta K:=by
 have hr:=cD ht hx
 have hs:=cD ht hi
 simp only[b9]at hv
 split at hv
 ·rename_i m e es sz cs k i hty he1 he2
  rw[he1]at hr
  rw[he2]at hs
  obtain⟨ei,_⟩:=cY hs
  obtain⟨azz,ha,h2⟩:=JS hr
  split at hv
  ·rename_i k' l hio
   split at hv
   ·rename_i hc
    obtain⟨hn,hes,hag⟩:=hc
    obtain⟨⟨h0,h1⟩,hv⟩:=hv
    have hlt:i.toNat<l.length:=by omega
    have hcs:cs[i.toNat*es]? = some (.pl (.int k' (l.getD i.toNat 0))):=by
     rw[DQ hio,hes,mV,b8,cH,aM hlt]
     rfl
    obtain⟨a,k1,k2⟩:=h2.get hcs
    refine aY hok hv (a:=a) ?_ (PH k2)
    simp only[aJ,ha,ei,uB,hty,aA (And.intro h0 h1),hag,wR,List.getElem?_toArray,k1,Option.map_some]
   ·exact hv.elim
  ·split at hv
   ·rename_i hc
    split at hv
    ·rename_i hag
     split at hv
     ·rename_i hb
      refine aY hok hv (a := .agg ((azz.drop (i.toNat*es)).take es).toArray) ?_ ⟨_,rfl,(h2.drop _).take _⟩
      simp only[aJ,ha,ei,uB,hty,aA hc,hag,wR,Option.map_some]
      grind
     ·exact hv.elim
    ·rename_i hag
     split at hv
     ·rename_i v hcs
      obtain⟨a,k1,k2⟩:=h2.get hcs
      refine aY hok hv (a:=a) ?_ (PH k2)
      simp only[aJ,ha,ei,uB,hty,aA hc,hag,wR,List.getElem?_toArray,k1,Option.map_some]
     ·exact hv.elim
    ·exact hv.elim
   ·exact hv.elim
 ·rename_i s k i hty he1 he2
  rw[he1]at hr
  rw[he2]at hs
  obtain⟨ei,_⟩:=cY hs
  obtain⟨es,_⟩:=cY hr
  obtain⟨⟨h0,h1⟩,hv⟩:=hv
  have hlt:i.toNat<s.size:=by omega
  refine dQ hok hv ?_ rfl
  have e1:s[i.toNat]? = some (s.data.toList.getD i.toNat 0):=by
   rw[getElem?_pos s _ hlt]
   congr 1
   rw[cH,aM (by simpa using hlt)]
   rfl
  simp only[aJ,es,ei,uB,hty,aA h0,e1,Option.map_some]
 ·exact hv.elim
theorem aCF {ty:TypeId}{x:Operand}(hok:Ok F0 H0 c H)(ht:Tok c t ta)(hx:aG n x=true)(hv:b9 G (.sliceToArrayPointer ty x) t c.h K):nY G fl F0 H0 c H (.sliceToArrayPointer ty x) ta K:=by
 have hr:=cD ht hx
 simp only[b9]at hv
 split at hv
 case h_2=>exact hv.elim
 rename_i m e es sz i hty he
 rw[he]at hr
 split at hv
 case h_2=>exact hv.elim
 rename_i q k l fr hg
 have hi:=cV hg (by intro e;cases e)
 split at hv
 case isFalse=>exact hv.elim
 rename_i hm
 obtain⟨hl,hv⟩:=hv
 have ha:=pJ hr hi
 have hlt:0<List.length l:=by omega
 have:∃ b,c.ρ i=some b:=by
  cases e:c.ρ i with
  | none =>
    have:=((hok.obj i _ hi).lst _ _ _ _ rfl).1 e
    subst this;simp at hlt
  | some b=>exact⟨b,rfl⟩
 obtain⟨b,hb⟩:=this
 rw[hb]at ha
 refine aY hok hv (a := .pointer (some ⟨b,0,none⟩)) ?_ ⟨b,hb,?_⟩
 ·simp only[aJ,ha,sl,Option.map_some,EW,hty]
  rw[aA ⟨hm,hl⟩]
  rfl
 ·rw[hi]
  exact⟨hlt,by simp⟩
theorem U1 {v:VV}{a:Value}{K:Nat->Prop}(hok:Ok F0 H0 c H)(hr:R2 c v a)(h:aAi c.h v K):∃ m,K m/\∃ ad cap,a = .slice ad m cap:=by
 unfold aAi at h
 split at h
 ·obtain⟨ad,k,rfl,_⟩:=ND hr;exact⟨_,h,_,_,rfl⟩
 ·split at h
  ·rename_i hg
   have:=pJ hr (cV hg (by intro e;cases e))
   subst this
   exact⟨_,h,_,_,rfl⟩
  ·exact h.elim
 ·obtain⟨rfl,_⟩:=cY hr;exact⟨_,h,_,_,rfl⟩
 ·obtain⟨b,B,k,rfl,_⟩:=hr;exact⟨_,h,_,_,rfl⟩
 ·exact h.elim
theorem xR {f:Int->Int->Int}{g:Value->Value->Option Value}{k:IntKind}(hg:∀ x y,g (.int k x) (.int k y)=some (.int k (f x y))){K:Int->Prop}:∀ {l:List VV} {azz:List Value} {x:Int},All2 (R2 c) l azz->LW f k x l K->∃ m,K m/\wE g (.int k x) azz=some (.int k m)
 | [],_,x,.nil,h=>⟨x,h,rfl⟩
 | v::l,_,x,.cons (b:=b) hr t,h=>by
   unfold LW at h
   split at h
   ·rename_i e;cases e
   ·rename_i k' y l' e
    cases e
    split at h
    ·rename_i e;subst e
     obtain⟨rfl,_⟩:=cY hr
     obtain⟨m,h1,h2⟩:=xR hg t h
     exact⟨m,h1,by simp only[wE,hg,h2]⟩
    ·exact h.elim
   ·exact h.elim
theorem iS (ht:Tok c t ta):∀ {l:List Operand},(∀ x∈l,aG n x=true)->All2 (R2 c) (l.map (evV t)) (l.map (eval ta))
 | [],_ => .nil
 | x::l,h => .cons (cD ht (h x cN)) (iS ht fun y hy=>h y (dA _ hy))
theorem RJ {v:VV}{a:Value}{K:(T:Ty)->List T.den->Bool->Prop}(hok:Ok F0 H0 c H)(hr:R2 c v a)(h:aCA c.h v K) :
 ∃ T l o new,K T l o/\EF a=some l.length/\cU H T.w l.length a=some new/\RC (cA o c.n0 c.F) T l new:=by
 unfold aCA at h
 split at h
 ·rename_i o T l
  obtain⟨ad,k,rfl,h2⟩:=ND hr
  obtain⟨new,k1,k2⟩:=RM (H:=H) (fun b B e=>hok.fz b B (pV _ _ e)) h2 rfl
  exact⟨T,l,_,new,h,rfl,k1,k2.flat⟩
 ·rename_i i
  split at h
  ·rename_i o T l fr hg
   have hi:=cV hg (by intro e;cases e)
   have:=pJ hr hi
   subst this
   obtain⟨k1,k2⟩:=(hok.obj _ _ hi).lst _ _ _ _ rfl
   obtain⟨new,g1,g2⟩:=E3 (H:=H) (F:=cA o c.n0 c.F) (k:=l.length) (n:=l.length) k1 (fun b e=>by obtain⟨azz,ex,m1,m2,_⟩:=k2 b e;exact⟨azz,ex,m1,m2⟩) rfl
   exact⟨T,l,_,new,h,rfl,g1,g2.flat⟩
  ·exact h.elim
 ·exact h.elim
theorem VK {cl:Call}(hfl:Fl fl H0)(hok:Ok F0 H0 c H)(ht:Tok c t ta)(hx:∀ x∈cl.args.toList,aG n x=true)(hv:b9 G (.call cl) t c.h K):nY G fl F0 H0 c H (.call cl) ta K:=by
 simp only[b9]at hv
 have hargs:cl.args.map (eval ta)=(cl.args.toList.map (eval ta)).toArray:=by apply Array.toList_inj.1;simp
 split at hv
 ·
   rename_i hc
   split at hv
   ·rename_i ty x hty hxa
    have hr:=cD ht (hx x (by rw[hxa];exact cN))
    have ha0:(cl.args.map (eval ta))[0]? = some (eval ta x):=by rw[hargs,hxa];rfl
    split at hv
    ·rename_i m e es sz hta
     refine dQ hok hv ?_ rfl
     simp only[aJ,fP,hc,s9,hty,ha0,hta,Option.map_some]
    ·rename_i hta
     split at hv
     ·rename_i s he
      rw[he]at hr
      obtain⟨e,_⟩:=cY hr
      refine dQ hok hv ?_ rfl
      simp only[aJ,fP,hc,s9,hty,ha0,hta,e,Option.map_some]
     ·exact hv.elim
    ·rename_i e es eb hta
     obtain⟨m,h1,ad,cap,e⟩:=U1 hok hr hv
     refine dQ hok h1 ?_ rfl
     simp only[aJ,fP,hc,s9,hty,ha0,hta,e,Option.map_some]
    ·exact hv.elim
   ·exact hv.elim
 ·
   rename_i hc
   split at hv
   ·rename_i k x l he
    have hrel:=iS ht hx
    rw[he]at hrel
    cases e:cl.args.toList.map (eval ta)with
    | nil=>rw[e]at hrel;cases hrel
    | cons a azz =>
      rw[e]at hrel
      cases hrel with
      | cons hr tr =>
        obtain⟨rfl,_⟩:=cY hr
        obtain⟨m,h1,h2⟩:=xR (g:=B9) (f:=W8) (fun x y=>rfl) tr hv
        refine dQ hok h1 ?_ rfl
        simp only[aJ,fP,hc,hargs,e,h2,Option.map_some]
   ·exact hv.elim
 ·
   rename_i hc
   split at hv
   ·rename_i k x l he
    have hrel:=iS ht hx
    rw[he]at hrel
    cases e:cl.args.toList.map (eval ta)with
    | nil=>rw[e]at hrel;cases hrel
    | cons a azz =>
      rw[e]at hrel
      cases hrel with
      | cons hr tr =>
        obtain⟨rfl,_⟩:=cY hr
        obtain⟨m,h1,h2⟩:=xR (g:=C4) (f:=YK) (fun x y=>rfl) tr hv
        refine dQ hok h1 ?_ rfl
        simp only[aJ,fP,hc,hargs,e,h2,Option.map_some]
   ·exact hv.elim
 ·
   rename_i hc
   split at hv
   ·rename_i k a k' b he
    split at hv
    ·rename_i ek;subst ek
     have hrel:=iS ht hx
     rw[he]at hrel
     cases e:cl.args.toList.map (eval ta)with
     | nil=>rw[e]at hrel;cases hrel
     | cons u azz =>
       rw[e]at hrel
       cases hrel with
       | cons hr tr =>
         obtain⟨rfl,_⟩:=cY hr
         cases tr with
         | cons hr2 tr2 =>
           obtain⟨rfl,_⟩:=cY hr2
           cases tr2
           refine dQ hok hv ?_ rfl
           simp only[aJ,fP,hc,hargs,e,aO]
    ·exact hv.elim
   ·exact hv.elim
 ·
   rename_i hc
   split at hv
   ·rename_i k a b he
    have hrel:=iS ht hx
    rw[he]at hrel
    cases e:cl.args.toList.map (eval ta)with
    | nil=>rw[e]at hrel;cases hrel
    | cons u azz =>
      rw[e]at hrel
      cases hrel with
      | cons hr tr =>
        obtain⟨rfl,_⟩:=cY hr
        cases tr
        refine dQ hok hv ?_ rfl
        simp only[aJ,fP,hc,hargs,e]
   ·exact hv.elim
 ·
   rename_i hc
   split at hv
   ·rename_i k a b he
    have hrel:=iS ht hx
    rw[he]at hrel
    cases e:cl.args.toList.map (eval ta)with
    | nil=>rw[e]at hrel;cases hrel
    | cons u azz =>
      rw[e]at hrel
      cases hrel with
      | cons hr tr =>
        obtain⟨rfl,_⟩:=cY hr
        cases tr
        refine dQ hok hv ?_ rfl
        simp only[aJ,fP,hc,hargs,e]
   ·exact hv.elim
 ·
   rename_i hc
   split at hv
   ·rename_i st xt x y hst hxt hxa
    have hr:=cD ht (hx x (by rw[hxa];exact cN))
    have hs:=cD ht (hx y (by rw[hxa];exact dA _ cN))
    have ha0:(cl.args.map (eval ta))[0]? = some (eval ta x):=by rw[hargs,hxa];rfl
    have ha1:(cl.args.map (eval ta))[1]? = some (eval ta y):=by rw[hargs,hxa];rfl
    split at hv
    ·rename_i e es eb e2 es2 eb2 hta htb
     obtain⟨T,l2,o2,new,h1,h2,h3,h4⟩:=RJ hok hs hv
     split at h1
     ·rename_i hcc
      obtain⟨hes,heb,hz⟩:=hcc
      subst hes
      split at h1
      ·rename_i i he
       rw[he]at hr
       split at h1
       ·rename_i q T' l hg
        have hi:=cV hg (by intro e;cases e)
        obtain⟨eT,h1⟩:=Ty.at_inv h1
        subst eT
        obtain⟨hb,h1⟩:=h1
        have ha:=pJ hr hi
        obtain⟨a',H',k1,k2⟩:=hok.append (P:=G.P) hfl hi h3 h4 hz hb heb
        have hle:Le c (mI (kU c i (.dead (kM l2))) a' (.lst (q&&o2) T' (l++l2) false)):=(pS (o' := .dead (kM l2)) hi trivial).trans (gT _ _)
        have hlen:(kU c i (.dead (kM l2))).h.length=c.h.length:=by simp[kU]
        refine⟨_,_,sl a' (l.length+l2.length),H',h1,.inl ?_,_,hle,rfl,k2,?_⟩
        ·simp only[aJ,fP,hc,mN,hst,hxt,ha0,ha1,ha,sl,hta,htb,h2]
         rw[show(Option.map (fun b=>(⟨b,0,none⟩:Addr)) (c.ρ i))=(c.ρ i).map fun b=>⟨b,0,none⟩from rfl,k1]
         rfl
        ·rw[<- hlen]
         exact rU (by simp)
       ·exact h1.elim
      ·rename_i he
       rw[he]at hr
       obtain⟨ha,_⟩:=cY hr
       obtain⟨hb,h1⟩:=h1
       obtain⟨a',H',k1,k2⟩:=hok.append0 (P:=G.P) (fl:=fl) h3 h4 hz hb heb
       refine⟨_,_,sl a' l2.length,H',h1,.inl ?_,_,gT _ _,rfl,k2,rU rfl⟩
       simp only[aJ,fP,hc,mN,hst,hxt,ha0,ha1,ha,hta,htb,h2]
       rw[k1]
       rfl
      ·exact h1.elim
     ·exact h1.elim
    ·exact hv.elim
   ·exact hv.elim
 ·exact hv.elim
theorem dN {ops:Array Oper}{o:Oper}(h:gO n ops o=true):∀ x∈o.op.operands.toList,aG n x=true:=by
 unfold gO at h
 simp only[aH]at h
 exact fun x hx=>List.all_eq_true.1 h.1.1 x hx
theorem VY {op:Op}(hfl:Fl fl H0)(hok:Ok F0 H0 c H)(ht:Tok c t ta)(hx:∀ x∈op.operands.toList,aG n x=true)(hv:b9 G op t c.h K):nY G fl F0 H0 c H op ta K:=by
 cases op <;> try (simp only[b9]at hv;done)
 case move x=>exact aEM hok ht (hx x (by simp[Op.operands])) hv
 case assign x=>exact ZK hok ht (hx x (by simp[Op.operands])) hv
 case alloc ty=>exact aBg hok hv
 case box ty x=>exact aGM hok ht (hx x (by simp[Op.operands])) hv
 case build ty ps=>exact aA9 hok ht (fun p hp=>hx p.2 (by simp only[Op.operands];exact List.mem_map.2 ⟨p,hp,rfl⟩)) hv
 case buildSlice ty len ps=>exact MR hok ht (fun p hp=>hx p.2 (by simp only[Op.operands];exact List.mem_map.2 ⟨p,hp,rfl⟩)) hv
 case load ty x=>exact aD0 hok ht (hx x (by simp[Op.operands])) hv
 case store ty x y=>exact aCh hfl hok ht (hx x (by simp[Op.operands])) (hx y (by simp[Op.operands])) hv
 case nilCheck x=>exact S2 hok ht (hx x (by simp[Op.operands])) hv
 case binOp op ty x y ty2=>exact aCl hok ht (hx x (by simp[Op.operands])) (hx y (by simp[Op.operands])) hv
 case unOp op ty x=>exact aDk hok ht (hx x (by simp[Op.operands])) hv
 case convert s d x=>exact WB hfl hok ht (hx x (by simp[Op.operands])) hv
 case makeFunc fn first caps=>exact SS hok ht (fun x h=>hx x (by simp only[Op.operands,tT];exact gA _ h)) hv
 case makeSlice ty x y=>exact P2 hok ht (hx x (by simp[Op.operands])) hv
 case slice ty x lo hi mx=>exact aBo hok ht (hx x (by simp[Op.operands])) (fun y hy=>hx y (by
  simp only[Op.operands,tT,AD]
  simp only[AD]at hy
  rcases hy with(hy|hy)|hy
  ·left;left;right;cases lo <;> simp_all
  ·left;right;cases hi <;> simp_all
  ·right;cases mx <;> simp_all)) hv
 case fieldAddr s x f=>exact O9 hok ht (hx x (by simp[Op.operands])) hv
 case field s x f=>exact aCK hok ht (hx x (by simp[Op.operands])) hv
 case indexAddr ty x ix=>exact QA hok ht (hx x (by simp[Op.operands])) (hx ix (by simp[Op.operands])) hv
 case index ty x ix=>exact aC2 hok ht (hx x (by simp[Op.operands])) (hx ix (by simp[Op.operands])) hv
 case sliceToArrayPointer ty x=>exact aCF hok ht (hx x (by simp[Op.operands])) hv
 case extract x i=>exact VM hok ht (hx x (by simp[Op.operands])) hv
 case call cl=>exact VK hfl hok ht (fun x h=>hx x (by simp only[Op.operands,Call.operands,tT];exact gA _ h)) hv
end
end Go.Mach
