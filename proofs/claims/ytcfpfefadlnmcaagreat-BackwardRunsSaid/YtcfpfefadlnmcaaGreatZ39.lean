/- Part of the proof. No condition. -/
import Derived.Test.YtcfpfefadlnmcaaGreatZ38
import Derived.Test.YtcfpfefadlnmcaaGreatZ36
import Derived.Test.YtcfpfefadlnmcaaGreatZ37
namespace Go.Proofs.YtcfpfefadlnmcaaGreat
open IntKind (i8 i16 i32 i64 u8 u16 u32 u64)
open Go.Mach Go.RowKit
set_option maxRecDepth 100000
set_option linter.unusedVariables false
set_option linter.unusedSimpArgs false
def w4 (n O P Q:Nat)(f:Nat->Nat->Nat->Nat->Int):List Int:=aBA n O P Q fun m o p q=>i32.wrap (f m o p q)
theorem SY (n O P Q:Nat)(f:Nat->Nat->Nat->Nat->Int):(w4 n O P Q f).length=n*O*P*Q:=T5 _ _ _ _ _
theorem ZI {n O P Q m o p q:Nat}{f:Nat->Nat->Nat->Nat->Int}(hm:m<n)(ho:o<O)(hp:p<P)(hq:q<Q):(w4 n O P Q f).getD (ix4 O P Q m o p q) 0=i32.wrap (f m o p q):=UQ hm ho hp hq
theorem eK {n O P Q:Nat}{f g:Nat->Nat->Nat->Nat->Int}(h:∀ m o p q,m<n->o<O->p<P->q<Q->f m o p q=g m o p q):w4 n O P Q f=w4 n O P Q g :=
 aGQ fun m o p q hm ho hp hq=>by rw[h m o p q hm ho hp hq]
theorem aKC {n O P Q m0 o0 p0 q0:Nat}{f:Nat->Nat->Nat->Nat->Int}{v:Int}(hm:m0<n)(ho:o0<O)(hp:p0<P)(hq:q0<Q) :
 (w4 n O P Q f).set (ix4 O P Q m0 o0 p0 q0) (i32.wrap ((w4 n O P Q f).getD (ix4 O P Q m0 o0 p0 q0) 0+v))=w4 n O P Q fun m o p q=>f m o p q+if m=m0/\o=o0/\p=p0/\q=q0 then v else 0:=by
 refine P8 (by rw[zE];exact SY _ _ _ _ _) (SY _ _ _ _ _) fun m o p q h1 h2 h3 h4 => ?_
 have hl:=GO hm ho hp hq
 rw[aBT (by rw[SY];exact hl)]
 by_cases e:ix4 O P Q m0 o0 p0 q0=ix4 O P Q m o p q
 ·obtain⟨e1,e2,e3,e4⟩:=aEI ho hp hq h2 h3 h4 e
  rw[aB e,ZI h1 h2 h3 h4,aB ⟨e1.symm,e2.symm,e3.symm,e4.symm⟩,ZI hm ho hp hq,QR,e1,e2,e3,e4]
 ·rw[aA e,ZI h1 h2 h3 h4,ZI h1 h2 h3 h4,aA,Int.add_zero]
  rintro⟨rfl,rfl,rfl,rfl⟩
  exact e rfl
theorem aKA (n O P Q:Nat):List.replicate (n*O*P*Q) (0:Int)=w4 n O P Q fun _ _ _ _=>0:=by
 refine P8 (by simp) (SY _ _ _ _ _) fun m o p q h1 h2 h3 h4 => ?_
 rw[P6 (GO h1 h2 h3 h4),ZI h1 h2 h3 h4]
 show 0=i32.wrap 0
 decide
section
variable {n O C K P Q plane:Nat} {gd xd:List Int}
structure VT (n O C K P Q plane:Nat)(gd xd:List Int):Prop where
 hg:gd.length=n*O*P*Q
 hx:xd.length=n*C*plane
 bg:n*O*P*Q<=8192
 bx:n*C*plane<=8192
 bw:O*C*K*K<=8192
 ag:All8 gd
 ax:All8 xd
 hn:1<=n
 hO:1<=O
 hC:1<=C
 hP:1<=P
 hQ:1<=Q
def wtG (O C P Q plane:Nat)(gd xd:List Int)(i m o c a:Nat):Int:=gd.getD ((m*O+o)*P*Q+i) 0*xd.getD ((m*C+c)*plane+a) 0
theorem aOa (h:VT n O C K P Q plane gd xd){f:Nat->Nat->Nat->Nat->Int}{i m o a r q:Nat}{K0:List Int->Prop}(hi:i<P*Q)(hm:m<n)(ho:o<O)(ha:a<plane)(hr:r<K)(hq:q<K)
 (hk:K0 (w4 O C K K fun o' c' r' q'=>f o' c' r' q'+if o'=o/\r'=r/\q'=q then wtG O C P Q plane gd xd i m o c' a else 0)) :
 EF K O C plane i m o C gd xd P Q a r q K0 (0,w4 O C K K f):=by
 refine⟨?_⟩
 have eg:((0:Int),w4 O C K K f)=(fun j:Nat=>((j:Int),w4 O C K K fun o' c' r' q'=>f o' c' r' q'+if o'=o/\c'<j/\r'=r/\q'=q then wtG O C P Q plane gd xd i m o c' a else 0)) 0:=by
  dsimp only
  congr 1
  refine eK fun o' c' r' q' _ _ _ _ => ?_
  rw[aA (by omega)];omega
 rw[eg]
 refine Loop.range (B:=uE K O C plane i m o C gd xd P Q a r q K0) (f:=fun j:Nat=>((j:Int),w4 O C K K fun o' c' r' q'=>f o' c' r' q'+if o'=o/\c'<j/\r'=r/\q'=q then wtG O C P Q plane gd xd i m o c' a else 0)) C (fun _=>True) trivial ?_ ?_
 ·intro c hc _ X hX
  have hX:=hX trivial
  have k1:=h.bg;have k2:=h.bx;have k3:=h.bw
  have i1:=GO (P:=K) (Q:=K) ho hc hr hq
  have i2:(m*C+c)*plane+a<n*C*plane:=fC (fC hm hc) ha
  have i3:(m*O+o)*(P*Q)+i<n*O*(P*Q):=fC (fC hm ho) hi
  rw[<- cS,<- cS]at i3
  have j1:o*C+c<=(o*C+c)*K:=cE _ (by omega)
  have j2:(o*C+c)*K+r<=((o*C+c)*K+r)*K:=cE _ (by omega)
  have j3:m*C+c<=(m*C+c)*plane:=cE _ (by omega)
  have j4:m*O+o<=(m*O+o)*P:=cE _ h.hP
  have j5:(m*O+o)*P<=(m*O+o)*P*Q:=cE _ h.hQ
  unfold ix4 at i1
  have hc8:c<=8192:=by omega
  unfold uE
  rw[aB (aG (show(c:Int)<(C:Int) by omega))]
  dsimp only at hX⊢
  rw[ix (r:=o) (n:=C) (i:=c) (by omega),ix (r:=o*C+c) (n:=K) (i:=r) (by omega),ix (r:=(o*C+c)*K+r) (n:=K) (i:=q) (by omega)]
  rw[ix (r:=m) (n:=O) (i:=o) (by omega),CF (r:=m*O+o) (n:=P) (by omega),ix (r:=(m*O+o)*P) (n:=Q) (i:=i) (by omega)]
  rw[ix (r:=m) (n:=C) (i:=c) (by omega),ix (r:=m*C+c) (n:=plane) (i:=a) (by omega)]
  rw[SY]
  refine⟨by omega,by rw[h.hg];omega,by rw[h.hx];omega,by omega,?_⟩
  simp only[Int.toNat_natCast]
  rw[aC ((c:Int)+1),IZ]
  have g8:=h.ag.at_ ((m*O+o)*P*Q+i)
  have x8:=h.ax.at_ ((m*C+c)*plane+a)
  rw[tO (gd.getD ((m*O+o)*P*Q+i) 0),tO (xd.getD ((m*C+c)*plane+a) 0)]
  have es:=aKC (n:=O) (O:=C) (P:=K) (Q:=K) (m0:=o) (o0:=c) (p0:=r) (q0:=q) (f:=fun o' c' r' q'=>f o' c' r' q'+if o'=o/\c'<c/\r'=r/\q'=q then wtG O C P Q plane gd xd i m o c' a else 0) (v:=gd.getD ((m*O+o)*P*Q+i) 0*xd.getD ((m*C+c)*plane+a) 0) ho hc hr hq
  unfold ix4 at es
  rw[es]
  have ef:(w4 O C K K fun o' c' r' q'=>(f o' c' r' q'+if o'=o/\c'<c/\r'=r/\q'=q then wtG O C P Q plane gd xd i m o c' a else 0)+if o'=o/\c'=c/\r'=r/\q'=q then gd.getD ((m*O+o)*P*Q+i) 0*xd.getD ((m*C+c)*plane+a) 0 else 0)=w4 O C K K fun o' c' r' q'=>f o' c' r' q'+if o'=o/\c'<c+1/\r'=r/\q'=q then wtG O C P Q plane gd xd i m o c' a else 0:=by
   refine eK fun o' c' r' q' _ _ _ _ => ?_
   rw[yR]
   congr 1
   by_cases g:o'=o/\r'=r/\q'=q
   ·obtain⟨g1,g2,g3⟩:=g
    subst g1 g2 g3
    by_cases g4:c'=c
    ·subst g4
     rw[aA (by omega),aB ⟨rfl,rfl,rfl,rfl⟩,aB ⟨rfl,by omega,rfl,rfl⟩]
     unfold wtG;omega
    ·rw[aA (c:=_/\c'=c/\_) (by omega)]
     by_cases g5:c'<c
     ·rw[aB ⟨rfl,g5,rfl,rfl⟩,aB ⟨rfl,by omega,rfl,rfl⟩];omega
     ·rw[aA (by omega),aA (by omega)];omega
   ·rw[aA (fun hh=>g ⟨hh.1,hh.2.2⟩),aA (fun hh=>g ⟨hh.1,hh.2.2⟩),aA (fun hh=>g ⟨hh.1,hh.2.2⟩)];omega
  rw[ef]
  exact hX
 ·intro _ X
  unfold uE
  rw[aA (by simp)]
  have:(w4 O C K K fun o' c' r' q'=>f o' c' r' q'+if o'=o/\c'<C/\r'=r/\q'=q then wtG O C P Q plane gd xd i m o c' a else 0)=w4 O C K K fun o' c' r' q'=>f o' c' r' q'+if o'=o/\r'=r/\q'=q then wtG O C P Q plane gd xd i m o c' a else 0:=by
   refine eK fun o' c' r' q' _ h2 _ _ => ?_
   congr 1
   by_cases g:o'=o/\r'=r/\q'=q
   ·rw[aB g,aB ⟨g.1,h2,g.2⟩]
   ·rw[aA g,aA (fun hh=>g ⟨hh.1,hh.2.2⟩)]
  dsimp only
  rw[this]
  exact hk
theorem aOc (h:VT n O C K P Q plane gd xd){f:Nat->Nat->Nat->Nat->Int}{i m a r q:Nat}{K0:List Int->Prop}(hi:i<P*Q)(hm:m<n)(ha:a<plane)(hr:r<K)(hq:q<K)
 (hk:K0 (w4 O C K K fun o' c' r' q'=>f o' c' r' q'+if r'=r/\q'=q then wtG O C P Q plane gd xd i m o' c' a else 0)) :
 EG K O C plane i m O gd xd P Q a r q K0 (0,w4 O C K K f):=by
 refine⟨?_⟩
 have hO:O<=8192:=by
  have:=h.bg
  have:=h.hn;have:=h.hP;have:=h.hQ
  have:O<=n*O:=yX _ (by omega)
  have:n*O<=n*O*P:=cE _ (by omega)
  have:n*O*P<=n*O*P*Q:=cE _ (by omega)
  omega
 have eg:((0:Int),w4 O C K K f)=(fun j:Nat=>((j:Int),w4 O C K K fun o' c' r' q'=>f o' c' r' q'+if o'<j/\r'=r/\q'=q then wtG O C P Q plane gd xd i m o' c' a else 0)) 0:=by
  dsimp only
  congr 1
  refine eK fun o' c' r' q' _ _ _ _ => ?_
  rw[aA (by omega)];omega
 rw[eg]
 refine Loop.range (B:=uK K O C plane i m O gd xd P Q a r q K0) (f:=fun j:Nat=>((j:Int),w4 O C K K fun o' c' r' q'=>f o' c' r' q'+if o'<j/\r'=r/\q'=q then wtG O C P Q plane gd xd i m o' c' a else 0)) O (fun _=>True) trivial ?_ ?_
 ·intro o ho _ X hX
  have hX:=hX trivial
  unfold uK
  rw[aB (aG (show(o:Int)<(O:Int) by omega))]
  dsimp only at hX⊢
  refine aOa h hi hm ho ha hr hq ?_
  rw[aC ((o:Int)+1)]
  have ef:(w4 O C K K fun o' c' r' q'=>(f o' c' r' q'+if o'<o/\r'=r/\q'=q then wtG O C P Q plane gd xd i m o' c' a else 0)+if o'=o/\r'=r/\q'=q then wtG O C P Q plane gd xd i m o c' a else 0)=w4 O C K K fun o' c' r' q'=>f o' c' r' q'+if o'<o+1/\r'=r/\q'=q then wtG O C P Q plane gd xd i m o' c' a else 0:=by
   refine eK fun o' c' r' q' _ _ _ _ => ?_
   rw[yR]
   congr 1
   by_cases g:r'=r/\q'=q
   ·by_cases g4:o'=o
    ·subst g4
     rw[aA (by omega),aB ⟨rfl,g⟩,aB ⟨by omega,g⟩];omega
    ·rw[aA (c:=o'=o/\_) (by omega)]
     by_cases g5:o'<o
     ·rw[aB ⟨g5,g⟩,aB ⟨by omega,g⟩];omega
     ·rw[aA (by omega),aA (by omega)];omega
   ·rw[aA (fun hh=>g hh.2),aA (fun hh=>g hh.2),aA (fun hh=>g hh.2)];omega
  rw[ef]
  exact hX
 ·intro _ X
  unfold uK
  rw[aA (by simp)]
  have:(w4 O C K K fun o' c' r' q'=>f o' c' r' q'+if o'<O/\r'=r/\q'=q then wtG O C P Q plane gd xd i m o' c' a else 0)=w4 O C K K fun o' c' r' q'=>f o' c' r' q'+if r'=r/\q'=q then wtG O C P Q plane gd xd i m o' c' a else 0:=by
   refine eK fun o' c' r' q' h2 _ _ _ => ?_
   congr 1
   by_cases g:r'=r/\q'=q
   ·rw[aB g,aB ⟨h2,g⟩]
   ·rw[aA g,aA (fun hh=>g hh.2)]
  dsimp only
  rw[this]
  exact hk
def wtM (n O C P Q plane:Nat)(gd xd:List Int)(i o c a:Nat):Int:=bO (fun m=>wtG O C P Q plane gd xd i m o c a) n
theorem aOe (h:VT n O C K P Q plane gd xd){f:Nat->Nat->Nat->Nat->Int}{i a r q:Nat}{K0:List Int->Prop}(hi:i<P*Q)(ha:a<plane)(hr:r<K)(hq:q<K)
 (hk:K0 (w4 O C K K fun o' c' r' q'=>f o' c' r' q'+if r'=r/\q'=q then wtM n O C P Q plane gd xd i o' c' a else 0)) :
 E7 K O C plane i n gd xd P Q a r q K0 (0,w4 O C K K f):=by
 refine⟨?_⟩
 have hn:n<=8192:=by
  have:=h.bg
  have:=h.hO;have:=h.hP;have:=h.hQ
  have:n<=n*O:=cE _ (by omega)
  have:n*O<=n*O*P:=cE _ (by omega)
  have:n*O*P<=n*O*P*Q:=cE _ (by omega)
  omega
 have eg:((0:Int),w4 O C K K f)=(fun j:Nat=>((j:Int),w4 O C K K fun o' c' r' q'=>f o' c' r' q'+if r'=r/\q'=q then bO (fun m=>wtG O C P Q plane gd xd i m o' c' a) j else 0)) 0:=by
  dsimp only
  congr 1
  refine eK fun o' c' r' q' _ _ _ _ => ?_
  simp[bO]
 rw[eg]
 refine Loop.range (B:=uF K O C plane i n gd xd P Q a r q K0) (f:=fun j:Nat=>((j:Int),w4 O C K K fun o' c' r' q'=>f o' c' r' q'+if r'=r/\q'=q then bO (fun m=>wtG O C P Q plane gd xd i m o' c' a) j else 0)) n (fun _=>True) trivial ?_ ?_
 ·intro m hm _ X hX
  have hX:=hX trivial
  unfold uF
  rw[aB (aG (show(m:Int)<(n:Int) by omega))]
  dsimp only at hX⊢
  refine aOc h hi hm ha hr hq ?_
  rw[aC ((m:Int)+1)]
  have ef:(w4 O C K K fun o' c' r' q'=>(f o' c' r' q'+if r'=r/\q'=q then bO (fun m=>wtG O C P Q plane gd xd i m o' c' a) m else 0)+if r'=r/\q'=q then wtG O C P Q plane gd xd i m o' c' a else 0)=w4 O C K K fun o' c' r' q'=>f o' c' r' q'+if r'=r/\q'=q then bO (fun m=>wtG O C P Q plane gd xd i m o' c' a) (m+1)else 0:=by
   refine eK fun o' c' r' q' _ _ _ _ => ?_
   rw[yR]
   congr 1
   by_cases g:r'=r/\q'=q
   ·rw[aB g,aB g,aB g];rfl
   ·rw[aA g,aA g,aA g];rfl
  rw[ef]
  exact hX
 ·intro _ X
  unfold uF
  rw[aA (by simp)]
  exact hk
def wtZ (n O C P Q plane:Nat)(gd xd:List Int)(i o c r q:Nat)(z:Int×Int×Int):Int:=if z.2.1=(r:Int)/\z.2.2=(q:Int)then wtM n O C P Q plane gd xd i o c z.1.toNat else 0
theorem aOq (h:VT n O C K P Q plane gd xd){f:Nat->Nat->Nat->Nat->Int}{i:Nat}{l:List (Int×Int×Int)}{K0:List Int->Prop}(hi:i<P*Q)(hl:InP K plane l)(hll:l.length<=1000000)
 (hk:K0 (w4 O C K K fun o' c' r' q'=>f o' c' r' q'+G4 l (wtZ n O C P Q plane gd xd i o' c' r' q'))) :
 EC K n O C plane i (l.length:Int) gd xd P Q l K0 (0,w4 O C K K f):=by
 refine⟨?_⟩
 have eg:((0:Int),w4 O C K K f)=(fun j:Nat=>((j:Int),w4 O C K K fun o' c' r' q'=>f o' c' r' q'+bO (fun t=>wtZ n O C P Q plane gd xd i o' c' r' q' (l.getD t (0,0,0))) j)) 0:=by
  dsimp only
  congr 1
  refine eK fun o' c' r' q' _ _ _ _ => ?_
  simp[bO]
 rw[eg]
 refine Loop.range (B:=uC K n O C plane i (l.length:Int) gd xd P Q l K0) (f:=fun j:Nat=>((j:Int),w4 O C K K fun o' c' r' q'=>f o' c' r' q'+bO (fun t=>wtZ n O C P Q plane gd xd i o' c' r' q' (l.getD t (0,0,0))) j)) l.length (fun _=>True) trivial ?_ ?_
 ·intro t ht _ X hX
  have hX:=hX trivial
  unfold uC
  rw[aB (aG (show(t:Int)<(l.length:Int) by omega))]
  dsimp only at hX⊢
  refine⟨by omega,?_⟩
  rw[bM]
  obtain⟨a,r,q,ez,ha,hr,hq⟩:=hl (l.getD t (0,0,0)) (by rw[aW,aP ht];exact fB ht)
  simp only[bO,ez]at hX
  rw[ez]
  refine aOe h hi ha hr hq ?_
  rw[aC ((t:Int)+1)]
  have ef:(w4 O C K K fun o' c' r' q'=>(f o' c' r' q'+bO (fun t=>wtZ n O C P Q plane gd xd i o' c' r' q' (l.getD t (0,0,0))) t)+if r'=r/\q'=q then wtM n O C P Q plane gd xd i o' c' a else 0)=w4 O C K K fun o' c' r' q'=>f o' c' r' q'+(bO (fun t=>wtZ n O C P Q plane gd xd i o' c' r' q' (l.getD t (0,0,0))) t+wtZ n O C P Q plane gd xd i o' c' r' q' (↑a,↑r,↑q)):=by
   refine eK fun o' c' r' q' _ _ _ _ => ?_
   rw[yR]
   congr 2
   unfold wtZ
   dsimp only
   rw[bM]
   by_cases g:r'=r/\q'=q
   ·rw[aB g,aB (by omega)]
   ·rw[aA g,aA (by omega)]
  rw[ef]
  exact hX
 ·intro _ X
  unfold uC
  rw[aA (by simp)]
  dsimp only
  have:(w4 O C K K fun o' c' r' q'=>f o' c' r' q'+bO (fun t=>wtZ n O C P Q plane gd xd i o' c' r' q' (l.getD t (0,0,0))) l.length)=w4 O C K K fun o' c' r' q'=>f o' c' r' q'+G4 l (wtZ n O C P Q plane gd xd i o' c' r' q') :=
   eK fun o' c' r' q' _ _ _ _=>by rw[QJ l _ (0,0,0)]
  rw[this]
  exact hk
end
def aBC (n O C K P Q H V:Nat)(s p:Int)(gd xd:List Int)(o c r q:Nat):Int :=
 bO (fun i=>G4 (gF H V ((i / Q:Nat):Int) ((i%Q:Nat):Int) K s p) (wtZ n O C P Q (H*V) gd xd i o c r q)) (P*Q)
theorem aOb {n O C K P Q H V:Nat}{gd xd:List Int}{s p:Int}(h:VT n O C K P Q (H*V) gd xd)(hK:K<=5){K0:List Int->Prop}
 (hk:K0 (w4 O C K K (aBC n O C K P Q H V s p gd xd))) :
 EK K n O C ((H*V:Nat):Int) ((P*Q:Nat):Int) gd xd H V K s p P Q K0 (0,w4 O C K K fun _ _ _ _=>0):=by
 have hPQ:P*Q<=8192:=by
  have:=h.bg
  have:=h.hn;have:=h.hO
  have e:n*O*P*Q=n*O*(P*Q):=cS _ _ _
  have:P*Q<=n*O*(P*Q):=yX _ (sY (by omega) (by omega))
  omega
 have hQ:=h.hQ
 have hKK:K*K<=5*5:=fE hK hK
 refine⟨?_⟩
 refine Loop.range (B:=uI K n O C ((H*V:Nat):Int) ((P*Q:Nat):Int) gd xd H V K s p P Q K0) (f:=fun j:Nat=>((j:Int),w4 O C K K fun o c r q=>bO (fun i=>G4 (gF H V ((i / Q:Nat):Int) ((i%Q:Nat):Int) K s p) (wtZ n O C P Q (H*V) gd xd i o c r q)) j)) (P*Q) (fun _=>True) trivial ?_ ?_
 ·intro i hi _ X hX
  have hX:=hX trivial
  unfold uI
  rw[aB (aG (show(i:Int)<((P*Q:Nat):Int) by omega))]
  dsimp only at hX⊢
  obtain⟨c1,c2,c3⟩:=PM hi
  have l1:i / Q<=i:=Nat.div_le_self _ _
  have et:i64.wrap ((i:Int).tdiv (Q:Int))=((i / Q:Nat):Int):=by
   obtain⟨y,ey⟩:∃ y,i / Q=y:=⟨_,rfl⟩
   rw[PN (by omega),<- aAT,ey]
   rw[ey]at l1
   rw[aC _]
  have em:(i:Int).tmod (Q:Int)=((i%Q:Nat):Int):=by
   rw[VK (by omega),<- V3]
  rw[et,em]
  refine⟨by omega,by omega,⟨?_⟩⟩
  refine aFZ ?_
  dsimp only
  have hwl:=F7 (rows:=H) (cols:=V) (r:=((i / Q:Nat):Int)) (c:=((i%Q:Nat):Int)) (s:=s) (p:=p) (K:=K)
  refine aOq h hi MD (by omega) ?_
  rw[aC ((i:Int)+1)]
  exact hX
 ·intro _ X
  unfold uI
  rw[aA (by simp)]
  exact hk
def W0 (g x:T3)(k s p:Int):Bool :=
 ((!(decide (0<bL (x.1.getD 2 0) k s p)&&decide (0<bL (x.1.getD 3 0) k s p))||(x.1.getD 0 0 != g.1.getD 0 0))||(g.1.getD 2 0 != bL (x.1.getD 2 0) k s p))||(g.1.getD 3 0 != bL (x.1.getD 3 0) k s p)
def SP (g x:T3)(k:Int):List Int:=[g.1.getD 1 0,x.1.getD 1 0,k,k]
def wtN (g:T3):Int:=g.1.getD 0 0*g.1.getD 2 0*g.1.getD 3 0
def wtE (g x:T3)(k s p:Int):Int :=
 if (oR [g,x] != 0)=true then oR [g,x]
 else if W0 g x k s p=true then 2
 else(gT (SP g x k) (g.2.1+x.2.1) (wtN g)).2
def aGT (g x:T3)(k s p:Int):List Int :=
 w4 (g.1.getD 1 0).toNat (x.1.getD 1 0).toNat k.toNat k.toNat
  (aBC (g.1.getD 0 0).toNat (g.1.getD 1 0).toNat (x.1.getD 1 0).toNat k.toNat (g.1.getD 2 0).toNat (g.1.getD 3 0).toNat (x.1.getD 2 0).toNat (x.1.getD 3 0).toNat s p g.2.2 x.2.2)
def uL (g x:T3)(k s p:Int):T3×Int:=if (wtE g x k s p != 0)=true then(Z3,wtE g x k s p)else((SP g x k,(g.2.1+x.2.1,aGT g x k s p)),0)
theorem D3 {d:List Int}{e n:Int}(h:(gT d e n).2≠0):(gT d e n).1=Z3:=by
 unfold gT at h⊢
 split
 ·rfl
 ·split
  ·rfl
  ·split
   ·rfl
   ·rename_i g1 g2 g3
    rw[aA g1,aA g2,aA g3]at h
    exact absurd rfl h
theorem aKi {g x:T3}{k s p:Int}{Q:T3×Int->Prop}(ag:All8 g.2.2)(ax:All8 x.2.2)(hq:Q (uL g x k s p)):OE g x k s p Q:=by
 refine⟨?_⟩
 unfold uL wtE at hq
 refine aGt (by simp) ?_
 show(if (oR [g,x] != 0)=true then _ else _)
 by_cases h2:(oR [g,x] != 0)=true
 ·rw[aB h2]
  simp only[h2,bS]at hq
  exact hq
 ·rw[aA h2]
  simp only[h2,eW,cN]at hq
  have hz:oR [g,x]=0:=by simpa using h2
  have hzz:=R9 hz
  obtain⟨mg,lg⟩:=hzz g (by simp)
  obtain⟨mx,lx⟩:=hzz x (by simp)
  obtain⟨n,O,P,R,eg,g1,g2,g3,g4,g5,g6,g7,g8⟩:=SC mg lg
  obtain⟨n',C,H,V,ex,x1,x2,x3,x4,x5,x6,x7,x8⟩:=SC mx lx
  refine⟨by omega,by omega,by omega,by omega,by omega,aKH ?_⟩
  refine eN (b := !(decide (0<bL (x.1.getD 2 0) k s p)&&decide (0<bL (x.1.getD 3 0) k s p))) (c:=x.1.getD 0 0 != g.1.getD 0 0) (fun _ P hp=>⟨by omega,hp⟩) (fun v3 e3 => ?_) rfl
  refine eN (c:=g.1.getD 2 0 != bL (x.1.getD 2 0) k s p) (fun _ P hp=>⟨by omega,hp⟩) (fun v5 e5 => ?_) rfl
  refine eN (c:=g.1.getD 3 0 != bL (x.1.getD 3 0) k s p) (fun _ P hp=>⟨by omega,hp⟩) (fun v7 e7 => ?_) rfl
  have hv:v7=W0 g x k s p:=by rw[e7,e5,e3];rfl
  rw[<- hv]at hq
  cases v7 with
  | true=>exact hq
  | false =>
    rw[aA (by simp)]
    simp only[eW,cN]at hq
    have hv2:=hv.symm
    unfold W0 at hv2
    simp only[dP,Q9,wZ,aI,aT]at hv2
    obtain⟨⟨⟨⟨o1,o2⟩,c1⟩,c2⟩,c3⟩:=hv2
    simp only[eg,ex,List.getD_cons_zero,List.getD_cons_succ]at o1 o2 c1 c2 c3
    have en:n'=n:=by omega
    subst en
    obtain⟨a1,a2,a3,a4,a5,a6⟩:=mJ o1
    obtain⟨d1,_⟩:=mJ o2
    obtain⟨K,rfl⟩:=gM (show 0<=k by omega)
    unfold wtN SP aGT at hq
    simp only[eg,ex,List.getD_cons_zero,List.getD_cons_succ,<- c2,<- c3]at hq⊢
    have k0:n'*O*P*R<=8192:=g5
    have k1:n'<=n'*O:=cE _ (by omega)
    have k2:n'*P*R<=8192:=by
     have e1:n'*P*R<=n'*O*P*R:=fQ _ (fQ _ k1)
     omega
    have k3:n'*P<=n'*P*R:=cE _ (by omega)
    have k4:H*V<=16*16:=fE (by omega) (by omega)
    have k5:P*R<=n'*(P*R):=yX _ (by omega)
    rw[<- cS]at k5
    rw[CF (r:=n') (n:=P) (by omega),CF (r:=n'*P) (n:=R) (by omega),aC (g.2.1+x.2.1)]
    rw[<- lA,<- lA]at hq
    refine aEM ⟨?_⟩
    by_cases h9:(gT [(O:Int),(C:Int),(K:Int),(K:Int)] (g.2.1+x.2.1) ((n'*P*R:Nat):Int)).2=0
    ·obtain⟨f1,f2,f3,f4⟩:=BA h9
     rw[f4]at hq⊢
     simp only[DG,eW,cN]at hq⊢
     obtain⟨q1,q2,q3,q4,e1,e2,e3,e4,_,_,_,_,s5,s6⟩:=aBo f3
     have r1:q1=O:=by omega
     have r2:q2=C:=by omega
     have r3:q3=K:=by omega
     have r4:q4=K:=by omega
     subst r1 r2 r3 r4
     rw[s6]
     have w:VT n' q1 q2 q4 P R (H*V) g.2.2 x.2.2:=⟨by omega,by rw[x6];exact cS _ _ _,k0,by rw[<- cS];exact x5,s5,ag,ax,by omega,by omega,by omega,by omega,by omega⟩
     rw[CF (r:=H) (n:=V) (by omega),CF (r:=P) (n:=R) (by omega),bM,aKA]
     refine aOb w (by omega) ?_
     simp only[Int.toNat_natCast]at hq
     exact hq
    ·rw[aB (by simpa using h9)]
     rw[aB (by simpa using h9)]at hq
     rw[D3 h9]
     exact hq
open Go.Mach Go.RowKit
set_option maxRecDepth 100000
set_option linter.unusedVariables false
set_option linter.unusedSimpArgs false
theorem aDl {n i:Nat}{f:Nat->Int}{v:Int}(h:i<n):(tab n f).set i v=tab n fun j=>if j=i then v else f j:=by
 refine aBO (by simp) fun j hj => ?_
 rw[aBT (by simpa using h)]
 by_cases e:i=j
 ·rw[aB e,aB e.symm]
 ·rw[aA e,aA (fun hh=>e hh.symm),ED _ hj]
def sD (plane O:Nat)(gd:List Int)(o j:Nat):Int:=bO (fun i=>if i / plane%O=o then gd.getD i 0 else 0) j
theorem aOi {plane O:Nat}{gd:List Int}{K0:List Int->Prop}(h8:All8 gd)(hl:gd.length<=8192)(hp:1<=plane)(hO:1<=O)(hO2:O<=8192)(hp2:plane<=8192)
 (hk:K0 (tab O fun o=>i32.wrap (sD plane O gd o gd.length))):LP O plane gd (gd.length:Int) K0 (0,List.replicate O 0):=by
 refine⟨?_⟩
 have eg:((0:Int),List.replicate O (0:Int))=(fun j:Nat=>((j:Int),tab O fun o=>i32.wrap (sD plane O gd o j))) 0:=by
  dsimp only
  congr 1
  refine aBO (by simp) fun i hi => ?_
  rw[P6 hi]
  show 0=i32.wrap 0
  decide
 rw[eg]
 refine Loop.range (B:=yN O plane gd (gd.length:Int) K0) (f:=fun j:Nat=>((j:Int),tab O fun o=>i32.wrap (sD plane O gd o j))) gd.length (fun _=>True) trivial ?_ ?_
 ·intro i hi _ X hX
  have hX:=hX trivial
  unfold yN
  rw[aB (aG (show(i:Int)<(gd.length:Int) by omega))]
  dsimp only at hX⊢
  have l1:i / plane<=i:=Nat.div_le_self _ _
  obtain⟨y,ey⟩:∃ y,i / plane=y:=⟨_,rfl⟩
  have et:i64.wrap ((i:Int).tdiv (plane:Int))=(y:Int):=by
   rw[PN (by omega),<- aAT,ey]
   rw[ey]at l1
   rw[aC _]
  have hm:=Nat.mod_lt y (show 0<O by omega)
  obtain⟨o,eo⟩:∃ o,y%O=o:=⟨_,rfl⟩
  have em:(y:Int).tmod (O:Int)=(o:Int):=by
   rw[VK (by omega),<- V3,eo]
  rw[et,em,TN]
  refine⟨by omega,by omega,by omega,by omega,by omega,?_⟩
  rw[bM,bM,ED _ (by omega),aDl (by omega),aC ((i:Int)+1),QR,IZ]
  have:(tab O fun j=>if j=o then i32.wrap (sD plane O gd o i+gd.getD i 0)else i32.wrap (sD plane O gd j i))=tab O fun o=>i32.wrap (sD plane O gd o (i+1)):=by
   refine P5 fun j hj => ?_
   unfold sD
   simp only[bO]
   by_cases e:j=o
   ·subst e
    rw[aB rfl,aB (by rw[ey,eo])]
   ·rw[aA e,aA (by rw[ey,eo];exact fun hh=>e hh.symm),Int.add_zero]
  rw[this]
  exact hX
 ·intro _ X
  unfold yN
  rw[aA (by simp)]
  exact hk
def bsE (g:T3):Int:=if (oR [g] != 0)=true then oR [g]else(gT [g.1.getD 1 0] g.2.1 (g.1.getD 0 0*(g.1.getD 2 0*g.1.getD 3 0))).2
def Z2 (g:T3):List Int:=tab (g.1.getD 1 0).toNat fun o=>i32.wrap (sD (g.1.getD 2 0*g.1.getD 3 0).toNat (g.1.getD 1 0).toNat g.2.2 o g.2.2.length)
def PL (g:T3):T3×Int:=if (bsE g != 0)=true then(Z3,bsE g)else(([g.1.getD 1 0],(g.2.1,Z2 g)),0)
theorem aMU {g:T3}{Q:T3×Int->Prop}(ag:All8 g.2.2)(hq:Q (PL g)):VB g Q:=by
 refine⟨?_⟩
 unfold PL bsE at hq
 refine aGt (by simp) ?_
 show(if (oR [g] != 0)=true then _ else _)
 by_cases h2:(oR [g] != 0)=true
 ·rw[aB h2]
  simp only[h2,bS]at hq
  exact hq
 ·rw[aA h2]
  simp only[h2,eW,cN]at hq
  have hz:oR [g]=0:=by simpa using h2
  obtain⟨mg,lg⟩:=R9 hz g (by simp)
  obtain⟨n,O,P,R,eg,g1,g2,g3,g4,g5,g6,g7,g8⟩:=SC mg lg
  refine⟨by omega,by omega,by omega,by omega,?_⟩
  unfold Z2 at hq
  simp only[eg,List.getD_cons_zero,List.getD_cons_succ]at hq⊢
  have k1:P*R<=n*O*(P*R):=yX _ (sY (by omega) (by omega))
  rw[<- cS]at k1
  have k2:n<=n*O:=cE _ (by omega)
  have k3:n*P*R<=n*O*P*R:=fQ _ (fQ _ k2)
  have k4:O<=n*O:=yX _ (by omega)
  have k5:n*O<=n*O*P:=cE _ (by omega)
  have k6:n*O*P<=n*O*P*R:=cE _ (by omega)
  have k7:n*P*R=n*(P*R):=cS _ _ _
  rw[CF (r:=P) (n:=R) (by omega),CF (r:=n) (n:=P*R) (by omega)]
  rw[<- lA,<- lA]at hq
  refine aEM ?_
  by_cases h9:(gT [(O:Int)] g.2.1 ((n*(P*R):Nat):Int)).2=0
  ·obtain⟨f1,f2,f3,f4⟩:=BA h9
   rw[f4]at hq⊢
   simp only[DG,eW,cN]at hq⊢
   rw[(aL7 f3).2.2,bM]
   refine aOi ag (by omega) (sY (by omega) (by omega)) (by omega) (by omega) (by omega) ?_
   simp only[Int.toNat_natCast]at hq
   exact hq
  ·rw[aB (by simpa using h9)]
   rw[aB (by simpa using h9)]at hq
   rw[D3 h9]
   exact hq
def IJ (s p r c k Q:Int)(y x:Nat):List (Int×Int×Int) :=
 if (inP (r-(s*y-p)) 0 (k-1)&&inP (c-(s*x-p)) 0 (k-1))=true then [((y:Int)*Q+x,r-(s*y-p),c-(s*x-p))]else []
def pO (s p r c k Q:Int)(y m:Nat):List (Int×Int×Int):=(List.range m).flatMap (IJ s p r c k Q y)
def T7 (s p r c k Q:Int)(P m:Nat):List (Int×Int×Int):=(List.range P).flatMap fun y=>pO s p r c k Q y m
theorem MG {s p r c k Q:Int}{y m:Nat}:pO s p r c k Q y (m+1)=pO s p r c k Q y m++IJ s p r c k Q y m:=by
 unfold pO;rw[qR,S7];simp
theorem RX {s p r c k Q:Int}{P m:Nat}:T7 s p r c k Q (P+1) m=T7 s p r c k Q P m++pO s p r c k Q P m:=by
 unfold T7;rw[qR,S7];simp
theorem aDx {s p r c k Q:Int}{y x:Nat}:(IJ s p r c k Q y x).length<=1:=by
 unfold IJ;split <;> simp
theorem FU {s p r c k Q:Int}{y:Nat}:∀ m,(pO s p r c k Q y m).length<=m
 | 0=>by simp[pO]
 | m+1=>by
   rw[MG,kX]
   have:=FU (s:=s) (p:=p) (r:=r) (c:=c) (k:=k) (Q:=Q) (y:=y) m
   have:=aDx (s:=s) (p:=p) (r:=r) (c:=c) (k:=k) (Q:=Q) (y:=y) (x:=m)
   omega
theorem QM {s p r c k Q:Int}{m:Nat}:∀ P,(T7 s p r c k Q P m).length<=P*m
 | 0=>by simp[T7]
 | P+1=>by
   rw[RX,kX,Nat.succ_mul]
   have:=QM (s:=s) (p:=p) (r:=r) (c:=c) (k:=k) (Q:=Q) (m:=m) P
   have:=FU (s:=s) (p:=p) (r:=r) (c:=c) (k:=k) (Q:=Q) (y:=P) m
   omega
theorem aFs {α:Type}{n k:Nat}{f:Nat->List α}(hk:k<n)(h:∀ i,i<n->i≠k->f i=[]):(List.range n).flatMap f=f k:=by
 induction n with
 | zero=>omega
 | succ n ih =>
   rw[qR,S7]
   simp only[PF,List.flatMap_nil,dU]
   by_cases e:k=n
   ·subst e
    have:(List.range k).flatMap f=[]:=by
     rw[List.flatMap_eq_nil_iff]
     intro i hi
     have:=List.mem_range.1 hi
     exact h i (by omega) (by omega)
    rw[this,List.nil_append]
   ·rw[ih (by omega) fun i hi=>h i (by omega),h n (by omega) (by omega),dU]
theorem VD {α:Type}{n:Nat}{f:Nat->List α}(h:∀ i,i<n->f i=[]):(List.range n).flatMap f=[]:=by
 rw[List.flatMap_eq_nil_iff]
 exact fun i hi=>h i (List.mem_range.1 hi)
theorem aMk {a b r c V:Int}(h1:0<=b)(h2:b<V)(h3:0<=c)(h4:c<V)(e:a*V+b=r*V+c):a=r/\b=c:=by
 have h5:(a-r)*V=c-b:=by rw[Int.sub_mul];omega
 have h6:a-r=0:=by
  rcases Int.lt_trichotomy (a-r) 0 with h|h|h
  ·have:=OW (show a-r <= -1 by omega) (show 0<=V by omega)
   omega
  ·exact h
  ·have:=OW (show 1<=a-r by omega) (show 0<=V by omega)
   omega
 rw[h6]at h5
 omega
theorem aLn {rows cols cr cc r c:Int}{k:Nat}(hr:0<=r/\r<=rows-1)(hc:0<=c/\c<=cols-1)(u:Int->Int->List (Int×Int×Int)) :
 ((N5 rows cols cr cc k k).flatMap fun w=>if w.1=r*cols+c then u w.2.1 w.2.2 else [])=if (inP (r-cr) 0 ((k:Int)-1)&&inP (c-cc) 0 ((k:Int)-1))=true then u (r-cr) (c-cc)else []:=by
 have key:∀ i j:Nat,((sX rows cols cr cc i j).flatMap fun w=>if w.1=r*cols+c then u w.2.1 w.2.2 else [])=if (i:Int)=r-cr/\(j:Int)=c-cc then u (r-cr) (c-cc)else []:=by
  intro i j
  unfold sX
  split
  ·rename_i hin
   simp only[aI]at hin
   have b1:0<=cr+i/\cr+i<=rows-1:=by simpa [inP] using hin.1
   have b2:0<=cc+j/\cc+j<=cols-1:=by simpa [inP] using hin.2
   simp only[PF,List.flatMap_nil,dU]
   by_cases e:(i:Int)=r-cr/\(j:Int)=c-cc
   ·rw[aB e,aB (by rw[show cr+i=r by omega,show cc+j=c by omega]),e.1,e.2]
   ·rw[aA e,aA]
    intro hh
    obtain⟨g1,g2⟩:=aMk b2.1 (by omega) hc.1 (by omega) hh
    exact e ⟨by omega,by omega⟩
  ·rename_i hin
   rw[List.flatMap_nil,aA]
   rintro⟨e1,e2⟩
   apply hin
   rw[CI (by omega) (by omega),CI (by omega) (by omega)];rfl
 unfold N5 rC
 rw[List.flatMap_assoc]
 have:(fun i=>((List.range k).flatMap (sX rows cols cr cc i)).flatMap fun w=>if w.1=r*cols+c then u w.2.1 w.2.2 else [])=fun(i:Nat)=>(List.range k).flatMap fun(j:Nat)=>if (i:Int)=r-cr/\(j:Int)=c-cc then u (r-cr) (c-cc)else []:=by
  funext i
  rw[List.flatMap_assoc]
  congr 1
  funext j
  exact key i j
 rw[this]
 by_cases g:(inP (r-cr) 0 ((k:Int)-1)&&inP (c-cc) 0 ((k:Int)-1))=true
 ·rw[aB g]
  simp only[aI]at g
  have b1:0<=r-cr/\r-cr<=k-1:=by simpa [inP] using g.1
  have b2:0<=c-cc/\c-cc<=k-1:=by simpa [inP] using g.2
  obtain⟨a,ea⟩:=gM b1.1
  obtain⟨b,eb⟩:=gM b2.1
  rw[aFs (k:=a) (by omega) (fun i hi hia=>VD fun j hj=>by rw[aA (by omega)]),aFs (k:=b) (by omega) (fun j hj hjb=>by rw[aA (by omega)]),aB (by omega)]
 ·rw[aA g]
  refine VD fun i hi=>VD fun j hj => ?_
  rw[aA]
  rintro⟨e1,e2⟩
  apply g
  rw[CI (by omega) (by omega),CI (by omega) (by omega)];rfl
theorem aKY {α β:Type}{m:List α}{f:α->List β}(h:∀ a,(f a).length<=1):(m.flatMap f).length<=m.length:=by
 induction m with
 | nil=>simp
 | cons a m ih =>
   rw[PF,kX,R8]
   have:=h a
   omega
theorem aMl {V r c Q:Int}{y x:Nat}{l acc:List (Int×Int×Int)}{K0:List (Int×Int×Int)->Prop}(hV:0<=V/\V<=1000)(hr:0<=r/\r<=1000)(hc:0<=c/\c<=1000)(hQ:0<=Q/\Q<=1000)(hy:y<=1000)(hx:x<=1000)(hl:l.length<=1000000)(ha:acc.length<=1000000)
 (hk:K0 (acc++l.flatMap fun w=>if w.1=r*V+c then [((y:Int)*Q+x,w.2.1,w.2.2)]else [])) :
 AJ V r c Q y x (l.length:Int) l K0 (0,acc):=by
 refine⟨?_⟩
 have m1:0<=r*V:=E2 hr.1 hV.1
 have m2:r*V<=1000*1000:=zJ hr.2 hV.2 hV.1 (by omega)
 have m3:0<=(y:Int)*Q:=E2 (by omega) hQ.1
 have m4:(y:Int)*Q<=1000*1000:=zJ (by omega) hQ.2 hQ.1 (by omega)
 have eg:((0:Int),acc)=(fun j:Nat=>((j:Int),acc++(l.take j).flatMap fun w=>if w.1=r*V+c then [((y:Int)*Q+x,w.2.1,w.2.2)]else [])) 0:=by simp
 rw[eg]
 refine Loop.range (B:=qU V r c Q y x (l.length:Int) l K0) (f:=fun j:Nat=>((j:Int),acc++(l.take j).flatMap fun w=>if w.1=r*V+c then [((y:Int)*Q+x,w.2.1,w.2.2)]else [])) l.length (fun _=>True) trivial ?_ ?_
 ·intro i hi _ X hX
  have hX:=hX trivial
  unfold qU
  rw[aB (aG (show(i:Int)<(l.length:Int) by omega))]
  dsimp only at hX⊢
  refine⟨by omega,?_⟩
  rw[bM]
  have hg:l.getD i (0,0,0)=l[i]:=by rw[aW,aP hi];rfl
  rw[hg,aC (r*V),aC (r*V+c),aC ((y:Int)*Q),aC ((y:Int)*Q+x)]
  rw[Z4,aP hi,S7,<- fU]at hX
  simp only[Option.toList_some,PF,List.flatMap_nil,dU]at hX
  by_cases g:l[i].1=r*V+c
  ·rw[aB (by simpa using g)]
   rw[aB g]at hX
   refine⟨?_,⟨?_⟩⟩
   ·have hfl:((l.take i).flatMap fun w=>if w.1=r*V+c then [((y:Int)*Q+x,w.2.1,w.2.2)]else []).length<=1000000:=by
     have h1:=aKY (m:=l.take i) (f:=fun w=>if w.1=r*V+c then [((y:Int)*Q+x,w.2.1,w.2.2)]else []) fun w=>by split <;> simp
     rw[AC]at h1
     omega
    rw[kX]
    simp only[List.length_singleton]
    omega
   ·rw[aC ((i:Int)+1)]
    exact hX
  ·rw[aA (by simpa using g)]
   rw[aA g,dU]at hX
   refine⟨?_⟩
   rw[aC ((i:Int)+1)]
   exact hX
 ·intro _ X
  unfold qU
  rw[aA (by simp)]
  dsimp only
  rw[sS]
  exact hk
theorem aM1 {H V r c s p:Int}{k Q y:Nat}{acc:List (Int×Int×Int)}{K0:List (Int×Int×Int)->Prop}(hH:H<=16)(hV:V<=16)(hr:0<=r/\r<=H-1)(hc:0<=c/\c<=V-1)(hk5:k<=5)(hs:1<=s/\s<=4)(hp:0<=p/\p<=5)(hQ:Q<=25)(hy:y<=25)(ha:acc.length<=10000)
 (hk:K0 (acc++pO s p r c k Q y Q)):AA V r c Q y Q H V k s p K0 (0,acc):=by
 refine⟨?_⟩
 have eg:((0:Int),acc)=(fun j:Nat=>((j:Int),acc++pO s p r c k Q y j)) 0:=by simp[pO]
 rw[eg]
 refine Loop.range (B:=q8 V r c Q y Q H V k s p K0) (f:=fun j:Nat=>((j:Int),acc++pO s p r c k Q y j)) Q (fun _=>True) trivial ?_ ?_
 ·intro x hx _ X hX
  have hX:=hX trivial
  unfold q8
  rw[aB (aG (show(x:Int)<(Q:Int) by omega))]
  dsimp only at hX⊢
  refine aFY (by omega) (by omega) (by omega) (by omega) (by omega) (by omega) (by omega) ?_
  have hl:=OQ (rows:=H) (cols:=V) (cr:=s*y-p) (cc:=s*x-p) (k:=k) k
  have hkk:k*k<=5*5:=fE hk5 hk5
  have hll:=FU (s:=s) (p:=p) (r:=r) (c:=c) (k:=k) (Q:=Q) (y:=y) x
  refine aMl (by omega) (by omega) (by omega) (by omega) (by omega) (by omega) (by omega) (by rw[kX];omega) ?_
  rw[aC ((x:Int)+1),aLn hr hc fun a b=>[((y:Int)*Q+x,a,b)],fU]
  rw[MG]at hX
  exact hX
 ·intro _ X
  unfold q8
  rw[aA (by simp)]
  exact hk
def V5 (rows cols r c k s p:Int):Bool:=((decide (bL rows k s p<1)||decide (bL cols k s p<1)) || !inP r 0 (rows-1)) || !inP c 0 (cols-1)
def GD (rows cols r c k s p:Int):List (Int×Int×Int):=if V5 rows cols r c k s p=true then []else T7 s p r c k (bL cols k s p) (bL rows k s p).toNat (bL cols k s p).toNat
theorem aI7 {rows cols r c k s p:Int}{Q:List (Int×Int×Int)->Prop}(hrc : -1000000<=rows/\rows<=1000000 /\ -1000000<=cols/\cols<=1000000)(h:Q (GD rows cols r c k s p)):HV rows cols r c k s p Q:=by
 refine⟨?_⟩
 refine⟨?_⟩
 refine RF (RF ?_)
 unfold GD V5 at h
 dsimp only
 rw[aC (rows-1),aC (cols-1)]
 refine aHM (b:=decide (bL rows k s p<1)||decide (bL cols k s p<1)) (c := !inP r 0 (rows-1)) (fun P hp=>RS hp) (fun v2 e2 => ?_) rfl
 refine aHM (c := !inP c 0 (cols-1)) (fun P hp=>RS hp) (fun v5 e5 => ?_) rfl
 rw[<- e2,<- e5]at h
 cases hv:v5 with
 | true=>rw[hv,aB rfl]at h;rw[aB (by rfl)];exact h
 | false =>
   rw[hv,aA (by simp)]at h
   rw[aA (by simp)]
   rw[hv,e2]at e5
   have:=e5.symm
   simp only[dP,wZ,eZ]at this
   obtain⟨⟨⟨g1,g2⟩,g3⟩,g4⟩:=this
   obtain⟨b1,b2,b3,b4,b5,_⟩:=mJ (n:=rows) (k:=k) (s:=s) (p:=p) (by omega)
   obtain⟨c1,_⟩:=mJ (n:=cols) (k:=k) (s:=s) (p:=p) (by omega)
   have r1:0<=r/\r<=rows-1:=by simpa [inP] using g3
   have r2:0<=c/\c<=cols-1:=by simpa [inP] using g4
   obtain⟨P,eP,hP⟩:=pR (n:=rows) (k:=k) (s:=s) (p:=p)
   obtain⟨R,eR,hR⟩:=pR (n:=cols) (k:=k) (s:=s) (p:=p)
   obtain⟨K,rfl⟩:=gM (show 0<=k by omega)
   rw[eP,eR,bM,bM]at h
   rw[eP,eR]
   refine⟨?_⟩
   refine Loop.range (B:=qS cols r c R P rows cols K s p _) (f:=fun y:Nat=>((y:Int),T7 s p r c K R y R)) P (fun _=>True) trivial ?_ ?_
   ·intro y hy _ X hX
    have hX:=hX trivial
    unfold qS
    rw[aB (aG (show(y:Int)<(P:Int) by omega))]
    dsimp only at hX⊢
    have hl:=QM (s:=s) (p:=p) (r:=r) (c:=c) (k:=K) (Q:=R) (m:=R) y
    have hl2:y*R<=25*25:=fE (by omega) hR
    refine aM1 (by omega) (by omega) r1 r2 (by omega) b3 (by omega) hR (by omega) (by omega) ?_
    rw[aC ((y:Int)+1)]
    rw[RX]at hX
    exact hX
   ·intro _ X
    unfold qS
    rw[aA (by simp)]
    exact h
open Go.Mach Go.RowKit
set_option maxRecDepth 100000
set_option linter.unusedVariables false
set_option linter.unusedSimpArgs false
theorem aEv {rows cols r c s p:Int}{K P Q:Nat}(eP:bL rows K s p=P)(eQ:bL cols K s p=Q):InP K (P*Q) (GD rows cols r c K s p):=by
 unfold GD
 split
 ·intro z hz;simp at hz
 ·rw[eP,eQ,bM,bM]
  intro z hz
  unfold T7 pO at hz
  simp only[List.mem_flatMap,KL]at hz
  obtain⟨y,hy,x,hx,hz⟩:=hz
  unfold IJ at hz
  split at hz
  ·rename_i g
   simp only[aI]at g
   have b1:0<=r-(s*y-p)/\r-(s*y-p)<=K-1:=by simpa [inP] using g.1
   have b2:0<=c-(s*x-p)/\c-(s*x-p)<=K-1:=by simpa [inP] using g.2
   obtain⟨a,ea⟩:=gM b1.1
   obtain⟨b,eb⟩:=gM b2.1
   refine⟨y*Q+x,a,b,?_,fC hy hx,by omega,by omega⟩
   rw[ea,eb,<- lA,<- Int.natCast_add]at hz
   simpa using hz
  ·simp at hz
theorem aCj {rows cols r c k s p:Int}:(GD rows cols r c k s p).length<=625:=by
 unfold GD
 split
 ·simp
 ·obtain⟨P,eP,hP⟩:=pR (n:=rows) (k:=k) (s:=s) (p:=p)
  obtain⟨Q,eQ,hQ⟩:=pR (n:=cols) (k:=k) (s:=s) (p:=p)
  rw[eP,eQ,bM,bM]
  have h1:=QM (s:=s) (p:=p) (r:=r) (c:=c) (k:=k) (Q:=Q) (m:=Q) P
  have h2:P*Q<=25*25:=fE hP hQ
  omega
def inG (gd wd:List Int)(O C plane K m c o:Nat)(z:Int×Int×Int):Int:=gd.getD ((m*O+o)*plane+z.1.toNat) 0*wd.getD (((o*C+c)*K+z.2.1.toNat)*K+z.2.2.toNat) 0
theorem aOf {C K plane m o c n O:Nat}{gd wd:List Int}{l:List (Int×Int×Int)}{t:Int}{K0:Int->Prop}(hx:gd.length=n*O*plane)(hw:wd.length=O*C*K*K)(bx:n*O*plane<=8192)(bw:O*C*K*K<=8192)(ax:All8 gd)(aw:All8 wd)(hm:m<n)(ho:o<O)(hc:c<C)(hl:InP K plane l)(hll:l.length<=1000000)
 (h:K0 (i64.wrap (t+G4 l (inG gd wd O C plane K m c o)))):GN O C K plane m c o (l.length:Int) gd wd l K0 (i64.wrap t,0):=by
 refine⟨?_⟩
 have eg:(i64.wrap t,(0:Int))=(fun i:Nat=>(i64.wrap (t+bO (fun i=>inG gd wd O C plane K m c o (l.getD i (0,0,0))) i),(i:Int))) 0:=by simp[bO]
 rw[eg]
 refine Loop.range (B:=wN O C K plane m c o (l.length:Int) gd wd l K0) (f:=fun i:Nat=>(i64.wrap (t+bO (fun i=>inG gd wd O C plane K m c o (l.getD i (0,0,0))) i),(i:Int))) l.length (fun _=>True) trivial ?_ ?_
 ·intro i hi _ X hX
  have hX:=hX trivial
  unfold wN
  rw[aB (aG (show(i:Int)<(l.length:Int) by omega))]
  dsimp only at hX⊢
  refine⟨by omega,?_⟩
  rw[bM]
  obtain⟨a,r,q,ez,ha,hr,hq⟩:=hl (l.getD i (0,0,0)) (by rw[aW,aP hi];exact fB hi)
  have g1:(m*O+o)*plane+a<n*O*plane:=fC (fC hm ho) ha
  have g2:((o*C+c)*K+r)*K+q<O*C*K*K:=fC (fC (fC ho hc) hr) hq
  have g3:m*O+o<=(m*O+o)*plane:=cE _ (by omega)
  have g5:(o*C+c)*K+r<=((o*C+c)*K+r)*K:=cE _ (by omega)
  have g7:o*C+c<=(o*C+c)*K:=cE _ (by omega)
  have ef:inG gd wd O C plane K m c o (l.getD i (0,0,0))=gd.getD ((m*O+o)*plane+a) 0*wd.getD (((o*C+c)*K+r)*K+q) 0:=by
   unfold inG;rw[ez];simp only[Int.toNat_natCast]
  simp only[bO,ef]at hX
  rw[ez]
  dsimp only
  rw[ix (r:=m) (n:=O) (i:=o) (by omega),ix (r:=m*O+o) (n:=plane) (i:=a) (by omega),ix (r:=o) (n:=C) (i:=c) (by omega),ix (r:=o*C+c) (n:=K) (i:=r) (by omega),ix (r:=(o*C+c)*K+r) (n:=K) (i:=q) (by omega)]
  refine⟨by omega,by omega,?_⟩
  simp only[Int.toNat_natCast]
  have b1:=ax.at_ ((m*O+o)*plane+a)
  have b2:=aw.at_ (((o*C+c)*K+r)*K+q)
  have b3:=ZK b1 b2
  rw[aC (gd.getD ((m*O+o)*plane+a) 0),aC (wd.getD (((o*C+c)*K+r)*K+q) 0) (by omega) (by omega),aC (_*_),aC ((i:Int)+1),aCs,yR]
  exact hX
 ·intro _ X
  unfold wN
  rw[aA (by simp)]
  rw[QJ l _ (0,0,0)]at h
  exact h
theorem aOr {C K plane m c n O:Nat}{gd wd:List Int}{l:List (Int×Int×Int)}{t:Int}{K0:Int->Prop}(hx:gd.length=n*O*plane)(hw:wd.length=O*C*K*K)(bx:n*O*plane<=8192)(bw:O*C*K*K<=8192)(ax:All8 gd)(aw:All8 wd)(hm:m<n)(hc:c<C)(hl:InP K plane l)(hll:l.length<=1000000)(hO:O<=10000)
 (h:K0 (i64.wrap (t+bO (fun o=>G4 l (inG gd wd O C plane K m c o)) O))):HI O C K plane m c O gd wd l K0 (i64.wrap t,0):=by
 refine⟨?_⟩
 have eg:(i64.wrap t,(0:Int))=(fun i:Nat=>(i64.wrap (t+bO (fun o=>G4 l (inG gd wd O C plane K m c o)) i),(i:Int))) 0:=by simp[bO]
 rw[eg]
 refine Loop.range (B:=wP O C K plane m c O gd wd l K0) (f:=fun i:Nat=>(i64.wrap (t+bO (fun o=>G4 l (inG gd wd O C plane K m c o)) i),(i:Int))) O (fun _=>True) trivial ?_ ?_
 ·intro o ho _ X hX
  have hX:=hX trivial
  unfold wP
  rw[aB (aG (show(o:Int)<(O:Int) by omega))]
  dsimp only at hX⊢
  refine aOf hx hw bx bw ax aw hm ho hc hl hll ?_
  rw[aC ((o:Int)+1),yR]
  exact hX
 ·intro _ X
  unfold wP
  rw[aA (by simp)]
  exact h
section
variable {n C O K H V P Q:Nat} {s p:Int} {gd wd:List Int}
def EJ (H V C O K P Q:Nat)(s p:Int)(gd wd:List Int)(m c y x:Nat):Int:=i32.wrap (bO (fun o=>G4 (GD H V y x K s p) (inG gd wd O C (P*Q) K m c o)) O)
structure aI1 (n C O K H V P Q:Nat)(s p:Int)(gd wd:List Int):Prop where
 hg:gd.length=n*O*(P*Q)
 hw:wd.length=O*C*K*K
 bg:n*O*(P*Q)<=8192
 bw:O*C*K*K<=8192
 ag:All8 gd
 aw:All8 wd
 eP:bL H K s p=P
 eQ:bL V K s p=Q
 hH:1<=H/\H<=16
 hV:1<=V/\V<=16
 bo:n*C*H*V<=8192
 hC:C<=8192
 hO:O<=8192
 hn:n<=8192
theorem aOx (g:aI1 n C O K H V P Q s p gd wd){C0:Nat->Nat->Nat->Nat->Prop}{L:List Int}{m y x:Nat}{K0:List Int->Prop}(hm:m<n)(hy:y<H)(hx:x<V)(hL:Fill n C H V (EJ H V C O K P Q s p gd wd) C0 L)
 (h:∀ L',Fill n C H V (EJ H V C O K P Q s p gd wd) (fun m' c' y' x'=>C0 m' c' y' x'\/(m'=m/\y'=y/\x'=x)) L'->K0 L') :
 HO H V O C K ((P*Q:Nat):Int) ((y*V+x:Nat):Int) m C gd wd (GD H V y x K s p) K0 (0,L):=by
 refine⟨?_⟩
 have hbo:=g.bo;have hC:=g.hC
 refine Loop.rangeI (B:=wR H V O C K ((P*Q:Nat):Int) ((y*V+x:Nat):Int) m C gd wd (GD H V y x K s p) K0) C (fun i st=>st.1=(i:Int)/\Fill n C H V (EJ H V C O K P Q s p gd wd) (fun m' c' y' x'=>C0 m' c' y' x'\/(m'=m/\y'=y/\x'=x/\c'<i)) st.2) ⟨rfl,hL.mono fun m' c' y' x' _ _ _ _ hc=>hc.elim id fun h=>absurd h.2.2.2 (by omega)⟩ ?_ ?_
 ·rintro c hc ⟨c',M⟩ ⟨e1,hM⟩ X hX
  simp only at e1 hM
  subst e1
  unfold wR
  rw[aB (aG (show(c:Int)<(C:Int) by omega))]
  dsimp only
  have e0:((0:Int),(0:Int))=(i64.wrap 0,(0:Int)):=by decide
  rw[e0]
  have hll:=aCj (rows:=H) (cols:=V) (r:=y) (c:=x) (k:=K) (s:=s) (p:=p)
  refine aOr g.hg g.hw g.bg g.bw g.ag g.aw hm hc (aEv g.eP g.eQ) (by omega) (by have:=g.hO;omega) ?_
  have g1:=GO (P:=H) (Q:=V) hm hc hy hx
  have ei:ix4 C H V m c y x=(m*C+c)*H*V+(y*V+x):=by unfold ix4;rw[fK,zC]
  rw[ei]at g1
  have g2:m*C+c<=(m*C+c)*H:=cE _ (by omega)
  have g3:(m*C+c)*H<=(m*C+c)*H*V:=cE _ (by omega)
  rw[ix (r:=m) (n:=C) (i:=c) (by omega),CF (r:=m*C+c) (n:=H) (by omega),ix (r:=(m*C+c)*H) (n:=V) (i:=y*V+x) (by omega)]
  refine⟨by rw[hM.len];omega,?_⟩
  rw[bM,aC ((c:Int)+1),aH2,<- ei,Int.zero_add]
  refine hX _ ⟨by simp,?_⟩
  refine hM.set hm hc hy hx rfl fun m' c' y' x' _ _ _ _ hc => ?_
  rcases hc with hc|⟨c1,c2,c3,c4⟩
  ·exact .inl (.inl hc)
  ·rcases AB c' c with c5|c5
   ·exact .inl (.inr ⟨c1,c2,c3,c5⟩)
   ·exact .inr ⟨c1,by omega,c2,c3⟩
 ·rintro⟨c',M⟩ ⟨e1,hM⟩ X
  simp only at e1 hM
  subst e1
  unfold wR
  rw[aA (by simp)]
  exact h _ (hM.mono fun m' c' y' x' _ h2 _ _ hc=>hc.elim .inl fun⟨a,b,c⟩ => .inr ⟨a,b,c,h2⟩)
theorem aOo (g:aI1 n C O K H V P Q s p gd wd){C0:Nat->Nat->Nat->Nat->Prop}{L:List Int}{y x:Nat}{K0:List Int->Prop}(hy:y<H)(hx:x<V)(hL:Fill n C H V (EJ H V C O K P Q s p gd wd) C0 L)
 (h:∀ L',Fill n C H V (EJ H V C O K P Q s p gd wd) (fun m' c' y' x'=>C0 m' c' y' x'\/(y'=y/\x'=x)) L'->K0 L') :
 GW H V O C K ((P*Q:Nat):Int) ((y*V+x:Nat):Int) n gd wd (GD H V y x K s p) K0 (0,L):=by
 refine⟨?_⟩
 have hn:=g.hn
 refine Loop.rangeI (B:=wL H V O C K ((P*Q:Nat):Int) ((y*V+x:Nat):Int) n gd wd (GD H V y x K s p) K0) n (fun i st=>st.1=(i:Int)/\Fill n C H V (EJ H V C O K P Q s p gd wd) (fun m' c' y' x'=>C0 m' c' y' x'\/(y'=y/\x'=x/\m'<i)) st.2) ⟨rfl,hL.mono fun m' c' y' x' _ _ _ _ hc=>hc.elim id fun h=>absurd h.2.2 (by omega)⟩ ?_ ?_
 ·rintro m hm ⟨m',M⟩ ⟨e1,hM⟩ X hX
  simp only at e1 hM
  subst e1
  unfold wL
  rw[aB (aG (show(m:Int)<(n:Int) by omega))]
  dsimp only
  refine aOx g hm hy hx hM fun L' hL' => ?_
  rw[aC ((m:Int)+1)]
  refine hX _ ⟨by simp,hL'.mono fun m' c' y' x' _ _ _ _ hc => ?_⟩
  rcases hc with hc|⟨c1,c2,c3⟩
  ·exact .inl (.inl hc)
  ·rcases AB m' m with c5|c5
   ·exact .inl (.inr ⟨c1,c2,c5⟩)
   ·exact .inr ⟨by omega,c1,c2⟩
 ·rintro⟨m',M⟩ ⟨e1,hM⟩ X
  simp only at e1 hM
  subst e1
  unfold wL
  rw[aA (by simp)]
  exact h _ (hM.mono fun m' c' y' x' h2 _ _ _ hc=>hc.elim .inl fun⟨a,b⟩ => .inr ⟨a,b,h2⟩)
theorem aOm (g:aI1 n C O K H V P Q s p gd wd){L:List Int}{K0:List Int->Prop}(hL:L.length=n*C*H*V)
 (h:K0 (aBA n C H V (EJ H V C O K P Q s p gd wd))) :
 HU H V n O C K ((P*Q:Nat):Int) ((H*V:Nat):Int) gd wd H V K s p P Q K0 (0,L):=by
 refine⟨?_⟩
 have hH:=g.hH;have hV:=g.hV
 have hHV:H*V<=16*16:=fE hH.2 hV.2
 refine Loop.rangeI (B:=wO H V n O C K ((P*Q:Nat):Int) ((H*V:Nat):Int) gd wd H V K s p P Q K0) (H*V) (fun i st=>st.1=(i:Int)/\Fill n C H V (EJ H V C O K P Q s p gd wd) (fun m' c' y' x'=>y'*V+x'<i) st.2) ⟨rfl,hL,fun m' c' y' x' _ _ _ _ hc=>absurd hc (by omega)⟩ ?_ ?_
 ·rintro i hi ⟨i',M⟩ ⟨e1,hM⟩ X hX
  simp only at e1 hM
  subst e1
  unfold wO
  rw[aB (aG (show(i:Int)<((H*V:Nat):Int) by omega))]
  obtain⟨c1,c2,c3⟩:=PM hi
  obtain⟨y,ey⟩:∃ y,i / V=y:=⟨_,rfl⟩
  obtain⟨x,ex⟩:∃ x,i%V=x:=⟨_,rfl⟩
  rw[ey,ex]at c3
  rw[ey]at c1
  rw[ex]at c2
  dsimp only
  have et:i64.wrap ((i:Int).tdiv (V:Int))=(y:Int):=by
   rw[PN (by omega),<- aAT,ey,aC _]
  have em:(i:Int).tmod (V:Int)=(x:Int):=by
   rw[VK (by omega),<- V3,ex]
  rw[et,em,aC ((i:Int)+1)]
  refine⟨by omega,by omega,⟨?_⟩⟩
  refine aI7 (by show -1000000<=(H:Int)/\(H:Int)<=1000000 /\ -1000000<=(V:Int)/\(V:Int)<=1000000;omega) ?_
  dsimp only
  have ei:(i:Int)=((y*V+x:Nat):Int):=by omega
  have key:=aOo g c1 c2 hM (K0:=fun L'=>X ((i:Int)+1,L')) fun L' hL'=>hX _ ⟨by simp,hL'.mono fun m' c' y' x' _ _ hy' hx' hc => ?_⟩
  ·rw[<- ei]at key
   exact key
  ·rcases AB (y'*V+x') i with c5|c5
   ·exact .inl c5
   ·refine .inr ?_
    have:y'*V+x'=y*V+x:=by omega
    exact aEZ hx' c2 this
 ·rintro⟨i',M⟩ ⟨e1,hM⟩ X
  simp only at e1 hM
  subst e1
  unfold wO
  rw[aA (by simp)]
  rw[hM.all fun _ _ y' x' _ _ hy hx=>fC hy hx]
  exact h
end
def W3 (g w:T3)(h v s p:Int):Bool :=
 (((!(decide (0<bL h (w.1.getD 2 0) s p)&&decide (0<bL v (w.1.getD 2 0) s p))||(w.1.getD 0 0 != g.1.getD 1 0))||(w.1.getD 3 0 != w.1.getD 2 0))||(g.1.getD 2 0 != bL h (w.1.getD 2 0) s p))||(g.1.getD 3 0 != bL v (w.1.getD 2 0) s p)
def aB5 (g w:T3)(h v:Int):List Int:=[g.1.getD 0 0,w.1.getD 1 0,h,v]
def inN (g w:T3):Int:=g.1.getD 1 0*w.1.getD 2 0*w.1.getD 2 0
def inE (g w:T3)(h v s p:Int):Int :=
 if (oR [g,w] != 0)=true then oR [g,w]
 else if W3 g w h v s p=true then 2
 else(gT (aB5 g w h v) (g.2.1+w.2.1) (inN g w)).2
def aGe (g w:T3)(h v s p:Int):List Int :=
 aBA (g.1.getD 0 0).toNat (w.1.getD 1 0).toNat h.toNat v.toNat
  (EJ h.toNat v.toNat (w.1.getD 1 0).toNat (g.1.getD 1 0).toNat (w.1.getD 2 0).toNat (g.1.getD 2 0).toNat (g.1.getD 3 0).toNat s p g.2.2 w.2.2)
def GR (g w:T3)(h v s p:Int):T3×Int:=if (inE g w h v s p != 0)=true then(Z3,inE g w h v s p)else((aB5 g w h v,(g.2.1+w.2.1,aGe g w h v s p)),0)
theorem aKn {g w:T3}{h v s p:Int}{Q:T3×Int->Prop}(ag:All8 g.2.2)(aw:All8 w.2.2)(hq:Q (GR g w h v s p)):R3 g w h v s p Q:=by
 refine⟨?_⟩
 unfold GR inE at hq
 refine aGt (by simp) ?_
 show(if (oR [g,w] != 0)=true then _ else _)
 by_cases h2:(oR [g,w] != 0)=true
 ·rw[aB h2]
  simp only[h2,bS]at hq
  exact hq
 ·rw[aA h2]
  simp only[h2,eW,cN]at hq
  have hz:oR [g,w]=0:=by simpa using h2
  have hzz:=R9 hz
  obtain⟨mg,lg⟩:=hzz g (by simp)
  obtain⟨mw,lw⟩:=hzz w (by simp)
  obtain⟨n,O,P,R,eg,g1,g2,g3,g4,g5,g6,g7,g8⟩:=SC mg lg
  obtain⟨O',C,K,K',ew,w1,w2,w3,w4,w5,w6,w7,w8⟩:=SC mw lw
  refine⟨by omega,by omega,by omega,by omega,aKH ?_⟩
  refine eN (b := !(decide (0<bL h (w.1.getD 2 0) s p)&&decide (0<bL v (w.1.getD 2 0) s p))) (c:=w.1.getD 0 0 != g.1.getD 1 0) (fun _ P hp=>⟨by omega,hp⟩) (fun v3 e3 => ?_) rfl
  refine eN (c:=w.1.getD 3 0 != w.1.getD 2 0) (fun _ P hp=>⟨by omega,hp⟩) (fun v5 e5 => ?_) rfl
  refine eN (c:=g.1.getD 2 0 != bL h (w.1.getD 2 0) s p) (fun _ P hp=>⟨by omega,hp⟩) (fun v7 e7 => ?_) rfl
  refine eN (c:=g.1.getD 3 0 != bL v (w.1.getD 2 0) s p) (fun _ P hp=>⟨by omega,hp⟩) (fun v9 e9 => ?_) rfl
  have hv:v9=W3 g w h v s p:=by rw[e9,e7,e5,e3];rfl
  rw[<- hv]at hq
  cases v9 with
  | true=>exact hq
  | false =>
    rw[aA (by simp)]
    simp only[eW,cN]at hq
    have hv2:=hv.symm
    unfold W3 at hv2
    simp only[dP,Q9,wZ,aI,aT]at hv2
    obtain⟨⟨⟨⟨⟨o1,o2⟩,c1⟩,c2⟩,c3⟩,c4⟩:=hv2
    simp only[eg,ew,List.getD_cons_zero,List.getD_cons_succ]at o1 o2 c1 c2 c3 c4
    have eo:O'=O:=by omega
    have ek:K'=K:=by omega
    subst eo ek
    obtain⟨a1,a2,a3,a4,a5,a6⟩:=mJ o1
    obtain⟨d1,_⟩:=mJ o2
    obtain⟨H,rfl⟩:=gM (show 0<=h by omega)
    obtain⟨V,rfl⟩:=gM (show 0<=v by omega)
    unfold inN aB5 aGe at hq
    simp only[eg,ew,List.getD_cons_zero,List.getD_cons_succ,<- c3,<- c4]at hq⊢
    have k1:O'<=O'*C:=cE _ (by omega)
    have k2:O'*C<=O'*C*K':=cE _ (by omega)
    have k3:O'*C*K'<=O'*C*K'*K':=cE _ (by omega)
    have k4:O'*K'<=8192*5:=fE (by omega) (by omega)
    have k5:O'*K'*K'<=8192*5*5:=fE k4 (by omega)
    have k6:C<=O'*C:=yX _ (by omega)
    have k7:n<=n*O':=cE _ (by omega)
    have k8:n*O'<=n*O'*P:=cE _ (by omega)
    have k9:n*O'*P<=n*O'*P*R:=cE _ (by omega)
    have ka:H*V<=16*16:=fE (by omega) (by omega)
    have kb:P*R<=n*O'*(P*R):=yX _ (sY (by omega) (by omega))
    rw[<- cS]at kb
    rw[CF (r:=O') (n:=K') (by omega),CF (r:=O'*K') (n:=K') (by omega),aC (g.2.1+w.2.1)]
    rw[<- lA,<- lA]at hq
    refine aEM ⟨?_⟩
    by_cases h9:(gT [(n:Int),(C:Int),(H:Int),(V:Int)] (g.2.1+w.2.1) ((O'*K'*K':Nat):Int)).2=0
    ·obtain⟨f1,f2,f3,f4⟩:=BA h9
     rw[f4]at hq⊢
     simp only[DG,eW,cN]at hq⊢
     obtain⟨q1,q2,q3,q4,e1,e2,e3,e4,_,_,_,_,s5,s6⟩:=aBo f3
     have r1:q1=n:=by omega
     have r2:q2=C:=by omega
     have r3:q3=H:=by omega
     have r4:q4=V:=by omega
     subst r1 r2 r3 r4
     rw[s6]
     have gg:aI1 q1 q2 O' K' q3 q4 P R s p g.2.2 w.2.2:=⟨by rw[g6];exact cS _ _ _,w6,by rw[<- cS];exact g5,w5,ag,aw,c3.symm,c4.symm,by omega,by omega,s5,by omega,by omega,by omega⟩
     rw[CF (r:=P) (n:=R) (by omega),CF (r:=q3) (n:=q4) (by omega),bM]
     refine aOm gg (by simp) ?_
     simp only[Int.toNat_natCast]at hq
     exact hq
    ·rw[aB (by simpa using h9)]
     rw[aB (by simpa using h9)]at hq
     rw[D3 h9]
     exact hq
end Go.Proofs.YtcfpfefadlnmcaaGreat
namespace Go.Proofs.YtcfpfefadlnmcaaGreat
open IntKind (i8 i16 i32 i64 u8 u16 u32 u64)
end Go.Proofs.YtcfpfefadlnmcaaGreat
namespace Go.Proofs.YtcfpfefadlnmcaaGreat
open IntKind (i8 i16 i32 i64 u8 u16 u32 u64)
end Go.Proofs.YtcfpfefadlnmcaaGreat

namespace Go.Proofs.YtcfpfefadlnmcaaGreat
open IntKind (i8 i16 i32 i64 u8 u16 u32 u64)
open Go.Mach Go.RowKit
set_option maxRecDepth 100000
set_option linter.unusedVariables false
set_option linter.unusedSimpArgs false
theorem PY {l:List T3}(h:∀ t∈l,bA t=true/\(t.1.length:Int)=4):oR l=0:=by
 unfold oR
 rw[aB (List.all_eq_true.2 fun t ht=>(h t ht).1),aB (List.all_eq_true.2 fun t ht=>by simpa using(h t ht).2)]
theorem aDa {a b:T3}:[a,b].all bA=(bA a&&bA b):=by simp[List.all_cons]
theorem aAj {x w:T3}(h:([x,w].all bA)=false):oR [x,w]=1:=by
 unfold oR;rw[h];rfl
theorem aB7 {x w:T3}(h:([x,w].all bA)=true)(hl : ¬ ((x.1.length:Int)=4/\(w.1.length:Int)=4)):oR [x,w]=2:=by
 unfold oR
 rw[aB h,aA]
 intro g
 apply hl
 simp only[List.all_cons,List.all_nil,TA,aI,dS]at g
 exact g
theorem aL3 {r c k s p:Int}{Q y m:Nat}{acc:List (Int×Int×Int)}{K0:List (Int×Int×Int)->Prop}(hr:0<=r/\r<=100)(hc:0<=c/\c<=100)(hs:0<=s/\s<=4)(hp:0<=p/\p<=5)(hy:y<=25)(hQ:Q<=25)(hm:m<=25)(hk:0<=k/\k<=5)(ha:acc.length<=100000)
 (h:K0 (acc++pO s p r c k Q y m)):pH r c k s p Q y m K0 (0,acc):=by
 refine⟨?_⟩
 have m1:0<=s*(y:Int):=E2 hs.1 (by omega)
 have m2:s*(y:Int)<=4*25:=zJ hs.2 (by omega) (by omega) (by omega)
 have eg:((0:Int),acc)=(fun j:Nat=>((j:Int),acc++pO s p r c k Q y j)) 0:=by simp[pO]
 rw[eg]
 refine Loop.range (B:=jI r c k s p Q y m K0) (f:=fun j:Nat=>((j:Int),acc++pO s p r c k Q y j)) m (fun _=>True) trivial ?_ ?_
 ·intro x hx _ X hX
  have hX:=hX trivial
  unfold jI
  rw[aB (aG (show(x:Int)<(m:Int) by omega))]
  dsimp only at hX⊢
  have m3:0<=s*(x:Int):=E2 hs.1 (by omega)
  have m4:s*(x:Int)<=4*25:=zJ hs.2 (by omega) (by omega) (by omega)
  have e1:i64.wrap (r-i64.wrap (i64.wrap ((y:Int)*s)-p))=r-(s*y-p):=by
   rw[Int.mul_comm (y:Int) s,aC (s*(y:Int)),aC (s*(y:Int)-p),aC _]
  have e2:i64.wrap (c-i64.wrap (i64.wrap ((x:Int)*s)-p))=c-(s*x-p):=by
   rw[Int.mul_comm (x:Int) s,aC (s*(x:Int)),aC (s*(x:Int)-p),aC _]
  have hyQ:y*Q<=25*25:=fE hy hQ
  have e3:i64.wrap (i64.wrap ((y:Int)*(Q:Int))+(x:Int))=(y:Int)*Q+x:=by
   rw[ix (r:=y) (n:=Q) (i:=x) (by omega)];rw[Int.natCast_add,lA]
  rw[e1,e2,e3]
  have hlen:=FU (s:=s) (p:=p) (r:=r) (c:=c) (k:=k) (Q:=Q) (y:=y) x
  rw[MG,<- fU]at hX
  unfold IJ at hX
  by_cases hin:(inP (r-(s*y-p)) 0 (k-1)&&inP (c-(s*x-p)) 0 (k-1))=true
  ·rw[aB hin]at hX
   simp only[aI]at hin
   have b1:0<=r-(s*y-p)/\r-(s*y-p)<=k-1:=by simpa [inP] using hin.1
   have b2:0<=c-(s*x-p)/\c-(s*x-p)<=k-1:=by simpa [inP] using hin.2
   rw[aB (by simp only[aI,aT];omega)]
   refine⟨by simp only[kX,List.length_singleton];omega,⟨?_⟩⟩
   rw[aC ((x:Int)+1)]
   exact hX
  ·rw[aA hin,dU]at hX
   rw[aA (by
    intro hh
    apply hin
    simp only[aI,aT]at hh
    rw[CI (by omega) (by omega),CI (by omega) (by omega)];rfl)]
   refine⟨?_⟩
   rw[aC ((x:Int)+1)]
   exact hX
 ·intro _ X
  unfold jI
  rw[aA (by simp)]
  exact h
theorem aLj {rows cols r c k s p:Int}{Q:List (Int×Int×Int)->Prop}(h:Q (GD rows cols r c k s p)):sO rows cols r c k s p Q:=by
 refine⟨?_⟩
 refine QS (QS ?_)
 obtain⟨m1,m2,m3⟩:=nN rows k s p
 obtain⟨n1,n2,n3⟩:=nN cols k s p
 have hv:((((((bL rows k s p==0)||(bL cols k s p==0))||(decide (r<0)))||(decide (rows<=r)))||(decide (c<0)))||(decide (cols<=c)))=V5 rows cols r c k s p:=by
  rw[Bool.eq_iff_iff]
  unfold V5 inP
  simp only[cG,aT,nJ,JH,eZ,dS]
  omega
 rw[hv]
 unfold GD at h
 by_cases hn:V5 rows cols r c k s p=true
 ·rw[aB hn]at h⊢;exact h
 ·rw[aA hn]at h⊢
  unfold V5 inP at hn
  simp only[cG,aT,nJ,JH,eZ]at hn
  obtain⟨b1,b2,b3,b4,b5,_⟩:=mJ (n:=rows) (k:=k) (s:=s) (p:=p) (by omega)
  obtain⟨c1,_⟩:=mJ (n:=cols) (k:=k) (s:=s) (p:=p) (by omega)
  obtain⟨P,eP,hP⟩:=pR (n:=rows) (k:=k) (s:=s) (p:=p)
  obtain⟨R,eR,hR⟩:=pR (n:=cols) (k:=k) (s:=s) (p:=p)
  rw[eP,eR,bM,bM]at h
  rw[eP,eR]
  refine⟨?_⟩
  refine Loop.range (B:=iX r c k s p R P _) (f:=fun y:Nat=>((y:Int),T7 s p r c k R y R)) P (fun _=>True) trivial ?_ ?_
  ·intro y hy _ X hX
   have hX:=hX trivial
   unfold iX
   rw[aB (aG (show(y:Int)<(P:Int) by omega))]
   dsimp only at hX⊢
   have hl:=QM (s:=s) (p:=p) (r:=r) (c:=c) (k:=k) (Q:=R) (m:=R) y
   have hl2:y*R<=25*25:=fE (by omega) hR
   refine aL3 (by omega) (by omega) (by omega) (by omega) (by omega) hR hR (by omega) (by omega) ?_
   rw[aC ((y:Int)+1)]
   rw[RX]at hX
   exact hX
  ·intro _ X
   unfold iX
   rw[aA (by simp)]
   exact h
theorem ix5 {m C j H V a:Nat}(h:(m*C+j)*(H*V)+a<=100000000)(hp:1<=H)(hv:1<=V):i64.wrap (i64.wrap (i64.wrap (i64.wrap (i64.wrap ((m:Int)*C)+(j:Int))*H)*V)+(a:Int))=(((m*C+j)*(H*V)+a:Nat):Int):=by
 have e:(m*C+j)*(H*V)=(m*C+j)*H*V:=by rw[cS]
 have g1:m*C+j<=(m*C+j)*H:=cE _ hp
 have g2:(m*C+j)*H<=(m*C+j)*H*V:=cE _ hv
 rw[ix (r:=m) (n:=C) (i:=j) (by omega),CF (r:=m*C+j) (n:=H) (by omega),ix (r:=(m*C+j)*H) (n:=V) (i:=a) (by omega),e]
theorem aNh {C P Q K m c n O:Nat}{p0 q0:Int}{gd wd:List Int}{a r q:Nat}{t:Int}{K0:Int->Prop}(hx:gd.length=n*O*(P*Q))(hw:wd.length=O*C*K*K)(bx:n*O*(P*Q)<=8192)(bw:O*C*K*K<=8192)(ax:All8 gd)(aw:All8 wd)(hm:m<n)(hc:c<C)(ha:a<P*Q)(hr:r<K)(hq:q<K)(hO:O<=8192)(hP:1<=P)(hQ:1<=Q)
 (h:K0 (i64.wrap (t+bO (fun o=>inG gd wd O C (P*Q) K m c o ((a:Int),(r:Int),(q:Int))) O))):mX O C K P Q O gd wd [(m:Int),c,p0,q0] a r q K0 (i64.wrap t,0):=by
 refine⟨?_⟩
 have eg:(i64.wrap t,(0:Int))=(fun i:Nat=>(i64.wrap (t+bO (fun o=>inG gd wd O C (P*Q) K m c o ((a:Int),(r:Int),(q:Int))) i),(i:Int))) 0:=by simp[bO]
 rw[eg]
 refine Loop.range (B:=gC O C K P Q O gd wd [(m:Int),c,p0,q0] a r q K0) (f:=fun i:Nat=>(i64.wrap (t+bO (fun o=>inG gd wd O C (P*Q) K m c o ((a:Int),(r:Int),(q:Int))) i),(i:Int))) O (fun _=>True) trivial ?_ ?_
 ·intro o ho _ X hX
  have hX:=hX trivial
  unfold gC
  rw[aB (aG (show(o:Int)<(O:Int) by omega))]
  dsimp only at hX⊢
  simp only[List.getD_cons_zero,List.getD_cons_succ]
  have g1:(m*O+o)*(P*Q)+a<n*O*(P*Q):=fC (fC hm ho) ha
  have g2:((o*C+c)*K+r)*K+q<O*C*K*K:=fC (fC (fC ho hc) hr) hq
  have g5:(o*C+c)*K+r<=((o*C+c)*K+r)*K:=cE _ (by omega)
  have g7:o*C+c<=(o*C+c)*K:=cE _ (by omega)
  have ef:inG gd wd O C (P*Q) K m c o ((a:Int),(r:Int),(q:Int))=gd.getD ((m*O+o)*(P*Q)+a) 0*wd.getD (((o*C+c)*K+r)*K+q) 0:=by
   unfold inG;simp only[Int.toNat_natCast]
  simp only[bO,ef]at hX
  rw[ix5 (by omega) hP hQ,ix (r:=o) (n:=C) (i:=c) (by omega),ix (r:=o*C+c) (n:=K) (i:=r) (by omega),ix (r:=(o*C+c)*K+r) (n:=K) (i:=q) (by omega)]
  refine⟨by simp,by omega,by simp,by omega,?_⟩
  simp only[Int.toNat_natCast]
  have b1:=ax.at_ ((m*O+o)*(P*Q)+a)
  have b2:=aw.at_ (((o*C+c)*K+r)*K+q)
  have b3:=ZK b1 b2
  rw[aC (gd.getD ((m*O+o)*(P*Q)+a) 0),aC (wd.getD (((o*C+c)*K+r)*K+q) 0) (by omega) (by omega),aC (_*_),aC ((o:Int)+1),aCs,yR]
  exact hX
 ·intro _ X
  unfold gC
  rw[aA (by simp)]
  exact h
theorem aO4 {C P Q K m c n O:Nat}{p0 q0:Int}{gd wd:List Int}{l:List (Int×Int×Int)}{t:Int}{K0:Int->Prop}(hx:gd.length=n*O*(P*Q))(hw:wd.length=O*C*K*K)(bx:n*O*(P*Q)<=8192)(bw:O*C*K*K<=8192)(ax:All8 gd)(aw:All8 wd)(hm:m<n)(hc:c<C)(hl:InP K (P*Q) l)(hll:l.length<=1000000)(hO:O<=8192)(hP:1<=P)(hQ:1<=Q)
 (h:K0 (i64.wrap (t+bO (fun o=>G4 l (inG gd wd O C (P*Q) K m c o)) O))):mY O C K P Q (l.length:Int) gd wd [(m:Int),c,p0,q0] l K0 (i64.wrap t,0):=by
 refine⟨?_⟩
 rw[<- aG3 l (fun z o=>inG gd wd O C (P*Q) K m c o z),QJ l _ (0,0,0)]at h
 have eg:(i64.wrap t,(0:Int))=(fun i:Nat=>(i64.wrap (t+bO (fun i=>bO (fun o=>inG gd wd O C (P*Q) K m c o (l.getD i (0,0,0))) O) i),(i:Int))) 0:=by simp[bO]
 rw[eg]
 refine Loop.range (B:=gE O C K P Q (l.length:Int) gd wd [(m:Int),c,p0,q0] l K0) (f:=fun i:Nat=>(i64.wrap (t+bO (fun i=>bO (fun o=>inG gd wd O C (P*Q) K m c o (l.getD i (0,0,0))) O) i),(i:Int))) l.length (fun _=>True) trivial ?_ ?_
 ·intro i hi _ X hX
  have hX:=hX trivial
  unfold gE
  rw[aB (aG (show(i:Int)<(l.length:Int) by omega))]
  dsimp only at hX⊢
  refine⟨by omega,?_⟩
  rw[bM]
  obtain⟨a,r,q,ez,ha,hr,hq⟩:=hl (l.getD i (0,0,0)) (by rw[aW,aP hi];exact fB hi)
  simp only[bO]at hX
  rw[ez]at hX
  rw[ez]
  refine aNh hx hw bx bw ax aw hm hc ha hr hq hO hP hQ ?_
  rw[aC ((i:Int)+1),yR]
  exact hX
 ·intro _ X
  unfold gE
  rw[aA (by simp)]
  exact h
theorem aNC {n C O K H V P Q:Nat}{s p:Int}{gd wd:List Int}(g:aI1 n C O K H V P Q s p gd wd)(hs:0<szF [(n:Int),C,H,V])(hP:1<=P)(hQ:1<=Q){L:List Int}{K0:List Int->Prop}(hL:L.length=n*C*H*V)
 (h:K0 (aBA n C H V (EJ H V C O K P Q s p gd wd))) :
 m8 H V s p O C K P Q ((n*C*H*V:Nat):Int) gd wd [(n:Int),C,H,V] K0 (0,L):=by
 have hbo:=g.bo
 refine⟨?_⟩
 refine Loop.rangeI (B:=gD H V s p O C K P Q ((n*C*H*V:Nat):Int) gd wd [(n:Int),C,H,V] K0) (n*C*H*V) (fun i st=>st.1=(i:Int)/\Fill n C H V (EJ H V C O K P Q s p gd wd) (fun m o y x=>ix4 C H V m o y x<i) st.2) ⟨rfl,hL,fun _ _ _ _ _ _ _ _ hc=>absurd hc (by omega)⟩ ?_ ?_
 ·rintro i hi ⟨i',M⟩ ⟨e1,hM⟩ X hX
  simp only at e1 hM
  subst e1
  obtain⟨m,c,y,x,hm,hc,hy,hx,ei⟩:=QN hi
  unfold gD
  rw[aB (aG (show(i:Int)<((n*C*H*V:Nat):Int) by omega))]
  dsimp only
  rw[aC ((i:Int)+1)]
  have key:∀ Q':List Int->Prop,Q' [(m:Int),c,y,x]->dE [(n:Int),C,H,V] (i:Int) Q':=by
   intro Q' hQ'
   rw[ei]
   exact U3 hs hm hc hy hx hQ'
  refine key _ ?_
  simp only[List.getD_cons_zero,List.getD_cons_succ]
  refine⟨by simp,by simp,aLj ?_⟩
  have hll:=aCj (rows:=H) (cols:=V) (r:=y) (c:=x) (k:=K) (s:=s) (p:=p)
  have e0:((0:Int),(0:Int))=(i64.wrap 0,(0:Int)):=by decide
  rw[e0]
  refine aO4 g.hg g.hw g.bg g.bw g.ag g.aw hm hc (aEv g.eP g.eQ) (by omega) g.hO hP hQ ?_
  refine⟨by rw[hM.len];omega,?_⟩
  rw[bM,aH2,Int.zero_add]
  refine hX _ ⟨by simp,?_⟩
  have hset:=hM.set (C':=fun m' o' y' x'=>ix4 C H V m' o' y' x'<i+1) hm hc hy hx (v:=i32.wrap (bO (fun o=>G4 (GD H V y x K s p) (inG gd wd O C (P*Q) K m c o)) O)) rfl fun m' o' y' x' hm' ho' hy' hx' hcc => ?_
  ·rw[<- ei]at hset
   exact hset
  ·rcases AB (ix4 C H V m' o' y' x') i with c5|c5
   ·exact .inl c5
   ·refine .inr ?_
    have:ix4 C H V m' o' y' x'=ix4 C H V m c y x:=by omega
    exact aEI ho' hy' hx' hc hy hx this
 ·rintro⟨i',M⟩ ⟨e1,hM⟩ X
  simp only at e1 hM
  subst e1
  unfold gD
  rw[aA (by simp)]
  rw[hM.all fun _ _ _ _ h1 h2 h3 h4=>GO h1 h2 h3 h4]
  exact h
theorem aFB {g w:T3}{h v s p:Int}(hm:([g,w].all bA)=false):GR g w h v s p=(Z3,1):=by
 have hE:inE g w h v s p=1:=by
  unfold inE
  rw[aAj hm];rfl
 unfold GR
 rw[hE];rfl
theorem XF {g w:T3}{h v s p:Int}(hm:([g,w].all bA)=true)(hl : ¬ ((g.1.length:Int)=4/\(w.1.length:Int)=4)\/W3 g w h v s p=true):GR g w h v s p=(Z3,2):=by
 have hm':=hm
 rw[aDa]at hm'
 simp only[aI]at hm'
 have hE:inE g w h v s p=2:=by
  unfold inE
  by_cases h2:(g.1.length:Int)=4/\(w.1.length:Int)=4
  ·rw[PY (fun t ht=>by
    rcases List.mem_cons.1 ht with e|e
    ·subst e;exact⟨hm'.1,h2.1⟩
    ·rcases List.mem_singleton.1 e with rfl
     exact⟨hm'.2,h2.2⟩)]
   rcases hl with hl|hl
   ·exact absurd h2 hl
   ·rw[hl];rfl
  ·rw[aB7 hm h2];rfl
 unfold GR
 rw[hE];rfl
theorem aM5 {g w:T3}{h v s p:Int}{Q:T3×Int->Prop}(ag:All8 g.2.2)(aw:All8 w.2.2)(hq:Q (GR g w h v s p)):pD g w h v s p Q:=by
 refine⟨?_⟩
 refine tU (by simp) ?_
 show(if (!([g,w].all bA))=true then _ else _)
 cases hm:[g,w].all bA with
 | false=>rw[aFB hm]at hq;exact hq
 | true =>
   rw[aA (by simp)]
   refine eN (b:=((g.1.length:Int) != 4)||((w.1.length:Int) != 4)) (c:=g.1.getD 1 0 != w.1.getD 0 0) (fun hb P hp => ?_) (fun v2 e2 => ?_) rfl
   ·simp only[dP,Q9]at hb
    exact⟨by omega,by omega,hp⟩
   ·refine eN (c:=w.1.getD 2 0 != w.1.getD 3 0) (fun hb P hp => ?_) (fun v4 e4 => ?_) rfl
    ·rw[e2]at hb
     simp only[dP,Q9]at hb
     exact⟨by omega,by omega,hp⟩
    ·cases v4 with
     | true =>
       rw[aB rfl]
       rw[XF hm]at hq
       ·exact hq
       ·by_cases g1:(g.1.length:Int)=4/\(w.1.length:Int)=4
        ·right
         rw[e2]at e4
         have e4:=e4.symm
         simp only[cG,nZ,ne_eq]at e4
         unfold W3
         simp only[cG,nZ,ne_eq]
         have:g.1.getD 1 0=w.1.getD 0 0 ↔ w.1.getD 0 0=g.1.getD 1 0:=eq_comm
         have:w.1.getD 2 0=w.1.getD 3 0 ↔ w.1.getD 3 0=w.1.getD 2 0:=eq_comm
         grind
        ·left;exact g1
     | false =>
       rw[aA (by simp)]
       rw[e2]at e4
       have e4:=e4.symm
       simp only[dP,Q9]at e4
       obtain⟨⟨⟨l1,l2⟩,c1⟩,c2⟩:=e4
       have hm2:=hm
       rw[aDa]at hm2
       simp only[aI]at hm2
       refine⟨by omega,by omega,by omega,by omega,EL ?_⟩
       have r1:=nN h (w.1.getD 2 0) s p
       have r2:=nN v (w.1.getD 2 0) s p
       refine eN (b:=(bL h (w.1.getD 2 0) s p==0)||(bL v (w.1.getD 2 0) s p==0)) (c:=bL h (w.1.getD 2 0) s p != g.1.getD 2 0) (fun hb P hp=>⟨by omega,hp⟩) (fun v7 e7 => ?_) rfl
       refine eN (c:=bL v (w.1.getD 2 0) s p != g.1.getD 3 0) (fun hb P hp=>⟨by omega,hp⟩) (fun v9 e9 => ?_) rfl
       have hbad:W3 g w h v s p=v9:=by
        rw[e9,e7,Bool.eq_iff_iff]
        unfold W3
        simp only[cG,nJ,JH,eZ,nZ,ne_eq,dS]
        have:g.1.getD 2 0=bL h (w.1.getD 2 0) s p ↔ bL h (w.1.getD 2 0) s p=g.1.getD 2 0:=eq_comm
        have:g.1.getD 3 0=bL v (w.1.getD 2 0) s p ↔ bL v (w.1.getD 2 0) s p=g.1.getD 3 0:=eq_comm
        grind
       cases v9 with
       | true =>
         rw[aB rfl]
         rw[XF hm (.inr hbad)]at hq
         exact hq
       | false =>
         rw[aA (by simp)]
         have hb2:=hbad
         unfold W3 at hb2
         simp only[dP,Q9,wZ,aI,aT]at hb2
         obtain⟨⟨⟨⟨⟨o1,o2⟩,d1⟩,d2⟩,d3⟩,d4⟩:=hb2
         obtain⟨n,O,P,R,eg,g1,g2,g3,g4,g5,g6,g7,g8⟩:=SC hm2.1 l1
         obtain⟨O',C,K,K',ew,w1,w2,w3,w4,w5,w6,w7,w8⟩:=SC hm2.2 l2
         simp only[eg,ew,List.getD_cons_zero,List.getD_cons_succ]at o1 o2 d1 d2 d3 d4⊢
         have eo:O'=O:=by omega
         have ek:K'=K:=by omega
         subst eo ek
         obtain⟨a1,a2,a3,a4,a5,a6⟩:=mJ o1
         obtain⟨f1,_⟩:=mJ o2
         obtain⟨H,rfl⟩:=gM (show 0<=h by omega)
         obtain⟨V,rfl⟩:=gM (show 0<=v by omega)
         have k1:O'<=O'*C:=cE _ (by omega)
         have k2:O'*C<=O'*C*K':=cE _ (by omega)
         have k3:O'*C*K'<=O'*C*K'*K':=cE _ (by omega)
         have k4:O'*K'<=8192*5:=fE (by omega) (by omega)
         have k5:O'*K'*K'<=8192*5*5:=fE k4 (by omega)
         have k6:C<=O'*C:=yX _ (by omega)
         have k7:n<=n*O':=cE _ (by omega)
         have k8:n*O'<=n*O'*P:=cE _ (by omega)
         have k9:n*O'*P<=n*O'*P*R:=cE _ (by omega)
         refine⟨?_⟩
         rw[CF (r:=O') (n:=K') (by omega),CF (r:=O'*K') (n:=K') (by omega),aC (g.2.1+w.2.1)]
         refine F3 ?_
         have hE:inE g w H V s p=(gT [(n:Int),(C:Int),(H:Int),(V:Int)] (g.2.1+w.2.1) ((O'*K'*K':Nat):Int)).2:=by
          unfold inE
          rw[hbad,PY (fun t ht=>by
           rcases List.mem_cons.1 ht with e|e
           ·subst e;exact⟨hm2.1,l1⟩
           ·rcases List.mem_singleton.1 e with rfl
            exact⟨hm2.2,l2⟩)]
          simp only[eW,cN,DG]
          unfold aB5 inN
          simp only[eg,ew,List.getD_cons_zero,List.getD_cons_succ,Int.natCast_mul]
         unfold GR at hq
         rw[hE]at hq
         by_cases h9:(gT [(n:Int),(C:Int),(H:Int),(V:Int)] (g.2.1+w.2.1) ((O'*K'*K':Nat):Int)).2=0
         ·obtain⟨f1',f2,f3,f4⟩:=BA h9
          rw[f4]at hq⊢
          simp only[DG,eW,cN]at hq⊢
          obtain⟨q1,q2,q3,q4,e1,e2,e3,e4,_,_,_,_,s5,s6⟩:=aBo f3
          have t1:q1=n:=by omega
          have t2:q2=C:=by omega
          have t3:q3=H:=by omega
          have t4:q4=V:=by omega
          subst t1 t2 t3 t4
          have gg:aI1 q1 q2 O' K' q3 q4 P R s p g.2.2 w.2.2:=⟨by rw[g6];exact cS _ _ _,w6,by rw[<- cS];exact g5,w5,ag,aw,d3.symm,d4.symm,by omega,by omega,s5,by omega,by omega,by omega⟩
          rw[pY]
          rw[s6,bM,<- d3,<- d4]
          refine aNC gg f3 (by omega) (by omega) (by simp) ?_
          unfold aB5 aGe at hq
          simp only[eg,ew,List.getD_cons_zero,List.getD_cons_succ,Int.toNat_natCast]at hq
          exact hq
         ·rw[aB (by simpa using h9)]
          rw[aB (by simpa using h9)]at hq
          rw[D3 h9]
          exact hq
theorem aOI {plane O:Nat}{gd d:List Int}{K0:List Int->Prop}(h8:All8 gd)(hl:gd.length<=8192)(hp:1<=plane)(hO:1<=O)(hO2:O<=8192)(hp2:plane<=8192)(hd:1<d.length)(hd1:d.getD 1 0=(O:Int))
 (hk:K0 (tab O fun o=>i32.wrap (sD plane O gd o gd.length))):nR plane gd (gd.length:Int) d K0 (0,List.replicate O 0):=by
 refine⟨?_⟩
 have eg:((0:Int),List.replicate O (0:Int))=(fun j:Nat=>((j:Int),tab O fun o=>i32.wrap (sD plane O gd o j))) 0:=by
  dsimp only
  congr 1
  refine aBO (by simp) fun i hi => ?_
  rw[P6 hi]
  show 0=i32.wrap 0
  decide
 rw[eg]
 refine Loop.range (B:=gR plane gd (gd.length:Int) d K0) (f:=fun j:Nat=>((j:Int),tab O fun o=>i32.wrap (sD plane O gd o j))) gd.length (fun _=>True) trivial ?_ ?_
 ·intro i hi _ X hX
  have hX:=hX trivial
  unfold gR
  rw[aB (aG (show(i:Int)<(gd.length:Int) by omega))]
  dsimp only at hX⊢
  have l1:i / plane<=i:=Nat.div_le_self _ _
  obtain⟨y,ey⟩:∃ y,i / plane=y:=⟨_,rfl⟩
  have et:i64.wrap ((i:Int).tdiv (plane:Int))=(y:Int):=by
   rw[PN (by omega),<- aAT,ey]
   rw[ey]at l1
   rw[aC _]
  have hm:=Nat.mod_lt y (show 0<O by omega)
  obtain⟨o,eo⟩:∃ o,y%O=o:=⟨_,rfl⟩
  have em:(y:Int).tmod (O:Int)=(o:Int):=by
   rw[VK (by omega),<- V3,eo]
  rw[hd1,et,em,TN]
  refine⟨by omega,by omega,by omega,by omega,by omega,by omega,?_⟩
  rw[bM,bM,ED _ (by omega),aDl (by omega),aC ((i:Int)+1),QR,IZ]
  have:(tab O fun j=>if j=o then i32.wrap (sD plane O gd o i+gd.getD i 0)else i32.wrap (sD plane O gd j i))=tab O fun o=>i32.wrap (sD plane O gd o (i+1)):=by
   refine P5 fun j hj => ?_
   unfold sD
   simp only[bO]
   by_cases e:j=o
   ·subst e
    rw[aB rfl,aB (by rw[ey,eo])]
   ·rw[aA e,aA (by rw[ey,eo];exact fun hh=>e hh.symm),Int.add_zero]
  rw[this]
  exact hX
 ·intro _ X
  unfold gR
  rw[aA (by simp)]
  exact hk
theorem aNW {g:T3}{Q:T3×Int->Prop}(ag:All8 g.2.2)(hq:Q (PL g)):qD g Q:=by
 refine⟨?_⟩
 refine tU (by simp) ?_
 show(if (!([g].all bA))=true then _ else _)
 have e1:[g].all bA=bA g:=by simp
 rw[e1]
 cases hm:bA g with
 | false =>
   have hE:bsE g=1:=by
    unfold bsE oR
    rw[e1,hm];rfl
   unfold PL at hq
   rw[hE]at hq
   exact hq
 | true =>
   rw[aA (by simp)]
   by_cases l1:(g.1.length:Int)=4
   ·rw[aA (by simp[l1])]
    obtain⟨n,O,P,R,eg,g1,g2,g3,g4,g5,g6,g7,g8⟩:=SC hm l1
    refine⟨by omega,by omega,by omega,by omega,?_⟩
    have hc:oR [g]=0:=PY fun t ht=>by
     rcases List.mem_singleton.1 ht with rfl
     exact⟨hm,l1⟩
    unfold PL bsE Z2 at hq
    rw[hc]at hq
    simp only[eg,List.getD_cons_zero,List.getD_cons_succ,DG,eW,cN]at hq⊢
    have k1:P*R<=n*O*(P*R):=yX _ (sY (by omega) (by omega))
    rw[<- cS]at k1
    have k2:n<=n*O:=cE _ (by omega)
    have k3:n*P*R<=n*O*P*R:=fQ _ (fQ _ k2)
    have k4:O<=n*O:=yX _ (by omega)
    have k5:n*O<=n*O*P:=cE _ (by omega)
    have k6:n*O*P<=n*O*P*R:=cE _ (by omega)
    have k7:n*P*R=n*(P*R):=cS _ _ _
    rw[CF (r:=P) (n:=R) (by omega),CF (r:=n) (n:=P*R) (by omega)]
    rw[<- lA,<- lA]at hq
    refine F3 ?_
    by_cases h9:(gT [(O:Int)] g.2.1 ((n*(P*R):Nat):Int)).2=0
    ·obtain⟨f1,f2,f3,f4⟩:=BA h9
     rw[f4]at hq⊢
     simp only[DG,eW,cN]at hq⊢
     rw[(aL7 f3).2.2,bM]
     refine aOI ag (by omega) (sY (by omega) (by omega)) (by omega) (by omega) (by omega) (by simp) (by simp) ?_
     simp only[Int.toNat_natCast]at hq
     exact hq
    ·rw[aB (by simpa using h9)]
     rw[aB (by simpa using h9)]at hq
     rw[D3 h9]
     exact hq
   ·rw[aB (by simpa using l1)]
    have hE:bsE g=2:=by
     have hc:oR [g]=2:=by
      unfold oR
      rw[e1,hm,aB rfl,aA (by simpa using l1)]
     unfold bsE
     rw[hc];rfl
    unfold PL at hq
    rw[hE]at hq
    exact hq
section
variable {n O C K P Q H V:Nat} {gd xd:List Int}
theorem aOA (h:VT n O C K P Q (H*V) gd xd)(hH:1<=H)(hV:1<=V){f:Nat->Nat->Nat->Nat->Int}{y z o j a r q:Nat}{K0:List Int->Prop}(hy:y<P)(hz:z<Q)(ho:o<O)(hj:j<C)(ha:a<H*V)(hr:r<K)(hq:q<K)(hn:n<=8192)
 (hk:K0 (w4 O C K K fun o' c' r' q'=>f o' c' r' q'+if o'=o/\c'=j/\r'=r/\q'=q then wtM n O C P Q (H*V) gd xd (y*Q+z) o j a else 0)) :
 mB K O C H V P Q y z o j n gd xd a r q K0 (0,w4 O C K K f):=by
 refine⟨?_⟩
 have eg:((0:Int),w4 O C K K f)=(fun t:Nat=>((t:Int),w4 O C K K fun o' c' r' q'=>f o' c' r' q'+if o'=o/\c'=j/\r'=r/\q'=q then bO (fun m=>wtG O C P Q (H*V) gd xd (y*Q+z) m o j a) t else 0)) 0:=by
  dsimp only
  congr 1
  refine eK fun o' c' r' q' _ _ _ _ => ?_
  simp[bO]
 rw[eg]
 refine Loop.range (B:=fT K O C H V P Q y z o j n gd xd a r q K0) (f:=fun t:Nat=>((t:Int),w4 O C K K fun o' c' r' q'=>f o' c' r' q'+if o'=o/\c'=j/\r'=r/\q'=q then bO (fun m=>wtG O C P Q (H*V) gd xd (y*Q+z) m o j a) t else 0)) n (fun _=>True) trivial ?_ ?_
 ·intro m hm _ X hX
  have hX:=hX trivial
  have k1:=h.bg;have k2:=h.bx;have k3:=h.bw
  have i1:=GO (P:=K) (Q:=K) ho hj hr hq
  have i2:(m*C+j)*(H*V)+a<n*C*(H*V):=fC (fC hm hj) ha
  have i3:=GO (n:=n) (P:=P) (Q:=Q) hm ho hy hz
  have j1:o*C+j<=(o*C+j)*K:=cE _ (by omega)
  have j2:(o*C+j)*K+r<=((o*C+j)*K+r)*K:=cE _ (by omega)
  have j4:m*O+o<=(m*O+o)*P:=cE _ h.hP
  have j5:(m*O+o)*P+y<=((m*O+o)*P+y)*Q:=cE _ h.hQ
  have ei:ix4 O P Q m o y z=(m*O+o)*P*Q+(y*Q+z):=by unfold ix4;rw[fK,zC]
  rw[ei]at i3
  have ei':((m*O+o)*P+y)*Q+z=(m*O+o)*P*Q+(y*Q+z):=ei
  unfold ix4 at i1
  unfold fT
  rw[aB (aG (show(m:Int)<(n:Int) by omega))]
  dsimp only at hX⊢
  rw[ix (r:=o) (n:=C) (i:=j) (by omega),ix (r:=o*C+j) (n:=K) (i:=r) (by omega),ix (r:=(o*C+j)*K+r) (n:=K) (i:=q) (by omega)]
  rw[ix (r:=m) (n:=O) (i:=o) (by omega),ix (r:=m*O+o) (n:=P) (i:=y) (by omega),ix (r:=(m*O+o)*P+y) (n:=Q) (i:=z) (by omega)]
  rw[ix5 (by omega) hH hV,SY,ei']
  refine⟨by omega,by rw[h.hg];omega,by rw[h.hx];omega,by omega,?_⟩
  simp only[Int.toNat_natCast]
  rw[aC ((m:Int)+1),IZ]
  have g8:=h.ag.at_ ((m*O+o)*P*Q+(y*Q+z))
  have x8:=h.ax.at_ ((m*C+j)*(H*V)+a)
  rw[tO (gd.getD ((m*O+o)*P*Q+(y*Q+z)) 0),tO (xd.getD ((m*C+j)*(H*V)+a) 0)]
  have es:=aKC (n:=O) (O:=C) (P:=K) (Q:=K) (m0:=o) (o0:=j) (p0:=r) (q0:=q) (f:=fun o' c' r' q'=>f o' c' r' q'+if o'=o/\c'=j/\r'=r/\q'=q then bO (fun m=>wtG O C P Q (H*V) gd xd (y*Q+z) m o j a) m else 0) (v:=gd.getD ((m*O+o)*P*Q+(y*Q+z)) 0*xd.getD ((m*C+j)*(H*V)+a) 0) ho hj hr hq
  unfold ix4 at es
  rw[es]
  have ef:(w4 O C K K fun o' c' r' q'=>(f o' c' r' q'+if o'=o/\c'=j/\r'=r/\q'=q then bO (fun m=>wtG O C P Q (H*V) gd xd (y*Q+z) m o j a) m else 0)+if o'=o/\c'=j/\r'=r/\q'=q then gd.getD ((m*O+o)*P*Q+(y*Q+z)) 0*xd.getD ((m*C+j)*(H*V)+a) 0 else 0)=w4 O C K K fun o' c' r' q'=>f o' c' r' q'+if o'=o/\c'=j/\r'=r/\q'=q then bO (fun m=>wtG O C P Q (H*V) gd xd (y*Q+z) m o j a) (m+1)else 0:=by
   refine eK fun o' c' r' q' _ _ _ _ => ?_
   rw[yR]
   congr 1
   by_cases g:o'=o/\c'=j/\r'=r/\q'=q
   ·rw[aB g,aB g,aB g];rfl
   ·rw[aA g,aA g,aA g];rfl
  rw[ef]
  exact hX
 ·intro _ X
  unfold fT
  rw[aA (by simp)]
  exact hk
theorem aNs (h:VT n O C K P Q (H*V) gd xd)(hH:1<=H)(hV:1<=V){f:Nat->Nat->Nat->Nat->Int}{y z o a r q:Nat}{K0:List Int->Prop}(hy:y<P)(hz:z<Q)(ho:o<O)(ha:a<H*V)(hr:r<K)(hq:q<K)(hn:n<=8192)(hC:C<=8192)
 (hk:K0 (w4 O C K K fun o' c' r' q'=>f o' c' r' q'+if o'=o/\r'=r/\q'=q then wtM n O C P Q (H*V) gd xd (y*Q+z) o' c' a else 0)) :
 mG K n O C H V P Q y z o C gd xd a r q K0 (0,w4 O C K K f):=by
 refine⟨?_⟩
 have eg:((0:Int),w4 O C K K f)=(fun t:Nat=>((t:Int),w4 O C K K fun o' c' r' q'=>f o' c' r' q'+if o'=o/\c'<t/\r'=r/\q'=q then wtM n O C P Q (H*V) gd xd (y*Q+z) o' c' a else 0)) 0:=by
  dsimp only
  congr 1
  refine eK fun o' c' r' q' _ _ _ _ => ?_
  rw[aA (by omega)];omega
 rw[eg]
 refine Loop.range (B:=fS K n O C H V P Q y z o C gd xd a r q K0) (f:=fun t:Nat=>((t:Int),w4 O C K K fun o' c' r' q'=>f o' c' r' q'+if o'=o/\c'<t/\r'=r/\q'=q then wtM n O C P Q (H*V) gd xd (y*Q+z) o' c' a else 0)) C (fun _=>True) trivial ?_ ?_
 ·intro j hj _ X hX
  have hX:=hX trivial
  unfold fS
  rw[aB (aG (show(j:Int)<(C:Int) by omega))]
  dsimp only at hX⊢
  refine aOA h hH hV hy hz ho hj ha hr hq hn ?_
  rw[aC ((j:Int)+1)]
  have ef:(w4 O C K K fun o' c' r' q'=>(f o' c' r' q'+if o'=o/\c'<j/\r'=r/\q'=q then wtM n O C P Q (H*V) gd xd (y*Q+z) o' c' a else 0)+if o'=o/\c'=j/\r'=r/\q'=q then wtM n O C P Q (H*V) gd xd (y*Q+z) o j a else 0)=w4 O C K K fun o' c' r' q'=>f o' c' r' q'+if o'=o/\c'<j+1/\r'=r/\q'=q then wtM n O C P Q (H*V) gd xd (y*Q+z) o' c' a else 0:=by
   refine eK fun o' c' r' q' _ _ _ _ => ?_
   rw[yR]
   congr 1
   by_cases g:o'=o/\r'=r/\q'=q
   ·obtain⟨g1,g2,g3⟩:=g
    subst g1 g2 g3
    by_cases g4:c'=j
    ·subst g4
     rw[aA (by omega),aB ⟨rfl,rfl,rfl,rfl⟩,aB ⟨rfl,by omega,rfl,rfl⟩]
     omega
    ·rw[aA (c:=_/\c'=j/\_) (by omega)]
     by_cases g5:c'<j
     ·rw[aB ⟨rfl,g5,rfl,rfl⟩,aB ⟨rfl,by omega,rfl,rfl⟩];omega
     ·rw[aA (by omega),aA (by omega)];omega
   ·rw[aA (fun hh=>g ⟨hh.1,hh.2.2⟩),aA (fun hh=>g ⟨hh.1,hh.2.2⟩),aA (fun hh=>g ⟨hh.1,hh.2.2⟩)];omega
  rw[ef]
  exact hX
 ·intro _ X
  unfold fS
  rw[aA (by simp)]
  have:(w4 O C K K fun o' c' r' q'=>f o' c' r' q'+if o'=o/\c'<C/\r'=r/\q'=q then wtM n O C P Q (H*V) gd xd (y*Q+z) o' c' a else 0)=w4 O C K K fun o' c' r' q'=>f o' c' r' q'+if o'=o/\r'=r/\q'=q then wtM n O C P Q (H*V) gd xd (y*Q+z) o' c' a else 0:=by
   refine eK fun o' c' r' q' _ h2 _ _ => ?_
   congr 1
   by_cases g:o'=o/\r'=r/\q'=q
   ·rw[aB g,aB ⟨g.1,h2,g.2⟩]
   ·rw[aA g,aA (fun hh=>g ⟨hh.1,hh.2.2⟩)]
  dsimp only
  rw[this]
  exact hk
theorem aOJ (h:VT n O C K P Q (H*V) gd xd)(hH:1<=H)(hV:1<=V){f:Nat->Nat->Nat->Nat->Int}{y z a r q:Nat}{K0:List Int->Prop}(hy:y<P)(hz:z<Q)(ha:a<H*V)(hr:r<K)(hq:q<K)(hn:n<=8192)(hC:C<=8192)(hO:O<=8192)
 (hk:K0 (w4 O C K K fun o' c' r' q'=>f o' c' r' q'+if r'=r/\q'=q then wtM n O C P Q (H*V) gd xd (y*Q+z) o' c' a else 0)) :
 mH K n O C H V P Q y z O gd xd a r q K0 (0,w4 O C K K f):=by
 refine⟨?_⟩
 have eg:((0:Int),w4 O C K K f)=(fun t:Nat=>((t:Int),w4 O C K K fun o' c' r' q'=>f o' c' r' q'+if o'<t/\r'=r/\q'=q then wtM n O C P Q (H*V) gd xd (y*Q+z) o' c' a else 0)) 0:=by
  dsimp only
  congr 1
  refine eK fun o' c' r' q' _ _ _ _ => ?_
  rw[aA (by omega)];omega
 rw[eg]
 refine Loop.range (B:=fW K n O C H V P Q y z O gd xd a r q K0) (f:=fun t:Nat=>((t:Int),w4 O C K K fun o' c' r' q'=>f o' c' r' q'+if o'<t/\r'=r/\q'=q then wtM n O C P Q (H*V) gd xd (y*Q+z) o' c' a else 0)) O (fun _=>True) trivial ?_ ?_
 ·intro o ho _ X hX
  have hX:=hX trivial
  unfold fW
  rw[aB (aG (show(o:Int)<(O:Int) by omega))]
  dsimp only at hX⊢
  refine aNs h hH hV hy hz ho ha hr hq hn hC ?_
  rw[aC ((o:Int)+1)]
  have ef:(w4 O C K K fun o' c' r' q'=>(f o' c' r' q'+if o'<o/\r'=r/\q'=q then wtM n O C P Q (H*V) gd xd (y*Q+z) o' c' a else 0)+if o'=o/\r'=r/\q'=q then wtM n O C P Q (H*V) gd xd (y*Q+z) o' c' a else 0)=w4 O C K K fun o' c' r' q'=>f o' c' r' q'+if o'<o+1/\r'=r/\q'=q then wtM n O C P Q (H*V) gd xd (y*Q+z) o' c' a else 0:=by
   refine eK fun o' c' r' q' _ _ _ _ => ?_
   rw[yR]
   congr 1
   by_cases g:r'=r/\q'=q
   ·by_cases g4:o'=o
    ·subst g4
     rw[aA (by omega),aB ⟨rfl,g⟩,aB ⟨by omega,g⟩];omega
    ·rw[aA (c:=o'=o/\_) (by omega)]
     by_cases g5:o'<o
     ·rw[aB ⟨g5,g⟩,aB ⟨by omega,g⟩];omega
     ·rw[aA (by omega),aA (by omega)];omega
   ·rw[aA (fun hh=>g hh.2),aA (fun hh=>g hh.2),aA (fun hh=>g hh.2)];omega
  rw[ef]
  exact hX
 ·intro _ X
  unfold fW
  rw[aA (by simp)]
  have:(w4 O C K K fun o' c' r' q'=>f o' c' r' q'+if o'<O/\r'=r/\q'=q then wtM n O C P Q (H*V) gd xd (y*Q+z) o' c' a else 0)=w4 O C K K fun o' c' r' q'=>f o' c' r' q'+if r'=r/\q'=q then wtM n O C P Q (H*V) gd xd (y*Q+z) o' c' a else 0:=by
   refine eK fun o' c' r' q' h2 _ _ _ => ?_
   congr 1
   by_cases g:r'=r/\q'=q
   ·rw[aB g,aB ⟨h2,g⟩]
   ·rw[aA g,aA (fun hh=>g hh.2)]
  dsimp only
  rw[this]
  exact hk
theorem aNm (h:VT n O C K P Q (H*V) gd xd)(hH:1<=H)(hV:1<=V){f:Nat->Nat->Nat->Nat->Int}{y z:Nat}{l:List (Int×Int×Int)}{K0:List Int->Prop}(hy:y<P)(hz:z<Q)(hl:InP K (H*V) l)(hll:l.length<=1000000)(hn:n<=8192)(hC:C<=8192)(hO:O<=8192)
 (hk:K0 (w4 O C K K fun o' c' r' q'=>f o' c' r' q'+G4 l (wtZ n O C P Q (H*V) gd xd (y*Q+z) o' c' r' q'))) :
 lX K n O C H V P Q y z (l.length:Int) gd xd l K0 (0,w4 O C K K f):=by
 refine⟨?_⟩
 have eg:((0:Int),w4 O C K K f)=(fun j:Nat=>((j:Int),w4 O C K K fun o' c' r' q'=>f o' c' r' q'+bO (fun t=>wtZ n O C P Q (H*V) gd xd (y*Q+z) o' c' r' q' (l.getD t (0,0,0))) j)) 0:=by
  dsimp only
  congr 1
  refine eK fun o' c' r' q' _ _ _ _ => ?_
  simp[bO]
 rw[eg]
 refine Loop.range (B:=fX K n O C H V P Q y z (l.length:Int) gd xd l K0) (f:=fun j:Nat=>((j:Int),w4 O C K K fun o' c' r' q'=>f o' c' r' q'+bO (fun t=>wtZ n O C P Q (H*V) gd xd (y*Q+z) o' c' r' q' (l.getD t (0,0,0))) j)) l.length (fun _=>True) trivial ?_ ?_
 ·intro t ht _ X hX
  have hX:=hX trivial
  unfold fX
  rw[aB (aG (show(t:Int)<(l.length:Int) by omega))]
  dsimp only at hX⊢
  refine⟨by omega,?_⟩
  rw[bM]
  obtain⟨a,r,q,ez,ha,hr,hq⟩:=hl (l.getD t (0,0,0)) (by rw[aW,aP ht];exact fB ht)
  simp only[bO,ez]at hX
  rw[ez]
  refine aOJ h hH hV hy hz ha hr hq hn hC hO ?_
  rw[aC ((t:Int)+1)]
  have ef:(w4 O C K K fun o' c' r' q'=>(f o' c' r' q'+bO (fun t=>wtZ n O C P Q (H*V) gd xd (y*Q+z) o' c' r' q' (l.getD t (0,0,0))) t)+if r'=r/\q'=q then wtM n O C P Q (H*V) gd xd (y*Q+z) o' c' a else 0)=w4 O C K K fun o' c' r' q'=>f o' c' r' q'+(bO (fun t=>wtZ n O C P Q (H*V) gd xd (y*Q+z) o' c' r' q' (l.getD t (0,0,0))) t+wtZ n O C P Q (H*V) gd xd (y*Q+z) o' c' r' q' (↑a,↑r,↑q)):=by
   refine eK fun o' c' r' q' _ _ _ _ => ?_
   rw[yR]
   congr 2
   unfold wtZ
   dsimp only
   rw[bM]
   by_cases g:r'=r/\q'=q
   ·rw[aB g,aB (by omega)]
   ·rw[aA g,aA (by omega)]
  rw[ef]
  exact hX
 ·intro _ X
  unfold fX
  rw[aA (by simp)]
  dsimp only
  have:(w4 O C K K fun o' c' r' q'=>f o' c' r' q'+bO (fun t=>wtZ n O C P Q (H*V) gd xd (y*Q+z) o' c' r' q' (l.getD t (0,0,0))) l.length)=w4 O C K K fun o' c' r' q'=>f o' c' r' q'+G4 l (wtZ n O C P Q (H*V) gd xd (y*Q+z) o' c' r' q') :=
   eK fun o' c' r' q' _ _ _ _=>by rw[QJ l _ (0,0,0)]
  rw[this]
  exact hk
def wtR (n O C K P Q H V:Nat)(s p:Int)(gd xd:List Int)(y o c r q:Nat)(m:Nat):Int:=bO (fun z=>G4 (gF H V y z K s p) (wtZ n O C P Q (H*V) gd xd (y*Q+z) o c r q)) m
theorem aNz {s p:Int}(h:VT n O C K P Q (H*V) gd xd)(hH:1<=H)(hV:1<=V){f:Nat->Nat->Nat->Nat->Int}{y:Nat}{K0:List Int->Prop}(hy:y<P)(hK:K<=5)(hn:n<=8192)(hC:C<=8192)(hO:O<=8192)(hQ:Q<=8192)
 (hk:K0 (w4 O C K K fun o' c' r' q'=>f o' c' r' q'+wtR n O C K P Q H V s p gd xd y o' c' r' q' Q)) :
 mD K s p n O C H V P Q y Q gd xd K0 (0,w4 O C K K f):=by
 have hKK:K*K<=5*5:=fE hK hK
 refine⟨?_⟩
 have eg:((0:Int),w4 O C K K f)=(fun j:Nat=>((j:Int),w4 O C K K fun o' c' r' q'=>f o' c' r' q'+wtR n O C K P Q H V s p gd xd y o' c' r' q' j)) 0:=by
  dsimp only
  congr 1
  refine eK fun o' c' r' q' _ _ _ _ => ?_
  simp[wtR,bO]
 rw[eg]
 refine Loop.range (B:=fV K s p n O C H V P Q y Q gd xd K0) (f:=fun j:Nat=>((j:Int),w4 O C K K fun o' c' r' q'=>f o' c' r' q'+wtR n O C K P Q H V s p gd xd y o' c' r' q' j)) Q (fun _=>True) trivial ?_ ?_
 ·intro z hz _ X hX
  have hX:=hX trivial
  unfold fV
  rw[aB (aG (show(z:Int)<(Q:Int) by omega))]
  dsimp only at hX⊢
  refine HZ ?_
  have hwl:=F7 (rows:=H) (cols:=V) (r:=y) (c:=z) (s:=s) (p:=p) (K:=K)
  refine aNm h hH hV hy hz MD (by omega) hn hC hO ?_
  rw[aC ((z:Int)+1)]
  have ef:(w4 O C K K fun o' c' r' q'=>(f o' c' r' q'+wtR n O C K P Q H V s p gd xd y o' c' r' q' z)+G4 (gF H V y z K s p) (wtZ n O C P Q (H*V) gd xd (y*Q+z) o' c' r' q'))=w4 O C K K fun o' c' r' q'=>f o' c' r' q'+wtR n O C K P Q H V s p gd xd y o' c' r' q' (z+1) :=
   eK fun o' c' r' q' _ _ _ _=>by rw[yR];rfl
  rw[ef]
  exact hX
 ·intro _ X
  unfold fV
  rw[aA (by simp)]
  exact hk
theorem aOC {s p:Int}(h:VT n O C K P Q (H*V) gd xd)(hH:1<=H)(hV:1<=V){K0:List Int->Prop}(hK:K<=5)(hn:n<=8192)(hC:C<=8192)(hO:O<=8192)(hQ:Q<=8192)(hP:P<=8192)
 (hk:K0 (w4 O C K K (aBC n O C K P Q H V s p gd xd))) :
 l0 K s p n O C H V P Q P gd xd K0 (0,w4 O C K K fun _ _ _ _=>0):=by
 refine⟨?_⟩
 refine Loop.range (B:=fN K s p n O C H V P Q P gd xd K0) (f:=fun j:Nat=>((j:Int),w4 O C K K fun o' c' r' q'=>bO (fun y=>wtR n O C K P Q H V s p gd xd y o' c' r' q' Q) j)) P (fun _=>True) trivial ?_ ?_
 ·intro y hy _ X hX
  have hX:=hX trivial
  unfold fN
  rw[aB (aG (show(y:Int)<(P:Int) by omega))]
  dsimp only at hX⊢
  refine aNz h hH hV hy hK hn hC hO hQ ?_
  rw[aC ((y:Int)+1)]
  exact hX
 ·intro _ X
  unfold fN
  rw[aA (by simp)]
  dsimp only
  have:(w4 O C K K fun o' c' r' q'=>bO (fun y=>wtR n O C K P Q H V s p gd xd y o' c' r' q' Q) P)=w4 O C K K (aBC n O C K P Q H V s p gd xd):=by
   refine eK fun o' c' r' q' _ _ _ _ => ?_
   unfold aBC
   rw[<- aAd]
   refine BC fun y hy => ?_
   unfold wtR
   refine BC fun z hz => ?_
   rw[E5 hz,AP hz]
  rw[this]
  exact hk
end
theorem aDb {g x:T3}{k s p:Int}(hm:([g,x].all bA)=false):uL g x k s p=(Z3,1):=by
 have hE:wtE g x k s p=1:=by
  unfold wtE
  rw[aAj hm];rfl
 unfold uL
 rw[hE];rfl
theorem TO {g x:T3}{k s p:Int}(hm:([g,x].all bA)=true)(hl : ¬ ((g.1.length:Int)=4/\(x.1.length:Int)=4)\/W0 g x k s p=true):uL g x k s p=(Z3,2):=by
 have hm':=hm
 rw[aDa]at hm'
 simp only[aI]at hm'
 have hE:wtE g x k s p=2:=by
  unfold wtE
  by_cases h2:(g.1.length:Int)=4/\(x.1.length:Int)=4
  ·rw[PY (fun t ht=>by
    rcases List.mem_cons.1 ht with e|e
    ·subst e;exact⟨hm'.1,h2.1⟩
    ·rcases List.mem_singleton.1 e with rfl
     exact⟨hm'.2,h2.2⟩)]
   rcases hl with hl|hl
   ·exact absurd h2 hl
   ·rw[hl];rfl
  ·rw[aB7 hm h2];rfl
 unfold uL
 rw[hE];rfl
theorem aM0 {g x:T3}{k s p:Int}{Q:T3×Int->Prop}(ag:All8 g.2.2)(ax:All8 x.2.2)(hq:Q (uL g x k s p)):oI g x k s p Q:=by
 refine⟨?_⟩
 refine tU (by simp) ?_
 show(if (!([g,x].all bA))=true then _ else _)
 cases hm:[g,x].all bA with
 | false=>rw[aDb hm]at hq;exact hq
 | true =>
   rw[aA (by simp)]
   refine eN (b:=((g.1.length:Int) != 4)||((x.1.length:Int) != 4)) (c:=g.1.getD 0 0 != x.1.getD 0 0) (fun hb P hp => ?_) (fun v2 e2 => ?_) rfl
   ·simp only[dP,Q9]at hb
    exact⟨by omega,by omega,hp⟩
   ·cases v2 with
    | true =>
      rw[aB rfl]
      rw[TO hm]at hq
      ·exact hq
      ·by_cases g1:(g.1.length:Int)=4/\(x.1.length:Int)=4
       ·right
        have e2:=e2.symm
        simp only[cG,nZ,ne_eq]at e2
        unfold W0
        simp only[cG,nZ,ne_eq]
        have:g.1.getD 0 0=x.1.getD 0 0 ↔ x.1.getD 0 0=g.1.getD 0 0:=eq_comm
        grind
       ·left;exact g1
    | false =>
      rw[aA (by simp)]
      have e2:=e2.symm
      simp only[dP,Q9]at e2
      obtain⟨⟨l1,l2⟩,c1⟩:=e2
      have hm2:=hm
      rw[aDa]at hm2
      simp only[aI]at hm2
      refine⟨by omega,by omega,by omega,by omega,by omega,EL ?_⟩
      have r1:=nN (x.1.getD 2 0) k s p
      have r2:=nN (x.1.getD 3 0) k s p
      refine eN (b:=(bL (x.1.getD 2 0) k s p==0)||(bL (x.1.getD 3 0) k s p==0)) (c:=bL (x.1.getD 2 0) k s p != g.1.getD 2 0) (fun hb P hp=>⟨by omega,hp⟩) (fun v5 e5 => ?_) rfl
      refine eN (c:=bL (x.1.getD 3 0) k s p != g.1.getD 3 0) (fun hb P hp=>⟨by omega,hp⟩) (fun v7 e7 => ?_) rfl
      have hbad:W0 g x k s p=v7:=by
       rw[e7,e5,Bool.eq_iff_iff]
       unfold W0
       simp only[cG,nJ,JH,eZ,nZ,ne_eq,dS]
       have:g.1.getD 2 0=bL (x.1.getD 2 0) k s p ↔ bL (x.1.getD 2 0) k s p=g.1.getD 2 0:=eq_comm
       have:g.1.getD 3 0=bL (x.1.getD 3 0) k s p ↔ bL (x.1.getD 3 0) k s p=g.1.getD 3 0:=eq_comm
       grind
      cases v7 with
      | true =>
        rw[aB rfl]
        rw[TO hm (.inr hbad)]at hq
        exact hq
      | false =>
        rw[aA (by simp)]
        have hb2:=hbad
        unfold W0 at hb2
        simp only[dP,Q9,wZ,aI,aT]at hb2
        obtain⟨⟨⟨⟨o1,o2⟩,d1⟩,d2⟩,d3⟩:=hb2
        obtain⟨n,O,P,R,eg,g1,g2,g3,g4,g5,g6,g7,g8⟩:=SC hm2.1 l1
        obtain⟨n',C,H,V,ex,x1,x2,x3,x4,x5,x6,x7,x8⟩:=SC hm2.2 l2
        simp only[eg,ex,List.getD_cons_zero,List.getD_cons_succ]at o1 o2 d1 d2 d3⊢
        have en:n'=n:=by omega
        subst en
        obtain⟨a1,a2,a3,a4,a5,a6⟩:=mJ o1
        obtain⟨f1,_⟩:=mJ o2
        obtain⟨K,rfl⟩:=gM (show 0<=k by omega)
        have k1:n'<=n'*O:=cE _ (by omega)
        have k2:n'*P*R<=8192:=by
         have e1:n'*P*R<=n'*O*P*R:=fQ _ (fQ _ k1)
         omega
        have k3:n'*P<=n'*P*R:=cE _ (by omega)
        have k4:n'<=n'*P:=cE _ (by omega)
        have k5:P<=n'*P:=yX _ (by omega)
        have k6:R<=n'*P*R:=yX _ (sY (by omega) (by omega))
        have k7:O<=n'*O:=yX _ (by omega)
        have k8:n'*O<=n'*O*P:=cE _ (by omega)
        have k9:n'*O*P<=n'*O*P*R:=cE _ (by omega)
        have ka:C<=n'*C:=yX _ (by omega)
        have kb:n'*C<=n'*C*H:=cE _ (by omega)
        have kc:n'*C*H<=n'*C*H*V:=cE _ (by omega)
        rw[<- d2,<- d3,CF (r:=n') (n:=P) (by omega),CF (r:=n'*P) (n:=R) (by omega),aC (g.2.1+x.2.1)]
        refine F3 ⟨?_⟩
        have hE:wtE g x K s p=(gT [(O:Int),(C:Int),(K:Int),(K:Int)] (g.2.1+x.2.1) ((n'*P*R:Nat):Int)).2:=by
         unfold wtE
         rw[hbad,PY (fun t ht=>by
          rcases List.mem_cons.1 ht with e|e
          ·subst e;exact⟨hm2.1,l1⟩
          ·rcases List.mem_singleton.1 e with rfl
           exact⟨hm2.2,l2⟩)]
         simp only[eW,cN,DG]
         unfold SP wtN
         simp only[eg,ex,List.getD_cons_zero,List.getD_cons_succ,Int.natCast_mul]
        unfold uL at hq
        rw[hE]at hq
        by_cases h9:(gT [(O:Int),(C:Int),(K:Int),(K:Int)] (g.2.1+x.2.1) ((n'*P*R:Nat):Int)).2=0
        ·obtain⟨f1',f2,f3,f4⟩:=BA h9
         rw[f4]at hq⊢
         simp only[DG,eW,cN]at hq⊢
         obtain⟨q1,q2,q3,q4,e1,e2,e3,e4,_,_,_,_,s5,s6⟩:=aBo f3
         have t1:q1=O:=by omega
         have t2:q2=C:=by omega
         have t3:q3=K:=by omega
         have t4:q4=K:=by omega
         subst t1 t2 t3 t4
         have w:VT n' q1 q2 q4 P R (H*V) g.2.2 x.2.2:=⟨by omega,by rw[x6];exact cS _ _ _,g5,by rw[<- cS];exact x5,s5,ag,ax,by omega,by omega,by omega,by omega,by omega⟩
         rw[s6,bM,aKA]
         refine aOC w (by omega) (by omega) (by omega) (by omega) (by omega) (by omega) (by omega) (by omega) ?_
         unfold SP aGT at hq
         simp only[eg,ex,List.getD_cons_zero,List.getD_cons_succ,Int.toNat_natCast]at hq
         exact hq
        ·rw[aB (by simpa using h9)]
         rw[aB (by simpa using h9)]at hq
         rw[D3 h9]
         exact hq
end Go.Proofs.YtcfpfefadlnmcaaGreat

namespace Go.Proofs.YtcfpfefadlnmcaaGreat
open Go.Mach Go.RowKit
set_option maxRecDepth 100000
set_option linter.unusedVariables false
set_option linter.unusedSimpArgs false
def inC (n C:Nat)(g w:List Int)(r i:Nat):Int:=xS 0 (fun o=>g.getD (r*n+o) 0*w.getD (o*C+i) 0) n
theorem aNj {r i n C:Nat}{gd g wd w:List Int}{ge we:Int}(hg:r*n+n<=g.length)(hw:n*C<=w.length)(hi:i<C)(lg:g.length<=8192)(lw:w.length<=8192)(hn:n<=959)(bg:All8 g)(bw:All8 w){Q:Int->Prop}(h:Q (inC n C g w r i)):A0 (r:Int) (i:Int) (n:Int) gd ge g wd we w (C:Int) Q:=by
 refine⟨⟨?_⟩⟩
 refine Loop.range (B:=qZ (r:Int) (i:Int) (n:Int) g w (C:Int) (n:Int) _) (f:=fun o=>(xS 0 (fun o=>g.getD (r*n+o) 0*w.getD (o*C+i) 0) o,(o:Int))) n (fun _=>True) trivial ?_ ?_
 ·intro o ho _ X hX
  unfold qZ
  rw[aB (by simpa using ho)]
  dsimp only
  have hs:=I2 (s:=0) (g:=fun o=>g.getD (r*n+o) 0*w.getD (o*C+i) 0) (n:=o) (by omega) (by omega) (fun o=>ZK (bg.at_ _) (bw.at_ _))
  have hl:=fC (R:=n) ho hi
  rw[ix (r:=r) (n:=n) (i:=o) (by omega),ix (r:=o) (n:=C) (i:=i) (by omega)]
  refine⟨⟨by omega,by omega⟩,⟨by omega,by omega⟩,?_⟩
  simp only[Int.toNat_natCast]
  rw[mac hs (bg.at_ _) (bw.at_ _),aC ((o:Int)+1)]
  exact hX trivial
 ·intro _ X
  unfold qZ
  rw[aA (by simp)]
  exact h
theorem aJs {n C:Nat}{g w:List Int}{r i:Nat}(hn:n<=959)(bg:All8 g)(bw:All8 w) : -16760832<=inC n C g w r i/\inC n C g w r i<=16760832:=QI (by omega) hn (fun i=>ZK (bg.at_ _) (bw.at_ _))
def wgC (n R C:Nat)(g x:List Int)(o i:Nat):Int:=xS 0 (fun r=>g.getD (r*R+o) 0*x.getD (r*C+i) 0) n
theorem aN0 {o i n R C:Nat}{gd g xd x:List Int}{ge xe:Int}(hg:n*R<=g.length)(hx:n*C<=x.length)(ho:o<R)(hi:i<C)(lg:g.length<=8192)(lx:x.length<=8192)(hn:n<=959)(bg:All8 g)(bx:All8 x){Q:Int->Prop}(h:Q (wgC n R C g x o i)):yW (o:Int) (i:Int) (n:Int) gd ge g (R:Int) xd xe x (C:Int) Q:=by
 refine⟨⟨?_⟩⟩
 refine Loop.range (B:=pN (o:Int) (i:Int) g (R:Int) x (C:Int) (n:Int) _) (f:=fun r=>(xS 0 (fun r=>g.getD (r*R+o) 0*x.getD (r*C+i) 0) r,(r:Int))) n (fun _=>True) trivial ?_ ?_
 ·intro r hr _ X hX
  unfold pN
  rw[aB (by simpa using hr)]
  dsimp only
  have hs:=I2 (s:=0) (g:=fun r=>g.getD (r*R+o) 0*x.getD (r*C+i) 0) (n:=r) (by omega) (by omega) (fun o=>ZK (bg.at_ _) (bx.at_ _))
  have h1:=fC (R:=n) hr ho
  have h2:=fC (R:=n) hr hi
  rw[ix (r:=r) (n:=R) (i:=o) (by omega),ix (r:=r) (n:=C) (i:=i) (by omega)]
  refine⟨⟨by omega,by omega⟩,⟨by omega,by omega⟩,?_⟩
  simp only[Int.toNat_natCast]
  rw[mac hs (bg.at_ _) (bx.at_ _),aC ((r:Int)+1)]
  exact hX trivial
 ·intro _ X
  unfold pN
  rw[aA (by simp)]
  exact h
theorem aKD {n R C:Nat}{g x:List Int}{o i:Nat}(hn:n<=959)(bg:All8 g)(bx:All8 x) : -16760832<=wgC n R C g x o i/\wgC n R C g x o i<=16760832:=QI (by omega) hn (fun i=>ZK (bg.at_ _) (bx.at_ _))
def biC (n C:Nat)(g:List Int)(o:Nat):Int:=xS 0 (fun r=>g.getD (r*C+o) 0) n
theorem aOO {q o n C:Nat}{gd g:List Int}{ge:Int}(hg:n*C<=g.length)(ho:o<C)(lg:g.length<=8192)(hn:n<=959)(bg:All8 g){Q:Int->Prop}(h:Q (biC n C g o)):DU (q:Int) (o:Int) (n:Int) gd ge g (C:Int) Q:=by
 refine⟨⟨?_⟩⟩
 refine Loop.range (B:=tC (o:Int) g (C:Int) (n:Int) _) (f:=fun r=>(xS 0 (fun r=>g.getD (r*C+o) 0) r,(r:Int))) n (fun _=>True) trivial ?_ ?_
 ·intro r hr _ X hX
  unfold tC
  rw[aB (by simpa using hr)]
  dsimp only
  have hs:=I2 (s:=0) (g:=fun r=>g.getD (r*C+o) 0) (n:=r) (by omega) (by omega) (fun k=>by have:=bg.at_ (k*C+o);omega)
  have h1:=fC (R:=n) hr ho
  rw[ix (r:=r) (n:=C) (i:=o) (by omega)]
  refine⟨⟨by omega,by omega⟩,?_⟩
  simp only[Int.toNat_natCast]
  rw[aOd hs (bg.at_ _),aC ((r:Int)+1)]
  exact hX trivial
 ·intro _ X
  unfold tC
  rw[aA (by simp)]
  exact h
theorem aKW {n C:Nat}{g:List Int}{o:Nat}(hn:n<=959)(bg:All8 g) : -16760832<=biC n C g o/\biC n C g o<=16760832:=QI (by omega) hn (fun k=>by have:=bg.at_ (k*C+o);omega)
theorem aJD {gd g wd w:List Int}{n2 ge we cl:Int}{R C n e:Int}{f:Nat->Nat->Int}{Q:T3×Int->Prop}
 (hc:lT n=true->0<szF [R,C]->∀ r q:Nat,r<R.toNat->q<C.toNat -> -2147483648<=f r q/\f r q<=2147483647/\∀ K:Int->Prop,K (f r q)->A0 (r:Int) (q:Int) n2 gd ge g wd we w cl K)
 (h:Q (uU R C n e f)):oK R C n e n2 gd ge g wd we w cl Q:=by
 refine⟨?_⟩
 refine YZ ?_
 unfold uU at h
 by_cases h1:((!lT n||decide (128<e))||decide (e < -128))=true
 ·rw[aB h1]at h⊢;exact h
 ·rw[aA h1]at h⊢
  refine PJ ?_
  by_cases h2:(!decide (0<szF [R,C]))=true
  ·rw[aB h2]at h⊢;exact h
  ·rw[aA h2]at h⊢
   have hfit:lT n=true:=by
    simp only[cG,gI]at h1
    have:=h1.1.1
    cases hq:lT n with
    | true=>rfl
    | false=>rw[hq]at this;exact absurd rfl this
   have hsz:0<szF [R,C]:=by simpa using h2
   have hc:=hc hfit hsz
   obtain⟨k1,k2,k3,k4,k5,_⟩:=aBe R C hsz
   obtain⟨R,rfl⟩:=gM (show 0<=R by omega)
   obtain⟨C,rfl⟩:=gM (show 0<=C by omega)
   have hRC:R*C<=8192:=by rw[<- lA]at k5;omega
   simp only[Int.toNat_natCast]at hc h
   refine⟨?_⟩
   refine Loop.range (B:=fP (C:Int) n2 gd ge g wd we w cl (R:Int) _) (f:=fun r=>((r:Int),mR r C f)) R (fun _=>True) trivial ?_ ?_
   ·intro r hr _ X hX
    unfold fP
    rw[aB (by simpa using hr)]
    refine⟨?_⟩
    dsimp only
    have hl:=AH r C f
    have hrc:(r+1)*C<=R*C:=fQ C hr
    rw[fK,kO]at hrc
    rw[show(0,mR r C f)=((fun q:Nat=>((q:Int),mR r C f++(List.range q).map (f r))) 0) by simp]
    refine Loop.range (f:=fun q=>((q:Int),mR r C f++(List.range q).map (f r))) C (fun _=>True) trivial ?_ ?_
    ·intro q hcc _ Y hY
     unfold j9
     rw[aB (by simpa using hcc)]
     obtain⟨m1,m2,m3⟩:=hc r q hr hcc
     refine m3 _ ?_
     refine⟨?_,?_⟩
     ·simp only[kX,B8,S4,List.length_singleton,hl]
      omega
     ·have:=hY trivial
      simp only[qR,yZ,List.map_cons,List.map_nil,<- fU]at this
      rw[tO _ m1 m2,aC ((q:Int)+1)]
      exact this
    ·intro _ Y
     unfold j9
     rw[aA (by simp)]
     have:=hX trivial
     simp only[AG]at this
     dsimp only
     rw[aC ((r:Int)+1)]
     exact this
   ·intro _ X
    unfold fP
    rw[aA (by simp)]
    exact h
theorem aGl {gd g xd x:List Int}{n2 ge xe rws cl:Int}{R C n e:Int}{f:Nat->Nat->Int}{Q:T3×Int->Prop}
 (hc:lT n=true->0<szF [R,C]->∀ r q:Nat,r<R.toNat->q<C.toNat -> -2147483648<=f r q/\f r q<=2147483647/\∀ K:Int->Prop,K (f r q)->yW (r:Int) (q:Int) n2 gd ge g rws xd xe x cl K)
 (h:Q (uU R C n e f)):nT R C n e n2 gd ge g rws xd xe x cl Q:=by
 refine⟨?_⟩
 refine YZ ?_
 unfold uU at h
 by_cases h1:((!lT n||decide (128<e))||decide (e < -128))=true
 ·rw[aB h1]at h⊢;exact h
 ·rw[aA h1]at h⊢
  refine PJ ?_
  by_cases h2:(!decide (0<szF [R,C]))=true
  ·rw[aB h2]at h⊢;exact h
  ·rw[aA h2]at h⊢
   have hfit:lT n=true:=by
    simp only[cG,gI]at h1
    have:=h1.1.1
    cases hq:lT n with
    | true=>rfl
    | false=>rw[hq]at this;exact absurd rfl this
   have hsz:0<szF [R,C]:=by simpa using h2
   have hc:=hc hfit hsz
   obtain⟨k1,k2,k3,k4,k5,_⟩:=aBe R C hsz
   obtain⟨R,rfl⟩:=gM (show 0<=R by omega)
   obtain⟨C,rfl⟩:=gM (show 0<=C by omega)
   have hRC:R*C<=8192:=by rw[<- lA]at k5;omega
   simp only[Int.toNat_natCast]at hc h
   refine⟨?_⟩
   refine Loop.range (B:=fH (C:Int) n2 gd ge g rws xd xe x cl (R:Int) _) (f:=fun r=>((r:Int),mR r C f)) R (fun _=>True) trivial ?_ ?_
   ·intro r hr _ X hX
    unfold fH
    rw[aB (by simpa using hr)]
    refine⟨?_⟩
    dsimp only
    have hl:=AH r C f
    have hrc:(r+1)*C<=R*C:=fQ C hr
    rw[fK,kO]at hrc
    rw[show(0,mR r C f)=((fun q:Nat=>((q:Int),mR r C f++(List.range q).map (f r))) 0) by simp]
    refine Loop.range (f:=fun q=>((q:Int),mR r C f++(List.range q).map (f r))) C (fun _=>True) trivial ?_ ?_
    ·intro q hcc _ Y hY
     unfold jQ
     rw[aB (by simpa using hcc)]
     obtain⟨m1,m2,m3⟩:=hc r q hr hcc
     refine m3 _ ?_
     refine⟨?_,?_⟩
     ·simp only[kX,B8,S4,List.length_singleton,hl]
      omega
     ·have:=hY trivial
      simp only[qR,yZ,List.map_cons,List.map_nil,<- fU]at this
      rw[tO _ m1 m2,aC ((q:Int)+1)]
      exact this
    ·intro _ Y
     unfold jQ
     rw[aA (by simp)]
     have:=hX trivial
     simp only[AG]at this
     dsimp only
     rw[aC ((r:Int)+1)]
     exact this
   ·intro _ X
    unfold fH
    rw[aA (by simp)]
    exact h
theorem aKS {gd g:List Int}{n2 ge cl:Int}{R C n e:Int}{f:Nat->Nat->Int}{Q:T3×Int->Prop}
 (hc:lT n=true->0<szF [R,C]->∀ r q:Nat,r<R.toNat->q<C.toNat -> -2147483648<=f r q/\f r q<=2147483647/\∀ K:Int->Prop,K (f r q)->DU (r:Int) (q:Int) n2 gd ge g cl K)
 (h:Q (uU R C n e f)):o9 R C n e n2 gd ge g cl Q:=by
 refine⟨?_⟩
 refine YZ ?_
 unfold uU at h
 by_cases h1:((!lT n||decide (128<e))||decide (e < -128))=true
 ·rw[aB h1]at h⊢;exact h
 ·rw[aA h1]at h⊢
  refine PJ ?_
  by_cases h2:(!decide (0<szF [R,C]))=true
  ·rw[aB h2]at h⊢;exact h
  ·rw[aA h2]at h⊢
   have hfit:lT n=true:=by
    simp only[cG,gI]at h1
    have:=h1.1.1
    cases hq:lT n with
    | true=>rfl
    | false=>rw[hq]at this;exact absurd rfl this
   have hsz:0<szF [R,C]:=by simpa using h2
   have hc:=hc hfit hsz
   obtain⟨k1,k2,k3,k4,k5,_⟩:=aBe R C hsz
   obtain⟨R,rfl⟩:=gM (show 0<=R by omega)
   obtain⟨C,rfl⟩:=gM (show 0<=C by omega)
   have hRC:R*C<=8192:=by rw[<- lA]at k5;omega
   simp only[Int.toNat_natCast]at hc h
   refine⟨?_⟩
   refine Loop.range (B:=f8 (C:Int) n2 gd ge g cl (R:Int) _) (f:=fun r=>((r:Int),mR r C f)) R (fun _=>True) trivial ?_ ?_
   ·intro r hr _ X hX
    unfold f8
    rw[aB (by simpa using hr)]
    refine⟨?_⟩
    dsimp only
    have hl:=AH r C f
    have hrc:(r+1)*C<=R*C:=fQ C hr
    rw[fK,kO]at hrc
    rw[show(0,mR r C f)=((fun q:Nat=>((q:Int),mR r C f++(List.range q).map (f r))) 0) by simp]
    refine Loop.range (f:=fun q=>((q:Int),mR r C f++(List.range q).map (f r))) C (fun _=>True) trivial ?_ ?_
    ·intro q hcc _ Y hY
     unfold kV
     rw[aB (by simpa using hcc)]
     obtain⟨m1,m2,m3⟩:=hc r q hr hcc
     refine m3 _ ?_
     refine⟨?_,?_⟩
     ·simp only[kX,B8,S4,List.length_singleton,hl]
      omega
     ·have:=hY trivial
      simp only[qR,yZ,List.map_cons,List.map_nil,<- fU]at this
      rw[tO _ m1 m2,aC ((q:Int)+1)]
      exact this
    ·intro _ Y
     unfold kV
     rw[aA (by simp)]
     have:=hX trivial
     simp only[AG]at this
     dsimp only
     rw[aC ((r:Int)+1)]
     exact this
   ·intro _ X
    unfold f8
    rw[aA (by simp)]
    exact h
def aDw (g w:T3):T3×Int :=
 if (sF 2 [g,w] != 0)=true then(Z3,sF 2 [g,w])
 else if (w.1.getD 0 0 != g.1.getD 1 0)=true then(Z3,2)
 else uU (g.1.getD 0 0) (w.1.getD 1 0) (g.1.getD 1 0) (g.2.1+w.2.1) (inC (g.1.getD 1 0).toNat (w.1.getD 1 0).toNat g.2.2 w.2.2)
theorem aNq {g w:T3}{Q:T3×Int->Prop}(bg:All8 g.2.2)(bw:All8 w.2.2)(h:Q (aDw g w)):O6 g w Q:=by
 refine⟨aEH (by simp) ?_⟩
 unfold aDw at h
 by_cases h2:(sF 2 [g,w] != 0)=true
 ·rw[aB h2]at h⊢;exact h
 rw[aA h2]at h⊢
 obtain⟨mg,mw,lg,lw⟩:=aGS (by simpa using h2)
 obtain⟨R,n,eg,g1,g2,g3,g4,g5,g6,g7,g8⟩:=T6 mg (by omega)
 obtain⟨D,C,ew,w1,w2,w3,w4,w5,w6,w7,w8⟩:=T6 mw (by omega)
 rw[eg,ew]at h⊢
 refine⟨by simp,by simp,by simp,by simp,?_⟩
 by_cases h3:(([(D:Int),(C:Int)].getD 0 0) != ([(R:Int),(n:Int)].getD 1 0))=true
 ·rw[aB h3]at h⊢;exact h
 rw[aA h3]at h⊢
 have hD:D=n:=by
  have:(D:Int)=(n:Int):=by simpa using h3
  omega
 subst hD
 rw[aC (g.2.1+w.2.1)]
 refine aJD ?_ h
 intro hfit hsz r c hr hcc
 have hn:=EX hfit
 simp only[List.getD_cons_zero,List.getD_cons_succ,Int.toNat_natCast]at hr hcc hn⊢
 have hb:=aJs (n:=D) (C:=C) (g:=g.2.2) (w:=w.2.2) (r:=r) (i:=c) (by omega) bg bw
 refine⟨by omega,by omega,fun K hK => ?_⟩
 have k1:(r+1)*D<=R*D:=fQ D hr
 rw[fK,kO]at k1
 exact aNj (by omega) (by omega) hcc (by omega) (by omega) (by omega) bg bw hK
def aE2 (g x:T3):T3×Int :=
 if (sF 2 [g,x] != 0)=true then(Z3,sF 2 [g,x])
 else if (x.1.getD 0 0 != g.1.getD 0 0)=true then(Z3,2)
 else uU (g.1.getD 1 0) (x.1.getD 1 0) (g.1.getD 0 0) (g.2.1+x.2.1) (wgC (g.1.getD 0 0).toNat (g.1.getD 1 0).toNat (x.1.getD 1 0).toNat g.2.2 x.2.2)
theorem aOG {g x:T3}{Q:T3×Int->Prop}(bg:All8 g.2.2)(bx:All8 x.2.2)(h:Q (aE2 g x)):L8 g x Q:=by
 refine⟨aEH (by simp) ?_⟩
 unfold aE2 at h
 by_cases h2:(sF 2 [g,x] != 0)=true
 ·rw[aB h2]at h⊢;exact h
 rw[aA h2]at h⊢
 obtain⟨mg,mx,lg,lx⟩:=aGS (by simpa using h2)
 obtain⟨n,R,eg,g1,g2,g3,g4,g5,g6,g7,g8⟩:=T6 mg (by omega)
 obtain⟨D,C,ex,x1,x2,x3,x4,x5,x6,x7,x8⟩:=T6 mx (by omega)
 rw[eg,ex]at h⊢
 refine⟨by simp,by simp,by simp,by simp,?_⟩
 by_cases h3:(([(D:Int),(C:Int)].getD 0 0) != ([(n:Int),(R:Int)].getD 0 0))=true
 ·rw[aB h3]at h⊢;exact h
 rw[aA h3]at h⊢
 have hD:D=n:=by
  have:(D:Int)=(n:Int):=by simpa using h3
  omega
 subst hD
 rw[aC (g.2.1+x.2.1)]
 refine aGl ?_ h
 intro hfit hsz o i ho hi
 have hn:=EX hfit
 simp only[List.getD_cons_zero,List.getD_cons_succ,Int.toNat_natCast]at ho hi hn⊢
 have hb:=aKD (n:=D) (R:=R) (C:=C) (g:=g.2.2) (x:=x.2.2) (o:=o) (i:=i) (by omega) bg bx
 refine⟨by omega,by omega,fun K hK => ?_⟩
 exact aN0 (by omega) (by omega) ho hi (by omega) (by omega) (by omega) bg bx hK
theorem aM4 {n:Int}{x:T3}(h:sF n [x]=0):bA x=true/\(x.1.length:Int)=n:=by
 unfold sF at h
 split at h
 ·rename_i h1
  split at h
  ·rename_i h2
   simp only[List.all_cons,List.all_nil,TA,dS]at h1 h2
   exact⟨h1,h2⟩
  ·omega
 ·omega
def aFq (g:T3):T3×Int:=uU 1 (g.1.getD 1 0) (g.1.getD 0 0) g.2.1 (fun _=>biC (g.1.getD 0 0).toNat (g.1.getD 1 0).toNat g.2.2)
def aEN (g:T3):T3×Int :=
 if (sF 2 [g] != 0)=true then(Z3,sF 2 [g])
 else if ((aFq g).2==0)=true then(([g.1.getD 1 0],(aFq g).1.2),(aFq g).2)else aFq g
theorem aNy {g:T3}{Q:T3×Int->Prop}(bg:All8 g.2.2)(h:Q (aEN g)):RW g Q:=by
 refine⟨aEH (by simp) ?_⟩
 unfold aEN at h
 by_cases h2:(sF 2 [g] != 0)=true
 ·rw[aB h2]at h⊢;exact h
 rw[aA h2]at h⊢
 obtain⟨mg,lg⟩:=aM4 (by simpa using h2)
 obtain⟨n,C,eg,g1,g2,g3,g4,g5,g6,g7,g8⟩:=T6 mg (by omega)
 refine⟨by omega,by omega,?_⟩
 refine aKS (f:=fun _=>biC (g.1.getD 0 0).toNat (g.1.getD 1 0).toNat g.2.2) ?_ ?_
 ·intro hfit hsz r q hr hq
  have hn:=EX hfit
  rw[eg]at hn hq⊢
  simp only[List.getD_cons_zero,List.getD_cons_succ,Int.toNat_natCast]at hr hq hn⊢
  have hb:=aKW (n:=n) (C:=C) (g:=g.2.2) (o:=q) (by omega) bg
  refine⟨by omega,by omega,fun K hK => ?_⟩
  exact aOO (by omega) hq (by omega) (by omega) bg hK
 ·show if ((aFq g).2==0)=true then _ else _
  by_cases h3:((aFq g).2==0)=true
  ·rw[aB h3]at h⊢;exact⟨h⟩
  ·rw[aA h3]at h⊢;exact⟨h⟩
end Go.Proofs.YtcfpfefadlnmcaaGreat

namespace Go.Proofs.YtcfpfefadlnmcaaGreat
open IntKind (i8 i16 i32 i64 u8 u16 u32 u64)
open Go.Mach Go.RowKit
set_option maxRecDepth 100000
set_option linter.unusedVariables false
set_option linter.unusedSimpArgs false
theorem aI3 (R C:Nat)(f:Nat->Nat->Int):tab (R*C) (fun p=>f (p / C) (p%C))=mR R C f:=by
 refine aI5 (by simp[tab]) fun r hr c hc => ?_
 rw[ED _ (fC hr hc),E5 hc,AP hc]
theorem aFM {R C n e:Int}{f:Nat->Nat->Int}(h1:lT n=true)(h2 : -128<=e)(h3:e<=128)(h4:0<szF [R,C]):uU R C n e f=(([R,C],(e,mR R.toNat C.toNat f)),0):=by
 unfold uU
 rw[aA (by simp[h1];omega),aA (by simp;omega)]
theorem aAW (R C n e:Int)(f:Nat->Nat->Int):uU R C n e f=if ((gT [R,C] e n).2 != 0)=true then gT [R,C] e n else(([R,C],(e,mR R.toNat C.toNat f)),0):=by
 cases hf:lT n with
 | false =>
   have e1:gT [R,C] e n=(Z3,3):=by unfold gT;rw[aB (by rw[hf];rfl)]
   rw[e1]
   unfold uU
   rw[aB (by rw[hf];rfl),aB (by rfl)]
 | true =>
   by_cases h2:128<e\/e < -128
   ·have e1:gT [R,C] e n=(Z3,3):=by unfold gT;rw[aA (by rw[hf];simp),aB (by simp;omega)]
    rw[e1]
    unfold uU
    rw[aB (by simp;omega),aB (by rfl)]
   ·by_cases h3:0<szF [R,C]
    ·have e1:gT [R,C] e n=(([R,C],(e,List.replicate (szF [R,C]).toNat 0)),0):=by unfold gT;rw[aA (by rw[hf];simp),aA (by simp;omega),aA (by simp[h3])]
     rw[e1,aFM hf (by omega) (by omega) h3,aA (by simp)]
    ·have e1:gT [R,C] e n=(Z3,1):=by unfold gT;rw[aA (by rw[hf];simp),aA (by simp;omega),aB (by simp[h3])]
     rw[e1]
     unfold uU
     rw[aA (by rw[hf];simp;omega),aB (by simp[h3]),aB (by rfl)]
theorem aEA {R C:Nat}(h:0<szF [(R:Int),(C:Int)]):(szF [(R:Int),(C:Int)]).toNat=R*C:=by
 have:=(aBe _ _ h).2.2.2.2.2
 rw[this,<- lA,bM]
theorem TQ {d:List Int}{e n:Int}(h : ¬ ((gT d e n).2 != 0)=true):lT n=true/\0<szF d/\gT d e n=((d,(e,List.replicate (szF d).toNat 0)),0):=by
 unfold gT at h⊢
 by_cases h1:(!lT n)=true
 ·rw[aB h1]at h;exact absurd rfl h
 ·rw[aA h1]at h⊢
  by_cases h2:(decide (e < -128)||decide (128<e))=true
  ·rw[aB h2]at h;exact absurd rfl h
  ·rw[aA h2]at h⊢
   by_cases h3:(!decide (0<szF d))=true
   ·rw[aB h3]at h;exact absurd rfl h
   ·rw[aA h3]
    exact⟨by simpa using h1,by simpa using h3,rfl⟩
theorem aC6 {x w:T3}(h:(bA x&&bA w)=true):sF 2 [x,w]=if (((x.1.length:Int) != 2)||((w.1.length:Int) != 2))=true then 2 else 0:=by
 simp only[aI]at h
 unfold sF
 rw[aB (by simp[h.1,h.2])]
 by_cases h1:(x.1.length:Int)=2/\(w.1.length:Int)=2
 ·rw[aB (by simp[h1.1,h1.2]),aA (by simp[h1.1,h1.2])]
 ·rw[aA (by simpa using h1),aB (by simp;omega)]
theorem aDG {x w:T3}(h:(bA x&&bA w)=false):sF 2 [x,w]=1:=by
 unfold sF
 rw[aA (by simpa using h)]
theorem aFN {n i:Nat}{f:Nat->Int}(hi:i<n):(tab i f++List.replicate (n-i) 0).set i (f i)=tab (i+1) f++List.replicate (n-(i+1)) 0:=by
 have hl:(tab i f).length=i:=by simp[tab]
 rw[List.set_append_right _ _ (by omega),hl,Nat.sub_self,show n-i=(n-(i+1))+1 by omega,List.replicate_succ,List.set_cons_zero,aB2,fU]
 rfl
theorem aH7 {R C:Nat}{f:Nat->Nat->Int}{K:List Int->Prop}{B1:Int×List Int->(Int×List Int->Prop)->Prop}{B2:Nat->(List Int->Prop)->Int×List Int->(Int×List Int->Prop)->Prop}
 (h1:∀ i L X,i<R->Go.Mach.Loop (B2 i fun y=>X (((i+1:Nat):Int),y)) (0,L)->B1 ((i:Int),L) X) (h1e:∀ L X,K L->B1 ((R:Int),L) X)
 (h2:∀ i o L K2 Y,i<R->o<C->L.length=R*C->Y (((o+1:Nat):Int),L.set (i*C+o) (f i o))->B2 i K2 ((o:Int),L) Y) (h2e:∀ i L K2 Y,K2 L->B2 i K2 ((C:Int),L) Y)
 (h:K (mR R C f)):Go.Mach.Loop B1 (0,List.replicate (R*C) 0):=by
 rw[<- aI3]at h
 generalize hF:(fun p=>f (p / C) (p%C))=F at h
 generalize hT:R*C=T at h h2
 have e0:((0:Int),List.replicate T (0:Int))=(fun i:Nat=>((i:Int),tab (i*C) F++List.replicate (T-i*C) 0)) 0:=by simp[tab]
 rw[e0]
 refine Loop.range (B:=B1) R (fun i:Nat=>((i:Int),tab (i*C) F++List.replicate (T-i*C) 0)) (fun _=>True) trivial (fun i hi _ X hX => ?_) (fun _ X => ?_)
 ·have hX:=hX trivial
  have hrow:(i+1)*C<=R*C:=fQ C hi
  have hrow2:(i+1)*C=i*C+C:=by rw[fK,kO]
  refine h1 i _ X hi ?_
  have e1:((0:Int),tab (i*C) F++List.replicate (T-i*C) 0)=(fun o:Nat=>((o:Int),tab (i*C+o) F++List.replicate (T-(i*C+o)) 0)) 0:=rfl
  rw[e1]
  refine Loop.range (B:=B2 i _) C (fun o:Nat=>((o:Int),tab (i*C+o) F++List.replicate (T-(i*C+o)) 0)) (fun _=>True) trivial (fun o ho _ Y hY => ?_) (fun _ Y => ?_)
  ·have hY:=hY trivial
   refine h2 i o _ _ Y hi ho (by simp[tab];omega) ?_
   have eF:F (i*C+o)=f i o:=by rw[<- hF];dsimp only;rw[E5 ho,AP ho]
   rw[<- eF,aFN (by omega)]
   exact hY
  ·refine h2e i _ _ Y ?_
   rw[<- hrow2]
   exact hX
 ·refine h1e _ X ?_
  rw[hT,Nat.sub_self,List.replicate_zero,dU]
  exact h
theorem aOp {n C R:Nat}{g w:List Int}{K:List Int->Prop}(hg:g.length=R*n)(hw:w.length=n*C)(lg:g.length<=8192)(lw:w.length<=8192)(hn:n<=959)(lr:R*C<=8192)(hR:R<=8192)(hC:C<=8192)(bg:All8 g)(bw:All8 w)(h:K (mR R C (inC n C g w))) :
 l9 (n:Int) (C:Int) (R:Int) g w K (0,List.replicate (R*C) 0):=by
 refine⟨?_⟩
 refine aH7 (B1:=fR (n:Int) (C:Int) (R:Int) g w K) (B2:=fun i K2=>dF (n:Int) (C:Int) (i:Int) (C:Int) g w K2) (fun i L X hi hL => ?_) (fun L X hK => ?_) (fun i o L K2 Y hi ho hL hY => ?_) (fun i L K2 Y hK => ?_) h
 ·unfold fR
  rw[aB (aG (show(i:Int)<(R:Int) by omega)),aC _]
  exact⟨hL⟩
 ·unfold fR
  rw[aA (by simp)];exact hK
 ·show dF _ _ _ _ _ _ _ _ _
  unfold dF
  rw[aB (aG (show(o:Int)<(C:Int) by omega))]
  refine⟨?_⟩
  have hlt:=fC (R:=R) (n:=C) hi ho
  refine Loop.range (B:=fO (n:Int) (C:Int) (i:Int) (o:Int) (n:Int) g w _) (f:=fun j=>(xS 0 (fun j=>g.getD (i*n+j) 0*w.getD (j*C+o) 0) j,(j:Int))) n (fun _=>True) trivial ?_ ?_
  ·intro j hj _ Z hZ
   have hZ:=hZ trivial
   unfold fO
   rw[aB (aG (show(j:Int)<(n:Int) by omega))]
   dsimp only at hZ⊢
   have hs:=I2 (s:=0) (g:=fun j=>g.getD (i*n+j) 0*w.getD (j*C+o) 0) (n:=j) (by omega) (by omega) (fun j=>ZK (bg.at_ _) (bw.at_ _))
   have l1:=fC (R:=R) (n:=n) hi hj
   have l2:=fC (R:=n) (n:=C) hj ho
   rw[ix (r:=i) (n:=n) (i:=j) (by omega),ix (r:=j) (n:=C) (i:=o) (by omega)]
   refine⟨⟨by omega,by omega⟩,⟨by omega,by omega⟩,?_⟩
   simp only[Int.toNat_natCast]
   rw[mac hs (bg.at_ _) (bw.at_ _),aC ((j:Int)+1)]
   exact hZ
  ·intro _ Z
   unfold fO
   rw[aA (by simp)]
   dsimp only
   have hbd:=aJs (n:=n) (C:=C) (g:=g) (w:=w) (r:=i) (i:=o) hn bg bw
   have ee:xS 0 (fun j=>g.getD (i*n+j) 0*w.getD (j*C+o) 0) n=inC n C g w i o:=rfl
   rw[ee,ix (r:=i) (n:=C) (i:=o) (by omega)]
   refine⟨⟨by omega,by omega⟩,?_⟩
   rw[bM,tO _,aC ((o:Int)+1)]
   exact hY
 ·show dF _ _ _ _ _ _ _ _ _
  unfold dF
  rw[aA (by simp)];exact hK
theorem aNX {n C R:Nat}{g x:List Int}{K:List Int->Prop}(hg:g.length=n*R)(hx:x.length=n*C)(lg:g.length<=8192)(lx:x.length<=8192)(hn:n<=959)(lr:R*C<=8192)(hR:R<=8192)(hC:C<=8192)(bg:All8 g)(bx:All8 x)(h:K (mR R C (wgC n R C g x))) :
 lE (n:Int) (R:Int) (C:Int) (R:Int) g x K (0,List.replicate (R*C) 0):=by
 refine⟨?_⟩
 refine aH7 (B1:=fF (n:Int) (R:Int) (C:Int) (R:Int) g x K) (B2:=fun i K2=>dC (n:Int) (R:Int) (C:Int) (i:Int) (C:Int) g x K2) (fun i L X hi hL => ?_) (fun L X hK => ?_) (fun i o L K2 Y hi ho hL hY => ?_) (fun i L K2 Y hK => ?_) h
 ·unfold fF
  rw[aB (aG (show(i:Int)<(R:Int) by omega)),aC _]
  exact⟨hL⟩
 ·unfold fF
  rw[aA (by simp)];exact hK
 ·show dC _ _ _ _ _ _ _ _ _ _
  unfold dC
  rw[aB (aG (show(o:Int)<(C:Int) by omega))]
  refine⟨?_⟩
  have hlt:=fC (R:=R) (n:=C) hi ho
  refine Loop.range (B:=fG (R:Int) (C:Int) (i:Int) (o:Int) (n:Int) g x _) (f:=fun j=>(xS 0 (fun j=>g.getD (j*R+i) 0*x.getD (j*C+o) 0) j,(j:Int))) n (fun _=>True) trivial ?_ ?_
  ·intro j hj _ Z hZ
   have hZ:=hZ trivial
   unfold fG
   rw[aB (aG (show(j:Int)<(n:Int) by omega))]
   dsimp only at hZ⊢
   have hs:=I2 (s:=0) (g:=fun j=>g.getD (j*R+i) 0*x.getD (j*C+o) 0) (n:=j) (by omega) (by omega) (fun j=>ZK (bg.at_ _) (bx.at_ _))
   have l1:=fC (R:=n) (n:=R) hj hi
   have l2:=fC (R:=n) (n:=C) hj ho
   rw[ix (r:=j) (n:=R) (i:=i) (by omega),ix (r:=j) (n:=C) (i:=o) (by omega)]
   refine⟨⟨by omega,by omega⟩,⟨by omega,by omega⟩,?_⟩
   simp only[Int.toNat_natCast]
   rw[mac hs (bg.at_ _) (bx.at_ _),aC ((j:Int)+1)]
   exact hZ
  ·intro _ Z
   unfold fG
   rw[aA (by simp)]
   dsimp only
   have hbd:=aKD (n:=n) (R:=R) (C:=C) (g:=g) (x:=x) (o:=i) (i:=o) hn bg bx
   have ee:xS 0 (fun j=>g.getD (j*R+i) 0*x.getD (j*C+o) 0) n=wgC n R C g x i o:=rfl
   rw[ee,ix (r:=i) (n:=C) (i:=o) (by omega)]
   refine⟨⟨by omega,by omega⟩,?_⟩
   rw[bM,tO _,aC ((o:Int)+1)]
   exact hY
 ·show dC _ _ _ _ _ _ _ _ _ _
  unfold dC
  rw[aA (by simp)];exact hK
theorem aOW {O:Nat}{gd d:List Int}{K0:List Int->Prop}(h8:All8 gd)(hl:gd.length<=8192)(hO:1<=O)(hO2:O<=8192)(hd:1<d.length)(hd1:d.getD 1 0=(O:Int))
 (hk:K0 (tab O fun o=>i32.wrap (sD 1 O gd o gd.length))):m9 gd (gd.length:Int) d K0 (0,List.replicate O 0):=by
 refine⟨?_⟩
 have eg:((0:Int),List.replicate O (0:Int))=(fun j:Nat=>((j:Int),tab O fun o=>i32.wrap (sD 1 O gd o j))) 0:=by
  dsimp only
  congr 1
  refine aBO (by simp) fun i hi => ?_
  rw[P6 hi]
  show 0=i32.wrap 0
  decide
 rw[eg]
 refine Loop.range (B:=gB gd (gd.length:Int) d K0) (f:=fun j:Nat=>((j:Int),tab O fun o=>i32.wrap (sD 1 O gd o j))) gd.length (fun _=>True) trivial ?_ ?_
 ·intro i hi _ X hX
  have hX:=hX trivial
  unfold gB
  rw[aB (aG (show(i:Int)<(gd.length:Int) by omega))]
  dsimp only at hX⊢
  have hm:=Nat.mod_lt i (show 0<O by omega)
  obtain⟨o,eo⟩:∃ o,i%O=o:=⟨_,rfl⟩
  have em:(i:Int).tmod (O:Int)=(o:Int):=by
   rw[VK (by omega),<- V3,eo]
  rw[hd1,em,TN]
  refine⟨by omega,by omega,by omega,by omega,by omega,?_⟩
  rw[bM,bM,ED _ (by omega),aDl (by omega),aC ((i:Int)+1),QR,IZ]
  have:(tab O fun j=>if j=o then i32.wrap (sD 1 O gd o i+gd.getD i 0)else i32.wrap (sD 1 O gd j i))=tab O fun o=>i32.wrap (sD 1 O gd o (i+1)):=by
   refine P5 fun j hj => ?_
   unfold sD
   simp only[bO]
   by_cases e:j=o
   ·subst e
    rw[aB rfl,aB (by rw[Nat.div_one,eo])]
   ·rw[aA e,aA (by rw[Nat.div_one,eo];exact fun hh=>e hh.symm),Int.add_zero]
  rw[this]
  exact hX
 ·intro _ X
  unfold gB
  rw[aA (by simp)]
  exact hk
theorem aL0 {n C c:Nat}{g:List Int}(hc:c<C):sD 1 C g c (n*C)=biC n C g c:=by
 unfold sD biC
 rw[aAc,Int.zero_add,<- aAd]
 refine BC fun i _ => ?_
 rw[aIV (k:=c) hc fun j hj hne=>by rw[Nat.div_one,AP hj,aA hne],Nat.div_one,AP hc,aB rfl]
theorem aMZ {g w:T3}{Q:T3×Int->Prop}(bg:All8 g.2.2)(bw:All8 w.2.2)(h:Q (aDw g w)):oN g w Q:=by
 refine⟨?_⟩
 refine tU (by simp) ?_
 have eall:([g,w]:List T3).all bA=(bA g&&bA w):=aDa
 rw[eall]
 unfold aDw at h
 by_cases h0:(bA g&&bA w)=true
 rotate_left
 ·have h0':(bA g&&bA w)=false:=by simpa using h0
  rw[aDG h0',aB (by rfl)]at h
  rw[aB (by rw[h0'];rfl)]
  exact h
 rw[aA (by rw[h0];simp)]
 rw[aC6 h0]at h
 simp only[aI]at h0
 obtain⟨mg,mw⟩:=h0
 refine eN (b:=((g.1.length:Int) != 2)||((w.1.length:Int) != 2)) (c:=(g.1.getD 1 0 != w.1.getD 0 0)) (fun hb P hP=>by
  simp only[dP,rN]at hb
  exact⟨by omega,by omega,hP⟩) (fun v ev => ?_) rfl
 by_cases h1:(((g.1.length:Int) != 2)||((w.1.length:Int) != 2))=true
 ·rw[aB h1,aB (by rfl)]at h
  rw[ev,h1,J1,aB rfl]
  exact h
 have h1':(((g.1.length:Int) != 2)||((w.1.length:Int) != 2))=false:=by simpa using h1
 rw[aA h1,aA (by decide)]at h
 rw[h1',PI]at ev
 simp only[dP,rN]at h1'
 obtain⟨R,n,eg,g1,g2,g3,g4,g5,g6,g7,g8⟩:=T6 mg (by omega)
 obtain⟨m,C,ew,w1,w2,w3,w4,w5,w6,w7,w8⟩:=T6 mw (by omega)
 rw[eg,ew]at h ev⊢
 simp only[List.getD_cons_zero,List.getD_cons_succ,Int.toNat_natCast]at h ev⊢
 by_cases h2:(m:Int)=(n:Int)
 rotate_left
 ·rw[aB (by simpa using h2)]at h
  rw[ev,aB (by simpa using fun e=>h2 e.symm)]
  exact h
 have h2:m=n:=by omega
 subst h2
 rw[aA (by simp)]at h
 rw[ev,aA (by simp)]
 refine⟨by simp,by simp,by simp,⟨?_⟩⟩
 rw[aC (g.2.1+w.2.1)]
 rw[aAW]at h
 refine F3 ?_
 by_cases h4:((gT [(R:Int),(C:Int)] (g.2.1+w.2.1) (m:Int)).2 != 0)=true
 ·rw[aB h4]at h⊢
  exact h
 obtain⟨k1,k2,k3⟩:=TQ h4
 rw[aA h4]at h⊢
 rw[k3]
 dsimp only
 rw[aEA k2]
 have hn:=EX k1
 have hRC:=(aBe _ _ k2).2.2.2.2.1
 rw[<- lA]at hRC
 exact aOp g6 w6 (by omega) (by omega) (by omega) (by omega) (by omega) (by omega) bg bw h
theorem aNO {g x:T3}{Q:T3×Int->Prop}(bg:All8 g.2.2)(bx:All8 x.2.2)(h:Q (aE2 g x)):nQ g x Q:=by
 refine⟨?_⟩
 refine tU (by simp) ?_
 have eall:([g,x]:List T3).all bA=(bA g&&bA x):=aDa
 rw[eall]
 unfold aE2 at h
 by_cases h0:(bA g&&bA x)=true
 rotate_left
 ·have h0':(bA g&&bA x)=false:=by simpa using h0
  rw[aDG h0',aB (by rfl)]at h
  rw[aB (by rw[h0'];rfl)]
  exact h
 rw[aA (by rw[h0];simp)]
 rw[aC6 h0]at h
 simp only[aI]at h0
 obtain⟨mg,mw⟩:=h0
 refine eN (b:=((g.1.length:Int) != 2)||((x.1.length:Int) != 2)) (c:=(g.1.getD 0 0 != x.1.getD 0 0)) (fun hb P hP=>by
  simp only[dP,rN]at hb
  exact⟨by omega,by omega,hP⟩) (fun v ev => ?_) rfl
 by_cases h1:(((g.1.length:Int) != 2)||((x.1.length:Int) != 2))=true
 ·rw[aB h1,aB (by rfl)]at h
  rw[ev,h1,J1,aB rfl]
  exact h
 have h1':(((g.1.length:Int) != 2)||((x.1.length:Int) != 2))=false:=by simpa using h1
 rw[aA h1,aA (by decide)]at h
 rw[h1',PI]at ev
 simp only[dP,rN]at h1'
 obtain⟨n,R,eg,g1,g2,g3,g4,g5,g6,g7,g8⟩:=T6 mg (by omega)
 obtain⟨m,C,ew,w1,w2,w3,w4,w5,w6,w7,w8⟩:=T6 mw (by omega)
 rw[eg,ew]at h ev⊢
 simp only[List.getD_cons_zero,List.getD_cons_succ,Int.toNat_natCast]at h ev⊢
 by_cases h2:(m:Int)=(n:Int)
 rotate_left
 ·rw[aB (by simpa using h2)]at h
  rw[ev,aB (by simpa using fun e=>h2 e.symm)]
  exact h
 have h2:m=n:=by omega
 subst h2
 rw[aA (by simp)]at h
 rw[ev,aA (by simp)]
 refine⟨by simp,by simp,by simp,⟨?_⟩⟩
 rw[aC (g.2.1+x.2.1)]
 rw[aAW]at h
 refine F3 ?_
 by_cases h4:((gT [(R:Int),(C:Int)] (g.2.1+x.2.1) (m:Int)).2 != 0)=true
 ·rw[aB h4]at h⊢
  exact h
 obtain⟨k1,k2,k3⟩:=TQ h4
 rw[aA h4]at h⊢
 rw[k3]
 dsimp only
 rw[aEA k2]
 have hn:=EX k1
 have hRC:=(aBe _ _ k2).2.2.2.2.1
 rw[<- lA]at hRC
 exact aNX g6 w6 (by omega) (by omega) (by omega) (by omega) (by omega) (by omega) bg bx h
theorem aMb {g:T3}{Q:T3×Int->Prop}(bg:All8 g.2.2)(h:Q (aEN g)):pG g Q:=by
 refine⟨?_⟩
 refine tU (by simp) ?_
 have eall:([g]:List T3).all bA=bA g:=by simp
 rw[eall]
 have ed:sF 2 [g]=if bA g=true then(if ((g.1.length:Int) != 2)=true then 2 else 0)else 1:=by
  unfold sF
  by_cases hm:bA g=true
  ·rw[aB hm,aB (by simp[hm])]
   by_cases hl:(g.1.length:Int)=2
   ·rw[aB (by simp[hl]),aA (by simp[hl])]
   ·rw[aA (by simpa using hl),aB (by simpa using hl)]
  ·rw[aA hm,aA (by simpa using hm)]
 unfold aEN aFq at h
 rw[ed]at h
 by_cases h0:bA g=true
 rotate_left
 ·rw[aA h0]at h
  rw[aB (by simpa using h0)]
  exact h
 rw[aB h0]at h
 rw[aA (by rw[h0];simp)]
 by_cases h1:((g.1.length:Int) != 2)=true
 ·rw[aB h1]at h
  rw[aB h1]
  exact h
 rw[aA h1]at h⊢
 obtain⟨n,C,eg,g1,g2,g3,g4,g5,g6,g7,g8⟩:=T6 h0 (by simp at h1;omega)
 rw[eg]at h⊢
 simp only[List.getD_cons_zero,List.getD_cons_succ,Int.toNat_natCast]at h⊢
 rw[aA (show ¬ (((0:Int) != 0)=true) by decide)]at h
 have e1:szF [1,(C:Int)]=(C:Int):=by rw[aLb (by omega) (by omega) (by omega) (by omega) (by omega),PX]
 have e2:szF [(C:Int)]=(C:Int):=aHo (by omega) (by omega)
 refine⟨by simp,by simp,F3 ?_⟩
 by_cases hf:lT (n:Int)=true
 ·have k3:gT [(C:Int)] g.2.1 (n:Int)=(([(C:Int)],(g.2.1,List.replicate C 0)),0):=by
   unfold gT
   rw[aA (by rw[hf];simp),aA (by simp;omega),e2,aA (by simp;omega),bM]
  have k4:=aFM (R:=1) (C:=(C:Int)) (n:=(n:Int)) (e:=g.2.1) (f:=fun _=>biC n C g.2.2) hf (by omega) (by omega) (by rw[e1];omega)
  rw[k4]at h
  rw[k3,aA (by simp)]
  have hn:=EX hf
  refine aOW bg (by omega) (by omega) (by omega) (by simp) (by simp) ?_
  have er:(tab C fun o=>i32.wrap (sD 1 C g.2.2 o g.2.2.length))=mR (1:Int).toNat ((C:Int)).toNat (fun _=>biC n C g.2.2):=by
   rw[bM]
   have er2:mR (1:Int).toNat C (fun _=>biC n C g.2.2)=tab C (biC n C g.2.2):=by
    show(List.range 1).flatMap _=_
    simp[qR,tab]
   rw[er2]
   refine P5 fun o ho => ?_
   rw[g6,aL0 ho]
   have:=aKW (n:=n) (C:=C) (g:=g.2.2) (o:=o) (by omega) bg
   exact tO _
  rw[er]
  exact h
 ·have hf':lT (n:Int)=false:=by simpa using hf
  have k3:gT [(C:Int)] g.2.1 (n:Int)=(Z3,3):=by
   unfold gT
   rw[aB (by rw[hf'];rfl)]
  have k4:uU 1 (C:Int) (n:Int) g.2.1 (fun _=>biC n C g.2.2)=(Z3,3):=by
   unfold uU
   rw[aB (by rw[hf'];rfl)]
  rw[k4]at h
  rw[k3,aB (by rfl)]
  exact h
def IsLen (x:Int)(k:Nat):Prop:=x<2 ^ k/\2 ^ k<=2*x+1
theorem IsLen.up {x c:Int}{j k:Nat}(hc:(2:Int) ^ j=c)(hcp:0<c)(hx:c<=x)(h:IsLen (x / c) k):IsLen x (j+k):=by
 have e:=Int.mul_ediv_add_emod x c
 have r0:=Int.emod_nonneg x (show c≠0 by omega)
 have r1:=Int.emod_lt_of_pos x hcp
 have hq:1<=x / c:=(Int.le_ediv_iff_mul_le hcp).2 (by omega)
 unfold IsLen at h⊢
 rw[Int.pow_add,hc]
 generalize x / c=q at *
 generalize x%c=r at *
 cases k with
 | zero=>rw[Int.pow_zero]at h;omega
 | succ m =>
   rw[Int.pow_succ]at h⊢
   generalize (2:Int) ^ m=P at *
   have k1:c*(q+1)<=c*(P*2):=V6 (by omega) (by omega)
   have k2:c*(P*2)<=c*(q*2):=V6 (by omega) (by omega)
   rw[Int.mul_add,KK]at k1
   rw[<- KV c q 2]at k2
   omega
theorem aMj:∀ i:Fin 256,i.1<2 ^ (qQ.data.toList.getD i.1 0).toNat/\2 ^ (qQ.data.toList.getD i.1 0).toNat<=2*i.1+1:=by decide +kernel
theorem aJb {x n:Int}(h0:0<=x)(h:x<256)(hn:0<=n)(hm:n<=56):∃ k:Nat,l31 x n=n+k/\k<=8/\IsLen x k:=by
 have ht:=aMs ⟨x.toNat,by omega⟩
 have hl:=aMj ⟨x.toNat,by omega⟩
 simp only at ht hl
 unfold l31
 rw[aLe x (by omega) (by omega)]
 generalize (qQ.data.toList.getD x.toNat 0).toNat=m at ht hl⊢
 refine⟨m,?_,ht,?_⟩
 ·rw[aC (m:Int),aC _]
 ·have e:((2 ^ m:Nat):Int)=2 ^ m:=by rw[Int.natCast_pow];rfl
  unfold IsLen
  rw[<- e]
  omega
theorem aJ4 {x n:Int}(h0:0<=x)(h:x<65536)(hn:0<=n)(hm:n<=48):∃ k:Nat,l15 x n=n+k/\k<=16/\IsLen x k:=by
 have e:(2:Int) ^ (min ((8:Int)).toNat (u64).bits)=256:=by decide +kernel
 unfold l15
 rw[e]
 split
 ·rw[aC _,aAR _ (by omega)]
  obtain⟨k,h1,h2,h3⟩:=aJb (x:=x / 256) (n:=n+8) (by omega) (by omega) (by omega) (by omega)
  exact⟨8+k,by rw[h1];omega,by omega,h3.up (c:=256) (by decide) (by omega) (by omega)⟩
 ·obtain⟨k,h1,h2,h3⟩:=aJb (x:=x) (n:=n) (by omega) (by omega) (by omega) (by omega)
  exact⟨k,h1,by omega,h3⟩
theorem aMC {x n:Int}(h0:0<=x)(h:x<4294967296)(hn:0<=n)(hm:n<=32):∃ k:Nat,l7 x n=n+k/\k<=32/\IsLen x k:=by
 have e:(2:Int) ^ (min ((16:Int)).toNat (u64).bits)=65536:=by decide +kernel
 unfold l7
 rw[e]
 split
 ·rw[aC _,aAR _ (by omega)]
  obtain⟨k,h1,h2,h3⟩:=aJ4 (x:=x / 65536) (n:=n+16) (by omega) (by omega) (by omega) (by omega)
  exact⟨16+k,by rw[h1];omega,by omega,h3.up (c:=65536) (by decide) (by omega) (by omega)⟩
 ·obtain⟨k,h1,h2,h3⟩:=aJ4 (x:=x) (n:=n) (by omega) (by omega) (by omega) (by omega)
  exact⟨k,h1,by omega,h3⟩
theorem aLC {x:Int}(h0:0<=x)(h:x<=4611686018427387904):∃ k:Nat,aK3 x=k/\k<=64/\IsLen x k:=by
 have e:(2:Int) ^ (min ((32:Int)).toNat (u64).bits)=4294967296:=by decide +kernel
 unfold aK3
 rw[e]
 split
 ·rw[aAR _ (by omega)]
  obtain⟨k,h1,h2,h3⟩:=aMC (x:=x / 4294967296) (n:=32) (by omega) (by omega) (by omega) (by omega)
  exact⟨32+k,by rw[h1];omega,by omega,h3.up (c:=4294967296) (by decide) (by omega) (by omega)⟩
 ·obtain⟨k,h1,h2,h3⟩:=aMC (x:=x) (n:=0) (by omega) (by omega) (by omega) (by omega)
  exact⟨k,by rw[h1];omega,by omega,h3⟩
theorem aFr {a s:Int}{Q:Int×Int->Prop}(h:Q (vC a,shF s)):mS a s Q:=by
 have hr:=UT s
 refine⟨⟨⟨?_⟩⟩⟩
 show Q (vC a,u64.wrap (shF s))
 rw[p7 _]
 exact h
theorem aLU {a:Int}{Q:Int->Prop}(h:Q (aKg a)):wV a Q:=by
 refine⟨?_⟩
 refine aFr ?_
 show sN (fun y=>Q y) (0,aQ (vC a) (i64.wrap (0-vC a)))
 have hv:=aAv a
 unfold aKg at h
 rw[aC (0-vC a)]at h⊢
 have hg:0<=aQ (vC a) (0-vC a)/\aQ (vC a) (0-vC a)<=4611686018427387904:=by
  unfold aQ;split <;> omega
 generalize aQ (vC a) (0-vC a)=g at hg h⊢
 rw[p7 g]at h
 obtain⟨k,e1,e2,e3,e4⟩:=aLC hg.1 hg.2
 rw[e1]at h
 refine⟨?_⟩
 have eg:((0:Int),g)=(fun i:Nat=>((i:Int),g / 2 ^ i)) 0:=by simp
 rw[eg]
 refine Loop.range (B:=lO _) (f:=fun i:Nat=>((i:Int),g / 2 ^ i)) k (fun _=>True) trivial ?_ ?_
 ·intro i hi _ X hX
  have hX:=hX trivial
  unfold lO
  have p1:=TJ (i+1) k hi
  have p2:=(TJ i i (aR _)).1
  have hpos:0<g / 2 ^ i:=by
   rw[Int.pow_succ]at p1
   have:1<=g / 2 ^ i:=(Int.le_ediv_iff_mul_le (by omega)).2 (by omega)
   omega
  rw[aB (aG (show 0<g / 2 ^ i from hpos))]
  refine⟨by omega,?_⟩
  have e:(2:Int) ^ (min ((1:Int)).toNat (i64).bits)=2:=by decide +kernel
  have e5:g / 2 ^ (i+1)=(g / 2 ^ i).fdiv 2:=by
   rw[aAR _ (by omega),Int.pow_succ,Int.ediv_ediv,aA (by omega),Int.sub_zero]
  simp only[e]
  rw[aC ((i:Int)+1),<- e5]
  exact hX
 ·intro _ X
  unfold lO
  have:g / 2 ^ k=0:=Int.ediv_eq_zero_of_lt hg.1 e3
  simp only[this]
  rw[aA (by simp)]
  exact h
theorem aAf {a:Int}{P P':Int->Prop}(h:IV a P)(k:∀ r,P r->P' r):gH a P':=⟨⟨h.it.1,h.it.2.1,h.it.2.2.1,k _ h.it.2.2.2⟩⟩
theorem aNw {a b c:Int}{Q:Int->Prop}(h:Q (atF a b c)):qF a b c Q:=⟨aAf (aO2 h).it fun r1 h1=>aAf h1 fun r2 h2=>aAf h2 fun r3 h3=>h3⟩
theorem aIK {a s r:Int}{Q:Int->Prop}(h:Q (chF a s r)):tK a s r Q:=⟨aFr ⟨(UT s).1,(UT s).1,h⟩⟩
theorem aNt:∀ i:Fin 32,0<=i64.wrap ((i64.wrap (1*2 ^ (min (i64.wrap (((i.1:Int)+1)-1)).toNat (i64).bits)))-1)/\i64.wrap ((i64.wrap (1*2 ^ (min (i64.wrap (((i.1:Int)+1)-1)).toNat (i64).bits)))-1)<=2147483647:=by decide +kernel
theorem aJf (b:Int):0<=aCG b/\aCG b<=2147483647:=by
 have hr:=aDk b
 have:=aNt ⟨(b32 b-1).toNat,by omega⟩
 simp only at this
 rw[show(((b32 b-1).toNat:Nat):Int)+1=b32 b by omega]at this
 exact this
theorem aJ3 {a b:Int}{Q:Int->Prop}(h:Q (clF a b)):vH a b Q:=by
 have hr:=aDk b
 have ht:=aJf b
 refine⟨⟨?_⟩⟩
 have ew:u64.wrap (i64.wrap (b32 b-1))=i64.wrap (b32 b-1):=by
  rw[aC _,p7 _]
 show ck (0<=u64.wrap (i64.wrap (b32 b-1))) (cI a (i64.wrap (0-i64.wrap ((i64.wrap (1*2 ^ (min (u64.wrap (i64.wrap (b32 b-1))).toNat (i64).bits)))-1))) (i64.wrap ((i64.wrap (1*2 ^ (min (u64.wrap (i64.wrap (b32 b-1))).toNat (i64).bits)))-1)) (fun r=>Q r))
 rw[ew]
 refine⟨by rw[aC _];omega,⟨?_⟩⟩
 show Q (aQ (i64.wrap (0-aCG b)) (aU a (aCG b)))
 have e:clF a b=aQ (i64.wrap (0-aCG b)) (aU a (aCG b)):=by
  unfold clF
  rw[aC (0-aCG b)]
  unfold vC aQ aU
  generalize aCG b=t at ht
  split <;> split <;> split <;> split <;> (try split) <;> omega
 rw[<- e]
 exact h
theorem aCf {a:T3}{Q:Bool->Prop}(h:Q (lM a)):oQ a Q:=by
 refine⟨?_⟩
 refine nI ?_
 refine zT (b:=decide (0<szF a.1)) (c:=((a.2.2.length:Int)==szF a.1)) (fun _ P hp=>zH hp) (fun v e => ?_) rfl
 have:lM a=((v&&decide (-128<=a.2.1))&&decide (a.2.1<=128)):=by
  unfold lM YE
  rw[e,aC (0-128),Bool.and_assoc _ (decide (-128<=a.2.1))]
  rfl
 rw[<- this]
 exact h
theorem aJe {a:T3}{Q:Int->Prop}(h:Q (aBI a)):u6 a Q:=by
 refine⟨?_⟩
 refine aCf (a:=a) ?_
 unfold aBI at h
 cases hm:lM a with
 | false =>
   rw[hm]at h
   exact h
 | true =>
   rw[hm,aB rfl]at h
   rw[aA (by simp)]
   obtain⟨_,_,_,_,hlen⟩:=BB hm
   refine⟨?_⟩
   refine Loop.range (B:=kG a.2.2 (a.2.2.length:Int) fun y=>Q y) a.2.2.length (fun i=>(aC4 (a.2.2.take i),(i:Int))) (fun _=>True) trivial ?_ ?_
   ·intro i hi _ X hX
    unfold kG
    rw[aB (aG (show(i:Int)<(a.2.2.length:Int) by omega))]
    refine⟨by simp only[];omega,aLU ?_⟩
    have:=hX trivial
    rw[ZH _ _ hi]at this
    simp only[Int.toNat_natCast]
    rw[aC ((i:Int)+1)]
    exact this
   ·intro _ X
    unfold kG
    rw[aA (by simp)]
    simp only[sS]
    exact h
theorem aAX {a:T3}{b s t:Int}{Q:T3×Int->Prop}(h:Q (sQ a b s t)):cB a b s t Q:=by
 refine⟨?_⟩
 refine aCf (a:=a) ?_
 unfold sQ at h
 by_cases e:((!(lM a)||(decide (b<2)))||(decide (8<b)))=true
 ·rw[aB e]at h⊢;exact h
 ·rw[aA e]at h⊢
  have hm:lM a=true:=by
   cases hm:lM a with
   | true=>rfl
   | false=>exfalso;apply e;rw[hm];rfl
  obtain⟨_,_,h3,h4,hlen⟩:=BB hm
  refine aJe (a:=a) ⟨by omega,?_⟩
  show(if (decide (i64.wrap (a.2.1+xB a b) < -64)||decide (64<i64.wrap (a.2.1+xB a b)))=true then _ else _)
  rw[aKe,Bool.not_not]at h
  by_cases e2:(decide (i64.wrap (a.2.1+xB a b) < -64)||decide (64<i64.wrap (a.2.1+xB a b)))=true
  ·rw[aB e2]at h⊢;exact h
  ·rw[aA e2]at h⊢
   refine⟨?_⟩
   refine Loop.range (B:=kU b s t (xB a b) a.2.2 (a.2.2.length:Int) _) (f:=fun i:Nat=>((i:Int),(List.range i).map (WV b s t (xB a b) a.2.2))) a.2.2.length (fun _=>True) trivial ?_ ?_
   ·intro i hi _ X hX
    unfold kU
    rw[aB (aG (show(i:Int)<(a.2.2.length:Int) by omega))]
    refine⟨by simp only[];omega,aNw (aIK (aJ3 ⟨?_,?_⟩))⟩
    ·simp only[B8,S4,List.length_singleton]
     omega
    ·have:=hX trivial
     simp only[qR,yZ,List.map_cons,List.map_nil]at this
     simp only[Int.toNat_natCast]
     rw[aC ((i:Int)+1)]
     exact this
   ·intro _ X
    unfold kU
    rw[aA (by simp)]
    exact h
end Go.Proofs.YtcfpfefadlnmcaaGreat

namespace Go.Proofs.YtcfpfefadlnmcaaGreat
open IntKind (i8 i16 i32 i64 u8 u16 u32 u64)
open Go.Mach
set_option maxRecDepth 100000
set_option linter.unusedVariables false
set_option linter.unusedSimpArgs false
theorem aJE {l:List Int}{K0 K1:Unit->Prop}(hl:l.length<=10000000000000)(h:if l.any sK=true then K1 ()else K0 ()):nO l (l.length:Int) K0 K1 0:=by
 refine⟨?_⟩
 refine Loop.range (B:=gO l (l.length:Int) K0 K1) l.length (fun i=>(i:Int)) (fun i=>∀ j,j<i->sK (l.getD j 0)=false) (fun j hj=>absurd hj (by omega)) ?_ ?_
 ·intro i hi hI X hX
  unfold gO
  rw[aB (aG (show(i:Int)<(l.length:Int) by omega))]
  refine⟨by omega,?_⟩
  rw[bM]
  show if sK (l.getD i 0)=true then _ else _
  cases hb:sK (l.getD i 0)with
  | true =>
    rw[aB rfl]
    have:l.any sK=true:=by
     rw[GL]
     refine⟨l[i],fB _,?_⟩
     rw[aW,aP hi]at hb
     exact hb
    rw[this,aB rfl]at h
    exact h
  | false =>
    rw[aA (by simp),aC _]
    refine hX fun j hj => ?_
    by_cases hji:j=i
    ·subst hji;exact hb
    ·exact hI j (by omega)
 ·intro hI X
  unfold gO
  rw[aA (by simp)]
  have:l.any sK=false:=by
   rw[OO]
   intro x hx
   obtain⟨j,hj,rfl⟩:=List.mem_iff_getElem.1 hx
   have:=hI j hj
   rw[aW,aP hj]at this
   simpa using this
  rw[this,aA (by simp)]at h
  exact h
def okW (p:Prm):Bool:=(((bA p.1&&bA p.2.2)&&((p.2.2.1.length:Int)==1))&&((p.2.1.length:Int)==(p.1.2.2.length:Int))) && !(p.2.1.any sK)
theorem aF4 {p:Prm}{Q:Bool->Prop}(h:Q (okW p)):lH p Q:=by
 refine⟨tU (by simp) ?_⟩
 rw[aDa]
 unfold okW at h
 cases h1:(bA p.1&&bA p.2.2)with
 | false =>
   rw[h1]at h
   rw[aB (by simp)]
   exact h
 | true =>
   rw[h1]at h
   by_cases h2:(p.2.2.1.length:Int)=1
   rotate_left
   ·rw[aB (by simp;omega)]
    rw[show((p.2.2.1.length:Int)==1)=false by simp;omega]at h
    exact h
   by_cases h3:(p.2.1.length:Int)=(p.1.2.2.length:Int)
   rotate_left
   ·rw[aB (by simp;omega)]
    rw[show((p.2.1.length:Int)==(p.1.2.2.length:Int))=false by simp;omega,Bool.and_false]at h
    exact h
   rw[aA (by simp[h2,h3])]
   simp only[aI]at h1
   have:=(cX h1.1).2.1
   refine aJE (by omega) ?_
   rw[h2,h3]at h
   cases hg:p.2.1.any sK with
   | true=>rw[hg]at h;rw[aB rfl];simpa using h
   | false=>rw[hg]at h;rw[aA (by simp)];simpa using h
def okX (d:List Int)(n:Int)(p:Prm):Bool:=((((bA p.1&&bA p.2.2)&&decide (p.1.1=d))&&decide (p.2.2.1=[n]))&&((p.2.1.length:Int)==(p.1.2.2.length:Int))) && !(p.2.1.any sK)
theorem aJH {d:List Int}{n:Int}{p:Prm}(h:okX d n p=true):okW p=true/\p.1.1=d/\p.2.2.1=[n]:=by
 unfold okX at h
 simp only[aI,aT]at h
 obtain⟨⟨⟨⟨⟨m1,m2⟩,e1⟩,e2⟩,e3⟩,e4⟩:=h
 refine⟨?_,e1,e2⟩
 unfold okW
 rw[m1,m2,e3,e4,e2]
 rfl
theorem aN1 {d:List Int}{n:Int}{p:Prm}(h:okW p=true)(e1:p.1.1=d)(e2:p.2.2.1=[n]):okX d n p=true:=by
 unfold okW at h
 simp only[aI]at h
 obtain⟨⟨⟨⟨m1,m2⟩,_⟩,e3⟩,e4⟩:=h
 unfold okX
 rw[m1,m2,e3,e4,aG e1,aG e2]
 rfl
theorem aMR {d:List Int}{n:Int}{p:Prm}{nx:Bool->Prop}(hT:okX d n p=true->nx false)(hF:okX d n p=false->nx true) :
 lH p (fun(r5:Bool)=>jn (fun(v6:Bool)=>jn nx (fun J10=>if v6=true then J10 true else ck (aF 0 p.2.2.1.length) (J10 ((p.2.2.1.getD 0 0) != n)))) (fun J7=>if (!r5)=true then J7 true else bB p.1.1 d (fun(r8:Bool)=>J7 (!r8)))):=by
 refine aF4 ?_
 unfold jn
 dsimp only
 cases hw:okW p with
 | false =>
   rw[aB (by rfl),aB rfl]
   refine hF ?_
   rw[VF]
   intro e
   rw[(aJH e).1]at hw
   cases hw
 | true =>
   rw[aA (by simp)]
   have h2:=hw
   unfold okW at h2
   simp only[aI,dS]at h2
   obtain⟨⟨⟨⟨m1,m2⟩,l1⟩,_⟩,_⟩:=h2
   have:=(cX m1).1
   refine C7 (by omega) ?_
   by_cases e1:p.1.1=d
   ·rw[aG e1,aA (by simp)]
    refine⟨by omega,?_⟩
    obtain⟨b,hb⟩:∃ b,p.2.2.1=[b]:=by
     match hB:p.2.2.1 with
     | [b]=>exact⟨b,rfl⟩
     | []=>rw[hB]at l1;simp at l1
     | _::_::_=>rw[hB]at l1;simp at l1;omega
    rw[hb]
    show nx (b != n)
    by_cases e2:b=n
    ·rw[show(b != n)=false by simp[e2]]
     exact hT (aN1 hw e1 (by rw[hb,e2]))
    ·rw[show(b != n)=true by simp[e2]]
     refine hF ?_
     rw[VF]
     intro e
     have:=(aJH e).2.2
     rw[hb]at this
     exact e2 (List.cons.inj this).1
   ·rw[jR e1]
    rw[aB (by rfl)]
    refine hF ?_
    rw[VF]
    intro e
    exact e1 (aJH e).2.1
theorem T9 {m:Mdl}{l:List Prm}{Q:Bool->Prop}(hl:m.2.length<=10000000000000)(h:Q (xU m l)):kL m l Q:=by
 refine⟨HX hl ?_⟩
 unfold xU at h
 by_cases h1:(aV m).2.2=0/\l.length=m.2.length
 rotate_left
 ·have e:(((aV m).2.2==0)&&((l.length:Int)==(m.2.length:Int)))=false:=by
   rw[VF]
   intro hh
   simp only[aI,dS]at hh
   exact h1 ⟨hh.1,by omega⟩
  rw[e]at h
  rw[aB]
  ·exact h
  ·simp only[cG,nZ,ne_eq]
   by_cases e1:(aV m).2.2=0
   ·right;intro e2;exact h1 ⟨e1,by omega⟩
   ·exact .inl e1
 have e:(((aV m).2.2==0)&&((l.length:Int)==(m.2.length:Int)))=true:=by simp[h1.1,h1.2]
 rw[e,BX]at h
 rw[aA (by simp[h1.1,h1.2])]
 obtain⟨hm,hok⟩:=t5 h1.1
 have hlen:=(lL hm).2.1
 refine⟨?_⟩
 refine Loop.range (B:=gG l (l.length:Int) m.1.1 m.1.2.1 m.1.2.2 m.2 (fun _=>Q true) (fun _=>Q false)) l.length (fun i=>(i:Int)) (fun i=>∀ j,j<i->okP (m.2.getD j bY) (BO m ((j:Int)+1)) (l.getD j f5)=true) (fun j hj=>absurd hj (by omega)) ?_ ?_
 ·intro i hi hI X hX
  unfold gG
  rw[aB (aG (show(i:Int)<(l.length:Int) by omega))]
  have hw:i64.wrap ((i:Int)+1)=(i:Int)+1:=aC _
  refine⟨by omega,?_⟩
  rw[hw]
  refine aHw (m:=m) hl ?_
  simp only[Int.toNat_natCast]
  have good:okP (m.2.getD i bY) (BO m ((i:Int)+1)) (l.getD i f5)=true->X ((i:Int)+1):=fun hk=>hX fun j hj=>by
   by_cases hji:j=i
   ·subst hji;exact hk
   ·exact hI j (by omega)
  have bad:okP (m.2.getD i bY) (BO m ((i:Int)+1)) (l.getD i f5)=false->Q false:=fun hk=>by
   have:U0 m l=false:=by
    unfold U0
    rw[VY]
    exact⟨i,List.mem_range.2 hi,by rw[hk];simp⟩
   rw[this]at h
   exact h
  unfold okP at good bad
  generalize hD:BO m ((i:Int)+1)=D at good bad
  by_cases hd:D.1=[]
  ·rw[aB hd]at good bad
   rw[aB (by simp[hd])]
   refine⟨by omega,⟨?_⟩⟩
   show if (((!XE (l.getD i f5))||((m.2.getD i bY).1==1))||((m.2.getD i bY).1==2))=true then Q false else _
   cases hz:((XE (l.getD i f5) && !((m.2.getD i bY).1==1)) && !((m.2.getD i bY).1==2))with
   | true =>
     rw[aA (by
      revert hz
      cases XE (l.getD i f5) <;> cases ((m.2.getD i bY).1==1) <;> cases ((m.2.getD i bY).1==2) <;> simp)]
     refine⟨?_⟩
     rw[hw]
     exact good hz
   | false =>
     rw[aB (by
      revert hz
      cases XE (l.getD i f5) <;> cases ((m.2.getD i bY).1==1) <;> cases ((m.2.getD i bY).1==2) <;> simp)]
     exact bad hz
  ·rw[aA hd]at good bad
   rw[aA (by
    have:=List.length_pos_iff.2 hd
    simp;omega)]
   refine aMR (nx:=fun v9=>if v9=true then Q false else iO (i:Int) (fun y11=>X y11)) (fun hk => ?_) (fun hk => ?_)
   ·show if false=true then _ else _
    rw[aA (by simp)]
    refine⟨?_⟩
    rw[hw]
    exact good hk
   ·show if true=true then _ else _
    rw[aB rfl]
    exact bad hk
 ·intro hI X
  unfold gG
  rw[aA (by simp)]
  have:U0 m l=true:=by
   unfold U0
   rw[jG]
   intro j hj
   exact hI j (List.mem_range.1 hj)
  rw[this]at h
  exact h
theorem aDM {n:Int}{Q:Bool->Prop}(h:Q (inP n 0 1000000)):iV n Q:=⟨h⟩
theorem aH0 {a b c:Int}{Q:Int->Prop}(h:Q (WO a b c)):bJ a b c Q:=by
 refine⟨aDM ?_⟩
 unfold WO at h
 by_cases h1:((inP a 0 1000000&&inP b 0 12)&&inP c 0 15)=true
 ·rw[aB h1]at h
  have h2:=h1
  unfold inP at h2
  simp only[aI,aT]at h2
  obtain⟨⟨ha,hb⟩,hc⟩:=h2
  simp only[aI]at h1
  rw[h1.1.1,aA (by simp;omega)]
  rw[p7 a,p7 b,p7 c,p7 (a*1024),p7 (b*16),p7 (a*1024+b*16),p7 _]
  exact h
 ·rw[aA h1]at h
  rw[aB]
  ·exact h
  ·unfold inP at h1⊢
   simp only[aI,aT,not_and]at h1
   simp only[cG,nJ,JH,eZ,aT]
   by_cases g1:0<=a
   ·by_cases g2:a<=1000000
    ·by_cases g3:0<=b
     ·by_cases g4:b<=12
      ·by_cases g5:0<=c
       ·right;have:=h1 ⟨⟨g1,g2⟩,g3,g4⟩ g5;omega
       ·left;right;omega
      ·left;left;right;omega
     ·left;left;left;right;omega
    ·left;left;left;left;right;exact g2
   ·left;left;left;left;left;exact g1
def aIw (d:List Int)(e:Int):T3×Int :=
 if (decide (e < -128)||decide (128<e))=true then(Z3,3)else if (!decide (0<szF d))=true then(Z3,1)else((d,(e,List.replicate (szF d).toNat 0)),0)
theorem aDS {d:List Int}{e:Int}{Q:T3×Int->Prop}(h:Q (aIw d e)):gX d e Q:=by
 refine⟨?_⟩
 unfold aIw at h
 by_cases h2:(decide (e < -128)||decide (128<e))=true
 ·rw[aB h2]at h⊢;exact h
 ·rw[aA h2]at h⊢
  refine nI ?_
  by_cases h3:(!decide (0<szF d))=true
  ·rw[aB h3]at h⊢;exact h
  ·rw[aA h3]at h⊢
   have:=G0 d
   have:=AR d
   refine zH ⟨⟨by omega,by omega⟩,h⟩
theorem YY {d:List Int}{e:Int}(h2 : -128<=e/\e<=128)(h3:0<szF d):aIw d e=((d,(e,List.replicate (szF d).toNat 0)),0):=by
 unfold aIw
 rw[aA (by simp;omega),aA (by simp[h3])]
theorem aJN {n i:Nat}{f:Nat->Int}(hi:i<=n):(tab i f++List.replicate (n-i) 0).length=n:=by
 simp[tab];omega
theorem aJk {a b:T3}(ha:bA a=true)(hb:bA b=true) : -128<=aBb a b/\aBb a b<=128:=by
 obtain⟨_,_,e1,_⟩:=mT.1 ha
 obtain⟨_,_,e2,_⟩:=mT.1 hb
 have h1:∀ p q:Int,-128<=p->p<=128 -> -128<=q->q<=128 -> -128<=aQ p q/\aQ p q<=128:=by
  intro p q _ _ _ _;unfold aQ;split <;> omega
 have h2 : -64<=aQ a.2.1 b.2.1/\aQ a.2.1 b.2.1<=64:=by unfold aQ;split <;> omega
 have h3 : -64<=aU a.2.1 b.2.1/\aU a.2.1 b.2.1<=64:=by unfold aU;split <;> omega
 unfold aBb
 rw[aC _]
 exact h1 _ _ (by omega) (by omega) (by omega) (by omega)
theorem aLo {a b:T3}{n:Nat}{K0:List Int->Prop}(hn:n<=8192)(h1:a.2.2.length=n)(h2:b.2.2.length=n)(h:K0 (tab n (qG a b))):sP (aBb a b) (n:Int) a.2.1 a.2.2 b.2.1 b.2.2 K0 (0,List.replicate n 0):=by
 refine⟨?_⟩
 have e0:((0:Int),List.replicate n (0:Int))=(fun i:Nat=>((i:Int),tab i (qG a b)++List.replicate (n-i) 0)) 0:=by simp[tab]
 rw[e0]
 refine Loop.range (B:=lV (aBb a b) (n:Int) a.2.1 a.2.2 b.2.1 b.2.2 K0) n (fun i:Nat=>((i:Int),tab i (qG a b)++List.replicate (n-i) 0)) (fun _=>True) trivial ?_ ?_
 ·intro i hi _ X hX
  have hX:=hX trivial
  unfold lV
  rw[aB (aG (show(i:Int)<(n:Int) by omega))]
  dsimp only at hX⊢
  refine⟨by omega,?_⟩
  rw[bM]
  refine aIE ⟨by omega,aIE ⟨by rw[aJN (by omega)];omega,?_⟩⟩
  rw[aC ((i:Int)+1)]
  rw[<- aFN hi]at hX
  exact hX
 ·intro _ X
  unfold lV
  rw[aA (by simp)]
  simpa using h
theorem aJG {a b:T3}{Q:T3×Int->Prop}(h:Q (addF a b)):j0 a b Q:=by
 refine⟨tU (by simp) ?_⟩
 unfold addF at h
 rw[aDa]
 by_cases hm:bA a=true/\bA b=true
 ·rw[aB hm]at h
  obtain⟨hm,hn⟩:=hm
  rw[hm,hn,aA (by simp)]
  obtain⟨h1,h2,_⟩:=cX hm
  obtain⟨k1,k2,_⟩:=cX hn
  obtain⟨q0,q1,_⟩:=mT.1 hm
  have q2:=(mT.1 hn).2.1
  refine C7 (by omega) ?_
  by_cases he:a.1=b.1
  ·rw[aB he]at h
   rw[aG he,aA (by simp)]
   rw[<- he]at q2
   have hr:=aJk hm hn
   refine⟨by omega,aDS ?_⟩
   have hE:aQ (aU a.2.1 b.2.1) (i64.wrap (aQ a.2.1 b.2.1-12))=aBb a b:=rfl
   rw[hE,YY hr q0]
   dsimp only
   rw[pY]
   refine aLo (by omega) (by omega) (by omega) ?_
   have e:tab (szF a.1).toNat (qG a b)=(List.range a.2.2.length).map (qG a b):=by
    unfold tab
    rw[show(szF a.1).toNat=a.2.2.length by omega]
   rw[e]
   exact h
  ·rw[aA he]at h
   rw[jR he,aB (by rfl)]
   exact h
 ·rw[aA hm]at h
  have e:(bA a&&bA b)=false:=by
   rw[VF];intro e;simp only[aI]at e;exact hm e
  rw[e,aB (by rfl)]
  exact h
def FX (d:List Int)(k s:Int):List Int×Bool :=
 if ((d.length:Int) != 4)=true then([],false)else([d.getD 0 0,d.getD 1 0,bL (d.getD 2 0) k s 0,bL (d.getD 3 0) k s 0],decide (0<bL (d.getD 2 0) k s 0)&&decide (0<bL (d.getD 3 0) k s 0))
theorem U2 {d:List Int}{k s:Int}{Q:List Int×Bool->Prop}(h:Q (FX d k s)):jX d k s Q:=by
 refine⟨?_⟩
 unfold FX at h
 by_cases h1:((d.length:Int) != 4)=true
 ·rw[aB h1]at h⊢;exact h
 ·rw[aA h1]at h⊢
  have:d.length=4:=by simp at h1;omega
  refine⟨by omega,by omega,EL ⟨by omega,by omega,h⟩⟩
theorem aHk {k:Int}{Q:Int->Prop}(hk:1<=k/\k<=5)(h:Q (aAD k)):pP k Q:=by
 rcases(by omega:k=1\/k=2\/k=3\/k=4\/k=5)with e|e|e|e|e <;> subst e
 ·exact⟨by decide,h⟩
 ·exact⟨by decide,h⟩
 ·exact⟨by decide,h⟩
 ·exact⟨by decide,h⟩
 ·exact⟨by decide,h⟩
section
variable {N H V P Q:Nat} {k s:Int} {X:List Int}
theorem PoolIn.small (g:PoolIn N H V P Q k s X):P<=H/\Q<=V:=by
 have p1:=g.p1
 have q1:=g.q1
 have hs:=g.hs
 have hk:=g.hk
 have a:=QB (r:=(P:Int)-1) g.hP p1 ⟨by omega,by omega⟩
 have b:=QB (r:=(Q:Int)-1) g.hQ q1 ⟨by omega,by omega⟩
 have a1:(P:Int)-1<=s*((P:Int)-1):=by
  have:=OW hs.1 (show 0<=(P:Int)-1 by omega)
  omega
 have b1:(Q:Int)-1<=s*((Q:Int)-1):=by
  have:=OW hs.1 (show 0<=(Q:Int)-1 by omega)
  omega
 omega
theorem aKw {n m i p q:Nat}(hp:p<P)(hq:q<Q):ix4 m P Q n i p q=(n*m+i)*(P*Q)+(p*Q+q):=by
 unfold ix4
 rw[fK,cS ((n*m+i)) P Q,zC]
end
theorem aES {n m H V P Q:Nat}{k s:Int}{X:List Int}(g:PoolIn (n*m) H V P Q k s X)(hn:1<=n/\n<=4096)(hm:1<=m/\m<=4096){t:Nat}(ht:t<n*m*(P*Q)) :
 ∃ a i p q:Nat,a<n/\i<m/\p<P/\q<Q/\(∀ Q':List Int->Prop,Q' [(a:Int),i,p,q]->dE [(n:Int),m,P,Q] (t:Int) Q') /\
   i64.wrap (i64.wrap (i64.wrap (i64.wrap ((a:Int)*m)+(i:Int))*H)*V)=(((a*m+i)*H*V:Nat):Int) /\
   (gF H V p q k s 0).length<=1000000/\gF H V p q k s 0≠[]/\(∀ z∈gF H V p q k s 0,0<=z.1/\(((a*m+i)*H*V:Nat):Int)+z.1<(X.length:Int)) /\
   CZ H V k s P Q t=(gF H V p q k s 0).map fun z=>(((a*m+i)*H*V:Nat):Int)+z.1:=by
 obtain⟨l1,l2,l3⟩:=g.le
 obtain⟨s1,s2⟩:=g.small
 have p1:=g.p1
 have q1:=g.q1
 have hx:=g.hx
 have bx:=g.bx
 have hPQ:P*Q<=H*V:=fE s1 s2
 have hsz:n*m*P*Q<=8192:=by
  have:=Nat.mul_le_mul_left (n*m) hPQ
  rw[cS (n*m) P Q]
  omega
 have hs:0<szF [(n:Int),m,P,Q]:=by
  rw[aIC hn hm (by omega) (by omega) hsz]
  have h1:1<=n*m:=sY hn.1 hm.1
  have h2:1<=n*m*P:=sY h1 p1
  have h3:1<=n*m*P*Q:=sY h2 q1
  omega
 have ht':t<n*m*P*Q:=by rw[cS (n*m) P Q];exact ht
 obtain⟨a,i,p,q,ha,hi,hp,hq,et⟩:=QN ht'
 have h7:=fC (r:=a) (R:=n) (n:=m) (i:=i) ha hi
 have h8:=fC (r:=p) (R:=P) (n:=Q) (i:=q) hp hq
 obtain⟨_,c3,c4,c5,c6⟩:=g.cell h7 h8
 rw[E5 hq,AP hq]at c3 c4 c5 c6
 have e9:(a*m+i)*H*V=(a*m+i)*(H*V):=cS _ _ _
 have h10:(a*m+i)*(H*V)<=n*m*(H*V):=fQ _ (by omega)
 have g1:(a*m+i)*H<=(a*m+i)*H*V:=cE _ g.hV.1
 refine⟨a,i,p,q,ha,hi,hp,hq,fun Q' hQ' => ?_,?_,by omega,c5,fun z hz => ?_,?_⟩
 ·rw[et]
  exact U3 hs ha hi hp hq hQ'
 ·rw[ix (r:=a) (n:=m) (i:=i) (by omega),CF (r:=a*m+i) (n:=H) (by omega),CF (r:=(a*m+i)*H) (n:=V) (by omega)]
 ·have:=c4 z hz
  have h11:=fC (r:=a*m+i) (R:=n*m) (n:=H*V) (i:=z.1.toNat) h7 (by omega)
  rw[hx]
  omega
 ·rw[et,aKw hp hq]
  exact c6
end Go.Proofs.YtcfpfefadlnmcaaGreat

namespace Go.Proofs.YtcfpfefadlnmcaaGreat
open IntKind (i8 i16 i32 i64 u8 u16 u32 u64)
open Go.Mach Go.RowKit
set_option maxRecDepth 100000
set_option linter.unusedVariables false
set_option linter.unusedSimpArgs false
def MV (v:Int)(L l:List Int):List Int:=l.foldl (fun L a=>L.set a.toNat (i32.wrap (L.getD a.toNat 0+v))) L
theorem QO (v:Int):∀ (l L:List Int),(MV v L l).length=L.length
 | [],L=>rfl
 | a::l,L=>by
   show(MV v (L.set _ _) l).length=_
   rw[QO v l,zE]
theorem aB8 {v:Int}{L l:List Int}{i:Nat}(hi:i<l.length):MV v L (l.take (i+1))=(MV v L (l.take i)).set (l.getD i 0).toNat (i32.wrap ((MV v L (l.take i)).getD (l.getD i 0).toNat 0+v)):=by
 rw[TK hi 0]
 unfold MV
 rw[VX]
 rfl
theorem aLg {gd L l:List Int}{t:Nat}{K0:List Int->Prop}(hl:l.length<=1000000)(hr:∀ a∈l,0<=a/\a<(L.length:Int))(ht:t<gd.length)(h:K0 (MV (i32.wrap (gd.getD t 0)) L l)) :
 dI (t:Int) (l.length:Int) gd l K0 (0,L):=by
 refine⟨?_⟩
 refine Loop.range (B:=cD (t:Int) (l.length:Int) gd l K0) l.length (fun i:Nat=>((i:Int),MV (i32.wrap (gd.getD t 0)) L (l.take i))) (fun _=>True) trivial ?_ ?_
 ·intro i hi _ X hX
  have hX:=hX trivial
  unfold cD
  rw[aB (aG (show(i:Int)<(l.length:Int) by omega))]
  dsimp only at hX⊢
  have hm:=hr (l.getD i 0) (by rw[aW,aP hi];exact fB hi)
  rw[bM,bM,QO]
  refine⟨by omega,by omega,by omega,by omega,?_⟩
  rw[aC ((i:Int)+1)]
  rw[aB8 hi]at hX
  exact hX
 ·intro _ X
  unfold cD
  rw[aA (by simp),sS]
  exact h
theorem aMW {n H V:Nat}{w:List (Int×Int×Int)}{K0:List Int->Prop}(hb:n*H*V<=100000000)(hV:1<=V)(hw:w.length<=1000000)(hz:∀ z∈w,0<=z.1/\z.1<=100000000)(h:K0 (w.map fun z=>((n*H*V:Nat):Int)+z.1)) :
 gV n (w.length:Int) H V w K0 (0,[]):=by
 refine⟨?_⟩
 have e0:((0:Int),([]:List Int))=(fun i:Nat=>((i:Int),(w.take i).map fun z=>((n*H*V:Nat):Int)+z.1)) 0:=by simp
 rw[e0]
 refine Loop.range (B:=eA n (w.length:Int) H V w K0) w.length (fun i:Nat=>((i:Int),(w.take i).map fun z=>((n*H*V:Nat):Int)+z.1)) (fun _=>True) trivial ?_ ?_
 ·intro i hi _ X hX
  have hX:=hX trivial
  unfold eA
  rw[aB (aG (show(i:Int)<(w.length:Int) by omega))]
  dsimp only at hX⊢
  have hm:=hz (w.getD i (0,0,0)) (by rw[aW,aP hi];exact fB hi)
  refine⟨by omega,?_⟩
  rw[bM]
  rcases aCm hb hm with e|e
  ·rw[e,aC ((i:Int)+1)]
   refine⟨by simp;omega,?_⟩
   rw[TK hi (0,0,0),yZ]at hX
   exact hX
  ·omega
 ·intro _ X
  unfold eA
  rw[aA (by simp),sS]
  exact h
def bkF (gd:List Int)(cell:Nat->List Int)(L:List Int)(t:Nat):List Int:=(List.range t).foldl (fun L t=>MV (i32.wrap (gd.getD t 0)) L (cell t)) L
theorem aAP (gd:List Int)(cell:Nat->List Int)(L:List Int)(t:Nat):bkF gd cell L (t+1)=MV (i32.wrap (gd.getD t 0)) (bkF gd cell L t) (cell t):=by
 unfold bkF
 rw[qR,VX]
 rfl
theorem YR (gd:List Int)(cell:Nat->List Int)(L:List Int):∀ t,(bkF gd cell L t).length=L.length
 | 0=>rfl
 | t+1=>by rw[aAP,QO,YR gd cell L t]
section
variable {N H V P Q:Nat} {k s:Int} {X gd:List Int}
theorem aMa (g:PoolIn N H V P Q k s X)(hg:gd.length=N*(P*Q)){n:Nat}(hn:n<N){K0:List Int->Prop}(h:K0 (bkF gd (CZ H V k s P Q) X (n*(P*Q)+P*Q))) :
 gZ n ((P*Q:Nat):Int) gd H V k s P Q K0 (0,bkF gd (CZ H V k s P Q) X (n*(P*Q))):=by
 obtain⟨l1,l2,l3⟩:=g.le
 have q1:=g.q1
 have hPQ:P*Q<=25*25:=fE l1 l2
 have hNN:n*(P*Q)<=8192*(25*25):=fE (by omega) hPQ
 have hN1:n*(P*Q)+P*Q<=N*(P*Q):=by
  have:=fQ (P*Q) hn
  rw[Nat.succ_mul]at this
  exact this
 have hx:=g.hx
 have bx:=g.bx
 refine⟨?_⟩
 have e0:((0:Int),bkF gd (CZ H V k s P Q) X (n*(P*Q)))=(fun i:Nat=>((i:Int),bkF gd (CZ H V k s P Q) X (n*(P*Q)+i))) 0:=rfl
 rw[e0]
 refine Loop.range (B:=eB n ((P*Q:Nat):Int) gd H V k s P Q K0) (P*Q) (fun i:Nat=>((i:Int),bkF gd (CZ H V k s P Q) X (n*(P*Q)+i))) (fun _=>True) trivial ?_ ?_
 ·intro i hi _ Y hY
  have hY:=hY trivial
  obtain⟨⟨c1,c2⟩,c3,c4,c5,c6⟩:=g.cell hn hi
  have c7:=g.addr hn hi
  unfold eB
  rw[aB (aG (show(i:Int)<((P*Q:Nat):Int) by omega))]
  dsimp only at hY⊢
  refine⟨by omega,by omega,?_⟩
  have e1:i64.wrap ((i:Int).tdiv (Q:Int))=((i / Q:Nat):Int):=by
   rw[<- Int.ofNat_tdiv];exact aC _ (by have:=Int.natCast_nonneg (i / Q);generalize i / Q=y at *;omega) (by have:=Nat.div_le_self i Q;generalize i / Q=y at *;omega)
  have e2:(i:Int).tmod (Q:Int)=((i%Q:Nat):Int):=(Int.ofNat_tmod _ _).symm
  rw[e1,e2]
  refine aFZ ?_
  have hb:n*H*V<=100000000:=by
   have h7:n*H*V=n*(H*V):=cS _ _ _
   have:=fQ (H*V) (tN hn)
   omega
  refine aMW hb g.hV.1 (by omega) (fun z hz=>by
   have:=c4 z hz
   have h8:H*V<=16*16:=fE g.hH.2 g.hV.2
   omega) ?_
  rw[<- c6]
  have hlen:(CZ H V k s P Q (n*(P*Q)+i)).length<=25:=by rw[c6];simpa using c3
  have e3:i64.wrap (i64.wrap (i64.wrap ((n:Int)*(P:Int))*(Q:Int))+(i:Int))=((n*(P*Q)+i:Nat):Int):=by
   rcases aCm (n:=n) (H:=P) (V:=Q) (a:=(i:Int)) (by rw[cS];omega) (by omega)with e|e
   ·rw[e,cS];rfl
   ·omega
  rw[e3]
  refine aLg (by omega) (by rw[YR];exact c7) (by omega) ?_
  rw[aC ((i:Int)+1)]
  rw[show n*(P*Q)+(i+1)=n*(P*Q)+i+1 by omega,aAP]at hY
  exact hY
 ·intro _ Y
  unfold eB
  rw[aA (by simp)]
  exact h
theorem aKm (g:PoolIn N H V P Q k s X)(hg:gd.length=N*(P*Q)){K0:List Int->Prop}(h:K0 (bkF gd (CZ H V k s P Q) X (N*(P*Q)))):g9 (N:Int) gd H V k s P Q K0 (0,X):=by
 obtain⟨l1,l2,l3⟩:=g.le
 refine⟨?_⟩
 have e0:((0:Int),X)=(fun n:Nat=>((n:Int),bkF gd (CZ H V k s P Q) X (n*(P*Q)))) 0:=by simp[bkF]
 rw[e0]
 refine Loop.range (B:=d9 (N:Int) gd H V k s P Q K0) N (fun n:Nat=>((n:Int),bkF gd (CZ H V k s P Q) X (n*(P*Q)))) (fun _=>True) trivial ?_ ?_
 ·intro n hn _ Y hY
  have hY:=hY trivial
  unfold d9
  rw[aB (aG (show(n:Int)<(N:Int) by omega))]
  dsimp only at hY⊢
  have hPQ:P*Q<=25*25:=fE l1 l2
  rw[CF (r:=P) (n:=Q) (by omega)]
  refine aMa g hg hn ?_
  rw[aC ((n:Int)+1)]
  rw[fK,kO]at hY
  exact hY
 ·intro _ Y
  unfold d9
  rw[aA (by simp)]
  exact h
end
def abD (d:List Int)(k s:Int):List Int:=[d.getD 0 0,d.getD 1 0,bL (d.getD 2 0) k s 0,bL (d.getD 3 0) k s 0]
def abE (g:T3)(d:List Int)(k s:Int):Int :=
 if bA g=true/\0<szF d then(if (d.length=4/\0<bL (d.getD 2 0) k s 0/\0<bL (d.getD 3 0) k s 0)/\g.1=abD d k s then 0 else 2)else 1
def aG4 (g:T3)(d:List Int)(k s:Int):List Int :=
 bkF g.2.2 (CZ (d.getD 2 0).toNat (d.getD 3 0).toNat k s (bL (d.getD 2 0) k s 0).toNat (bL (d.getD 3 0) k s 0).toNat) (List.replicate (szF d).toNat 0) ((d.getD 0 0*d.getD 1 0).toNat*((bL (d.getD 2 0) k s 0).toNat*(bL (d.getD 3 0) k s 0).toNat))
def I4 (g:T3)(d:List Int)(k s:Int):T3×Int :=
 if (abE g d k s != 0)=true then(Z3,abE g d k s)else((d,(i64.wrap (g.2.1-aAD k),aG4 g d k s)),0)
theorem aIp {g:T3}{d:List Int}{k s:Int}{Q:T3×Int->Prop}(h:Q (I4 g d k s)):LO g d k s Q:=by
 refine⟨vR ?_⟩
 unfold jn
 dsimp only
 unfold I4 at h
 cases hm:bA g with
 | false =>
   have e:abE g d k s=1:=by unfold abE;rw[aA (by rw[hm];simp)]
   rw[e]at h
   exact h
 | true =>
   rw[aA (by simp)]
   refine PJ ?_
   by_cases hs:0<szF d
   rotate_left
   ·have e:abE g d k s=1:=by unfold abE;rw[aA (fun hh=>hs hh.2)]
    rw[e]at h
    rw[jR hs,aB (by rfl)]
    exact h
   rw[aG hs,aA (by simp)]
   refine aLS (fun hl => ?_) (fun hl => ?_)
   ·have e:abE g d k s=2:=by unfold abE;rw[aB ⟨hm,hs⟩,aA (by rintro⟨⟨h1,_⟩,_⟩;simp[h1]at hl)]
    rw[e]at h
    exact h
   have hl4:d.length=4:=by
    have:(d.length:Int)=4:=by simpa using hl
    omega
   cases hpq:(decide (0<bL (d.getD 2 0) k s 0)&&decide (0<bL (d.getD 3 0) k s 0))with
   | false =>
     have e:abE g d k s=2:=by
      unfold abE
      rw[aB ⟨hm,hs⟩,aA]
      rintro⟨⟨_,h1,h2⟩,_⟩
      rw[aG h1,aG h2]at hpq
      cases hpq
     rw[e]at h
     exact h
   | true =>
     rw[aA (by simp)]
     have hpq':=hpq
     simp only[aI,aT]at hpq'
     refine⟨by omega,by omega,O1 (by have:=(cX hm).1;omega) ?_⟩
     by_cases hd:g.1=abD d k s
     rotate_left
     ·have e:abE g d k s=2:=by unfold abE;rw[aB ⟨hm,hs⟩,aA (fun hh=>hd hh.2)]
      rw[e]at h
      rw[show decide (g.1=[d.getD 0 0,d.getD 1 0,bL (d.getD 2 0) k s 0,bL (d.getD 3 0) k s 0])=false from jR hd,aB (by rfl)]
      exact h
     have e:abE g d k s=0:=by unfold abE;rw[aB ⟨hm,hs⟩,aB ⟨⟨hl4,hpq'⟩,hd⟩]
     rw[e,aA (by simp)]at h
     rw[show decide (g.1=[d.getD 0 0,d.getD 1 0,bL (d.getD 2 0) k s 0,bL (d.getD 3 0) k s 0])=true from aG hd,aA (by simp)]
     refine DH (by omega) ⟨by decide,O5 ⟨by have:=(pM hs).2.2.2;have:=(pM hs).2.2.1;omega,by omega,by omega,?_⟩⟩
     obtain⟨a,b,c,dd,ed⟩:=aMc (l:=d) (by omega)
     subst ed
     obtain⟨n,m,H,V,rfl,rfl,rfl,rfl,n1,m1,H1,V1,hb,hsz⟩:=aBo hs
     unfold aG4 at h
     simp only[List.getD_cons_succ,List.getD_cons_zero,abD]at h hd hpq'⊢
     obtain⟨P,eP,_⟩:=pR (n:=(H:Int)) (k:=k) (s:=s) (p:=0)
     obtain⟨R,eQ,_⟩:=pR (n:=(V:Int)) (k:=k) (s:=s) (p:=0)
     obtain⟨a1,a2,a3,_⟩:=mJ hpq'.1
     obtain⟨b1,_⟩:=mJ hpq'.2
     rw[eP,eQ]at h hd hpq'⊢
     have en:((n:Int)*(m:Int)).toNat=n*m:=by rw[<- lA];exact bM _
     rw[en,hsz]at h
     simp only[Int.toNat_natCast]at h
     have hnm:n*m<=n*m*H*V:=by rw[cS (n*m)];exact cE _ (sY H1 V1)
     rw[CF (r:=n) (n:=m) (by omega),hsz,bM]
     obtain⟨_,_,_,_,e4,_,_,_,_,_,hgl,_,_⟩:=SC hm (by rw[hd];rfl)
     rw[hd]at e4
     simp only[List.cons.injEq,Int.natCast_inj,and_true]at e4
     obtain⟨rfl,rfl,rfl,rfl⟩:=e4
     exact aKm (N:=n*m) ⟨by rw[pY,cS (n*m)],by rw[<- cS];exact hb,by omega,by omega,a2,a3,eP,eQ,by omega,by omega⟩ (by rw[hgl,cS (n*m)]) h
def aF7 (gd fr:List Int)(L:List Int)(t:Nat):List Int:=(List.range t).foldl (fun L t=>L.set (fr.getD t 0).toNat (i32.wrap (L.getD (fr.getD t 0).toNat 0+i32.wrap (gd.getD t 0)))) L
theorem WI (gd fr L:List Int)(t:Nat):aF7 gd fr L (t+1)=(aF7 gd fr L t).set (fr.getD t 0).toNat (i32.wrap ((aF7 gd fr L t).getD (fr.getD t 0).toNat 0+i32.wrap (gd.getD t 0))):=by
 unfold aF7
 rw[qR,VX]
 rfl
theorem aAZ (gd fr L:List Int):∀ t,(aF7 gd fr L t).length=L.length
 | 0=>rfl
 | t+1=>by rw[WI,zE,aAZ gd fr L t]
def mxE (g:T3)(fr d:List Int):Int :=
 if bA g=true/\0<szF d then(if fr.length=g.2.2.length then(if (fr.all fun a=>inP a 0 (szF d-1))=true then 0 else 1)else 2)else 1
def HY (g:T3)(fr d:List Int):T3×Int :=
 if (mxE g fr d != 0)=true then(Z3,mxE g fr d)else((d,(g.2.1,aF7 g.2.2 fr (List.replicate (szF d).toNat 0) fr.length)),0)
theorem aIW {g:T3}{fr d:List Int}{Q:T3×Int->Prop}(h:Q (HY g fr d)):KU g fr d Q:=by
 refine⟨O5 (vR ?_)⟩
 unfold HY at h
 have hn:=AR d
 by_cases hs:bA g=true/\0<szF d
 rotate_left
 ·have e:mxE g fr d=1:=by unfold mxE;rw[aA hs]
  rw[e]at h
  rw[aB]
  ·exact h
  ·simp only[cG,nJ,dS]
   cases hm:bA g with
   | false=>exact .inl rfl
   | true=>right;have : ¬ 0<szF d:=fun hh=>hs ⟨hm,hh⟩;omega
 rw[aA (by simp only[cG,nJ,dS,hs.1];have:=hs.2;rintro(h1|h1);cases h1;omega)]
 by_cases hl:fr.length=g.2.2.length
 rotate_left
 ·have e:mxE g fr d=2:=by unfold mxE;rw[aB hs,aA hl]
  rw[e]at h
  rw[aB (by simp only[nZ,ne_eq];omega)]
  exact h
 rw[aA (by simp[hl])]
 obtain⟨hd1,_,hd3,hd4⟩:=pM hs.2
 obtain⟨k1,k2,_⟩:=cX hs.1
 refine DH (by omega) ⟨by omega,⟨?_⟩⟩
 have hK1:(fr.all fun a=>inP a 0 (szF d-1))=false->Q (Z3,1):=fun hf=>by
  have e:mxE g fr d=1:=by unfold mxE;rw[aB hs,aB hl,aA (by rw[hf];simp)]
  rw[e]at h
  exact h
 refine Loop.range (B:=tG (szF d) fr (fr.length:Int) g.2.2 _ _) fr.length (fun i:Nat=>((i:Int),aF7 g.2.2 fr (List.replicate (szF d).toNat 0) i)) (fun i=>(fr.take i).all (fun a=>inP a 0 (szF d-1))=true) rfl ?_ ?_
 ·intro i hi hI X hX
  unfold tG
  rw[aB (aG (show(i:Int)<(fr.length:Int) by omega))]
  dsimp only at hX⊢
  rw[bM]
  refine⟨by omega,?_⟩
  cases hb:inP (fr.getD i 0) 0 (szF d-1)with
  | false =>
    rw[aB]
    ·exact hK1 (aBE (d:=0) hi hb)
    ·unfold inP at hb
     simp only[JH,eZ]at hb
     simp only[cG,aT]
     omega
  | true =>
    have hb':=hb
    unfold inP at hb'
    simp only[aI,aT]at hb'
    rw[aA (by simp only[cG,aT];omega),aAZ,pY]
    refine⟨by omega,by omega,by omega,?_⟩
    have hX:=hX (by rw[O0 (d:=0) hi,hI,hb];rfl)
    rw[WI]at hX
    rw[aC ((i:Int)+1)]
    exact hX
 ·intro hI X
  unfold tG
  rw[aA (by simp)]
  rw[sS]at hI
  have e:mxE g fr d=0:=by unfold mxE;rw[aB hs,aB hl,aB hI]
  rw[e,aA (by simp)]at h
  exact h
def rbF (g x:T3):T3×Int :=
 if bA g=true/\bA x=true then(if g.1=x.1 then((g.1,g.2.1,tab g.2.2.length fun i=>if 0<x.2.2.getD i 0 then g.2.2.getD i 0 else 0),0)else(Z3,2))else(Z3,1)
theorem aHC {g x:T3}{Q:T3×Int->Prop}(h:Q (rbF g x)):HB g x Q:=by
 refine⟨vR ?_⟩
 unfold jn
 dsimp only
 unfold rbF at h
 cases hm:bA g with
 | false =>
   rw[aA (by rw[hm];simp)]at h
   rw[aB (by rfl),aB rfl]
   exact h
 | true =>
   rw[aA (by simp)]
   refine vR ?_
   cases hx:bA x with
   | false =>
     rw[aA (by rw[hx];simp)]at h
     rw[aB (by rfl)]
     exact h
   | true =>
     rw[aB ⟨hm,hx⟩]at h
     rw[aA (by simp)]
     obtain⟨h1,h2,_⟩:=cX hm
     refine O1 (by omega) ?_
     by_cases he:g.1=x.1
     rotate_left
     ·rw[aA he]at h
      rw[jR he,aB (by rfl)]
      exact h
     rw[aB he]at h
     rw[aG he,aA (by simp)]
     have hlen:x.2.2.length=g.2.2.length:=by
      have a:=(mT.1 hm).2.1
      have b:=(mT.1 hx).2.1
      rw[he]at a
      omega
     refine⟨DH (by omega) ⟨?_⟩⟩
     refine Loop.range (B:=fI x.1 x.2.1 x.2.2 g.1 g.2.1 g.2.2 (g.2.2.length:Int) _) g.2.2.length (fun i:Nat=>((i:Int),tab i fun i=>if 0<x.2.2.getD i 0 then g.2.2.getD i 0 else 0)) (fun _=>True) trivial ?_ ?_
     ·intro i hi _ X hX
      have hX:=hX trivial
      unfold fI
      dsimp only at hX⊢
      rw[aB (aG (show(i:Int)<(g.2.2.length:Int) by omega))]
      rw[aB2]at hX
      refine⟨⟨by omega,?_⟩⟩
      rw[bM]
      by_cases hp:0<x.2.2.getD i 0
      ·rw[aB hp]at hX
       rw[aB (aG hp)]
       refine⟨by omega,by simp[tab];omega,?_⟩
       rw[aC _]
       exact hX
      ·rw[aA hp]at hX
       rw[aA (by simpa using hp)]
       refine⟨by simp[tab];omega,?_⟩
       rw[aC _]
       exact hX
     ·intro _ X
      unfold fI
      dsimp only
      rw[aA (by simp)]
      exact h
theorem aO1 {v:Int}{w:List (Int×Int×Int)}{B:Nat}{L:List Int}{K0:List Int->Prop}(hw:w.length<=1000000)(hx:L.length<=8192)(hr:∀ z∈w,0<=z.1/\(B:Int)+z.1<(L.length:Int))
 (h:K0 (MV (i32.wrap v) L (w.map fun z=>(B:Int)+z.1))):oM v (B:Int) (w.length:Int) 0 w L K0:=by
 refine⟨⟨?_⟩⟩
 have hget:∀ i,i<w.length->(w.map fun z=>(B:Int)+z.1).getD i 0=(B:Int)+(w.getD i (0,0,0)).1:=fun i hi=>by
  rw[aW,aW,mE,aP hi];rfl
 have hlm:(w.map fun z=>(B:Int)+z.1).length=w.length:=B8 _
 generalize (w.map fun z=>(B:Int)+z.1)=l at h hget hlm
 refine Loop.range (B:=iN v (B:Int) (w.length:Int) w _) w.length (fun i:Nat=>((i:Int),MV (i32.wrap v) L (l.take i))) (fun _=>True) trivial ?_ ?_
 ·intro i hi _ X hX
  have hX:=hX trivial
  unfold iN
  rw[aB (aG (show(i:Int)<(w.length:Int) by omega))]
  dsimp only at hX⊢
  have hm:=hr (w.getD i (0,0,0)) (by rw[aW,aP hi];exact fB hi)
  simp only[Int.toNat_natCast,QO]
  rw[aC ((B:Int)+(w.getD i (0,0,0)).1),aC ((i:Int)+1)]
  refine⟨by omega,by omega,by omega,?_⟩
  rw[aB8 (by omega),hget i hi]at hX
  exact hX
 ·intro _ X
  unfold iN
  rw[aA (by simp),<- hlm,sS]
  exact h
theorem aMx {n m H V P Q:Nat}{k s:Int}{X gd:List Int}(g:PoolIn (n*m) H V P Q k s X)(hn:1<=n/\n<=4096)(hm:1<=m/\m<=4096)(hg:gd.length=n*m*(P*Q)){K0:List Int->Prop}(h:K0 (bkF gd (CZ H V k s P Q) X (n*m*(P*Q)))) :
 oG [(n:Int),m,H,V] k s gd (gd.length:Int) [(n:Int),m,P,Q] K0 (0,X):=by
 have hx:=g.hx
 have bx:=g.bx
 obtain⟨s1,s2⟩:=g.small
 have hsz:n*m*(P*Q)<=n*m*(H*V):=Nat.mul_le_mul_left _ (fE s1 s2)
 refine⟨?_⟩
 rw[<- hg]at h
 refine Loop.range (B:=iP [(n:Int),m,H,V] k s gd (gd.length:Int) [(n:Int),m,P,Q] K0) gd.length (fun i:Nat=>((i:Int),bkF gd (CZ H V k s P Q) X i)) (fun _=>True) trivial ?_ ?_
 ·intro t ht _ Y hY
  have hY:=hY trivial
  unfold iP
  rw[aB (aG (show(t:Int)<(gd.length:Int) by omega))]
  dsimp only at hY⊢
  obtain⟨a,i,p,q,ha,hi,hp,hq,hat,hw,wl,wn,wr,wc⟩:=aES g hn hm (t:=t) (by omega)
  refine⟨by omega,hat _ ?_⟩
  simp only[List.getD_cons_zero,List.getD_cons_succ,Int.toNat_natCast]
  refine⟨by simp,by simp,by simp,by simp,by simp,by simp,by simp,by simp,by simp,HZ ?_⟩
  rw[hw]
  refine aO1 wl (by rw[YR];omega) (by rw[YR];exact wr) ?_
  rw[aC ((t:Int)+1),<- wc]
  rw[aAP]at hY
  exact hY
 ·intro _ Y
  unfold iP
  rw[aA (by simp)]
  exact h
theorem aGL {g:T3}{d:List Int}{k s:Int}{Q:T3×Int->Prop}(h:Q (I4 g d k s)):rK g d k s Q:=by
 refine⟨tU (by simp) ?_⟩
 have e1:([g]:List T3).all bA=bA g:=by simp
 rw[e1]
 unfold I4 at h
 refine eN (b := !bA g) (c := !decide (0<szF d)) (fun _ P hP=>nI hP) (fun v ev => ?_) rfl
 by_cases hs:bA g=true/\0<szF d
 rotate_left
 ·have e:abE g d k s=1:=by unfold abE;rw[aA hs]
  rw[e]at h
  rw[aB]
  ·exact h
  ·rw[ev]
   simp only[cG,nJ,eZ]
   by_cases hm:bA g=true
   ·exact .inr fun hh=>hs ⟨hm,hh⟩
   ·exact .inl (Bool.eq_false_iff.2 hm)
 rw[ev,aA (by rw[hs.1,aG hs.2];decide)]
 obtain⟨hm,hz⟩:=hs
 refine U2 ?_
 refine eN (b := !(FX d k s).2) (c := !decide ((FX d k s).1=g.1)) (fun hb P hP=>C7 (by unfold FX;split <;> simp) hP) (fun v ev => ?_) rfl
 by_cases hl:((d.length:Int) != 4)=true
 ·have e:abE g d k s=2:=by unfold abE;rw[aB ⟨hm,hz⟩,aA (by rintro⟨⟨h1,_⟩,_⟩;simp[h1]at hl)]
  rw[e]at h
  have e2:(FX d k s).2=false:=by unfold FX;rw[aB hl]
  rw[ev,e2,aB (by rfl)]
  exact h
 have hl4:(d.length:Int)=4:=by simpa using hl
 have e2:FX d k s=([d.getD 0 0,d.getD 1 0,bL (d.getD 2 0) k s 0,bL (d.getD 3 0) k s 0],decide (0<bL (d.getD 2 0) k s 0)&&decide (0<bL (d.getD 3 0) k s 0)):=by unfold FX;rw[aA hl]
 by_cases hc:(0<bL (d.getD 2 0) k s 0/\0<bL (d.getD 3 0) k s 0)/\g.1=abD d k s
 rotate_left
 ·have e:abE g d k s=2:=by unfold abE;rw[aB ⟨hm,hz⟩,aA (by rintro⟨⟨_,h1⟩,h2⟩;exact hc ⟨h1,h2⟩)]
  rw[e]at h
  rw[aB]
  ·exact h
  ·rw[ev,e2]
   simp only[cG,nJ,eZ,JH]
   by_cases h1:0<bL (d.getD 2 0) k s 0
   ·by_cases h2:0<bL (d.getD 3 0) k s 0
    ·exact .inr fun h3=>hc ⟨⟨h1,h2⟩,h3.symm⟩
    ·exact .inl (.inr h2)
   ·exact .inl (.inl h1)
 obtain⟨hpq,hd⟩:=hc
 have e:abE g d k s=0:=by unfold abE;rw[aB ⟨hm,hz⟩,aB ⟨⟨by omega,hpq⟩,hd⟩]
 rw[e,aA (by simp)]at h
 rw[ev,e2,aA (by rw[aG hpq.1,aG hpq.2,aG (show [d.getD 0 0,d.getD 1 0,bL (d.getD 2 0) k s 0,bL (d.getD 3 0) k s 0]=g.1 from hd.symm)];simp)]
 obtain⟨a1,a2,a3,_⟩:=mJ hpq.1
 refine⟨by omega,aHk a2 (aDS ?_)⟩
 obtain⟨_,_,ge,_⟩:=mT.1 hm
 have hle:0<=aAD k/\aAD k<=4:=by
  rcases(by omega:k=1\/k=2\/k=3\/k=4\/k=5)with e|e|e|e|e <;> subst e <;> decide
 have hex : -128<=i64.wrap (g.2.1-aAD k)/\i64.wrap (g.2.1-aAD k)<=128:=by
  rw[aC _];omega
 rw[YY hex hz]
 refine⟨?_⟩
 rw[aA (by simp)]
 obtain⟨a,b,c,dd,ed⟩:=aMc (l:=d) (by omega)
 subst ed
 obtain⟨n,m,H,V,rfl,rfl,rfl,rfl,n1,m1,H1,V1,hb,hsz⟩:=aBo hz
 obtain⟨_,w2,_,_⟩:=pM hz
 have wn:=w2 (n:Int) (by simp)
 have wm:=w2 (m:Int) (by simp)
 unfold aG4 at h
 simp only[List.getD_cons_succ,List.getD_cons_zero,abD]at h hd hpq a1⊢
 obtain⟨P,eP,_⟩:=pR (n:=(H:Int)) (k:=k) (s:=s) (p:=0)
 obtain⟨R,eQ,_⟩:=pR (n:=(V:Int)) (k:=k) (s:=s) (p:=0)
 obtain⟨b1,_⟩:=mJ hpq.2
 rw[eP,eQ]at h hd hpq⊢
 have en:((n:Int)*(m:Int)).toNat=n*m:=by rw[<- lA];exact bM _
 rw[en,hsz]at h
 rw[hsz]
 simp only[Int.toNat_natCast]at h⊢
 obtain⟨_,_,_,_,e4,_,_,_,_,_,hgl,_,_⟩:=SC hm (by rw[hd];rfl)
 rw[hd]at e4
 simp only[List.cons.injEq,Int.natCast_inj,and_true]at e4
 obtain⟨rfl,rfl,rfl,rfl⟩:=e4
 exact aMx ⟨by rw[pY,cS (n*m)],by rw[<- cS];exact hb,by omega,by omega,a2,a3,eP,eQ,by omega,by omega⟩ (by omega) (by omega) (by rw[hgl,cS (n*m)]) h
theorem aGR {g:T3}{fr d:List Int}{Q:T3×Int->Prop}(h:Q (HY g fr d)):rI g fr d Q:=by
 refine⟨tU (by simp) ?_⟩
 have e1:([g]:List T3).all bA=bA g:=by simp
 rw[e1]
 unfold HY at h
 refine eN (b := !bA g) (c := !decide (0<szF d)) (fun _ P hP=>nI hP) (fun v ev => ?_) rfl
 by_cases hs:bA g=true/\0<szF d
 rotate_left
 ·have e:mxE g fr d=1:=by unfold mxE;rw[aA hs]
  rw[e]at h
  rw[aB]
  ·exact h
  ·rw[ev]
   simp only[cG,nJ,eZ]
   by_cases hm:bA g=true
   ·exact .inr fun hh=>hs ⟨hm,hh⟩
   ·exact .inl (Bool.eq_false_iff.2 hm)
 rw[ev,aA (by rw[hs.1,aG hs.2];decide)]
 by_cases hl:fr.length=g.2.2.length
 rotate_left
 ·have e:mxE g fr d=2:=by unfold mxE;rw[aB hs,aA hl]
  rw[e]at h
  rw[aB (by simp only[nZ,ne_eq];omega)]
  exact h
 rw[aA (by simp[hl])]
 obtain⟨hd1,_,hd3,hd4⟩:=pM hs.2
 obtain⟨k1,k2,_⟩:=cX hs.1
 obtain⟨_,_,ge,_⟩:=mT.1 hs.1
 refine⟨by omega,aDS ?_⟩
 rw[YY (by omega) hs.2]
 refine⟨?_⟩
 have hK1:(fr.all fun a=>inP a 0 (szF d-1))=false->Q (Z3,1):=fun hf=>by
  have e:mxE g fr d=1:=by unfold mxE;rw[aB hs,aB hl,aA (by rw[hf];simp)]
  rw[e]at h
  exact h
 refine Loop.range (B:=iI fr (fr.length:Int) g.2.2 _ _) fr.length (fun i:Nat=>((i:Int),aF7 g.2.2 fr (List.replicate (szF d).toNat 0) i)) (fun i=>(fr.take i).all (fun a=>inP a 0 (szF d-1))=true) rfl ?_ ?_
 ·intro i hi hI X hX
  unfold iI
  rw[aB (aG (show(i:Int)<(fr.length:Int) by omega))]
  dsimp only at hX⊢
  rw[bM]
  refine⟨by omega,?_⟩
  rw[aAZ,pY]
  cases hb:inP (fr.getD i 0) 0 (szF d-1)with
  | false =>
    rw[aB]
    ·exact hK1 (aBE (d:=0) hi hb)
    ·unfold inP at hb
     simp only[JH,eZ]at hb
     simp only[cG,aT]
     omega
  | true =>
    have hb':=hb
    unfold inP at hb'
    simp only[aI,aT]at hb'
    rw[aA (by simp only[cG,aT];omega)]
    refine⟨by omega,by omega,by omega,?_⟩
    have hX:=hX (by rw[O0 (d:=0) hi,hI,hb];rfl)
    rw[WI]at hX
    rw[aC ((i:Int)+1)]
    exact hX
 ·intro hI X
  unfold iI
  rw[aA (by simp)]
  rw[sS]at hI
  have e:mxE g fr d=0:=by unfold mxE;rw[aB hs,aB hl,aB hI]
  rw[e,aA (by simp)]at h
  exact h
theorem aHq {g x:T3}{Q:T3×Int->Prop}(h:Q (rbF g x)):lJ g x Q:=by
 refine⟨tU (by simp) ?_⟩
 have e1:([g,x]:List T3).all bA=(bA g&&bA x):=aDa
 rw[e1]
 unfold rbF at h
 by_cases hm:bA g=true/\bA x=true
 rotate_left
 ·rw[aA hm]at h
  rw[aB]
  ·exact h
  ·simp only[nJ,JH]
   by_cases h1:bA g=true
   ·exact .inr (Bool.eq_false_iff.2 fun h2=>hm ⟨h1,h2⟩)
   ·exact .inl (Bool.eq_false_iff.2 h1)
 rw[aB hm]at h
 obtain⟨hm,hx⟩:=hm
 rw[aA (by rw[hm,hx];decide)]
 obtain⟨h1,h2,_⟩:=cX hm
 refine C7 (by omega) ?_
 by_cases he:g.1=x.1
 rotate_left
 ·rw[aA he]at h
  rw[jR he,aB (by rfl)]
  exact h
 rw[aB he]at h
 rw[aG he,aA (by simp)]
 have hlen:x.2.2.length=g.2.2.length:=by
  have a:=(mT.1 hm).2.1
  have b:=(mT.1 hx).2.1
  rw[he]at a
  omega
 refine⟨by omega,⟨?_⟩⟩
 refine Loop.range (B:=gQ g.2.2 (g.2.2.length:Int) x.2.2 _) g.2.2.length (fun i:Nat=>((i:Int),tab i fun i=>if 0<x.2.2.getD i 0 then g.2.2.getD i 0 else 0)) (fun _=>True) trivial ?_ ?_
 ·intro i hi _ X hX
  have hX:=hX trivial
  unfold gQ
  dsimp only at hX⊢
  rw[aB (aG (show(i:Int)<(g.2.2.length:Int) by omega))]
  rw[aB2]at hX
  rw[bM,aC ((i:Int)+1)]
  refine⟨by omega,by omega,?_⟩
  by_cases hz:x.2.2.getD i 0<=0
  ·rw[aB (aG hz)]
   rw[aA (by omega)]at hX
   exact⟨by simp[tab];omega,hX⟩
  ·rw[aA (by simpa using hz)]
   rw[aB (by omega)]at hX
   exact⟨by simp[tab];omega,hX⟩
 ·intro _ X
  unfold gQ
  dsimp only
  rw[aA (by simp)]
  exact h
theorem aK0 {g:T3}{d:List Int}{Q:T3×Int->Prop}(h:Q (HQ g d)):t7 g d Q:=by
 refine⟨tU (by simp) ?_⟩
 have e1:([g]:List T3).all bA=bA g:=by simp
 rw[e1]
 unfold HQ at h
 refine eN (b := !bA g) (c := !decide (0<szF d)) (fun _ P hP=>nI hP) (fun v ev => ?_) rfl
 by_cases hs:bA g=true/\0<szF d
 rotate_left
 ·rw[aA hs]at h
  rw[aB]
  ·exact h
  ·rw[ev]
   simp only[cG,nJ,eZ]
   by_cases hm:bA g=true
   ·exact .inr fun hh=>hs ⟨hm,hh⟩
   ·exact .inl (Bool.eq_false_iff.2 hm)
 rw[aB hs]at h
 rw[ev,aA (by rw[hs.1,aG hs.2];decide)]
 refine zH ?_
 by_cases he:szF d=(g.2.2.length:Int)
 rotate_left
 ·rw[aA he]at h
  rw[aB (by simpa using he)]
  exact h
 rw[aB he]at h
 rw[aA (by simpa using he)]
 obtain⟨hd1,_⟩:=pM hs.2
 obtain⟨k1,k2,_⟩:=cX hs.1
 exact⟨by omega,by omega,h⟩
theorem aK1 {a b:List Int}{Q:List Int->Prop}(h1:1<=a.length)(h2:a.length<=1000000)(h3:b.length<=1000000)(h:Q (a++b)):oC [a,b] Q:=by
 have key:u4 ((a.length:Int)+b.length) (fun r3=>pC [a,b] (([a,b]:List (List Int)).length:Int) (fun y4=>Q y4) (0,r3)):=by
  refine⟨⟨by omega,by omega⟩,⟨?_⟩⟩
  refine Loop.range (B:=tQ [a,b] (([a,b]:List (List Int)).length:Int) _) 2 (fun i=>((i:Int),([a,b].take i).flatten)) (fun _=>True) trivial ?_ ?_
  ·intro i hi _ X hX
   have hX:=hX trivial
   match i,hi with
   | 0,_ =>
     refine⟨by simp,by simp;omega,?_⟩
     rw[aC _ (by simp) (by simp)]
     simpa using hX
   | 1,_ =>
     refine⟨by simp,by simp;omega,?_⟩
     rw[aC _ (by simp) (by simp)]
     simpa using hX
  ·intro _ X
   show Q ([a,b].take 2).flatten
   simpa using h
 refine⟨⟨?_⟩⟩
 refine Loop.range (B:=tY [a,b] (([a,b]:List (List Int)).length:Int) _) 2 (fun i=>((match i with|0=>0|1=>(a.length:Int)|_=>(a.length:Int)+b.length),(i:Int))) (fun _=>True) trivial ?_ ?_
 ·intro i hi _ X hX
  have hX:=hX trivial
  match i,hi with
  | 0,_ =>
    refine⟨by simp,?_⟩
    show(if decide (i64.wrap (0+(a.length:Int))<0)=true then False else kN 0 (fun y1=>X (i64.wrap (0+(a.length:Int)),y1)))
    rw[Int.zero_add,aC _,aA (by simp)]
    exact⟨hX⟩
  | 1,_ =>
    refine⟨by simp,?_⟩
    show(if decide (i64.wrap ((a.length:Int)+(b.length:Int))<0)=true then False else kN 1 (fun y1=>X (i64.wrap ((a.length:Int)+(b.length:Int)),y1)))
    rw[aC _,aA (by simp;omega)]
    exact⟨hX⟩
 ·intro _ X
  exact key
theorem aMe {l:List T3}{Q:Bool->Prop}(hl:l.length<=10000000000000)(h:Q (l.any fun t => !bA t)):cF l Q:=by
 refine⟨⟨⟨?_⟩⟩⟩
 refine Loop.range (B:=bD l (l.length:Int) _ _) l.length (fun i=>(i:Int)) (fun i=>∀ j,j<i->bA (l.getD j Z3)=true) (fun j hj=>absurd hj (by omega)) ?_ ?_
 ·intro i hi hI X hX
  unfold bD
  rw[aB (aG (show(i:Int)<(l.length:Int) by omega))]
  refine⟨by omega,⟨vR ?_⟩⟩
  simp only[Int.toNat_natCast]
  cases hb:bA (l.getD i Z3)with
  | false =>
    rw[aB (by rfl)]
    have:(l.any fun t => !bA t)=true:=by
     rw[GL]
     refine⟨l[i],fB _,?_⟩
     rw[aW,aP hi]at hb
     rw[show bA l[i]=false from hb];rfl
    rw[this]at h
    rw[aG (show(0:Int)<=(i:Int) by omega)]
    exact h
  | true =>
    rw[aA (by simp),aC _]
    refine hX fun j hj => ?_
    by_cases hji:j=i
    ·subst hji;exact hb
    ·exact hI j (by omega)
 ·intro hI X
  unfold bD
  rw[aA (by simp)]
  have:(l.any fun t => !bA t)=false:=by
   rw[OO]
   intro x hx
   obtain⟨j,hj,rfl⟩:=List.mem_iff_getElem.1 hx
   have:=hI j hj
   rw[aW,aP hj]at this
   rw[show bA l[j]=true from this];simp
  rw[this]at h
  exact h
theorem aNQ {l:List Lay}{Q:Bool->Prop}(hl:l.length<=10000000000000)(h:Q (l.any fun x=>x.1==3)):cJ l Q:=by
 refine⟨⟨⟨?_⟩⟩⟩
 refine Loop.range (B:=bI l (l.length:Int) _ _) l.length (fun i=>(i:Int)) (fun i=>∀ j,j<i->((l.getD j bY).1==3)=false) (fun j hj=>absurd hj (by omega)) ?_ ?_
 ·intro i hi hI X hX
  unfold bI
  rw[aB (aG (show(i:Int)<(l.length:Int) by omega))]
  refine⟨by omega,⟨?_⟩⟩
  simp only[Int.toNat_natCast]
  show if ((l.getD i bY).1==3)=true then _ else _
  cases hb:((l.getD i bY).1==3)with
  | true =>
    rw[aB rfl]
    have:(l.any fun x=>x.1==3)=true:=by
     rw[GL]
     refine⟨l[i],fB _,?_⟩
     rw[aW,aP hi]at hb
     exact hb
    rw[this]at h
    rw[aG (show(0:Int)<=(i:Int) by omega)]
    exact h
  | false =>
    rw[aA (by simp),aC _]
    refine hX fun j hj => ?_
    by_cases hji:j=i
    ·subst hji;exact hb
    ·exact hI j (by omega)
 ·intro hI X
  unfold bI
  rw[aA (by simp)]
  have:(l.any fun x=>x.1==3)=false:=by
   rw[OO]
   intro x hx
   obtain⟨j,hj,rfl⟩:=List.mem_iff_getElem.1 hx
   have:=hI j hj
   rw[aW,aP hj]at this
   simpa using this
  rw[this]at h
  exact h
def Y2 (m:Mdl)(ps:List Prm)(T:List T3)(st:Int)(g:T3):Bool :=
 ((((decide (st<0)||decide (1000000<st)) || !xU m ps)||((T.length:Int) != (m.2.length:Int)+1)) || !bA g)||T.any fun t => !bA t
def aBr (m:Mdl)(T:List T3):Bool:=(List.range (m.2.length+1)).any fun i => !decide ((T.getD i Z3).1=(T.getD 0 Z3).1.take 1++(aV m).1.getD i [])
def aIN (m:Mdl)(T:List T3)(F:List (List Int))(g:T3):Bool :=
 (((F.length:Int) != (T.length:Int))&&((m.2.any fun x=>x.1==3)||decide (0<(F.length:Int)))) || !decide (g.1=(T.getD (T.length-1) Z3).1)
def EW (m:Mdl)(ps:List Prm)(T:List T3)(F:List (List Int))(st:Int)(g:T3):Int :=
 if Y2 m ps T st g=true then 1 else if aBr m T=true then 2 else if aIN m T F g=true then 2 else 0
structure aNv (m:Mdl)(ps:List Prm)(T:List T3)(g:T3)(st:Int):Prop where
 st:0<=st/\st<=1000000
 ps:xU m ps=true
 len:T.length=m.2.length+1
 g:bA g=true
 t:∀ i,i<T.length->bA (T.getD i Z3)=true
theorem R5 {m:Mdl}{ps:List Prm}{T:List T3}{st:Int}{g:T3}(h:Y2 m ps T st g=false):aNv m ps T g st:=by
 unfold Y2 at h
 simp only[dP,eZ,wZ,rN,OO]at h
 obtain⟨⟨⟨⟨⟨h1,h2⟩,h3⟩,h4⟩,h5⟩,h6⟩:=h
 refine⟨by omega,h3,by omega,h5,fun i hi => ?_⟩
 have:=h6 _ (fB hi)
 rw[aW,aP hi]
 simpa using this
theorem aND {m:Mdl}{ps:List Prm}{T:List T3}{F:List (List Int)}{st s:Int}{g:T3}{Q:Int->Prop}(hl:m.2.length<=1000000)(hT:T.length<=1000000)(h:Q (EW m ps T F st g)) :
 yT m.1.1 m.1.2.1 m.1.2.2 m.2 ps T F s st g Q:=by
 refine⟨?_⟩
 refine eN (c:=decide (1000000<st)) (fun _ P hP=>hP) (fun v1 e1 => ?_) rfl
 refine eN (c := !xU m ps) (fun _ P hP=>aJY (m:=m) (by omega) hP) (fun v3 e3 => ?_) rfl
 refine eN (c:=(T.length:Int) != (m.2.length:Int)+1) (fun _ P hP=>by rw[aC _];exact hP) (fun v6 e6 => ?_) rfl
 refine eN (c := !bA g) (fun _ P hP=>vR hP) (fun v8 e8 => ?_) rfl
 refine eN (c:=T.any fun t => !bA t) (fun _ P hP=>aMe (by omega) hP) (fun v11 e11 => ?_) rfl
 have e:v11=Y2 m ps T st g:=by rw[e11,e8,e6,e3,e1];rfl
 unfold EW at h
 rw[<- e]at h
 clear e11 e8 e6 e3 e1
 cases v11 with
 | true=>rw[aB rfl]at h⊢;exact h
 | false =>
   rw[aA (by simp)]at h
   rw[aA (by simp)]
   have k:=R5 e.symm
   obtain⟨hm,hok⟩:=t5 (m:=m) (by
    have:=k.ps
    unfold xU at this
    simp only[aI,dS]at this
    exact this.1.1)
   have hlen:=k.len
   have hsl:=hok.len
   refine⟨ZE (m:=m) (by omega) ⟨?_⟩⟩
   have h2:aBr m T=true->Q 2:=fun hb=>by rw[aB hb]at h;exact h
   have d0:=cX (k.t 0 (by omega))
   refine Loop.range (B:=mW T ((aV m).1.length:Int) (aV m).1 _ _) (m.2.length+1) (fun i=>(i:Int)) (fun i=>∀ j,j<i->(T.getD j Z3).1=(T.getD 0 Z3).1.take 1++(aV m).1.getD j []) (fun j hj=>absurd hj (by omega)) ?_ ?_
   ·intro i hi hI X hX
    unfold mW
    rw[aB (aG (show(i:Int)<((aV m).1.length:Int) by omega))]
    simp only[Int.toNat_natCast]
    have hd:=hok.at_ (i:=i) (by omega)
    refine⟨by omega,by omega,by omega,⟨(fun e0=>by have:=d0.2.2.1;rw[show(T.getD 0 ([],0,[])).1=[]from e0]at this;simp at this),by omega,by omega,by have:=d0.2.2.1;show(1:Int)<=((T.getD 0 Z3).1.length:Int);omega⟩,?_⟩
    show oC [(T.getD 0 Z3).1.take 1,(aV m).1.getD i []] _
    refine aK1 (by rw[AC];omega) (by rw[AC];omega) (by omega) (O1 (by have:=(cX (k.t i (by omega))).1;show(T.getD i Z3).1.length<=_;omega) ?_)
    show if (!decide ((T.getD i Z3).1=(T.getD 0 Z3).1.take 1++(aV m).1.getD i []))=true then _ else _
    by_cases he:(T.getD i Z3).1=(T.getD 0 Z3).1.take 1++(aV m).1.getD i []
    ·rw[aA (by rw[aG he];simp),aC _]
     refine hX fun j hj => ?_
     by_cases hji:j=i
     ·subst hji;exact he
     ·exact hI j (by omega)
    ·rw[aB (by rw[jR he];rfl)]
     refine h2 ?_
     unfold aBr
     rw[GL]
     exact⟨i,List.mem_range.2 hi,by rw[jR he];rfl⟩
   ·intro hI X
    unfold mW
    rw[aA (by simp;omega)]
    have hb2:aBr m T=false:=by
     unfold aBr
     rw[OO]
     intro j hj
     rw[aG (hI j (List.mem_range.1 hj))]
     simp
    rw[hb2,aA (by simp)]at h
    refine aNQ (by omega) ?_
    refine zT (c:=(m.2.any fun x=>x.1==3)||decide (0<(F.length:Int))) (fun _ P hP=>eN (c:=decide (0<(F.length:Int))) (fun _ P hP=>hP) (fun v ev=>by rw[ev];exact hP) rfl) (fun v17 e17 => ?_) rfl
    refine eN (c := !decide (g.1=(T.getD (T.length-1) Z3).1)) (fun _ P hP => ?_) (fun v21 e21 => ?_) rfl
    ·rw[aC _]
     have e0:((T.length:Int)-1).toNat=T.length-1:=by omega
     rw[e0]
     exact⟨by omega,O1 (by have:=(cX k.g).1;omega) hP⟩
    ·have e3:v21=aIN m T F g:=by rw[e21,e17];rfl
     rw[<- e3]at h
     clear e3 e21
     cases v21 <;> exact h
abbrev G3:=Bool×T3×T3
abbrev eU:G3:=(false,([],0,[]),([],0,[]))
noncomputable def mK (st s:Int)(a:T3)(e i what:Int):T3×Int:=if (e != 0)=true then(Z3,e)else sQ a 8 s (WO st i what)
theorem EE {mx my mz:Int}{L:List Lay}{P:List Prm}{T:List T3}{F:List (List Int)}{back:List (List T3)}{s st:Int}{a:T3}{e i what:Int}{Q:T3×Int->Prop}(h:Q (mK st s a e i what)):mN mx my mz L P T F back s st a e i what Q:=by
 refine⟨?_⟩
 unfold mK at h
 by_cases he:(e != 0)=true
 ·rw[aB he]at h⊢;exact h
 ·rw[aA he]at h⊢
  exact aMI (aID h)
noncomputable def KO (st s:Int)(back:List (List T3))(i:Int)(g:T3):Int×List (List T3) :=
 match back.getD i.toNat []with
 | [t]=>if ((mK st s (addF t g).1 (addF t g).2 i 1).2 != 0)=true then((mK st s (addF t g).1 (addF t g).2 i 1).2,back)else(0,back.set i.toNat [(mK st s (addF t g).1 (addF t g).2 i 1).1])
 | _=>(0,back.set i.toNat [g])
theorem ZJ (st s:Int)(back:List (List T3))(i:Int)(g:T3):(KO st s back i g).2.length=back.length:=by
 unfold KO
 split
 ·split <;> simp
 ·simp
theorem aJ1 {l:List T3}{A:Prop}{B:T3->Prop}(h:match l with | [t]=>B t|_=>A):rsp l A B:=by
 refine⟨fun hn => ?_,fun x hx => ?_⟩
 ·match l,hn,h with
  | [],_,h=>exact h
  | [x],hn,_=>exact absurd rfl (hn x)
  | _::_::_,_,h=>exact h
 ·subst hx;exact h
noncomputable def QW (st s e kd fr:Int)(g:T3)(back:List (List T3)):Int×List (List T3):=if ((e==0)&&(kd==7))=true then KO st s back fr g else(e,back)
theorem aKz {g:T3}{e mx my mz kd fr s st:Int}{L:List Lay}{P:List Prm}{T:List T3}{F:List (List Int)}{back:List (List T3)}{K:Int×List (List T3)->Prop}(hf:kd=7->0<=fr/\fr<(back.length:Int))(h:K (QW st s e kd fr g back)) :
 cH g e mx my mz L P T F s st kd fr back K:=by
 refine⟨?_⟩
 unfold QW at h
 by_cases hc:((e==0)&&(kd==7))=true
 ·rw[aB hc]at h⊢
  have hf:=hf (by simp only[aI,dS]at hc;exact hc.2)
  refine⟨hf,aJ1 ?_⟩
  unfold KO at h
  split
  ·rename_i t ht
   rw[ht]at h
   refine aLx (EE ?_)
   dsimp only at h⊢
   by_cases he:((mK st s (addF t g).1 (addF t g).2 fr 1).2 != 0)=true
   ·rw[aB he]at h⊢;exact⟨h⟩
   ·rw[aA he]at h⊢;exact⟨hf,⟨h⟩⟩
  ·rename_i hn
   split at h
   ·rename_i t ht;exact absurd ht (hn t)
   ·exact⟨hf,⟨h⟩⟩
 ·rw[aA hc]at h⊢;exact⟨h⟩
noncomputable def zU (st s n e kd fr:Int)(g nx:T3)(back:List (List T3)):Int×List (List T3) :=
 if (e==0)=true then QW st s (KO st s back (n-1) nx).1 kd fr g (KO st s back (n-1) nx).2 else QW st s e kd fr g back
theorem aEd {n:Int}{g nx:T3}{e mx my mz kd fr s st:Int}{L:List Lay}{P:List Prm}{T:List T3}{F:List (List Int)}{back:List (List T3)}{K:Int×List (List T3)->Prop}(hn:1<=n/\n<=(back.length:Int)/\back.length<=1000000)(hf:kd=7->0<=fr/\fr<(back.length:Int))(h:K (zU st s n e kd fr g nx back)) :
 bE n g e mx my mz L P T F s st kd fr nx.1 nx.2.1 nx.2.2 back K:=by
 refine⟨?_⟩
 unfold zU at h
 rw[aC (n-1)]
 by_cases hc:(e==0)=true
 ·rw[aB hc]at h⊢
  refine⟨by omega,aJ1 ?_⟩
  unfold KO at h
  split
  ·rename_i t ht
   rw[ht]at h
   refine aLx (EE ?_)
   dsimp only at h⊢
   by_cases he:((mK st s (addF t nx).1 (addF t nx).2 (n-1) 1).2 != 0)=true
   ·rw[aB he]at h⊢;exact aKz hf h
   ·rw[aA he]at h⊢;exact⟨by omega,aKz (by rw[zE];exact hf) h⟩
  ·rename_i hn2
   split at h
   ·rename_i t ht;exact absurd ht (hn2 t)
   ·exact⟨by omega,aKz (by rw[zE];exact hf) h⟩
 ·rw[aA hc]at h⊢;exact aKz hf h
theorem aF9 {α:Type}{l m:List α}{i:Nat}{d:α}(h:i<l.length):(l++m).getD i d=l.getD i d:=by
 rw[aW,gW h,aW]
theorem aJc {α:Type}{l:List α}{x d:α}:(l++[x]).getD l.length d=x:=by
 rw[aW,D6 (aR _)];simp
theorem RR:∀ (r:List Lay) (i:Int) (l:List (List Int)),l≠[]->(dQ r i l).2.2=0 ->
 (∃ m,(dQ r i l).1=l++m)/\(dQ r i l).1.length=l.length+r.length/\∀ j,j<r.length->(dQ r i l).1.getD (l.length+j) []=fY (r.getD j bY) ((dQ r i l).1.take (l.length+j)) ((dQ r i l).1.getD (l.length+j-1) [])/\(dQ r i l).1.getD (l.length+j) []≠[]
 | [],i,l,_,_=>⟨⟨[],by simp[dQ]⟩,by simp[dQ],fun j hj=>absurd hj (by simp)⟩
 | x::r,i,l,hl,h=>by
   unfold dQ at h⊢
   by_cases h1:fY x l (l.getD (l.length-1) [])=[]
   ·rw[aB h1]at h;cases h
   rw[aA h1]at h⊢
   by_cases h2:8192<zK (fY x l (l.getD (l.length-1) []))
   ·rw[aB h2]at h;cases h
   rw[aA h2]at h⊢
   have hpos:=List.length_pos_iff.2 hl
   obtain⟨⟨m,e1⟩,e2,e3⟩:=RR r (i+1) (l++[fY x l (l.getD (l.length-1) [])]) (by simp) h
   have k1:(dQ r (i+1) (l++[fY x l (l.getD (l.length-1) [])])).1.take l.length=l:=by
    rw[e1,fU,List.take_left]
   have k2:(dQ r (i+1) (l++[fY x l (l.getD (l.length-1) [])])).1.getD l.length []=fY x l (l.getD (l.length-1) []):=by
    rw[e1,aF9 (by simp),aJc]
   have k3:(dQ r (i+1) (l++[fY x l (l.getD (l.length-1) [])])).1.getD (l.length-1) []=l.getD (l.length-1) []:=by
    rw[e1,fU,aF9 (by omega)]
   refine⟨⟨_::m,by rw[e1,fU];rfl⟩,by rw[e2];simp;omega,fun j hj => ?_⟩
   cases j with
   | zero =>
     rw[Nat.add_zero,k1,k2,k3]
     exact⟨rfl,h1⟩
   | succ j =>
     have:=e3 j (by simpa using hj)
     rw[kX,List.length_singleton,show l.length+1+j=l.length+(j+1) by omega]at this
     exact this
theorem aFi {m:Mdl}(h:(aV m).2.2=0):(aV m).1.length=m.2.length+1/\(aV m).1.getD 0 []=inL m/\∀ i,i<m.2.length ->
 (aV m).1.getD (i+1) []=fY (m.2.getD i bY) ((aV m).1.take (i+1)) ((aV m).1.getD i [])/\(aV m).1.getD (i+1) []≠[]:=by
 obtain⟨hm,_⟩:=t5 h
 unfold aV at h⊢
 rw[aB hm]at h⊢
 by_cases h8:8192<zK (inL m)
 ·rw[aB h8]at h;cases h
 rw[aA h8]at h⊢
 obtain⟨⟨k,e1⟩,e2,e3⟩:=RR m.2 0 [inL m] (by simp) h
 refine⟨by rw[e2];simp;omega,by rw[e1];rfl,fun i hi => ?_⟩
 have:=e3 i hi
 rw[List.length_singleton,SK 1 i,show i+1-1=i by omega]at this
 exact this
theorem aAu {d:List Int}{c:Int}{x:Lay}(h:nY d c x≠[]):d.length=3:=by
 unfold nY at h
 split at h
 ·assumption
 ·exact absurd rfl h
theorem aI2 {x:Lay}{l:List (List Int)}{d:List Int}(hx:x.1=2\/x.1=3\/x.1=4)(h:fY x l d≠[]):d.length=3:=by
 unfold fY at h
 rw[aA (by omega)]at h
 split at h
 ·exact aAu h
 ·rw[aB (by omega)]at h
  exact aAu h
noncomputable def onV (x:Lay)(p:Prm)(g t:T3)(fr:List Int)(st s n:Int):T3×Int :=
 if x.1=5 then rbF g t
 else if x.1=6 then HQ g t.1
 else if x.1=7 then(g,0)
 else if x.1=1 then mK st s (aDw g p.1).1 (aDw g p.1).2 n 2
 else if x.1=2 then mK st s (GR g p.1 (t.1.getD 2 0) (t.1.getD 3 0) x.2.2.2.1 x.2.2.2.2.1).1 (GR g p.1 (t.1.getD 2 0) (t.1.getD 3 0) x.2.2.2.1 x.2.2.2.2.1).2 n 2
 else if x.1=3 then mK st s (HY g fr t.1).1 (HY g fr t.1).2 n 2
 else if x.1=4 then mK st s (I4 g t.1 x.2.2.1 x.2.2.2.1).1 (I4 g t.1 x.2.2.1 x.2.2.2.1).2 n 2
 else mK st s Z3 0 n 2
theorem aNk {n:Nat}{g t:T3}{mx my mz s st:Int}{L:List Lay}{P:List Prm}{T:List T3}{F:List (List Int)}{back:List (List T3)}{K:Int×List (List T3)->Prop}(hn:1<=n/\n<=L.length/\L.length<=100000)(hP:P.length=L.length)(hb:back.length=L.length+1)
 (ag:All8 g.2.2) (ap:Prm8 (P.getD (n-1) f5)) (ht:t.1.length<=1000000) (hconv:(L.getD (n-1) bY).1=2->4<=t.1.length) (hmax:(L.getD (n-1) bY).1=3->n<F.length) (hadd:(L.getD (n-1) bY).1=7->0<=(L.getD (n-1) bY).2.2.2.2.2.1/\(L.getD (n-1) bY).2.2.2.2.2.1<(back.length:Int))
 (h:K (zU st s n (onV (L.getD (n-1) bY) (P.getD (n-1) f5) g t (F.getD n []) st s n).2 (L.getD (n-1) bY).1 (L.getD (n-1) bY).2.2.2.2.2.1 g (onV (L.getD (n-1) bY) (P.getD (n-1) f5) g t (F.getD n []) st s n).1 back)) :
 d8 (n:Int) g mx my mz L P T F s st (L.getD (n-1) bY).1 (L.getD (n-1) bY).2.2.2.2.2.1 t.1 t.2.1 t.2.2 back K:=by
 refine⟨?_⟩
 have ew:i64.wrap ((n:Int)-1)=((n-1:Nat):Int):=by rw[aC _];omega
 rw[ew]
 simp only[Int.toNat_natCast]
 show ck (aF ((n-1:Nat):Int) L.length) _
 refine⟨by omega,by omega,?_⟩
 revert hconv hmax hadd h ap
 generalize hx:L.getD (n-1) (0,0,0,0,0,0,false)=x
 generalize hp:P.getD (n-1) (([],0,[]),[],[],0,[])=p
 intro ap hconv hmax hadd h
 have hnb:1<=(n:Int)/\(n:Int)<=(back.length:Int)/\back.length<=1000000:=by omega
 unfold onV at h
 by_cases h5:x.1=5
 ·simp only[aB h5]at h
  rw[aB (by simpa using h5)]
  exact aHC (aEd hnb hadd h)
 simp only[aA h5]at h
 rw[aA (by simpa using h5)]
 by_cases h6:x.1=6
 ·simp only[aB h6]at h
  rw[aB (by simpa using h6)]
  exact aHd (by omega) (aEd hnb hadd h)
 simp only[aA h6]at h
 rw[aA (by simpa using h6)]
 by_cases h7:x.1=7
 ·simp only[aB h7]at h
  rw[aB (by simpa using h7)]
  exact aEd hnb hadd h
 simp only[aA h7]at h
 rw[aA (by simpa using h7)]
 by_cases h1:x.1=1
 ·simp only[aB h1]at h
  rw[aB (by simpa using h1)]
  exact aNq ag ap.1 ⟨EE (aEd hnb hadd h)⟩
 simp only[aA h1]at h
 rw[aA (by simpa using h1)]
 by_cases h2:x.1=2
 ·simp only[aB h2]at h
  rw[aB (by simpa using h2)]
  have:=hconv h2
  exact⟨by omega,by omega,aKn ag ap.1 ⟨EE (aEd hnb hadd h)⟩⟩
 simp only[aA h2]at h
 rw[aA (by simpa using h2)]
 refine⟨?_⟩
 by_cases h3:x.1=3
 ·simp only[aB h3]at h
  rw[aB (by simpa using h3)]
  have:=hmax h3
  exact⟨by omega,aIW ⟨EE (aEd hnb hadd h)⟩⟩
 simp only[aA h3]at h
 rw[aA (by simpa using h3)]
 by_cases h4:x.1=4
 ·simp only[aB h4]at h
  rw[aB (by simpa using h4)]
  exact aIp ⟨EE (aEd hnb hadd h)⟩
 simp only[aA h4]at h
 rw[aA (by simpa using h4)]
 exact⟨EE (aEd hnb hadd h)⟩
def F6 (x:Lay)(g t:T3):G3×Int :=
 if x.1=1 then(if (aE2 g t).2=0 then(if (aEN g).2=0 then((true,(aE2 g t).1,(aEN g).1),0)else(eU,(aEN g).2))else(eU,(aE2 g t).2))
 else(if (uL g t x.2.2.1 x.2.2.2.1 x.2.2.2.2.1).2=0 then(if (PL g).2=0 then((true,(uL g t x.2.2.1 x.2.2.2.1 x.2.2.2.2.1).1,(PL g).1),0)else(eU,(PL g).2))else(eU,(uL g t x.2.2.1 x.2.2.2.1 x.2.2.2.2.1).2))
theorem aNb {a b:Int}{W B:T3}{K0:Bool×List Int×Int×List Int×List Int×Int×List Int->Prop}{K1:Int->Prop}(h:a=0->b=0->K0 (true,W.1,W.2.1,W.2.2,B.1,B.2.1,B.2.2))(h1:a=0->b≠0->K1 b)(h2:a≠0->K1 a) :
 bQ a b true W.1 W.2.1 B.1 B.2.1 W.2.2 B.2.2 (fun y=>d7 y.1 (fun _=>K0 (y.2.1,y.2.2.1,y.2.2.2.1,y.2.2.2.2.1,y.2.2.2.2.2.1,y.2.2.2.2.2.2.1,y.2.2.2.2.2.2.2)) (fun _=>K1 y.1)):=by
 refine⟨?_⟩
 by_cases ha:a=0
 ·rw[aB (by simpa using ha)]
  refine⟨?_⟩
  by_cases hb:b=0
  ·rw[aA (by simpa using hb)]
   refine⟨?_⟩
   dsimp only
   rw[aA (by simp)]
   exact h ha hb
  ·rw[aB (by simpa using hb)]
   refine⟨?_⟩
   dsimp only
   rw[aB (by simpa using hb)]
   exact h1 ha hb
 ·rw[aA (by simpa using ha)]
  refine⟨?_⟩
  rw[aB (by simpa using ha)]
  refine⟨?_⟩
  dsimp only
  rw[aB (by simpa using ha)]
  exact h2 ha
def aNd (G:G3):Bool×List Int×Int×List Int×List Int×Int×List Int:=(G.1,G.2.1.1,G.2.1.2.1,G.2.1.2.2,G.2.2.1,G.2.2.2.1,G.2.2.2.2)
theorem aO6 {g t:T3}{x:Lay}{w:Bool}{K0:Bool×List Int×Int×List Int×List Int×Int×List Int->Prop}{K1:Int->Prop}(ag:All8 g.2.2)(at8:All8 t.2.2)(h0:w=true->(F6 x g t).2=0->K0 (aNd (F6 x g t).1))(h1:w=true->(F6 x g t).2≠0->K1 (F6 x g t).2)(h2:w=false->K0 (aNd eU)) :
 f6 g w x.1 x.2.2.1 x.2.2.2.1 x.2.2.2.2.1 t.1 t.2.1 t.2.2 false 0 0 K0 K1:=by
 refine⟨?_⟩
 cases w with
 | false=>rw[aA (by simp)];exact h2 rfl
 | true =>
   have h0:=h0 rfl
   have h1:=h1 rfl
   rw[aB rfl]
   unfold F6 at h0 h1
   by_cases hk:x.1=1
   ·simp only[aB hk]at h0 h1
    rw[aB (by simpa using hk)]
    refine aOG ag at8 (aNy ag (aNb (fun ha hb => ?_) (fun ha hb => ?_) (fun ha => ?_)))
    ·simp only[aB ha,aB hb]at h0
     exact h0 trivial
    ·simp only[aB ha,aA hb]at h1
     exact h1 hb
    ·simp only[aA ha]at h1
     exact h1 ha
   ·simp only[aA hk]at h0 h1
    rw[aA (by simpa using hk)]
    refine aKi ag at8 (aMU ag (aNb (fun ha hb => ?_) (fun ha hb => ?_) (fun ha => ?_)))
    ·simp only[aB ha,aB hb]at h0
     exact h0 trivial
    ·simp only[aB ha,aA hb]at h1
     exact h1 hb
    ·simp only[aA ha]at h1
     exact h1 ha
def aCU (x:Lay):Bool:=((x.1==1)||(x.1==2)) && !x.2.2.2.2.2.2
def grV (x:Lay)(g t:T3):G3×Int:=if aCU x=true then F6 x g t else(eU,0)
noncomputable def aAG (m:Mdl)(ps:List Prm)(T:List T3)(F:List (List Int))(st s:Int)(n:Nat)(back:List (List T3))(g:T3):(G3×Int)×List (List T3) :=
 if (grV (m.2.getD (n-1) bY) g (T.getD (n-1) Z3)).2=0 then
  (((grV (m.2.getD (n-1) bY) g (T.getD (n-1) Z3)).1,(zU st s n (onV (m.2.getD (n-1) bY) (ps.getD (n-1) f5) g (T.getD (n-1) Z3) (F.getD n []) st s n).2 (m.2.getD (n-1) bY).1 (m.2.getD (n-1) bY).2.2.2.2.2.1 g (onV (m.2.getD (n-1) bY) (ps.getD (n-1) f5) g (T.getD (n-1) Z3) (F.getD n []) st s n).1 back).1),
    (zU st s n (onV (m.2.getD (n-1) bY) (ps.getD (n-1) f5) g (T.getD (n-1) Z3) (F.getD n []) st s n).2 (m.2.getD (n-1) bY).1 (m.2.getD (n-1) bY).2.2.2.2.2.1 g (onV (m.2.getD (n-1) bY) (ps.getD (n-1) f5) g (T.getD (n-1) Z3) (F.getD n []) st s n).1 back).2)
 else((eU,(grV (m.2.getD (n-1) bY) g (T.getD (n-1) Z3)).2),back)
noncomputable def pE (m:Mdl)(ps:List Prm)(T:List T3)(F:List (List Int))(st s:Int)(n:Nat)(back:List (List T3)):(G3×Int)×List (List T3) :=
 match back.getD n []with
 | [g]=>aAG m ps T F st s n back g
 | _=>((eU,0),back)
noncomputable def qH (m:Mdl)(ps:List Prm)(T:List T3)(F:List (List Int))(st s:Int):Nat->List G3->List (List T3)->List G3×Int×Int
 | 0,out,_=>(out,0,0)
 | n+1,out,back=>if (pE m ps T F st s (n+1) back).1.2=0 then qH m ps T F st s n (out.set n (pE m ps T F st s (n+1) back).1.1) (pE m ps T F st s (n+1) back).2 else([],((n+1:Nat):Int),(pE m ps T F st s (n+1) back).1.2)
noncomputable def M0 (m:Mdl)(ps:List Prm)(T:List T3)(F:List (List Int))(g:T3)(s st:Int):List G3×Int×Int :=
 if EW m ps T F st g=0 then qH m ps T F st s m.2.length (List.replicate m.2.length eU) ((List.replicate T.length []).set m.2.length [g])else([],0,EW m ps T F st g)
def Bk8 (back:List (List T3)):Prop:=∀ l∈back,∀ t∈l,All8 t.2.2
theorem QP {st s:Int}{a:T3}{e i w:Int}:All8 (mK st s a e i w).1.2.2:=by
 unfold mK
 split
 ·intro y hy;cases hy
 ·exact aGx
theorem Bk8.set {back:List (List T3)}(h:Bk8 back){i:Nat}{t:T3}(ht:All8 t.2.2):Bk8 (back.set i [t]):=by
 intro l hl t' ht'
 rcases List.mem_or_eq_of_mem_set hl with h1|h1
 ·exact h l h1 t' ht'
 ·subst h1
  rw[GJ]at ht'
  subst ht';exact ht
theorem Bk8.at_ {back:List (List T3)}(h:Bk8 back){i:Nat}{t:T3}(ht:back.getD i []=[t]):All8 t.2.2:=by
 rw[aW]at ht
 cases hi:back[i]? with
 | none=>rw[hi]at ht;cases ht
 | some l =>
   rw[hi]at ht
   have ht:l=[t]:=ht
   exact h l (sR hi) t (by rw[ht];exact List.mem_singleton.2 rfl)
theorem aNi {st s:Int}{back:List (List T3)}{i:Int}{g:T3}(h:Bk8 back)(hg:All8 g.2.2):Bk8 (KO st s back i g).2:=by
 unfold KO
 split
 ·split
  ·exact h
  ·exact h.set QP
 ·exact h.set hg
theorem aMJ {st s e kd fr:Int}{g:T3}{back:List (List T3)}(h:Bk8 back)(hg:All8 g.2.2):Bk8 (QW st s e kd fr g back).2:=by
 unfold QW
 split
 ·exact aNi h hg
 ·exact h
theorem aIA {st s e kd fr:Int}{g:T3}{back:List (List T3)}:(QW st s e kd fr g back).2.length=back.length:=by
 unfold QW
 split
 ·exact ZJ _ _ _ _ _
 ·rfl
theorem aOH {st s n e kd fr:Int}{g nx:T3}{back:List (List T3)}(h:Bk8 back)(hg:All8 g.2.2)(hx:All8 nx.2.2):Bk8 (zU st s n e kd fr g nx back).2:=by
 unfold zU
 split
 ·exact aMJ (aNi h hx) hg
 ·exact aMJ h hg
theorem aJW {st s n e kd fr:Int}{g nx:T3}{back:List (List T3)}:(zU st s n e kd fr g nx back).2.length=back.length:=by
 unfold zU
 split
 ·rw[aIA,ZJ]
 ·exact aIA
theorem on8 {x:Lay}{p:Prm}{g t:T3}{fr:List Int}{st s n:Int}(hg:All8 g.2.2):All8 (onV x p g t fr st s n).1.2.2:=by
 unfold onV
 split
 ·unfold rbF
  split
  ·split
   ·intro y hy
    unfold tab at hy
    obtain⟨i,_,rfl⟩:=List.mem_map.1 hy
    split
    ·exact hg.at_ i
    ·omega
   ·intro y hy;cases hy
  ·intro y hy;cases hy
 split
 ·unfold HQ
  split
  ·split
   ·exact hg
   ·intro y hy;cases hy
  ·intro y hy;cases hy
 split
 ·exact hg
 split
 ·exact QP
 split
 ·exact QP
 split
 ·exact QP
 split
 ·exact QP
 ·exact QP
theorem aJQ {m:Mdl}{ps:List Prm}{T:List T3}{F:List (List Int)}{st s:Int}{n:Nat}{back:List (List T3)}(h:Bk8 back):Bk8 (pE m ps T F st s n back).2/\(pE m ps T F st s n back).2.length=back.length:=by
 unfold pE
 split
 ·rename_i g hg
  have g8:=h.at_ hg
  unfold aAG
  split
  ·exact⟨aOH h g8 (on8 g8),aJW⟩
  ·exact⟨h,rfl⟩
 ·exact⟨h,rfl⟩
theorem aN5 {n:Nat}{e:Int}{out:List G3}{G:G3}{K0 K1:List G3->Prop}(hn:1<=n/\n<=out.length/\n<=1000000)(h0:e=0->K0 (out.set (n-1) G))(h1:e≠0->K1 []) :
 jN (n:Int) e out G.1 G.2.1.1 G.2.1.2.1 G.2.1.2.2 G.2.2.1 G.2.2.2.1 G.2.2.2.2 K0 K1:=by
 refine⟨?_⟩
 by_cases he:e=0
 ·rw[aA (by simpa using he)]
  have ew:i64.wrap ((n:Int)-1)=((n-1:Nat):Int):=by rw[aC _];omega
  rw[ew]
  simp only[Int.toNat_natCast]
  exact⟨by omega,h0 he⟩
 ·rw[aB (by simpa using he)]
  exact h1 he
structure aJp (m:Mdl)(ps:List Prm)(T:List T3)(F:List (List Int)):Prop where
 len:m.2.length<=12
 pl:ps.length=m.2.length
 t:T.length=m.2.length+1
 p8:∀ p∈ps,Prm8 p
 t8:Ten8 T
 dims:∀ i,i<T.length->(T.getD i Z3).1.length<=4
 conv:∀ i,i<m.2.length->(m.2.getD i bY).1=2->4<=(T.getD i Z3).1.length
 max:∀ i,i<m.2.length->(m.2.getD i bY).1=3->i+1<F.length
 add:∀ i,i<m.2.length->(m.2.getD i bY).1=7->0<=(m.2.getD i bY).2.2.2.2.2.1/\(m.2.getD i bY).2.2.2.2.2.1<(m.2.length:Int)
theorem aMX {m:Mdl}{ps:List Prm}{T:List T3}{F:List (List Int)}{s st mx my mz:Int}(r:aJp m ps T F){K0:List G3->Prop}{K1:List G3×Int×Int->Prop}{out:List G3}{back:List (List T3)}
 (ho:out.length=m.2.length) (hb:back.length=m.2.length+1) (h8:Bk8 back) (h0:(qH m ps T F st s m.2.length out back).2.2=0->K0 (qH m ps T F st s m.2.length out back).1) (h1:(qH m ps T F st s m.2.length out back).2.2≠0->K1 (qH m ps T F st s m.2.length out back)) :
 B5 mx my mz m.2 ps T F s st K0 K1 ((m.2.length:Int),out,back):=by
 refine⟨?_⟩
 have hl:=r.len
 obtain⟨z,hz⟩:∃ z,qH m ps T F st s m.2.length out back=z:=⟨_,rfl⟩
 rw[hz]at h0 h1
 refine Loop.rangeI (B:=tE mx my mz m.2 ps T F s st K0 K1) m.2.length
  (fun i z'=>z'.1=((m.2.length-i:Nat):Int)/\z'.2.1.length=m.2.length/\z'.2.2.length=m.2.length+1/\Bk8 z'.2.2/\qH m ps T F st s (m.2.length-i) z'.2.1 z'.2.2=z) ⟨rfl,ho,hb,h8,hz⟩ ?_ ?_
 ·rintro i hi ⟨z1,out,back⟩ ⟨rfl,e1,e2,h8,hq⟩ X hX
  unfold tE
  dsimp only at e1 e2 h8 hq⊢
  obtain⟨n,hn⟩:∃ n,m.2.length-i=n+1:=⟨m.2.length-i-1,by omega⟩
  rw[hn]at hq⊢
  rw[aB (aG (show(0:Int)<((n+1:Nat):Int) by omega))]
  have ew:i64.wrap (((n+1:Nat):Int)-1)=(n:Int):=by rw[aC _];omega
  rw[ew]
  simp only[Int.toNat_natCast]
  refine⟨by omega,by rw[r.t];omega,by omega,?_⟩
  have hX':∀ (o:List G3) (b:List (List T3)),o.length=m.2.length->b.length=m.2.length+1->Bk8 b->qH m ps T F st s n o b=z->X ((n:Int),o,b):=fun o b k1 k2 k3 k4 =>
   hX _ ⟨by show(n:Int)=_;omega,k1,k2,k3,by rw[show m.2.length-(i+1)=n by omega];exact k4⟩
  unfold qH at hq
  have fin:∀ (G:G3) (e:Int) (b:List (List T3)),pE m ps T F st s (n+1) back=((G,e),b)->b.length=m.2.length+1->Bk8 b ->
   jN ((n+1:Nat):Int) e out G.1 G.2.1.1 G.2.1.2.1 G.2.1.2.2 G.2.2.1 G.2.2.2.1 G.2.2.2.2 (fun y=>X ((n:Int),y,b)) (fun y=>K1 (y,((n+1:Nat):Int),e)):=by
   intro G e b he hb hb8
   rw[he]at hq
   refine aN5 (by omega) (fun h => ?_) (fun h => ?_)
   ·simp only[aB h]at hq
    rw[E0]
    exact hX' _ _ (by rw[zE];exact e1) hb hb8 hq
   ·simp only[aA h]at hq
    subst hq
    exact h1 h
  refine aJ1 ?_
  obtain⟨l8,ll⟩:=aJQ (m:=m) (ps:=ps) (T:=T) (F:=F) (st:=st) (s:=s) (n:=n+1) h8
  split
  ·rename_i g hg
   have g8:=h8.at_ hg
   have hL:pE m ps T F st s (n+1) back=aAG m ps T F st s (n+1) back g:=by unfold pE;rw[hg]
   rw[hL]at fin l8 ll
   unfold aAG at fin l8 ll
   rw[E0]at fin l8 ll
   have hni:n<m.2.length:=by omega
   have wt:aCU (m.2.getD n bY)=true->grV (m.2.getD n bY) g (T.getD n Z3)=F6 (m.2.getD n bY) g (T.getD n Z3):=fun h=>by unfold grV;rw[aB h]
   have wf:aCU (m.2.getD n bY)=false->grV (m.2.getD n bY) g (T.getD n Z3)=(eU,0):=fun h=>by unfold grV;rw[aA (by rw[h];simp)]
   have cont:∀ G:G3,(grV (m.2.getD n bY) g (T.getD n Z3)).1=G->(grV (m.2.getD n bY) g (T.getD n Z3)).2=0 ->
    d8 ((n+1:Nat):Int) g mx my mz m.2 ps T F s st (m.2.getD n bY).1 (m.2.getD n bY).2.2.2.2.2.1 (T.getD n Z3).1 (T.getD n Z3).2.1 (T.getD n Z3).2.2 back (fun y=>jN ((n+1:Nat):Int) y.1 out G.1 G.2.1.1 G.2.1.2.1 G.2.1.2.2 G.2.2.1 G.2.2.2.1 G.2.2.2.2 (fun y4=>X ((n:Int),y4,y.2)) (fun y5=>K1 (y5,((n+1:Nat):Int),y.1))):=by
    intro G hG h0
    have k:=aNk (n:=n+1) (g:=g) (t:=T.getD n Z3) (mx:=mx) (my:=my) (mz:=mz) (s:=s) (st:=st) (L:=m.2) (P:=ps) (T:=T) (F:=F) (back:=back)
     (K:=fun y=>jN ((n+1:Nat):Int) y.1 out G.1 G.2.1.1 G.2.1.2.1 G.2.1.2.2 G.2.2.1 G.2.2.2.1 G.2.2.2.2 (fun y4=>X ((n:Int),y4,y.2)) (fun y5=>K1 (y5,((n+1:Nat):Int),y.1)))
     (by omega) r.pl e2 g8 (Prm8.at_ r.p8 _) (by have:=r.dims n (by rw[r.t];omega);omega) (by rw[E0];exact r.conv n hni) (by rw[E0];exact r.max n hni) (by rw[E0,e2];intro h7;have:=r.add n hni h7;omega)
    rw[E0]at k
    refine k ?_
    rw[aB h0,hG]at fin
    rw[aB h0]at l8 ll
    exact fin _ _ _ rfl (ll.trans e2) l8
   refine aO6 g8 (r.t8.at_ n) (fun hw he => ?_) (fun hw he => ?_) (fun hw => ?_)
   ·rw[wt hw]at cont
    exact cont _ rfl he
   ·have:=fin eU (F6 (m.2.getD n bY) g (T.getD n Z3)).2 back (by rw[wt hw,aA he]) e2 h8
    exact this
   ·rw[wf hw]at cont
    exact cont eU rfl rfl
  ·rename_i hn2
   have hL:pE m ps T F st s (n+1) back=((eU,0),back):=by
    unfold pE
    split
    ·rename_i g hg;exact absurd hg (hn2 g)
    ·rfl
   exact fin eU 0 back hL e2 h8
 ·rintro⟨z1,out,back⟩ ⟨rfl,e1,e2,h8,hq⟩ X
  unfold tE
  dsimp only at hq⊢
  rw[Nat.sub_self]at hq⊢
  rw[aA (by simp)]
  unfold qH at hq
  subst hq
  exact h0 rfl
theorem aC2 {m:Mdl}{ps:List Prm}{T:List T3}{F:List (List Int)}{st:Int}{g:T3}(h:EW m ps T F st g=0):aNv m ps T g st/\(∀ i,i<m.2.length+1->(T.getD i Z3).1=(T.getD 0 Z3).1.take 1++(aV m).1.getD i [])/\aIN m T F g=false:=by
 unfold EW at h
 split at h
 ·cases h
 rename_i h1
 split at h
 ·cases h
 rename_i h2
 split at h
 ·cases h
 rename_i h3
 refine⟨R5 (by simpa using h1),fun i hi => ?_,by simpa using h3⟩
 unfold aBr at h2
 simp only[GL,not_exists,not_and]at h2
 have:=h2 i (List.mem_range.2 hi)
 simpa using this
theorem aF3 {m:Mdl}{ps:List Prm}(h:xU m ps=true):(aV m).2.2=0:=by
 unfold xU at h
 simp only[aI,dS]at h
 exact h.1.1
theorem Z8 {m:Mdl}{ps:List Prm}{T:List T3}{F:List (List Int)}{st:Int}{g:T3}(hp:∀ p∈ps,Prm8 p)(h8:Ten8 T)(h:EW m ps T F st g=0):aJp m ps T F:=by
 obtain⟨k,hd,h3⟩:=aC2 h
 obtain⟨w1,w2⟩:=TR k.ps
 obtain⟨_,⟨k1,k2⟩,k3⟩:=lL w1
 obtain⟨s1,s2,s3⟩:=aFi (aF3 k.ps)
 have d0:=cX (k.t 0 (by have:=k.len;omega))
 refine⟨k2,w2,k.len,hp,h8,fun i hi=>(cX (k.t i hi)).1,fun i hi hx => ?_,fun i hi hx => ?_,fun i hi hx => ?_⟩
 ·have:=aI2 (.inl hx) (by rw[<- (s3 i hi).1];exact(s3 i hi).2)
  rw[hd i (by omega),kX,AC,this]
  omega
 ·unfold aIN at h3
  have ha:(m.2.any fun x=>x.1==3)=true:=by
   rw[GL]
   refine⟨m.2[i],fB _,?_⟩
   rw[aW,aP hi]at hx
   simpa using hx
  simp only[ha,J1,TA,dP,rN]at h3
  have:=k.len
  omega
 ·have:=LC (k3 i hi) hx
  rw[aC ((i:Int)-1)]at this
  omega
theorem aJS {m:Mdl}{ps:List Prm}{T:List T3}{F:List (List Int)}{g:T3}{s st:Int}{Q:List G3×Int×Int->Prop}(hl:m.2.length<=1000000)(hT:T.length<=1000000)(hp:∀ p∈ps,Prm8 p)(h8:Ten8 T)(hg:All8 g.2.2)(h:Q (M0 m ps T F g s st)):DC m ps (T,F) g s st Q:=by
 refine⟨aND hl hT ?_⟩
 unfold M0 at h
 by_cases he:EW m ps T F st g=0
 rotate_left
 ·rw[aA he]at h
  rw[aB (by simpa using he)]
  exact h
 rw[aB he]at h
 rw[aA (by simpa using he)]
 have r:=Z8 hp h8 he
 have hl2:=r.len
 have ht:=r.t
 refine⟨by show(0:Int)<=(T.length:Int)/\((8:Nat):Int)*(T.length:Int)<=_;omega,⟨by omega,by rw[pY];simp only[Int.toNat_natCast];omega⟩,⟨by omega,by omega⟩,?_⟩
 simp only[Int.toNat_natCast]
 refine aMX r (by rw[pY]) (by rw[zE,pY];exact ht) ?_ (fun h0 => ?_) (fun h1=>h)
 ·refine Bk8.set (fun l hl t ht => ?_) hg
  have:=aEV hl
  subst this;cases ht
 ·have key:∀ (n:Nat) (o:List G3) (b:List (List T3)),(qH m ps T F st s n o b).2.2=0->(qH m ps T F st s n o b).2.1=0:=by
   intro n
   induction n with
   | zero=>intro o b _;rfl
   | succ n ih =>
     intro o b hz
     unfold qH at hz⊢
     split
     ·rename_i h2;rw[aB h2]at hz;exact ih _ _ hz
     ·rename_i h2;rw[aA h2]at hz;exact absurd hz h2
  have k2:=key _ _ _ h0
  generalize qH m ps T F st s m.2.length (List.replicate m.2.length eU) ((List.replicate T.length []).set m.2.length [g])=z at h h0 k2⊢
  obtain⟨a,b,c⟩:=z
  dsimp only at h0 k2⊢
  subst h0 k2
  exact h
end Go.Proofs.YtcfpfefadlnmcaaGreat
