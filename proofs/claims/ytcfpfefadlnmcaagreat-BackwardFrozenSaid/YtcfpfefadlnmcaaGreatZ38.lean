/- Part of the proof. No condition. -/
import Derived.Test.YtcfpfefadlnmcaaGreatZ37
import Derived.Test.YtcfpfefadlnmcaaGreatZ36
namespace Go.Proofs.YtcfpfefadlnmcaaGreat
open Go.Mach Go.RowKit
set_option maxRecDepth 100000
set_option linter.unusedVariables false
set_option linter.unusedSimpArgs false
def InP (K plane:Nat)(l:List (Int×Int×Int)):Prop:=∀ z∈l,∃ a r c:Nat,z=((a:Int),(r:Int),(c:Int))/\a<plane/\r<K/\c<K
theorem aD5 {rows cols cr cc:Int}{k m:Nat}{z:Int×Int×Int}(h:z∈CL rows cols cr cc k m):∃ i j:Nat,i<m/\j<k/\(0<=cr+i/\cr+i<=rows-1)/\(0<=cc+j/\cc+j<=cols-1)/\z=((cr+i)*cols+(cc+j),(i:Int),(j:Int)):=by
 unfold CL oQ at h
 simp only[List.mem_flatMap,List.mem_range]at h
 obtain⟨i,hi,j,hj,hz⟩:=h
 unfold jO at hz
 split at hz
 ·rename_i hin
  simp only[Bool.and_eq_true]at hin
  refine⟨i,j,hi,hj,by simpa [inP] using hin.1,by simpa [inP] using hin.2,by simpa using hz⟩
 ·simp at hz
theorem aEf {rows cols:Nat}{cr cc:Int}{k m K:Nat}(hm:m<=K)(hk:k<=K):InP K (rows*cols) (CL rows cols cr cc k m):=by
 intro z hz
 obtain⟨i,j,hi,hj,h1,h2,rfl⟩:=aD5 hz
 obtain⟨y,hy⟩:=Int.eq_ofNat_of_zero_le h1.1
 obtain⟨x,hx⟩:=Int.eq_ofNat_of_zero_le h2.1
 refine⟨y*cols+x,i,j,?_,jV (by omega) (by omega),by omega,by omega⟩
 rw[hy,hx,Int.natCast_add,Int.natCast_mul]
theorem GM {rows cols K:Nat}{r c s p:Int}:InP K (rows*cols) (eM rows cols r c K s p):=by
 unfold eM
 split
 ·intro z hz;simp at hz
 ·rw[Int.toNat_natCast];exact aEf (Nat.le_refl _) (Nat.le_refl _)
theorem D7 {rows cols r c s p:Int}{K:Nat}:(eM rows cols r c K s p).length<=K*K:=by
 unfold eM
 split
 ·simp
 ·rw[Int.toNat_natCast];exact HU K
def UY (xd wd:List Int)(C plane K m o c:Nat)(z:Int×Int×Int):Int:=xd.getD ((m*C+c)*plane+z.1.toNat) 0*wd.getD (((o*C+c)*K+z.2.1.toNat)*K+z.2.2.toNat) 0
theorem aIY {C K plane m o c n O:Nat}{xd wd:List Int}{l:List (Int×Int×Int)}{t:Int}{K0:Int->Prop}(hx:xd.length=n*C*plane)(hw:wd.length=O*C*K*K)(bx:n*C*plane<=8192)(bw:O*C*K*K<=8192)(ax:All8 xd)(aw:All8 wd)(hm:m<n)(ho:o<O)(hc:c<C)(hl:InP K plane l)(hll:l.length<=1000000)
 (h:K0 (IntKind.i64.wrap (t+nF l (UY xd wd C plane K m o c)))):uA C K plane m o c (l.length:Int) xd wd l K0 (IntKind.i64.wrap t,0):=by
 refine⟨?_⟩
 have eg:(IntKind.i64.wrap t,(0:Int))=(fun i:Nat=>(IntKind.i64.wrap (t+bR (fun i=>UY xd wd C plane K m o c (l.getD i (0,0,0))) i),(i:Int))) 0:=by simp[bR]
 rw[eg]
 refine Loop.range (B:=mO C K plane m o c (l.length:Int) xd wd l K0) (f:=fun i:Nat=>(IntKind.i64.wrap (t+bR (fun i=>UY xd wd C plane K m o c (l.getD i (0,0,0))) i),(i:Int))) l.length (fun _=>True) trivial ?_ ?_
 ·intro i hi _ X hX
  have hX:=hX trivial
  unfold mO
  rw[if_pos (decide_eq_true (show(i:Int)<(l.length:Int) by omega))]
  dsimp only at hX⊢
  refine⟨by omega,?_⟩
  rw[Int.toNat_natCast]
  obtain⟨a,r,q,ez,ha,hr,hq⟩:=hl (l.getD i (0,0,0)) (by rw[List.getD_eq_getElem?_getD,List.getElem?_eq_getElem hi];exact List.getElem_mem hi)
  have g1:(m*C+c)*plane+a<n*C*plane:=jV (jV hm hc) ha
  have g2:((o*C+c)*K+r)*K+q<O*C*K*K:=jV (jV (jV ho hc) hr) hq
  have g3:m*C+c<n*C:=jV hm hc
  have g4:n*C<=n*C*plane:=Nat.le_mul_of_pos_right _ (by omega)
  have g5:(o*C+c)*K+r<O*C*K:=jV (jV ho hc) hr
  have g6:O*C*K<=O*C*K*K:=Nat.le_mul_of_pos_right _ (by omega)
  have g7:o*C+c<O*C:=jV ho hc
  have g8:O*C<=O*C*K:=Nat.le_mul_of_pos_right _ (by omega)
  have ef:UY xd wd C plane K m o c (l.getD i (0,0,0))=xd.getD ((m*C+c)*plane+a) 0*wd.getD (((o*C+c)*K+r)*K+q) 0:=by
   unfold UY;rw[ez];simp only[Int.toNat_natCast]
  simp only[bR,ef]at hX
  rw[ez]
  dsimp only
  rw[ix (r:=m) (n:=C) (i:=c) (by omega),ix (r:=m*C+c) (n:=plane) (i:=a) (by omega),ix (r:=o) (n:=C) (i:=c) (by omega),ix (r:=o*C+c) (n:=K) (i:=r) (by omega),ix (r:=(o*C+c)*K+r) (n:=K) (i:=q) (by omega)]
  refine⟨by omega,by omega,?_⟩
  simp only[Int.toNat_natCast]
  have b1:=ax.at_ ((m*C+c)*plane+a)
  have b2:=aw.at_ (((o*C+c)*K+r)*K+q)
  have b3:=R4 b1 b2
  rw[aA (xd.getD ((m*C+c)*plane+a) 0) (by omega) (by omega),aA (wd.getD (((o*C+c)*K+r)*K+q) 0) (by omega) (by omega),aA (_*_) (by omega) (by omega),aA ((i:Int)+1) (by omega) (by omega),TC,Int.add_assoc]
  exact hX
 ·intro _ X
  unfold mO
  rw[if_neg (by simp)]
  rw[EV l _ (0,0,0)]at h
  exact h
theorem aIK {C K plane m o n O:Nat}{xd wd:List Int}{l:List (Int×Int×Int)}{t:Int}{K0:Int->Prop}(hx:xd.length=n*C*plane)(hw:wd.length=O*C*K*K)(bx:n*C*plane<=8192)(bw:O*C*K*K<=8192)(ax:All8 xd)(aw:All8 wd)(hm:m<n)(ho:o<O)(hl:InP K plane l)(hll:l.length<=1000000)(hC:C<=10000)
 (h:K0 (IntKind.i64.wrap (t+bR (fun c=>nF l (UY xd wd C plane K m o c)) C))):t7 C K plane m o C xd wd l K0 (IntKind.i64.wrap t,0):=by
 refine⟨?_⟩
 have eg:(IntKind.i64.wrap t,(0:Int))=(fun i:Nat=>(IntKind.i64.wrap (t+bR (fun c=>nF l (UY xd wd C plane K m o c)) i),(i:Int))) 0:=by simp[bR]
 rw[eg]
 refine Loop.range (B:=mE C K plane m o C xd wd l K0) (f:=fun i:Nat=>(IntKind.i64.wrap (t+bR (fun c=>nF l (UY xd wd C plane K m o c)) i),(i:Int))) C (fun _=>True) trivial ?_ ?_
 ·intro c hc _ X hX
  have hX:=hX trivial
  unfold mE
  rw[if_pos (decide_eq_true (show(c:Int)<(C:Int) by omega))]
  dsimp only at hX⊢
  refine aIY hx hw bx bw ax aw hm ho hc hl hll ?_
  rw[aA ((c:Int)+1) (by omega) (by omega),Int.add_assoc]
  exact hX
 ·intro _ X
  unfold mE
  rw[if_neg (by simp)]
  exact h
section
variable {n C O K H V P Q:Nat} {s p:Int} {xd wd bd:List Int} {be e:Int}
def pB (H V C K:Nat)(s p:Int)(xd wd bd:List Int)(be e:Int)(m o y x:Nat):Int:=IntKind.i32.wrap (alF (bd.getD o 0) be e+bR (fun c=>nF (eM H V y x K s p) (UY xd wd C (H*V) K m o c)) C)
structure FwdIn (n C O K H V P Q:Nat)(xd wd bd:List Int):Prop where
 hx:xd.length=n*C*(H*V)
 hw:wd.length=O*C*K*K
 bx:n*C*(H*V)<=8192
 bw:O*C*K*K<=8192
 ax:All8 xd
 aw:All8 wd
 ab:All8 bd
 hb:bd.length=O
 hK:K<=5
 hC:1<=C
 hn:1<=n
 hO:1<=O
 h0:1<=K
 bo:n*O*P*Q<=8192
theorem FwdIn.le {n C O K H V P Q:Nat}{xd wd bd:List Int}(g:FwdIn n C O K H V P Q xd wd bd):C<=8192/\O<=8192:=by
 have h1:=g.bw
 have h2:=g.h0
 have h3:=g.hO
 have h4:=g.hC
 have h5:O*C<=O*C*K:=Nat.le_mul_of_pos_right _ h2
 have h6:O*C*K<=O*C*K*K:=Nat.le_mul_of_pos_right _ h2
 have h7:C<=O*C:=Nat.le_mul_of_pos_left _ h3
 have h8:O<=O*C:=Nat.le_mul_of_pos_right _ h4
 omega
theorem aIS (g:FwdIn n C O K H V P Q xd wd bd){C0:Nat->Nat->Nat->Nat->Prop}{L:List Int}{m y x:Nat}{K0:List Int->Prop}(hm:m<n)(hy:y<P)(hx:x<Q)(hL:Fill n O P Q (pB H V C K s p xd wd bd be e) C0 L)
 (h:∀ L',Fill n O P Q (pB H V C K s p xd wd bd be e) (fun m' o' y' x'=>C0 m' o' y' x'\/(m'=m/\y'=y/\x'=x)) L'->K0 L') :
 tV C O K ((H*V:Nat):Int) y x m O xd wd be bd P Q e (eM H V y x K s p) K0 (0,L):=by
 refine⟨?_⟩
 have hle:=g.le
 have hbo:=g.bo
 refine Loop.rangeI (B:=mU C O K ((H*V:Nat):Int) y x m O xd wd be bd P Q e (eM H V y x K s p) K0) O (fun i st=>st.1=(i:Int)/\Fill n O P Q (pB H V C K s p xd wd bd be e) (fun m' o' y' x'=>C0 m' o' y' x'\/(m'=m/\y'=y/\x'=x/\o'<i)) st.2) ⟨rfl,hL.mono fun m' o' y' x' _ _ _ _ hc=>hc.elim id fun h=>absurd h.2.2.2 (by omega)⟩ ?_ ?_
 ·rintro o ho ⟨o',M⟩ ⟨e1,hM⟩ X hX
  simp only at e1 hM
  subst e1
  unfold mU
  rw[if_pos (decide_eq_true (show(o:Int)<(O:Int) by omega))]
  dsimp only
  refine⟨by rw[g.hb];omega,?_⟩
  rw[Int.toNat_natCast]
  have bb:=g.ab.at_ o
  rw[aA (bd.getD o 0) (by omega) (by omega)]
  refine aEc ?_
  have ba:=UK (b:=be) (c:=e) bb
  have hK:=g.hK
  have hKK:K*K<=5*5:=Nat.mul_le_mul hK hK
  have hwl:=D7 (rows:=H) (cols:=V) (r:=y) (c:=x) (s:=s) (p:=p) (K:=K)
  have e0:(alF (bd.getD o 0) be e,(0:Int))=(IntKind.i64.wrap (alF (bd.getD o 0) be e),(0:Int)):=by rw[aA _ (by omega) (by omega)]
  rw[e0]
  refine aIK g.hx g.hw g.bx g.bw g.ax g.aw hm ho GM (by omega) (by omega) ?_
  have g1:=F9 (P:=P) (Q:=Q) hm ho hy hx
  unfold ix4 at g1
  have g2:m*O+o<=(m*O+o)*P:=Nat.le_mul_of_pos_right _ (by omega)
  have g3:(m*O+o)*P+y<=((m*O+o)*P+y)*Q:=Nat.le_mul_of_pos_right _ (by omega)
  rw[ix (r:=m) (n:=O) (i:=o) (by omega),ix (r:=m*O+o) (n:=P) (i:=y) (by omega),ix (r:=(m*O+o)*P+y) (n:=Q) (i:=x) (by omega)]
  refine⟨by rw[hM.len];omega,?_⟩
  rw[Int.toNat_natCast,aA ((o:Int)+1) (by omega) (by omega),aBA]
  refine hX _ ⟨by simp,?_⟩
  refine hM.set hm ho hy hx rfl fun m' o' y' x' _ _ _ _ hc => ?_
  rcases hc with hc|⟨c1,c2,c3,c4⟩
  ·exact .inl (.inl hc)
  ·rcases Nat.lt_or_ge o' o with c5|c5
   ·exact .inl (.inr ⟨c1,c2,c3,c5⟩)
   ·exact .inr ⟨c1,by omega,c2,c3⟩
 ·rintro⟨o',M⟩ ⟨e1,hM⟩ X
  simp only at e1 hM
  subst e1
  unfold mU
  rw[if_neg (by simp)]
  exact h _ (hM.mono fun m' o' y' x' _ h2 _ _ hc=>hc.elim .inl fun⟨a,b,c⟩ => .inr ⟨a,b,c,h2⟩)
theorem aIE (g:FwdIn n C O K H V P Q xd wd bd){C0:Nat->Nat->Nat->Nat->Prop}{L:List Int}{y x:Nat}{K0:List Int->Prop}(hn:n<=8192)(hy:y<P)(hx:x<Q)(hL:Fill n O P Q (pB H V C K s p xd wd bd be e) C0 L)
 (h:∀ L',Fill n O P Q (pB H V C K s p xd wd bd be e) (fun m' o' y' x'=>C0 m' o' y' x'\/(y'=y/\x'=x)) L'->K0 L') :
 tP C O K ((H*V:Nat):Int) y x n xd wd be bd P Q e (eM H V y x K s p) K0 (0,L):=by
 refine⟨?_⟩
 refine Loop.rangeI (B:=mJ C O K ((H*V:Nat):Int) y x n xd wd be bd P Q e (eM H V y x K s p) K0) n (fun i st=>st.1=(i:Int)/\Fill n O P Q (pB H V C K s p xd wd bd be e) (fun m' o' y' x'=>C0 m' o' y' x'\/(y'=y/\x'=x/\m'<i)) st.2) ⟨rfl,hL.mono fun m' o' y' x' _ _ _ _ hc=>hc.elim id fun h=>absurd h.2.2 (by omega)⟩ ?_ ?_
 ·rintro m hm ⟨m',M⟩ ⟨e1,hM⟩ X hX
  simp only at e1 hM
  subst e1
  unfold mJ
  rw[if_pos (decide_eq_true (show(m:Int)<(n:Int) by omega))]
  refine aIS g hm hy hx hM fun L' hL' => ?_
  dsimp only
  rw[aA ((m:Int)+1) (by omega) (by omega)]
  refine hX _ ⟨by simp,hL'.mono fun m' o' y' x' _ _ _ _ hc => ?_⟩
  rcases hc with hc|⟨c1,c2,c3⟩
  ·exact .inl (.inl hc)
  ·rcases Nat.lt_or_ge m' m with c5|c5
   ·exact .inl (.inr ⟨c1,c2,c5⟩)
   ·exact .inr ⟨by omega,c1,c2⟩
 ·rintro⟨m',M⟩ ⟨e1,hM⟩ X
  simp only at e1 hM
  subst e1
  unfold mJ
  rw[if_neg (by simp)]
  exact h _ (hM.mono fun m' o' y' x' h2 _ _ _ hc=>hc.elim .inl fun⟨a,b⟩ => .inr ⟨a,b,h2⟩)
theorem aIH (g:FwdIn n C O K H V P Q xd wd bd){C0:Nat->Nat->Nat->Nat->Prop}{L:List Int}{y:Nat}{K0:List Int->Prop}(hn:n<=8192)(hQ:Q<=8192)(hy:y<P)(hL:Fill n O P Q (pB H V C K s p xd wd bd be e) C0 L)
 (h:∀ L',Fill n O P Q (pB H V C K s p xd wd bd be e) (fun m' o' y' x'=>C0 m' o' y' x'\/y'=y) L'->K0 L') :
 tN n C O K ((H*V:Nat):Int) y Q xd wd be bd H V K s p P Q e K0 (0,L):=by
 refine⟨?_⟩
 refine Loop.rangeI (B:=mT n C O K ((H*V:Nat):Int) y Q xd wd be bd H V K s p P Q e K0) Q (fun i st=>st.1=(i:Int)/\Fill n O P Q (pB H V C K s p xd wd bd be e) (fun m' o' y' x'=>C0 m' o' y' x'\/(y'=y/\x'<i)) st.2) ⟨rfl,hL.mono fun m' o' y' x' _ _ _ _ hc=>hc.elim id fun h=>absurd h.2 (by omega)⟩ ?_ ?_
 ·rintro x hx ⟨x',M⟩ ⟨e1,hM⟩ X hX
  simp only at e1 hM
  subst e1
  unfold mT
  rw[if_pos (decide_eq_true (show(x:Int)<(Q:Int) by omega))]
  refine⟨?_⟩
  refine DJ ?_
  refine aIE g hn hy hx hM fun L' hL' => ?_
  dsimp only
  rw[aA ((x:Int)+1) (by omega) (by omega)]
  refine hX _ ⟨by simp,hL'.mono fun m' o' y' x' _ _ _ _ hc => ?_⟩
  rcases hc with hc|⟨c1,c2⟩
  ·exact .inl (.inl hc)
  ·rcases Nat.lt_or_ge x' x with c5|c5
   ·exact .inl (.inr ⟨c1,c5⟩)
   ·exact .inr ⟨c1,by omega⟩
 ·rintro⟨x',M⟩ ⟨e1,hM⟩ X
  simp only at e1 hM
  subst e1
  unfold mT
  rw[if_neg (by simp)]
  exact h _ (hM.mono fun m' o' y' x' _ _ _ h2 hc=>hc.elim .inl fun a => .inr ⟨a,h2⟩)
theorem aI1 (g:FwdIn n C O K H V P Q xd wd bd){L:List Int}{K0:List Int->Prop}(hn:n<=8192)(hQ:Q<=8192)(hP:P<=8192)(hL:L.length=n*O*P*Q)
 (h:K0 (GU n O P Q (pB H V C K s p xd wd bd be e))) :
 uB n C O K ((H*V:Nat):Int) P xd wd be bd H V K s p P Q e K0 (0,L):=by
 refine⟨?_⟩
 refine Loop.rangeI (B:=mM n C O K ((H*V:Nat):Int) P xd wd be bd H V K s p P Q e K0) P (fun i st=>st.1=(i:Int)/\Fill n O P Q (pB H V C K s p xd wd bd be e) (fun m' o' y' x'=>y'<i) st.2) ⟨rfl,hL,fun m' o' y' x' _ _ _ _ hc=>absurd hc (by omega)⟩ ?_ ?_
 ·rintro y hy ⟨y',M⟩ ⟨e1,hM⟩ X hX
  simp only at e1 hM
  subst e1
  unfold mM
  rw[if_pos (decide_eq_true (show(y:Int)<(P:Int) by omega))]
  refine aIH g hn hQ hy hM fun L' hL' => ?_
  dsimp only
  rw[aA ((y:Int)+1) (by omega) (by omega)]
  refine hX _ ⟨by simp,hL'.mono fun m' o' y' x' _ _ _ _ hc => ?_⟩
  rcases Nat.lt_or_ge y' y with c5|c5
  ·exact .inl c5
  ·exact .inr (by omega)
 ·rintro⟨y',M⟩ ⟨e1,hM⟩ X
  simp only at e1 hM
  subst e1
  unfold mM
  rw[if_neg (by simp)]
  rw[hM.all fun _ _ y' _ _ _ hy _=>hy]
  exact h
end
open Go.Mach Go.RowKit
set_option maxRecDepth 100000
set_option linter.unusedVariables false
set_option linter.unusedSimpArgs false
theorem aHY {l:List Int}(h:(l.length:Int)=4):∃ a b c d,l=[a,b,c,d]:=by
 match l,h with
 | [a,b,c,d],_=>exact⟨a,b,c,d,rfl⟩
 | [],h=>simp at h
 | [_],h=>simp at h
 | [_,_],h=>simp at h
 | [_,_,_],h=>simp at h
 | _::_::_::_::_::r,h=>simp at h;omega
theorem len1 {l:List Int}(h:(l.length:Int)=1):∃ a,l=[a]:=by
 match l,h with
 | [a],_=>exact⟨a,rfl⟩
 | [],h=>simp at h
 | _::_::r,h=>simp at h;omega
theorem u7 {l:List T3}(h:jE l=0):∀ t∈l,cL t=true/\(t.1.length:Int)=4:=by
 unfold jE at h
 split at h
 ·split at h
  ·rename_i h1 h2
   intro t ht
   exact⟨List.all_eq_true.1 h1 t ht,by have:=List.all_eq_true.1 h2 t ht;simpa using this⟩
  ·cases h
 ·cases h
theorem UJ {t:T3}(h:cL t=true)(hl:(t.1.length:Int)=4):∃ n m p q:Nat,t.1=[(n:Int),(m:Int),(p:Int),(q:Int)]/\1<=n/\1<=m/\1<=p/\1<=q/\n*m*p*q<=8192/\t.2.2.length=n*m*p*q /\ -64<=t.2.1/\t.2.1<=64:=by
 obtain⟨h1,h2,h3,h4⟩:=eK.1 h
 obtain⟨a,b,c,d,e⟩:=aHY hl
 rw[e]at h1 h2
 obtain⟨n,m,p,q,rfl,rfl,rfl,rfl,g1,g2,g3,g4,g5,g6⟩:=aC6 h1
 rw[g6]at h2
 exact⟨n,m,p,q,e,g1,g2,g3,g4,g5,by omega,h3.1,h3.2⟩
theorem aIO {t:T3}(h:cL t=true)(hl:(t.1.length:Int)=1):∃ n:Nat,t.1=[(n:Int)]/\1<=n/\n<=4096/\t.2.2.length=n:=by
 obtain⟨h1,h2,h3,h4⟩:=eK.1 h
 obtain⟨a,e⟩:=len1 hl
 rw[e]at h1 h2
 obtain⟨g1,g2,g3⟩:=aFK h1
 obtain⟨n,rfl⟩:=Int.eq_ofNat_of_zero_le (show 0<=a by omega)
 rw[g3]at h2
 exact⟨n,e,by omega,by omega,by omega⟩
theorem nE {n k s p:Int}(h:0<aL n k s p):(1<=n/\n<=16)/\(1<=k/\k<=5)/\(1<=s/\s<=4)/\(0<=p/\p<=k-1)/\k<=n+2*p/\aL n k s p=(n+2*p-k) / s+1:=by
 have hb:=(vW n k s p).2.2 (by omega)
 obtain⟨b1,b2,b3,b4,b5⟩:=A1 hb
 refine⟨b1,b2,b3,b4,b5,?_⟩
 unfold aL
 rw[hb,if_neg (by simp)]
theorem pD {n k s p:Int}:∃ P:Nat,aL n k s p=P/\P<=25:=by
 obtain⟨h1,h2,_⟩:=vW n k s p
 obtain⟨P,e⟩:=Int.eq_ofNat_of_zero_le h1
 exact⟨P,e,by omega⟩
def UQ (x w b:T3)(s p:Int):Bool :=
 (((!(decide (0<aL (x.1.getD 2 0) (w.1.getD 2 0) s p)&&decide (0<aL (x.1.getD 3 0) (w.1.getD 2 0) s p))||(w.1.getD 1 0 != x.1.getD 1 0))||(w.1.getD 3 0 != w.1.getD 2 0))||((b.1.length:Int) != 1))||(b.1.getD 0 0 != w.1.getD 0 0)
def DF (x w:T3)(s p:Int):List Int:=[x.1.getD 0 0,w.1.getD 0 0,aL (x.1.getD 2 0) (w.1.getD 2 0) s p,aL (x.1.getD 3 0) (w.1.getD 2 0) s p]
def aFf (x w:T3):Int:=x.1.getD 1 0*w.1.getD 2 0*w.1.getD 2 0
def aD6 (x w b:T3)(s p:Int):Int :=
 if (!cL b)=true then 1
 else if (jE [x,w] != 0)=true then jE [x,w]
 else if UQ x w b s p=true then 2
 else(qA (DF x w s p) (x.2.1+w.2.1) (aFf x w)).2
def YF (x w b:T3)(s p:Int):List Int :=
 GU (x.1.getD 0 0).toNat (w.1.getD 0 0).toNat (aL (x.1.getD 2 0) (w.1.getD 2 0) s p).toNat (aL (x.1.getD 3 0) (w.1.getD 2 0) s p).toNat
  (pB (x.1.getD 2 0).toNat (x.1.getD 3 0).toNat (x.1.getD 1 0).toNat (w.1.getD 2 0).toNat s p x.2.2 w.2.2 b.2.2 b.2.1 (x.2.1+w.2.1))
def JB (x w b:T3)(s p:Int):T3×Int:=if (aD6 x w b s p != 0)=true then(Z3,aD6 x w b s p)else((DF x w s p,(x.2.1+w.2.1,YF x w b s p)),0)
theorem S9 {a b:Int}:(a != b)=false ↔ a=b:=by simp
theorem aGo {x w b:T3}{s p:Int}{Q:T3×Int->Prop}(ax:All8 x.2.2)(aw:All8 w.2.2)(ab:All8 b.2.2)(hq:Q (JB x w b s p)):AM x w b s p Q:=by
 refine⟨?_⟩
 refine kG ?_
 unfold JB aD6 at hq
 by_cases h1:(!cL b)=true
 ·rw[if_pos h1]
  simp only[h1,if_true]at hq
  exact hq
 ·rw[if_neg h1]
  simp only[h1,Bool.false_eq_true,if_false]at hq
  refine VL (by simp) ?_
  show(if (jE [x,w] != 0)=true then _ else _)
  by_cases h2:(jE [x,w] != 0)=true
  ·rw[if_pos h2]
   simp only[h2,if_true]at hq
   exact hq
  ·rw[if_neg h2]
   simp only[h2,Bool.false_eq_true,if_false]at hq
   have hz:jE [x,w]=0:=by simpa using h2
   have hzz:=u7 hz
   obtain⟨mx,lx⟩:=hzz x (by simp)
   obtain⟨mw,lw⟩:=hzz w (by simp)
   obtain⟨n,C,H,V,ex,x1,x2,x3,x4,x5,x6,x7,x8⟩:=UJ mx lx
   obtain⟨O,C',K,K',ew,w1,w2,w3,w4,w5,w6,w7,w8⟩:=UJ mw lw
   refine⟨by omega,by omega,by omega,by omega,by omega,by omega,aA6 ?_⟩
   refine nL (b := !(decide (0<aL (x.1.getD 2 0) (w.1.getD 2 0) s p)&&decide (0<aL (x.1.getD 3 0) (w.1.getD 2 0) s p))) (c:=w.1.getD 1 0 != x.1.getD 1 0) (fun _ P hp=>⟨by omega,hp⟩) (fun v4 e4 => ?_) rfl
   refine nL (c:=w.1.getD 3 0 != w.1.getD 2 0) (fun _ P hp=>⟨by omega,hp⟩) (fun v6 e6 => ?_) rfl
   refine nL (b:=v6||((b.1.length:Int) != 1)) (c:=b.1.getD 0 0 != w.1.getD 0 0) (fun hb P hp=>⟨by simp only[Bool.or_eq_false_iff,S9]at hb;omega,hp⟩) (fun v8 e8 => ?_) rfl
   have hv:v8=UQ x w b s p:=by rw[e8,e6,e4];rfl
   rw[<- hv]at hq
   cases v8 with
   | true=>exact hq
   | false =>
     rw[if_neg (by simp)]
     simp only[Bool.false_eq_true,if_false]at hq
     have hv2:=hv.symm
     unfold UQ at hv2
     simp only[Bool.or_eq_false_iff,S9,Bool.not_eq_false',Bool.and_eq_true,decide_eq_true_eq]at hv2
     obtain⟨⟨⟨⟨⟨o1,o2⟩,c1⟩,c2⟩,c3⟩,c4⟩:=hv2
     obtain⟨O',eb,b1,b2,b3⟩:=aIO (by simpa using h1) c3
     simp only[ex,ew,eb,List.getD_cons_zero,List.getD_cons_succ]at o1 o2 c1 c2 c4
     have ec:C'=C:=by omega
     have ek:K'=K:=by omega
     have eo:O'=O:=by omega
     subst ec ek eo
     obtain⟨a1,a2,a3,a4,a5,a6⟩:=nE o1
     obtain⟨d1,d2,d3,d4,d5,d6⟩:=nE o2
     obtain⟨P,eP,hP⟩:=pD (n:=H) (k:=K') (s:=s) (p:=p)
     obtain⟨R,eR,hR⟩:=pD (n:=V) (k:=K') (s:=s) (p:=p)
     have hC:C'<=8192:=by
      have:C'<=n*C':=Nat.le_mul_of_pos_left _ (by omega)
      have:n*C'<=n*C'*H:=Nat.le_mul_of_pos_right _ (by omega)
      have:n*C'*H<=n*C'*H*V:=Nat.le_mul_of_pos_right _ (by omega)
      omega
     have hn:n<=8192:=by
      have:n<=n*C':=Nat.le_mul_of_pos_right _ (by omega)
      have:n*C'<=n*C'*H:=Nat.le_mul_of_pos_right _ (by omega)
      have:n*C'*H<=n*C'*H*V:=Nat.le_mul_of_pos_right _ (by omega)
      omega
     have k1:C'*K'<=8192*5:=Nat.mul_le_mul hC (by omega)
     have k2:C'*K'*K'<=8192*5*5:=Nat.mul_le_mul k1 (by omega)
     have k3:H*V<=16*16:=Nat.mul_le_mul (by omega) (by omega)
     unfold aFf DF YF at hq
     simp only[ex,ew,List.getD_cons_zero,List.getD_cons_succ,eP,eR]at hq⊢
     refine⟨?_⟩
     rw[vL (r:=C') (n:=K') (by omega),vL (r:=C'*K') (n:=K') (by omega),aA (x.2.1+w.2.1) (by omega) (by omega)]
     rw[<- Int.natCast_mul,<- Int.natCast_mul]at hq
     refine NU ?_
     by_cases h9:(qA [(n:Int),(O':Int),(P:Int),(R:Int)] (x.2.1+w.2.1) ((C'*K'*K':Nat):Int)).2=0
     ·obtain⟨f1,f2,f3,f4⟩:=vP h9
      rw[f4]at hq⊢
      simp only[bne_self_eq_false,Bool.false_eq_true,if_false]at hq⊢
      obtain⟨n',m',p',q',e1,e2,e3,e4,_,_,_,_,s5,s6⟩:=aC6 f3
      have e1:n'=n:=by omega
      have e2:m'=O':=by omega
      have e3:p'=P:=by omega
      have e4:q'=R:=by omega
      subst e1 e2 e3 e4
      rw[s6]
      have g:FwdIn n' C' m' K' H V p' q' x.2.2 w.2.2 b.2.2:=⟨by rw[x6];exact Nat.mul_assoc _ _ _,w6,by rw[<- Nat.mul_assoc];exact x5,by omega,ax,aw,ab,b3,by omega,by omega,by omega,by omega,by omega,s5⟩
      rw[vL (r:=H) (n:=V) (by omega)]
      refine aI1 g (by omega) (by omega) (by omega) ?_ ?_
      ·rw[Int.toNat_natCast];simp
      ·simp only[Int.toNat_natCast]at hq
       exact hq
     ·rw[if_pos (by simpa using h9)]
      rw[if_pos (by simpa using h9)]at hq
      have:(qA [(n:Int),(O':Int),(P:Int),(R:Int)] (x.2.1+w.2.1) ((C'*K'*K':Nat):Int)).1=Z3:=by
       unfold qA at h9⊢
       split
       ·rfl
       ·split
        ·rfl
        ·split
         ·rfl
         ·rename_i g1 g2 g3
          rw[if_neg g1,if_neg g2,if_neg g3]at h9
          exact absurd rfl h9
      dsimp only
      rw[this]
      exact hq
end Go.Proofs.YtcfpfefadlnmcaaGreat
namespace Go.Proofs.YtcfpfefadlnmcaaGreat
end Go.Proofs.YtcfpfefadlnmcaaGreat

namespace Go.Proofs.YtcfpfefadlnmcaaGreat
open Go.Mach Go.RowKit
set_option maxRecDepth 100000
set_option linter.unusedVariables false
set_option linter.unusedSimpArgs false
def w4 (n O P Q:Nat)(f:Nat->Nat->Nat->Nat->Int):List Int:=GU n O P Q fun m o p q=>IntKind.i32.wrap (f m o p q)
theorem KV (n O P Q:Nat)(f:Nat->Nat->Nat->Nat->Int):(w4 n O P Q f).length=n*O*P*Q:=HO _ _ _ _ _
theorem QI {n O P Q m o p q:Nat}{f:Nat->Nat->Nat->Nat->Int}(hm:m<n)(ho:o<O)(hp:p<P)(hq:q<Q):(w4 n O P Q f).getD (ix4 O P Q m o p q) 0=IntKind.i32.wrap (f m o p q):=HS hm ho hp hq
theorem nG {n O P Q:Nat}{f g:Nat->Nat->Nat->Nat->Int}(h:∀ m o p q,m<n->o<O->p<P->q<Q->f m o p q=g m o p q):w4 n O P Q f=w4 n O P Q g :=
 ZU fun m o p q hm ho hp hq=>by rw[h m o p q hm ho hp hq]
theorem aGi {n O P Q m0 o0 p0 q0:Nat}{f:Nat->Nat->Nat->Nat->Int}{v:Int}(hm:m0<n)(ho:o0<O)(hp:p0<P)(hq:q0<Q) :
 (w4 n O P Q f).set (ix4 O P Q m0 o0 p0 q0) (IntKind.i32.wrap ((w4 n O P Q f).getD (ix4 O P Q m0 o0 p0 q0) 0+v))=w4 n O P Q fun m o p q=>f m o p q+if m=m0/\o=o0/\p=p0/\q=q0 then v else 0:=by
 refine E2 (by rw[List.length_set];exact KV _ _ _ _ _) (KV _ _ _ _ _) fun m o p q h1 h2 h3 h4 => ?_
 have hl:=F9 hm ho hp hq
 rw[QM (by rw[KV];exact hl)]
 by_cases e:ix4 O P Q m0 o0 p0 q0=ix4 O P Q m o p q
 ·obtain⟨e1,e2,e3,e4⟩:=aBE ho hp hq h2 h3 h4 e
  rw[if_pos e,QI h1 h2 h3 h4,if_pos ⟨e1.symm,e2.symm,e3.symm,e4.symm⟩,QI hm ho hp hq,LF,e1,e2,e3,e4]
 ·rw[if_neg e,QI h1 h2 h3 h4,QI h1 h2 h3 h4,if_neg,Int.add_zero]
  rintro⟨rfl,rfl,rfl,rfl⟩
  exact e rfl
theorem aGu (n O P Q:Nat):List.replicate (n*O*P*Q) (0:Int)=w4 n O P Q fun _ _ _ _=>0:=by
 refine E2 (by simp) (KV _ _ _ _ _) fun m o p q h1 h2 h3 h4 => ?_
 rw[T0 (F9 h1 h2 h3 h4),QI h1 h2 h3 h4]
 show 0=IntKind.i32.wrap 0
 decide
section
variable {n O C K P Q plane:Nat} {gd xd:List Int}
structure aBq (n O C K P Q plane:Nat)(gd xd:List Int):Prop where
 hg:gd.length=n*O*P*Q
 hx:xd.length=n*C*plane
 bg:n*O*P*Q<=8192
 bx:n*C*plane<=8192
 bw:O*C*K*K<=8192
 ag:All8 gd
 ax:All8 xd
 hn:1<=n
 hO:1<=O
 hC:1<=C
 hP:1<=P
 hQ:1<=Q
def wtG (O C P Q plane:Nat)(gd xd:List Int)(i m o c a:Nat):Int:=gd.getD ((m*O+o)*P*Q+i) 0*xd.getD ((m*C+c)*plane+a) 0
theorem aI5 (h:aBq n O C K P Q plane gd xd){f:Nat->Nat->Nat->Nat->Int}{i m o a r q:Nat}{K0:List Int->Prop}(hi:i<P*Q)(hm:m<n)(ho:o<O)(ha:a<plane)(hr:r<K)(hq:q<K)
 (hk:K0 (w4 O C K K fun o' c' r' q'=>f o' c' r' q'+if o'=o/\r'=r/\q'=q then wtG O C P Q plane gd xd i m o c' a else 0)) :
 vF K O C plane i m o C gd xd P Q a r q K0 (0,w4 O C K K f):=by
 refine⟨?_⟩
 have eg:((0:Int),w4 O C K K f)=(fun j:Nat=>((j:Int),w4 O C K K fun o' c' r' q'=>f o' c' r' q'+if o'=o/\c'<j/\r'=r/\q'=q then wtG O C P Q plane gd xd i m o c' a else 0)) 0:=by
  dsimp only
  congr 1
  refine nG fun o' c' r' q' _ _ _ _ => ?_
  rw[if_neg (by omega)];omega
 rw[eg]
 refine Loop.range (B:=nP K O C plane i m o C gd xd P Q a r q K0) (f:=fun j:Nat=>((j:Int),w4 O C K K fun o' c' r' q'=>f o' c' r' q'+if o'=o/\c'<j/\r'=r/\q'=q then wtG O C P Q plane gd xd i m o c' a else 0)) C (fun _=>True) trivial ?_ ?_
 ·intro c hc _ X hX
  have hX:=hX trivial
  have k1:=h.bg;have k2:=h.bx;have k3:=h.bw
  have i1:=F9 (P:=K) (Q:=K) ho hc hr hq
  have i2:(m*C+c)*plane+a<n*C*plane:=jV (jV hm hc) ha
  have i3:(m*O+o)*(P*Q)+i<n*O*(P*Q):=jV (jV hm ho) hi
  rw[<- Nat.mul_assoc,<- Nat.mul_assoc]at i3
  have j1:o*C+c<=(o*C+c)*K:=Nat.le_mul_of_pos_right _ (by omega)
  have j2:(o*C+c)*K+r<=((o*C+c)*K+r)*K:=Nat.le_mul_of_pos_right _ (by omega)
  have j3:m*C+c<=(m*C+c)*plane:=Nat.le_mul_of_pos_right _ (by omega)
  have j4:m*O+o<=(m*O+o)*P:=Nat.le_mul_of_pos_right _ h.hP
  have j5:(m*O+o)*P<=(m*O+o)*P*Q:=Nat.le_mul_of_pos_right _ h.hQ
  unfold ix4 at i1
  have hc8:c<=8192:=by omega
  unfold nP
  rw[if_pos (decide_eq_true (show(c:Int)<(C:Int) by omega))]
  dsimp only at hX⊢
  rw[ix (r:=o) (n:=C) (i:=c) (by omega),ix (r:=o*C+c) (n:=K) (i:=r) (by omega),ix (r:=(o*C+c)*K+r) (n:=K) (i:=q) (by omega)]
  rw[ix (r:=m) (n:=O) (i:=o) (by omega),vL (r:=m*O+o) (n:=P) (by omega),ix (r:=(m*O+o)*P) (n:=Q) (i:=i) (by omega)]
  rw[ix (r:=m) (n:=C) (i:=c) (by omega),ix (r:=m*C+c) (n:=plane) (i:=a) (by omega)]
  rw[KV]
  refine⟨by omega,by rw[h.hg];omega,by rw[h.hx];omega,by omega,?_⟩
  simp only[Int.toNat_natCast]
  rw[aA ((c:Int)+1) (by omega) (by omega),KE]
  have g8:=h.ag.at_ ((m*O+o)*P*Q+i)
  have x8:=h.ax.at_ ((m*C+c)*plane+a)
  rw[wA (gd.getD ((m*O+o)*P*Q+i) 0) (by omega) (by omega),wA (xd.getD ((m*C+c)*plane+a) 0) (by omega) (by omega)]
  have es:=aGi (n:=O) (O:=C) (P:=K) (Q:=K) (m0:=o) (o0:=c) (p0:=r) (q0:=q) (f:=fun o' c' r' q'=>f o' c' r' q'+if o'=o/\c'<c/\r'=r/\q'=q then wtG O C P Q plane gd xd i m o c' a else 0) (v:=gd.getD ((m*O+o)*P*Q+i) 0*xd.getD ((m*C+c)*plane+a) 0) ho hc hr hq
  unfold ix4 at es
  rw[es]
  have ef:(w4 O C K K fun o' c' r' q'=>(f o' c' r' q'+if o'=o/\c'<c/\r'=r/\q'=q then wtG O C P Q plane gd xd i m o c' a else 0)+if o'=o/\c'=c/\r'=r/\q'=q then gd.getD ((m*O+o)*P*Q+i) 0*xd.getD ((m*C+c)*plane+a) 0 else 0)=w4 O C K K fun o' c' r' q'=>f o' c' r' q'+if o'=o/\c'<c+1/\r'=r/\q'=q then wtG O C P Q plane gd xd i m o c' a else 0:=by
   refine nG fun o' c' r' q' _ _ _ _ => ?_
   rw[Int.add_assoc]
   congr 1
   by_cases g:o'=o/\r'=r/\q'=q
   ·obtain⟨g1,g2,g3⟩:=g
    subst g1 g2 g3
    by_cases g4:c'=c
    ·subst g4
     rw[if_neg (by omega),if_pos ⟨rfl,rfl,rfl,rfl⟩,if_pos ⟨rfl,by omega,rfl,rfl⟩]
     unfold wtG;omega
    ·rw[if_neg (c:=_/\c'=c/\_) (by omega)]
     by_cases g5:c'<c
     ·rw[if_pos ⟨rfl,g5,rfl,rfl⟩,if_pos ⟨rfl,by omega,rfl,rfl⟩];omega
     ·rw[if_neg (by omega),if_neg (by omega)];omega
   ·rw[if_neg (fun hh=>g ⟨hh.1,hh.2.2⟩),if_neg (fun hh=>g ⟨hh.1,hh.2.2⟩),if_neg (fun hh=>g ⟨hh.1,hh.2.2⟩)];omega
  rw[ef]
  exact hX
 ·intro _ X
  unfold nP
  rw[if_neg (by simp)]
  have:(w4 O C K K fun o' c' r' q'=>f o' c' r' q'+if o'=o/\c'<C/\r'=r/\q'=q then wtG O C P Q plane gd xd i m o c' a else 0)=w4 O C K K fun o' c' r' q'=>f o' c' r' q'+if o'=o/\r'=r/\q'=q then wtG O C P Q plane gd xd i m o c' a else 0:=by
   refine nG fun o' c' r' q' _ h2 _ _ => ?_
   congr 1
   by_cases g:o'=o/\r'=r/\q'=q
   ·rw[if_pos g,if_pos ⟨g.1,h2,g.2⟩]
   ·rw[if_neg g,if_neg (fun hh=>g ⟨hh.1,hh.2.2⟩)]
  dsimp only
  rw[this]
  exact hk
theorem aI6 (h:aBq n O C K P Q plane gd xd){f:Nat->Nat->Nat->Nat->Int}{i m a r q:Nat}{K0:List Int->Prop}(hi:i<P*Q)(hm:m<n)(ha:a<plane)(hr:r<K)(hq:q<K)
 (hk:K0 (w4 O C K K fun o' c' r' q'=>f o' c' r' q'+if r'=r/\q'=q then wtG O C P Q plane gd xd i m o' c' a else 0)) :
 vN K O C plane i m O gd xd P Q a r q K0 (0,w4 O C K K f):=by
 refine⟨?_⟩
 have hO:O<=8192:=by
  have:=h.bg
  have:=h.hn;have:=h.hP;have:=h.hQ
  have:O<=n*O:=Nat.le_mul_of_pos_left _ (by omega)
  have:n*O<=n*O*P:=Nat.le_mul_of_pos_right _ (by omega)
  have:n*O*P<=n*O*P*Q:=Nat.le_mul_of_pos_right _ (by omega)
  omega
 have eg:((0:Int),w4 O C K K f)=(fun j:Nat=>((j:Int),w4 O C K K fun o' c' r' q'=>f o' c' r' q'+if o'<j/\r'=r/\q'=q then wtG O C P Q plane gd xd i m o' c' a else 0)) 0:=by
  dsimp only
  congr 1
  refine nG fun o' c' r' q' _ _ _ _ => ?_
  rw[if_neg (by omega)];omega
 rw[eg]
 refine Loop.range (B:=nU K O C plane i m O gd xd P Q a r q K0) (f:=fun j:Nat=>((j:Int),w4 O C K K fun o' c' r' q'=>f o' c' r' q'+if o'<j/\r'=r/\q'=q then wtG O C P Q plane gd xd i m o' c' a else 0)) O (fun _=>True) trivial ?_ ?_
 ·intro o ho _ X hX
  have hX:=hX trivial
  unfold nU
  rw[if_pos (decide_eq_true (show(o:Int)<(O:Int) by omega))]
  dsimp only at hX⊢
  refine aI5 h hi hm ho ha hr hq ?_
  rw[aA ((o:Int)+1) (by omega) (by omega)]
  have ef:(w4 O C K K fun o' c' r' q'=>(f o' c' r' q'+if o'<o/\r'=r/\q'=q then wtG O C P Q plane gd xd i m o' c' a else 0)+if o'=o/\r'=r/\q'=q then wtG O C P Q plane gd xd i m o c' a else 0)=w4 O C K K fun o' c' r' q'=>f o' c' r' q'+if o'<o+1/\r'=r/\q'=q then wtG O C P Q plane gd xd i m o' c' a else 0:=by
   refine nG fun o' c' r' q' _ _ _ _ => ?_
   rw[Int.add_assoc]
   congr 1
   by_cases g:r'=r/\q'=q
   ·by_cases g4:o'=o
    ·subst g4
     rw[if_neg (by omega),if_pos ⟨rfl,g⟩,if_pos ⟨by omega,g⟩];omega
    ·rw[if_neg (c:=o'=o/\_) (by omega)]
     by_cases g5:o'<o
     ·rw[if_pos ⟨g5,g⟩,if_pos ⟨by omega,g⟩];omega
     ·rw[if_neg (by omega),if_neg (by omega)];omega
   ·rw[if_neg (fun hh=>g hh.2),if_neg (fun hh=>g hh.2),if_neg (fun hh=>g hh.2)];omega
  rw[ef]
  exact hX
 ·intro _ X
  unfold nU
  rw[if_neg (by simp)]
  have:(w4 O C K K fun o' c' r' q'=>f o' c' r' q'+if o'<O/\r'=r/\q'=q then wtG O C P Q plane gd xd i m o' c' a else 0)=w4 O C K K fun o' c' r' q'=>f o' c' r' q'+if r'=r/\q'=q then wtG O C P Q plane gd xd i m o' c' a else 0:=by
   refine nG fun o' c' r' q' h2 _ _ _ => ?_
   congr 1
   by_cases g:r'=r/\q'=q
   ·rw[if_pos g,if_pos ⟨h2,g⟩]
   ·rw[if_neg g,if_neg (fun hh=>g hh.2)]
  dsimp only
  rw[this]
  exact hk
def wtM (n O C P Q plane:Nat)(gd xd:List Int)(i o c a:Nat):Int:=bR (fun m=>wtG O C P Q plane gd xd i m o c a) n
theorem aI7 (h:aBq n O C K P Q plane gd xd){f:Nat->Nat->Nat->Nat->Int}{i a r q:Nat}{K0:List Int->Prop}(hi:i<P*Q)(ha:a<plane)(hr:r<K)(hq:q<K)
 (hk:K0 (w4 O C K K fun o' c' r' q'=>f o' c' r' q'+if r'=r/\q'=q then wtM n O C P Q plane gd xd i o' c' a else 0)) :
 vT K O C plane i n gd xd P Q a r q K0 (0,w4 O C K K f):=by
 refine⟨?_⟩
 have hn:n<=8192:=by
  have:=h.bg
  have:=h.hO;have:=h.hP;have:=h.hQ
  have:n<=n*O:=Nat.le_mul_of_pos_right _ (by omega)
  have:n*O<=n*O*P:=Nat.le_mul_of_pos_right _ (by omega)
  have:n*O*P<=n*O*P*Q:=Nat.le_mul_of_pos_right _ (by omega)
  omega
 have eg:((0:Int),w4 O C K K f)=(fun j:Nat=>((j:Int),w4 O C K K fun o' c' r' q'=>f o' c' r' q'+if r'=r/\q'=q then bR (fun m=>wtG O C P Q plane gd xd i m o' c' a) j else 0)) 0:=by
  dsimp only
  congr 1
  refine nG fun o' c' r' q' _ _ _ _ => ?_
  simp[bR]
 rw[eg]
 refine Loop.range (B:=nQ K O C plane i n gd xd P Q a r q K0) (f:=fun j:Nat=>((j:Int),w4 O C K K fun o' c' r' q'=>f o' c' r' q'+if r'=r/\q'=q then bR (fun m=>wtG O C P Q plane gd xd i m o' c' a) j else 0)) n (fun _=>True) trivial ?_ ?_
 ·intro m hm _ X hX
  have hX:=hX trivial
  unfold nQ
  rw[if_pos (decide_eq_true (show(m:Int)<(n:Int) by omega))]
  dsimp only at hX⊢
  refine aI6 h hi hm ha hr hq ?_
  rw[aA ((m:Int)+1) (by omega) (by omega)]
  have ef:(w4 O C K K fun o' c' r' q'=>(f o' c' r' q'+if r'=r/\q'=q then bR (fun m=>wtG O C P Q plane gd xd i m o' c' a) m else 0)+if r'=r/\q'=q then wtG O C P Q plane gd xd i m o' c' a else 0)=w4 O C K K fun o' c' r' q'=>f o' c' r' q'+if r'=r/\q'=q then bR (fun m=>wtG O C P Q plane gd xd i m o' c' a) (m+1)else 0:=by
   refine nG fun o' c' r' q' _ _ _ _ => ?_
   rw[Int.add_assoc]
   congr 1
   by_cases g:r'=r/\q'=q
   ·rw[if_pos g,if_pos g,if_pos g];rfl
   ·rw[if_neg g,if_neg g,if_neg g];rfl
  rw[ef]
  exact hX
 ·intro _ X
  unfold nQ
  rw[if_neg (by simp)]
  exact hk
def wtZ (n O C P Q plane:Nat)(gd xd:List Int)(i o c r q:Nat)(z:Int×Int×Int):Int:=if z.2.1=(r:Int)/\z.2.2=(q:Int)then wtM n O C P Q plane gd xd i o c z.1.toNat else 0
theorem aIQ (h:aBq n O C K P Q plane gd xd){f:Nat->Nat->Nat->Nat->Int}{i:Nat}{l:List (Int×Int×Int)}{K0:List Int->Prop}(hi:i<P*Q)(hl:InP K plane l)(hll:l.length<=1000000)
 (hk:K0 (w4 O C K K fun o' c' r' q'=>f o' c' r' q'+nF l (wtZ n O C P Q plane gd xd i o' c' r' q'))) :
 vQ K n O C plane i (l.length:Int) gd xd P Q l K0 (0,w4 O C K K f):=by
 refine⟨?_⟩
 have eg:((0:Int),w4 O C K K f)=(fun j:Nat=>((j:Int),w4 O C K K fun o' c' r' q'=>f o' c' r' q'+bR (fun t=>wtZ n O C P Q plane gd xd i o' c' r' q' (l.getD t (0,0,0))) j)) 0:=by
  dsimp only
  congr 1
  refine nG fun o' c' r' q' _ _ _ _ => ?_
  simp[bR]
 rw[eg]
 refine Loop.range (B:=nR K n O C plane i (l.length:Int) gd xd P Q l K0) (f:=fun j:Nat=>((j:Int),w4 O C K K fun o' c' r' q'=>f o' c' r' q'+bR (fun t=>wtZ n O C P Q plane gd xd i o' c' r' q' (l.getD t (0,0,0))) j)) l.length (fun _=>True) trivial ?_ ?_
 ·intro t ht _ X hX
  have hX:=hX trivial
  unfold nR
  rw[if_pos (decide_eq_true (show(t:Int)<(l.length:Int) by omega))]
  dsimp only at hX⊢
  refine⟨by omega,?_⟩
  rw[Int.toNat_natCast]
  obtain⟨a,r,q,ez,ha,hr,hq⟩:=hl (l.getD t (0,0,0)) (by rw[List.getD_eq_getElem?_getD,List.getElem?_eq_getElem ht];exact List.getElem_mem ht)
  simp only[bR,ez]at hX
  rw[ez]
  refine aI7 h hi ha hr hq ?_
  rw[aA ((t:Int)+1) (by omega) (by omega)]
  have ef:(w4 O C K K fun o' c' r' q'=>(f o' c' r' q'+bR (fun t=>wtZ n O C P Q plane gd xd i o' c' r' q' (l.getD t (0,0,0))) t)+if r'=r/\q'=q then wtM n O C P Q plane gd xd i o' c' a else 0)=w4 O C K K fun o' c' r' q'=>f o' c' r' q'+(bR (fun t=>wtZ n O C P Q plane gd xd i o' c' r' q' (l.getD t (0,0,0))) t+wtZ n O C P Q plane gd xd i o' c' r' q' (↑a,↑r,↑q)):=by
   refine nG fun o' c' r' q' _ _ _ _ => ?_
   rw[Int.add_assoc]
   congr 2
   unfold wtZ
   dsimp only
   rw[Int.toNat_natCast]
   by_cases g:r'=r/\q'=q
   ·rw[if_pos g,if_pos (by omega)]
   ·rw[if_neg g,if_neg (by omega)]
  rw[ef]
  exact hX
 ·intro _ X
  unfold nR
  rw[if_neg (by simp)]
  dsimp only
  have:(w4 O C K K fun o' c' r' q'=>f o' c' r' q'+bR (fun t=>wtZ n O C P Q plane gd xd i o' c' r' q' (l.getD t (0,0,0))) l.length)=w4 O C K K fun o' c' r' q'=>f o' c' r' q'+nF l (wtZ n O C P Q plane gd xd i o' c' r' q') :=
   nG fun o' c' r' q' _ _ _ _=>by rw[EV l _ (0,0,0)]
  rw[this]
  exact hk
end
def VY (n O C K P Q H V:Nat)(s p:Int)(gd xd:List Int)(o c r q:Nat):Int :=
 bR (fun i=>nF (eM H V ((i / Q:Nat):Int) ((i%Q:Nat):Int) K s p) (wtZ n O C P Q (H*V) gd xd i o c r q)) (P*Q)
theorem aIW {n O C K P Q H V:Nat}{gd xd:List Int}{s p:Int}(h:aBq n O C K P Q (H*V) gd xd)(hK:K<=5){K0:List Int->Prop}
 (hk:K0 (w4 O C K K (VY n O C K P Q H V s p gd xd))) :
 vR K n O C ((H*V:Nat):Int) ((P*Q:Nat):Int) gd xd H V K s p P Q K0 (0,w4 O C K K fun _ _ _ _=>0):=by
 have hPQ:P*Q<=8192:=by
  have:=h.bg
  have:=h.hn;have:=h.hO
  have e:n*O*P*Q=n*O*(P*Q):=Nat.mul_assoc _ _ _
  have:P*Q<=n*O*(P*Q):=Nat.le_mul_of_pos_left _ (Nat.mul_pos (by omega) (by omega))
  omega
 have hQ:=h.hQ
 have hKK:K*K<=5*5:=Nat.mul_le_mul hK hK
 refine⟨?_⟩
 refine Loop.range (B:=nS K n O C ((H*V:Nat):Int) ((P*Q:Nat):Int) gd xd H V K s p P Q K0) (f:=fun j:Nat=>((j:Int),w4 O C K K fun o c r q=>bR (fun i=>nF (eM H V ((i / Q:Nat):Int) ((i%Q:Nat):Int) K s p) (wtZ n O C P Q (H*V) gd xd i o c r q)) j)) (P*Q) (fun _=>True) trivial ?_ ?_
 ·intro i hi _ X hX
  have hX:=hX trivial
  unfold nS
  rw[if_pos (decide_eq_true (show(i:Int)<((P*Q:Nat):Int) by omega))]
  dsimp only at hX⊢
  obtain⟨c1,c2,c3⟩:=zF hi
  have l1:i / Q<=i:=Nat.div_le_self _ _
  have et:IntKind.i64.wrap ((i:Int).tdiv (Q:Int))=((i / Q:Nat):Int):=by
   obtain⟨y,ey⟩:∃ y,i / Q=y:=⟨_,rfl⟩
   rw[Int.tdiv_eq_ediv_of_nonneg (by omega),<- Int.natCast_ediv,ey]
   rw[ey]at l1
   rw[aA _ (by omega) (by omega)]
  have em:(i:Int).tmod (Q:Int)=((i%Q:Nat):Int):=by
   rw[Int.tmod_eq_emod_of_nonneg (by omega),<- Int.natCast_emod]
  rw[et,em]
  refine⟨by omega,by omega,⟨?_⟩⟩
  refine DJ ?_
  dsimp only
  have hwl:=D7 (rows:=H) (cols:=V) (r:=((i / Q:Nat):Int)) (c:=((i%Q:Nat):Int)) (s:=s) (p:=p) (K:=K)
  refine aIQ h hi GM (by omega) ?_
  rw[aA ((i:Int)+1) (by omega) (by omega)]
  exact hX
 ·intro _ X
  unfold nS
  rw[if_neg (by simp)]
  exact hk
def WV (g x:T3)(k s p:Int):Bool :=
 ((!(decide (0<aL (x.1.getD 2 0) k s p)&&decide (0<aL (x.1.getD 3 0) k s p))||(x.1.getD 0 0 != g.1.getD 0 0))||(g.1.getD 2 0 != aL (x.1.getD 2 0) k s p))||(g.1.getD 3 0 != aL (x.1.getD 3 0) k s p)
def JH (g x:T3)(k:Int):List Int:=[g.1.getD 1 0,x.1.getD 1 0,k,k]
def wtN (g:T3):Int:=g.1.getD 0 0*g.1.getD 2 0*g.1.getD 3 0
def wtE (g x:T3)(k s p:Int):Int :=
 if (jE [g,x] != 0)=true then jE [g,x]
 else if WV g x k s p=true then 2
 else(qA (JH g x k) (g.2.1+x.2.1) (wtN g)).2
def PD (g x:T3)(k s p:Int):List Int :=
 w4 (g.1.getD 1 0).toNat (x.1.getD 1 0).toNat k.toNat k.toNat
  (VY (g.1.getD 0 0).toNat (g.1.getD 1 0).toNat (x.1.getD 1 0).toNat k.toNat (g.1.getD 2 0).toNat (g.1.getD 3 0).toNat (x.1.getD 2 0).toNat (x.1.getD 3 0).toNat s p g.2.2 x.2.2)
def mH (g x:T3)(k s p:Int):T3×Int:=if (wtE g x k s p != 0)=true then(Z3,wtE g x k s p)else((JH g x k,(g.2.1+x.2.1,PD g x k s p)),0)
theorem JZ {d:List Int}{e n:Int}(h:(qA d e n).2≠0):(qA d e n).1=Z3:=by
 unfold qA at h⊢
 split
 ·rfl
 ·split
  ·rfl
  ·split
   ·rfl
   ·rename_i g1 g2 g3
    rw[if_neg g1,if_neg g2,if_neg g3]at h
    exact absurd rfl h
theorem aEI {g x:T3}{k s p:Int}{Q:T3×Int->Prop}(ag:All8 g.2.2)(ax:All8 x.2.2)(hq:Q (mH g x k s p)):ED g x k s p Q:=by
 refine⟨?_⟩
 unfold mH wtE at hq
 refine VL (by simp) ?_
 show(if (jE [g,x] != 0)=true then _ else _)
 by_cases h2:(jE [g,x] != 0)=true
 ·rw[if_pos h2]
  simp only[h2,if_true]at hq
  exact hq
 ·rw[if_neg h2]
  simp only[h2,Bool.false_eq_true,if_false]at hq
  have hz:jE [g,x]=0:=by simpa using h2
  have hzz:=u7 hz
  obtain⟨mg,lg⟩:=hzz g (by simp)
  obtain⟨mx,lx⟩:=hzz x (by simp)
  obtain⟨n,O,P,R,eg,g1,g2,g3,g4,g5,g6,g7,g8⟩:=UJ mg lg
  obtain⟨n',C,H,V,ex,x1,x2,x3,x4,x5,x6,x7,x8⟩:=UJ mx lx
  refine⟨by omega,by omega,by omega,by omega,by omega,aA6 ?_⟩
  refine nL (b := !(decide (0<aL (x.1.getD 2 0) k s p)&&decide (0<aL (x.1.getD 3 0) k s p))) (c:=x.1.getD 0 0 != g.1.getD 0 0) (fun _ P hp=>⟨by omega,hp⟩) (fun v3 e3 => ?_) rfl
  refine nL (c:=g.1.getD 2 0 != aL (x.1.getD 2 0) k s p) (fun _ P hp=>⟨by omega,hp⟩) (fun v5 e5 => ?_) rfl
  refine nL (c:=g.1.getD 3 0 != aL (x.1.getD 3 0) k s p) (fun _ P hp=>⟨by omega,hp⟩) (fun v7 e7 => ?_) rfl
  have hv:v7=WV g x k s p:=by rw[e7,e5,e3];rfl
  rw[<- hv]at hq
  cases v7 with
  | true=>exact hq
  | false =>
    rw[if_neg (by simp)]
    simp only[Bool.false_eq_true,if_false]at hq
    have hv2:=hv.symm
    unfold WV at hv2
    simp only[Bool.or_eq_false_iff,S9,Bool.not_eq_false',Bool.and_eq_true,decide_eq_true_eq]at hv2
    obtain⟨⟨⟨⟨o1,o2⟩,c1⟩,c2⟩,c3⟩:=hv2
    simp only[eg,ex,List.getD_cons_zero,List.getD_cons_succ]at o1 o2 c1 c2 c3
    have en:n'=n:=by omega
    subst en
    obtain⟨a1,a2,a3,a4,a5,a6⟩:=nE o1
    obtain⟨d1,_⟩:=nE o2
    obtain⟨K,rfl⟩:=Int.eq_ofNat_of_zero_le (show 0<=k by omega)
    unfold wtN JH PD at hq
    simp only[eg,ex,List.getD_cons_zero,List.getD_cons_succ,<- c2,<- c3]at hq⊢
    have k0:n'*O*P*R<=8192:=g5
    have k1:n'<=n'*O:=Nat.le_mul_of_pos_right _ (by omega)
    have k2:n'*P*R<=8192:=by
     have e1:n'*P*R<=n'*O*P*R:=Nat.mul_le_mul_right _ (Nat.mul_le_mul_right _ k1)
     omega
    have k3:n'*P<=n'*P*R:=Nat.le_mul_of_pos_right _ (by omega)
    have k4:H*V<=16*16:=Nat.mul_le_mul (by omega) (by omega)
    have k5:P*R<=n'*(P*R):=Nat.le_mul_of_pos_left _ (by omega)
    rw[<- Nat.mul_assoc]at k5
    rw[vL (r:=n') (n:=P) (by omega),vL (r:=n'*P) (n:=R) (by omega),aA (g.2.1+x.2.1) (by omega) (by omega)]
    rw[<- Int.natCast_mul,<- Int.natCast_mul]at hq
    refine NU ⟨?_⟩
    by_cases h9:(qA [(O:Int),(C:Int),(K:Int),(K:Int)] (g.2.1+x.2.1) ((n'*P*R:Nat):Int)).2=0
    ·obtain⟨f1,f2,f3,f4⟩:=vP h9
     rw[f4]at hq⊢
     simp only[bne_self_eq_false,Bool.false_eq_true,if_false]at hq⊢
     obtain⟨q1,q2,q3,q4,e1,e2,e3,e4,_,_,_,_,s5,s6⟩:=aC6 f3
     have r1:q1=O:=by omega
     have r2:q2=C:=by omega
     have r3:q3=K:=by omega
     have r4:q4=K:=by omega
     subst r1 r2 r3 r4
     rw[s6]
     have w:aBq n' q1 q2 q4 P R (H*V) g.2.2 x.2.2:=⟨by omega,by rw[x6];exact Nat.mul_assoc _ _ _,k0,by rw[<- Nat.mul_assoc];exact x5,s5,ag,ax,by omega,by omega,by omega,by omega,by omega⟩
     rw[vL (r:=H) (n:=V) (by omega),vL (r:=P) (n:=R) (by omega),Int.toNat_natCast,aGu]
     refine aIW w (by omega) ?_
     simp only[Int.toNat_natCast]at hq
     exact hq
    ·rw[if_pos (by simpa using h9)]
     rw[if_pos (by simpa using h9)]at hq
     rw[JZ h9]
     exact hq
open Go.Mach Go.RowKit
set_option maxRecDepth 100000
set_option linter.unusedVariables false
set_option linter.unusedSimpArgs false
theorem aEt {n i:Nat}{f:Nat->Int}{v:Int}(h:i<n):(tab n f).set i v=tab n fun j=>if j=i then v else f j:=by
 refine aAV (by simp) fun j hj => ?_
 rw[QM (by simpa using h)]
 by_cases e:i=j
 ·rw[if_pos e,if_pos e.symm]
 ·rw[if_neg e,if_neg (fun hh=>e hh.symm),HP _ hj]
def HQ (plane O:Nat)(gd:List Int)(o j:Nat):Int:=bR (fun i=>if i / plane%O=o then gd.getD i 0 else 0) j
theorem aIB {plane O:Nat}{gd:List Int}{K0:List Int->Prop}(h8:All8 gd)(hl:gd.length<=8192)(hp:1<=plane)(hO:1<=O)(hO2:O<=8192)(hp2:plane<=8192)
 (hk:K0 (tab O fun o=>IntKind.i32.wrap (HQ plane O gd o gd.length))):BA O plane gd (gd.length:Int) K0 (0,List.replicate O 0):=by
 refine⟨?_⟩
 have eg:((0:Int),List.replicate O (0:Int))=(fun j:Nat=>((j:Int),tab O fun o=>IntKind.i32.wrap (HQ plane O gd o j))) 0:=by
  dsimp only
  congr 1
  refine aAV (by simp) fun i hi => ?_
  rw[T0 hi]
  show 0=IntKind.i32.wrap 0
  decide
 rw[eg]
 refine Loop.range (B:=qV O plane gd (gd.length:Int) K0) (f:=fun j:Nat=>((j:Int),tab O fun o=>IntKind.i32.wrap (HQ plane O gd o j))) gd.length (fun _=>True) trivial ?_ ?_
 ·intro i hi _ X hX
  have hX:=hX trivial
  unfold qV
  rw[if_pos (decide_eq_true (show(i:Int)<(gd.length:Int) by omega))]
  dsimp only at hX⊢
  have l1:i / plane<=i:=Nat.div_le_self _ _
  obtain⟨y,ey⟩:∃ y,i / plane=y:=⟨_,rfl⟩
  have et:IntKind.i64.wrap ((i:Int).tdiv (plane:Int))=(y:Int):=by
   rw[Int.tdiv_eq_ediv_of_nonneg (by omega),<- Int.natCast_ediv,ey]
   rw[ey]at l1
   rw[aA _ (by omega) (by omega)]
  have hm:=Nat.mod_lt y (show 0<O by omega)
  obtain⟨o,eo⟩:∃ o,y%O=o:=⟨_,rfl⟩
  have em:(y:Int).tmod (O:Int)=(o:Int):=by
   rw[Int.tmod_eq_emod_of_nonneg (by omega),<- Int.natCast_emod,eo]
  rw[et,em,VF]
  refine⟨by omega,by omega,by omega,by omega,by omega,?_⟩
  rw[Int.toNat_natCast,Int.toNat_natCast,HP _ (by omega),aEt (by omega),aA ((i:Int)+1) (by omega) (by omega),LF,KE]
  have:(tab O fun j=>if j=o then IntKind.i32.wrap (HQ plane O gd o i+gd.getD i 0)else IntKind.i32.wrap (HQ plane O gd j i))=tab O fun o=>IntKind.i32.wrap (HQ plane O gd o (i+1)):=by
   refine aCY fun j hj => ?_
   unfold HQ
   simp only[bR]
   by_cases e:j=o
   ·subst e
    rw[if_pos rfl,if_pos (by rw[ey,eo])]
   ·rw[if_neg e,if_neg (by rw[ey,eo];exact fun hh=>e hh.symm),Int.add_zero]
  rw[this]
  exact hX
 ·intro _ X
  unfold qV
  rw[if_neg (by simp)]
  exact hk
def bsE (g:T3):Int:=if (jE [g] != 0)=true then jE [g]else(qA [g.1.getD 1 0] g.2.1 (g.1.getD 0 0*(g.1.getD 2 0*g.1.getD 3 0))).2
def OM (g:T3):List Int:=tab (g.1.getD 1 0).toNat fun o=>IntKind.i32.wrap (HQ (g.1.getD 2 0*g.1.getD 3 0).toNat (g.1.getD 1 0).toNat g.2.2 o g.2.2.length)
def CA (g:T3):T3×Int:=if (bsE g != 0)=true then(Z3,bsE g)else(([g.1.getD 1 0],(g.2.1,OM g)),0)
theorem aHF {g:T3}{Q:T3×Int->Prop}(ag:All8 g.2.2)(hq:Q (CA g)):KK g Q:=by
 refine⟨?_⟩
 unfold CA bsE at hq
 refine VL (by simp) ?_
 show(if (jE [g] != 0)=true then _ else _)
 by_cases h2:(jE [g] != 0)=true
 ·rw[if_pos h2]
  simp only[h2,if_true]at hq
  exact hq
 ·rw[if_neg h2]
  simp only[h2,Bool.false_eq_true,if_false]at hq
  have hz:jE [g]=0:=by simpa using h2
  obtain⟨mg,lg⟩:=u7 hz g (by simp)
  obtain⟨n,O,P,R,eg,g1,g2,g3,g4,g5,g6,g7,g8⟩:=UJ mg lg
  refine⟨by omega,by omega,by omega,by omega,?_⟩
  unfold OM at hq
  simp only[eg,List.getD_cons_zero,List.getD_cons_succ]at hq⊢
  have k1:P*R<=n*O*(P*R):=Nat.le_mul_of_pos_left _ (Nat.mul_pos (by omega) (by omega))
  rw[<- Nat.mul_assoc]at k1
  have k2:n<=n*O:=Nat.le_mul_of_pos_right _ (by omega)
  have k3:n*P*R<=n*O*P*R:=Nat.mul_le_mul_right _ (Nat.mul_le_mul_right _ k2)
  have k4:O<=n*O:=Nat.le_mul_of_pos_left _ (by omega)
  have k5:n*O<=n*O*P:=Nat.le_mul_of_pos_right _ (by omega)
  have k6:n*O*P<=n*O*P*R:=Nat.le_mul_of_pos_right _ (by omega)
  have k7:n*P*R=n*(P*R):=Nat.mul_assoc _ _ _
  rw[vL (r:=P) (n:=R) (by omega),vL (r:=n) (n:=P*R) (by omega)]
  rw[<- Int.natCast_mul,<- Int.natCast_mul]at hq
  refine NU ?_
  by_cases h9:(qA [(O:Int)] g.2.1 ((n*(P*R):Nat):Int)).2=0
  ·obtain⟨f1,f2,f3,f4⟩:=vP h9
   rw[f4]at hq⊢
   simp only[bne_self_eq_false,Bool.false_eq_true,if_false]at hq⊢
   rw[(aFK f3).2.2,Int.toNat_natCast]
   refine aIB ag (by omega) (Nat.mul_pos (by omega) (by omega)) (by omega) (by omega) (by omega) ?_
   simp only[Int.toNat_natCast]at hq
   exact hq
  ·rw[if_pos (by simpa using h9)]
   rw[if_pos (by simpa using h9)]at hq
   rw[JZ h9]
   exact hq
def DG (s p r c k Q:Int)(y x:Nat):List (Int×Int×Int) :=
 if (inP (r-(s*y-p)) 0 (k-1)&&inP (c-(s*x-p)) 0 (k-1))=true then [((y:Int)*Q+x,r-(s*y-p),c-(s*x-p))]else []
def pC (s p r c k Q:Int)(y m:Nat):List (Int×Int×Int):=(List.range m).flatMap (DG s p r c k Q y)
def MP (s p r c k Q:Int)(P m:Nat):List (Int×Int×Int):=(List.range P).flatMap fun y=>pC s p r c k Q y m
theorem HW {s p r c k Q:Int}{y m:Nat}:pC s p r c k Q y (m+1)=pC s p r c k Q y m++DG s p r c k Q y m:=by
 unfold pC;rw[List.range_succ,List.flatMap_append];simp
theorem OW {s p r c k Q:Int}{P m:Nat}:MP s p r c k Q (P+1) m=MP s p r c k Q P m++pC s p r c k Q P m:=by
 unfold MP;rw[List.range_succ,List.flatMap_append];simp
theorem WG {s p r c k Q:Int}{y x:Nat}:(DG s p r c k Q y x).length<=1:=by
 unfold DG;split <;> simp
theorem EI {s p r c k Q:Int}{y:Nat}:∀ m,(pC s p r c k Q y m).length<=m
 | 0=>by simp[pC]
 | m+1=>by
   rw[HW,List.length_append]
   have:=EI (s:=s) (p:=p) (r:=r) (c:=c) (k:=k) (Q:=Q) (y:=y) m
   have:=WG (s:=s) (p:=p) (r:=r) (c:=c) (k:=k) (Q:=Q) (y:=y) (x:=m)
   omega
theorem JI {s p r c k Q:Int}{m:Nat}:∀ P,(MP s p r c k Q P m).length<=P*m
 | 0=>by simp[MP]
 | P+1=>by
   rw[OW,List.length_append,Nat.succ_mul]
   have:=JI (s:=s) (p:=p) (r:=r) (c:=c) (k:=k) (Q:=Q) (m:=m) P
   have:=EI (s:=s) (p:=p) (r:=r) (c:=c) (k:=k) (Q:=Q) (y:=P) m
   omega
theorem X1 {α:Type}{n k:Nat}{f:Nat->List α}(hk:k<n)(h:∀ i,i<n->i≠k->f i=[]):(List.range n).flatMap f=f k:=by
 induction n with
 | zero=>omega
 | succ n ih =>
   rw[List.range_succ,List.flatMap_append]
   simp only[List.flatMap_cons,List.flatMap_nil,List.append_nil]
   by_cases e:k=n
   ·subst e
    have:(List.range k).flatMap f=[]:=by
     rw[List.flatMap_eq_nil_iff]
     intro i hi
     have:=List.mem_range.1 hi
     exact h i (by omega) (by omega)
    rw[this,List.nil_append]
   ·rw[ih (by omega) fun i hi=>h i (by omega),h n (by omega) (by omega),List.append_nil]
theorem KN {α:Type}{n:Nat}{f:Nat->List α}(h:∀ i,i<n->f i=[]):(List.range n).flatMap f=[]:=by
 rw[List.flatMap_eq_nil_iff]
 exact fun i hi=>h i (List.mem_range.1 hi)
theorem aHD {a b r c V:Int}(h1:0<=b)(h2:b<V)(h3:0<=c)(h4:c<V)(e:a*V+b=r*V+c):a=r/\b=c:=by
 have h5:(a-r)*V=c-b:=by rw[Int.sub_mul];omega
 have h6:a-r=0:=by
  rcases Int.lt_trichotomy (a-r) 0 with h|h|h
  ·have:=Int.mul_le_mul_of_nonneg_right (show a-r <= -1 by omega) (show 0<=V by omega)
   omega
  ·exact h
  ·have:=Int.mul_le_mul_of_nonneg_right (show 1<=a-r by omega) (show 0<=V by omega)
   omega
 rw[h6]at h5
 omega
theorem aFG {rows cols cr cc r c:Int}{k:Nat}(hr:0<=r/\r<=rows-1)(hc:0<=c/\c<=cols-1)(u:Int->Int->List (Int×Int×Int)) :
 ((CL rows cols cr cc k k).flatMap fun w=>if w.1=r*cols+c then u w.2.1 w.2.2 else [])=if (inP (r-cr) 0 ((k:Int)-1)&&inP (c-cc) 0 ((k:Int)-1))=true then u (r-cr) (c-cc)else []:=by
 have key:∀ i j:Nat,((jO rows cols cr cc i j).flatMap fun w=>if w.1=r*cols+c then u w.2.1 w.2.2 else [])=if (i:Int)=r-cr/\(j:Int)=c-cc then u (r-cr) (c-cc)else []:=by
  intro i j
  unfold jO
  split
  ·rename_i hin
   simp only[Bool.and_eq_true]at hin
   have b1:0<=cr+i/\cr+i<=rows-1:=by simpa [inP] using hin.1
   have b2:0<=cc+j/\cc+j<=cols-1:=by simpa [inP] using hin.2
   simp only[List.flatMap_cons,List.flatMap_nil,List.append_nil]
   by_cases e:(i:Int)=r-cr/\(j:Int)=c-cc
   ·rw[if_pos e,if_pos (by rw[show cr+i=r by omega,show cc+j=c by omega]),e.1,e.2]
   ·rw[if_neg e,if_neg]
    intro hh
    obtain⟨g1,g2⟩:=aHD b2.1 (by omega) hc.1 (by omega) hh
    exact e ⟨by omega,by omega⟩
  ·rename_i hin
   rw[List.flatMap_nil,if_neg]
   rintro⟨e1,e2⟩
   apply hin
   rw[EO (by omega) (by omega),EO (by omega) (by omega)];rfl
 unfold CL oQ
 rw[List.flatMap_assoc]
 have:(fun i=>((List.range k).flatMap (jO rows cols cr cc i)).flatMap fun w=>if w.1=r*cols+c then u w.2.1 w.2.2 else [])=fun(i:Nat)=>(List.range k).flatMap fun(j:Nat)=>if (i:Int)=r-cr/\(j:Int)=c-cc then u (r-cr) (c-cc)else []:=by
  funext i
  rw[List.flatMap_assoc]
  congr 1
  funext j
  exact key i j
 rw[this]
 by_cases g:(inP (r-cr) 0 ((k:Int)-1)&&inP (c-cc) 0 ((k:Int)-1))=true
 ·rw[if_pos g]
  simp only[Bool.and_eq_true]at g
  have b1:0<=r-cr/\r-cr<=k-1:=by simpa [inP] using g.1
  have b2:0<=c-cc/\c-cc<=k-1:=by simpa [inP] using g.2
  obtain⟨a,ea⟩:=Int.eq_ofNat_of_zero_le b1.1
  obtain⟨b,eb⟩:=Int.eq_ofNat_of_zero_le b2.1
  rw[X1 (k:=a) (by omega) (fun i hi hia=>KN fun j hj=>by rw[if_neg (by omega)]),X1 (k:=b) (by omega) (fun j hj hjb=>by rw[if_neg (by omega)]),if_pos (by omega)]
 ·rw[if_neg g]
  refine KN fun i hi=>KN fun j hj => ?_
  rw[if_neg]
  rintro⟨e1,e2⟩
  apply g
  rw[EO (by omega) (by omega),EO (by omega) (by omega)];rfl
theorem aDF {α β:Type}{m:List α}{f:α->List β}(h:∀ a,(f a).length<=1):(m.flatMap f).length<=m.length:=by
 induction m with
 | nil=>simp
 | cons a m ih =>
   rw[List.flatMap_cons,List.length_append,List.length_cons]
   have:=h a
   omega
theorem aHE {V r c Q:Int}{y x:Nat}{l acc:List (Int×Int×Int)}{K0:List (Int×Int×Int)->Prop}(hV:0<=V/\V<=1000)(hr:0<=r/\r<=1000)(hc:0<=c/\c<=1000)(hQ:0<=Q/\Q<=1000)(hy:y<=1000)(hx:x<=1000)(hl:l.length<=1000000)(ha:acc.length<=1000000)
 (hk:K0 (acc++l.flatMap fun w=>if w.1=r*V+c then [((y:Int)*Q+x,w.2.1,w.2.2)]else [])) :
 rR V r c Q y x (l.length:Int) l K0 (0,acc):=by
 refine⟨?_⟩
 have m1:0<=r*V:=Int.mul_nonneg hr.1 hV.1
 have m2:r*V<=1000*1000:=Int.mul_le_mul hr.2 hV.2 hV.1 (by omega)
 have m3:0<=(y:Int)*Q:=Int.mul_nonneg (by omega) hQ.1
 have m4:(y:Int)*Q<=1000*1000:=Int.mul_le_mul (by omega) hQ.2 hQ.1 (by omega)
 have eg:((0:Int),acc)=(fun j:Nat=>((j:Int),acc++(l.take j).flatMap fun w=>if w.1=r*V+c then [((y:Int)*Q+x,w.2.1,w.2.2)]else [])) 0:=by simp
 rw[eg]
 refine Loop.range (B:=lC V r c Q y x (l.length:Int) l K0) (f:=fun j:Nat=>((j:Int),acc++(l.take j).flatMap fun w=>if w.1=r*V+c then [((y:Int)*Q+x,w.2.1,w.2.2)]else [])) l.length (fun _=>True) trivial ?_ ?_
 ·intro i hi _ X hX
  have hX:=hX trivial
  unfold lC
  rw[if_pos (decide_eq_true (show(i:Int)<(l.length:Int) by omega))]
  dsimp only at hX⊢
  refine⟨by omega,?_⟩
  rw[Int.toNat_natCast]
  have hg:l.getD i (0,0,0)=l[i]:=by rw[List.getD_eq_getElem?_getD,List.getElem?_eq_getElem hi];rfl
  rw[hg,aA (r*V) (by omega) (by omega),aA (r*V+c) (by omega) (by omega),aA ((y:Int)*Q) (by omega) (by omega),aA ((y:Int)*Q+x) (by omega) (by omega)]
  rw[List.take_add_one,List.getElem?_eq_getElem hi,List.flatMap_append,<- List.append_assoc]at hX
  simp only[Option.toList_some,List.flatMap_cons,List.flatMap_nil,List.append_nil]at hX
  by_cases g:l[i].1=r*V+c
  ·rw[if_pos (by simpa using g)]
   rw[if_pos g]at hX
   refine⟨?_,⟨?_⟩⟩
   ·have hfl:((l.take i).flatMap fun w=>if w.1=r*V+c then [((y:Int)*Q+x,w.2.1,w.2.2)]else []).length<=1000000:=by
     have h1:=aDF (m:=l.take i) (f:=fun w=>if w.1=r*V+c then [((y:Int)*Q+x,w.2.1,w.2.2)]else []) fun w=>by split <;> simp
     rw[List.length_take]at h1
     omega
    rw[List.length_append]
    simp only[List.length_singleton]
    omega
   ·rw[aA ((i:Int)+1) (by omega) (by omega)]
    exact hX
  ·rw[if_neg (by simpa using g)]
   rw[if_neg g,List.append_nil]at hX
   refine⟨?_⟩
   rw[aA ((i:Int)+1) (by omega) (by omega)]
   exact hX
 ·intro _ X
  unfold lC
  rw[if_neg (by simp)]
  dsimp only
  rw[List.take_length]
  exact hk
theorem aGH {H V r c s p:Int}{k Q y:Nat}{acc:List (Int×Int×Int)}{K0:List (Int×Int×Int)->Prop}(hH:H<=16)(hV:V<=16)(hr:0<=r/\r<=H-1)(hc:0<=c/\c<=V-1)(hk5:k<=5)(hs:1<=s/\s<=4)(hp:0<=p/\p<=5)(hQ:Q<=25)(hy:y<=25)(ha:acc.length<=10000)
 (hk:K0 (acc++pC s p r c k Q y Q)):rX V r c Q y Q H V k s p K0 (0,acc):=by
 refine⟨?_⟩
 have eg:((0:Int),acc)=(fun j:Nat=>((j:Int),acc++pC s p r c k Q y j)) 0:=by simp[pC]
 rw[eg]
 refine Loop.range (B:=lR V r c Q y Q H V k s p K0) (f:=fun j:Nat=>((j:Int),acc++pC s p r c k Q y j)) Q (fun _=>True) trivial ?_ ?_
 ·intro x hx _ X hX
  have hX:=hX trivial
  unfold lR
  rw[if_pos (decide_eq_true (show(x:Int)<(Q:Int) by omega))]
  dsimp only at hX⊢
  refine X7 (by omega) (by omega) (by omega) (by omega) (by omega) (by omega) (by omega) ?_
  have hl:=HU (rows:=H) (cols:=V) (cr:=s*y-p) (cc:=s*x-p) (k:=k) k
  have hkk:k*k<=5*5:=Nat.mul_le_mul hk5 hk5
  have hll:=EI (s:=s) (p:=p) (r:=r) (c:=c) (k:=k) (Q:=Q) (y:=y) x
  refine aHE (by omega) (by omega) (by omega) (by omega) (by omega) (by omega) (by omega) (by rw[List.length_append];omega) ?_
  rw[aA ((x:Int)+1) (by omega) (by omega),aFG hr hc fun a b=>[((y:Int)*Q+x,a,b)],List.append_assoc]
  rw[HW]at hX
  exact hX
 ·intro _ X
  unfold lR
  rw[if_neg (by simp)]
  exact hk
def aDA (rows cols r c k s p:Int):Bool:=((decide (aL rows k s p<1)||decide (aL cols k s p<1)) || !inP r 0 (rows-1)) || !inP c 0 (cols-1)
def DL (rows cols r c k s p:Int):List (Int×Int×Int):=if aDA rows cols r c k s p=true then []else MP s p r c k (aL cols k s p) (aL rows k s p).toNat (aL cols k s p).toNat
theorem aCK {rows cols r c k s p:Int}{Q:List (Int×Int×Int)->Prop}(hrc : -1000000<=rows/\rows<=1000000 /\ -1000000<=cols/\cols<=1000000)(h:Q (DL rows cols r c k s p)):yJ rows cols r c k s p Q:=by
 refine⟨?_⟩
 refine⟨?_⟩
 refine F3 (F3 ?_)
 unfold DL aDA at h
 dsimp only
 rw[aA (rows-1) (by omega) (by omega),aA (cols-1) (by omega) (by omega)]
 refine Z5 (b:=decide (aL rows k s p<1)||decide (aL cols k s p<1)) (c := !inP r 0 (rows-1)) (fun P hp=>FU hp) (fun v2 e2 => ?_) rfl
 refine Z5 (c := !inP c 0 (cols-1)) (fun P hp=>FU hp) (fun v5 e5 => ?_) rfl
 rw[<- e2,<- e5]at h
 cases hv:v5 with
 | true=>rw[hv,if_pos rfl]at h;rw[if_pos (by rfl)];exact h
 | false =>
   rw[hv,if_neg (by simp)]at h
   rw[if_neg (by simp)]
   rw[hv,e2]at e5
   have:=e5.symm
   simp only[Bool.or_eq_false_iff,Bool.not_eq_false',decide_eq_false_iff_not]at this
   obtain⟨⟨⟨g1,g2⟩,g3⟩,g4⟩:=this
   obtain⟨b1,b2,b3,b4,b5,_⟩:=nE (n:=rows) (k:=k) (s:=s) (p:=p) (by omega)
   obtain⟨c1,_⟩:=nE (n:=cols) (k:=k) (s:=s) (p:=p) (by omega)
   have r1:0<=r/\r<=rows-1:=by simpa [inP] using g3
   have r2:0<=c/\c<=cols-1:=by simpa [inP] using g4
   obtain⟨P,eP,hP⟩:=pD (n:=rows) (k:=k) (s:=s) (p:=p)
   obtain⟨R,eR,hR⟩:=pD (n:=cols) (k:=k) (s:=s) (p:=p)
   obtain⟨K,rfl⟩:=Int.eq_ofNat_of_zero_le (show 0<=k by omega)
   rw[eP,eR,Int.toNat_natCast,Int.toNat_natCast]at h
   rw[eP,eR]
   refine⟨?_⟩
   refine Loop.range (B:=lJ cols r c R P rows cols K s p _) (f:=fun y:Nat=>((y:Int),MP s p r c K R y R)) P (fun _=>True) trivial ?_ ?_
   ·intro y hy _ X hX
    have hX:=hX trivial
    unfold lJ
    rw[if_pos (decide_eq_true (show(y:Int)<(P:Int) by omega))]
    dsimp only at hX⊢
    have hl:=JI (s:=s) (p:=p) (r:=r) (c:=c) (k:=K) (Q:=R) (m:=R) y
    have hl2:y*R<=25*25:=Nat.mul_le_mul (by omega) hR
    refine aGH (by omega) (by omega) r1 r2 (by omega) b3 (by omega) hR (by omega) (by omega) ?_
    rw[aA ((y:Int)+1) (by omega) (by omega)]
    rw[OW]at hX
    exact hX
   ·intro _ X
    unfold lJ
    rw[if_neg (by simp)]
    exact h
open Go.Mach Go.RowKit
set_option maxRecDepth 100000
set_option linter.unusedVariables false
set_option linter.unusedSimpArgs false
theorem aCz {rows cols r c s p:Int}{K P Q:Nat}(eP:aL rows K s p=P)(eQ:aL cols K s p=Q):InP K (P*Q) (DL rows cols r c K s p):=by
 unfold DL
 split
 ·intro z hz;simp at hz
 ·rw[eP,eQ,Int.toNat_natCast,Int.toNat_natCast]
  intro z hz
  unfold MP pC at hz
  simp only[List.mem_flatMap,List.mem_range]at hz
  obtain⟨y,hy,x,hx,hz⟩:=hz
  unfold DG at hz
  split at hz
  ·rename_i g
   simp only[Bool.and_eq_true]at g
   have b1:0<=r-(s*y-p)/\r-(s*y-p)<=K-1:=by simpa [inP] using g.1
   have b2:0<=c-(s*x-p)/\c-(s*x-p)<=K-1:=by simpa [inP] using g.2
   obtain⟨a,ea⟩:=Int.eq_ofNat_of_zero_le b1.1
   obtain⟨b,eb⟩:=Int.eq_ofNat_of_zero_le b2.1
   refine⟨y*Q+x,a,b,?_,jV hy hx,by omega,by omega⟩
   rw[ea,eb,<- Int.natCast_mul,<- Int.natCast_add]at hz
   simpa using hz
  ·simp at hz
theorem aC3 {rows cols r c k s p:Int}:(DL rows cols r c k s p).length<=625:=by
 unfold DL
 split
 ·simp
 ·obtain⟨P,eP,hP⟩:=pD (n:=rows) (k:=k) (s:=s) (p:=p)
  obtain⟨Q,eQ,hQ⟩:=pD (n:=cols) (k:=k) (s:=s) (p:=p)
  rw[eP,eQ,Int.toNat_natCast,Int.toNat_natCast]
  have h1:=JI (s:=s) (p:=p) (r:=r) (c:=c) (k:=k) (Q:=Q) (m:=Q) P
  have h2:P*Q<=25*25:=Nat.mul_le_mul hP hQ
  omega
def inG (gd wd:List Int)(O C plane K m c o:Nat)(z:Int×Int×Int):Int:=gd.getD ((m*O+o)*plane+z.1.toNat) 0*wd.getD (((o*C+c)*K+z.2.1.toNat)*K+z.2.2.toNat) 0
theorem aIP {C K plane m o c n O:Nat}{gd wd:List Int}{l:List (Int×Int×Int)}{t:Int}{K0:Int->Prop}(hx:gd.length=n*O*plane)(hw:wd.length=O*C*K*K)(bx:n*O*plane<=8192)(bw:O*C*K*K<=8192)(ax:All8 gd)(aw:All8 wd)(hm:m<n)(ho:o<O)(hc:c<C)(hl:InP K plane l)(hll:l.length<=1000000)
 (h:K0 (IntKind.i64.wrap (t+nF l (inG gd wd O C plane K m c o)))):yD O C K plane m c o (l.length:Int) gd wd l K0 (IntKind.i64.wrap t,0):=by
 refine⟨?_⟩
 have eg:(IntKind.i64.wrap t,(0:Int))=(fun i:Nat=>(IntKind.i64.wrap (t+bR (fun i=>inG gd wd O C plane K m c o (l.getD i (0,0,0))) i),(i:Int))) 0:=by simp[bR]
 rw[eg]
 refine Loop.range (B:=pL O C K plane m c o (l.length:Int) gd wd l K0) (f:=fun i:Nat=>(IntKind.i64.wrap (t+bR (fun i=>inG gd wd O C plane K m c o (l.getD i (0,0,0))) i),(i:Int))) l.length (fun _=>True) trivial ?_ ?_
 ·intro i hi _ X hX
  have hX:=hX trivial
  unfold pL
  rw[if_pos (decide_eq_true (show(i:Int)<(l.length:Int) by omega))]
  dsimp only at hX⊢
  refine⟨by omega,?_⟩
  rw[Int.toNat_natCast]
  obtain⟨a,r,q,ez,ha,hr,hq⟩:=hl (l.getD i (0,0,0)) (by rw[List.getD_eq_getElem?_getD,List.getElem?_eq_getElem hi];exact List.getElem_mem hi)
  have g1:(m*O+o)*plane+a<n*O*plane:=jV (jV hm ho) ha
  have g2:((o*C+c)*K+r)*K+q<O*C*K*K:=jV (jV (jV ho hc) hr) hq
  have g3:m*O+o<=(m*O+o)*plane:=Nat.le_mul_of_pos_right _ (by omega)
  have g5:(o*C+c)*K+r<=((o*C+c)*K+r)*K:=Nat.le_mul_of_pos_right _ (by omega)
  have g7:o*C+c<=(o*C+c)*K:=Nat.le_mul_of_pos_right _ (by omega)
  have ef:inG gd wd O C plane K m c o (l.getD i (0,0,0))=gd.getD ((m*O+o)*plane+a) 0*wd.getD (((o*C+c)*K+r)*K+q) 0:=by
   unfold inG;rw[ez];simp only[Int.toNat_natCast]
  simp only[bR,ef]at hX
  rw[ez]
  dsimp only
  rw[ix (r:=m) (n:=O) (i:=o) (by omega),ix (r:=m*O+o) (n:=plane) (i:=a) (by omega),ix (r:=o) (n:=C) (i:=c) (by omega),ix (r:=o*C+c) (n:=K) (i:=r) (by omega),ix (r:=(o*C+c)*K+r) (n:=K) (i:=q) (by omega)]
  refine⟨by omega,by omega,?_⟩
  simp only[Int.toNat_natCast]
  have b1:=ax.at_ ((m*O+o)*plane+a)
  have b2:=aw.at_ (((o*C+c)*K+r)*K+q)
  have b3:=R4 b1 b2
  rw[aA (gd.getD ((m*O+o)*plane+a) 0) (by omega) (by omega),aA (wd.getD (((o*C+c)*K+r)*K+q) 0) (by omega) (by omega),aA (_*_) (by omega) (by omega),aA ((i:Int)+1) (by omega) (by omega),TC,Int.add_assoc]
  exact hX
 ·intro _ X
  unfold pL
  rw[if_neg (by simp)]
  rw[EV l _ (0,0,0)]at h
  exact h
theorem aIT {C K plane m c n O:Nat}{gd wd:List Int}{l:List (Int×Int×Int)}{t:Int}{K0:Int->Prop}(hx:gd.length=n*O*plane)(hw:wd.length=O*C*K*K)(bx:n*O*plane<=8192)(bw:O*C*K*K<=8192)(ax:All8 gd)(aw:All8 wd)(hm:m<n)(hc:c<C)(hl:InP K plane l)(hll:l.length<=1000000)(hO:O<=10000)
 (h:K0 (IntKind.i64.wrap (t+bR (fun o=>nF l (inG gd wd O C plane K m c o)) O))):xQ O C K plane m c O gd wd l K0 (IntKind.i64.wrap t,0):=by
 refine⟨?_⟩
 have eg:(IntKind.i64.wrap t,(0:Int))=(fun i:Nat=>(IntKind.i64.wrap (t+bR (fun o=>nF l (inG gd wd O C plane K m c o)) i),(i:Int))) 0:=by simp[bR]
 rw[eg]
 refine Loop.range (B:=pJ O C K plane m c O gd wd l K0) (f:=fun i:Nat=>(IntKind.i64.wrap (t+bR (fun o=>nF l (inG gd wd O C plane K m c o)) i),(i:Int))) O (fun _=>True) trivial ?_ ?_
 ·intro o ho _ X hX
  have hX:=hX trivial
  unfold pJ
  rw[if_pos (decide_eq_true (show(o:Int)<(O:Int) by omega))]
  dsimp only at hX⊢
  refine aIP hx hw bx bw ax aw hm ho hc hl hll ?_
  rw[aA ((o:Int)+1) (by omega) (by omega),Int.add_assoc]
  exact hX
 ·intro _ X
  unfold pJ
  rw[if_neg (by simp)]
  exact h
section
variable {n C O K H V P Q:Nat} {s p:Int} {gd wd:List Int}
def yH (H V C O K P Q:Nat)(s p:Int)(gd wd:List Int)(m c y x:Nat):Int:=IntKind.i32.wrap (bR (fun o=>nF (DL H V y x K s p) (inG gd wd O C (P*Q) K m c o)) O)
structure aF5 (n C O K H V P Q:Nat)(s p:Int)(gd wd:List Int):Prop where
 hg:gd.length=n*O*(P*Q)
 hw:wd.length=O*C*K*K
 bg:n*O*(P*Q)<=8192
 bw:O*C*K*K<=8192
 ag:All8 gd
 aw:All8 wd
 eP:aL H K s p=P
 eQ:aL V K s p=Q
 hH:1<=H/\H<=16
 hV:1<=V/\V<=16
 bo:n*C*H*V<=8192
 hC:C<=8192
 hO:O<=8192
 hn:n<=8192
theorem aIL (g:aF5 n C O K H V P Q s p gd wd){C0:Nat->Nat->Nat->Nat->Prop}{L:List Int}{m y x:Nat}{K0:List Int->Prop}(hm:m<n)(hy:y<H)(hx:x<V)(hL:Fill n C H V (yH H V C O K P Q s p gd wd) C0 L)
 (h:∀ L',Fill n C H V (yH H V C O K P Q s p gd wd) (fun m' c' y' x'=>C0 m' c' y' x'\/(m'=m/\y'=y/\x'=x)) L'->K0 L') :
 xJ H V O C K ((P*Q:Nat):Int) ((y*V+x:Nat):Int) m C gd wd (DL H V y x K s p) K0 (0,L):=by
 refine⟨?_⟩
 have hbo:=g.bo;have hC:=g.hC
 refine Loop.rangeI (B:=pH H V O C K ((P*Q:Nat):Int) ((y*V+x:Nat):Int) m C gd wd (DL H V y x K s p) K0) C (fun i st=>st.1=(i:Int)/\Fill n C H V (yH H V C O K P Q s p gd wd) (fun m' c' y' x'=>C0 m' c' y' x'\/(m'=m/\y'=y/\x'=x/\c'<i)) st.2) ⟨rfl,hL.mono fun m' c' y' x' _ _ _ _ hc=>hc.elim id fun h=>absurd h.2.2.2 (by omega)⟩ ?_ ?_
 ·rintro c hc ⟨c',M⟩ ⟨e1,hM⟩ X hX
  simp only at e1 hM
  subst e1
  unfold pH
  rw[if_pos (decide_eq_true (show(c:Int)<(C:Int) by omega))]
  dsimp only
  have e0:((0:Int),(0:Int))=(IntKind.i64.wrap 0,(0:Int)):=by decide
  rw[e0]
  have hll:=aC3 (rows:=H) (cols:=V) (r:=y) (c:=x) (k:=K) (s:=s) (p:=p)
  refine aIT g.hg g.hw g.bg g.bw g.ag g.aw hm hc (aCz g.eP g.eQ) (by omega) (by have:=g.hO;omega) ?_
  have g1:=F9 (P:=H) (Q:=V) hm hc hy hx
  have ei:ix4 C H V m c y x=(m*C+c)*H*V+(y*V+x):=by unfold ix4;rw[Nat.add_mul,Nat.add_assoc]
  rw[ei]at g1
  have g2:m*C+c<=(m*C+c)*H:=Nat.le_mul_of_pos_right _ (by omega)
  have g3:(m*C+c)*H<=(m*C+c)*H*V:=Nat.le_mul_of_pos_right _ (by omega)
  rw[ix (r:=m) (n:=C) (i:=c) (by omega),vL (r:=m*C+c) (n:=H) (by omega),ix (r:=(m*C+c)*H) (n:=V) (i:=y*V+x) (by omega)]
  refine⟨by rw[hM.len];omega,?_⟩
  rw[Int.toNat_natCast,aA ((c:Int)+1) (by omega) (by omega),aBA,<- ei,Int.zero_add]
  refine hX _ ⟨by simp,?_⟩
  refine hM.set hm hc hy hx rfl fun m' c' y' x' _ _ _ _ hc => ?_
  rcases hc with hc|⟨c1,c2,c3,c4⟩
  ·exact .inl (.inl hc)
  ·rcases Nat.lt_or_ge c' c with c5|c5
   ·exact .inl (.inr ⟨c1,c2,c3,c5⟩)
   ·exact .inr ⟨c1,by omega,c2,c3⟩
 ·rintro⟨c',M⟩ ⟨e1,hM⟩ X
  simp only at e1 hM
  subst e1
  unfold pH
  rw[if_neg (by simp)]
  exact h _ (hM.mono fun m' c' y' x' _ h2 _ _ hc=>hc.elim .inl fun⟨a,b,c⟩ => .inr ⟨a,b,c,h2⟩)
theorem aI0 (g:aF5 n C O K H V P Q s p gd wd){C0:Nat->Nat->Nat->Nat->Prop}{L:List Int}{y x:Nat}{K0:List Int->Prop}(hy:y<H)(hx:x<V)(hL:Fill n C H V (yH H V C O K P Q s p gd wd) C0 L)
 (h:∀ L',Fill n C H V (yH H V C O K P Q s p gd wd) (fun m' c' y' x'=>C0 m' c' y' x'\/(y'=y/\x'=x)) L'->K0 L') :
 xI H V O C K ((P*Q:Nat):Int) ((y*V+x:Nat):Int) n gd wd (DL H V y x K s p) K0 (0,L):=by
 refine⟨?_⟩
 have hn:=g.hn
 refine Loop.rangeI (B:=pE H V O C K ((P*Q:Nat):Int) ((y*V+x:Nat):Int) n gd wd (DL H V y x K s p) K0) n (fun i st=>st.1=(i:Int)/\Fill n C H V (yH H V C O K P Q s p gd wd) (fun m' c' y' x'=>C0 m' c' y' x'\/(y'=y/\x'=x/\m'<i)) st.2) ⟨rfl,hL.mono fun m' c' y' x' _ _ _ _ hc=>hc.elim id fun h=>absurd h.2.2 (by omega)⟩ ?_ ?_
 ·rintro m hm ⟨m',M⟩ ⟨e1,hM⟩ X hX
  simp only at e1 hM
  subst e1
  unfold pE
  rw[if_pos (decide_eq_true (show(m:Int)<(n:Int) by omega))]
  dsimp only
  refine aIL g hm hy hx hM fun L' hL' => ?_
  rw[aA ((m:Int)+1) (by omega) (by omega)]
  refine hX _ ⟨by simp,hL'.mono fun m' c' y' x' _ _ _ _ hc => ?_⟩
  rcases hc with hc|⟨c1,c2,c3⟩
  ·exact .inl (.inl hc)
  ·rcases Nat.lt_or_ge m' m with c5|c5
   ·exact .inl (.inr ⟨c1,c2,c5⟩)
   ·exact .inr ⟨by omega,c1,c2⟩
 ·rintro⟨m',M⟩ ⟨e1,hM⟩ X
  simp only at e1 hM
  subst e1
  unfold pE
  rw[if_neg (by simp)]
  exact h _ (hM.mono fun m' c' y' x' h2 _ _ _ hc=>hc.elim .inl fun⟨a,b⟩ => .inr ⟨a,b,h2⟩)
theorem aIC (g:aF5 n C O K H V P Q s p gd wd){L:List Int}{K0:List Int->Prop}(hL:L.length=n*C*H*V)
 (h:K0 (GU n C H V (yH H V C O K P Q s p gd wd))) :
 yI H V n O C K ((P*Q:Nat):Int) ((H*V:Nat):Int) gd wd H V K s p P Q K0 (0,L):=by
 refine⟨?_⟩
 have hH:=g.hH;have hV:=g.hV
 have hHV:H*V<=16*16:=Nat.mul_le_mul hH.2 hV.2
 refine Loop.rangeI (B:=pF H V n O C K ((P*Q:Nat):Int) ((H*V:Nat):Int) gd wd H V K s p P Q K0) (H*V) (fun i st=>st.1=(i:Int)/\Fill n C H V (yH H V C O K P Q s p gd wd) (fun m' c' y' x'=>y'*V+x'<i) st.2) ⟨rfl,hL,fun m' c' y' x' _ _ _ _ hc=>absurd hc (by omega)⟩ ?_ ?_
 ·rintro i hi ⟨i',M⟩ ⟨e1,hM⟩ X hX
  simp only at e1 hM
  subst e1
  unfold pF
  rw[if_pos (decide_eq_true (show(i:Int)<((H*V:Nat):Int) by omega))]
  obtain⟨c1,c2,c3⟩:=zF hi
  obtain⟨y,ey⟩:∃ y,i / V=y:=⟨_,rfl⟩
  obtain⟨x,ex⟩:∃ x,i%V=x:=⟨_,rfl⟩
  rw[ey,ex]at c3
  rw[ey]at c1
  rw[ex]at c2
  dsimp only
  have et:IntKind.i64.wrap ((i:Int).tdiv (V:Int))=(y:Int):=by
   rw[Int.tdiv_eq_ediv_of_nonneg (by omega),<- Int.natCast_ediv,ey,aA _ (by omega) (by omega)]
  have em:(i:Int).tmod (V:Int)=(x:Int):=by
   rw[Int.tmod_eq_emod_of_nonneg (by omega),<- Int.natCast_emod,ex]
  rw[et,em,aA ((i:Int)+1) (by omega) (by omega)]
  refine⟨by omega,by omega,⟨?_⟩⟩
  refine aCK (by show -1000000<=(H:Int)/\(H:Int)<=1000000 /\ -1000000<=(V:Int)/\(V:Int)<=1000000;omega) ?_
  dsimp only
  have ei:(i:Int)=((y*V+x:Nat):Int):=by omega
  have key:=aI0 g c1 c2 hM (K0:=fun L'=>X ((i:Int)+1,L')) fun L' hL'=>hX _ ⟨by simp,hL'.mono fun m' c' y' x' _ _ hy' hx' hc => ?_⟩
  ·rw[<- ei]at key
   exact key
  ·rcases Nat.lt_or_ge (y'*V+x') i with c5|c5
   ·exact .inl c5
   ·refine .inr ?_
    have:y'*V+x'=y*V+x:=by omega
    exact VC hx' c2 this
 ·rintro⟨i',M⟩ ⟨e1,hM⟩ X
  simp only at e1 hM
  subst e1
  unfold pF
  rw[if_neg (by simp)]
  rw[hM.all fun _ _ y' x' _ _ hy hx=>jV hy hx]
  exact h
end
def ZB (g w:T3)(h v s p:Int):Bool :=
 (((!(decide (0<aL h (w.1.getD 2 0) s p)&&decide (0<aL v (w.1.getD 2 0) s p))||(w.1.getD 0 0 != g.1.getD 1 0))||(w.1.getD 3 0 != w.1.getD 2 0))||(g.1.getD 2 0 != aL h (w.1.getD 2 0) s p))||(g.1.getD 3 0 != aL v (w.1.getD 2 0) s p)
def UT (g w:T3)(h v:Int):List Int:=[g.1.getD 0 0,w.1.getD 1 0,h,v]
def inN (g w:T3):Int:=g.1.getD 1 0*w.1.getD 2 0*w.1.getD 2 0
def inE (g w:T3)(h v s p:Int):Int :=
 if (jE [g,w] != 0)=true then jE [g,w]
 else if ZB g w h v s p=true then 2
 else(qA (UT g w h v) (g.2.1+w.2.1) (inN g w)).2
def aAk (g w:T3)(h v s p:Int):List Int :=
 GU (g.1.getD 0 0).toNat (w.1.getD 1 0).toNat h.toNat v.toNat
  (yH h.toNat v.toNat (w.1.getD 1 0).toNat (g.1.getD 1 0).toNat (w.1.getD 2 0).toNat (g.1.getD 2 0).toNat (g.1.getD 3 0).toNat s p g.2.2 w.2.2)
def AN (g w:T3)(h v s p:Int):T3×Int:=if (inE g w h v s p != 0)=true then(Z3,inE g w h v s p)else((UT g w h v,(g.2.1+w.2.1,aAk g w h v s p)),0)
theorem aFY {g w:T3}{h v s p:Int}{Q:T3×Int->Prop}(ag:All8 g.2.2)(aw:All8 w.2.2)(hq:Q (AN g w h v s p)):GQ g w h v s p Q:=by
 refine⟨?_⟩
 unfold AN inE at hq
 refine VL (by simp) ?_
 show(if (jE [g,w] != 0)=true then _ else _)
 by_cases h2:(jE [g,w] != 0)=true
 ·rw[if_pos h2]
  simp only[h2,if_true]at hq
  exact hq
 ·rw[if_neg h2]
  simp only[h2,Bool.false_eq_true,if_false]at hq
  have hz:jE [g,w]=0:=by simpa using h2
  have hzz:=u7 hz
  obtain⟨mg,lg⟩:=hzz g (by simp)
  obtain⟨mw,lw⟩:=hzz w (by simp)
  obtain⟨n,O,P,R,eg,g1,g2,g3,g4,g5,g6,g7,g8⟩:=UJ mg lg
  obtain⟨O',C,K,K',ew,w1,w2,w3,w4,w5,w6,w7,w8⟩:=UJ mw lw
  refine⟨by omega,by omega,by omega,by omega,aA6 ?_⟩
  refine nL (b := !(decide (0<aL h (w.1.getD 2 0) s p)&&decide (0<aL v (w.1.getD 2 0) s p))) (c:=w.1.getD 0 0 != g.1.getD 1 0) (fun _ P hp=>⟨by omega,hp⟩) (fun v3 e3 => ?_) rfl
  refine nL (c:=w.1.getD 3 0 != w.1.getD 2 0) (fun _ P hp=>⟨by omega,hp⟩) (fun v5 e5 => ?_) rfl
  refine nL (c:=g.1.getD 2 0 != aL h (w.1.getD 2 0) s p) (fun _ P hp=>⟨by omega,hp⟩) (fun v7 e7 => ?_) rfl
  refine nL (c:=g.1.getD 3 0 != aL v (w.1.getD 2 0) s p) (fun _ P hp=>⟨by omega,hp⟩) (fun v9 e9 => ?_) rfl
  have hv:v9=ZB g w h v s p:=by rw[e9,e7,e5,e3];rfl
  rw[<- hv]at hq
  cases v9 with
  | true=>exact hq
  | false =>
    rw[if_neg (by simp)]
    simp only[Bool.false_eq_true,if_false]at hq
    have hv2:=hv.symm
    unfold ZB at hv2
    simp only[Bool.or_eq_false_iff,S9,Bool.not_eq_false',Bool.and_eq_true,decide_eq_true_eq]at hv2
    obtain⟨⟨⟨⟨⟨o1,o2⟩,c1⟩,c2⟩,c3⟩,c4⟩:=hv2
    simp only[eg,ew,List.getD_cons_zero,List.getD_cons_succ]at o1 o2 c1 c2 c3 c4
    have eo:O'=O:=by omega
    have ek:K'=K:=by omega
    subst eo ek
    obtain⟨a1,a2,a3,a4,a5,a6⟩:=nE o1
    obtain⟨d1,_⟩:=nE o2
    obtain⟨H,rfl⟩:=Int.eq_ofNat_of_zero_le (show 0<=h by omega)
    obtain⟨V,rfl⟩:=Int.eq_ofNat_of_zero_le (show 0<=v by omega)
    unfold inN UT aAk at hq
    simp only[eg,ew,List.getD_cons_zero,List.getD_cons_succ,<- c3,<- c4]at hq⊢
    have k1:O'<=O'*C:=Nat.le_mul_of_pos_right _ (by omega)
    have k2:O'*C<=O'*C*K':=Nat.le_mul_of_pos_right _ (by omega)
    have k3:O'*C*K'<=O'*C*K'*K':=Nat.le_mul_of_pos_right _ (by omega)
    have k4:O'*K'<=8192*5:=Nat.mul_le_mul (by omega) (by omega)
    have k5:O'*K'*K'<=8192*5*5:=Nat.mul_le_mul k4 (by omega)
    have k6:C<=O'*C:=Nat.le_mul_of_pos_left _ (by omega)
    have k7:n<=n*O':=Nat.le_mul_of_pos_right _ (by omega)
    have k8:n*O'<=n*O'*P:=Nat.le_mul_of_pos_right _ (by omega)
    have k9:n*O'*P<=n*O'*P*R:=Nat.le_mul_of_pos_right _ (by omega)
    have ka:H*V<=16*16:=Nat.mul_le_mul (by omega) (by omega)
    have kb:P*R<=n*O'*(P*R):=Nat.le_mul_of_pos_left _ (Nat.mul_pos (by omega) (by omega))
    rw[<- Nat.mul_assoc]at kb
    rw[vL (r:=O') (n:=K') (by omega),vL (r:=O'*K') (n:=K') (by omega),aA (g.2.1+w.2.1) (by omega) (by omega)]
    rw[<- Int.natCast_mul,<- Int.natCast_mul]at hq
    refine NU ⟨?_⟩
    by_cases h9:(qA [(n:Int),(C:Int),(H:Int),(V:Int)] (g.2.1+w.2.1) ((O'*K'*K':Nat):Int)).2=0
    ·obtain⟨f1,f2,f3,f4⟩:=vP h9
     rw[f4]at hq⊢
     simp only[bne_self_eq_false,Bool.false_eq_true,if_false]at hq⊢
     obtain⟨q1,q2,q3,q4,e1,e2,e3,e4,_,_,_,_,s5,s6⟩:=aC6 f3
     have r1:q1=n:=by omega
     have r2:q2=C:=by omega
     have r3:q3=H:=by omega
     have r4:q4=V:=by omega
     subst r1 r2 r3 r4
     rw[s6]
     have gg:aF5 q1 q2 O' K' q3 q4 P R s p g.2.2 w.2.2:=⟨by rw[g6];exact Nat.mul_assoc _ _ _,w6,by rw[<- Nat.mul_assoc];exact g5,w5,ag,aw,c3.symm,c4.symm,by omega,by omega,s5,by omega,by omega,by omega⟩
     rw[vL (r:=P) (n:=R) (by omega),vL (r:=q3) (n:=q4) (by omega),Int.toNat_natCast]
     refine aIC gg (by simp) ?_
     simp only[Int.toNat_natCast]at hq
     exact hq
    ·rw[if_pos (by simpa using h9)]
     rw[if_pos (by simpa using h9)]at hq
     rw[JZ h9]
     exact hq
end Go.Proofs.YtcfpfefadlnmcaaGreat
namespace Go.Proofs.YtcfpfefadlnmcaaGreat
end Go.Proofs.YtcfpfefadlnmcaaGreat
namespace Go.Proofs.YtcfpfefadlnmcaaGreat
end Go.Proofs.YtcfpfefadlnmcaaGreat

namespace Go.Proofs.YtcfpfefadlnmcaaGreat
open Go.Mach Go.RowKit
set_option maxRecDepth 100000
set_option linter.unusedVariables false
set_option linter.unusedSimpArgs false
theorem aBz (r c:Int)(h:0<szF [r,c]):1<=r/\r<=4096/\1<=c/\c<=4096/\r*c<=8192/\szF [r,c]=r*c:=by
 have e:szF [r,c]=if ((decide (r<1)||decide (4096<r))||decide (8192<IntKind.i64.wrap (1*r)))=true then 0 else if ((decide (c<1)||decide (4096<c))||decide (8192<IntKind.i64.wrap (IntKind.i64.wrap (1*r)*c)))=true then 0 else IntKind.i64.wrap (IntKind.i64.wrap (1*r)*c):=rfl
 rw[e]at h⊢
 by_cases h1:((decide (r<1)||decide (4096<r))||decide (8192<IntKind.i64.wrap (1*r)))=true
 ·rw[if_pos h1]at h;omega
 ·rw[if_neg h1]at h⊢
  simp only[Bool.or_eq_true,decide_eq_true_eq,not_or]at h1
  rw[Int.one_mul,aA r (by omega) (by omega)]at h h1⊢
  by_cases h2:((decide (c<1)||decide (4096<c))||decide (8192<IntKind.i64.wrap (r*c)))=true
  ·rw[if_pos h2]at h;omega
  ·rw[if_neg h2]at h⊢
   simp only[Bool.or_eq_true,decide_eq_true_eq,not_or]at h2
   have:=A6 r c 4096 4096 (by omega) (by omega) (by omega) (by omega) (by omega)
   rw[aA (r*c) (by omega) (by omega)]at h2 h⊢
   omega
def kF (R C:Nat)(f:Nat->Nat->Int):List Int:=(List.range R).flatMap fun r=>(List.range C).map (f r)
theorem vA (R C:Nat)(f:Nat->Nat->Int):kF (R+1) C f=kF R C f++(List.range C).map (f R):=by
 unfold kF
 rw[List.range_succ,List.flatMap_append]
 simp
theorem zM (R C:Nat)(f:Nat->Nat->Int):(kF R C f).length=R*C:=by
 induction R with
 | zero=>simp[kF]
 | succ R ih=>rw[vA,List.length_append,ih];simp[Nat.add_mul]
def mV (n:Int)(l:List T3):Int:=if l.all cL=true then(if l.all (fun t=>(t.1.length:Int)==n)=true then 0 else 2)else 1
theorem UZ {n:Int}{l:List T3}{Q:Int->Prop}(hl:l.length<=1000000)(h:Q (mV n l)):u0 n l Q:=by
 refine⟨?_⟩
 refine⟨?_⟩
 refine Loop.range (B:=q5 l (l.length:Int) _ _) l.length (fun i=>(i:Int)) (fun i=>(l.take i).all cL=true) rfl ?_ ?_
 ·intro i hi hI X hX
  unfold q5
  rw[if_pos (by simpa using hi)]
  refine⟨by omega,kG ?_⟩
  simp only[Int.toNat_natCast]
  cases hm:cL (l.getD i ([],0,[]))with
  | true =>
    rw[if_neg (by simp[hm])]
    rw[aA _ (by omega) (by omega)]
    exact hX (by rw[PF (d:=([],0,[])) hi,hI,hm];rfl)
  | false =>
    rw[if_pos (by simp[hm])]
    unfold mV at h
    rw[if_neg (by rw[aAn hi hm];simp)]at h
    exact h
 ·intro hI X
  unfold q5
  rw[if_neg (by simp)]
  rw[List.take_length]at hI
  unfold mV at h
  rw[if_pos hI]at h
  refine⟨?_⟩
  refine Loop.range (B:=qW n l (l.length:Int) _ _) l.length (fun i=>(i:Int)) (fun i=>(l.take i).all (fun t=>(t.1.length:Int)==n)=true) rfl ?_ ?_
  ·intro i hi hJ X hX
   unfold qW
   rw[if_pos (by simpa using hi)]
   refine⟨by omega,?_⟩
   simp only[Int.toNat_natCast]
   cases hm:(((l.getD i ([],0,[])).1.length:Int)==n)with
   | true =>
     rw[if_neg (by unfold bne;rw[hm];simp)]
     rw[aA _ (by omega) (by omega)]
     exact hX (by rw[PF (d:=([],0,[])) hi,hJ,hm];rfl)
   | false =>
     rw[if_pos (by unfold bne;rw[hm];rfl)]
     rw[if_neg (by rw[aAn (d:=([],0,[])) hi hm];simp)]at h
     exact h
  ·intro hJ X
   unfold qW
   rw[if_neg (by simp)]
   rw[List.take_length]at hJ
   rw[if_pos hJ]at h
   exact h
def rM (s:Int)(g:Nat->Int):Nat->Int
 | 0=>s
 | n+1=>rM s g n+g n
theorem W8 (s:Int)(g:Nat->Int)(n:Nat):rM s g n=s+bR g n:=by
 induction n with
 | zero=>simp[rM,bR]
 | succ n ih=>simp only[rM,bR];rw[ih,Int.add_assoc]
theorem JC {s:Int}{g:Nat->Int}{n:Nat}(hs : -1048576<=s/\s<=1048576)(hn:n<=1000000)(h:∀ i,-16384<=g i/\g i<=16384) : -17432576000<=rM s g n/\rM s g n<=17432576000:=by
 have:=IJ g 16384 n fun i _=>h i
 rw[W8]
 omega
theorem EX {s:Int}{g:Nat->Int}{n:Nat}(hs : -1048576<=s/\s<=1048576)(hn:n<=959)(h:∀ i,-16384<=g i/\g i<=16384) : -16760832<=rM s g n/\rM s g n<=16760832:=by
 have:=IJ g 16384 n fun i _=>h i
 rw[W8]
 omega
theorem mac {s a b:Int}(hs : -17432576000<=s/\s<=17432576000)(ha : -128<=a/\a<=127)(hb : -128<=b/\b<=127):IntKind.i64.wrap (s+IntKind.i64.wrap (IntKind.i64.wrap a*IntKind.i64.wrap b))=s+a*b:=by
 have:=R4 ha hb
 rw[aA a (by omega) (by omega),aA b (by omega) (by omega),aA (a*b) (by omega) (by omega),aA _ (by omega) (by omega)]
theorem aID {s a:Int}(hs : -17432576000<=s/\s<=17432576000)(ha : -128<=a/\a<=127):IntKind.i64.wrap (s+IntKind.i64.wrap a)=s+a:=by
 rw[aA a (by omega) (by omega),aA _ (by omega) (by omega)]
def fwC (n:Nat)(e be:Int)(b x w:List Int)(r o:Nat):Int:=rM (alF (b.getD o 0) be e) (fun i=>x.getD (r*n+i) 0*w.getD (o*n+i) 0) n
theorem aHe {r o n:Nat}{bd b xd x wd w:List Int}{be e xe we:Int}(ho:o<b.length)(hx:r*n+n<=x.length)(hw:o*n+n<=w.length)(lx:x.length<=8192)(lw:w.length<=8192)(hn:n<=959)(bx:All8 x)(bw:All8 w)(bb:All8 b){Q:Int->Prop}(h:Q (fwC n e be b x w r o)):pG (r:Int) (o:Int) bd be b e (n:Int) xd xe x wd we w Q:=by
 refine⟨?_⟩
 refine⟨by omega,?_⟩
 have hb:=bb.at_ o
 simp only[Int.toNat_natCast]
 rw[aA (b.getD o 0) (by omega) (by omega)]
 refine aEc ⟨?_⟩
 refine Loop.range (B:=jT (r:Int) (o:Int) (n:Int) x w (n:Int) _) (f:=fun i=>(rM (alF (b.getD o 0) be e) (fun i=>x.getD (r*n+i) 0*w.getD (o*n+i) 0) i,(i:Int))) n (fun _=>True) trivial ?_ ?_
 ·intro i hi _ X hX
  unfold jT
  rw[if_pos (by simpa using hi)]
  dsimp only
  have hs:=JC (s:=alF (b.getD o 0) be e) (g:=fun i=>x.getD (r*n+i) 0*w.getD (o*n+i) 0) (n:=i) (UK (bb.at_ o)) (by omega) (fun i=>R4 (bx.at_ _) (bw.at_ _))
  rw[ix (r:=r) (n:=n) (i:=i) (by omega)]
  rw[ix (r:=o) (n:=n) (i:=i) (by omega)]
  refine⟨⟨by omega,by omega⟩,⟨by omega,by omega⟩,?_⟩
  simp only[Int.toNat_natCast]
  rw[mac hs (bx.at_ _) (bw.at_ _),aA ((i:Int)+1) (by omega) (by omega)]
  exact hX trivial
 ·intro _ X
  unfold jT
  rw[if_neg (by simp)]
  exact h
theorem aGT {n:Nat}{e be:Int}{b x w:List Int}{r o:Nat}(hn:n<=959)(bx:All8 x)(bw:All8 w)(bb:All8 b) : -16760832<=fwC n e be b x w r o/\fwC n e be b x w r o<=16760832:=EX (UK (bb.at_ o)) hn (fun i=>R4 (bx.at_ _) (bw.at_ _))
def kV (R C n e:Int)(f:Nat->Nat->Int):T3×Int :=
 if ((!kI n||decide (128<e))||decide (e < -128))=true then(Z3,3)
 else if (!decide (0<szF [R,C]))=true then(Z3,1)
 else(([R,C],(e,kF R.toNat C.toNat f)),0)
theorem WO {b bd x xd w wd:List Int}{be e2 n2 xe we:Int}{R C n e:Int}{f:Nat->Nat->Int}{Q:T3×Int->Prop}
 (hc:kI n=true->0<szF [R,C]->∀ r q:Nat,r<R.toNat->q<C.toNat -> -2147483648<=f r q/\f r q<=2147483647/\∀ K:Int->Prop,K (f r q)->pG (r:Int) (q:Int) bd be b e2 n2 xd xe x wd we w K)
 (h:Q (kV R C n e f)):eS R C n e bd be b e2 n2 xd xe x wd we w Q:=by
 refine⟨?_⟩
 refine QE ?_
 unfold kV at h
 by_cases h1:((!kI n||decide (128<e))||decide (e < -128))=true
 ·rw[if_pos h1]at h⊢;exact h
 ·rw[if_neg h1]at h⊢
  refine EL ?_
  by_cases h2:(!decide (0<szF [R,C]))=true
  ·rw[if_pos h2]at h⊢;exact h
  ·rw[if_neg h2]at h⊢
   have hfit:kI n=true:=by
    simp only[Bool.or_eq_true,not_or]at h1
    have:=h1.1.1
    cases hq:kI n with
    | true=>rfl
    | false=>rw[hq]at this;exact absurd rfl this
   have hsz:0<szF [R,C]:=by simpa using h2
   have hc:=hc hfit hsz
   obtain⟨k1,k2,k3,k4,k5,_⟩:=aBz R C hsz
   obtain⟨R,rfl⟩:=Int.eq_ofNat_of_zero_le (show 0<=R by omega)
   obtain⟨C,rfl⟩:=Int.eq_ofNat_of_zero_le (show 0<=C by omega)
   have hRC:R*C<=8192:=by rw[<- Int.natCast_mul]at k5;omega
   simp only[Int.toNat_natCast]at hc h
   refine⟨?_⟩
   refine Loop.range (B:=dF (C:Int) bd be b e2 n2 xd xe x wd we w (R:Int) _) (f:=fun r=>((r:Int),kF r C f)) R (fun _=>True) trivial ?_ ?_
   ·intro r hr _ X hX
    unfold dF
    rw[if_pos (by simpa using hr)]
    refine⟨?_⟩
    dsimp only
    have hl:=zM r C f
    have hrc:(r+1)*C<=R*C:=Nat.mul_le_mul_right C hr
    rw[Nat.add_mul,Nat.one_mul]at hrc
    rw[show(0,kF r C f)=((fun q:Nat=>((q:Int),kF r C f++(List.range q).map (f r))) 0) by simp]
    refine Loop.range (f:=fun q=>((q:Int),kF r C f++(List.range q).map (f r))) C (fun _=>True) trivial ?_ ?_
    ·intro q hcc _ Y hY
     unfold fI
     rw[if_pos (by simpa using hcc)]
     obtain⟨m1,m2,m3⟩:=hc r q hr hcc
     refine m3 _ ?_
     refine⟨?_,?_⟩
     ·simp only[List.length_append,List.length_map,List.length_range,List.length_singleton,hl]
      omega
     ·have:=hY trivial
      simp only[List.range_succ,List.map_append,List.map_cons,List.map_nil,<- List.append_assoc]at this
      rw[wA _ m1 m2,aA ((q:Int)+1) (by omega) (by omega)]
      exact this
    ·intro _ Y
     unfold fI
     rw[if_neg (by simp)]
     have:=hX trivial
     simp only[vA]at this
     dsimp only
     rw[aA ((r:Int)+1) (by omega) (by omega)]
     exact this
   ·intro _ X
    unfold dF
    rw[if_neg (by simp)]
    exact h
theorem YS {a:T3}(h:cL a=true):(0<szF a.1/\(a.2.2.length:Int)=szF a.1) /\ -64<=a.2.1/\a.2.1<=64 /\ -128∉a.2.2:=by
 obtain⟨h1,h2,h3,h4⟩:=eK.1 h
 exact⟨⟨h1,h2⟩,h3.1,h3.2,h4⟩
theorem zL {n:Int}(h:kI n=true):0<=n/\n<=959:=aBj.1 h
theorem aAT {t:T3}(h:cL t=true)(h2:t.1.length=2):∃ R C:Nat,t.1=[(R:Int),(C:Int)]/\1<=R/\R<=4096/\1<=C/\C<=4096/\R*C<=8192/\t.2.2.length=R*C /\ -64<=t.2.1/\t.2.1<=64:=by
 obtain⟨m1,m2,m3,_⟩:=YS h
 obtain⟨l1,l2⟩:=m1
 obtain⟨d,e,v⟩:=t
 match d,h2 with
 | [r,c],_ =>
   obtain⟨k1,k2,k3,k4,k5,k6⟩:=aBz r c l1
   obtain⟨R,rfl⟩:=Int.eq_ofNat_of_zero_le (show 0<=r by omega)
   obtain⟨C,rfl⟩:=Int.eq_ofNat_of_zero_le (show 0<=c by omega)
   simp only at l2
   have l2':(v.length:Int)=((R*C:Nat):Int):=by rw[l2,k6,Int.natCast_mul]
   rw[<- Int.natCast_mul]at k5
   exact⟨R,C,rfl,by omega,by omega,by omega,by omega,by omega,by show v.length=_;omega,m2,m3⟩
theorem aIR {t:T3}(h:cL t=true)(h2:t.1.length=1):∃ C:Nat,t.1=[(C:Int)]/\1<=C/\C<=4096/\t.2.2.length=C:=by
 obtain⟨m1,m2,m3,_⟩:=YS h
 obtain⟨l1,l2⟩:=m1
 obtain⟨d,e,v⟩:=t
 match d,h2 with
 | [c],_ =>
   obtain⟨k1,k2,k3⟩:=aFK l1
   obtain⟨C,rfl⟩:=Int.eq_ofNat_of_zero_le (show 0<=c by omega)
   simp only at l2
   exact⟨C,rfl,by omega,by omega,by show v.length=_;omega⟩
theorem aA5 {n:Int}{x w:T3}(h:mV n [x,w]=0):cL x=true/\cL w=true/\(x.1.length:Int)=n/\(w.1.length:Int)=n:=by
 unfold mV at h
 split at h
 ·rename_i h1
  split at h
  ·rename_i h2
   simp only[List.all_cons,List.all_nil,Bool.and_true,Bool.and_eq_true,beq_iff_eq]at h1 h2
   exact⟨h1.1,h1.2,h2.1,h2.2⟩
  ·omega
 ·omega
def US (x w b:T3):T3×Int :=
 if (!cL b)=true then(Z3,1)
 else if (mV 2 [x,w] != 0)=true then(Z3,mV 2 [x,w])
 else if (((w.1.getD 1 0 != x.1.getD 1 0)||((b.1.length:Int) != 1))||(b.1.getD 0 0 != w.1.getD 0 0))=true then(Z3,2)
 else kV (x.1.getD 0 0) (w.1.getD 0 0) (x.1.getD 1 0) (x.2.1+w.2.1) (fwC (x.1.getD 1 0).toNat (x.2.1+w.2.1) b.2.1 b.2.2 x.2.2 w.2.2)
theorem aHW {x w b:T3}{Q:T3×Int->Prop}(bx:All8 x.2.2)(bw:All8 w.2.2)(bb:All8 b.2.2)(h:Q (US x w b)):xL x w b Q:=by
 refine⟨?_⟩
 refine kG ?_
 unfold US at h
 by_cases h1:(!cL b)=true
 ·rw[if_pos h1]at h
  rw[if_pos h1];exact h
 ·rw[if_neg h1]at h
  rw[if_neg h1]
  refine UZ (by simp) ?_
  by_cases h2:(mV 2 [x,w] != 0)=true
  ·rw[if_pos h2]at h⊢;exact h
  ·rw[if_neg h2]at h⊢
   obtain⟨mx,mw,lx,lw⟩:=aA5 (by simpa using h2)
   have mb:cL b=true:=by simpa using h1
   obtain⟨R,n,ex,x1,x2,x3,x4,x5,x6,x7,x8⟩:=aAT mx (by omega)
   obtain⟨C,m,ew,w1,w2,w3,w4,w5,w6,w7,w8⟩:=aAT mw (by omega)
   rw[ex,ew]at h⊢
   refine⟨by simp,by simp,by simp,by simp,?_⟩
   have key:∀ v:Bool,(((((m:Int) != (n:Int))||((b.1.length:Int) != 1))||(b.1.getD 0 0 != (C:Int)))=v)->(if v=true then Q (Z3,2)else eS (R:Int) (C:Int) (n:Int) (IntKind.i64.wrap (x.2.1+w.2.1)) b.1 b.2.1 b.2.2 (IntKind.i64.wrap (x.2.1+w.2.1)) (n:Int) [(R:Int),(n:Int)] x.2.1 x.2.2 [(C:Int),(m:Int)] w.2.1 w.2.2 (fun r5=>Q ((r5.1.1,(r5.1.2.1,r5.1.2.2)),r5.2))):=by
    intro v hv
    cases v with
    | true =>
      rw[if_pos rfl]
      rw[if_pos (by simpa using hv)]at h
      exact h
    | false =>
      rw[if_neg (by simp)]
      rw[if_neg (by show ¬ _=true;rw[show((((([(C:Int),(m:Int)].getD 1 0) != ([(R:Int),(n:Int)].getD 1 0))||((b.1.length:Int) != 1))||(b.1.getD 0 0 != [(C:Int),(m:Int)].getD 0 0)))=false from hv];simp)]at h
      simp only[Bool.or_eq_false_iff,bne_eq_false_iff_eq]at hv
      obtain⟨⟨h3,h4⟩,h5⟩:=hv
      obtain⟨D,eb,b1,b2,b3⟩:=aIR mb (by omega)
      have hD:D=C:=by
       have:(D:Int)=(C:Int):=by rw[eb]at h5;simpa using h5
       omega
      have hmn:m=n:=by omega
      subst hD;subst hmn
      rw[aA (x.2.1+w.2.1) (by omega) (by omega)]
      refine WO (f:=fwC m (x.2.1+w.2.1) b.2.1 b.2.2 x.2.2 w.2.2) ?_ h
      intro hfit hsz r c hr hcc
      have hn:=zL hfit
      have:=aGT (n:=m) (e:=x.2.1+w.2.1) (be:=b.2.1) (r:=r) (o:=c) (by omega) bx bw bb
      refine⟨by omega,by omega,fun K hK => ?_⟩
      simp only[Int.toNat_natCast]at hr hcc
      have k1:(r+1)*m<=R*m:=Nat.mul_le_mul_right m hr
      have k2:(c+1)*m<=D*m:=Nat.mul_le_mul_right m hcc
      rw[Nat.add_mul,Nat.one_mul]at k1 k2
      exact aHe (by omega) (by omega) (by omega) (by omega) (by omega) (by omega) bx bw bb hK
   show(if (((m:Int) != (n:Int))||((b.1.length:Int) != 1))=true then _ else _)
   by_cases h3:(((m:Int) != (n:Int))||((b.1.length:Int) != 1))=true
   ·rw[if_pos h3]
    exact key true (by rw[h3];rfl)
   ·rw[if_neg h3]
    have h4:b.1.length=1:=by
     simp only[Bool.or_eq_true,not_or,bne_iff_ne,ne_eq,Classical.not_not]at h3
     omega
    refine⟨⟨by omega,by omega⟩,key _ ?_⟩
    have h3':(((m:Int) != (n:Int))||((b.1.length:Int) != 1))=false:=by simpa using h3
    rw[h3']
    rfl
end Go.Proofs.YtcfpfefadlnmcaaGreat

namespace Go.Proofs.YtcfpfefadlnmcaaGreat
open Go.Mach Go.RowKit
set_option maxRecDepth 100000
set_option linter.unusedVariables false
set_option linter.unusedSimpArgs false
def inC (n C:Nat)(g w:List Int)(r i:Nat):Int:=rM 0 (fun o=>g.getD (r*n+o) 0*w.getD (o*C+i) 0) n
theorem aHq {r i n C:Nat}{gd g wd w:List Int}{ge we:Int}(hg:r*n+n<=g.length)(hw:n*C<=w.length)(hi:i<C)(lg:g.length<=8192)(lw:w.length<=8192)(hn:n<=959)(bg:All8 g)(bw:All8 w){Q:Int->Prop}(h:Q (inC n C g w r i)):sW (r:Int) (i:Int) (n:Int) gd ge g wd we w (C:Int) Q:=by
 refine⟨⟨?_⟩⟩
 refine Loop.range (B:=lG (r:Int) (i:Int) (n:Int) g w (C:Int) (n:Int) _) (f:=fun o=>(rM 0 (fun o=>g.getD (r*n+o) 0*w.getD (o*C+i) 0) o,(o:Int))) n (fun _=>True) trivial ?_ ?_
 ·intro o ho _ X hX
  unfold lG
  rw[if_pos (by simpa using ho)]
  dsimp only
  have hs:=JC (s:=0) (g:=fun o=>g.getD (r*n+o) 0*w.getD (o*C+i) 0) (n:=o) (by omega) (by omega) (fun o=>R4 (bg.at_ _) (bw.at_ _))
  have hl:=jV (R:=n) ho hi
  rw[ix (r:=r) (n:=n) (i:=o) (by omega),ix (r:=o) (n:=C) (i:=i) (by omega)]
  refine⟨⟨by omega,by omega⟩,⟨by omega,by omega⟩,?_⟩
  simp only[Int.toNat_natCast]
  rw[mac hs (bg.at_ _) (bw.at_ _),aA ((o:Int)+1) (by omega) (by omega)]
  exact hX trivial
 ·intro _ X
  unfold lG
  rw[if_neg (by simp)]
  exact h
theorem aGg {n C:Nat}{g w:List Int}{r i:Nat}(hn:n<=959)(bg:All8 g)(bw:All8 w) : -16760832<=inC n C g w r i/\inC n C g w r i<=16760832:=EX (by omega) hn (fun i=>R4 (bg.at_ _) (bw.at_ _))
def wgC (n R C:Nat)(g x:List Int)(o i:Nat):Int:=rM 0 (fun r=>g.getD (r*R+o) 0*x.getD (r*C+i) 0) n
theorem aHM {o i n R C:Nat}{gd g xd x:List Int}{ge xe:Int}(hg:n*R<=g.length)(hx:n*C<=x.length)(ho:o<R)(hi:i<C)(lg:g.length<=8192)(lx:x.length<=8192)(hn:n<=959)(bg:All8 g)(bx:All8 x){Q:Int->Prop}(h:Q (wgC n R C g x o i)):qX (o:Int) (i:Int) (n:Int) gd ge g (R:Int) xd xe x (C:Int) Q:=by
 refine⟨⟨?_⟩⟩
 refine Loop.range (B:=kC (o:Int) (i:Int) g (R:Int) x (C:Int) (n:Int) _) (f:=fun r=>(rM 0 (fun r=>g.getD (r*R+o) 0*x.getD (r*C+i) 0) r,(r:Int))) n (fun _=>True) trivial ?_ ?_
 ·intro r hr _ X hX
  unfold kC
  rw[if_pos (by simpa using hr)]
  dsimp only
  have hs:=JC (s:=0) (g:=fun r=>g.getD (r*R+o) 0*x.getD (r*C+i) 0) (n:=r) (by omega) (by omega) (fun o=>R4 (bg.at_ _) (bx.at_ _))
  have h1:=jV (R:=n) hr ho
  have h2:=jV (R:=n) hr hi
  rw[ix (r:=r) (n:=R) (i:=o) (by omega),ix (r:=r) (n:=C) (i:=i) (by omega)]
  refine⟨⟨by omega,by omega⟩,⟨by omega,by omega⟩,?_⟩
  simp only[Int.toNat_natCast]
  rw[mac hs (bg.at_ _) (bx.at_ _),aA ((r:Int)+1) (by omega) (by omega)]
  exact hX trivial
 ·intro _ X
  unfold kC
  rw[if_neg (by simp)]
  exact h
theorem aDR {n R C:Nat}{g x:List Int}{o i:Nat}(hn:n<=959)(bg:All8 g)(bx:All8 x) : -16760832<=wgC n R C g x o i/\wgC n R C g x o i<=16760832:=EX (by omega) hn (fun i=>R4 (bg.at_ _) (bx.at_ _))
def biC (n C:Nat)(g:List Int)(o:Nat):Int:=rM 0 (fun r=>g.getD (r*C+o) 0) n
theorem aHu {q o n C:Nat}{gd g:List Int}{ge:Int}(hg:n*C<=g.length)(ho:o<C)(lg:g.length<=8192)(hn:n<=959)(bg:All8 g){Q:Int->Prop}(h:Q (biC n C g o)):uL (q:Int) (o:Int) (n:Int) gd ge g (C:Int) Q:=by
 refine⟨⟨?_⟩⟩
 refine Loop.range (B:=mI (o:Int) g (C:Int) (n:Int) _) (f:=fun r=>(rM 0 (fun r=>g.getD (r*C+o) 0) r,(r:Int))) n (fun _=>True) trivial ?_ ?_
 ·intro r hr _ X hX
  unfold mI
  rw[if_pos (by simpa using hr)]
  dsimp only
  have hs:=JC (s:=0) (g:=fun r=>g.getD (r*C+o) 0) (n:=r) (by omega) (by omega) (fun k=>by have:=bg.at_ (k*C+o);omega)
  have h1:=jV (R:=n) hr ho
  rw[ix (r:=r) (n:=C) (i:=o) (by omega)]
  refine⟨⟨by omega,by omega⟩,?_⟩
  simp only[Int.toNat_natCast]
  rw[aID hs (bg.at_ _),aA ((r:Int)+1) (by omega) (by omega)]
  exact hX trivial
 ·intro _ X
  unfold mI
  rw[if_neg (by simp)]
  exact h
theorem aGx {n C:Nat}{g:List Int}{o:Nat}(hn:n<=959)(bg:All8 g) : -16760832<=biC n C g o/\biC n C g o<=16760832:=EX (by omega) hn (fun k=>by have:=bg.at_ (k*C+o);omega)
theorem aCV {gd g wd w:List Int}{n2 ge we cl:Int}{R C n e:Int}{f:Nat->Nat->Int}{Q:T3×Int->Prop}
 (hc:kI n=true->0<szF [R,C]->∀ r q:Nat,r<R.toNat->q<C.toNat -> -2147483648<=f r q/\f r q<=2147483647/\∀ K:Int->Prop,K (f r q)->sW (r:Int) (q:Int) n2 gd ge g wd we w cl K)
 (h:Q (kV R C n e f)):jG R C n e n2 gd ge g wd we w cl Q:=by
 refine⟨?_⟩
 refine QE ?_
 unfold kV at h
 by_cases h1:((!kI n||decide (128<e))||decide (e < -128))=true
 ·rw[if_pos h1]at h⊢;exact h
 ·rw[if_neg h1]at h⊢
  refine EL ?_
  by_cases h2:(!decide (0<szF [R,C]))=true
  ·rw[if_pos h2]at h⊢;exact h
  ·rw[if_neg h2]at h⊢
   have hfit:kI n=true:=by
    simp only[Bool.or_eq_true,not_or]at h1
    have:=h1.1.1
    cases hq:kI n with
    | true=>rfl
    | false=>rw[hq]at this;exact absurd rfl this
   have hsz:0<szF [R,C]:=by simpa using h2
   have hc:=hc hfit hsz
   obtain⟨k1,k2,k3,k4,k5,_⟩:=aBz R C hsz
   obtain⟨R,rfl⟩:=Int.eq_ofNat_of_zero_le (show 0<=R by omega)
   obtain⟨C,rfl⟩:=Int.eq_ofNat_of_zero_le (show 0<=C by omega)
   have hRC:R*C<=8192:=by rw[<- Int.natCast_mul]at k5;omega
   simp only[Int.toNat_natCast]at hc h
   refine⟨?_⟩
   refine Loop.range (B:=dP (C:Int) n2 gd ge g wd we w cl (R:Int) _) (f:=fun r=>((r:Int),kF r C f)) R (fun _=>True) trivial ?_ ?_
   ·intro r hr _ X hX
    unfold dP
    rw[if_pos (by simpa using hr)]
    refine⟨?_⟩
    dsimp only
    have hl:=zM r C f
    have hrc:(r+1)*C<=R*C:=Nat.mul_le_mul_right C hr
    rw[Nat.add_mul,Nat.one_mul]at hrc
    rw[show(0,kF r C f)=((fun q:Nat=>((q:Int),kF r C f++(List.range q).map (f r))) 0) by simp]
    refine Loop.range (f:=fun q=>((q:Int),kF r C f++(List.range q).map (f r))) C (fun _=>True) trivial ?_ ?_
    ·intro q hcc _ Y hY
     unfold f7
     rw[if_pos (by simpa using hcc)]
     obtain⟨m1,m2,m3⟩:=hc r q hr hcc
     refine m3 _ ?_
     refine⟨?_,?_⟩
     ·simp only[List.length_append,List.length_map,List.length_range,List.length_singleton,hl]
      omega
     ·have:=hY trivial
      simp only[List.range_succ,List.map_append,List.map_cons,List.map_nil,<- List.append_assoc]at this
      rw[wA _ m1 m2,aA ((q:Int)+1) (by omega) (by omega)]
      exact this
    ·intro _ Y
     unfold f7
     rw[if_neg (by simp)]
     have:=hX trivial
     simp only[vA]at this
     dsimp only
     rw[aA ((r:Int)+1) (by omega) (by omega)]
     exact this
   ·intro _ X
    unfold dP
    rw[if_neg (by simp)]
    exact h
theorem aAO {gd g xd x:List Int}{n2 ge xe rws cl:Int}{R C n e:Int}{f:Nat->Nat->Int}{Q:T3×Int->Prop}
 (hc:kI n=true->0<szF [R,C]->∀ r q:Nat,r<R.toNat->q<C.toNat -> -2147483648<=f r q/\f r q<=2147483647/\∀ K:Int->Prop,K (f r q)->qX (r:Int) (q:Int) n2 gd ge g rws xd xe x cl K)
 (h:Q (kV R C n e f)):iY R C n e n2 gd ge g rws xd xe x cl Q:=by
 refine⟨?_⟩
 refine QE ?_
 unfold kV at h
 by_cases h1:((!kI n||decide (128<e))||decide (e < -128))=true
 ·rw[if_pos h1]at h⊢;exact h
 ·rw[if_neg h1]at h⊢
  refine EL ?_
  by_cases h2:(!decide (0<szF [R,C]))=true
  ·rw[if_pos h2]at h⊢;exact h
  ·rw[if_neg h2]at h⊢
   have hfit:kI n=true:=by
    simp only[Bool.or_eq_true,not_or]at h1
    have:=h1.1.1
    cases hq:kI n with
    | true=>rfl
    | false=>rw[hq]at this;exact absurd rfl this
   have hsz:0<szF [R,C]:=by simpa using h2
   have hc:=hc hfit hsz
   obtain⟨k1,k2,k3,k4,k5,_⟩:=aBz R C hsz
   obtain⟨R,rfl⟩:=Int.eq_ofNat_of_zero_le (show 0<=R by omega)
   obtain⟨C,rfl⟩:=Int.eq_ofNat_of_zero_le (show 0<=C by omega)
   have hRC:R*C<=8192:=by rw[<- Int.natCast_mul]at k5;omega
   simp only[Int.toNat_natCast]at hc h
   refine⟨?_⟩
   refine Loop.range (B:=dI (C:Int) n2 gd ge g rws xd xe x cl (R:Int) _) (f:=fun r=>((r:Int),kF r C f)) R (fun _=>True) trivial ?_ ?_
   ·intro r hr _ X hX
    unfold dI
    rw[if_pos (by simpa using hr)]
    refine⟨?_⟩
    dsimp only
    have hl:=zM r C f
    have hrc:(r+1)*C<=R*C:=Nat.mul_le_mul_right C hr
    rw[Nat.add_mul,Nat.one_mul]at hrc
    rw[show(0,kF r C f)=((fun q:Nat=>((q:Int),kF r C f++(List.range q).map (f r))) 0) by simp]
    refine Loop.range (f:=fun q=>((q:Int),kF r C f++(List.range q).map (f r))) C (fun _=>True) trivial ?_ ?_
    ·intro q hcc _ Y hY
     unfold fQ
     rw[if_pos (by simpa using hcc)]
     obtain⟨m1,m2,m3⟩:=hc r q hr hcc
     refine m3 _ ?_
     refine⟨?_,?_⟩
     ·simp only[List.length_append,List.length_map,List.length_range,List.length_singleton,hl]
      omega
     ·have:=hY trivial
      simp only[List.range_succ,List.map_append,List.map_cons,List.map_nil,<- List.append_assoc]at this
      rw[wA _ m1 m2,aA ((q:Int)+1) (by omega) (by omega)]
      exact this
    ·intro _ Y
     unfold fQ
     rw[if_neg (by simp)]
     have:=hX trivial
     simp only[vA]at this
     dsimp only
     rw[aA ((r:Int)+1) (by omega) (by omega)]
     exact this
   ·intro _ X
    unfold dI
    rw[if_neg (by simp)]
    exact h
theorem aDy {gd g:List Int}{n2 ge cl:Int}{R C n e:Int}{f:Nat->Nat->Int}{Q:T3×Int->Prop}
 (hc:kI n=true->0<szF [R,C]->∀ r q:Nat,r<R.toNat->q<C.toNat -> -2147483648<=f r q/\f r q<=2147483647/\∀ K:Int->Prop,K (f r q)->uL (r:Int) (q:Int) n2 gd ge g cl K)
 (h:Q (kV R C n e f)):j7 R C n e n2 gd ge g cl Q:=by
 refine⟨?_⟩
 refine QE ?_
 unfold kV at h
 by_cases h1:((!kI n||decide (128<e))||decide (e < -128))=true
 ·rw[if_pos h1]at h⊢;exact h
 ·rw[if_neg h1]at h⊢
  refine EL ?_
  by_cases h2:(!decide (0<szF [R,C]))=true
  ·rw[if_pos h2]at h⊢;exact h
  ·rw[if_neg h2]at h⊢
   have hfit:kI n=true:=by
    simp only[Bool.or_eq_true,not_or]at h1
    have:=h1.1.1
    cases hq:kI n with
    | true=>rfl
    | false=>rw[hq]at this;exact absurd rfl this
   have hsz:0<szF [R,C]:=by simpa using h2
   have hc:=hc hfit hsz
   obtain⟨k1,k2,k3,k4,k5,_⟩:=aBz R C hsz
   obtain⟨R,rfl⟩:=Int.eq_ofNat_of_zero_le (show 0<=R by omega)
   obtain⟨C,rfl⟩:=Int.eq_ofNat_of_zero_le (show 0<=C by omega)
   have hRC:R*C<=8192:=by rw[<- Int.natCast_mul]at k5;omega
   simp only[Int.toNat_natCast]at hc h
   refine⟨?_⟩
   refine Loop.range (B:=dT (C:Int) n2 gd ge g cl (R:Int) _) (f:=fun r=>((r:Int),kF r C f)) R (fun _=>True) trivial ?_ ?_
   ·intro r hr _ X hX
    unfold dT
    rw[if_pos (by simpa using hr)]
    refine⟨?_⟩
    dsimp only
    have hl:=zM r C f
    have hrc:(r+1)*C<=R*C:=Nat.mul_le_mul_right C hr
    rw[Nat.add_mul,Nat.one_mul]at hrc
    rw[show(0,kF r C f)=((fun q:Nat=>((q:Int),kF r C f++(List.range q).map (f r))) 0) by simp]
    refine Loop.range (f:=fun q=>((q:Int),kF r C f++(List.range q).map (f r))) C (fun _=>True) trivial ?_ ?_
    ·intro q hcc _ Y hY
     unfold gS
     rw[if_pos (by simpa using hcc)]
     obtain⟨m1,m2,m3⟩:=hc r q hr hcc
     refine m3 _ ?_
     refine⟨?_,?_⟩
     ·simp only[List.length_append,List.length_map,List.length_range,List.length_singleton,hl]
      omega
     ·have:=hY trivial
      simp only[List.range_succ,List.map_append,List.map_cons,List.map_nil,<- List.append_assoc]at this
      rw[wA _ m1 m2,aA ((q:Int)+1) (by omega) (by omega)]
      exact this
    ·intro _ Y
     unfold gS
     rw[if_neg (by simp)]
     have:=hX trivial
     simp only[vA]at this
     dsimp only
     rw[aA ((r:Int)+1) (by omega) (by omega)]
     exact this
   ·intro _ X
    unfold dT
    rw[if_neg (by simp)]
    exact h
def MX (g w:T3):T3×Int :=
 if (mV 2 [g,w] != 0)=true then(Z3,mV 2 [g,w])
 else if (w.1.getD 0 0 != g.1.getD 1 0)=true then(Z3,2)
 else kV (g.1.getD 0 0) (w.1.getD 1 0) (g.1.getD 1 0) (g.2.1+w.2.1) (inC (g.1.getD 1 0).toNat (w.1.getD 1 0).toNat g.2.2 w.2.2)
theorem aHS {g w:T3}{Q:T3×Int->Prop}(bg:All8 g.2.2)(bw:All8 w.2.2)(h:Q (MX g w)):DE g w Q:=by
 refine⟨UZ (by simp) ?_⟩
 unfold MX at h
 by_cases h2:(mV 2 [g,w] != 0)=true
 ·rw[if_pos h2]at h⊢;exact h
 rw[if_neg h2]at h⊢
 obtain⟨mg,mw,lg,lw⟩:=aA5 (by simpa using h2)
 obtain⟨R,n,eg,g1,g2,g3,g4,g5,g6,g7,g8⟩:=aAT mg (by omega)
 obtain⟨D,C,ew,w1,w2,w3,w4,w5,w6,w7,w8⟩:=aAT mw (by omega)
 rw[eg,ew]at h⊢
 refine⟨by simp,by simp,by simp,by simp,?_⟩
 by_cases h3:(([(D:Int),(C:Int)].getD 0 0) != ([(R:Int),(n:Int)].getD 1 0))=true
 ·rw[if_pos h3]at h⊢;exact h
 rw[if_neg h3]at h⊢
 have hD:D=n:=by
  have:(D:Int)=(n:Int):=by simpa using h3
  omega
 subst hD
 rw[aA (g.2.1+w.2.1) (by omega) (by omega)]
 refine aCV ?_ h
 intro hfit hsz r c hr hcc
 have hn:=zL hfit
 simp only[List.getD_cons_zero,List.getD_cons_succ,Int.toNat_natCast]at hr hcc hn⊢
 have hb:=aGg (n:=D) (C:=C) (g:=g.2.2) (w:=w.2.2) (r:=r) (i:=c) (by omega) bg bw
 refine⟨by omega,by omega,fun K hK => ?_⟩
 have k1:(r+1)*D<=R*D:=Nat.mul_le_mul_right D hr
 rw[Nat.add_mul,Nat.one_mul]at k1
 exact aHq (by omega) (by omega) hcc (by omega) (by omega) (by omega) bg bw hK
def I3 (g x:T3):T3×Int :=
 if (mV 2 [g,x] != 0)=true then(Z3,mV 2 [g,x])
 else if (x.1.getD 0 0 != g.1.getD 0 0)=true then(Z3,2)
 else kV (g.1.getD 1 0) (x.1.getD 1 0) (g.1.getD 0 0) (g.2.1+x.2.1) (wgC (g.1.getD 0 0).toNat (g.1.getD 1 0).toNat (x.1.getD 1 0).toNat g.2.2 x.2.2)
theorem aH7 {g x:T3}{Q:T3×Int->Prop}(bg:All8 g.2.2)(bx:All8 x.2.2)(h:Q (I3 g x)):AY g x Q:=by
 refine⟨UZ (by simp) ?_⟩
 unfold I3 at h
 by_cases h2:(mV 2 [g,x] != 0)=true
 ·rw[if_pos h2]at h⊢;exact h
 rw[if_neg h2]at h⊢
 obtain⟨mg,mx,lg,lx⟩:=aA5 (by simpa using h2)
 obtain⟨n,R,eg,g1,g2,g3,g4,g5,g6,g7,g8⟩:=aAT mg (by omega)
 obtain⟨D,C,ex,x1,x2,x3,x4,x5,x6,x7,x8⟩:=aAT mx (by omega)
 rw[eg,ex]at h⊢
 refine⟨by simp,by simp,by simp,by simp,?_⟩
 by_cases h3:(([(D:Int),(C:Int)].getD 0 0) != ([(n:Int),(R:Int)].getD 0 0))=true
 ·rw[if_pos h3]at h⊢;exact h
 rw[if_neg h3]at h⊢
 have hD:D=n:=by
  have:(D:Int)=(n:Int):=by simpa using h3
  omega
 subst hD
 rw[aA (g.2.1+x.2.1) (by omega) (by omega)]
 refine aAO ?_ h
 intro hfit hsz o i ho hi
 have hn:=zL hfit
 simp only[List.getD_cons_zero,List.getD_cons_succ,Int.toNat_natCast]at ho hi hn⊢
 have hb:=aDR (n:=D) (R:=R) (C:=C) (g:=g.2.2) (x:=x.2.2) (o:=o) (i:=i) (by omega) bg bx
 refine⟨by omega,by omega,fun K hK => ?_⟩
 exact aHM (by omega) (by omega) ho hi (by omega) (by omega) (by omega) bg bx hK
theorem aGA {n:Int}{x:T3}(h:mV n [x]=0):cL x=true/\(x.1.length:Int)=n:=by
 unfold mV at h
 split at h
 ·rename_i h1
  split at h
  ·rename_i h2
   simp only[List.all_cons,List.all_nil,Bool.and_true,beq_iff_eq]at h1 h2
   exact⟨h1,h2⟩
  ·omega
 ·omega
def T7 (g:T3):T3×Int:=kV 1 (g.1.getD 1 0) (g.1.getD 0 0) g.2.1 (fun _=>biC (g.1.getD 0 0).toNat (g.1.getD 1 0).toNat g.2.2)
def M8 (g:T3):T3×Int :=
 if (mV 2 [g] != 0)=true then(Z3,mV 2 [g])
 else if ((T7 g).2==0)=true then(([g.1.getD 1 0],(T7 g).1.2),(T7 g).2)else T7 g
theorem aHl {g:T3}{Q:T3×Int->Prop}(bg:All8 g.2.2)(h:Q (M8 g)):G4 g Q:=by
 refine⟨UZ (by simp) ?_⟩
 unfold M8 at h
 by_cases h2:(mV 2 [g] != 0)=true
 ·rw[if_pos h2]at h⊢;exact h
 rw[if_neg h2]at h⊢
 obtain⟨mg,lg⟩:=aGA (by simpa using h2)
 obtain⟨n,C,eg,g1,g2,g3,g4,g5,g6,g7,g8⟩:=aAT mg (by omega)
 refine⟨by omega,by omega,?_⟩
 refine aDy (f:=fun _=>biC (g.1.getD 0 0).toNat (g.1.getD 1 0).toNat g.2.2) ?_ ?_
 ·intro hfit hsz r q hr hq
  have hn:=zL hfit
  rw[eg]at hn hq⊢
  simp only[List.getD_cons_zero,List.getD_cons_succ,Int.toNat_natCast]at hr hq hn⊢
  have hb:=aGx (n:=n) (C:=C) (g:=g.2.2) (o:=q) (by omega) bg
  refine⟨by omega,by omega,fun K hK => ?_⟩
  exact aHu (by omega) hq (by omega) (by omega) bg hK
 ·show if ((T7 g).2==0)=true then _ else _
  by_cases h3:((T7 g).2==0)=true
  ·rw[if_pos h3]at h⊢;exact⟨h⟩
  ·rw[if_neg h3]at h⊢;exact⟨h⟩
end Go.Proofs.YtcfpfefadlnmcaaGreat

namespace Go.Proofs.YtcfpfefadlnmcaaGreat
open Go.Mach Go.RowKit
set_option maxRecDepth 100000
set_option linter.unusedVariables false
set_option linter.unusedSimpArgs false
theorem aDz (x:Int):0<=IntKind.u8.wrap x/\IntKind.u8.wrap x<256:=by
 simp only[IntKind.wrap,IntKind.bits,IntKind.signed]
 simp
 omega
def shF (a:Int):Int:=aM 0 (bQ a 62)
theorem aB0 (a:Int):0<=shF a/\shF a<=62:=by
 unfold shF aM bQ
 split <;> split <;> omega
def b32 (a:Int):Int:=aM 1 (bQ a 32)
theorem aF7 (a:Int):1<=b32 a/\b32 a<=32:=by
 unfold b32 aM bQ
 split <;> split <;> omega
def aGU (a:Int):Int:=IntKind.i64.wrap ((IntKind.i64.wrap (1*2 ^ (min (IntKind.i64.wrap (b32 a-1)).toNat (IntKind.i64).bits)))-1)
def clF (a b:Int):Int:=aM (IntKind.i64.wrap (0-aGU b)) (bQ (CM a) (aGU b))
theorem aEz {a:Int}{Q:Int->Prop}(h:Q (shF a)):D4 a Q:=⟨aBG h⟩
theorem aFS {a b:Int}{Q:Int->Prop}(h:Q (clF a b)):D9 a b Q:=by
 refine⟨aBG ⟨?_,aBD (U4 h)⟩⟩
 have:=aF7 b
 show 0<=IntKind.i64.wrap (b32 b-1)
 rw[aA _ (by omega) (by omega)]
 omega
theorem aCo (a:Int) : -4611686018427387904<=CM a/\CM a<=4611686018427387904:=by
 unfold CM aM bQ
 split <;> split <;> omega
def chF (a s r:Int):Int:=(IntKind.i64.wrap (CM a+(IntKind.i64.wrap (IntKind.u64.wrap ((BitVec.ofInt (IntKind.u64).bits r &&& BitVec.ofInt (IntKind.u64).bits (IntKind.u64.wrap ((IntKind.u64.wrap (1*2 ^ (min (shF s).toNat (IntKind.u64).bits)))-1))).toNat:Nat))))).fdiv (2 ^ (min (shF s).toNat (IntKind.i64).bits))
theorem aD7 {a s r:Int}{Q:Int->Prop}(h:Q (chF a s r)):BQ a s r Q:=⟨aEz (aBD ⟨(aB0 s).1,(aB0 s).1,h⟩)⟩
theorem HZ {a r:Int}:chF a 0 r=CM a:=by
 have e:BitVec.ofInt (IntKind.u64).bits (IntKind.u64.wrap ((IntKind.u64.wrap (1*2 ^ (min (shF 0).toNat (IntKind.u64).bits)))-1))=0#(IntKind.u64).bits:=by decide +kernel
 have e2:(2:Int) ^ (min (shF 0).toNat (IntKind.i64).bits)=1:=by decide +kernel
 unfold chF
 rw[e,e2,BitVec.and_zero]
 have h:=aCo a
 have e3:IntKind.i64.wrap (IntKind.u64.wrap ((0#(IntKind.u64).bits).toNat:Nat))=0:=by decide +kernel
 rw[e3,Int.add_zero,aA _ (by omega) (by omega),Int.fdiv_one]
def l31 (x n:Int):Int:=IntKind.i64.wrap (n+(IntKind.i64.wrap ((wN.data.toList.getD (IntKind.u8.wrap x).toNat 0).toNat:Nat)))
def l15 (x n:Int):Int:=if 256<=x then l31 (x.fdiv (2 ^ (min ((8:Int)).toNat (IntKind.u64).bits))) (IntKind.i64.wrap (n+8))else l31 x n
def l7 (x n:Int):Int:=if 65536<=x then l15 (x.fdiv (2 ^ (min ((16:Int)).toNat (IntKind.u64).bits))) (IntKind.i64.wrap (n+16))else l15 x n
def aGS (x:Int):Int:=if 4294967296<=x then l7 (x.fdiv (2 ^ (min ((32:Int)).toNat (IntKind.u64).bits))) 32 else l7 x 0
theorem aE3:wN.size=256:=by decide +kernel
theorem aFi {x n:Int}{K:Int->Prop}(h:K (l31 x n)):lO x n K:=by
 refine⟨⟨?_,h⟩⟩
 rw[aE3]
 exact⟨(aDz x).1,(aDz x).2⟩
theorem aFs {x n:Int}{K:Int->Prop}(h:K (l15 x n)):kZ x n K:=by
 refine⟨?_⟩
 unfold l15 at h
 by_cases e:256<=x
 ·rw[if_pos e]at h
  rw[if_pos (by simpa using e)]
  exact⟨by decide,aFi h⟩
 ·rw[if_neg e]at h
  rw[if_neg (by simpa using e)]
  exact aFi h
theorem aHb {x n:Int}{K:Int->Prop}(h:K (l7 x n)):lW x n K:=by
 refine⟨?_⟩
 unfold l7 at h
 by_cases e:65536<=x
 ·rw[if_pos e]at h
  rw[if_pos (by simpa using e)]
  exact⟨by decide,aFs h⟩
 ·rw[if_neg e]at h
  rw[if_neg (by simpa using e)]
  exact aFs h
theorem aHU {x:Int}{K:Int->Prop}(h:K (aGS x)):tT x K:=by
 refine⟨?_⟩
 unfold aGS at h
 by_cases e:4294967296<=x
 ·rw[if_pos e]at h
  rw[if_pos (by simpa using e)]
  exact⟨by decide,aHb h⟩
 ·rw[if_neg e]at h
  rw[if_neg (by simpa using e)]
  exact aHb h
def aBx (a:Int):Int:=aGS (IntKind.u64.wrap (aM (CM a) (IntKind.i64.wrap (0-CM a))))
theorem aGd {a:Int}{Q:Int->Prop}(h:Q (aBx a)):GZ a Q:=⟨aBD (aHU (K:=Q) h)⟩
theorem aAh (a:Int):∃ v,∀ Q:Int->Prop,Q v->DI a Q:=⟨_,fun Q h=>⟨⟨by decide,by decide,by decide,h⟩⟩⟩
theorem aFd (a b c:Int):∃ v,∀ Q:Int->Prop,Q v->NV a b c Q:=by
 obtain⟨v1,h1⟩:=aAh a
 obtain⟨v2,h2⟩:=aAh (IntKind.u64.wrap ((BitVec.ofInt (IntKind.u64).bits v1 ^^^ BitVec.ofInt (IntKind.u64).bits b).toNat:Nat))
 obtain⟨v3,h3⟩:=aAh (IntKind.u64.wrap ((BitVec.ofInt (IntKind.u64).bits v2 ^^^ BitVec.ofInt (IntKind.u64).bits c).toNat:Nat))
 exact⟨v3,fun Q h=>⟨h1 _ (h2 _ (h3 _ h))⟩⟩
noncomputable def atF (a b c:Int):Int:=Classical.choose (aFd a b c)
theorem aIG {a b c:Int}{Q:Int->Prop}(h:Q (atF a b c)):NV a b c Q:=Classical.choose_spec (aFd a b c) Q h
def pI (a:List Int×Int×List Int):Bool:=(decide (0<szF a.1)&&((a.2.2.length:Int)==szF a.1))&&SF a.2.1 128
theorem WZ {a:List Int×Int×List Int}{Q:Bool->Prop}(h:Q (pI a)):sU a Q:=by
 refine⟨EL ?_⟩
 unfold jn
 dsimp only
 unfold pI at h
 cases hb:decide (0<szF a.1)with
 | true =>
   rw[hb]at h
   rw[if_pos rfl]
   refine DP ?_
   cases hc:((a.2.2.length:Int)==szF a.1)with
   | true =>
     rw[hc]at h
     rw[if_pos rfl]
     exact aDW h
   | false =>
     rw[hc]at h
     rw[if_neg (by simp)]
     exact h
 | false =>
   rw[hb]at h
   rw[if_neg (by simp),if_neg (by simp)]
   exact h
theorem DZ {a:List Int×Int×List Int}(h:pI a=true):0<szF a.1/\(a.2.2.length:Int)=szF a.1/\a.1≠[]/\a.1.length<=4/\a.2.2.length<=8192:=by
 unfold pI at h
 simp only[Bool.and_eq_true,decide_eq_true_eq,beq_iff_eq]at h
 obtain⟨⟨h1,h2⟩,_⟩:=h
 have h3:=GN a.1
 refine⟨h1,h2,?_,?_,by omega⟩
 ·intro e;rw[e]at h1;exact absurd h1 (by decide)
 ·unfold szF at h1
  split at h1
  ·omega
  ·rename_i hn
   simp only[Bool.or_eq_true,decide_eq_true_eq,not_or]at hn
   omega
def TV (l:List Int):Int:=l.foldl (fun m x=>aM m (aBx (IntKind.i64.wrap x))) 0
theorem aA2 (l:List Int)(i:Nat)(h:i<l.length):TV (l.take (i+1))=aM (TV (l.take i)) (aBx (IntKind.i64.wrap (l.getD i 0))):=by
 unfold TV
 rw[List.take_add_one,List.foldl_append,List.getD_eq_getElem?_getD,List.getElem?_eq_getElem h]
 rfl
def VB (a:List Int×Int×List Int):Int:=if pI a=true then TV a.2.2 else 0
theorem aFb {a:List Int×Int×List Int}{Q:Int->Prop}(h:Q (VB a)):A0 a Q:=by
 refine⟨WZ (a:=a) ?_⟩
 unfold VB at h
 cases hm:pI a with
 | false =>
   rw[hm]at h
   exact h
 | true =>
   rw[hm,if_pos rfl]at h
   rw[if_neg (by simp)]
   obtain⟨_,_,_,_,hlen⟩:=DZ hm
   refine⟨?_⟩
   refine Loop.range (B:=mG a.2.2 (a.2.2.length:Int) fun y=>Q y) a.2.2.length (fun i=>(TV (a.2.2.take i),(i:Int))) (fun _=>True) trivial ?_ ?_
   ·intro i hi _ X hX
    unfold mG
    rw[if_pos (by simpa using hi)]
    refine⟨by simp only[];omega,aGd ?_⟩
    have:=hX trivial
    rw[aA2 _ _ hi]at this
    simp only[Int.toNat_natCast]
    rw[aA ((i:Int)+1) (by omega) (by omega)]
    exact this
   ·intro _ X
    unfold mG
    rw[if_neg (by simp)]
    simp only[List.take_length]
    exact h
theorem sT {a:List Int}{Q:List Int->Prop}(h1:a.length<=17592186044416)(h:Q a):aN a Q:=by
 refine⟨fun e=>(by rw[e]at h;exact h),?_,h⟩
 simp only[List.length_nil]
 omega
theorem Y7 {a:List Int}{Q:List Int->Prop}(h1:a.length<=140737488355328)(h:Q a):iK a Q:=by
 refine⟨fun e=>(by rw[e]at h;exact h),?_,h⟩
 simp only[List.length_nil]
 omega
noncomputable def IW (b s t sh:Int)(l:List Int)(i:Nat):Int:=IntKind.i8.wrap (clF (chF (IntKind.i64.wrap (l.getD i 0)) sh (atF s t (IntKind.u64.wrap (i:Int)))) b)
noncomputable def JF (b s t sh:Int)(l:List Int):List Int:=(List.range l.length).map (IW b s t sh l)
def pO (a:List Int×Int×List Int)(b:Int):Int:=aM 0 (IntKind.i64.wrap (VB a-(IntKind.i64.wrap (b-1))))
noncomputable def j6 (a:List Int×Int×List Int)(b s t:Int):(List Int×Int×List Int)×Int :=
 if ((!(pI a)||(decide (b<2)))||(decide (8<b)))=true then(([],0,[]),1)
 else if (!(SF (IntKind.i64.wrap (a.2.1+pO a b)) 64))=true then(([],0,[]),3)
 else((a.1,IntKind.i64.wrap (a.2.1+pO a b),JF b s t (pO a b) a.2.2),0)
theorem aAz {a:List Int×Int×List Int}{b s t:Int}{Q:((List Int×Int×List Int)×Int)->Prop}(h:Q (j6 a b s t)):uM a b s t Q:=by
 refine⟨?_⟩
 refine WZ (a:=a) ?_
 unfold j6 at h
 by_cases e:((!(pI a)||(decide (b<2)))||(decide (8<b)))=true
 ·rw[if_pos e]at h⊢;exact h
 ·rw[if_neg e]at h⊢
  have hm:pI a=true:=by
   cases hm:pI a with
   | true=>rfl
   | false=>exfalso;apply e;rw[hm];rfl
  obtain⟨_,_,h3,h4,hlen⟩:=DZ hm
  refine aFb (a:=a) (sT (by omega) (aDW ?_))
  show(if (!(SF (IntKind.i64.wrap (a.2.1+pO a b)) 64))=true then _ else _)
  by_cases e2:(!(SF (IntKind.i64.wrap (a.2.1+pO a b)) 64))=true
  ·rw[if_pos e2]at h⊢;exact h
  ·rw[if_neg e2]at h⊢
   refine⟨?_⟩
   refine Loop.range (B:=mL b s t (pO a b) a.2.2 (a.2.2.length:Int) _) (f:=fun i=>((i:Int),(List.range i).map (IW b s t (pO a b) a.2.2))) a.2.2.length (fun _=>True) trivial ?_ ?_
   ·intro i hi _ X hX
    unfold mL
    rw[if_pos (by simpa using hi)]
    refine⟨by simp only[];omega,aIG (aD7 (aFS ⟨?_,?_⟩))⟩
    ·simp only[List.length_map,List.length_range,List.length_singleton]
     omega
    ·have:=hX trivial
     simp only[List.range_succ,List.map_append,List.map_cons,List.map_nil]at this
     simp only[Int.toNat_natCast]
     rw[aA ((i:Int)+1) (by omega) (by omega)]
     exact this
   ·intro _ X
    unfold mL
    rw[if_neg (by simp)]
    exact h
end Go.Proofs.YtcfpfefadlnmcaaGreat

namespace Go.Proofs.YtcfpfefadlnmcaaGreat
open Go.Mach Go.RowKit
set_option maxRecDepth 100000
set_option linter.unusedVariables false
set_option linter.unusedSimpArgs false
theorem TS {a b:List Int}{Q:Bool->Prop}(hl:a.length<=1000000000000000)(h:Q (decide (a=b))):gX a b Q:=by
 refine⟨?_⟩
 by_cases e:a.length=b.length
 ·rw[if_neg (by simp[e])]
  refine⟨?_⟩
  refine Loop.range (B:=fS a b (a.length:Int) (fun _=>Q true) (fun _=>Q false)) a.length (fun i=>(i:Int)) (fun i=>∀ j,j<i->a.getD j 0=b.getD j 0) (fun j hj=>absurd hj (by omega)) ?_ ?_
  ·intro i hi hI X hX
   unfold fS
   rw[if_pos (decide_eq_true (show(i:Int)<(a.length:Int) by omega))]
   refine⟨by omega,by omega,?_⟩
   simp only[Int.toNat_natCast]
   by_cases hd:a.getD i 0=b.getD i 0
   ·rw[if_neg (by simpa using hd),aA _ (by omega) (by omega)]
    refine hX fun j hj => ?_
    by_cases hji:j=i
    ·subst hji;exact hd
    ·exact hI j (by omega)
   ·rw[if_pos (by simpa using hd)]
    have:decide (a=b)=false:=by
     simp only[decide_eq_false_iff_not]
     intro hab;exact hd (by rw[hab])
    rw[this]at h;exact h
  ·intro hI X
   unfold fS
   rw[if_neg (by simp)]
   have:decide (a=b)=true:=by
    simp only[decide_eq_true_eq]
    refine List.ext_getElem e fun i h1 h2 => ?_
    have:=hI i h1
    rw[List.getD_eq_getElem?_getD,List.getD_eq_getElem?_getD,List.getElem?_eq_getElem h1,List.getElem?_eq_getElem h2]at this
    exact this
   rw[this]at h;exact h
 ·rw[if_pos (by simp;omega)]
  have:decide (a=b)=false:=by
   simp only[decide_eq_false_iff_not]
   intro hab;exact e (by rw[hab])
  rw[this]at h;exact h
theorem DT {a b:List Int}{Q:Bool->Prop}(hl:a.length<=1000000000000000)(h:Q (decide (a=b))):fC a b Q:=⟨TS hl h⟩
theorem eI {a:T3}(h:cL a=true):a.1.length<=4/\a.2.2.length<=8192/\1<=a.1.length/\1<=a.1.getD 0 0/\a.1.getD 0 0<=4096:=by
 obtain⟨h1,h2,_⟩:=eK.1 h
 obtain⟨h3,h4,_⟩:=lT h1
 have h5:=GN a.1
 refine⟨h3.2,by omega,h3.1,?_⟩
 match hA:a.1 with
 | []=>rw[hA]at h3;simp at h3
 | x::l=>exact h4 x (by rw[hA];simp)
def pT (t:T3)(d:List Int):T3×Int :=
 if cL t=true/\0<szF d then(if szF d=(t.2.2.length:Int)then((d,t.2.1,t.2.2),0)else(([],0,[]),2))else(([],0,[]),1)
theorem aBS {t:T3}{d:List Int}{Q:T3×Int->Prop}(hd:d.length<=17592186044416)(h:Q (pT t d)):AG t d Q:=by
 refine⟨kG ?_⟩
 unfold jn
 dsimp only
 unfold pT at h
 cases hm:cL t with
 | false =>
   rw[if_neg (by rw[hm];simp)]at h
   rw[if_pos (by rfl),if_pos (by rfl)]
   exact h
 | true =>
   rw[if_neg (by simp)]
   refine EL ?_
   by_cases hs:0<szF d
   ·rw[if_pos ⟨hm,hs⟩]at h
    rw[decide_eq_true hs,if_neg (by simp)]
    refine DP ?_
    by_cases he:szF d=(t.2.2.length:Int)
    ·rw[if_pos he]at h
     rw[if_neg (by simp[he])]
     refine sT hd (Y7 ?_ h)
     have:=(eI hm).2.1
     omega
    ·rw[if_neg he]at h
     rw[if_pos (by simpa using he)]
     exact h
   ·rw[if_neg (fun hh=>hs hh.2)]at h
    rw[decide_eq_false hs,if_pos (by rfl)]
    exact h
def BU (t:T3):T3×Int:=if cL t=true then pT t [t.1.getD 0 0,IntKind.i64.wrap ((szF t.1).tdiv (t.1.getD 0 0))]else(([],0,[]),1)
theorem aGn {t:T3}{Q:T3×Int->Prop}(h:Q (BU t)):KI t Q:=by
 refine⟨kG ?_⟩
 unfold BU at h
 cases hm:cL t with
 | false =>
   rw[if_neg (by rw[hm];simp)]at h
   rw[if_pos (by rfl)]
   exact h
 | true =>
   rw[if_pos hm]at h
   rw[if_neg (by simp)]
   obtain⟨h1,h2,h3,h4,h5⟩:=eI hm
   refine⟨by omega,DP ⟨by omega,⟨by omega,aBS (by simp) ?_⟩⟩⟩
   exact h
def CE (t:T3):T3×Int:=if cL t=true then((t.1,t.2.1,t.2.2.map (aM 0)),0)else(([],0,[]),1)
theorem aGC {t:T3}{Q:T3×Int->Prop}(h:Q (CE t)):JG t Q:=by
 refine⟨kG ?_⟩
 unfold CE at h
 cases hm:cL t with
 | false =>
   rw[if_neg (by rw[hm];simp)]at h
   rw[if_pos (by rfl)]
   exact h
 | true =>
   rw[if_pos hm]at h
   rw[if_neg (by simp)]
   obtain⟨h1,h2,_⟩:=eI hm
   refine⟨sT (by omega) ⟨?_⟩⟩
   try dsimp only
   refine Loop.range (B:=eV t.1 t.2.1 t.2.2 (t.2.2.length:Int) _) t.2.2.length (fun i=>((i:Int),(t.2.2.take i).map (aM 0))) (fun _=>True) trivial ?_ ?_
   ·intro i hi _ X hX
    unfold eV
    dsimp only
    rw[if_pos (decide_eq_true (show(i:Int)<(t.2.2.length:Int) by omega))]
    refine⟨⟨by omega,?_⟩⟩
    rw[Int.toNat_natCast]
    refine⟨by simp;omega,?_⟩
    rw[aA _ (by omega) (by omega)]
    have e:(t.2.2.take i).map (aM 0)++[aM 0 (t.2.2.getD i 0)]=(t.2.2.take (i+1)).map (aM 0):=by
     rw[List.take_add_one,List.getD_eq_getElem?_getD,List.getElem?_eq_getElem hi,List.map_append]
     rfl
    rw[e]
    exact hX trivial
   ·intro _ X
    unfold eV
    dsimp only
    rw[if_neg (by simp),List.take_length]
    exact h
def aEN (a b:T3):Int:=aM (bQ a.2.1 b.2.1) (IntKind.i64.wrap (aM a.2.1 b.2.1-12))
def mD (a b:T3)(i:Nat):Int:=IntKind.i32.wrap (IntKind.i64.wrap (alF (IntKind.i64.wrap (a.2.2.getD i 0)) a.2.1 (aEN a b)+alF (IntKind.i64.wrap (b.2.2.getD i 0)) b.2.1 (aEN a b)))
def addF (a b:T3):T3×Int :=
 if cL a=true/\cL b=true then(if a.1=b.1 then((a.1,aEN a b,(List.range a.2.2.length).map (mD a b)),0)else(([],0,[]),2))else(([],0,[]),1)
theorem aDm {a b:T3}{Q:T3×Int->Prop}(h:Q (addF a b)):I6 a b Q:=by
 refine⟨kG ?_⟩
 unfold jn
 dsimp only
 unfold addF at h
 cases hm:cL a with
 | false =>
   rw[if_neg (by rw[hm];simp)]at h
   rw[if_pos (by rfl),if_pos (by rfl)]
   exact h
 | true =>
   rw[if_neg (by simp)]
   refine kG ?_
   cases hn:cL b with
   | false =>
     rw[if_neg (by rw[hn];simp)]at h
     rw[if_pos (by rfl)]
     exact h
   | true =>
     rw[if_pos ⟨hm,hn⟩]at h
     rw[if_neg (by simp)]
     obtain⟨h1,h2,_⟩:=eI hm
     obtain⟨k1,k2,_⟩:=eI hn
     refine DT (by omega) ?_
     by_cases he:a.1=b.1
     ·rw[if_pos he]at h
      rw[decide_eq_true he,if_neg (by simp)]
      have hlen:a.2.2.length=b.2.2.length:=by
       have q1:=(eK.1 hm).2.1
       have q2:=(eK.1 hn).2.1
       rw[he]at q1
       omega
      refine sT (by omega) ⟨?_⟩
      refine Loop.range (B:=uG (a.2.2.length:Int) a.2.1 a.2.2 b.2.1 b.2.2 (aEN a b) _) a.2.2.length (fun i=>((i:Int),(List.range i).map (mD a b))) (fun _=>True) trivial ?_ ?_
      ·intro i hi _ X hX
       unfold uG
       dsimp only
       rw[if_pos (decide_eq_true (show(i:Int)<(a.2.2.length:Int) by omega))]
       refine⟨by omega,?_⟩
       rw[Int.toNat_natCast]
       refine aEc ⟨by omega,aEc ⟨by simp;omega,?_⟩⟩
       rw[aA ((i:Int)+1) (by omega) (by omega)]
       have e:(List.range i).map (mD a b)++[mD a b i]=(List.range (i+1)).map (mD a b):=by
        rw[List.range_succ,List.map_append];rfl
       have:=hX trivial
       rw[<- e]at this
       exact this
      ·intro _ X
       unfold uG
       dsimp only
       rw[if_neg (by simp)]
       exact h
     ·rw[if_neg he]at h
      rw[decide_eq_false he,if_pos (by rfl)]
      exact h
end Go.Proofs.YtcfpfefadlnmcaaGreat

namespace Go.Proofs.YtcfpfefadlnmcaaGreat
open Go.Mach
set_option maxRecDepth 100000
set_option linter.unusedVariables false
set_option linter.unusedSimpArgs false
theorem N0 (n:Nat)(f:Nat->Int):tab (n+1) f=tab n f++[f n]:=by
 unfold tab
 rw[List.range_succ,List.map_append]
 rfl
theorem zD {α:Type}{l:List α}{i:Nat}(h:i<l.length)(d:α):l.take (i+1)=l.take i++[l.getD i d]:=by
 rw[List.take_add_one,List.getElem?_eq_getElem h,List.getD_eq_getElem?_getD,List.getElem?_eq_getElem h];rfl
theorem VN {d:List Int}{k s:Int}{Q:(Int×Int×Int×Int×Int×Int)×Bool->Prop}(h1:((d.length:Int) != 4)=true->Q ((0,(0,(0,(0,(0,0))))),false))
 (h2:((d.length:Int) != 4)=false->Q ((d.getD 2 0,(d.getD 3 0,(k,(s,(aL (d.getD 2 0) k s 0,aL (d.getD 3 0) k s 0))))),decide (0<aL (d.getD 2 0) k s 0)&&decide (0<aL (d.getD 3 0) k s 0))):yX d k s Q:=by
 refine⟨?_⟩
 split
 ·rename_i h;exact h1 h
 ·rename_i h
  have h:=Bool.eq_false_iff.2 h
  have:(d.length:Int)=4:=by simpa using h
  exact⟨by omega,by omega,F3 (F3 (h2 h))⟩
def l5 (H V:Nat)(k s:Int)(P Q t:Nat):List Int:=(eM H V ((t%(P*Q) / Q:Nat):Int) ((t%(P*Q)%Q:Nat):Int) k s 0).map fun z=>((t / (P*Q)*H*V:Nat):Int)+z.1
theorem E1 {n H V:Nat}{a:Int}(h:n*H*V<=100000000)(ha:0<=a/\a<=100000000):IntKind.i64.wrap (IntKind.i64.wrap (IntKind.i64.wrap ((n:Int)*(H:Int))*(V:Int))+a)=((n*H*V:Nat):Int)+a\/V=0:=by
 by_cases hV:V=0
 ·exact .inr hV
 ·left
  have h1:n*H<=n*H*V:=Nat.le_mul_of_pos_right _ (by omega)
  rw[vL (r:=n) (n:=H) (by omega),vL (r:=n*H) (n:=V) (by omega),aA _ (by omega) (by omega)]
theorem aEr {n H V:Nat}{w:List (Int×Int×Int)}{K0:List Int->Prop}(hb:n*H*V<=100000000)(hV:1<=V)(hw:w.length<=1000000)(hz:∀ z∈w,0<=z.1/\z.1<=100000000)(h:K0 (w.map fun z=>((n*H*V:Nat):Int)+z.1)) :
 f9 n (w.length:Int) H V w K0 (0,[]):=by
 refine⟨?_⟩
 have e0:((0:Int),([]:List Int))=(fun i:Nat=>((i:Int),(w.take i).map fun z=>((n*H*V:Nat):Int)+z.1)) 0:=by simp
 rw[e0]
 refine Loop.range (B:=dE n (w.length:Int) H V w K0) w.length (fun i:Nat=>((i:Int),(w.take i).map fun z=>((n*H*V:Nat):Int)+z.1)) (fun _=>True) trivial ?_ ?_
 ·intro i hi _ X hX
  have hX:=hX trivial
  unfold dE
  rw[if_pos (decide_eq_true (show(i:Int)<(w.length:Int) by omega))]
  dsimp only at hX⊢
  have hm:=hz (w.getD i (0,0,0)) (by rw[List.getD_eq_getElem?_getD,List.getElem?_eq_getElem hi];exact List.getElem_mem hi)
  refine⟨by omega,?_⟩
  rw[Int.toNat_natCast]
  rcases E1 hb hm with e|e
  ·rw[e,aA ((i:Int)+1) (by omega) (by omega)]
   refine⟨by simp;omega,?_⟩
   rw[zD hi (0,0,0),List.map_append]at hX
   exact hX
  ·omega
 ·intro _ X
  unfold dE
  rw[if_neg (by simp)]
  simpa using h
def oB (X:List Int)(b:Int)(l:List Int):Int:=l.foldl (fun b a=>if decide (X.getD b.toNat 0<X.getD a.toNat 0)=true then a else b) b
def IC (X l:List Int):Int:=oB X (l.getD 0 0) l
theorem BR (X:List Int):∀ (l:List Int) (b:Int),oB X b l=b\/oB X b l∈l
 | [],b => .inl rfl
 | a::l,b=>by
   unfold oB
   rw[List.foldl_cons]
   by_cases h:decide (X.getD b.toNat 0<X.getD a.toNat 0)=true
   ·rw[if_pos h]
    rcases BR X l a with e|e
    ·right;unfold oB at e;rw[e];exact List.mem_cons_self
    ·right;exact List.mem_cons_of_mem _ e
   ·rw[if_neg h]
    rcases BR X l b with e|e
    ·left;exact e
    ·right;exact List.mem_cons_of_mem _ e
theorem SW {X l:List Int}(h:l≠[]):IC X l∈l:=by
 unfold IC
 cases l with
 | nil=>exact absurd rfl h
 | cons a l =>
   rcases BR X (a::l) ((a::l).getD 0 0)with e|e
   ·rw[e];simp
   ·exact e
theorem aEy {X l:List Int}{K0:Int->Prop}(hl:l≠[])(hn:l.length<=1000000)(hr:∀ a∈l,0<=a/\a<(X.length:Int))(h:K0 (IC X l)):cR (l.length:Int) X l K0 (l.getD 0 0,0):=by
 refine⟨?_⟩
 have e0:(l.getD 0 0,(0:Int))=(fun i:Nat=>(oB X (l.getD 0 0) (l.take i),(i:Int))) 0:=by simp[oB]
 rw[e0]
 have hmem:∀ i,0<=oB X (l.getD 0 0) (l.take i)/\oB X (l.getD 0 0) (l.take i)<(X.length:Int):=by
  intro i
  rcases BR X (l.take i) (l.getD 0 0)with e|e
  ·rw[e]
   refine hr _ ?_
   cases l with
   | nil=>exact absurd rfl hl
   | cons a l=>simp
  ·exact hr _ (List.mem_of_mem_take e)
 refine Loop.range (B:=bJ (l.length:Int) X l K0) l.length (fun i:Nat=>(oB X (l.getD 0 0) (l.take i),(i:Int))) (fun _=>True) trivial ?_ ?_
 ·intro i hi _ Y hY
  have hY:=hY trivial
  unfold bJ
  rw[if_pos (decide_eq_true (show(i:Int)<(l.length:Int) by omega))]
  dsimp only at hY⊢
  have hm:=hr (l.getD i 0) (HB hi)
  refine⟨by omega,?_⟩
  rw[Int.toNat_natCast]
  refine⟨hm,hmem i,?_⟩
  have e1:oB X (l.getD 0 0) (l.take (i+1))=if decide (X.getD (oB X (l.getD 0 0) (l.take i)).toNat 0<X.getD (l.getD i 0).toNat 0)=true then l.getD i 0 else oB X (l.getD 0 0) (l.take i):=by
   rw[zD hi 0]
   unfold oB
   rw[List.foldl_append]
   rfl
  rw[e1]at hY
  by_cases hc:decide (X.getD (oB X (l.getD 0 0) (l.take i)).toNat 0<X.getD (l.getD i 0).toNat 0)=true
  ·rw[if_pos hc]at hY⊢
   refine⟨?_⟩
   rw[aA ((i:Int)+1) (by omega) (by omega)]
   exact hY
  ·rw[if_neg hc]at hY⊢
   refine⟨?_⟩
   rw[aA ((i:Int)+1) (by omega) (by omega)]
   exact hY
 ·intro _ Y
  unfold bJ
  rw[if_neg (by simp)]
  have:oB X (l.getD 0 0) (l.take l.length)=IC X l:=by rw[List.take_length];rfl
  dsimp only
  rw[this];exact h
structure PoolIn (N H V P Q:Nat)(k s:Int)(X:List Int):Prop where
 hx:X.length=N*(H*V)
 bx:N*(H*V)<=8192
 hH:1<=H/\H<=16
 hV:1<=V/\V<=16
 hk:1<=k/\k<=5
 hs:1<=s/\s<=4
 hP:aL H k s 0=P
 hQ:aL V k s 0=Q
 p1:1<=P
 q1:1<=Q
theorem PoolIn.le {N H V P Q:Nat}{k s:Int}{X:List Int}(g:PoolIn N H V P Q k s X):P<=25/\Q<=25/\N<=8192:=by
 obtain⟨P',e1,h1⟩:=pD (n:=H) (k:=k) (s:=s) (p:=0)
 obtain⟨Q',e2,h2⟩:=pD (n:=V) (k:=k) (s:=s) (p:=0)
 have:=g.hP
 have:=g.hQ
 have h3:=g.bx
 have h4:=Nat.mul_le_mul (Nat.mul_le_mul (Nat.le_refl N) g.hH.1) g.hV.1
 rw[Nat.mul_assoc,Nat.mul_assoc]at h4
 have h5:N*H*V=N*(H*V):=Nat.mul_assoc _ _ _
 omega
theorem S3 {n:Nat}{k s r:Int}{P:Nat}(h:aL n k s 0=P)(h1:1<=P)(hr:0<=r/\r<=P-1):0<=s*r/\s*r<=n-k:=by
 obtain⟨a,b,c,d,e,f⟩:=nE (n:=(n:Int)) (k:=k) (s:=s) (p:=0) (by omega)
 have h2:(P:Int)-1=(n+2*0-k) / s:=by omega
 have h3:s*((n+2*0-k) / s)<=n+2*0-k:=Int.mul_ediv_self_le (by omega)
 have h4:s*r<=s*((P:Int)-1):=Int.mul_le_mul_of_nonneg_left hr.2 (by omega)
 rw[h2]at h4
 exact⟨Int.mul_nonneg (by omega) hr.1,by omega⟩
theorem aDt {H V P Q:Nat}{k s r c:Int}(hP:aL H k s 0=P)(hQ:aL V k s 0=Q)(p1:1<=P)(q1:1<=Q)(hr:0<=r/\r<=P-1)(hc:0<=c/\c<=Q-1):eM H V r c k s 0≠[]:=by
 obtain⟨a,b,_⟩:=nE (n:=(H:Int)) (k:=k) (s:=s) (p:=0) (by omega)
 obtain⟨a',_⟩:=nE (n:=(V:Int)) (k:=k) (s:=s) (p:=0) (by omega)
 have h1:=S3 hP p1 hr
 have h2:=S3 hQ q1 hc
 have hnw:aB5 H V r c k s 0=false:=by
  unfold aB5 inP
  rw[hP,hQ]
  simp only[Bool.or_eq_false_iff,decide_eq_false_iff_not,Bool.not_eq_false',Bool.and_eq_true,decide_eq_true_eq]
  omega
 unfold eM
 rw[if_neg (by rw[hnw];simp)]
 have hm:(((s*r-0+((0:Nat):Int))*V+(s*c-0+((0:Nat):Int)),((0:Nat):Int),((0:Nat):Int)):Int×Int×Int)∈CL H V (s*r-0) (s*c-0) k.toNat k.toNat:=by
  unfold CL oQ jO
  refine List.mem_flatMap.2 ⟨0,List.mem_range.2 (by omega),List.mem_flatMap.2 ⟨0,List.mem_range.2 (by omega),?_⟩⟩
  rw[if_pos (by unfold inP;simp only[Bool.and_eq_true,decide_eq_true_eq];omega)]
  exact List.mem_singleton.2 rfl
 intro e
 rw[e]at hm
 cases hm
section
variable {N H V P Q:Nat} {k s:Int} {X:List Int}
theorem PoolIn.cell (g:PoolIn N H V P Q k s X){n i:Nat}(hn:n<N)(hi:i<P*Q) :
 (i / Q<P/\i%Q<Q)/\(eM H V ((i / Q:Nat):Int) ((i%Q:Nat):Int) k s 0).length<=25/\(∀ z∈eM H V ((i / Q:Nat):Int) ((i%Q:Nat):Int) k s 0,0<=z.1/\z.1<(H*V:Nat))/\eM H V ((i / Q:Nat):Int) ((i%Q:Nat):Int) k s 0≠[] /\
  l5 H V k s P Q (n*(P*Q)+i)=(eM H V ((i / Q:Nat):Int) ((i%Q:Nat):Int) k s 0).map fun z=>((n*H*V:Nat):Int)+z.1:=by
 obtain⟨l1,l2,l3⟩:=g.le
 have q1:=g.q1
 have p1:=g.p1
 have hk:=g.hk
 have h1:i / Q<P:=Nat.div_lt_of_lt_mul (by rw[Nat.mul_comm];exact hi)
 have h2:i%Q<Q:=Nat.mod_lt _ (by omega)
 obtain⟨K,hK⟩:∃ K:Nat,k=K:=⟨k.toNat,by omega⟩
 subst hK
 refine⟨⟨h1,h2⟩,?_,?_,?_,?_⟩
 ·have:=D7 (rows:=H) (cols:=V) (r:=((i / Q:Nat):Int)) (c:=((i%Q:Nat):Int)) (s:=s) (p:=0) (K:=K)
  have:K*K<=5*5:=Nat.mul_le_mul (by omega) (by omega)
  omega
 ·intro z hz
  obtain⟨a,r,c,rfl,ha,_⟩:=GM z hz
  exact⟨by dsimp only;omega,by dsimp only;omega⟩
 ·exact aDt g.hP g.hQ p1 q1 ⟨Int.natCast_nonneg _,by generalize i / Q=y at *;omega⟩ ⟨Int.natCast_nonneg _,by generalize i%Q=y at *;omega⟩
 ·unfold l5
  rw[KU hi,KD hi]
theorem PoolIn.addr (g:PoolIn N H V P Q k s X){n i:Nat}(hn:n<N)(hi:i<P*Q):∀ a∈l5 H V k s P Q (n*(P*Q)+i),0<=a/\a<(X.length:Int):=by
 obtain⟨_,_,h3,_,h5⟩:=g.cell hn hi
 rw[h5]
 intro a ha
 obtain⟨z,hz,rfl⟩:=List.mem_map.1 ha
 have:=h3 z hz
 have h6:=jV (r:=n) (R:=N) (n:=H*V) (i:=z.1.toNat) hn (by omega)
 have h7:n*H*V=n*(H*V):=Nat.mul_assoc _ _ _
 rw[g.hx]
 omega
theorem aFI (g:PoolIn N H V P Q k s X){n:Nat}(hn:n<N){K0:List Int×List Int->Prop}{F:Nat->Int}(hF:F=fun t=>IC X (l5 H V k s P Q t))
 (h:K0 ((tab (n*(P*Q)+P*Q) F).map (fun a=>X.getD a.toNat 0),tab (n*(P*Q)+P*Q) F)) :
 gC n ((P*Q:Nat):Int) X H V k s Q K0 (0,(tab (n*(P*Q)) F).map (fun a=>X.getD a.toNat 0),tab (n*(P*Q)) F):=by
 obtain⟨l1,l2,l3⟩:=g.le
 have q1:=g.q1
 have hPQ:P*Q<=25*25:=Nat.mul_le_mul l1 l2
 have hNN:n*(P*Q)<=8192*(25*25):=Nat.mul_le_mul (by omega) hPQ
 have hx:=g.hx
 have bx:=g.bx
 refine⟨?_⟩
 have e0:((0:Int),(tab (n*(P*Q)) F).map (fun a=>X.getD a.toNat 0),tab (n*(P*Q)) F)=(fun i:Nat=>((i:Int),(tab (n*(P*Q)+i) F).map (fun a=>X.getD a.toNat 0),tab (n*(P*Q)+i) F)) 0:=rfl
 rw[e0]
 refine Loop.range (B:=dA n ((P*Q:Nat):Int) X H V k s Q K0) (P*Q) (fun i:Nat=>((i:Int),(tab (n*(P*Q)+i) F).map (fun a=>X.getD a.toNat 0),tab (n*(P*Q)+i) F)) (fun _=>True) trivial ?_ ?_
 ·intro i hi _ Y hY
  have hY:=hY trivial
  obtain⟨⟨c1,c2⟩,c3,c4,c5,c6⟩:=g.cell hn hi
  have c7:=g.addr hn hi
  unfold dA
  rw[if_pos (decide_eq_true (show(i:Int)<((P*Q:Nat):Int) by omega))]
  dsimp only at hY⊢
  refine⟨by omega,by omega,?_⟩
  have e1:IntKind.i64.wrap ((i:Int).tdiv (Q:Int))=((i / Q:Nat):Int):=by
   rw[<- Int.ofNat_tdiv];exact aA _ (by have:=Int.natCast_nonneg (i / Q);generalize i / Q=y at *;omega) (by have:=Nat.div_le_self i Q;generalize i / Q=y at *;omega)
  have e2:(i:Int).tmod (Q:Int)=((i%Q:Nat):Int):=(Int.ofNat_tmod _ _).symm
  rw[e1,e2]
  refine DJ ?_
  have hb:n*H*V<=100000000:=by
   have h7:n*H*V=n*(H*V):=Nat.mul_assoc _ _ _
   have:=Nat.mul_le_mul_right (H*V) (Nat.le_of_lt hn)
   omega
  refine aEr hb g.hV.1 (by omega) (fun z hz=>by
   have:=c4 z hz
   have h8:H*V<=16*16:=Nat.mul_le_mul g.hH.2 g.hV.2
   omega) ?_
  rw[<- c6]
  have hne:l5 H V k s P Q (n*(P*Q)+i)≠[]:=by rw[c6];simpa using c5
  have hlen:(l5 H V k s P Q (n*(P*Q)+i)).length<=25:=by rw[c6];simpa using c3
  have hpos:0<(l5 H V k s P Q (n*(P*Q)+i)).length:=List.length_pos_iff.2 hne
  refine⟨by omega,?_⟩
  refine aEy hne (by omega) c7 ?_
  have hb:=c7 _ (SW (X:=X) hne)
  refine⟨hb,by simp;omega,by simp;omega,?_⟩
  rw[aA ((i:Int)+1) (by omega) (by omega)]
  rw[show n*(P*Q)+(i+1)=n*(P*Q)+i+1 by omega,N0,List.map_append]at hY
  have eF:F (n*(P*Q)+i)=IC X (l5 H V k s P Q (n*(P*Q)+i)):=by rw[hF]
  rw[eF]at hY
  exact hY
 ·intro _ Y
  unfold dA
  rw[if_neg (by simp)]
  exact h
theorem aE0 (g:PoolIn N H V P Q k s X){K0:List Int×List Int->Prop}{F:Nat->Int}(hF:F=fun t=>IC X (l5 H V k s P Q t))
 (h:K0 ((tab (N*(P*Q)) F).map (fun a=>X.getD a.toNat 0),tab (N*(P*Q)) F)) :
 fX (N:Int) X H V k s P Q K0 (0,[],[]):=by
 obtain⟨l1,l2,l3⟩:=g.le
 refine⟨?_⟩
 have e0:((0:Int),([]:List Int),([]:List Int))=(fun n:Nat=>((n:Int),(tab (n*(P*Q)) F).map (fun a=>X.getD a.toNat 0),tab (n*(P*Q)) F)) 0:=by simp[tab]
 rw[e0]
 refine Loop.range (B:=dH (N:Int) X H V k s P Q K0) N (fun n:Nat=>((n:Int),(tab (n*(P*Q)) F).map (fun a=>X.getD a.toNat 0),tab (n*(P*Q)) F)) (fun _=>True) trivial ?_ ?_
 ·intro n hn _ Y hY
  have hY:=hY trivial
  unfold dH
  rw[if_pos (decide_eq_true (show(n:Int)<(N:Int) by omega))]
  dsimp only at hY⊢
  have hPQ:P*Q<=25*25:=Nat.mul_le_mul l1 l2
  rw[vL (r:=P) (n:=Q) (by omega)]
  refine aFI g hn hF ?_
  rw[aA ((n:Int)+1) (by omega) (by omega)]
  rw[Nat.add_mul,Nat.one_mul]at hY
  exact hY
 ·intro _ Y
  unfold dH
  rw[if_neg (by simp)]
  exact h
end
def plE (x:T3)(k s:Int):Int :=
 if cL x=true then(if ((x.1.length:Int) != 4)=true then 2 else if (decide (0<aL (x.1.getD 2 0) k s 0)&&decide (0<aL (x.1.getD 3 0) k s 0))=true then 0 else 2)else 1
def plD (x:T3)(k s:Int):List Int:=[x.1.getD 0 0,x.1.getD 1 0,aL (x.1.getD 2 0) k s 0,aL (x.1.getD 3 0) k s 0]
def plN (x:T3)(k s:Int):Nat:=(x.1.getD 0 0*x.1.getD 1 0).toNat*((aL (x.1.getD 2 0) k s 0).toNat*(aL (x.1.getD 3 0) k s 0).toNat)
def plA (x:T3)(k s:Int)(t:Nat):List Int:=l5 (x.1.getD 2 0).toNat (x.1.getD 3 0).toNat k s (aL (x.1.getD 2 0) k s 0).toNat (aL (x.1.getD 3 0) k s 0).toNat t
def CG (x:T3)(k s:Int):List Int:=tab (plN x k s) fun t=>IC x.2.2 (plA x k s t)
def NF (x:T3)(k s:Int):T3×List Int×Int :=
 if (plE x k s != 0)=true then(Z3,[],plE x k s)else((plD x k s,(x.2.1,(CG x k s).map fun a=>x.2.2.getD a.toNat 0)),CG x k s,0)
theorem aDu {x:T3}{k s:Int}(h:plE x k s=0):∃ N H V P Q n m:Nat,x.1=[(n:Int),(m:Int),(H:Int),(V:Int)]/\N=n*m/\PoolIn N H V P Q k s x.2.2/\cL x=true/\(1<=n/\n<=4096/\1<=m/\m<=4096):=by
 unfold plE at h
 split at h
 case isFalse=>exact absurd h (by decide)
 rename_i hm
 split at h
 case isTrue=>exact absurd h (by decide)
 rename_i hl
 split at h
 case isFalse=>exact absurd h (by decide)
 rename_i hpq
 have hl:(x.1.length:Int)=4:=by simpa using hl
 simp only[Bool.and_eq_true,decide_eq_true_eq]at hpq
 obtain⟨n,m,H,V,e,h1,h2,h3,h4,h5,h6,_⟩:=UJ hm hl
 rw[e]at hpq
 simp only[List.getD_cons_succ,List.getD_cons_zero]at hpq
 obtain⟨P,eP,_⟩:=pD (n:=(H:Int)) (k:=k) (s:=s) (p:=0)
 obtain⟨Q,eQ,_⟩:=pD (n:=(V:Int)) (k:=k) (s:=s) (p:=0)
 obtain⟨a1,a2,a3,_⟩:=nE hpq.1
 obtain⟨b1,_⟩:=nE hpq.2
 obtain⟨_,hd,_,_⟩:=lT (eK.1 hm).1
 rw[e]at hd
 have hn:=hd n (by simp)
 have hmm:=hd m (by simp)
 exact⟨n*m,H,V,P,Q,n,m,e,rfl,⟨by rw[h6,Nat.mul_assoc],by rw[<- Nat.mul_assoc];exact h5,by omega,by omega,a2,a3,eP,eQ,by omega,by omega⟩,hm,by omega⟩
theorem aHK {x:T3}{k s:Int}{Q:T3×List Int×Int->Prop}(h:Q (NF x k s)):PB x k s Q:=by
 refine⟨?_⟩
 unfold NF at h
 refine kG ?_
 cases hm:cL (x.1,x.2.1,x.2.2)with
 | false =>
   have e:plE x k s=1:=by unfold plE;rw[if_neg (by rw[show x=(x.1,x.2.1,x.2.2)from rfl,hm];simp)]
   rw[e]at h
   exact h
 | true =>
   rw[if_neg (by simp)]
   refine VN (fun hl => ?_) (fun hl => ?_)
   ·have e:plE x k s=2:=by unfold plE;rw[if_pos hm,if_pos hl]
    rw[e]at h
    exact h
   ·cases hpq:(decide (0<aL (x.1.getD 2 0) k s 0)&&decide (0<aL (x.1.getD 3 0) k s 0))with
    | false =>
      have e:plE x k s=2:=by unfold plE;rw[if_pos hm,if_neg (by rw[hl];simp),if_neg (by rw[hpq];simp)]
      rw[e]at h
      exact h
    | true =>
      have e:plE x k s=0:=by unfold plE;rw[if_pos hm,if_neg (by rw[hl];simp),if_pos hpq]
      rw[e,if_neg (by simp)]at h
      rw[if_neg (by simp)]
      obtain⟨N,H,V,P,Q,n,m,ex,eN,g,_,hb⟩:=aDu e
      unfold CG plN plA plD at h
      dsimp only
      rw[ex]at h⊢
      simp only[List.getD_cons_succ,List.getD_cons_zero]at h⊢
      rw[g.hP,g.hQ]at h⊢
      have en:((n:Int)*(m:Int)).toNat=N:=by rw[eN,<- Int.natCast_mul];exact Int.toNat_natCast _
      rw[en]at h
      simp only[Int.toNat_natCast]at h
      have hN:n*m<=8192:=by rw[<- eN];exact g.le.2.2
      rw[vL (r:=n) (n:=m) (by omega),<- eN]
      refine⟨by simp,by simp,by simp,by simp,aE0 g rfl ?_⟩
      exact h
theorem aEi {n H V:Nat}{w:List (Int×Int×Int)}{K0:List Int->Prop}(hb:n*H*V<=100000000)(hV:1<=V)(hw:w.length<=1000000)(hz:∀ z∈w,0<=z.1/\z.1<=100000000)(h:K0 (w.map fun z=>((n*H*V:Nat):Int)+z.1)) :
 f5 n (w.length:Int) H V w K0 (0,[]):=by
 refine⟨?_⟩
 have e0:((0:Int),([]:List Int))=(fun i:Nat=>((i:Int),(w.take i).map fun z=>((n*H*V:Nat):Int)+z.1)) 0:=by simp
 rw[e0]
 refine Loop.range (B:=dD n (w.length:Int) H V w K0) w.length (fun i:Nat=>((i:Int),(w.take i).map fun z=>((n*H*V:Nat):Int)+z.1)) (fun _=>True) trivial ?_ ?_
 ·intro i hi _ X hX
  have hX:=hX trivial
  unfold dD
  rw[if_pos (decide_eq_true (show(i:Int)<(w.length:Int) by omega))]
  dsimp only at hX⊢
  have hm:=hz (w.getD i (0,0,0)) (by rw[List.getD_eq_getElem?_getD,List.getElem?_eq_getElem hi];exact List.getElem_mem hi)
  refine⟨by omega,?_⟩
  rw[Int.toNat_natCast]
  rcases E1 hb hm with e|e
  ·rw[e,aA ((i:Int)+1) (by omega) (by omega)]
   refine⟨by simp;omega,?_⟩
   rw[zD hi (0,0,0),List.map_append]at hX
   exact hX
  ·omega
 ·intro _ X
  unfold dD
  rw[if_neg (by simp)]
  simpa using h
def aC5 (X l:List Int):Int:=IntKind.i32.wrap (nF l fun a=>X.getD a.toNat 0)
theorem aEa {X l:List Int}{K0:Int->Prop}(hn:l.length<=1000000)(hr:∀ a∈l,0<=a/\a<(X.length:Int))(h:K0 (aC5 X l)):cT (l.length:Int) X l K0 (0,0):=by
 refine⟨?_⟩
 have e0:((0:Int),(0:Int))=(fun i:Nat=>(IntKind.i32.wrap (bR (fun j=>X.getD (l.getD j 0).toNat 0) i),(i:Int))) 0:=by simp[bR,IntKind.wrap,IntKind.bits,IntKind.signed]
 rw[e0]
 refine Loop.range (B:=bI (l.length:Int) X l K0) l.length (fun i:Nat=>(IntKind.i32.wrap (bR (fun j=>X.getD (l.getD j 0).toNat 0) i),(i:Int))) (fun _=>True) trivial ?_ ?_
 ·intro i hi _ Y hY
  have hY:=hY trivial
  unfold bI
  rw[if_pos (decide_eq_true (show(i:Int)<(l.length:Int) by omega))]
  dsimp only at hY⊢
  have hm:=hr (l.getD i 0) (HB hi)
  refine⟨by omega,?_⟩
  rw[Int.toNat_natCast]
  refine⟨hm,?_⟩
  rw[LF,KE,aA ((i:Int)+1) (by omega) (by omega)]
  exact hY
 ·intro _ Y
  unfold bI
  rw[if_neg (by simp)]
  unfold aC5 at h
  rw[EV l _ 0]at h
  exact h
section
variable {N H V P Q:Nat} {k s:Int} {X:List Int}
theorem aEd (g:PoolIn N H V P Q k s X){n:Nat}(hn:n<N){K0:List Int->Prop}{F:Nat->Int}(hF:F=fun t=>aC5 X (l5 H V k s P Q t))(h:K0 (tab (n*(P*Q)+P*Q) F)) :
 fW n ((P*Q:Nat):Int) X H V k s Q K0 (0,tab (n*(P*Q)) F):=by
 obtain⟨l1,l2,l3⟩:=g.le
 have q1:=g.q1
 have hPQ:P*Q<=25*25:=Nat.mul_le_mul l1 l2
 have hNN:n*(P*Q)<=8192*(25*25):=Nat.mul_le_mul (by omega) hPQ
 have hx:=g.hx
 have bx:=g.bx
 refine⟨?_⟩
 have e0:((0:Int),tab (n*(P*Q)) F)=(fun i:Nat=>((i:Int),tab (n*(P*Q)+i) F)) 0:=rfl
 rw[e0]
 refine Loop.range (B:=dC n ((P*Q:Nat):Int) X H V k s Q K0) (P*Q) (fun i:Nat=>((i:Int),tab (n*(P*Q)+i) F)) (fun _=>True) trivial ?_ ?_
 ·intro i hi _ Y hY
  have hY:=hY trivial
  obtain⟨⟨c1,c2⟩,c3,c4,c5,c6⟩:=g.cell hn hi
  have c7:=g.addr hn hi
  unfold dC
  rw[if_pos (decide_eq_true (show(i:Int)<((P*Q:Nat):Int) by omega))]
  dsimp only at hY⊢
  refine⟨by omega,by omega,?_⟩
  have e1:IntKind.i64.wrap ((i:Int).tdiv (Q:Int))=((i / Q:Nat):Int):=by
   rw[<- Int.ofNat_tdiv];exact aA _ (by have:=Int.natCast_nonneg (i / Q);generalize i / Q=y at *;omega) (by have:=Nat.div_le_self i Q;generalize i / Q=y at *;omega)
  have e2:(i:Int).tmod (Q:Int)=((i%Q:Nat):Int):=(Int.ofNat_tmod _ _).symm
  rw[e1,e2]
  refine DJ ?_
  have hb:n*H*V<=100000000:=by
   have h7:n*H*V=n*(H*V):=Nat.mul_assoc _ _ _
   have:=Nat.mul_le_mul_right (H*V) (Nat.le_of_lt hn)
   omega
  refine aEi hb g.hV.1 (by omega) (fun z hz=>by
   have:=c4 z hz
   have h8:H*V<=16*16:=Nat.mul_le_mul g.hH.2 g.hV.2
   omega) ?_
  rw[<- c6]
  have hlen:(l5 H V k s P Q (n*(P*Q)+i)).length<=25:=by rw[c6];simpa using c3
  refine aEa (by omega) c7 ⟨by simp;omega,?_⟩
  rw[aA ((i:Int)+1) (by omega) (by omega)]
  rw[show n*(P*Q)+(i+1)=n*(P*Q)+i+1 by omega,N0]at hY
  have eF:F (n*(P*Q)+i)=aC5 X (l5 H V k s P Q (n*(P*Q)+i)):=by rw[hF]
  rw[eF]at hY
  exact hY
 ·intro _ Y
  unfold dC
  rw[if_neg (by simp)]
  exact h
theorem aDD (g:PoolIn N H V P Q k s X){K0:List Int->Prop}{F:Nat->Int}(hF:F=fun t=>aC5 X (l5 H V k s P Q t))(h:K0 (tab (N*(P*Q)) F)):gB (N:Int) X H V k s P Q K0 (0,[]):=by
 obtain⟨l1,l2,l3⟩:=g.le
 refine⟨?_⟩
 have e0:((0:Int),([]:List Int))=(fun n:Nat=>((n:Int),tab (n*(P*Q)) F)) 0:=by simp[tab]
 rw[e0]
 refine Loop.range (B:=dG (N:Int) X H V k s P Q K0) N (fun n:Nat=>((n:Int),tab (n*(P*Q)) F)) (fun _=>True) trivial ?_ ?_
 ·intro n hn _ Y hY
  have hY:=hY trivial
  unfold dG
  rw[if_pos (decide_eq_true (show(n:Int)<(N:Int) by omega))]
  dsimp only at hY⊢
  have hPQ:P*Q<=25*25:=Nat.mul_le_mul l1 l2
  rw[vL (r:=P) (n:=Q) (by omega)]
  refine aEd g hn hF ?_
  rw[aA ((n:Int)+1) (by omega) (by omega)]
  rw[Nat.add_mul,Nat.one_mul]at hY
  exact hY
 ·intro _ Y
  unfold dG
  rw[if_neg (by simp)]
  exact h
end
def aFj (k:Int):Int:=IntKind.i64.wrap ((IntKind.i64.wrap (k.tdiv 2))*2)
def U7 (x:T3)(k s:Int):T3×Int :=
 if (plE x k s != 0)=true then(Z3,plE x k s)else((plD x k s,(IntKind.i64.wrap (x.2.1-aFj k),tab (plN x k s) fun t=>aC5 x.2.2 (plA x k s t))),0)
theorem aHr {x:T3}{k s:Int}{Q:T3×Int->Prop}(h:Q (U7 x k s)):Q6 x k s Q:=by
 refine⟨?_⟩
 unfold U7 at h
 refine kG ?_
 cases hm:cL (x.1,x.2.1,x.2.2)with
 | false =>
   have e:plE x k s=1:=by unfold plE;rw[if_neg (by rw[show x=(x.1,x.2.1,x.2.2)from rfl,hm];simp)]
   rw[e]at h
   exact h
 | true =>
   rw[if_neg (by simp)]
   refine VN (fun hl => ?_) (fun hl => ?_)
   ·have e:plE x k s=2:=by unfold plE;rw[if_pos hm,if_pos hl]
    rw[e]at h
    exact h
   ·cases hpq:(decide (0<aL (x.1.getD 2 0) k s 0)&&decide (0<aL (x.1.getD 3 0) k s 0))with
    | false =>
      have e:plE x k s=2:=by unfold plE;rw[if_pos hm,if_neg (by rw[hl];simp),if_neg (by rw[hpq];simp)]
      rw[e]at h
      exact h
    | true =>
      have e:plE x k s=0:=by unfold plE;rw[if_pos hm,if_neg (by rw[hl];simp),if_pos hpq]
      rw[e,if_neg (by simp)]at h
      rw[if_neg (by simp)]
      obtain⟨N,H,V,P,Q,n,m,ex,eN,g,_,hb⟩:=aDu e
      unfold plN plA plD at h
      dsimp only
      rw[ex]at h⊢
      simp only[List.getD_cons_succ,List.getD_cons_zero]at h⊢
      rw[g.hP,g.hQ]at h⊢
      have en:((n:Int)*(m:Int)).toNat=N:=by rw[eN,<- Int.natCast_mul];exact Int.toNat_natCast _
      rw[en]at h
      simp only[Int.toNat_natCast]at h
      have hN:n*m<=8192:=by rw[<- eN];exact g.le.2.2
      rw[vL (r:=n) (n:=m) (by omega),<- eN]
      refine⟨by simp,by simp,⟨by decide,?_⟩⟩
      refine⟨by simp,by simp,aDD g rfl ?_⟩
      exact h
end Go.Proofs.YtcfpfefadlnmcaaGreat

namespace Go.Proofs.YtcfpfefadlnmcaaGreat
open Go.Mach Go.RowKit
set_option maxRecDepth 100000
set_option linter.unusedVariables false
set_option linter.unusedSimpArgs false
def BV (v:Int)(L l:List Int):List Int:=l.foldl (fun L a=>L.set a.toNat (IntKind.i32.wrap (L.getD a.toNat 0+v))) L
theorem JM (v:Int):∀ (l L:List Int),(BV v L l).length=L.length
 | [],L=>rfl
 | a::l,L=>by
   show(BV v (L.set _ _) l).length=_
   rw[JM v l,List.length_set]
theorem Z8 {v:Int}{L l:List Int}{i:Nat}(hi:i<l.length):BV v L (l.take (i+1))=(BV v L (l.take i)).set (l.getD i 0).toNat (IntKind.i32.wrap ((BV v L (l.take i)).getD (l.getD i 0).toNat 0+v)):=by
 rw[zD hi 0]
 unfold BV
 rw[List.foldl_append]
 rfl
theorem aF4 {gd L l:List Int}{t:Nat}{K0:List Int->Prop}(hl:l.length<=1000000)(hr:∀ a∈l,0<=a/\a<(L.length:Int))(ht:t<gd.length)(h:K0 (BV (IntKind.i32.wrap (gd.getD t 0)) L l)) :
 bT (t:Int) (l.length:Int) gd l K0 (0,L):=by
 refine⟨?_⟩
 refine Loop.range (B:=aU (t:Int) (l.length:Int) gd l K0) l.length (fun i:Nat=>((i:Int),BV (IntKind.i32.wrap (gd.getD t 0)) L (l.take i))) (fun _=>True) trivial ?_ ?_
 ·intro i hi _ X hX
  have hX:=hX trivial
  unfold aU
  rw[if_pos (decide_eq_true (show(i:Int)<(l.length:Int) by omega))]
  dsimp only at hX⊢
  have hm:=hr (l.getD i 0) (by rw[List.getD_eq_getElem?_getD,List.getElem?_eq_getElem hi];exact List.getElem_mem hi)
  rw[Int.toNat_natCast,Int.toNat_natCast,JM]
  refine⟨by omega,by omega,by omega,by omega,?_⟩
  rw[aA ((i:Int)+1) (by omega) (by omega)]
  rw[Z8 hi]at hX
  exact hX
 ·intro _ X
  unfold aU
  rw[if_neg (by simp),List.take_length]
  exact h
theorem aG8 {n H V:Nat}{w:List (Int×Int×Int)}{K0:List Int->Prop}(hb:n*H*V<=100000000)(hV:1<=V)(hw:w.length<=1000000)(hz:∀ z∈w,0<=z.1/\z.1<=100000000)(h:K0 (w.map fun z=>((n*H*V:Nat):Int)+z.1)) :
 d9 n (w.length:Int) H V w K0 (0,[]):=by
 refine⟨?_⟩
 have e0:((0:Int),([]:List Int))=(fun i:Nat=>((i:Int),(w.take i).map fun z=>((n*H*V:Nat):Int)+z.1)) 0:=by simp
 rw[e0]
 refine Loop.range (B:=cH n (w.length:Int) H V w K0) w.length (fun i:Nat=>((i:Int),(w.take i).map fun z=>((n*H*V:Nat):Int)+z.1)) (fun _=>True) trivial ?_ ?_
 ·intro i hi _ X hX
  have hX:=hX trivial
  unfold cH
  rw[if_pos (decide_eq_true (show(i:Int)<(w.length:Int) by omega))]
  dsimp only at hX⊢
  have hm:=hz (w.getD i (0,0,0)) (by rw[List.getD_eq_getElem?_getD,List.getElem?_eq_getElem hi];exact List.getElem_mem hi)
  refine⟨by omega,?_⟩
  rw[Int.toNat_natCast]
  rcases E1 hb hm with e|e
  ·rw[e,aA ((i:Int)+1) (by omega) (by omega)]
   refine⟨by simp;omega,?_⟩
   rw[zD hi (0,0,0),List.map_append]at hX
   exact hX
  ·omega
 ·intro _ X
  unfold cH
  rw[if_neg (by simp),List.take_length]
  exact h
def bkF (gd:List Int)(cell:Nat->List Int)(L:List Int)(t:Nat):List Int:=(List.range t).foldl (fun L t=>BV (IntKind.i32.wrap (gd.getD t 0)) L (cell t)) L
theorem O2 (gd:List Int)(cell:Nat->List Int)(L:List Int)(t:Nat):bkF gd cell L (t+1)=BV (IntKind.i32.wrap (gd.getD t 0)) (bkF gd cell L t) (cell t):=by
 unfold bkF
 rw[List.range_succ,List.foldl_append]
 rfl
theorem aBT (gd:List Int)(cell:Nat->List Int)(L:List Int):∀ t,(bkF gd cell L t).length=L.length
 | 0=>rfl
 | t+1=>by rw[O2,JM,aBT gd cell L t]
section
variable {N H V P Q:Nat} {k s:Int} {X gd:List Int}
theorem aGs (g:PoolIn N H V P Q k s X)(hg:gd.length=N*(P*Q)){n:Nat}(hn:n<N){K0:List Int->Prop}(h:K0 (bkF gd (l5 H V k s P Q) X (n*(P*Q)+P*Q))) :
 eB n ((P*Q:Nat):Int) gd H V k s P Q K0 (0,bkF gd (l5 H V k s P Q) X (n*(P*Q))):=by
 obtain⟨l1,l2,l3⟩:=g.le
 have q1:=g.q1
 have hPQ:P*Q<=25*25:=Nat.mul_le_mul l1 l2
 have hNN:n*(P*Q)<=8192*(25*25):=Nat.mul_le_mul (by omega) hPQ
 have hN1:n*(P*Q)+P*Q<=N*(P*Q):=by
  have:=Nat.mul_le_mul_right (P*Q) hn
  rw[Nat.succ_mul]at this
  exact this
 have hx:=g.hx
 have bx:=g.bx
 refine⟨?_⟩
 have e0:((0:Int),bkF gd (l5 H V k s P Q) X (n*(P*Q)))=(fun i:Nat=>((i:Int),bkF gd (l5 H V k s P Q) X (n*(P*Q)+i))) 0:=rfl
 rw[e0]
 refine Loop.range (B:=cK n ((P*Q:Nat):Int) gd H V k s P Q K0) (P*Q) (fun i:Nat=>((i:Int),bkF gd (l5 H V k s P Q) X (n*(P*Q)+i))) (fun _=>True) trivial ?_ ?_
 ·intro i hi _ Y hY
  have hY:=hY trivial
  obtain⟨⟨c1,c2⟩,c3,c4,c5,c6⟩:=g.cell hn hi
  have c7:=g.addr hn hi
  unfold cK
  rw[if_pos (decide_eq_true (show(i:Int)<((P*Q:Nat):Int) by omega))]
  dsimp only at hY⊢
  refine⟨by omega,by omega,?_⟩
  have e1:IntKind.i64.wrap ((i:Int).tdiv (Q:Int))=((i / Q:Nat):Int):=by
   rw[<- Int.ofNat_tdiv];exact aA _ (by have:=Int.natCast_nonneg (i / Q);generalize i / Q=y at *;omega) (by have:=Nat.div_le_self i Q;generalize i / Q=y at *;omega)
  have e2:(i:Int).tmod (Q:Int)=((i%Q:Nat):Int):=(Int.ofNat_tmod _ _).symm
  rw[e1,e2]
  refine DJ ?_
  have hb:n*H*V<=100000000:=by
   have h7:n*H*V=n*(H*V):=Nat.mul_assoc _ _ _
   have:=Nat.mul_le_mul_right (H*V) (Nat.le_of_lt hn)
   omega
  refine aG8 hb g.hV.1 (by omega) (fun z hz=>by
   have:=c4 z hz
   have h8:H*V<=16*16:=Nat.mul_le_mul g.hH.2 g.hV.2
   omega) ?_
  rw[<- c6]
  have hlen:(l5 H V k s P Q (n*(P*Q)+i)).length<=25:=by rw[c6];simpa using c3
  have e3:IntKind.i64.wrap (IntKind.i64.wrap (IntKind.i64.wrap ((n:Int)*(P:Int))*(Q:Int))+(i:Int))=((n*(P*Q)+i:Nat):Int):=by
   rcases E1 (n:=n) (H:=P) (V:=Q) (a:=(i:Int)) (by rw[Nat.mul_assoc];omega) (by omega)with e|e
   ·rw[e,Nat.mul_assoc];rfl
   ·omega
  rw[e3]
  refine aF4 (by omega) (by rw[aBT];exact c7) (by omega) ?_
  rw[aA ((i:Int)+1) (by omega) (by omega)]
  rw[show n*(P*Q)+(i+1)=n*(P*Q)+i+1 by omega,O2]at hY
  exact hY
 ·intro _ Y
  unfold cK
  rw[if_neg (by simp)]
  exact h
theorem aFQ (g:PoolIn N H V P Q k s X)(hg:gd.length=N*(P*Q)){K0:List Int->Prop}(h:K0 (bkF gd (l5 H V k s P Q) X (N*(P*Q)))):eC (N:Int) gd H V k s P Q K0 (0,X):=by
 obtain⟨l1,l2,l3⟩:=g.le
 refine⟨?_⟩
 have e0:((0:Int),X)=(fun n:Nat=>((n:Int),bkF gd (l5 H V k s P Q) X (n*(P*Q)))) 0:=by simp[bkF]
 rw[e0]
 refine Loop.range (B:=cG (N:Int) gd H V k s P Q K0) N (fun n:Nat=>((n:Int),bkF gd (l5 H V k s P Q) X (n*(P*Q)))) (fun _=>True) trivial ?_ ?_
 ·intro n hn _ Y hY
  have hY:=hY trivial
  unfold cG
  rw[if_pos (decide_eq_true (show(n:Int)<(N:Int) by omega))]
  dsimp only at hY⊢
  have hPQ:P*Q<=25*25:=Nat.mul_le_mul l1 l2
  rw[vL (r:=P) (n:=Q) (by omega)]
  refine aGs g hg hn ?_
  rw[aA ((n:Int)+1) (by omega) (by omega)]
  rw[Nat.add_mul,Nat.one_mul]at hY
  exact hY
 ·intro _ Y
  unfold cG
  rw[if_neg (by simp)]
  exact h
end
def abD (d:List Int)(k s:Int):List Int:=[d.getD 0 0,d.getD 1 0,aL (d.getD 2 0) k s 0,aL (d.getD 3 0) k s 0]
def abE (g:T3)(d:List Int)(k s:Int):Int :=
 if cL g=true/\0<szF d then(if (d.length=4/\0<aL (d.getD 2 0) k s 0/\0<aL (d.getD 3 0) k s 0)/\g.1=abD d k s then 0 else 2)else 1
def aCr (g:T3)(d:List Int)(k s:Int):List Int :=
 bkF g.2.2 (l5 (d.getD 2 0).toNat (d.getD 3 0).toNat k s (aL (d.getD 2 0) k s 0).toNat (aL (d.getD 3 0) k s 0).toNat) (List.replicate (szF d).toNat 0) ((d.getD 0 0*d.getD 1 0).toNat*((aL (d.getD 2 0) k s 0).toNat*(aL (d.getD 3 0) k s 0).toNat))
def qN (g:T3)(d:List Int)(k s:Int):T3×Int :=
 if (abE g d k s != 0)=true then(Z3,abE g d k s)else((d,(IntKind.i64.wrap (g.2.1-aFj k),aCr g d k s)),0)
theorem aCL {g:T3}{d:List Int}{k s:Int}{Q:T3×Int->Prop}(h:Q (qN g d k s)):BF g d k s Q:=by
 refine⟨kG ?_⟩
 unfold jn
 dsimp only
 unfold qN at h
 cases hm:cL g with
 | false =>
   have e:abE g d k s=1:=by unfold abE;rw[if_neg (by rw[hm];simp)]
   rw[e]at h
   exact h
 | true =>
   rw[if_neg (by simp)]
   refine EL ?_
   by_cases hs:0<szF d
   rotate_left
   ·have e:abE g d k s=1:=by unfold abE;rw[if_neg (fun hh=>hs hh.2)]
    rw[e]at h
    rw[decide_eq_false hs,if_pos (by rfl)]
    exact h
   rw[decide_eq_true hs,if_neg (by simp)]
   refine VN (fun hl => ?_) (fun hl => ?_)
   ·have e:abE g d k s=2:=by unfold abE;rw[if_pos ⟨hm,hs⟩,if_neg (by rintro⟨⟨h1,_⟩,_⟩;simp[h1]at hl)]
    rw[e]at h
    exact h
   have hl4:d.length=4:=by
    have:(d.length:Int)=4:=by simpa using hl
    omega
   cases hpq:(decide (0<aL (d.getD 2 0) k s 0)&&decide (0<aL (d.getD 3 0) k s 0))with
   | false =>
     have e:abE g d k s=2:=by
      unfold abE
      rw[if_pos ⟨hm,hs⟩,if_neg]
      rintro⟨⟨_,h1,h2⟩,_⟩
      rw[decide_eq_true h1,decide_eq_true h2]at hpq
      cases hpq
     rw[e]at h
     exact h
   | true =>
     rw[if_neg (by simp)]
     have hpq':=hpq
     simp only[Bool.and_eq_true,decide_eq_true_eq]at hpq'
     refine⟨by omega,by omega,DT (by have:=(eI hm).1;omega) ?_⟩
     by_cases hd:g.1=abD d k s
     rotate_left
     ·have e:abE g d k s=2:=by unfold abE;rw[if_pos ⟨hm,hs⟩,if_neg (fun hh=>hd hh.2)]
      rw[e]at h
      rw[show decide (g.1=[d.getD 0 0,d.getD 1 0,aL (d.getD 2 0) k s 0,aL (d.getD 3 0) k s 0])=false from decide_eq_false hd,if_pos (by rfl)]
      exact h
     have e:abE g d k s=0:=by unfold abE;rw[if_pos ⟨hm,hs⟩,if_pos ⟨⟨hl4,hpq'⟩,hd⟩]
     rw[e,if_neg (by simp)]at h
     rw[show decide (g.1=[d.getD 0 0,d.getD 1 0,aL (d.getD 2 0) k s 0,aL (d.getD 3 0) k s 0])=true from decide_eq_true hd,if_neg (by simp)]
     refine sT (by omega) ⟨by decide,DP ⟨by have:=(lT hs).2.2.2;have:=(lT hs).2.2.1;omega,by omega,by omega,?_⟩⟩
     obtain⟨a,b,c,dd,ed⟩:=aHY (l:=d) (by omega)
     subst ed
     obtain⟨n,m,H,V,rfl,rfl,rfl,rfl,n1,m1,H1,V1,hb,hsz⟩:=aC6 hs
     unfold aCr at h
     simp only[List.getD_cons_succ,List.getD_cons_zero,abD]at h hd hpq'⊢
     obtain⟨P,eP,_⟩:=pD (n:=(H:Int)) (k:=k) (s:=s) (p:=0)
     obtain⟨R,eQ,_⟩:=pD (n:=(V:Int)) (k:=k) (s:=s) (p:=0)
     obtain⟨a1,a2,a3,_⟩:=nE hpq'.1
     obtain⟨b1,_⟩:=nE hpq'.2
     rw[eP,eQ]at h hd hpq'⊢
     have en:((n:Int)*(m:Int)).toNat=n*m:=by rw[<- Int.natCast_mul];exact Int.toNat_natCast _
     rw[en,hsz]at h
     simp only[Int.toNat_natCast]at h
     have hnm:n*m<=n*m*H*V:=by rw[Nat.mul_assoc (n*m)];exact Nat.le_mul_of_pos_right _ (Nat.mul_pos H1 V1)
     rw[vL (r:=n) (n:=m) (by omega),hsz,Int.toNat_natCast]
     obtain⟨_,_,_,_,e4,_,_,_,_,_,hgl,_,_⟩:=UJ hm (by rw[hd];rfl)
     rw[hd]at e4
     simp only[List.cons.injEq,Int.natCast_inj,and_true]at e4
     obtain⟨rfl,rfl,rfl,rfl⟩:=e4
     exact aFQ (N:=n*m) ⟨by rw[List.length_replicate,Nat.mul_assoc (n*m)],by rw[<- Nat.mul_assoc];exact hb,by omega,by omega,a2,a3,eP,eQ,by omega,by omega⟩ (by rw[hgl,Nat.mul_assoc (n*m)]) h
def XW (gd fr:List Int)(L:List Int)(t:Nat):List Int:=(List.range t).foldl (fun L t=>L.set (fr.getD t 0).toNat (IntKind.i32.wrap (L.getD (fr.getD t 0).toNat 0+IntKind.i32.wrap (gd.getD t 0)))) L
theorem LG (gd fr L:List Int)(t:Nat):XW gd fr L (t+1)=(XW gd fr L t).set (fr.getD t 0).toNat (IntKind.i32.wrap ((XW gd fr L t).getD (fr.getD t 0).toNat 0+IntKind.i32.wrap (gd.getD t 0))):=by
 unfold XW
 rw[List.range_succ,List.foldl_append]
 rfl
theorem ZF (gd fr L:List Int):∀ t,(XW gd fr L t).length=L.length
 | 0=>rfl
 | t+1=>by rw[LG,List.length_set,ZF gd fr L t]
def mxE (g:T3)(fr d:List Int):Int :=
 if cL g=true/\0<szF d then(if fr.length=g.2.2.length then(if (fr.all fun a=>inP a 0 (szF d-1))=true then 0 else 1)else 2)else 1
def q9 (g:T3)(fr d:List Int):T3×Int :=
 if (mxE g fr d != 0)=true then(Z3,mxE g fr d)else((d,(g.2.1,XW g.2.2 fr (List.replicate (szF d).toNat 0) fr.length)),0)
theorem aCj {g:T3}{fr d:List Int}{Q:T3×Int->Prop}(h:Q (q9 g fr d)):BC g fr d Q:=by
 refine⟨DP (kG ?_)⟩
 unfold q9 at h
 have hn:=zV d
 by_cases hs:cL g=true/\0<szF d
 rotate_left
 ·have e:mxE g fr d=1:=by unfold mxE;rw[if_neg hs]
  rw[e]at h
  rw[if_pos]
  ·exact h
  ·simp only[Bool.or_eq_true,Bool.not_eq_true',beq_iff_eq]
   cases hm:cL g with
   | false=>exact .inl rfl
   | true=>right;have : ¬ 0<szF d:=fun hh=>hs ⟨hm,hh⟩;omega
 rw[if_neg (by simp only[Bool.or_eq_true,Bool.not_eq_true',beq_iff_eq,hs.1];have:=hs.2;rintro(h1|h1);cases h1;omega)]
 by_cases hl:fr.length=g.2.2.length
 rotate_left
 ·have e:mxE g fr d=2:=by unfold mxE;rw[if_pos hs,if_neg hl]
  rw[e]at h
  rw[if_pos (by simp only[bne_iff_ne,ne_eq];omega)]
  exact h
 rw[if_neg (by simp[hl])]
 obtain⟨hd1,_,hd3,hd4⟩:=lT hs.2
 obtain⟨k1,k2,_⟩:=eI hs.1
 refine sT (by omega) ⟨by omega,⟨?_⟩⟩
 have hK1:(fr.all fun a=>inP a 0 (szF d-1))=false->Q (Z3,1):=fun hf=>by
  have e:mxE g fr d=1:=by unfold mxE;rw[if_pos hs,if_pos hl,if_neg (by rw[hf];simp)]
  rw[e]at h
  exact h
 refine Loop.range (B:=mP (szF d) fr (fr.length:Int) g.2.2 _ _) fr.length (fun i:Nat=>((i:Int),XW g.2.2 fr (List.replicate (szF d).toNat 0) i)) (fun i=>(fr.take i).all (fun a=>inP a 0 (szF d-1))=true) rfl ?_ ?_
 ·intro i hi hI X hX
  unfold mP
  rw[if_pos (decide_eq_true (show(i:Int)<(fr.length:Int) by omega))]
  dsimp only at hX⊢
  rw[Int.toNat_natCast]
  refine⟨by omega,?_⟩
  cases hb:inP (fr.getD i 0) 0 (szF d-1)with
  | false =>
    rw[if_pos]
    ·exact hK1 (aAn (d:=0) hi hb)
    ·unfold inP at hb
     simp only[Bool.and_eq_false_iff,decide_eq_false_iff_not]at hb
     simp only[Bool.or_eq_true,decide_eq_true_eq]
     omega
  | true =>
    have hb':=hb
    unfold inP at hb'
    simp only[Bool.and_eq_true,decide_eq_true_eq]at hb'
    rw[if_neg (by simp only[Bool.or_eq_true,decide_eq_true_eq];omega),ZF,List.length_replicate]
    refine⟨by omega,by omega,by omega,?_⟩
    have hX:=hX (by rw[PF (d:=0) hi,hI,hb];rfl)
    rw[LG]at hX
    rw[aA ((i:Int)+1) (by omega) (by omega)]
    exact hX
 ·intro hI X
  unfold mP
  rw[if_neg (by simp)]
  rw[List.take_length]at hI
  have e:mxE g fr d=0:=by unfold mxE;rw[if_pos hs,if_pos hl,if_pos hI]
  rw[e,if_neg (by simp)]at h
  exact h
def rbF (g x:T3):T3×Int :=
 if cL g=true/\cL x=true then(if g.1=x.1 then((g.1,g.2.1,tab g.2.2.length fun i=>if 0<x.2.2.getD i 0 then g.2.2.getD i 0 else 0),0)else(Z3,2))else(Z3,1)
theorem aAI {g x:T3}{Q:T3×Int->Prop}(h:Q (rbF g x)):xV g x Q:=by
 refine⟨kG ?_⟩
 unfold jn
 dsimp only
 unfold rbF at h
 cases hm:cL g with
 | false =>
   rw[if_neg (by rw[hm];simp)]at h
   rw[if_pos (by rfl),if_pos rfl]
   exact h
 | true =>
   rw[if_neg (by simp)]
   refine kG ?_
   cases hx:cL x with
   | false =>
     rw[if_neg (by rw[hx];simp)]at h
     rw[if_pos (by rfl)]
     exact h
   | true =>
     rw[if_pos ⟨hm,hx⟩]at h
     rw[if_neg (by simp)]
     obtain⟨h1,h2,_⟩:=eI hm
     refine DT (by omega) ?_
     by_cases he:g.1=x.1
     rotate_left
     ·rw[if_neg he]at h
      rw[decide_eq_false he,if_pos (by rfl)]
      exact h
     rw[if_pos he]at h
     rw[decide_eq_true he,if_neg (by simp)]
     have hlen:x.2.2.length=g.2.2.length:=by
      have a:=(eK.1 hm).2.1
      have b:=(eK.1 hx).2.1
      rw[he]at a
      omega
     refine⟨sT (by omega) ⟨?_⟩⟩
     refine Loop.range (B:=dJ x.1 x.2.1 x.2.2 g.1 g.2.1 g.2.2 (g.2.2.length:Int) _) g.2.2.length (fun i:Nat=>((i:Int),tab i fun i=>if 0<x.2.2.getD i 0 then g.2.2.getD i 0 else 0)) (fun _=>True) trivial ?_ ?_
     ·intro i hi _ X hX
      have hX:=hX trivial
      unfold dJ
      dsimp only at hX⊢
      rw[if_pos (decide_eq_true (show(i:Int)<(g.2.2.length:Int) by omega))]
      rw[N0]at hX
      refine⟨⟨by omega,?_⟩⟩
      rw[Int.toNat_natCast]
      by_cases hp:0<x.2.2.getD i 0
      ·rw[if_pos hp]at hX
       rw[if_pos (decide_eq_true hp)]
       refine⟨by omega,by simp[tab];omega,?_⟩
       rw[aA _ (by omega) (by omega)]
       exact hX
      ·rw[if_neg hp]at hX
       rw[if_neg (by simpa using hp)]
       refine⟨by simp[tab];omega,?_⟩
       rw[aA _ (by omega) (by omega)]
       exact hX
     ·intro _ X
      unfold dJ
      dsimp only
      rw[if_neg (by simp)]
      exact h
end Go.Proofs.YtcfpfefadlnmcaaGreat

namespace Go.Proofs.YtcfpfefadlnmcaaGreat
open Go.Mach Go.RowKit
set_option maxRecDepth 100000
set_option linter.unusedVariables false
set_option linter.unusedSimpArgs false
abbrev Lay:=Int×Int×Int×Int×Int×Int×Bool
abbrev Mdl:=(Int×Int×Int)×List Lay
abbrev aG:Lay:=(0,0,0,0,0,0,false)
theorem FR {a lo hi:Int}{Q:Bool->Prop}(h:Q (inP a lo hi)):lY a lo hi Q:=⟨h⟩
def nT (a:Int×Int×Int):Bool:=(inP a.1 1 8&&inP a.2.1 1 16)&&inP a.2.2 1 16
theorem aDi {a:Int×Int×Int}{Q:Bool->Prop}(h:Q (nT a)):AJ a Q:=by
 refine⟨FR ?_⟩
 unfold jn
 dsimp only
 unfold nT at h
 cases h1:inP a.1 1 8 with
 | false=>rw[h1]at h;rw[if_neg (by simp),if_neg (by simp)];exact h
 | true =>
   rw[h1]at h
   rw[if_pos rfl]
   refine FR ?_
   cases h2:inP a.2.1 1 16 with
   | false=>rw[h2]at h;rw[if_neg (by simp)];exact h
   | true=>rw[h2]at h;rw[if_pos rfl];exact FR h
def Z4 (x:Lay):Bool:=inP x.2.2.1 1 5&&inP x.2.2.2.1 1 4
theorem aDn {x:Lay}{Q:Bool->Prop}(h:Q (Z4 x)):uH x Q:=by
 refine⟨FR ?_⟩
 unfold jn
 dsimp only
 unfold Z4 at h
 cases h1:inP x.2.2.1 1 5 with
 | false=>rw[h1]at h;rw[if_neg (by simp)];exact h
 | true=>rw[h1]at h;rw[if_pos rfl];exact FR h
def m8 (x:Lay)(n:Int):Bool :=
 if x.1=1 then inP x.2.1 1 4096&&((x.2.2.1==0)&&((x.2.2.2.1==0)&&((x.2.2.2.2.1==0)&&(x.2.2.2.2.2.1==0))))
 else if x.1=2 then((inP x.2.1 1 8&&Z4 x)&&inP x.2.2.2.2.1 0 (IntKind.i64.wrap (x.2.2.1-1)))&&(x.2.2.2.2.2.1==0)
 else if x.1=3\/x.1=4 then Z4 x&&((x.2.1==0)&&((x.2.2.2.2.1==0)&&((x.2.2.2.2.2.1==0)&&(x.2.2.2.2.2.2==false))))
 else if x.1=5\/x.1=6 then(x.2.1==0)&&((x.2.2.1==0)&&((x.2.2.2.1==0)&&((x.2.2.2.2.1==0)&&((x.2.2.2.2.2.1==0)&&(x.2.2.2.2.2.2==false)))))
 else if x.1=7 then inP x.2.2.2.2.2.1 0 (IntKind.i64.wrap (n-1))&&((x.2.1==0)&&((x.2.2.1==0)&&((x.2.2.2.1==0)&&((x.2.2.2.2.1==0)&&(x.2.2.2.2.2.2==false)))))
 else false
theorem RG {K:Unit->Prop}(h:K ()):nO K:=⟨h⟩
theorem aGb {x:Lay}{n:Int}{Q:Bool->Prop}(h:Q (m8 x n)):JW x n Q:=by
 obtain⟨kd,ou,k,st,pd,fr,fz⟩:=x
 refine⟨?_⟩
 dsimp only
 unfold m8 at h
 dsimp only at h
 by_cases h1:kd=1
 ·rw[if_pos h1]at h
  rw[if_pos (by simpa using h1)]
  refine FR (RG ?_)
  refine cast (congrArg Q ?_) h
  simp
 rw[if_neg h1]at h
 rw[if_neg (by simpa using h1)]
 by_cases h2:kd=2
 ·rw[if_pos h2]at h
  rw[if_pos (by simpa using h2)]
  refine FR ?_
  unfold jn
  dsimp only
  cases e1:inP ou 1 8 with
  | false =>
    rw[e1]at h
    rw[if_neg (by simp),if_neg (by simp)]
    refine RG (cast (congrArg Q ?_) h)
    simp
  | true =>
    rw[e1]at h
    rw[if_pos rfl]
    refine aDn ?_
    cases e2:Z4 (kd,ou,k,st,pd,fr,fz)with
    | false =>
      rw[e2]at h
      rw[if_neg (by simp)]
      refine RG (cast (congrArg Q ?_) h)
      simp
    | true =>
      rw[e2]at h
      rw[if_pos rfl]
      refine FR (RG (cast (congrArg Q ?_) h))
      simp
 rw[if_neg h2]at h
 rw[if_neg (by simpa using h2)]
 have fin:∀ {b:Bool} {k' st' fr':Int},(b&&((kd==kd)&&((ou==0)&&((k==k')&&((st==st')&&((pd==0)&&((fr==fr')&&((fz==false)&&(true)))))))))
  = (b&&((ou==0)&&((k==k')&&((st==st')&&((pd==0)&&((fr==fr')&&(fz==false))))))):=by
  intro b k' st' fr'
  simp
 by_cases h3:kd=3
 ·rw[if_pos (.inl h3)]at h
  rw[if_pos (by simpa using h3)]
  refine⟨?_⟩
  rw[if_pos (by simpa using h3)]
  refine aDn (RG (cast (congrArg Q ?_) h))
  rw[fin]
  simp
 rw[if_neg (by simpa using h3)]
 refine⟨?_⟩
 by_cases h4:kd=4
 ·rw[if_pos (.inr h4)]at h
  rw[if_pos (by simpa using h4)]
  refine aDn (RG (cast (congrArg Q ?_) h))
  rw[fin]
  simp
 rw[if_neg (by omega)]at h
 rw[if_neg (by simpa using h4)]
 by_cases h5:kd=5
 ·rw[if_pos (.inl h5)]at h
  rw[if_pos (by simpa using h5)]
  refine⟨?_⟩
  rw[if_pos (by simpa using h5)]
  refine RG (cast (congrArg Q ?_) h)
  rw[fin]
  simp
 rw[if_neg (by simpa using h5)]
 refine⟨?_⟩
 by_cases h6:kd=6
 ·rw[if_pos (.inr h6)]at h
  rw[if_pos (by simpa using h6)]
  refine RG (cast (congrArg Q ?_) h)
  rw[fin]
  simp
 rw[if_neg (by omega)]at h
 rw[if_neg (by simpa using h6)]
 by_cases h7:kd=7
 ·rw[if_pos h7]at h
  rw[if_pos (by simpa using h7)]
  refine FR (RG (cast (congrArg Q ?_) h))
  rw[fin]
  simp
 ·rw[if_neg h7]at h
  rw[if_neg (by simpa using h7)]
  refine RG (cast (congrArg Q ?_) h)
  simp
def FS (l:List Lay):Bool:=(List.range l.length).all fun i=>m8 (l.getD i aG) i
def q7 (m:Mdl):Bool:=(nT m.1&&inP (m.2.length:Int) 1 12)&&FS m.2
theorem aGe {m:Mdl}{Q:Bool->Prop}(hl:m.2.length<=10000000000000)(h:Q (q7 m)):JX m Q:=by
 refine⟨aDi ?_⟩
 unfold jn
 dsimp only
 unfold q7 at h
 cases h1:nT m.1 with
 | false =>
   rw[h1]at h
   rw[if_pos (by rfl),if_pos rfl]
   exact h
 | true =>
   rw[h1]at h
   rw[if_neg (by simp)]
   refine FR ?_
   cases h2:inP (m.2.length:Int) 1 12 with
   | false =>
     rw[h2]at h
     rw[if_pos (by rfl)]
     exact h
   | true =>
     rw[h2]at h
     rw[if_neg (by simp)]
     simp only[Bool.true_and]at h
     refine⟨?_⟩
     refine Loop.range (B:=qQ m.2 (m.2.length:Int) (fun _=>Q true) (fun _=>Q false)) m.2.length (fun i=>(i:Int)) (fun i=>∀ j,j<i->m8 (m.2.getD j aG) j=true) (fun j hj=>absurd hj (by omega)) ?_ ?_
     ·intro i hi hI X hX
      unfold qQ
      rw[if_pos (decide_eq_true (show(i:Int)<(m.2.length:Int) by omega))]
      refine⟨by omega,aGb ?_⟩
      simp only[Int.toNat_natCast]
      show if (!m8 (m.2.getD i aG) i)=true then _ else _
      cases hb:m8 (m.2.getD i aG) i with
      | true =>
        rw[if_neg (by simp),aA _ (by omega) (by omega)]
        refine hX fun j hj => ?_
        by_cases hji:j=i
        ·subst hji;exact hb
        ·exact hI j (by omega)
      | false =>
        rw[if_pos (by rfl)]
        have:FS m.2=false:=by
         unfold FS
         rw[List.all_eq_false]
         exact⟨i,List.mem_range.2 hi,by rw[hb];simp⟩
        rw[this]at h
        exact h
     ·intro hI X
      unfold qQ
      rw[if_neg (by simp)]
      have:FS m.2=true:=by
       unfold FS
       rw[List.all_eq_true]
       intro j hj
       exact hI j (List.mem_range.1 hj)
      rw[this]at h
      exact h
theorem iC {m:Mdl}(h:q7 m=true):((1<=m.1.1/\m.1.1<=8)/\(1<=m.1.2.1/\m.1.2.1<=16)/\(1<=m.1.2.2/\m.1.2.2<=16))/\(1<=m.2.length/\m.2.length<=12)/\∀ i,i<m.2.length->m8 (m.2.getD i aG) i=true:=by
 unfold q7 nT inP at h
 simp only[Bool.and_eq_true,decide_eq_true_eq]at h
 refine⟨⟨h.1.1.1.1,h.1.1.1.2,h.1.1.2⟩,by omega,fun i hi => ?_⟩
 have:=h.2
 unfold FS at this
 rw[List.all_eq_true]at this
 exact this i (List.mem_range.2 hi)
def oZ (l:List Int):Int:=l.foldl (fun a x=>IntKind.i64.wrap (a*x)) 1
theorem KJ {l:List Int}{Q:Int->Prop}(hl:l.length<=10000000000000)(h:Q (oZ l)):l9 l Q:=by
 refine⟨⟨?_⟩⟩
 refine Loop.range (B:=lL l (l.length:Int) _) l.length (fun i=>(oZ (l.take i),(i:Int))) (fun _=>True) trivial ?_ ?_
 ·intro i hi _ X hX
  unfold lL
  dsimp only
  rw[if_pos (decide_eq_true (show(i:Int)<(l.length:Int) by omega))]
  refine⟨by omega,?_⟩
  rw[Int.toNat_natCast,aA ((i:Int)+1) (by omega) (by omega)]
  have e:oZ (l.take (i+1))=IntKind.i64.wrap (oZ (l.take i)*l.getD i 0):=by
   unfold oZ
   rw[List.take_add_one,List.foldl_append,List.getD_eq_getElem?_getD,List.getElem?_eq_getElem hi]
   rfl
  rw[<- e]
  exact hX trivial
 ·intro _ X
  unfold lL
  dsimp only
  rw[if_neg (by simp),List.take_length]
  exact h
def eU (d:List Int)(c:Int)(x:Lay):List Int :=
 if d.length=3 then(if aL (d.getD 1 0) x.2.2.1 x.2.2.2.1 x.2.2.2.2.1=0\/aL (d.getD 2 0) x.2.2.1 x.2.2.2.1 x.2.2.2.2.1=0 then []else [c,aL (d.getD 1 0) x.2.2.1 x.2.2.2.1 x.2.2.2.2.1,aL (d.getD 2 0) x.2.2.1 x.2.2.2.1 x.2.2.2.2.1])else []
theorem aDL {d:List Int}{c:Int}{x:Lay}{Q:List Int->Prop}(h:Q (eU d c x)):nW d c x Q:=by
 refine⟨?_⟩
 unfold eU at h
 by_cases h3:d.length=3
 ·rw[if_pos h3]at h
  rw[if_neg (by simp[h3])]
  refine⟨by omega,F3 ⟨by omega,F3 ?_⟩⟩
  by_cases hz:aL (d.getD 1 0) x.2.2.1 x.2.2.2.1 x.2.2.2.2.1=0\/aL (d.getD 2 0) x.2.2.1 x.2.2.2.1 x.2.2.2.2.1=0
  ·rw[if_pos hz]at h
   rw[if_pos (by simpa using hz)]
   exact h
  ·rw[if_neg hz]at h
   rw[if_neg (by simpa using hz)]
   exact⟨by simp,h⟩
 ·rw[if_neg h3]at h
  rw[if_pos (by simp;omega)]
  exact h
def bX (x:Lay)(l:List (List Int))(d:List Int):List Int :=
 if x.1=1 then(if d.length=1 then [x.2.1]else [])
 else if x.1=2 then eU d x.2.1 x
 else if x.1=3\/x.1=4 then eU d (d.getD 0 0) x
 else if x.1=5 then d
 else if x.1=6 then [oZ d]
 else if x.1=7 then(if l.getD x.2.2.2.2.2.1.toNat []=d then d else [])
 else []
theorem aFL {x:Lay}{l:List (List Int)}{Q:List Int->Prop}(hl:l≠[])(hn:l.length<=1000000)(hd:(l.getD (l.length-1) [])≠[])(hb:∀ d∈l,d.length<=1000000)(hx:x.1=7->0<=x.2.2.2.2.2.1/\x.2.2.2.2.2.1<(l.length:Int))
 (h:Q (bX x l (l.getD (l.length-1) []))):DU x l Q:=by
 have hlen:1<=l.length:=List.length_pos_iff.2 hl
 have hw:IntKind.i64.wrap ((l.length:Int)-1)=((l.length-1:Nat):Int):=by rw[aA _ (by omega) (by omega)];omega
 have hdb:(l.getD (l.length-1) []).length<=1000000:=by
  rw[List.getD_eq_getElem?_getD,List.getElem?_eq_getElem (by omega)]
  exact hb _ (List.getElem_mem _)
 refine⟨?_⟩
 rw[hw]
 simp only[Int.toNat_natCast]
 refine⟨by omega,?_⟩
 obtain⟨d,hde⟩:∃ d,l.getD (l.length-1) []=d:=⟨_,rfl⟩
 simp only[hde]at h hd hdb⊢
 have hd0:0<(d.length:Int):=by have:=List.length_pos_iff.2 hd;omega
 have pl:∀ c,Q (eU d c x)->nW d c x (fun r=>nz r (Q []) (ck (r≠[]) (Q r))):=by
  intro c hq
  refine aDL ⟨fun e => ?_,fun e=>⟨e,hq⟩⟩
  rw[e]at hq;exact hq
 unfold bX at h
 by_cases h1:x.1=1
 ·rw[if_pos h1]at h
  rw[if_pos (by simpa using h1)]
  by_cases h11:d.length=1
  ·rw[if_pos h11]at h
   rw[if_pos (by simp[h11])]
   exact⟨by simp,h⟩
  ·rw[if_neg h11]at h
   rw[if_neg (by simp;omega)]
   exact h
 rw[if_neg h1]at h
 rw[if_neg (by simpa using h1)]
 by_cases h2:x.1=2
 ·rw[if_pos h2]at h
  rw[if_pos (by simpa using h2)]
  exact pl _ h
 rw[if_neg h2]at h
 rw[if_neg (by simpa using h2)]
 by_cases h3:x.1=3
 ·rw[if_pos (.inl h3)]at h
  rw[if_pos (by simpa using h3),if_pos (by simpa using h3)]
  exact⟨by omega,pl _ h⟩
 rw[if_neg (by simpa using h3)]
 by_cases h4:x.1=4
 ·rw[if_pos (.inr h4)]at h
  rw[if_pos (by simpa using h4)]
  exact⟨by omega,pl _ h⟩
 rw[if_neg (by omega)]at h
 rw[if_neg (by simpa using h4)]
 by_cases h5:x.1=5
 ·rw[if_pos h5]at h
  rw[if_pos (by simpa using h5)]
  exact sT (by omega) ⟨hd,h⟩
 rw[if_neg h5]at h
 rw[if_neg (by simpa using h5)]
 by_cases h6:x.1=6
 ·rw[if_pos h6]at h
  rw[if_pos (by simpa using h6)]
  exact KJ (by omega) ⟨by simp,h⟩
 rw[if_neg h6]at h
 rw[if_neg (by simpa using h6)]
 by_cases h7:x.1=7
 ·rw[if_pos h7]at h
  rw[if_pos (by simpa using h7)]
  obtain⟨f1,f2⟩:=hx h7
  refine⟨⟨f1,f2⟩,TS ?_ ?_⟩
  ·rw[List.getD_eq_getElem?_getD,List.getElem?_eq_getElem (by omega)]
   have:=hb _ (List.getElem_mem (l:=l) (n:=x.2.2.2.2.2.1.toNat) (by omega))
   simp only[Option.getD_some]
   omega
  ·by_cases he:l.getD x.2.2.2.2.2.1.toNat []=d
   ·rw[if_pos he]at h
    rw[decide_eq_true he,if_pos rfl]
    exact sT (by omega) ⟨hd,h⟩
   ·rw[if_neg he]at h
    rw[decide_eq_false he,if_neg (by simp)]
    exact h
 ·rw[if_neg h7]at h
  rw[if_neg (by simpa using h7)]
  exact h
end Go.Proofs.YtcfpfefadlnmcaaGreat

namespace Go.Proofs.YtcfpfefadlnmcaaGreat
open Go.Mach Go.RowKit
set_option maxRecDepth 100000
set_option linter.unusedVariables false
set_option linter.unusedSimpArgs false
abbrev Prm:=T3×List Int×T3
abbrev dY:Prm:=(([],0,[]),[],([],0,[]))
def cB:List Lay->Int->List (List Int)->List (List Int)×Int×Int
 | [],_,l=>(l,0,0)
 | x::r,i,l =>
   if bX x l (l.getD (l.length-1) [])=[]then([],i+1,2)
   else if 8192<oZ (bX x l (l.getD (l.length-1) []))then([],i+1,1)
   else cB r (i+1) (l++[bX x l (l.getD (l.length-1) [])])
def inL (m:Mdl):List Int:=[m.1.1,m.1.2.1,m.1.2.2]
def aF (m:Mdl):List (List Int)×Int×Int :=
 if q7 m=true then(if 8192<oZ (inL m)then([],0,1)else cB m.2 0 [inL m])else([],0,1)
theorem L7 (d:List Int)(c:Int)(x:Lay):(eU d c x).length<=3:=by
 unfold eU
 split
 ·split <;> simp
 ·simp
theorem O6 {x:Lay}{l:List (List Int)}{d:List Int}(hd:d.length<=3):(bX x l d).length<=3:=by
 unfold bX
 split
 ·split <;> simp
 split
 ·exact L7 _ _ _
 split
 ·exact L7 _ _ _
 split
 ·exact hd
 split
 ·simp
 split
 ·split
  ·exact hd
  ·simp
 ·simp
theorem vV {x:Lay}{n:Int}(h:m8 x n=true)(h7:x.1=7):0<=x.2.2.2.2.2.1/\x.2.2.2.2.2.1<=IntKind.i64.wrap (n-1):=by
 unfold m8 at h
 rw[if_neg (by omega),if_neg (by omega),if_neg (by omega),if_neg (by omega),if_pos h7]at h
 unfold inP at h
 simp only[Bool.and_eq_true,decide_eq_true_eq]at h
 exact h.1
structure ShOk (l:List (List Int))(n:Nat):Prop where
 len:l.length=n
 ne:∀ d∈l,d≠[]/\d.length<=3
theorem ShOk.last {l:List (List Int)}{n:Nat}(h:ShOk l n)(hn:0<n):l.getD (l.length-1) []∈l:=by
 have:=h.len
 rw[List.getD_eq_getElem?_getD,List.getElem?_eq_getElem (by omega)]
 exact List.getElem_mem _
theorem ShOk.at_ {l:List (List Int)}{n:Nat}(h:ShOk l n){i:Nat}(hi:i<n):l.getD i []≠[]/\(l.getD i []).length<=3:=by
 have:=h.len
 rw[List.getD_eq_getElem?_getD,List.getElem?_eq_getElem (by omega)]
 exact h.ne _ (List.getElem_mem _)
theorem ShOk.push {l:List (List Int)}{n:Nat}(h:ShOk l n)(hn:0<n){x:Lay}(hg:bX x l (l.getD (l.length-1) [])≠[]):ShOk (l++[bX x l (l.getD (l.length-1) [])]) (n+1) where
 len:=by simp[h.len]
 ne:=fun d hd=>by
  rcases List.mem_append.1 hd with hd|hd
  ·exact h.ne d hd
  ·rw[List.mem_singleton]at hd
   subst hd
   exact⟨hg,O6 (h.ne _ (h.last hn)).2⟩
theorem QV {m:Mdl}{Q:List (List Int)×Int×Int->Prop}(hl:m.2.length<=10000000000000)(h:Q (aF m)):qL m Q:=by
 refine⟨aGe hl ?_⟩
 unfold aF at h
 show if (!q7 m)=true then _ else _
 by_cases hm:q7 m=true
 rotate_left
 ·rw[if_neg hm]at h
  rw[if_pos (by simp[hm])]
  exact h
 rw[if_pos hm]at h
 rw[if_neg (by simp[hm])]
 obtain⟨hin,hlen,hlay⟩:=iC hm
 refine⟨by simp,KJ (by simp) ?_⟩
 show if decide (8192<oZ (inL m))=true then _ else _
 by_cases hp:8192<oZ (inL m)
 ·rw[if_pos hp]at h
  rw[if_pos (decide_eq_true hp)]
  exact h
 rw[if_neg hp]at h
 rw[if_neg (by simpa using hp)]
 refine⟨?_⟩
 obtain⟨z,hz⟩:∃ z,cB m.2 0 [inL m]=z:=⟨_,rfl⟩
 rw[hz]at h
 refine Loop.rangeI (B:=mF m.2 (m.2.length:Int) _ _) m.2.length (fun i s=>s.1=(i:Int)/\ShOk s.2 (i+1)/\cB (m.2.drop i) i s.2=z) ⟨rfl,⟨rfl,fun d hd => ?_⟩,hz⟩ ?_ ?_
 ·rw[List.mem_singleton]at hd
  subst hd
  exact⟨by simp,by simp⟩
 ·rintro i hi ⟨s1,l⟩ ⟨rfl,hsh,hgo⟩ X hX
  dsimp only at hsh hgo
  unfold mF
  dsimp only
  rw[if_pos (decide_eq_true (show(i:Int)<(m.2.length:Int) by omega))]
  refine⟨by omega,?_⟩
  simp only[Int.toNat_natCast]
  have hdrop:m.2.drop i=m.2.getD i aG::m.2.drop (i+1):=by
   rw[List.drop_eq_getElem_cons hi,List.getD_eq_getElem?_getD,List.getElem?_eq_getElem hi];rfl
  rw[hdrop]at hgo
  have hne:l≠[]:=by intro e;have:=hsh.len;rw[e]at this;simp at this
  have hL:=hsh.last (by omega)
  refine aFL hne (by rw[hsh.len];omega) (hsh.ne _ hL).1 (fun d hd=>by have:=(hsh.ne d hd).2;omega) (fun h7 => ?_) ?_
  ·have:=vV (hlay i hi) h7
   rw[hsh.len]
   rw[aA _ (by omega) (by omega)]at this
   show 0<=(m.2.getD i aG).2.2.2.2.2.1/\(m.2.getD i aG).2.2.2.2.2.1<_
   omega
  unfold cB at hgo
  show nz (bX (m.2.getD i aG) l (l.getD (l.length-1) [])) _ _
  generalize hg:bX (m.2.getD i aG) l (l.getD (l.length-1) [])=g at hgo⊢
  refine⟨fun e => ?_,fun e=>⟨fun e2=>absurd e2 e,?_⟩⟩
  ·rw[if_pos e]at hgo
   subst hgo
   rw[aA _ (by omega) (by omega)]
   exact h
  ·rw[if_neg e]at hgo
   have hg3:g.length<=3:=by rw[<- hg];exact O6 (hsh.ne _ hL).2
   refine KJ (by omega) ?_
   by_cases hq:8192<oZ g
   ·rw[if_pos hq]at hgo
    subst hgo
    rw[if_pos (decide_eq_true hq),aA _ (by omega) (by omega)]
    exact h
   ·rw[if_neg hq]at hgo
    rw[if_neg (by simpa using hq)]
    refine⟨by rw[hsh.len];simp;omega,?_⟩
    refine hX _ ⟨by dsimp only;rw[aA _ (by omega) (by omega)];omega,?_,by dsimp only;exact_mod_cast hgo⟩
    dsimp only
    have:=hsh.push (by omega) (x:=m.2.getD i aG) (by rw[hg];exact e)
    rwa [hg]at this
 ·rintro⟨s1,l⟩ ⟨rfl,hsh,hgo⟩ X
  unfold mF
  dsimp only at hgo⊢
  rw[if_neg (by simp)]
  rw[List.drop_length]at hgo
  unfold cB at hgo
  subst hgo
  exact h
theorem LS:∀ (r:List Lay) (i:Int) (l:List (List Int)) (n:Nat),ShOk l n->0<n->(cB r i l).2.2=0->ShOk (cB r i l).1 (n+r.length)
 | [],i,l,n,h,_,_=>h
 | x::r,i,l,n,h,hn,h0=>by
   unfold cB at h0⊢
   split at h0
   ·cases h0
   ·rename_i hg
    rw[if_neg hg]
    split at h0
    ·cases h0
    ·rename_i hp
     rw[if_neg hp]
     have:=LS r (i+1) _ (n+1) (h.push hn hg) (by omega) h0
     rw[List.length_cons,show n+(r.length+1)=n+1+r.length by omega]
     exact this
theorem rW {m:Mdl}(h:(aF m).2.2=0):q7 m=true/\ShOk (aF m).1 (m.2.length+1):=by
 unfold aF at h⊢
 split at h
 ·rename_i hm
  rw[if_pos hm]
  split at h
  ·cases h
  ·rename_i hp
   rw[if_neg hp]
   have:=LS m.2 0 [inL m] 1 ⟨rfl,fun d hd=>by rw[List.mem_singleton]at hd;subst hd;exact⟨by simp[inL],by simp[inL]⟩⟩ (by omega) h
   rw[Nat.add_comm]
   exact⟨hm,this⟩
 ·cases h
def ofF (x:Lay)(d:List Int):List Int×Int :=
 if x.1=1 then([x.2.1,d.getD 0 0],x.2.1)else if x.1=2 then([x.2.1,d.getD 0 0,x.2.2.1,x.2.2.1],x.2.1)else([],0)
def mR (m:Mdl)(i:Int):List Int×Int :=
 if (((aF m).2.2 != 0)||decide (i<1)||decide ((m.2.length:Int)<i))=true then([],0)
 else if 0<szF (ofF (m.2.getD (i-1).toNat aG) ((aF m).1.getD (i-1).toNat [])).1 then ofF (m.2.getD (i-1).toNat aG) ((aF m).1.getD (i-1).toNat [])else([],0)
theorem aB6:szF []=0:=rfl
theorem aGj {m:Mdl}{i:Int}{Q:List Int×Int->Prop}(hl:m.2.length<=10000000000000)(hd:(mR m i).1=[]->Q (mR m i))(h:(mR m i).1≠[]->Q (mR m i)):D3 m i Q:=by
 have h:Q (mR m i):=by
  by_cases e:(mR m i).1=[]
  ·exact hd e
  ·exact h e
 clear hd
 refine⟨QV hl ?_⟩
 unfold mR at h
 by_cases h1:(((aF m).2.2 != 0)||decide (i<1)||decide ((m.2.length:Int)<i))=true
 ·rw[if_pos h1]at h
  rw[if_pos h1]
  exact h
 rw[if_neg h1]at h
 rw[if_neg h1]
 simp only[Bool.or_eq_true,bne_iff_ne,decide_eq_true_eq,not_or,ne_eq,Decidable.not_not]at h1
 obtain⟨hm,hok⟩:=rW h1.1.1
 have hw:IntKind.i64.wrap (i-1)=i-1:=aA _ (by omega) (by omega)
 rw[hw]
 have hol:=hok.len
 have hat:=hok.at_ (i:=(i-1).toNat) (by omega)
 refine⟨by omega,by show _/\_<((aF m).1.length:Int);omega,?_⟩
 show KT (m.2.getD (i-1).toNat aG) ((aF m).1.getD (i-1).toNat []) _
 generalize m.2.getD (i-1).toNat aG=x at h⊢
 generalize (aF m).1.getD (i-1).toNat []=d at h hat⊢
 have hd0:0<(d.length:Int):=by have:=List.length_pos_iff.2 hat.1;omega
 have fin:∀ r:List Int×Int,r.1≠[]->r.1.length<=4->Q (if 0<szF r.1 then r else([],0))->nz r.1 (fY [] fun r3=>if (!r3)=true then Q ([],0)else Q ([],r.2)) (fY r.1 fun r3=>if (!r3)=true then Q ([],0)else ck (r.1≠[]) (Q (r.1,r.2))):=by
  intro r hr hr4 hq
  refine⟨fun e=>absurd e hr,fun e=>EL ?_⟩
  by_cases hs:0<szF r.1
  ·rw[if_pos hs]at hq
   rw[decide_eq_true hs,if_neg (by simp)]
   exact⟨hr,hq⟩
  ·rw[if_neg hs]at hq
   rw[decide_eq_false hs,if_pos (by rfl)]
   exact hq
 refine⟨?_⟩
 unfold ofF at h
 by_cases k1:x.1=1
 ·simp only[if_pos k1]at h
  rw[if_pos (by simpa using k1)]
  exact⟨by omega,by simp,fin ([x.2.1,d.getD 0 0],x.2.1) (by simp) (by simp) h⟩
 simp only[if_neg k1]at h
 rw[if_neg (by simpa using k1)]
 by_cases k2:x.1=2
 ·simp only[if_pos k2]at h
  rw[if_pos (by simpa using k2)]
  exact⟨by omega,by simp,fin ([x.2.1,d.getD 0 0,x.2.2.1,x.2.2.1],x.2.1) (by simp) (by simp) h⟩
 ·simp only[if_neg k2]at h
  rw[if_neg (by simpa using k2)]
  refine⟨fun _=>EL ?_,fun e=>absurd rfl e⟩
  rw[aB6,if_pos (by rfl)]
  rw[aB6,if_neg (by omega)]at h
  exact h
end Go.Proofs.YtcfpfefadlnmcaaGreat

namespace Go.Proofs.YtcfpfefadlnmcaaGreat
open Go.Mach Go.RowKit
set_option maxRecDepth 100000
set_option linter.unusedVariables false
set_option linter.unusedSimpArgs false
def AF (a:Int):Bool:=decide (a < -1048576)||decide (1048576<a)
theorem aFE {a:Int}{Q:Bool->Prop}(h:Q (AF a)):zU a Q:=⟨h⟩
theorem aAM {l:List Int}{Q:Bool->Prop}(hl:l.length<=10000000000000)(h:Q (l.any AF)):aS l Q:=by
 refine⟨⟨⟨?_⟩⟩⟩
 refine Loop.range (B:=bB l (l.length:Int) _ _) l.length (fun i=>(i:Int)) (fun i=>∀ j,j<i->AF (l.getD j 0)=false) (fun j hj=>absurd hj (by omega)) ?_ ?_
 ·intro i hi hI X hX
  unfold bB
  rw[if_pos (decide_eq_true (show(i:Int)<(l.length:Int) by omega))]
  refine⟨by omega,aFE ?_⟩
  simp only[Int.toNat_natCast]
  cases hb:AF (l.getD i 0)with
  | true =>
    rw[if_pos rfl]
    have:l.any AF=true:=by
     rw[List.any_eq_true]
     refine⟨l[i],List.getElem_mem _,?_⟩
     rw[List.getD_eq_getElem?_getD,List.getElem?_eq_getElem hi]at hb
     exact hb
    rw[this]at h
    rw[decide_eq_true (show(0:Int)<=(i:Int) by omega)]
    exact h
  | false =>
    rw[if_neg (by simp),aA _ (by omega) (by omega)]
    refine hX fun j hj => ?_
    by_cases hji:j=i
    ·subst hji;exact hb
    ·exact hI j (by omega)
 ·intro hI X
  unfold bB
  rw[if_neg (by simp)]
  have:l.any AF=false:=by
   rw[List.any_eq_false]
   intro x hx
   obtain⟨j,hj,rfl⟩:=List.mem_iff_getElem.1 hx
   have:=hI j hj
   rw[List.getD_eq_getElem?_getD,List.getElem?_eq_getElem hj]at this
   simpa using this
  rw[this]at h
  exact h
def aAx (p:Prm):Bool :=
 (((IntKind.i64.wrap ((IntKind.i64.wrap ((IntKind.i64.wrap ((IntKind.i64.wrap ((p.1.1.length:Int)+(p.1.2.2.length:Int)))+(p.2.1.length:Int)))+(p.2.2.1.length:Int)))+(p.2.2.2.2.length:Int)))==0)&&(p.1.2.1==0))&&(p.2.2.2.1==0)
def okP (x:Lay)(dn:List Int×Int)(p:Prm):Bool :=
 if dn.1=[]then(aAx p && !(x.1==1)) && !(x.1==2)
 else((((cL p.1&&cL p.2.2)&&decide (p.1.1=dn.1))&&decide (p.2.2.1=[dn.2]))&&((p.2.1.length:Int)==(p.1.2.2.length:Int))) && !(p.2.1.any AF)
def S8 (m:Mdl)(l:List Prm):Bool:=(List.range l.length).all fun i=>okP (m.2.getD i aG) (mR m ((i:Int)+1)) (l.getD i dY)
def kH (m:Mdl)(l:List Prm):Bool:=(((aF m).2.2==0)&&((l.length:Int)==(m.2.length:Int)))&&S8 m l
theorem aH0 {x:Lay}{dn:List Int×Int}{p:Prm}{s:Int}{A B:Prop}(hA:okP x dn p=true->A)(hB:okP x dn p=false->B){nx:Int->Prop}(hn:nx (IntKind.i64.wrap (s+1))=A){K1:Unit->Prop}(hK:K1 ()=B) :
 nz dn.1 (nB p (fun(r3:Bool)=>if (((!r3)||(x.1==1))||(x.1==2))=true then K1 ()else eY s (fun y4=>nx y4)))
  (nq dn.1 (nB p (fun(r3:Bool)=>if (((!r3)||(x.1==1))||(x.1==2))=true then K1 ()else eY s (fun y4=>nx y4)))
   (bD p.1 (fun(r7:Bool)=>jn (fun(v8:Bool)=>jn (fun(v11:Bool)=>jn (fun(v14:Bool)=>jn (fun(v17:Bool)=>if v17=true then K1 ()else eY s (fun y20=>nx y20)) (fun J18=>if (v14||((p.2.1.length:Int) != (p.1.2.2.length:Int)))=true then J18 true else aS p.2.1 (fun(r19:Bool)=>J18 r19))) (fun J15=>if v11=true then J15 true else fC p.2.2.1 [dn.2] (fun(r16:Bool)=>J15 (!r16)))) (fun J12=>if v8=true then J12 true else fC p.1.1 dn.1 (fun(r13:Bool)=>J12 (!r13)))) (fun J9=>if (!r7)=true then J9 true else bD p.2.2 (fun(r10:Bool)=>J9 (!r10)))))):=by
 subst hn hK
 unfold okP at hA hB
 refine⟨fun e => ?_,fun e=>⟨fun e2=>absurd e2 e,kG ?_⟩⟩
 ·rw[if_pos e]at hA hB
  refine⟨?_⟩
  show if (((!aAx p)||(x.1==1))||(x.1==2))=true then K1 ()else _
  cases h1:((aAx p && !(x.1==1)) && !(x.1==2))with
  | true =>
    have:=hA h1
    rw[if_neg (by simpa [and_assoc] using h1)]
    exact⟨this⟩
  | false =>
    rw[if_pos]
    ·exact hB h1
    ·revert h1
     cases aAx p <;> cases (x.1==1) <;> cases (x.1==2) <;> simp
 ·rw[if_neg e]at hA hB
  unfold jn
  dsimp only
  have no:(((((cL p.1&&cL p.2.2)&&decide (p.1.1=dn.1))&&decide (p.2.2.1=[dn.2]))&&((p.2.1.length:Int)==(p.1.2.2.length:Int))) && !(p.2.1.any AF))=false->K1 ():=hB
  cases m1:cL p.1 with
  | false =>
    rw[m1]at no
    simp only[Bool.not_false,Bool.true_or,if_true]
    exact no (by simp)
  | true =>
    rw[if_neg (by simp)]
    refine kG ?_
    cases m2:cL p.2.2 with
    | false =>
      rw[m2]at no
      simp only[Bool.not_false,Bool.true_or,if_true]
      exact no (by simp)
    | true =>
      rw[if_neg (by simp)]
      obtain⟨l1,l2,_⟩:=eI m1
      obtain⟨k1,k2,_⟩:=eI m2
      refine DT (by omega) ?_
      by_cases e1:p.1.1=dn.1
      rotate_left
      ·rw[decide_eq_false e1]
       simp only[Bool.not_false,Bool.true_or,if_true]
       exact no (by simp[e1])
      rw[decide_eq_true e1,if_neg (by simp)]
      refine DT (by omega) ?_
      by_cases e2:p.2.2.1=[dn.2]
      rotate_left
      ·rw[decide_eq_false e2]
       simp only[Bool.not_false,Bool.true_or,if_true]
       exact no (by simp[e2])
      rw[decide_eq_true e2]
      by_cases e3:p.2.1.length=p.1.2.2.length
      rotate_left
      ·rw[if_pos (by simp;omega),if_pos rfl]
       refine no ?_
       have:((p.2.1.length:Int)==(p.1.2.2.length:Int))=false:=by simp;omega
       rw[this]
       simp
      rw[if_neg (by simp[e3])]
      refine aAM (by omega) ?_
      cases hg:p.2.1.any AF with
      | true =>
        rw[if_pos rfl]
        exact no (by rw[hg];simp)
      | false =>
        rw[if_neg (by simp)]
        refine⟨hA ?_⟩
        rw[m1,m2,decide_eq_true e1,decide_eq_true e2,hg]
        simp[e3]
theorem aEO {m:Mdl}{l:List Prm}{Q:Bool->Prop}(hl:m.2.length<=10000000000000)(h:Q (kH m l)):AV m l Q:=by
 refine⟨QV hl ?_⟩
 unfold kH at h
 show if (((aF m).2.2 != 0)||((l.length:Int) != (m.2.length:Int)))=true then Q false else _
 by_cases h1:(aF m).2.2=0/\l.length=m.2.length
 rotate_left
 ·have e:(((aF m).2.2==0)&&((l.length:Int)==(m.2.length:Int)))=false:=by
   rw[Bool.eq_false_iff]
   intro hh
   simp only[Bool.and_eq_true,beq_iff_eq]at hh
   exact h1 ⟨hh.1,by omega⟩
  rw[e]at h
  rw[if_pos]
  ·exact h
  ·simp only[Bool.or_eq_true,bne_iff_ne,ne_eq]
   by_cases e1:(aF m).2.2=0
   ·right;intro e2;exact h1 ⟨e1,by omega⟩
   ·exact .inl e1
 have e:(((aF m).2.2==0)&&((l.length:Int)==(m.2.length:Int)))=true:=by simp[h1.1,h1.2]
 rw[e,Bool.true_and]at h
 rw[if_neg (by simp[h1.1,h1.2])]
 obtain⟨hm,hok⟩:=rW h1.1
 have hlen:=(iC hm).2.1
 refine⟨?_⟩
 refine Loop.range (B:=pK l (l.length:Int) m.1.1 m.1.2.1 m.1.2.2 m.2 (fun _=>Q true) (fun _=>Q false)) l.length (fun i=>(i:Int)) (fun i=>∀ j,j<i->okP (m.2.getD j aG) (mR m ((j:Int)+1)) (l.getD j dY)=true) (fun j hj=>absurd hj (by omega)) ?_ ?_
 ·intro i hi hI X hX
  unfold pK
  rw[if_pos (decide_eq_true (show(i:Int)<(l.length:Int) by omega))]
  simp only[Int.toNat_natCast]
  have hw:IntKind.i64.wrap ((i:Int)+1)=(i:Int)+1:=aA _ (by omega) (by omega)
  refine⟨by omega,?_⟩
  have hq:∀ d:List Int×Int,d=mR m ((i:Int)+1)->nz d.1 (ck ((0:Int)<=(i:Int)/\(i:Int)<(m.2.length:Int)) (nB (l.getD i dY) (fun(r3:Bool)=>if (((!r3)||((m.2.getD i aG).1==1))||((m.2.getD i aG).1==2))=true then Q false else eY (i:Int) (fun y4=>X y4))))
   (nq d.1 (ck ((0:Int)<=(i:Int)/\(i:Int)<(m.2.length:Int)) (nB (l.getD i dY) (fun(r3:Bool)=>if (((!r3)||((m.2.getD i aG).1==1))||((m.2.getD i aG).1==2))=true then Q false else eY (i:Int) (fun y4=>X y4))))
    (bD (l.getD i dY).1 (fun(r7:Bool)=>jn (fun(v8:Bool)=>jn (fun(v11:Bool)=>jn (fun(v14:Bool)=>jn (fun(v17:Bool)=>if v17=true then Q false else eY (i:Int) (fun y20=>X y20)) (fun J18=>if (v14||(((l.getD i dY).2.1.length:Int) != ((l.getD i dY).1.2.2.length:Int)))=true then J18 true else aS (l.getD i dY).2.1 (fun(r19:Bool)=>J18 r19))) (fun J15=>if v11=true then J15 true else fC (l.getD i dY).2.2.1 [d.2] (fun(r16:Bool)=>J15 (!r16)))) (fun J12=>if v8=true then J12 true else fC (l.getD i dY).1.1 d.1 (fun(r13:Bool)=>J12 (!r13)))) (fun J9=>if (!r7)=true then J9 true else bD (l.getD i dY).2.2 (fun(r10:Bool)=>J9 (!r10)))))):=by
   intro d hd
   have key:=aH0 (x:=m.2.getD i aG) (dn:=d) (p:=l.getD i dY) (s:=(i:Int)) (A:=X (IntKind.i64.wrap ((i:Int)+1))) (B:=Q false) (nx:=X) (K1:=fun _=>Q false) (fun hk=>by
    rw[hw]
    refine hX fun j hj => ?_
    by_cases hji:j=i
    ·subst hji;rw[<- hd];exact hk
    ·exact hI j (by omega)) (fun hk=>by
    have:S8 m l=false:=by
     unfold S8
     rw[List.all_eq_false]
     exact⟨i,List.mem_range.2 hi,by rw[<- hd,hk];simp⟩
    rw[this]at h
    exact h) rfl rfl
   exact⟨fun e=>⟨by omega,key.1 e⟩,fun e=>⟨fun e2=>absurd e2 e,(key.2 e).2⟩⟩
  rw[hw]
  exact aGj hl (fun _=>hq _ rfl) (fun _=>hq _ rfl)
 ·intro hI X
  unfold pK
  rw[if_neg (by simp)]
  have:S8 m l=true:=by
   unfold S8
   rw[List.all_eq_true]
   intro j hj
   exact hI j (List.mem_range.1 hj)
  rw[this]at h
  exact h
theorem aBB {a lo hi:Int}{Q:Bool->Prop}(h:Q (inP a lo hi)):rU a lo hi Q:=⟨h⟩
def RM (a b c:Int):Int:=if ((inP a 0 1000000&&inP b 0 12)&&inP c 0 15)=true then a*1024+b*16+c else 0
theorem aFo {a b c:Int}{Q:Int->Prop}(h:Q (RM a b c)):m9 a b c Q:=by
 refine⟨aBB ?_⟩
 unfold jn
 dsimp only
 unfold RM at h
 cases h1:inP a 0 1000000 with
 | false =>
   rw[h1]at h
   simp only[Bool.not_false,if_true]
   exact h
 | true =>
   rw[h1]at h
   rw[if_neg (by simp)]
   refine aBB ?_
   cases h2:inP b 0 12 with
   | false =>
     rw[h2]at h
     simp only[Bool.not_false,if_true]
     exact h
   | true =>
     rw[h2]at h
     rw[if_neg (by simp)]
     refine aBB ?_
     cases h3:inP c 0 15 with
     | false =>
       rw[h3]at h
       rw[if_pos (by rfl)]
       exact h
     | true =>
       rw[h3,if_pos (by rfl)]at h
       rw[if_neg (by simp)]
       unfold inP at h1 h2 h3
       simp only[Bool.and_eq_true,decide_eq_true_eq]at h1 h2 h3
       rw[aA (a*1024) (by omega) (by omega),aA (b*16) (by omega) (by omega),aA (a*1024+b*16) (by omega) (by omega),aA _ (by omega) (by omega)]
       have:IntKind.u64.wrap (a*1024+b*16+c)=a*1024+b*16+c:=by
        simp only[IntKind.wrap,IntKind.bits,IntKind.signed]
        simp
        omega
       rw[this]
       exact h
end Go.Proofs.YtcfpfefadlnmcaaGreat

namespace Go.Proofs.YtcfpfefadlnmcaaGreat
open Go.Mach
set_option maxRecDepth 100000
set_option linter.unusedVariables false
set_option linter.unusedSimpArgs false
def Prm8 (p:Prm):Prop:=All8 p.1.2.2/\All8 p.2.2.2.2
def Ten8 (l:List T3):Prop:=∀ t∈l,All8 t.2.2
theorem Ten8.at_ {l:List T3}(h:Ten8 l)(i:Nat):All8 (l.getD i Z3).2.2:=by
 rw[List.getD_eq_getElem?_getD]
 cases e:l[i]? with
 | none=>intro y hy;cases hy
 | some t=>exact h t (List.mem_of_getElem? e)
theorem Prm8.at_ {l:List Prm}(h:∀ p∈l,Prm8 p)(i:Nat):Prm8 (l.getD i dY):=by
 rw[List.getD_eq_getElem?_getD]
 cases e:l[i]? with
 | none=>exact⟨fun y hy=>(by cases hy),fun y hy=>(by cases hy)⟩
 | some t=>exact h t (List.mem_of_getElem? e)
def jM (l:List T3):T3:=l.getD (l.length-1) Z3
noncomputable def pZ (x:Lay)(p:Prm)(l:List T3):T3×Bool×Int :=
 if (x.1==1)=true then((US (jM l) p.1 p.2.2).1,true,(US (jM l) p.1 p.2.2).2)
 else if (x.1==2)=true then((JB (jM l) p.1 p.2.2 x.2.2.2.1 x.2.2.2.2.1).1,true,(JB (jM l) p.1 p.2.2 x.2.2.2.1 x.2.2.2.2.1).2)
 else if (x.1==4)=true then((U7 (jM l) x.2.2.1 x.2.2.2.1).1,true,(U7 (jM l) x.2.2.1 x.2.2.2.1).2)
 else if (x.1==7)=true then((addF (jM l) (l.getD x.2.2.2.2.2.1.toNat Z3)).1,true,(addF (jM l) (l.getD x.2.2.2.2.2.1.toNat Z3)).2)
 else(Z3,false,0)
theorem aBa {l:List T3}(h1:l≠[])(h2:l.length<=1000):IntKind.i64.wrap ((l.length:Int)-1)=((l.length-1:Nat):Int)/\0<l.length:=by
 have:=List.length_pos_iff.2 h1
 exact⟨by rw[aA _ (by omega) (by omega)];omega,this⟩
theorem aGa {x:Lay}{p:Prm}{l:List T3}{Q:T3×Bool×Int->Prop}(h1:l≠[])(h2:l.length<=1000)(h8:Ten8 l)(hp:Prm8 p)(hx:x.1=7->0<=x.2.2.2.2.2.1/\x.2.2.2.2.2.1<(l.length:Int))(h:Q (pZ x p l)):AX x p l Q:=by
 refine⟨?_⟩
 obtain⟨e,hl⟩:=aBa h1 h2
 rw[e]
 simp only[Int.toNat_natCast]
 refine⟨by omega,?_⟩
 unfold pZ jM at h
 split
 ·rename_i e1
  rw[if_pos e1]at h
  exact aHW (h8.at_ _) hp.1 hp.2 h
 ·rename_i e1
  rw[if_neg e1]at h
  split
  ·rename_i e2
   rw[if_pos e2]at h
   exact aGo (h8.at_ _) hp.1 hp.2 h
  ·rename_i e2
   rw[if_neg e2]at h
   split
   ·rename_i e4
    rw[if_pos e4]at h
    exact aHr h
   ·rename_i e4
    rw[if_neg e4]at h
    split
    ·rename_i e7
     rw[if_pos e7]at h
     exact⟨hx (by simpa using e7),aDm h⟩
    ·rename_i e7
     rw[if_neg e7]at h
     exact h
noncomputable def dQ (x:Lay)(p:Prm)(l:List T3)(s t:Int):T3×List Int×Int :=
 if ((pZ x p l).2.2 != 0)=true then(Z3,[],(pZ x p l).2.2)
 else if (pZ x p l).2.1=true then((j6 (pZ x p l).1 8 s t).1,[],(j6 (pZ x p l).1 8 s t).2)
 else if (x.1==3)=true then NF (jM l) x.2.2.1 x.2.2.2.1
 else if (x.1==5)=true then((CE (jM l)).1,[],(CE (jM l)).2)
 else((BU (jM l)).1,[],(BU (jM l)).2)
theorem M2 {x:Lay}{p:Prm}{l:List T3}{s t:Int}{Q:T3×List Int×Int->Prop}(h1:l≠[])(h2:l.length<=1000)(h8:Ten8 l)(hp:Prm8 p)(hx:x.1=7->0<=x.2.2.2.2.2.1/\x.2.2.2.2.2.1<(l.length:Int))(h:Q (dQ x p l s t)):xX x p l s t Q:=by
 refine⟨?_⟩
 refine aGa h1 h2 h8 hp hx ?_
 obtain⟨e,hl⟩:=aBa h1 h2
 rw[e]
 simp only[Int.toNat_natCast]
 unfold dQ jM at h
 split
 ·rename_i e0
  rw[if_pos e0]at h;exact h
 ·rename_i e0
  rw[if_neg e0]at h
  split
  ·rename_i e1
   rw[if_pos e1]at h
   exact aAz h
  ·rename_i e1
   rw[if_neg e1]at h
   refine⟨by omega,?_⟩
   split
   ·rename_i e2
    rw[if_pos e2]at h
    exact aHK h
   ·rename_i e2
    rw[if_neg e2]at h
    split
    ·rename_i e3
     rw[if_pos e3]at h
     exact aGC ⟨h⟩
    ·rename_i e3
     rw[if_neg e3]at h
     exact aGn ⟨h⟩
theorem D1 (x:Int) : -128<=IntKind.i8.wrap x/\IntKind.i8.wrap x<=127:=by
 simp only[IntKind.wrap,IntKind.bits,IntKind.signed]
 simp
 split <;> omega
theorem aDg {a:T3}{b s t:Int}:All8 (j6 a b s t).1.2.2:=by
 unfold j6
 split
 ·intro y hy;cases hy
 split
 ·intro y hy;cases hy
 ·intro y hy
  unfold JF at hy
  obtain⟨i,_,rfl⟩:=List.mem_map.1 hy
  exact D1 _
theorem aIX {x:T3}{k s:Int}(h:All8 x.2.2):All8 (NF x k s).1.2.2:=by
 unfold NF
 split
 ·intro y hy;cases hy
 ·intro y hy
  obtain⟨a,_,rfl⟩:=List.mem_map.1 hy
  exact h.at_ _
theorem aH3 {x:T3}(h:All8 x.2.2):All8 (CE x).1.2.2:=by
 unfold CE
 split
 ·intro y hy
  obtain⟨a,ha,rfl⟩:=List.mem_map.1 hy
  have:=h a ha
  unfold aM
  split <;> omega
 ·intro y hy;cases hy
theorem aHN {x:T3}(h:All8 x.2.2):All8 (BU x).1.2.2:=by
 unfold BU pT
 split
 ·split
  ·split
   ·exact h
   ·intro y hy;cases hy
  ·intro y hy;cases hy
 ·intro y hy;cases hy
theorem aDx {x:Lay}{p:Prm}{l:List T3}{s t:Int}(h8:Ten8 l):All8 (dQ x p l s t).1.2.2:=by
 unfold dQ
 split
 ·intro y hy;cases hy
 split
 ·exact aDg
 split
 ·exact aIX (h8.at_ _)
 split
 ·exact aH3 (h8.at_ _)
 ·exact aHN (h8.at_ _)
abbrev Act:=List T3×List (List Int)
noncomputable def pA (ps:List Prm)(s st:Int):List Lay->Nat->Act->Act×Int×Int
 | [],_,a=>(a,0,0)
 | x::r,i,a =>
   if ((dQ x (ps.getD i dY) a.1 s (RM st ((i:Int)+1) 0)).2.2 != 0)=true then(([],[]),(i:Int)+1,(dQ x (ps.getD i dY) a.1 s (RM st ((i:Int)+1) 0)).2.2)
   else pA ps s st r (i+1) (a.1++[(dQ x (ps.getD i dY) a.1 s (RM st ((i:Int)+1) 0)).1],a.2++[(dQ x (ps.getD i dY) a.1 s (RM st ((i:Int)+1) 0)).2.1])
noncomputable def oH (m:Mdl)(ps:List Prm)(x:T3)(s st:Int):Act×Int×Int :=
 if ((!inP st 0 1000000 || !kH m ps) || !cL x)=true then(([],[]),0,1)
 else if (((x.1.length:Int) != 4) || !decide (x.1.drop 1=inL m))=true then(([],[]),0,2)
 else pA ps s st m.2 0 ([x],[[]])
theorem yN {m:Mdl}{ps:List Prm}(h:kH m ps=true):q7 m=true/\ps.length=m.2.length:=by
 unfold kH at h
 simp only[Bool.and_eq_true,beq_iff_eq]at h
 exact⟨(rW h.1.1).1,by omega⟩
theorem aE8 {m:Mdl}{ps:List Prm}{s st:Int}{Q:Act×Int×Int->Prop}(hm:q7 m=true)(hl:ps.length=m.2.length)(hp:∀ p∈ps,Prm8 p){x:T3}(hx:All8 x.2.2)(h:Q (pA ps s st m.2 0 ([x],[[]]))) :
 vM ps s st m.2 (m.2.length:Int) (fun y=>Q ((y.1,y.2),0,0)) (fun y=>Q (([],[]),y.1,y.2)) (0,[x],[[]]):=by
 refine⟨?_⟩
 obtain⟨_,⟨k1,k2⟩,k3⟩:=iC hm
 refine Loop.rangeI (B:=nX ps s st m.2 (m.2.length:Int) (fun y=>Q ((y.1,y.2),0,0)) (fun y=>Q (([],[]),y.1,y.2))) m.2.length
  (fun i z=>z.1=(i:Int)/\z.2.1.length=i+1/\z.2.2.length=i+1/\Ten8 z.2.1/\Q (pA ps s st (m.2.drop i) i (z.2.1,z.2.2)))
  ⟨rfl,rfl,rfl,(fun t ht=>by rw[List.mem_singleton.1 ht];exact hx),by rw[List.drop_zero];exact h⟩ ?_ ?_
 ·rintro i hi ⟨z1,z2,z3⟩ ⟨rfl,e1,e2,h8,hq⟩ X hX
  unfold nX
  dsimp only at e1 e2 h8 hq⊢
  rw[if_pos (decide_eq_true (show(i:Int)<(m.2.length:Int) by omega))]
  refine⟨by omega,by omega,?_⟩
  rw[aA ((i:Int)+1) (by omega) (by omega)]
  simp only[Int.toNat_natCast]
  rw[List.drop_eq_getElem_cons hi]at hq
  have eg:m.2.getD i aG=m.2[i]:=by rw[List.getD_eq_getElem?_getD,List.getElem?_eq_getElem hi];rfl
  rw[<- eg]at hq
  refine aFo (M2 (by intro e;rw[e]at e1;cases e1) (by omega) h8 (Prm8.at_ hp i) ?_ ?_)
  ·intro h7
   have:=vV (k3 i hi) h7
   rw[aA ((i:Int)-1) (by omega) (by omega)]at this
   have h0:0<=(m.2.getD i aG).2.2.2.2.2.1:=this.1
   have h1:(m.2.getD i aG).2.2.2.2.2.1<=(i:Int)-1:=this.2
   exact⟨h0,by show(m.2.getD i aG).2.2.2.2.2.1<_;rw[e1];omega⟩
  ·unfold pA at hq
   by_cases he:((dQ (m.2.getD i aG) (ps.getD i dY) z2 s (RM st ((i:Int)+1) 0)).2.2 != 0)=true
   ·rw[if_pos he]at hq
    rw[if_pos he]
    exact hq
   ·rw[if_neg he]at hq
    rw[if_neg he]
    refine⟨by simp;omega,by simp;omega,hX _ ⟨rfl,by simp[e1],by simp[e2],?_,hq⟩⟩
    intro t ht
    rcases List.mem_append.1 ht with ht|ht
    ·exact h8 t ht
    ·rw[List.mem_singleton.1 ht]
     exact aDx h8
 ·rintro⟨z1,z2,z3⟩ ⟨rfl,e1,e2,h8,hq⟩ X
  unfold nX
  dsimp only at hq⊢
  rw[if_neg (by simp)]
  rw[List.drop_length]at hq
  exact hq
theorem aFn {m:Mdl}{ps:List Prm}{x:T3}{s st:Int}{Q:Act×Int×Int->Prop}(hl:m.2.length<=10000000000000)(hp:∀ p∈ps,Prm8 p)(hx:All8 x.2.2)(h:Q (oH m ps x s st)):s8 m ps x s st Q:=by
 refine⟨?_⟩
 refine aBB ?_
 unfold oH at h
 refine nL (c := !kH m ps) (fun _ P hP=>aEO hl hP) (fun v e => ?_) rfl
 refine nL (c := !cL x) (fun _ P hP=>kG hP) (fun v5 e5 => ?_) rfl
 rw[<- e,<- e5]at h
 cases v5 with
 | true=>rw[if_pos rfl]at h⊢;exact h
 | false =>
   rw[if_neg (by simp)]at h
   rw[if_neg (by simp)]
   have hv:v=false/\cL x=true:=by
    have:=e5.symm
    simp only[Bool.or_eq_false_iff,Bool.not_eq_false']at this
    exact this
   have hmp:kH m ps=true:=by
    have:=e.symm
    rw[hv.1]at this
    simp only[Bool.or_eq_false_iff,Bool.not_eq_false']at this
    exact this.2
   obtain⟨q1,q2⟩:=eI hv.2
   refine nL (c := !decide (x.1.drop 1=inL m)) (fun hb P hP => ?_) (fun v8 e8 => ?_) rfl
   ·have:(x.1.length:Int)=4:=by simpa using hb
    refine⟨⟨(fun e0=>by rw[e0]at this;simp at this),by omega,by omega,by omega⟩,?_⟩
    have e9:(x.1.take ((x.1.length:Int)).toNat).drop ((1:Int)).toNat=x.1.drop 1:=by rw[Int.toNat_natCast,List.take_length];rfl
    rw[e9]
    exact DT (by simp;omega) hP
   ·rw[<- e8]at h
    cases v8 with
    | true=>rw[if_pos rfl]at h⊢;exact h
    | false =>
      rw[if_neg (by simp)]at h
      rw[if_neg (by simp)]
      refine sT (by omega) (Y7 (by omega) ?_)
      obtain⟨w1,w2⟩:=yN hmp
      exact aE8 w1 w2 hp hx h
end Go.Proofs.YtcfpfefadlnmcaaGreat
