/- Part of the proof. No condition. -/
import Derived.Test.YtcfpfefadlnmcaaGreatZ37
import Derived.Test.YtcfpfefadlnmcaaGreatZ36
namespace Go.Proofs.YtcfpfefadlnmcaaGreat
open Go.Mach Go.RowKit
set_option maxRecDepth 100000
set_option linter.unusedVariables false
set_option linter.unusedSimpArgs false
def InP (K plane:Nat) (l:List (Int×Int×Int)):Prop:=∀ z∈l,∃ a r c:Nat,z=((a:Int),(r:Int),(c:Int))/\a<plane/\r<K/\c<K
theorem aDC {rows cols cr cc:Int} {k m:Nat} {z:Int×Int×Int} (h:z∈CP rows cols cr cc k m):∃ i j:Nat,i<m/\j<k/\(0<=cr+i/\cr+i<=rows-1)/\(0<=cc+j/\cc+j<=cols-1)/\z=((cr+i)*cols+(cc+j),(i:Int),(j:Int)):=by
 unfold CP oO at h
 simp only [List.mem_flatMap,List.mem_range] at h
 obtain ⟨i,hi,j,hj,hz⟩:=h
 unfold jL at hz
 split at hz
 ·rename_i hin
  simp only [Bool.and_eq_true] at hin
  refine ⟨i,j,hi,hj,by simpa [inP] using hin.1,by simpa [inP] using hin.2,by simpa using hz⟩
 ·simp at hz
theorem aEh {rows cols:Nat} {cr cc:Int} {k m K:Nat} (hm:m<=K) (hk:k<=K):InP K (rows*cols) (CP rows cols cr cc k m):=by
 intro z hz
 obtain ⟨i,j,hi,hj,h1,h2,rfl⟩:=aDC hz
 obtain ⟨y,hy⟩:=Int.eq_ofNat_of_zero_le h1.1
 obtain ⟨x,hx⟩:=Int.eq_ofNat_of_zero_le h2.1
 refine ⟨y*cols+x,i,j,?_,jM (by omega) (by omega),by omega,by omega⟩
 rw [hy,hx,Int.natCast_add,Int.natCast_mul]
theorem GO {rows cols K:Nat} {r c s p:Int}:InP K (rows*cols) (eO rows cols r c K s p):=by
 unfold eO
 split
 ·intro z hz; simp at hz
 ·rw [Int.toNat_natCast]; exact aEh (Nat.le_refl _) (Nat.le_refl _)
theorem DJ {rows cols r c s p:Int} {K:Nat}:(eO rows cols r c K s p).length<=K*K:=by
 unfold eO
 split
 ·simp
 ·rw [Int.toNat_natCast]; exact I3 K
def US (xd wd:List Int) (C plane K m o c:Nat) (z:Int×Int×Int):Int:=xd.getD ((m*C+c)*plane+z.1.toNat) 0*wd.getD (((o*C+c)*K+z.2.1.toNat)*K+z.2.2.toNat) 0
theorem aIV {C K plane m o c n O:Nat} {xd wd:List Int} {l:List (Int×Int×Int)} {t:Int} {K0:Int->Prop} (hx:xd.length=n*C*plane) (hw:wd.length=O*C*K*K) (bx:n*C*plane<=8192) (bw:O*C*K*K<=8192) (ax:All8 xd) (aw:All8 wd) (hm:m<n) (ho:o<O) (hc:c<C) (hl:InP K plane l) (hll:l.length<=1000000)
  (h:K0 (IntKind.i64.wrap (t+nF l (US xd wd C plane K m o c)))):t7 C K plane m o c (l.length:Int) xd wd l K0 (IntKind.i64.wrap t,0):=by
 refine ⟨?_⟩
 have eg:(IntKind.i64.wrap t,(0:Int))=(fun i:Nat=>(IntKind.i64.wrap (t+bR (fun i=>US xd wd C plane K m o c (l.getD i (0,0,0))) i),(i:Int))) 0:=by simp [bR]
 rw [eg]
 refine Loop.range (B:=mT C K plane m o c (l.length:Int) xd wd l K0) (f:=fun i:Nat=>(IntKind.i64.wrap (t+bR (fun i=>US xd wd C plane K m o c (l.getD i (0,0,0))) i),(i:Int))) l.length (fun _=>True) trivial ?_ ?_
 ·intro i hi _ X hX
  have hX:=hX trivial
  unfold mT
  rw [if_pos (decide_eq_true (show (i:Int)<(l.length:Int) by omega))]
  dsimp only at hX ⊢
  refine ⟨by omega,?_⟩
  rw [Int.toNat_natCast]
  obtain ⟨a,r,q,ez,ha,hr,hq⟩:=hl (l.getD i (0,0,0)) (by rw [List.getD_eq_getElem?_getD,List.getElem?_eq_getElem hi]; exact List.getElem_mem hi)
  have g1:(m*C+c)*plane+a<n*C*plane:=jM (jM hm hc) ha
  have g2:((o*C+c)*K+r)*K+q<O*C*K*K:=jM (jM (jM ho hc) hr) hq
  have g3:m*C+c<n*C:=jM hm hc
  have g4:n*C<=n*C*plane:=Nat.le_mul_of_pos_right _ (by omega)
  have g5:(o*C+c)*K+r<O*C*K:=jM (jM ho hc) hr
  have g6:O*C*K<=O*C*K*K:=Nat.le_mul_of_pos_right _ (by omega)
  have g7:o*C+c<O*C:=jM ho hc
  have g8:O*C<=O*C*K:=Nat.le_mul_of_pos_right _ (by omega)
  have ef:US xd wd C plane K m o c (l.getD i (0,0,0))=xd.getD ((m*C+c)*plane+a) 0*wd.getD (((o*C+c)*K+r)*K+q) 0:=by
   unfold US; rw [ez]; simp only [Int.toNat_natCast]
  simp only [bR,ef] at hX
  rw [ez]
  dsimp only
  rw [ix (r:=m) (n:=C) (i:=c) (by omega),ix (r:=m*C+c) (n:=plane) (i:=a) (by omega),ix (r:=o) (n:=C) (i:=c) (by omega),ix (r:=o*C+c) (n:=K) (i:=r) (by omega),ix (r:=(o*C+c)*K+r) (n:=K) (i:=q) (by omega)]
  refine ⟨by omega,by omega,?_⟩
  simp only [Int.toNat_natCast]
  have b1:=ax.at_ ((m*C+c)*plane+a)
  have b2:=aw.at_ (((o*C+c)*K+r)*K+q)
  have b3:=RV b1 b2
  rw [aA (xd.getD ((m*C+c)*plane+a) 0) (by omega) (by omega),aA (wd.getD (((o*C+c)*K+r)*K+q) 0) (by omega) (by omega),aA (_*_) (by omega) (by omega),aA ((i:Int)+1) (by omega) (by omega),TH,Int.add_assoc]
  exact hX
 ·intro _ X
  unfold mT
  rw [if_neg (by simp)]
  rw [EZ l _ (0,0,0)] at h
  exact h
theorem aIU {C K plane m o n O:Nat} {xd wd:List Int} {l:List (Int×Int×Int)} {t:Int} {K0:Int->Prop} (hx:xd.length=n*C*plane) (hw:wd.length=O*C*K*K) (bx:n*C*plane<=8192) (bw:O*C*K*K<=8192) (ax:All8 xd) (aw:All8 wd) (hm:m<n) (ho:o<O) (hl:InP K plane l) (hll:l.length<=1000000) (hC:C<=10000)
  (h:K0 (IntKind.i64.wrap (t+bR (fun c=>nF l (US xd wd C plane K m o c)) C))):tR C K plane m o C xd wd l K0 (IntKind.i64.wrap t,0):=by
 refine ⟨?_⟩
 have eg:(IntKind.i64.wrap t,(0:Int))=(fun i:Nat=>(IntKind.i64.wrap (t+bR (fun c=>nF l (US xd wd C plane K m o c)) i),(i:Int))) 0:=by simp [bR]
 rw [eg]
 refine Loop.range (B:=mI C K plane m o C xd wd l K0) (f:=fun i:Nat=>(IntKind.i64.wrap (t+bR (fun c=>nF l (US xd wd C plane K m o c)) i),(i:Int))) C (fun _=>True) trivial ?_ ?_
 ·intro c hc _ X hX
  have hX:=hX trivial
  unfold mI
  rw [if_pos (decide_eq_true (show (c:Int)<(C:Int) by omega))]
  dsimp only at hX ⊢
  refine aIV hx hw bx bw ax aw hm ho hc hl hll ?_
  rw [aA ((c:Int)+1) (by omega) (by omega),Int.add_assoc]
  exact hX
 ·intro _ X
  unfold mI
  rw [if_neg (by simp)]
  exact h
section
variable {n C O K H V P Q:Nat} {s p:Int} {xd wd bd:List Int} {be e:Int}
def pD (H V C K:Nat) (s p:Int) (xd wd bd:List Int) (be e:Int) (m o y x:Nat):Int:=IntKind.i32.wrap (alF (bd.getD o 0) be e+bR (fun c=>nF (eO H V y x K s p) (US xd wd C (H*V) K m o c)) C)
structure FwdIn (n C O K H V P Q:Nat) (xd wd bd:List Int):Prop where
 hx:xd.length=n*C*(H*V)
 hw:wd.length=O*C*K*K
 bx:n*C*(H*V)<=8192
 bw:O*C*K*K<=8192
 ax:All8 xd
 aw:All8 wd
 ab:All8 bd
 hb:bd.length=O
 hK:K<=5
 hC:1<=C
 hn:1<=n
 hO:1<=O
 h0:1<=K
 bo:n*O*P*Q<=8192
theorem FwdIn.le {n C O K H V P Q:Nat} {xd wd bd:List Int} (g:FwdIn n C O K H V P Q xd wd bd):C<=8192/\O<=8192:=by
 have h1:=g.bw
 have h2:=g.h0
 have h3:=g.hO
 have h4:=g.hC
 have h5:O*C<=O*C*K:=Nat.le_mul_of_pos_right _ h2
 have h6:O*C*K<=O*C*K*K:=Nat.le_mul_of_pos_right _ h2
 have h7:C<=O*C:=Nat.le_mul_of_pos_left _ h3
 have h8:O<=O*C:=Nat.le_mul_of_pos_right _ h4
 omega
theorem aIQ (g:FwdIn n C O K H V P Q xd wd bd) {C0:Nat->Nat->Nat->Nat->Prop} {L:List Int} {m y x:Nat} {K0:List Int->Prop} (hm:m<n) (hy:y<P) (hx:x<Q) (hL:Fill n O P Q (pD H V C K s p xd wd bd be e) C0 L)
  (h:∀ L',Fill n O P Q (pD H V C K s p xd wd bd be e) (fun m' o' y' x'=>C0 m' o' y' x'\/(m'=m/\y'=y/\x'=x)) L'->K0 L') :
  tU C O K ((H*V:Nat):Int) y x m O xd wd be bd P Q e (eO H V y x K s p) K0 (0,L):=by
 refine ⟨?_⟩
 have hle:=g.le
 have hbo:=g.bo
 refine Loop.rangeI (B:=mO C O K ((H*V:Nat):Int) y x m O xd wd be bd P Q e (eO H V y x K s p) K0) O (fun i st=>st.1=(i:Int)/\Fill n O P Q (pD H V C K s p xd wd bd be e) (fun m' o' y' x'=>C0 m' o' y' x'\/(m'=m/\y'=y/\x'=x/\o'<i)) st.2) ⟨rfl,hL.mono fun m' o' y' x' _ _ _ _ hc=>hc.elim id fun h=>absurd h.2.2.2 (by omega)⟩ ?_ ?_
 ·rintro o ho ⟨o',M⟩ ⟨e1,hM⟩ X hX
  simp only at e1 hM
  subst e1
  unfold mO
  rw [if_pos (decide_eq_true (show (o:Int)<(O:Int) by omega))]
  dsimp only
  refine ⟨by rw [g.hb]; omega,?_⟩
  rw [Int.toNat_natCast]
  have bb:=g.ab.at_ o
  rw [aA (bd.getD o 0) (by omega) (by omega)]
  refine aF0 ?_
  have ba:=V0 (b:=be) (c:=e) bb
  have hK:=g.hK
  have hKK:K*K<=5*5:=Nat.mul_le_mul hK hK
  have hwl:=DJ (rows:=H) (cols:=V) (r:=y) (c:=x) (s:=s) (p:=p) (K:=K)
  have e0:(alF (bd.getD o 0) be e,(0:Int))=(IntKind.i64.wrap (alF (bd.getD o 0) be e),(0:Int)):=by rw [aA _ (by omega) (by omega)]
  rw [e0]
  refine aIU g.hx g.hw g.bx g.bw g.ax g.aw hm ho GO (by omega) (by omega) ?_
  have g1:=GU (P:=P) (Q:=Q) hm ho hy hx
  unfold ix4 at g1
  have g2:m*O+o<=(m*O+o)*P:=Nat.le_mul_of_pos_right _ (by omega)
  have g3:(m*O+o)*P+y<=((m*O+o)*P+y)*Q:=Nat.le_mul_of_pos_right _ (by omega)
  rw [ix (r:=m) (n:=O) (i:=o) (by omega),ix (r:=m*O+o) (n:=P) (i:=y) (by omega),ix (r:=(m*O+o)*P+y) (n:=Q) (i:=x) (by omega)]
  refine ⟨by rw [hM.len]; omega,?_⟩
  rw [Int.toNat_natCast,aA ((o:Int)+1) (by omega) (by omega),aBD]
  refine hX _ ⟨by simp,?_⟩
  refine hM.set hm ho hy hx rfl fun m' o' y' x' _ _ _ _ hc => ?_
  rcases hc with hc | ⟨c1,c2,c3,c4⟩
  ·exact .inl (.inl hc)
  ·rcases Nat.lt_or_ge o' o with c5 | c5
   ·exact .inl (.inr ⟨c1,c2,c3,c5⟩)
   ·exact .inr ⟨c1,by omega,c2,c3⟩
 ·rintro ⟨o',M⟩ ⟨e1,hM⟩ X
  simp only at e1 hM
  subst e1
  unfold mO
  rw [if_neg (by simp)]
  exact h _ (hM.mono fun m' o' y' x' _ h2 _ _ hc=>hc.elim .inl fun ⟨a,b,c⟩ => .inr ⟨a,b,c,h2⟩)
theorem aIF (g:FwdIn n C O K H V P Q xd wd bd) {C0:Nat->Nat->Nat->Nat->Prop} {L:List Int} {y x:Nat} {K0:List Int->Prop} (hn:n<=8192) (hy:y<P) (hx:x<Q) (hL:Fill n O P Q (pD H V C K s p xd wd bd be e) C0 L)
  (h:∀ L',Fill n O P Q (pD H V C K s p xd wd bd be e) (fun m' o' y' x'=>C0 m' o' y' x'\/(y'=y/\x'=x)) L'->K0 L') :
  tY C O K ((H*V:Nat):Int) y x n xd wd be bd P Q e (eO H V y x K s p) K0 (0,L):=by
 refine ⟨?_⟩
 refine Loop.rangeI (B:=mU C O K ((H*V:Nat):Int) y x n xd wd be bd P Q e (eO H V y x K s p) K0) n (fun i st=>st.1=(i:Int)/\Fill n O P Q (pD H V C K s p xd wd bd be e) (fun m' o' y' x'=>C0 m' o' y' x'\/(y'=y/\x'=x/\m'<i)) st.2) ⟨rfl,hL.mono fun m' o' y' x' _ _ _ _ hc=>hc.elim id fun h=>absurd h.2.2 (by omega)⟩ ?_ ?_
 ·rintro m hm ⟨m',M⟩ ⟨e1,hM⟩ X hX
  simp only at e1 hM
  subst e1
  unfold mU
  rw [if_pos (decide_eq_true (show (m:Int)<(n:Int) by omega))]
  refine aIQ g hm hy hx hM fun L' hL' => ?_
  dsimp only
  rw [aA ((m:Int)+1) (by omega) (by omega)]
  refine hX _ ⟨by simp,hL'.mono fun m' o' y' x' _ _ _ _ hc => ?_⟩
  rcases hc with hc | ⟨c1,c2,c3⟩
  ·exact .inl (.inl hc)
  ·rcases Nat.lt_or_ge m' m with c5 | c5
   ·exact .inl (.inr ⟨c1,c2,c5⟩)
   ·exact .inr ⟨by omega,c1,c2⟩
 ·rintro ⟨m',M⟩ ⟨e1,hM⟩ X
  simp only at e1 hM
  subst e1
  unfold mU
  rw [if_neg (by simp)]
  exact h _ (hM.mono fun m' o' y' x' h2 _ _ _ hc=>hc.elim .inl fun ⟨a,b⟩ => .inr ⟨a,b,h2⟩)
theorem aIB (g:FwdIn n C O K H V P Q xd wd bd) {C0:Nat->Nat->Nat->Nat->Prop} {L:List Int} {y:Nat} {K0:List Int->Prop} (hn:n<=8192) (hQ:Q<=8192) (hy:y<P) (hL:Fill n O P Q (pD H V C K s p xd wd bd be e) C0 L)
  (h:∀ L',Fill n O P Q (pD H V C K s p xd wd bd be e) (fun m' o' y' x'=>C0 m' o' y' x'\/y'=y) L'->K0 L') :
  tS n C O K ((H*V:Nat):Int) y Q xd wd be bd H V K s p P Q e K0 (0,L):=by
 refine ⟨?_⟩
 refine Loop.rangeI (B:=mQ n C O K ((H*V:Nat):Int) y Q xd wd be bd H V K s p P Q e K0) Q (fun i st=>st.1=(i:Int)/\Fill n O P Q (pD H V C K s p xd wd bd be e) (fun m' o' y' x'=>C0 m' o' y' x'\/(y'=y/\x'<i)) st.2) ⟨rfl,hL.mono fun m' o' y' x' _ _ _ _ hc=>hc.elim id fun h=>absurd h.2 (by omega)⟩ ?_ ?_
 ·rintro x hx ⟨x',M⟩ ⟨e1,hM⟩ X hX
  simp only at e1 hM
  subst e1
  unfold mQ
  rw [if_pos (decide_eq_true (show (x:Int)<(Q:Int) by omega))]
  refine ⟨?_⟩
  refine DC ?_
  refine aIF g hn hy hx hM fun L' hL' => ?_
  dsimp only
  rw [aA ((x:Int)+1) (by omega) (by omega)]
  refine hX _ ⟨by simp,hL'.mono fun m' o' y' x' _ _ _ _ hc => ?_⟩
  rcases hc with hc | ⟨c1,c2⟩
  ·exact .inl (.inl hc)
  ·rcases Nat.lt_or_ge x' x with c5 | c5
   ·exact .inl (.inr ⟨c1,c5⟩)
   ·exact .inr ⟨c1,by omega⟩
 ·rintro ⟨x',M⟩ ⟨e1,hM⟩ X
  simp only at e1 hM
  subst e1
  unfold mQ
  rw [if_neg (by simp)]
  exact h _ (hM.mono fun m' o' y' x' _ _ _ h2 hc=>hc.elim .inl fun a => .inr ⟨a,h2⟩)
theorem aIM (g:FwdIn n C O K H V P Q xd wd bd) {L:List Int} {K0:List Int->Prop} (hn:n<=8192) (hQ:Q<=8192) (hP:P<=8192) (hL:L.length=n*O*P*Q)
  (h:K0 (F7 n O P Q (pD H V C K s p xd wd bd be e))) :
  tW n C O K ((H*V:Nat):Int) P xd wd be bd H V K s p P Q e K0 (0,L):=by
 refine ⟨?_⟩
 refine Loop.rangeI (B:=mV n C O K ((H*V:Nat):Int) P xd wd be bd H V K s p P Q e K0) P (fun i st=>st.1=(i:Int)/\Fill n O P Q (pD H V C K s p xd wd bd be e) (fun m' o' y' x'=>y'<i) st.2) ⟨rfl,hL,fun m' o' y' x' _ _ _ _ hc=>absurd hc (by omega)⟩ ?_ ?_
 ·rintro y hy ⟨y',M⟩ ⟨e1,hM⟩ X hX
  simp only at e1 hM
  subst e1
  unfold mV
  rw [if_pos (decide_eq_true (show (y:Int)<(P:Int) by omega))]
  refine aIB g hn hQ hy hM fun L' hL' => ?_
  dsimp only
  rw [aA ((y:Int)+1) (by omega) (by omega)]
  refine hX _ ⟨by simp,hL'.mono fun m' o' y' x' _ _ _ _ hc => ?_⟩
  rcases Nat.lt_or_ge y' y with c5 | c5
  ·exact .inl c5
  ·exact .inr (by omega)
 ·rintro ⟨y',M⟩ ⟨e1,hM⟩ X
  simp only at e1 hM
  subst e1
  unfold mV
  rw [if_neg (by simp)]
  rw [hM.all fun _ _ y' _ _ _ hy _=>hy]
  exact h
end
open Go.Mach Go.RowKit
set_option maxRecDepth 100000
set_option linter.unusedVariables false
set_option linter.unusedSimpArgs false
theorem aH1 {l:List Int} (h:(l.length:Int)=4):∃ a b c d,l=[a,b,c,d]:=by
 match l,h with
 | [a,b,c,d],_=>exact ⟨a,b,c,d,rfl⟩
 | [],h=>simp at h
 | [_],h=>simp at h
 | [_,_],h=>simp at h
 | [_,_,_],h=>simp at h
 | _::_::_::_::_::r,h=>simp at h; omega
theorem len1 {l:List Int} (h:(l.length:Int)=1):∃ a,l=[a]:=by
 match l,h with
 | [a],_=>exact ⟨a,rfl⟩
 | [],h=>simp at h
 | _::_::r,h=>simp at h; omega
theorem u6 {l:List T3} (h:jE l=0):∀ t∈l,cK t=true/\(t.1.length:Int)=4:=by
 unfold jE at h
 split at h
 ·split at h
  ·rename_i h1 h2
   intro t ht
   exact ⟨List.all_eq_true.1 h1 t ht,by have:=List.all_eq_true.1 h2 t ht; simpa using this⟩
  ·cases h
 ·cases h
theorem UA {t:T3} (h:cK t=true) (hl:(t.1.length:Int)=4):∃ n m p q:Nat,t.1=[(n:Int),(m:Int),(p:Int),(q:Int)]/\1<=n/\1<=m/\1<=p/\1<=q/\n*m*p*q<=8192/\t.2.2.length=n*m*p*q /\ -64<=t.2.1/\t.2.1<=64:=by
 obtain ⟨h1,h2,h3,h4⟩:=eI.1 h
 obtain ⟨a,b,c,d,e⟩:=aH1 hl
 rw [e] at h1 h2
 obtain ⟨n,m,p,q,rfl,rfl,rfl,rfl,g1,g2,g3,g4,g5,g6⟩:=aCP h1
 rw [g6] at h2
 exact ⟨n,m,p,q,e,g1,g2,g3,g4,g5,by omega,h3.1,h3.2⟩
theorem aIT {t:T3} (h:cK t=true) (hl:(t.1.length:Int)=1):∃ n:Nat,t.1=[(n:Int)]/\1<=n/\n<=4096/\t.2.2.length=n:=by
 obtain ⟨h1,h2,h3,h4⟩:=eI.1 h
 obtain ⟨a,e⟩:=len1 hl
 rw [e] at h1 h2
 obtain ⟨g1,g2,g3⟩:=aEz h1
 obtain ⟨n,rfl⟩:=Int.eq_ofNat_of_zero_le (show 0<=a by omega)
 rw [g3] at h2
 exact ⟨n,e,by omega,by omega,by omega⟩
theorem nM {n k s p:Int} (h:0<aL n k s p):(1<=n/\n<=16)/\(1<=k/\k<=5)/\(1<=s/\s<=4)/\(0<=p/\p<=k-1)/\k<=n+2*p/\aL n k s p=(n+2*p-k) / s+1:=by
 have hb:=(u5 n k s p).2.2 (by omega)
 obtain ⟨b1,b2,b3,b4,b5⟩:=BH hb
 refine ⟨b1,b2,b3,b4,b5,?_⟩
 unfold aL
 rw [hb,if_neg (by simp)]
theorem pM {n k s p:Int}:∃ P:Nat,aL n k s p=P/\P<=25:=by
 obtain ⟨h1,h2,_⟩:=u5 n k s p
 obtain ⟨P,e⟩:=Int.eq_ofNat_of_zero_le h1
 exact ⟨P,e,by omega⟩
def VG (x w b:T3) (s p:Int):Bool :=
 (((!(decide (0<aL (x.1.getD 2 0) (w.1.getD 2 0) s p)&&decide (0<aL (x.1.getD 3 0) (w.1.getD 2 0) s p))||(w.1.getD 1 0 != x.1.getD 1 0))||(w.1.getD 3 0 != w.1.getD 2 0))||((b.1.length:Int) != 1))||(b.1.getD 0 0 != w.1.getD 0 0)
def DS (x w:T3) (s p:Int):List Int:=[x.1.getD 0 0,w.1.getD 0 0,aL (x.1.getD 2 0) (w.1.getD 2 0) s p,aL (x.1.getD 3 0) (w.1.getD 2 0) s p]
def aFr (x w:T3):Int:=x.1.getD 1 0*w.1.getD 2 0*w.1.getD 2 0
def aET (x w b:T3) (s p:Int):Int :=
 if (!cK b)=true then 1
 else if (jE [x,w] != 0)=true then jE [x,w]
 else if VG x w b s p=true then 2
 else (p9 (DS x w s p) (x.2.1+w.2.1) (aFr x w)).2
def YD (x w b : T3) (s p : Int) : List Int :=
  F7 (x.1.getD 0 0).toNat (w.1.getD 0 0).toNat (aL (x.1.getD 2 0) (w.1.getD 2 0) s p).toNat (aL (x.1.getD 3 0) (w.1.getD 2 0) s p).toNat
    (pD (x.1.getD 2 0).toNat (x.1.getD 3 0).toNat (x.1.getD 1 0).toNat (w.1.getD 2 0).toNat s p x.2.2 w.2.2 b.2.2 b.2.1 (x.2.1 + w.2.1))
def HE (x w b:T3) (s p:Int):T3×Int:=if (aET x w b s p != 0)=true then (Z3,aET x w b s p) else ((DS x w s p,(x.2.1+w.2.1,YD x w b s p)),0)
theorem TM {a b:Int}:(a != b)=false ↔ a=b:=by simp
theorem aGz {x w b : T3} {s p : Int} {Q : T3 × Int -> Prop} (ax : All8 x.2.2) (aw : All8 w.2.2) (ab : All8 b.2.2) (hq : Q (HE x w b s p)) : BA x w b s p Q := by
  refine ⟨?_⟩
  refine kG ?_
  unfold HE aET at hq
  by_cases h1 : (!cK b) = true
  · rw [if_pos h1]
    simp only [h1, if_true] at hq
    exact hq
  · rw [if_neg h1]
    simp only [h1, Bool.false_eq_true, if_false] at hq
    refine UT (by simp) ?_
    show (if (jE [x, w] != 0) = true then _ else _)
    by_cases h2 : (jE [x, w] != 0) = true
    · rw [if_pos h2]
      simp only [h2, if_true] at hq
      exact hq
    · rw [if_neg h2]
      simp only [h2, Bool.false_eq_true, if_false] at hq
      have hz : jE [x, w] = 0 := by simpa using h2
      have hzz := u6 hz
      obtain ⟨mx, lx⟩ := hzz x (by simp)
      obtain ⟨mw, lw⟩ := hzz w (by simp)
      obtain ⟨n, C, H, V, ex, x1, x2, x3, x4, x5, x6, x7, x8⟩ := UA mx lx
      obtain ⟨O, C', K, K', ew, w1, w2, w3, w4, w5, w6, w7, w8⟩ := UA mw lw
      refine ⟨by omega, by omega, by omega, by omega, by omega, by omega, aAF ?_⟩
      refine m9 (b := !(decide (0 < aL (x.1.getD 2 0) (w.1.getD 2 0) s p) && decide (0 < aL (x.1.getD 3 0) (w.1.getD 2 0) s p))) (c := w.1.getD 1 0 != x.1.getD 1 0) (fun _ P hp => ⟨by omega, hp⟩) (fun v4 e4 => ?_) rfl
      refine m9 (c := w.1.getD 3 0 != w.1.getD 2 0) (fun _ P hp => ⟨by omega, hp⟩) (fun v6 e6 => ?_) rfl
      refine m9 (b := v6 || ((b.1.length : Int) != 1)) (c := b.1.getD 0 0 != w.1.getD 0 0) (fun hb P hp => ⟨by simp only [Bool.or_eq_false_iff, TM] at hb; omega, hp⟩) (fun v8 e8 => ?_) rfl
      have hv : v8 = VG x w b s p := by rw [e8, e6, e4]; rfl
      rw [<- hv] at hq
      cases v8 with
      | true => exact hq
      | false =>
        rw [if_neg (by simp)]
        simp only [Bool.false_eq_true, if_false] at hq
        have hv2 := hv.symm
        unfold VG at hv2
        simp only [Bool.or_eq_false_iff, TM, Bool.not_eq_false', Bool.and_eq_true, decide_eq_true_eq] at hv2
        obtain ⟨⟨⟨⟨⟨o1, o2⟩, c1⟩, c2⟩, c3⟩, c4⟩ := hv2
        obtain ⟨O', eb, b1, b2, b3⟩ := aIT (by simpa using h1) c3
        simp only [ex, ew, eb, List.getD_cons_zero, List.getD_cons_succ] at o1 o2 c1 c2 c4
        have ec : C' = C := by omega
        have ek : K' = K := by omega
        have eo : O' = O := by omega
        subst ec ek eo
        obtain ⟨a1, a2, a3, a4, a5, a6⟩ := nM o1
        obtain ⟨d1, d2, d3, d4, d5, d6⟩ := nM o2
        obtain ⟨P, eP, hP⟩ := pM (n := H) (k := K') (s := s) (p := p)
        obtain ⟨R, eR, hR⟩ := pM (n := V) (k := K') (s := s) (p := p)
        have hC : C' <= 8192 := by
          have : C' <= n * C' := Nat.le_mul_of_pos_left _ (by omega)
          have : n * C' <= n * C' * H := Nat.le_mul_of_pos_right _ (by omega)
          have : n * C' * H <= n * C' * H * V := Nat.le_mul_of_pos_right _ (by omega)
          omega
        have hn : n <= 8192 := by
          have : n <= n * C' := Nat.le_mul_of_pos_right _ (by omega)
          have : n * C' <= n * C' * H := Nat.le_mul_of_pos_right _ (by omega)
          have : n * C' * H <= n * C' * H * V := Nat.le_mul_of_pos_right _ (by omega)
          omega
        have k1 : C' * K' <= 8192 * 5 := Nat.mul_le_mul hC (by omega)
        have k2 : C' * K' * K' <= 8192 * 5 * 5 := Nat.mul_le_mul k1 (by omega)
        have k3 : H * V <= 16 * 16 := Nat.mul_le_mul (by omega) (by omega)
        unfold aFr DS YD at hq
        simp only [ex, ew, List.getD_cons_zero, List.getD_cons_succ, eP, eR] at hq ⊢
        refine ⟨?_⟩
        rw [vN (r := C') (n := K') (by omega), vN (r := C' * K') (n := K') (by omega), aA (x.2.1 + w.2.1) (by omega) (by omega)]
        rw [<- Int.natCast_mul, <- Int.natCast_mul] at hq
        refine NX ?_
        by_cases h9 : (p9 [(n : Int), (O' : Int), (P : Int), (R : Int)] (x.2.1 + w.2.1) ((C' * K' * K' : Nat) : Int)).2 = 0
        · obtain ⟨f1, f2, f3, f4⟩ := vE h9
          rw [f4] at hq ⊢
          simp only [bne_self_eq_false, Bool.false_eq_true, if_false] at hq ⊢
          obtain ⟨n', m', p', q', e1, e2, e3, e4, _, _, _, _, s5, s6⟩ := aCP f3
          have e1 : n' = n := by omega
          have e2 : m' = O' := by omega
          have e3 : p' = P := by omega
          have e4 : q' = R := by omega
          subst e1 e2 e3 e4
          rw [s6]
          have g : FwdIn n' C' m' K' H V p' q' x.2.2 w.2.2 b.2.2 := ⟨by rw [x6]; exact Nat.mul_assoc _ _ _, w6, by rw [<- Nat.mul_assoc]; exact x5, by omega, ax, aw, ab, b3, by omega, by omega, by omega, by omega, by omega, s5⟩
          rw [vN (r := H) (n := V) (by omega)]
          refine aIM g (by omega) (by omega) (by omega) ?_ ?_
          · rw [Int.toNat_natCast]; simp
          · simp only [Int.toNat_natCast] at hq
            exact hq
        · rw [if_pos (by simpa using h9)]
          rw [if_pos (by simpa using h9)] at hq
          have : (p9 [(n : Int), (O' : Int), (P : Int), (R : Int)] (x.2.1 + w.2.1) ((C' * K' * K' : Nat) : Int)).1 = Z3 := by
            unfold p9 at h9 ⊢
            split
            · rfl
            · split
              · rfl
              · split
                · rfl
                · rename_i g1 g2 g3
                  rw [if_neg g1, if_neg g2, if_neg g3] at h9
                  exact absurd rfl h9
          dsimp only
          rw [this]
          exact hq
end Go.Proofs.YtcfpfefadlnmcaaGreat
namespace Go.Proofs.YtcfpfefadlnmcaaGreat
end Go.Proofs.YtcfpfefadlnmcaaGreat

namespace Go.Proofs.YtcfpfefadlnmcaaGreat
open Go.Mach Go.RowKit
set_option maxRecDepth 100000
set_option linter.unusedVariables false
set_option linter.unusedSimpArgs false
def w4 (n O P Q:Nat) (f:Nat->Nat->Nat->Nat->Int):List Int:=F7 n O P Q fun m o p q=>IntKind.i32.wrap (f m o p q)
theorem JW (n O P Q:Nat) (f:Nat->Nat->Nat->Nat->Int):(w4 n O P Q f).length=n*O*P*Q:=HB _ _ _ _ _
theorem OU {n O P Q m o p q:Nat} {f:Nat->Nat->Nat->Nat->Int} (hm:m<n) (ho:o<O) (hp:p<P) (hq:q<Q):(w4 n O P Q f).getD (ix4 O P Q m o p q) 0=IntKind.i32.wrap (f m o p q):=IK hm ho hp hq
theorem m5 {n O P Q:Nat} {f g:Nat->Nat->Nat->Nat->Int} (h:∀ m o p q,m<n->o<O->p<P->q<Q->f m o p q=g m o p q):w4 n O P Q f=w4 n O P Q g :=
 Z9 fun m o p q hm ho hp hq=>by rw [h m o p q hm ho hp hq]
theorem aHA {n O P Q m0 o0 p0 q0:Nat} {f:Nat->Nat->Nat->Nat->Int} {v:Int} (hm:m0<n) (ho:o0<O) (hp:p0<P) (hq:q0<Q) :
  (w4 n O P Q f).set (ix4 O P Q m0 o0 p0 q0) (IntKind.i32.wrap ((w4 n O P Q f).getD (ix4 O P Q m0 o0 p0 q0) 0+v))=w4 n O P Q fun m o p q=>f m o p q+if m=m0/\o=o0/\p=p0/\q=q0 then v else 0:=by
 refine E5 (by rw [List.length_set]; exact JW _ _ _ _ _) (JW _ _ _ _ _) fun m o p q h1 h2 h3 h4 => ?_
 have hl:=GU hm ho hp hq
 rw [PK (by rw [JW]; exact hl)]
 by_cases e:ix4 O P Q m0 o0 p0 q0=ix4 O P Q m o p q
 ·obtain ⟨e1,e2,e3,e4⟩:=aBF ho hp hq h2 h3 h4 e
  rw [if_pos e,OU h1 h2 h3 h4,if_pos ⟨e1.symm,e2.symm,e3.symm,e4.symm⟩,OU hm ho hp hq,JV,e1,e2,e3,e4]
 ·rw [if_neg e,OU h1 h2 h3 h4,OU h1 h2 h3 h4,if_neg,Int.add_zero]
  rintro ⟨rfl,rfl,rfl,rfl⟩
  exact e rfl
theorem aGD (n O P Q:Nat):List.replicate (n*O*P*Q) (0:Int)=w4 n O P Q fun _ _ _ _=>0:=by
 refine E5 (by simp) (JW _ _ _ _ _) fun m o p q h1 h2 h3 h4 => ?_
 rw [TU (GU h1 h2 h3 h4),OU h1 h2 h3 h4]
 show 0=IntKind.i32.wrap 0
 decide
section
variable {n O C K P Q plane:Nat} {gd xd:List Int}
structure aCJ (n O C K P Q plane:Nat) (gd xd:List Int):Prop where
 hg:gd.length=n*O*P*Q
 hx:xd.length=n*C*plane
 bg:n*O*P*Q<=8192
 bx:n*C*plane<=8192
 bw:O*C*K*K<=8192
 ag:All8 gd
 ax:All8 xd
 hn:1<=n
 hO:1<=O
 hC:1<=C
 hP:1<=P
 hQ:1<=Q
def wtG (O C P Q plane:Nat) (gd xd:List Int) (i m o c a:Nat):Int:=gd.getD ((m*O+o)*P*Q+i) 0*xd.getD ((m*C+c)*plane+a) 0
theorem aIN (h : aCJ n O C K P Q plane gd xd) {f : Nat -> Nat -> Nat -> Nat -> Int} {i m o a r q : Nat} {K0 : List Int -> Prop} (hi : i < P * Q) (hm : m < n) (ho : o < O) (ha : a < plane) (hr : r < K) (hq : q < K)
    (hk : K0 (w4 O C K K fun o' c' r' q' => f o' c' r' q' + if o' = o /\ r' = r /\ q' = q then wtG O C P Q plane gd xd i m o c' a else 0)) :
    vC K O C plane i m o C gd xd P Q a r q K0 (0, w4 O C K K f) := by
  refine ⟨?_⟩
  have eg : ((0 : Int), w4 O C K K f) = (fun j : Nat => ((j : Int), w4 O C K K fun o' c' r' q' => f o' c' r' q' + if o' = o /\ c' < j /\ r' = r /\ q' = q then wtG O C P Q plane gd xd i m o c' a else 0)) 0 := by
    dsimp only
    congr 1
    refine m5 fun o' c' r' q' _ _ _ _ => ?_
    rw [if_neg (by omega)]; omega
  rw [eg]
  refine Loop.range (B := nY K O C plane i m o C gd xd P Q a r q K0) (f := fun j : Nat => ((j : Int), w4 O C K K fun o' c' r' q' => f o' c' r' q' + if o' = o /\ c' < j /\ r' = r /\ q' = q then wtG O C P Q plane gd xd i m o c' a else 0)) C (fun _ => True) trivial ?_ ?_
  · intro c hc _ X hX
    have hX := hX trivial
    have k1 := h.bg; have k2 := h.bx; have k3 := h.bw
    have i1 := GU (P := K) (Q := K) ho hc hr hq
    have i2 : (m * C + c) * plane + a < n * C * plane := jM (jM hm hc) ha
    have i3 : (m * O + o) * (P * Q) + i < n * O * (P * Q) := jM (jM hm ho) hi
    rw [<- Nat.mul_assoc, <- Nat.mul_assoc] at i3
    have j1 : o * C + c <= (o * C + c) * K := Nat.le_mul_of_pos_right _ (by omega)
    have j2 : (o * C + c) * K + r <= ((o * C + c) * K + r) * K := Nat.le_mul_of_pos_right _ (by omega)
    have j3 : m * C + c <= (m * C + c) * plane := Nat.le_mul_of_pos_right _ (by omega)
    have j4 : m * O + o <= (m * O + o) * P := Nat.le_mul_of_pos_right _ h.hP
    have j5 : (m * O + o) * P <= (m * O + o) * P * Q := Nat.le_mul_of_pos_right _ h.hQ
    unfold ix4 at i1
    have hc8 : c <= 8192 := by omega
    unfold nY
    rw [if_pos (decide_eq_true (show (c : Int) < (C : Int) by omega))]
    dsimp only at hX ⊢
    rw [ix (r := o) (n := C) (i := c) (by omega), ix (r := o * C + c) (n := K) (i := r) (by omega), ix (r := (o * C + c) * K + r) (n := K) (i := q) (by omega)]
    rw [ix (r := m) (n := O) (i := o) (by omega), vN (r := m * O + o) (n := P) (by omega), ix (r := (m * O + o) * P) (n := Q) (i := i) (by omega)]
    rw [ix (r := m) (n := C) (i := c) (by omega), ix (r := m * C + c) (n := plane) (i := a) (by omega)]
    rw [JW]
    refine ⟨by omega, by rw [h.hg]; omega, by rw [h.hx]; omega, by omega, ?_⟩
    simp only [Int.toNat_natCast]
    rw [aA ((c : Int) + 1) (by omega) (by omega), JL]
    have g8 := h.ag.at_ ((m * O + o) * P * Q + i)
    have x8 := h.ax.at_ ((m * C + c) * plane + a)
    rw [vG (gd.getD ((m * O + o) * P * Q + i) 0) (by omega) (by omega), vG (xd.getD ((m * C + c) * plane + a) 0) (by omega) (by omega)]
    have es := aHA (n := O) (O := C) (P := K) (Q := K) (m0 := o) (o0 := c) (p0 := r) (q0 := q) (f := fun o' c' r' q' => f o' c' r' q' + if o' = o /\ c' < c /\ r' = r /\ q' = q then wtG O C P Q plane gd xd i m o c' a else 0) (v := gd.getD ((m * O + o) * P * Q + i) 0 * xd.getD ((m * C + c) * plane + a) 0) ho hc hr hq
    unfold ix4 at es
    rw [es]
    have ef : (w4 O C K K fun o' c' r' q' => (f o' c' r' q' + if o' = o /\ c' < c /\ r' = r /\ q' = q then wtG O C P Q plane gd xd i m o c' a else 0) + if o' = o /\ c' = c /\ r' = r /\ q' = q then gd.getD ((m * O + o) * P * Q + i) 0 * xd.getD ((m * C + c) * plane + a) 0 else 0) = w4 O C K K fun o' c' r' q' => f o' c' r' q' + if o' = o /\ c' < c + 1 /\ r' = r /\ q' = q then wtG O C P Q plane gd xd i m o c' a else 0 := by
      refine m5 fun o' c' r' q' _ _ _ _ => ?_
      rw [Int.add_assoc]
      congr 1
      by_cases g : o' = o /\ r' = r /\ q' = q
      · obtain ⟨g1, g2, g3⟩ := g
        subst g1 g2 g3
        by_cases g4 : c' = c
        · subst g4
          rw [if_neg (by omega), if_pos ⟨rfl, rfl, rfl, rfl⟩, if_pos ⟨rfl, by omega, rfl, rfl⟩]
          unfold wtG; omega
        · rw [if_neg (c := _ /\ c' = c /\ _) (by omega)]
          by_cases g5 : c' < c
          · rw [if_pos ⟨rfl, g5, rfl, rfl⟩, if_pos ⟨rfl, by omega, rfl, rfl⟩]; omega
          · rw [if_neg (by omega), if_neg (by omega)]; omega
      · rw [if_neg (fun hh => g ⟨hh.1, hh.2.2⟩), if_neg (fun hh => g ⟨hh.1, hh.2.2⟩), if_neg (fun hh => g ⟨hh.1, hh.2.2⟩)]; omega
    rw [ef]
    exact hX
  · intro _ X
    unfold nY
    rw [if_neg (by simp)]
    have : (w4 O C K K fun o' c' r' q' => f o' c' r' q' + if o' = o /\ c' < C /\ r' = r /\ q' = q then wtG O C P Q plane gd xd i m o c' a else 0) = w4 O C K K fun o' c' r' q' => f o' c' r' q' + if o' = o /\ r' = r /\ q' = q then wtG O C P Q plane gd xd i m o c' a else 0 := by
      refine m5 fun o' c' r' q' _ h2 _ _ => ?_
      congr 1
      by_cases g : o' = o /\ r' = r /\ q' = q
      · rw [if_pos g, if_pos ⟨g.1, h2, g.2⟩]
      · rw [if_neg g, if_neg (fun hh => g ⟨hh.1, hh.2.2⟩)]
    dsimp only
    rw [this]
    exact hk
theorem aI1 (h : aCJ n O C K P Q plane gd xd) {f : Nat -> Nat -> Nat -> Nat -> Int} {i m a r q : Nat} {K0 : List Int -> Prop} (hi : i < P * Q) (hm : m < n) (ha : a < plane) (hr : r < K) (hq : q < K)
    (hk : K0 (w4 O C K K fun o' c' r' q' => f o' c' r' q' + if r' = r /\ q' = q then wtG O C P Q plane gd xd i m o' c' a else 0)) :
    vD K O C plane i m O gd xd P Q a r q K0 (0, w4 O C K K f) := by
  refine ⟨?_⟩
  have hO : O <= 8192 := by
    have := h.bg
    have := h.hn; have := h.hP; have := h.hQ
    have : O <= n * O := Nat.le_mul_of_pos_left _ (by omega)
    have : n * O <= n * O * P := Nat.le_mul_of_pos_right _ (by omega)
    have : n * O * P <= n * O * P * Q := Nat.le_mul_of_pos_right _ (by omega)
    omega
  have eg : ((0 : Int), w4 O C K K f) = (fun j : Nat => ((j : Int), w4 O C K K fun o' c' r' q' => f o' c' r' q' + if o' < j /\ r' = r /\ q' = q then wtG O C P Q plane gd xd i m o' c' a else 0)) 0 := by
    dsimp only
    congr 1
    refine m5 fun o' c' r' q' _ _ _ _ => ?_
    rw [if_neg (by omega)]; omega
  rw [eg]
  refine Loop.range (B := nQ K O C plane i m O gd xd P Q a r q K0) (f := fun j : Nat => ((j : Int), w4 O C K K fun o' c' r' q' => f o' c' r' q' + if o' < j /\ r' = r /\ q' = q then wtG O C P Q plane gd xd i m o' c' a else 0)) O (fun _ => True) trivial ?_ ?_
  · intro o ho _ X hX
    have hX := hX trivial
    unfold nQ
    rw [if_pos (decide_eq_true (show (o : Int) < (O : Int) by omega))]
    dsimp only at hX ⊢
    refine aIN h hi hm ho ha hr hq ?_
    rw [aA ((o : Int) + 1) (by omega) (by omega)]
    have ef : (w4 O C K K fun o' c' r' q' => (f o' c' r' q' + if o' < o /\ r' = r /\ q' = q then wtG O C P Q plane gd xd i m o' c' a else 0) + if o' = o /\ r' = r /\ q' = q then wtG O C P Q plane gd xd i m o c' a else 0) = w4 O C K K fun o' c' r' q' => f o' c' r' q' + if o' < o + 1 /\ r' = r /\ q' = q then wtG O C P Q plane gd xd i m o' c' a else 0 := by
      refine m5 fun o' c' r' q' _ _ _ _ => ?_
      rw [Int.add_assoc]
      congr 1
      by_cases g : r' = r /\ q' = q
      · by_cases g4 : o' = o
        · subst g4
          rw [if_neg (by omega), if_pos ⟨rfl, g⟩, if_pos ⟨by omega, g⟩]; omega
        · rw [if_neg (c := o' = o /\ _) (by omega)]
          by_cases g5 : o' < o
          · rw [if_pos ⟨g5, g⟩, if_pos ⟨by omega, g⟩]; omega
          · rw [if_neg (by omega), if_neg (by omega)]; omega
      · rw [if_neg (fun hh => g hh.2), if_neg (fun hh => g hh.2), if_neg (fun hh => g hh.2)]; omega
    rw [ef]
    exact hX
  · intro _ X
    unfold nQ
    rw [if_neg (by simp)]
    have : (w4 O C K K fun o' c' r' q' => f o' c' r' q' + if o' < O /\ r' = r /\ q' = q then wtG O C P Q plane gd xd i m o' c' a else 0) = w4 O C K K fun o' c' r' q' => f o' c' r' q' + if r' = r /\ q' = q then wtG O C P Q plane gd xd i m o' c' a else 0 := by
      refine m5 fun o' c' r' q' h2 _ _ _ => ?_
      congr 1
      by_cases g : r' = r /\ q' = q
      · rw [if_pos g, if_pos ⟨h2, g⟩]
      · rw [if_neg g, if_neg (fun hh => g hh.2)]
    dsimp only
    rw [this]
    exact hk
def wtM (n O C P Q plane:Nat) (gd xd:List Int) (i o c a:Nat):Int:=bR (fun m=>wtG O C P Q plane gd xd i m o c a) n
theorem aI4 (h:aCJ n O C K P Q plane gd xd) {f:Nat->Nat->Nat->Nat->Int} {i a r q:Nat} {K0:List Int->Prop} (hi:i<P*Q) (ha:a<plane) (hr:r<K) (hq:q<K)
  (hk:K0 (w4 O C K K fun o' c' r' q'=>f o' c' r' q'+if r'=r/\q'=q then wtM n O C P Q plane gd xd i o' c' a else 0)) :
  vA K O C plane i n gd xd P Q a r q K0 (0,w4 O C K K f):=by
 refine ⟨?_⟩
 have hn:n<=8192:=by
  have:=h.bg
  have:=h.hO; have:=h.hP; have:=h.hQ
  have:n<=n*O:=Nat.le_mul_of_pos_right _ (by omega)
  have:n*O<=n*O*P:=Nat.le_mul_of_pos_right _ (by omega)
  have:n*O*P<=n*O*P*Q:=Nat.le_mul_of_pos_right _ (by omega)
  omega
 have eg:((0:Int),w4 O C K K f)=(fun j:Nat=>((j:Int),w4 O C K K fun o' c' r' q'=>f o' c' r' q'+if r'=r/\q'=q then bR (fun m=>wtG O C P Q plane gd xd i m o' c' a) j else 0)) 0:=by
  dsimp only
  congr 1
  refine m5 fun o' c' r' q' _ _ _ _ => ?_
  simp [bR]
 rw [eg]
 refine Loop.range (B:=nN K O C plane i n gd xd P Q a r q K0) (f:=fun j:Nat=>((j:Int),w4 O C K K fun o' c' r' q'=>f o' c' r' q'+if r'=r/\q'=q then bR (fun m=>wtG O C P Q plane gd xd i m o' c' a) j else 0)) n (fun _=>True) trivial ?_ ?_
 ·intro m hm _ X hX
  have hX:=hX trivial
  unfold nN
  rw [if_pos (decide_eq_true (show (m:Int)<(n:Int) by omega))]
  dsimp only at hX ⊢
  refine aI1 h hi hm ha hr hq ?_
  rw [aA ((m:Int)+1) (by omega) (by omega)]
  have ef:(w4 O C K K fun o' c' r' q'=>(f o' c' r' q'+if r'=r/\q'=q then bR (fun m=>wtG O C P Q plane gd xd i m o' c' a) m else 0)+if r'=r/\q'=q then wtG O C P Q plane gd xd i m o' c' a else 0)=w4 O C K K fun o' c' r' q'=>f o' c' r' q'+if r'=r/\q'=q then bR (fun m=>wtG O C P Q plane gd xd i m o' c' a) (m+1) else 0:=by
   refine m5 fun o' c' r' q' _ _ _ _ => ?_
   rw [Int.add_assoc]
   congr 1
   by_cases g:r'=r/\q'=q
   ·rw [if_pos g,if_pos g,if_pos g]; rfl
   ·rw [if_neg g,if_neg g,if_neg g]; rfl
  rw [ef]
  exact hX
 ·intro _ X
  unfold nN
  rw [if_neg (by simp)]
  exact hk
def wtZ (n O C P Q plane:Nat) (gd xd:List Int) (i o c r q:Nat) (z:Int×Int×Int):Int:=if z.2.1=(r:Int)/\z.2.2=(q:Int) then wtM n O C P Q plane gd xd i o c z.1.toNat else 0
theorem aIG (h:aCJ n O C K P Q plane gd xd) {f:Nat->Nat->Nat->Nat->Int} {i:Nat} {l:List (Int×Int×Int)} {K0:List Int->Prop} (hi:i<P*Q) (hl:InP K plane l) (hll:l.length<=1000000)
  (hk:K0 (w4 O C K K fun o' c' r' q'=>f o' c' r' q'+nF l (wtZ n O C P Q plane gd xd i o' c' r' q'))) :
  vP K n O C plane i (l.length:Int) gd xd P Q l K0 (0,w4 O C K K f):=by
 refine ⟨?_⟩
 have eg:((0:Int),w4 O C K K f)=(fun j:Nat=>((j:Int),w4 O C K K fun o' c' r' q'=>f o' c' r' q'+bR (fun t=>wtZ n O C P Q plane gd xd i o' c' r' q' (l.getD t (0,0,0))) j)) 0:=by
  dsimp only
  congr 1
  refine m5 fun o' c' r' q' _ _ _ _ => ?_
  simp [bR]
 rw [eg]
 refine Loop.range (B:=nT K n O C plane i (l.length:Int) gd xd P Q l K0) (f:=fun j:Nat=>((j:Int),w4 O C K K fun o' c' r' q'=>f o' c' r' q'+bR (fun t=>wtZ n O C P Q plane gd xd i o' c' r' q' (l.getD t (0,0,0))) j)) l.length (fun _=>True) trivial ?_ ?_
 ·intro t ht _ X hX
  have hX:=hX trivial
  unfold nT
  rw [if_pos (decide_eq_true (show (t:Int)<(l.length:Int) by omega))]
  dsimp only at hX ⊢
  refine ⟨by omega,?_⟩
  rw [Int.toNat_natCast]
  obtain ⟨a,r,q,ez,ha,hr,hq⟩:=hl (l.getD t (0,0,0)) (by rw [List.getD_eq_getElem?_getD,List.getElem?_eq_getElem ht]; exact List.getElem_mem ht)
  simp only [bR,ez] at hX
  rw [ez]
  refine aI4 h hi ha hr hq ?_
  rw [aA ((t:Int)+1) (by omega) (by omega)]
  have ef:(w4 O C K K fun o' c' r' q'=>(f o' c' r' q'+bR (fun t=>wtZ n O C P Q plane gd xd i o' c' r' q' (l.getD t (0,0,0))) t)+if r'=r/\q'=q then wtM n O C P Q plane gd xd i o' c' a else 0)=w4 O C K K fun o' c' r' q'=>f o' c' r' q'+(bR (fun t=>wtZ n O C P Q plane gd xd i o' c' r' q' (l.getD t (0,0,0))) t+wtZ n O C P Q plane gd xd i o' c' r' q' (↑a,↑r,↑q)):=by
   refine m5 fun o' c' r' q' _ _ _ _ => ?_
   rw [Int.add_assoc]
   congr 2
   unfold wtZ
   dsimp only
   rw [Int.toNat_natCast]
   by_cases g:r'=r/\q'=q
   ·rw [if_pos g,if_pos (by omega)]
   ·rw [if_neg g,if_neg (by omega)]
  rw [ef]
  exact hX
 ·intro _ X
  unfold nT
  rw [if_neg (by simp)]
  dsimp only
  have:(w4 O C K K fun o' c' r' q'=>f o' c' r' q'+bR (fun t=>wtZ n O C P Q plane gd xd i o' c' r' q' (l.getD t (0,0,0))) l.length)=w4 O C K K fun o' c' r' q'=>f o' c' r' q'+nF l (wtZ n O C P Q plane gd xd i o' c' r' q') :=
   m5 fun o' c' r' q' _ _ _ _=>by rw [EZ l _ (0,0,0)]
  rw [this]
  exact hk
end
def WK (n O C K P Q H V:Nat) (s p:Int) (gd xd:List Int) (o c r q:Nat):Int :=
 bR (fun i=>nF (eO H V ((i / Q:Nat):Int) ((i%Q:Nat):Int) K s p) (wtZ n O C P Q (H*V) gd xd i o c r q)) (P*Q)
theorem aI2 {n O C K P Q H V:Nat} {gd xd:List Int} {s p:Int} (h:aCJ n O C K P Q (H*V) gd xd) (hK:K<=5) {K0:List Int->Prop}
  (hk:K0 (w4 O C K K (WK n O C K P Q H V s p gd xd))) :
  vT K n O C ((H*V:Nat):Int) ((P*Q:Nat):Int) gd xd H V K s p P Q K0 (0,w4 O C K K fun _ _ _ _=>0):=by
 have hPQ:P*Q<=8192:=by
  have:=h.bg
  have:=h.hn; have:=h.hO
  have e:n*O*P*Q=n*O*(P*Q):=Nat.mul_assoc _ _ _
  have:P*Q<=n*O*(P*Q):=Nat.le_mul_of_pos_left _ (Nat.mul_pos (by omega) (by omega))
  omega
 have hQ:=h.hQ
 have hKK:K*K<=5*5:=Nat.mul_le_mul hK hK
 refine ⟨?_⟩
 refine Loop.range (B:=nZ K n O C ((H*V:Nat):Int) ((P*Q:Nat):Int) gd xd H V K s p P Q K0) (f:=fun j:Nat=>((j:Int),w4 O C K K fun o c r q=>bR (fun i=>nF (eO H V ((i / Q:Nat):Int) ((i%Q:Nat):Int) K s p) (wtZ n O C P Q (H*V) gd xd i o c r q)) j)) (P*Q) (fun _=>True) trivial ?_ ?_
 ·intro i hi _ X hX
  have hX:=hX trivial
  unfold nZ
  rw [if_pos (decide_eq_true (show (i:Int)<((P*Q:Nat):Int) by omega))]
  dsimp only at hX ⊢
  obtain ⟨c1,c2,c3⟩:=yL hi
  have l1:i / Q<=i:=Nat.div_le_self _ _
  have et:IntKind.i64.wrap ((i:Int).tdiv (Q:Int))=((i / Q:Nat):Int):=by
   obtain ⟨y,ey⟩:∃ y,i / Q=y:=⟨_,rfl⟩
   rw [Int.tdiv_eq_ediv_of_nonneg (by omega),<- Int.natCast_ediv,ey]
   rw [ey] at l1
   rw [aA _ (by omega) (by omega)]
  have em:(i:Int).tmod (Q:Int)=((i%Q:Nat):Int):=by
   rw [Int.tmod_eq_emod_of_nonneg (by omega),<- Int.natCast_emod]
  rw [et,em]
  refine ⟨by omega,by omega,⟨?_⟩⟩
  refine DC ?_
  dsimp only
  have hwl:=DJ (rows:=H) (cols:=V) (r:=((i / Q:Nat):Int)) (c:=((i%Q:Nat):Int)) (s:=s) (p:=p) (K:=K)
  refine aIG h hi GO (by omega) ?_
  rw [aA ((i:Int)+1) (by omega) (by omega)]
  exact hX
 ·intro _ X
  unfold nZ
  rw [if_neg (by simp)]
  exact hk
def ZG (g x:T3) (k s p:Int):Bool :=
 ((!(decide (0<aL (x.1.getD 2 0) k s p)&&decide (0<aL (x.1.getD 3 0) k s p))||(x.1.getD 0 0 != g.1.getD 0 0))||(g.1.getD 2 0 != aL (x.1.getD 2 0) k s p))||(g.1.getD 3 0 != aL (x.1.getD 3 0) k s p)
def JP (g x:T3) (k:Int):List Int:=[g.1.getD 1 0,x.1.getD 1 0,k,k]
def wtN (g:T3):Int:=g.1.getD 0 0*g.1.getD 2 0*g.1.getD 3 0
def wtE (g x:T3) (k s p:Int):Int :=
 if (jE [g,x] != 0)=true then jE [g,x]
 else if ZG g x k s p=true then 2
 else (p9 (JP g x k) (g.2.1+x.2.1) (wtN g)).2
def PR (g x : T3) (k s p : Int) : List Int :=
  w4 (g.1.getD 1 0).toNat (x.1.getD 1 0).toNat k.toNat k.toNat
    (WK (g.1.getD 0 0).toNat (g.1.getD 1 0).toNat (x.1.getD 1 0).toNat k.toNat (g.1.getD 2 0).toNat (g.1.getD 3 0).toNat (x.1.getD 2 0).toNat (x.1.getD 3 0).toNat s p g.2.2 x.2.2)
def mL (g x:T3) (k s p:Int):T3×Int:=if (wtE g x k s p != 0)=true then (Z3,wtE g x k s p) else ((JP g x k,(g.2.1+x.2.1,PR g x k s p)),0)
theorem J1 {d : List Int} {e n : Int} (h : (p9 d e n).2 ≠ 0) : (p9 d e n).1 = Z3 := by
  unfold p9 at h ⊢
  split
  · rfl
  · split
    · rfl
    · split
      · rfl
      · rename_i g1 g2 g3
        rw [if_neg g1, if_neg g2, if_neg g3] at h
        exact absurd rfl h
theorem aDA {g x : T3} {k s p : Int} {Q : T3 × Int -> Prop} (ag : All8 g.2.2) (ax : All8 x.2.2) (hq : Q (mL g x k s p)) : C8 g x k s p Q := by
  refine ⟨?_⟩
  unfold mL wtE at hq
  refine UT (by simp) ?_
  show (if (jE [g, x] != 0) = true then _ else _)
  by_cases h2 : (jE [g, x] != 0) = true
  · rw [if_pos h2]
    simp only [h2, if_true] at hq
    exact hq
  · rw [if_neg h2]
    simp only [h2, Bool.false_eq_true, if_false] at hq
    have hz : jE [g, x] = 0 := by simpa using h2
    have hzz := u6 hz
    obtain ⟨mg, lg⟩ := hzz g (by simp)
    obtain ⟨mx, lx⟩ := hzz x (by simp)
    obtain ⟨n, O, P, R, eg, g1, g2, g3, g4, g5, g6, g7, g8⟩ := UA mg lg
    obtain ⟨n', C, H, V, ex, x1, x2, x3, x4, x5, x6, x7, x8⟩ := UA mx lx
    refine ⟨by omega, by omega, by omega, by omega, by omega, aAF ?_⟩
    refine m9 (b := !(decide (0 < aL (x.1.getD 2 0) k s p) && decide (0 < aL (x.1.getD 3 0) k s p))) (c := x.1.getD 0 0 != g.1.getD 0 0) (fun _ P hp => ⟨by omega, hp⟩) (fun v3 e3 => ?_) rfl
    refine m9 (c := g.1.getD 2 0 != aL (x.1.getD 2 0) k s p) (fun _ P hp => ⟨by omega, hp⟩) (fun v5 e5 => ?_) rfl
    refine m9 (c := g.1.getD 3 0 != aL (x.1.getD 3 0) k s p) (fun _ P hp => ⟨by omega, hp⟩) (fun v7 e7 => ?_) rfl
    have hv : v7 = ZG g x k s p := by rw [e7, e5, e3]; rfl
    rw [<- hv] at hq
    cases v7 with
    | true => exact hq
    | false =>
      rw [if_neg (by simp)]
      simp only [Bool.false_eq_true, if_false] at hq
      have hv2 := hv.symm
      unfold ZG at hv2
      simp only [Bool.or_eq_false_iff, TM, Bool.not_eq_false', Bool.and_eq_true, decide_eq_true_eq] at hv2
      obtain ⟨⟨⟨⟨o1, o2⟩, c1⟩, c2⟩, c3⟩ := hv2
      simp only [eg, ex, List.getD_cons_zero, List.getD_cons_succ] at o1 o2 c1 c2 c3
      have en : n' = n := by omega
      subst en
      obtain ⟨a1, a2, a3, a4, a5, a6⟩ := nM o1
      obtain ⟨d1, _⟩ := nM o2
      obtain ⟨K, rfl⟩ := Int.eq_ofNat_of_zero_le (show 0 <= k by omega)
      unfold wtN JP PR at hq
      simp only [eg, ex, List.getD_cons_zero, List.getD_cons_succ, <- c2, <- c3] at hq ⊢
      have k0 : n' * O * P * R <= 8192 := g5
      have k1 : n' <= n' * O := Nat.le_mul_of_pos_right _ (by omega)
      have k2 : n' * P * R <= 8192 := by
        have e1 : n' * P * R <= n' * O * P * R := Nat.mul_le_mul_right _ (Nat.mul_le_mul_right _ k1)
        omega
      have k3 : n' * P <= n' * P * R := Nat.le_mul_of_pos_right _ (by omega)
      have k4 : H * V <= 16 * 16 := Nat.mul_le_mul (by omega) (by omega)
      have k5 : P * R <= n' * (P * R) := Nat.le_mul_of_pos_left _ (by omega)
      rw [<- Nat.mul_assoc] at k5
      rw [vN (r := n') (n := P) (by omega), vN (r := n' * P) (n := R) (by omega), aA (g.2.1 + x.2.1) (by omega) (by omega)]
      rw [<- Int.natCast_mul, <- Int.natCast_mul] at hq
      refine NX ⟨?_⟩
      by_cases h9 : (p9 [(O : Int), (C : Int), (K : Int), (K : Int)] (g.2.1 + x.2.1) ((n' * P * R : Nat) : Int)).2 = 0
      · obtain ⟨f1, f2, f3, f4⟩ := vE h9
        rw [f4] at hq ⊢
        simp only [bne_self_eq_false, Bool.false_eq_true, if_false] at hq ⊢
        obtain ⟨q1, q2, q3, q4, e1, e2, e3, e4, _, _, _, _, s5, s6⟩ := aCP f3
        have r1 : q1 = O := by omega
        have r2 : q2 = C := by omega
        have r3 : q3 = K := by omega
        have r4 : q4 = K := by omega
        subst r1 r2 r3 r4
        rw [s6]
        have w : aCJ n' q1 q2 q4 P R (H * V) g.2.2 x.2.2 := ⟨by omega, by rw [x6]; exact Nat.mul_assoc _ _ _, k0, by rw [<- Nat.mul_assoc]; exact x5, s5, ag, ax, by omega, by omega, by omega, by omega, by omega⟩
        rw [vN (r := H) (n := V) (by omega), vN (r := P) (n := R) (by omega), Int.toNat_natCast, aGD]
        refine aI2 w (by omega) ?_
        simp only [Int.toNat_natCast] at hq
        exact hq
      · rw [if_pos (by simpa using h9)]
        rw [if_pos (by simpa using h9)] at hq
        rw [J1 h9]
        exact hq
open Go.Mach Go.RowKit
set_option maxRecDepth 100000
set_option linter.unusedVariables false
set_option linter.unusedSimpArgs false
theorem aFa {n i:Nat} {f:Nat->Int} {v:Int} (h:i<n):(tab n f).set i v=tab n fun j=>if j=i then v else f j:=by
 refine aA1 (by simp) fun j hj => ?_
 rw [PK (by simpa using h)]
 by_cases e:i=j
 ·rw [if_pos e,if_pos e.symm]
 ·rw [if_neg e,if_neg (fun hh=>e hh.symm),JA _ hj]
def IW (plane O:Nat) (gd:List Int) (o j:Nat):Int:=bR (fun i=>if i / plane%O=o then gd.getD i 0 else 0) j
theorem aI6 {plane O : Nat} {gd : List Int} {K0 : List Int -> Prop} (h8 : All8 gd) (hl : gd.length <= 8192) (hp : 1 <= plane) (hO : 1 <= O) (hO2 : O <= 8192) (hp2 : plane <= 8192)
    (hk : K0 (tab O fun o => IntKind.i32.wrap (IW plane O gd o gd.length))) : BC O plane gd (gd.length : Int) K0 (0, List.replicate O 0) := by
  refine ⟨?_⟩
  have eg : ((0 : Int), List.replicate O (0 : Int)) = (fun j : Nat => ((j : Int), tab O fun o => IntKind.i32.wrap (IW plane O gd o j))) 0 := by
    dsimp only
    congr 1
    refine aA1 (by simp) fun i hi => ?_
    rw [TU hi]
    show 0 = IntKind.i32.wrap 0
    decide
  rw [eg]
  refine Loop.range (B := qO O plane gd (gd.length : Int) K0) (f := fun j : Nat => ((j : Int), tab O fun o => IntKind.i32.wrap (IW plane O gd o j))) gd.length (fun _ => True) trivial ?_ ?_
  · intro i hi _ X hX
    have hX := hX trivial
    unfold qO
    rw [if_pos (decide_eq_true (show (i : Int) < (gd.length : Int) by omega))]
    dsimp only at hX ⊢
    have l1 : i / plane <= i := Nat.div_le_self _ _
    obtain ⟨y, ey⟩ : ∃ y, i / plane = y := ⟨_, rfl⟩
    have et : IntKind.i64.wrap ((i : Int).tdiv (plane : Int)) = (y : Int) := by
      rw [Int.tdiv_eq_ediv_of_nonneg (by omega), <- Int.natCast_ediv, ey]
      rw [ey] at l1
      rw [aA _ (by omega) (by omega)]
    have hm := Nat.mod_lt y (show 0 < O by omega)
    obtain ⟨o, eo⟩ : ∃ o, y % O = o := ⟨_, rfl⟩
    have em : (y : Int).tmod (O : Int) = (o : Int) := by
      rw [Int.tmod_eq_emod_of_nonneg (by omega), <- Int.natCast_emod, eo]
    rw [et, em, V8]
    refine ⟨by omega, by omega, by omega, by omega, by omega, ?_⟩
    rw [Int.toNat_natCast, Int.toNat_natCast, JA _ (by omega), aFa (by omega), aA ((i : Int) + 1) (by omega) (by omega), JV, JL]
    have : (tab O fun j => if j = o then IntKind.i32.wrap (IW plane O gd o i + gd.getD i 0) else IntKind.i32.wrap (IW plane O gd j i)) = tab O fun o => IntKind.i32.wrap (IW plane O gd o (i + 1)) := by
      refine aC9 fun j hj => ?_
      unfold IW
      simp only [bR]
      by_cases e : j = o
      · subst e
        rw [if_pos rfl, if_pos (by rw [ey, eo])]
      · rw [if_neg e, if_neg (by rw [ey, eo]; exact fun hh => e hh.symm), Int.add_zero]
    rw [this]
    exact hX
  · intro _ X
    unfold qO
    rw [if_neg (by simp)]
    exact hk
def bsE (g:T3):Int:=if (jE [g] != 0)=true then jE [g] else (p9 [g.1.getD 1 0] g.2.1 (g.1.getD 0 0*(g.1.getD 2 0*g.1.getD 3 0))).2
def RE (g:T3):List Int:=tab (g.1.getD 1 0).toNat fun o=>IntKind.i32.wrap (IW (g.1.getD 2 0*g.1.getD 3 0).toNat (g.1.getD 1 0).toNat g.2.2 o g.2.2.length)
def B6 (g:T3):T3×Int:=if (bsE g != 0)=true then (Z3,bsE g) else (([g.1.getD 1 0],(g.2.1,RE g)),0)
theorem aFz {g:T3} {Q:T3×Int->Prop} (ag:All8 g.2.2) (hq:Q (B6 g)):KB g Q:=by
 refine ⟨?_⟩
 unfold B6 bsE at hq
 refine UT (by simp) ?_
 show (if (jE [g] != 0)=true then _ else _)
 by_cases h2:(jE [g] != 0)=true
 ·rw [if_pos h2]
  simp only [h2,if_true] at hq
  exact hq
 ·rw [if_neg h2]
  simp only [h2,Bool.false_eq_true,if_false] at hq
  have hz:jE [g]=0:=by simpa using h2
  obtain ⟨mg,lg⟩:=u6 hz g (by simp)
  obtain ⟨n,O,P,R,eg,g1,g2,g3,g4,g5,g6,g7,g8⟩:=UA mg lg
  refine ⟨by omega,by omega,by omega,by omega,?_⟩
  unfold RE at hq
  simp only [eg,List.getD_cons_zero,List.getD_cons_succ] at hq ⊢
  have k1:P*R<=n*O*(P*R):=Nat.le_mul_of_pos_left _ (Nat.mul_pos (by omega) (by omega))
  rw [<- Nat.mul_assoc] at k1
  have k2:n<=n*O:=Nat.le_mul_of_pos_right _ (by omega)
  have k3:n*P*R<=n*O*P*R:=Nat.mul_le_mul_right _ (Nat.mul_le_mul_right _ k2)
  have k4:O<=n*O:=Nat.le_mul_of_pos_left _ (by omega)
  have k5:n*O<=n*O*P:=Nat.le_mul_of_pos_right _ (by omega)
  have k6:n*O*P<=n*O*P*R:=Nat.le_mul_of_pos_right _ (by omega)
  have k7:n*P*R=n*(P*R):=Nat.mul_assoc _ _ _
  rw [vN (r:=P) (n:=R) (by omega),vN (r:=n) (n:=P*R) (by omega)]
  rw [<- Int.natCast_mul,<- Int.natCast_mul] at hq
  refine NX ?_
  by_cases h9:(p9 [(O:Int)] g.2.1 ((n*(P*R):Nat):Int)).2=0
  ·obtain ⟨f1,f2,f3,f4⟩:=vE h9
   rw [f4] at hq ⊢
   simp only [bne_self_eq_false,Bool.false_eq_true,if_false] at hq ⊢
   rw [(aEz f3).2.2,Int.toNat_natCast]
   refine aI6 ag (by omega) (Nat.mul_pos (by omega) (by omega)) (by omega) (by omega) (by omega) ?_
   simp only [Int.toNat_natCast] at hq
   exact hq
  ·rw [if_pos (by simpa using h9)]
   rw [if_pos (by simpa using h9)] at hq
   rw [J1 h9]
   exact hq
def DE (s p r c k Q:Int) (y x:Nat):List (Int×Int×Int) :=
 if (inP (r-(s*y-p)) 0 (k-1)&&inP (c-(s*x-p)) 0 (k-1))=true then [((y:Int)*Q+x,r-(s*y-p),c-(s*x-p))] else []
def pI (s p r c k Q:Int) (y m:Nat):List (Int×Int×Int):=(List.range m).flatMap (DE s p r c k Q y)
def MP (s p r c k Q:Int) (P m:Nat):List (Int×Int×Int):=(List.range P).flatMap fun y=>pI s p r c k Q y m
theorem G9 {s p r c k Q:Int} {y m:Nat}:pI s p r c k Q y (m+1)=pI s p r c k Q y m++DE s p r c k Q y m:=by
 unfold pI; rw [List.range_succ,List.flatMap_append]; simp
theorem N9 {s p r c k Q:Int} {P m:Nat}:MP s p r c k Q (P+1) m=MP s p r c k Q P m++pI s p r c k Q P m:=by
 unfold MP; rw [List.range_succ,List.flatMap_append]; simp
theorem UN {s p r c k Q:Int} {y x:Nat}:(DE s p r c k Q y x).length<=1:=by
 unfold DE; split <;> simp
theorem EM {s p r c k Q : Int} {y : Nat} : ∀ m, (pI s p r c k Q y m).length <= m
  | 0 => by simp [pI]
  | m + 1 => by
    rw [G9, List.length_append]
    have := EM (s := s) (p := p) (r := r) (c := c) (k := k) (Q := Q) (y := y) m
    have := UN (s := s) (p := p) (r := r) (c := c) (k := k) (Q := Q) (y := y) (x := m)
    omega
theorem KT {s p r c k Q : Int} {m : Nat} : ∀ P, (MP s p r c k Q P m).length <= P * m
  | 0 => by simp [MP]
  | P + 1 => by
    rw [N9, List.length_append, Nat.succ_mul]
    have := KT (s := s) (p := p) (r := r) (c := c) (k := k) (Q := Q) (m := m) P
    have := EM (s := s) (p := p) (r := r) (c := c) (k := k) (Q := Q) (y := P) m
    omega
theorem ZA {α : Type} {n k : Nat} {f : Nat -> List α} (hk : k < n) (h : ∀ i, i < n -> i ≠ k -> f i = []) : (List.range n).flatMap f = f k := by
  induction n with
  | zero => omega
  | succ n ih =>
    rw [List.range_succ, List.flatMap_append]
    simp only [List.flatMap_cons, List.flatMap_nil, List.append_nil]
    by_cases e : k = n
    · subst e
      have : (List.range k).flatMap f = [] := by
        rw [List.flatMap_eq_nil_iff]
        intro i hi
        have := List.mem_range.1 hi
        exact h i (by omega) (by omega)
      rw [this, List.nil_append]
    · rw [ih (by omega) fun i hi => h i (by omega), h n (by omega) (by omega), List.append_nil]
theorem KM {α:Type} {n:Nat} {f:Nat->List α} (h:∀ i,i<n->f i=[]):(List.range n).flatMap f=[]:=by
 rw [List.flatMap_eq_nil_iff]
 exact fun i hi=>h i (List.mem_range.1 hi)
theorem aGq {a b r c V:Int} (h1:0<=b) (h2:b<V) (h3:0<=c) (h4:c<V) (e:a*V+b=r*V+c):a=r/\b=c:=by
 have h5:(a-r)*V=c-b:=by rw [Int.sub_mul]; omega
 have h6:a-r=0:=by
  rcases Int.lt_trichotomy (a-r) 0 with h | h | h
  ·have:=Int.mul_le_mul_of_nonneg_right (show a-r <= -1 by omega) (show 0<=V by omega)
   omega
  ·exact h
  ·have:=Int.mul_le_mul_of_nonneg_right (show 1<=a-r by omega) (show 0<=V by omega)
   omega
 rw [h6] at h5
 omega
theorem aEs {rows cols cr cc r c : Int} {k : Nat} (hr : 0 <= r /\ r <= rows - 1) (hc : 0 <= c /\ c <= cols - 1) (u : Int -> Int -> List (Int × Int × Int)) :
    ((CP rows cols cr cc k k).flatMap fun w => if w.1 = r * cols + c then u w.2.1 w.2.2 else []) = if (inP (r - cr) 0 ((k : Int) - 1) && inP (c - cc) 0 ((k : Int) - 1)) = true then u (r - cr) (c - cc) else [] := by
  have key : ∀ i j : Nat, ((jL rows cols cr cc i j).flatMap fun w => if w.1 = r * cols + c then u w.2.1 w.2.2 else []) = if (i : Int) = r - cr /\ (j : Int) = c - cc then u (r - cr) (c - cc) else [] := by
    intro i j
    unfold jL
    split
    · rename_i hin
      simp only [Bool.and_eq_true] at hin
      have b1 : 0 <= cr + i /\ cr + i <= rows - 1 := by simpa [inP] using hin.1
      have b2 : 0 <= cc + j /\ cc + j <= cols - 1 := by simpa [inP] using hin.2
      simp only [List.flatMap_cons, List.flatMap_nil, List.append_nil]
      by_cases e : (i : Int) = r - cr /\ (j : Int) = c - cc
      · rw [if_pos e, if_pos (by rw [show cr + i = r by omega, show cc + j = c by omega]), e.1, e.2]
      · rw [if_neg e, if_neg]
        intro hh
        obtain ⟨g1, g2⟩ := aGq b2.1 (by omega) hc.1 (by omega) hh
        exact e ⟨by omega, by omega⟩
    · rename_i hin
      rw [List.flatMap_nil, if_neg]
      rintro ⟨e1, e2⟩
      apply hin
      rw [EA (by omega) (by omega), EA (by omega) (by omega)]; rfl
  unfold CP oO
  rw [List.flatMap_assoc]
  have : (fun i => ((List.range k).flatMap (jL rows cols cr cc i)).flatMap fun w => if w.1 = r * cols + c then u w.2.1 w.2.2 else []) = fun (i : Nat) => (List.range k).flatMap fun (j : Nat) => if (i : Int) = r - cr /\ (j : Int) = c - cc then u (r - cr) (c - cc) else [] := by
    funext i
    rw [List.flatMap_assoc]
    congr 1
    funext j
    exact key i j
  rw [this]
  by_cases g : (inP (r - cr) 0 ((k : Int) - 1) && inP (c - cc) 0 ((k : Int) - 1)) = true
  · rw [if_pos g]
    simp only [Bool.and_eq_true] at g
    have b1 : 0 <= r - cr /\ r - cr <= k - 1 := by simpa [inP] using g.1
    have b2 : 0 <= c - cc /\ c - cc <= k - 1 := by simpa [inP] using g.2
    obtain ⟨a, ea⟩ := Int.eq_ofNat_of_zero_le b1.1
    obtain ⟨b, eb⟩ := Int.eq_ofNat_of_zero_le b2.1
    rw [ZA (k := a) (by omega) (fun i hi hia => KM fun j hj => by rw [if_neg (by omega)]), ZA (k := b) (by omega) (fun j hj hjb => by rw [if_neg (by omega)]), if_pos (by omega)]
  · rw [if_neg g]
    refine KM fun i hi => KM fun j hj => ?_
    rw [if_neg]
    rintro ⟨e1, e2⟩
    apply g
    rw [EA (by omega) (by omega), EA (by omega) (by omega)]; rfl
theorem aD9 {α β : Type} {m : List α} {f : α -> List β} (h : ∀ a, (f a).length <= 1) : (m.flatMap f).length <= m.length := by
  induction m with
  | nil => simp
  | cons a m ih =>
    rw [List.flatMap_cons, List.length_append, List.length_cons]
    have := h a
    omega
theorem aGW {V r c Q : Int} {y x : Nat} {l acc : List (Int × Int × Int)} {K0 : List (Int × Int × Int) -> Prop} (hV : 0 <= V /\ V <= 1000) (hr : 0 <= r /\ r <= 1000) (hc : 0 <= c /\ c <= 1000) (hQ : 0 <= Q /\ Q <= 1000) (hy : y <= 1000) (hx : x <= 1000) (hl : l.length <= 1000000) (ha : acc.length <= 1000000)
    (hk : K0 (acc ++ l.flatMap fun w => if w.1 = r * V + c then [((y : Int) * Q + x, w.2.1, w.2.2)] else [])) :
    rT V r c Q y x (l.length : Int) l K0 (0, acc) := by
  refine ⟨?_⟩
  have m1 : 0 <= r * V := Int.mul_nonneg hr.1 hV.1
  have m2 : r * V <= 1000 * 1000 := Int.mul_le_mul hr.2 hV.2 hV.1 (by omega)
  have m3 : 0 <= (y : Int) * Q := Int.mul_nonneg (by omega) hQ.1
  have m4 : (y : Int) * Q <= 1000 * 1000 := Int.mul_le_mul (by omega) hQ.2 hQ.1 (by omega)
  have eg : ((0 : Int), acc) = (fun j : Nat => ((j : Int), acc ++ (l.take j).flatMap fun w => if w.1 = r * V + c then [((y : Int) * Q + x, w.2.1, w.2.2)] else [])) 0 := by simp
  rw [eg]
  refine Loop.range (B := kY V r c Q y x (l.length : Int) l K0) (f := fun j : Nat => ((j : Int), acc ++ (l.take j).flatMap fun w => if w.1 = r * V + c then [((y : Int) * Q + x, w.2.1, w.2.2)] else [])) l.length (fun _ => True) trivial ?_ ?_
  · intro i hi _ X hX
    have hX := hX trivial
    unfold kY
    rw [if_pos (decide_eq_true (show (i : Int) < (l.length : Int) by omega))]
    dsimp only at hX ⊢
    refine ⟨by omega, ?_⟩
    rw [Int.toNat_natCast]
    have hg : l.getD i (0, 0, 0) = l[i] := by rw [List.getD_eq_getElem?_getD, List.getElem?_eq_getElem hi]; rfl
    rw [hg, aA (r * V) (by omega) (by omega), aA (r * V + c) (by omega) (by omega), aA ((y : Int) * Q) (by omega) (by omega), aA ((y : Int) * Q + x) (by omega) (by omega)]
    rw [List.take_add_one, List.getElem?_eq_getElem hi, List.flatMap_append, <- List.append_assoc] at hX
    simp only [Option.toList_some, List.flatMap_cons, List.flatMap_nil, List.append_nil] at hX
    by_cases g : l[i].1 = r * V + c
    · rw [if_pos (by simpa using g)]
      rw [if_pos g] at hX
      refine ⟨?_, ⟨?_⟩⟩
      · have hfl : ((l.take i).flatMap fun w => if w.1 = r * V + c then [((y : Int) * Q + x, w.2.1, w.2.2)] else []).length <= 1000000 := by
          have h1 := aD9 (m := l.take i) (f := fun w => if w.1 = r * V + c then [((y : Int) * Q + x, w.2.1, w.2.2)] else []) fun w => by split <;> simp
          rw [List.length_take] at h1
          omega
        rw [List.length_append]
        simp only [List.length_singleton]
        omega
      · rw [aA ((i : Int) + 1) (by omega) (by omega)]
        exact hX
    · rw [if_neg (by simpa using g)]
      rw [if_neg g, List.append_nil] at hX
      refine ⟨?_⟩
      rw [aA ((i : Int) + 1) (by omega) (by omega)]
      exact hX
  · intro _ X
    unfold kY
    rw [if_neg (by simp)]
    dsimp only
    rw [List.take_length]
    exact hk
theorem aGK {H V r c s p:Int} {k Q y:Nat} {acc:List (Int×Int×Int)} {K0:List (Int×Int×Int)->Prop} (hH:H<=16) (hV:V<=16) (hr:0<=r/\r<=H-1) (hc:0<=c/\c<=V-1) (hk5:k<=5) (hs:1<=s/\s<=4) (hp:0<=p/\p<=5) (hQ:Q<=25) (hy:y<=25) (ha:acc.length<=10000)
  (hk:K0 (acc++pI s p r c k Q y Q)):rV V r c Q y Q H V k s p K0 (0,acc):=by
 refine ⟨?_⟩
 have eg:((0:Int),acc)=(fun j:Nat=>((j:Int),acc++pI s p r c k Q y j)) 0:=by simp [pI]
 rw [eg]
 refine Loop.range (B:=lC V r c Q y Q H V k s p K0) (f:=fun j:Nat=>((j:Int),acc++pI s p r c k Q y j)) Q (fun _=>True) trivial ?_ ?_
 ·intro x hx _ X hX
  have hX:=hX trivial
  unfold lC
  rw [if_pos (decide_eq_true (show (x:Int)<(Q:Int) by omega))]
  dsimp only at hX ⊢
  refine YY (by omega) (by omega) (by omega) (by omega) (by omega) (by omega) (by omega) ?_
  have hl:=I3 (rows:=H) (cols:=V) (cr:=s*y-p) (cc:=s*x-p) (k:=k) k
  have hkk:k*k<=5*5:=Nat.mul_le_mul hk5 hk5
  have hll:=EM (s:=s) (p:=p) (r:=r) (c:=c) (k:=k) (Q:=Q) (y:=y) x
  refine aGW (by omega) (by omega) (by omega) (by omega) (by omega) (by omega) (by omega) (by rw [List.length_append]; omega) ?_
  rw [aA ((x:Int)+1) (by omega) (by omega),aEs hr hc fun a b=>[((y:Int)*Q+x,a,b)],List.append_assoc]
  rw [G9] at hX
  exact hX
 ·intro _ X
  unfold lC
  rw [if_neg (by simp)]
  exact hk
def aDl (rows cols r c k s p:Int):Bool:=((decide (aL rows k s p<1)||decide (aL cols k s p<1)) || !inP r 0 (rows-1)) || !inP c 0 (cols-1)
def DW (rows cols r c k s p:Int):List (Int×Int×Int):=if aDl rows cols r c k s p=true then [] else MP s p r c k (aL cols k s p) (aL rows k s p).toNat (aL cols k s p).toNat
theorem aCZ {rows cols r c k s p : Int} {Q : List (Int × Int × Int) -> Prop} (hrc : -1000000 <= rows /\ rows <= 1000000 /\ -1000000 <= cols /\ cols <= 1000000) (h : Q (DW rows cols r c k s p)) : xO rows cols r c k s p Q := by
  refine ⟨?_⟩
  refine ⟨?_⟩
  refine FP (FP ?_)
  unfold DW aDl at h
  dsimp only
  rw [aA (rows - 1) (by omega) (by omega), aA (cols - 1) (by omega) (by omega)]
  refine aAY (b := decide (aL rows k s p < 1) || decide (aL cols k s p < 1)) (c := !inP r 0 (rows - 1)) (fun P hp => FR hp) (fun v2 e2 => ?_) rfl
  refine aAY (c := !inP c 0 (cols - 1)) (fun P hp => FR hp) (fun v5 e5 => ?_) rfl
  rw [<- e2, <- e5] at h
  cases hv : v5 with
  | true => rw [hv, if_pos rfl] at h; rw [if_pos (by rfl)]; exact h
  | false =>
    rw [hv, if_neg (by simp)] at h
    rw [if_neg (by simp)]
    rw [hv, e2] at e5
    have := e5.symm
    simp only [Bool.or_eq_false_iff, Bool.not_eq_false', decide_eq_false_iff_not] at this
    obtain ⟨⟨⟨g1, g2⟩, g3⟩, g4⟩ := this
    obtain ⟨b1, b2, b3, b4, b5, _⟩ := nM (n := rows) (k := k) (s := s) (p := p) (by omega)
    obtain ⟨c1, _⟩ := nM (n := cols) (k := k) (s := s) (p := p) (by omega)
    have r1 : 0 <= r /\ r <= rows - 1 := by simpa [inP] using g3
    have r2 : 0 <= c /\ c <= cols - 1 := by simpa [inP] using g4
    obtain ⟨P, eP, hP⟩ := pM (n := rows) (k := k) (s := s) (p := p)
    obtain ⟨R, eR, hR⟩ := pM (n := cols) (k := k) (s := s) (p := p)
    obtain ⟨K, rfl⟩ := Int.eq_ofNat_of_zero_le (show 0 <= k by omega)
    rw [eP, eR, Int.toNat_natCast, Int.toNat_natCast] at h
    rw [eP, eR]
    refine ⟨?_⟩
    refine Loop.range (B := lL cols r c R P rows cols K s p _) (f := fun y : Nat => ((y : Int), MP s p r c K R y R)) P (fun _ => True) trivial ?_ ?_
    · intro y hy _ X hX
      have hX := hX trivial
      unfold lL
      rw [if_pos (decide_eq_true (show (y : Int) < (P : Int) by omega))]
      dsimp only at hX ⊢
      have hl := KT (s := s) (p := p) (r := r) (c := c) (k := K) (Q := R) (m := R) y
      have hl2 : y * R <= 25 * 25 := Nat.mul_le_mul (by omega) hR
      refine aGK (by omega) (by omega) r1 r2 (by omega) b3 (by omega) hR (by omega) (by omega) ?_
      rw [aA ((y : Int) + 1) (by omega) (by omega)]
      rw [N9] at hX
      exact hX
    · intro _ X
      unfold lL
      rw [if_neg (by simp)]
      exact h
open Go.Mach Go.RowKit
set_option maxRecDepth 100000
set_option linter.unusedVariables false
set_option linter.unusedSimpArgs false
theorem aDW {rows cols r c s p:Int} {K P Q:Nat} (eP:aL rows K s p=P) (eQ:aL cols K s p=Q):InP K (P*Q) (DW rows cols r c K s p):=by
 unfold DW
 split
 ·intro z hz; simp at hz
 ·rw [eP,eQ,Int.toNat_natCast,Int.toNat_natCast]
  intro z hz
  unfold MP pI at hz
  simp only [List.mem_flatMap,List.mem_range] at hz
  obtain ⟨y,hy,x,hx,hz⟩:=hz
  unfold DE at hz
  split at hz
  ·rename_i g
   simp only [Bool.and_eq_true] at g
   have b1:0<=r-(s*y-p)/\r-(s*y-p)<=K-1:=by simpa [inP] using g.1
   have b2:0<=c-(s*x-p)/\c-(s*x-p)<=K-1:=by simpa [inP] using g.2
   obtain ⟨a,ea⟩:=Int.eq_ofNat_of_zero_le b1.1
   obtain ⟨b,eb⟩:=Int.eq_ofNat_of_zero_le b2.1
   refine ⟨y*Q+x,a,b,?_,jM hy hx,by omega,by omega⟩
   rw [ea,eb,<- Int.natCast_mul,<- Int.natCast_add] at hz
   simpa using hz
  ·simp at hz
theorem aCM {rows cols r c k s p:Int}:(DW rows cols r c k s p).length<=625:=by
 unfold DW
 split
 ·simp
 ·obtain ⟨P,eP,hP⟩:=pM (n:=rows) (k:=k) (s:=s) (p:=p)
  obtain ⟨Q,eQ,hQ⟩:=pM (n:=cols) (k:=k) (s:=s) (p:=p)
  rw [eP,eQ,Int.toNat_natCast,Int.toNat_natCast]
  have h1:=KT (s:=s) (p:=p) (r:=r) (c:=c) (k:=k) (Q:=Q) (m:=Q) P
  have h2:P*Q<=25*25:=Nat.mul_le_mul hP hQ
  omega
def inG (gd wd:List Int) (O C plane K m c o:Nat) (z:Int×Int×Int):Int:=gd.getD ((m*O+o)*plane+z.1.toNat) 0*wd.getD (((o*C+c)*K+z.2.1.toNat)*K+z.2.2.toNat) 0
theorem aI0 {C K plane m o c n O:Nat} {gd wd:List Int} {l:List (Int×Int×Int)} {t:Int} {K0:Int->Prop} (hx:gd.length=n*O*plane) (hw:wd.length=O*C*K*K) (bx:n*O*plane<=8192) (bw:O*C*K*K<=8192) (ax:All8 gd) (aw:All8 wd) (hm:m<n) (ho:o<O) (hc:c<C) (hl:InP K plane l) (hll:l.length<=1000000)
  (h:K0 (IntKind.i64.wrap (t+nF l (inG gd wd O C plane K m c o)))):yB O C K plane m c o (l.length:Int) gd wd l K0 (IntKind.i64.wrap t,0):=by
 refine ⟨?_⟩
 have eg:(IntKind.i64.wrap t,(0:Int))=(fun i:Nat=>(IntKind.i64.wrap (t+bR (fun i=>inG gd wd O C plane K m c o (l.getD i (0,0,0))) i),(i:Int))) 0:=by simp [bR]
 rw [eg]
 refine Loop.range (B:=pF O C K plane m c o (l.length:Int) gd wd l K0) (f:=fun i:Nat=>(IntKind.i64.wrap (t+bR (fun i=>inG gd wd O C plane K m c o (l.getD i (0,0,0))) i),(i:Int))) l.length (fun _=>True) trivial ?_ ?_
 ·intro i hi _ X hX
  have hX:=hX trivial
  unfold pF
  rw [if_pos (decide_eq_true (show (i:Int)<(l.length:Int) by omega))]
  dsimp only at hX ⊢
  refine ⟨by omega,?_⟩
  rw [Int.toNat_natCast]
  obtain ⟨a,r,q,ez,ha,hr,hq⟩:=hl (l.getD i (0,0,0)) (by rw [List.getD_eq_getElem?_getD,List.getElem?_eq_getElem hi]; exact List.getElem_mem hi)
  have g1:(m*O+o)*plane+a<n*O*plane:=jM (jM hm ho) ha
  have g2:((o*C+c)*K+r)*K+q<O*C*K*K:=jM (jM (jM ho hc) hr) hq
  have g3:m*O+o<=(m*O+o)*plane:=Nat.le_mul_of_pos_right _ (by omega)
  have g5:(o*C+c)*K+r<=((o*C+c)*K+r)*K:=Nat.le_mul_of_pos_right _ (by omega)
  have g7:o*C+c<=(o*C+c)*K:=Nat.le_mul_of_pos_right _ (by omega)
  have ef:inG gd wd O C plane K m c o (l.getD i (0,0,0))=gd.getD ((m*O+o)*plane+a) 0*wd.getD (((o*C+c)*K+r)*K+q) 0:=by
   unfold inG; rw [ez]; simp only [Int.toNat_natCast]
  simp only [bR,ef] at hX
  rw [ez]
  dsimp only
  rw [ix (r:=m) (n:=O) (i:=o) (by omega),ix (r:=m*O+o) (n:=plane) (i:=a) (by omega),ix (r:=o) (n:=C) (i:=c) (by omega),ix (r:=o*C+c) (n:=K) (i:=r) (by omega),ix (r:=(o*C+c)*K+r) (n:=K) (i:=q) (by omega)]
  refine ⟨by omega,by omega,?_⟩
  simp only [Int.toNat_natCast]
  have b1:=ax.at_ ((m*O+o)*plane+a)
  have b2:=aw.at_ (((o*C+c)*K+r)*K+q)
  have b3:=RV b1 b2
  rw [aA (gd.getD ((m*O+o)*plane+a) 0) (by omega) (by omega),aA (wd.getD (((o*C+c)*K+r)*K+q) 0) (by omega) (by omega),aA (_*_) (by omega) (by omega),aA ((i:Int)+1) (by omega) (by omega),TH,Int.add_assoc]
  exact hX
 ·intro _ X
  unfold pF
  rw [if_neg (by simp)]
  rw [EZ l _ (0,0,0)] at h
  exact h
theorem aI5 {C K plane m c n O:Nat} {gd wd:List Int} {l:List (Int×Int×Int)} {t:Int} {K0:Int->Prop} (hx:gd.length=n*O*plane) (hw:wd.length=O*C*K*K) (bx:n*O*plane<=8192) (bw:O*C*K*K<=8192) (ax:All8 gd) (aw:All8 wd) (hm:m<n) (hc:c<C) (hl:InP K plane l) (hll:l.length<=1000000) (hO:O<=10000)
  (h:K0 (IntKind.i64.wrap (t+bR (fun o=>nF l (inG gd wd O C plane K m c o)) O))):yJ O C K plane m c O gd wd l K0 (IntKind.i64.wrap t,0):=by
 refine ⟨?_⟩
 have eg:(IntKind.i64.wrap t,(0:Int))=(fun i:Nat=>(IntKind.i64.wrap (t+bR (fun o=>nF l (inG gd wd O C plane K m c o)) i),(i:Int))) 0:=by simp [bR]
 rw [eg]
 refine Loop.range (B:=pC O C K plane m c O gd wd l K0) (f:=fun i:Nat=>(IntKind.i64.wrap (t+bR (fun o=>nF l (inG gd wd O C plane K m c o)) i),(i:Int))) O (fun _=>True) trivial ?_ ?_
 ·intro o ho _ X hX
  have hX:=hX trivial
  unfold pC
  rw [if_pos (decide_eq_true (show (o:Int)<(O:Int) by omega))]
  dsimp only at hX ⊢
  refine aI0 hx hw bx bw ax aw hm ho hc hl hll ?_
  rw [aA ((o:Int)+1) (by omega) (by omega),Int.add_assoc]
  exact hX
 ·intro _ X
  unfold pC
  rw [if_neg (by simp)]
  exact h
section
variable {n C O K H V P Q:Nat} {s p:Int} {gd wd:List Int}
def xL (H V C O K P Q:Nat) (s p:Int) (gd wd:List Int) (m c y x:Nat):Int:=IntKind.i32.wrap (bR (fun o=>nF (DW H V y x K s p) (inG gd wd O C (P*Q) K m c o)) O)
structure aFL (n C O K H V P Q:Nat) (s p:Int) (gd wd:List Int):Prop where
 hg:gd.length=n*O*(P*Q)
 hw:wd.length=O*C*K*K
 bg:n*O*(P*Q)<=8192
 bw:O*C*K*K<=8192
 ag:All8 gd
 aw:All8 wd
 eP:aL H K s p=P
 eQ:aL V K s p=Q
 hH:1<=H/\H<=16
 hV:1<=V/\V<=16
 bo:n*C*H*V<=8192
 hC:C<=8192
 hO:O<=8192
 hn:n<=8192
theorem aIH (g:aFL n C O K H V P Q s p gd wd) {C0:Nat->Nat->Nat->Nat->Prop} {L:List Int} {m y x:Nat} {K0:List Int->Prop} (hm:m<n) (hy:y<H) (hx:x<V) (hL:Fill n C H V (xL H V C O K P Q s p gd wd) C0 L)
  (h:∀ L',Fill n C H V (xL H V C O K P Q s p gd wd) (fun m' c' y' x'=>C0 m' c' y' x'\/(m'=m/\y'=y/\x'=x)) L'->K0 L') :
  xW H V O C K ((P*Q:Nat):Int) ((y*V+x:Nat):Int) m C gd wd (DW H V y x K s p) K0 (0,L):=by
 refine ⟨?_⟩
 have hbo:=g.bo; have hC:=g.hC
 refine Loop.rangeI (B:=pJ H V O C K ((P*Q:Nat):Int) ((y*V+x:Nat):Int) m C gd wd (DW H V y x K s p) K0) C (fun i st=>st.1=(i:Int)/\Fill n C H V (xL H V C O K P Q s p gd wd) (fun m' c' y' x'=>C0 m' c' y' x'\/(m'=m/\y'=y/\x'=x/\c'<i)) st.2) ⟨rfl,hL.mono fun m' c' y' x' _ _ _ _ hc=>hc.elim id fun h=>absurd h.2.2.2 (by omega)⟩ ?_ ?_
 ·rintro c hc ⟨c',M⟩ ⟨e1,hM⟩ X hX
  simp only at e1 hM
  subst e1
  unfold pJ
  rw [if_pos (decide_eq_true (show (c:Int)<(C:Int) by omega))]
  dsimp only
  have e0:((0:Int),(0:Int))=(IntKind.i64.wrap 0,(0:Int)):=by decide
  rw [e0]
  have hll:=aCM (rows:=H) (cols:=V) (r:=y) (c:=x) (k:=K) (s:=s) (p:=p)
  refine aI5 g.hg g.hw g.bg g.bw g.ag g.aw hm hc (aDW g.eP g.eQ) (by omega) (by have:=g.hO; omega) ?_
  have g1:=GU (P:=H) (Q:=V) hm hc hy hx
  have ei:ix4 C H V m c y x=(m*C+c)*H*V+(y*V+x):=by unfold ix4; rw [Nat.add_mul,Nat.add_assoc]
  rw [ei] at g1
  have g2:m*C+c<=(m*C+c)*H:=Nat.le_mul_of_pos_right _ (by omega)
  have g3:(m*C+c)*H<=(m*C+c)*H*V:=Nat.le_mul_of_pos_right _ (by omega)
  rw [ix (r:=m) (n:=C) (i:=c) (by omega),vN (r:=m*C+c) (n:=H) (by omega),ix (r:=(m*C+c)*H) (n:=V) (i:=y*V+x) (by omega)]
  refine ⟨by rw [hM.len]; omega,?_⟩
  rw [Int.toNat_natCast,aA ((c:Int)+1) (by omega) (by omega),aBD,<- ei,Int.zero_add]
  refine hX _ ⟨by simp,?_⟩
  refine hM.set hm hc hy hx rfl fun m' c' y' x' _ _ _ _ hc => ?_
  rcases hc with hc | ⟨c1,c2,c3,c4⟩
  ·exact .inl (.inl hc)
  ·rcases Nat.lt_or_ge c' c with c5 | c5
   ·exact .inl (.inr ⟨c1,c2,c3,c5⟩)
   ·exact .inr ⟨c1,by omega,c2,c3⟩
 ·rintro ⟨c',M⟩ ⟨e1,hM⟩ X
  simp only at e1 hM
  subst e1
  unfold pJ
  rw [if_neg (by simp)]
  exact h _ (hM.mono fun m' c' y' x' _ h2 _ _ hc=>hc.elim .inl fun ⟨a,b,c⟩ => .inr ⟨a,b,c,h2⟩)
theorem aI3 (g:aFL n C O K H V P Q s p gd wd) {C0:Nat->Nat->Nat->Nat->Prop} {L:List Int} {y x:Nat} {K0:List Int->Prop} (hy:y<H) (hx:x<V) (hL:Fill n C H V (xL H V C O K P Q s p gd wd) C0 L)
  (h:∀ L',Fill n C H V (xL H V C O K P Q s p gd wd) (fun m' c' y' x'=>C0 m' c' y' x'\/(y'=y/\x'=x)) L'->K0 L') :
  xI H V O C K ((P*Q:Nat):Int) ((y*V+x:Nat):Int) n gd wd (DW H V y x K s p) K0 (0,L):=by
 refine ⟨?_⟩
 have hn:=g.hn
 refine Loop.rangeI (B:=pK H V O C K ((P*Q:Nat):Int) ((y*V+x:Nat):Int) n gd wd (DW H V y x K s p) K0) n (fun i st=>st.1=(i:Int)/\Fill n C H V (xL H V C O K P Q s p gd wd) (fun m' c' y' x'=>C0 m' c' y' x'\/(y'=y/\x'=x/\m'<i)) st.2) ⟨rfl,hL.mono fun m' c' y' x' _ _ _ _ hc=>hc.elim id fun h=>absurd h.2.2 (by omega)⟩ ?_ ?_
 ·rintro m hm ⟨m',M⟩ ⟨e1,hM⟩ X hX
  simp only at e1 hM
  subst e1
  unfold pK
  rw [if_pos (decide_eq_true (show (m:Int)<(n:Int) by omega))]
  dsimp only
  refine aIH g hm hy hx hM fun L' hL' => ?_
  rw [aA ((m:Int)+1) (by omega) (by omega)]
  refine hX _ ⟨by simp,hL'.mono fun m' c' y' x' _ _ _ _ hc => ?_⟩
  rcases hc with hc | ⟨c1,c2,c3⟩
  ·exact .inl (.inl hc)
  ·rcases Nat.lt_or_ge m' m with c5 | c5
   ·exact .inl (.inr ⟨c1,c2,c5⟩)
   ·exact .inr ⟨by omega,c1,c2⟩
 ·rintro ⟨m',M⟩ ⟨e1,hM⟩ X
  simp only at e1 hM
  subst e1
  unfold pK
  rw [if_neg (by simp)]
  exact h _ (hM.mono fun m' c' y' x' h2 _ _ _ hc=>hc.elim .inl fun ⟨a,b⟩ => .inr ⟨a,b,h2⟩)
theorem aII (g : aFL n C O K H V P Q s p gd wd) {L : List Int} {K0 : List Int -> Prop} (hL : L.length = n * C * H * V)
    (h : K0 (F7 n C H V (xL H V C O K P Q s p gd wd))) :
    xT H V n O C K ((P * Q : Nat) : Int) ((H * V : Nat) : Int) gd wd H V K s p P Q K0 (0, L) := by
  refine ⟨?_⟩
  have hH := g.hH; have hV := g.hV
  have hHV : H * V <= 16 * 16 := Nat.mul_le_mul hH.2 hV.2
  refine Loop.rangeI (B := pE H V n O C K ((P * Q : Nat) : Int) ((H * V : Nat) : Int) gd wd H V K s p P Q K0) (H * V) (fun i st => st.1 = (i : Int) /\ Fill n C H V (xL H V C O K P Q s p gd wd) (fun m' c' y' x' => y' * V + x' < i) st.2) ⟨rfl, hL, fun m' c' y' x' _ _ _ _ hc => absurd hc (by omega)⟩ ?_ ?_
  · rintro i hi ⟨i', M⟩ ⟨e1, hM⟩ X hX
    simp only at e1 hM
    subst e1
    unfold pE
    rw [if_pos (decide_eq_true (show (i : Int) < ((H * V : Nat) : Int) by omega))]
    obtain ⟨c1, c2, c3⟩ := yL hi
    obtain ⟨y, ey⟩ : ∃ y, i / V = y := ⟨_, rfl⟩
    obtain ⟨x, ex⟩ : ∃ x, i % V = x := ⟨_, rfl⟩
    rw [ey, ex] at c3
    rw [ey] at c1
    rw [ex] at c2
    dsimp only
    have et : IntKind.i64.wrap ((i : Int).tdiv (V : Int)) = (y : Int) := by
      rw [Int.tdiv_eq_ediv_of_nonneg (by omega), <- Int.natCast_ediv, ey, aA _ (by omega) (by omega)]
    have em : (i : Int).tmod (V : Int) = (x : Int) := by
      rw [Int.tmod_eq_emod_of_nonneg (by omega), <- Int.natCast_emod, ex]
    rw [et, em, aA ((i : Int) + 1) (by omega) (by omega)]
    refine ⟨by omega, by omega, ⟨?_⟩⟩
    refine aCZ (by show -1000000 <= (H : Int) /\ (H : Int) <= 1000000 /\ -1000000 <= (V : Int) /\ (V : Int) <= 1000000; omega) ?_
    dsimp only
    have ei : (i : Int) = ((y * V + x : Nat) : Int) := by omega
    have key := aI3 g c1 c2 hM (K0 := fun L' => X ((i : Int) + 1, L')) fun L' hL' => hX _ ⟨by simp, hL'.mono fun m' c' y' x' _ _ hy' hx' hc => ?_⟩
    · rw [<- ei] at key
      exact key
    · rcases Nat.lt_or_ge (y' * V + x') i with c5 | c5
      · exact .inl c5
      · refine .inr ?_
        have : y' * V + x' = y * V + x := by omega
        exact UD hx' c2 this
  · rintro ⟨i', M⟩ ⟨e1, hM⟩ X
    simp only at e1 hM
    subst e1
    unfold pE
    rw [if_neg (by simp)]
    rw [hM.all fun _ _ y' x' _ _ hy hx => jM hy hx]
    exact h
end
def WS (g w:T3) (h v s p:Int):Bool :=
 (((!(decide (0<aL h (w.1.getD 2 0) s p)&&decide (0<aL v (w.1.getD 2 0) s p))||(w.1.getD 0 0 != g.1.getD 1 0))||(w.1.getD 3 0 != w.1.getD 2 0))||(g.1.getD 2 0 != aL h (w.1.getD 2 0) s p))||(g.1.getD 3 0 != aL v (w.1.getD 2 0) s p)
def UC (g w:T3) (h v:Int):List Int:=[g.1.getD 0 0,w.1.getD 1 0,h,v]
def inN (g w:T3):Int:=g.1.getD 1 0*w.1.getD 2 0*w.1.getD 2 0
def inE (g w:T3) (h v s p:Int):Int :=
 if (jE [g,w] != 0)=true then jE [g,w]
 else if WS g w h v s p=true then 2
 else (p9 (UC g w h v) (g.2.1+w.2.1) (inN g w)).2
def aAT (g w : T3) (h v s p : Int) : List Int :=
  F7 (g.1.getD 0 0).toNat (w.1.getD 1 0).toNat h.toNat v.toNat
    (xL h.toNat v.toNat (w.1.getD 1 0).toNat (g.1.getD 1 0).toNat (w.1.getD 2 0).toNat (g.1.getD 2 0).toNat (g.1.getD 3 0).toNat s p g.2.2 w.2.2)
def BB (g w:T3) (h v s p:Int):T3×Int:=if (inE g w h v s p != 0)=true then (Z3,inE g w h v s p) else ((UC g w h v,(g.2.1+w.2.1,aAT g w h v s p)),0)
theorem aEq {g w : T3} {h v s p : Int} {Q : T3 × Int -> Prop} (ag : All8 g.2.2) (aw : All8 w.2.2) (hq : Q (BB g w h v s p)) : F5 g w h v s p Q := by
  refine ⟨?_⟩
  unfold BB inE at hq
  refine UT (by simp) ?_
  show (if (jE [g, w] != 0) = true then _ else _)
  by_cases h2 : (jE [g, w] != 0) = true
  · rw [if_pos h2]
    simp only [h2, if_true] at hq
    exact hq
  · rw [if_neg h2]
    simp only [h2, Bool.false_eq_true, if_false] at hq
    have hz : jE [g, w] = 0 := by simpa using h2
    have hzz := u6 hz
    obtain ⟨mg, lg⟩ := hzz g (by simp)
    obtain ⟨mw, lw⟩ := hzz w (by simp)
    obtain ⟨n, O, P, R, eg, g1, g2, g3, g4, g5, g6, g7, g8⟩ := UA mg lg
    obtain ⟨O', C, K, K', ew, w1, w2, w3, w4, w5, w6, w7, w8⟩ := UA mw lw
    refine ⟨by omega, by omega, by omega, by omega, aAF ?_⟩
    refine m9 (b := !(decide (0 < aL h (w.1.getD 2 0) s p) && decide (0 < aL v (w.1.getD 2 0) s p))) (c := w.1.getD 0 0 != g.1.getD 1 0) (fun _ P hp => ⟨by omega, hp⟩) (fun v3 e3 => ?_) rfl
    refine m9 (c := w.1.getD 3 0 != w.1.getD 2 0) (fun _ P hp => ⟨by omega, hp⟩) (fun v5 e5 => ?_) rfl
    refine m9 (c := g.1.getD 2 0 != aL h (w.1.getD 2 0) s p) (fun _ P hp => ⟨by omega, hp⟩) (fun v7 e7 => ?_) rfl
    refine m9 (c := g.1.getD 3 0 != aL v (w.1.getD 2 0) s p) (fun _ P hp => ⟨by omega, hp⟩) (fun v9 e9 => ?_) rfl
    have hv : v9 = WS g w h v s p := by rw [e9, e7, e5, e3]; rfl
    rw [<- hv] at hq
    cases v9 with
    | true => exact hq
    | false =>
      rw [if_neg (by simp)]
      simp only [Bool.false_eq_true, if_false] at hq
      have hv2 := hv.symm
      unfold WS at hv2
      simp only [Bool.or_eq_false_iff, TM, Bool.not_eq_false', Bool.and_eq_true, decide_eq_true_eq] at hv2
      obtain ⟨⟨⟨⟨⟨o1, o2⟩, c1⟩, c2⟩, c3⟩, c4⟩ := hv2
      simp only [eg, ew, List.getD_cons_zero, List.getD_cons_succ] at o1 o2 c1 c2 c3 c4
      have eo : O' = O := by omega
      have ek : K' = K := by omega
      subst eo ek
      obtain ⟨a1, a2, a3, a4, a5, a6⟩ := nM o1
      obtain ⟨d1, _⟩ := nM o2
      obtain ⟨H, rfl⟩ := Int.eq_ofNat_of_zero_le (show 0 <= h by omega)
      obtain ⟨V, rfl⟩ := Int.eq_ofNat_of_zero_le (show 0 <= v by omega)
      unfold inN UC aAT at hq
      simp only [eg, ew, List.getD_cons_zero, List.getD_cons_succ, <- c3, <- c4] at hq ⊢
      have k1 : O' <= O' * C := Nat.le_mul_of_pos_right _ (by omega)
      have k2 : O' * C <= O' * C * K' := Nat.le_mul_of_pos_right _ (by omega)
      have k3 : O' * C * K' <= O' * C * K' * K' := Nat.le_mul_of_pos_right _ (by omega)
      have k4 : O' * K' <= 8192 * 5 := Nat.mul_le_mul (by omega) (by omega)
      have k5 : O' * K' * K' <= 8192 * 5 * 5 := Nat.mul_le_mul k4 (by omega)
      have k6 : C <= O' * C := Nat.le_mul_of_pos_left _ (by omega)
      have k7 : n <= n * O' := Nat.le_mul_of_pos_right _ (by omega)
      have k8 : n * O' <= n * O' * P := Nat.le_mul_of_pos_right _ (by omega)
      have k9 : n * O' * P <= n * O' * P * R := Nat.le_mul_of_pos_right _ (by omega)
      have ka : H * V <= 16 * 16 := Nat.mul_le_mul (by omega) (by omega)
      have kb : P * R <= n * O' * (P * R) := Nat.le_mul_of_pos_left _ (Nat.mul_pos (by omega) (by omega))
      rw [<- Nat.mul_assoc] at kb
      rw [vN (r := O') (n := K') (by omega), vN (r := O' * K') (n := K') (by omega), aA (g.2.1 + w.2.1) (by omega) (by omega)]
      rw [<- Int.natCast_mul, <- Int.natCast_mul] at hq
      refine NX ⟨?_⟩
      by_cases h9 : (p9 [(n : Int), (C : Int), (H : Int), (V : Int)] (g.2.1 + w.2.1) ((O' * K' * K' : Nat) : Int)).2 = 0
      · obtain ⟨f1, f2, f3, f4⟩ := vE h9
        rw [f4] at hq ⊢
        simp only [bne_self_eq_false, Bool.false_eq_true, if_false] at hq ⊢
        obtain ⟨q1, q2, q3, q4, e1, e2, e3, e4, _, _, _, _, s5, s6⟩ := aCP f3
        have r1 : q1 = n := by omega
        have r2 : q2 = C := by omega
        have r3 : q3 = H := by omega
        have r4 : q4 = V := by omega
        subst r1 r2 r3 r4
        rw [s6]
        have gg : aFL q1 q2 O' K' q3 q4 P R s p g.2.2 w.2.2 := ⟨by rw [g6]; exact Nat.mul_assoc _ _ _, w6, by rw [<- Nat.mul_assoc]; exact g5, w5, ag, aw, c3.symm, c4.symm, by omega, by omega, s5, by omega, by omega, by omega⟩
        rw [vN (r := P) (n := R) (by omega), vN (r := q3) (n := q4) (by omega), Int.toNat_natCast]
        refine aII gg (by simp) ?_
        simp only [Int.toNat_natCast] at hq
        exact hq
      · rw [if_pos (by simpa using h9)]
        rw [if_pos (by simpa using h9)] at hq
        rw [J1 h9]
        exact hq
end Go.Proofs.YtcfpfefadlnmcaaGreat
namespace Go.Proofs.YtcfpfefadlnmcaaGreat
end Go.Proofs.YtcfpfefadlnmcaaGreat
namespace Go.Proofs.YtcfpfefadlnmcaaGreat
end Go.Proofs.YtcfpfefadlnmcaaGreat

namespace Go.Proofs.YtcfpfefadlnmcaaGreat
open Go.Mach Go.RowKit
set_option maxRecDepth 100000
set_option linter.unusedVariables false
set_option linter.unusedSimpArgs false
theorem aCK (r c:Int) (h:0<szF [r,c]):1<=r/\r<=4096/\1<=c/\c<=4096/\r*c<=8192/\szF [r,c]=r*c:=by
 have e:szF [r,c]=if ((decide (r<1)||decide (4096<r))||decide (8192<IntKind.i64.wrap (1*r)))=true then 0 else if ((decide (c<1)||decide (4096<c))||decide (8192<IntKind.i64.wrap (IntKind.i64.wrap (1*r)*c)))=true then 0 else IntKind.i64.wrap (IntKind.i64.wrap (1*r)*c):=rfl
 rw [e] at h ⊢
 by_cases h1:((decide (r<1)||decide (4096<r))||decide (8192<IntKind.i64.wrap (1*r)))=true
 ·rw [if_pos h1] at h; omega
 ·rw [if_neg h1] at h ⊢
  simp only [Bool.or_eq_true,decide_eq_true_eq,not_or] at h1
  rw [Int.one_mul,aA r (by omega) (by omega)] at h h1 ⊢
  by_cases h2:((decide (c<1)||decide (4096<c))||decide (8192<IntKind.i64.wrap (r*c)))=true
  ·rw [if_pos h2] at h; omega
  ·rw [if_neg h2] at h ⊢
   simp only [Bool.or_eq_true,decide_eq_true_eq,not_or] at h2
   have:=A7 r c 4096 4096 (by omega) (by omega) (by omega) (by omega) (by omega)
   rw [aA (r*c) (by omega) (by omega)] at h2 h ⊢
   omega
def kM (R C:Nat) (f:Nat->Nat->Int):List Int:=(List.range R).flatMap fun r=>(List.range C).map (f r)
theorem vL (R C:Nat) (f:Nat->Nat->Int):kM (R+1) C f=kM R C f++(List.range C).map (f R):=by
 unfold kM
 rw [List.range_succ,List.flatMap_append]
 simp
theorem zJ (R C:Nat) (f:Nat->Nat->Int):(kM R C f).length=R*C:=by
 induction R with
 | zero=>simp [kM]
 | succ R ih=>rw [vL,List.length_append,ih]; simp [Nat.add_mul]
def mE (n:Int) (l:List T3):Int:=if l.all cK=true then (if l.all (fun t=>(t.1.length:Int)==n)=true then 0 else 2) else 1
theorem VF {n : Int} {l : List T3} {Q : Int -> Prop} (hl : l.length <= 1000000) (h : Q (mE n l)) : u4 n l Q := by
  refine ⟨?_⟩
  refine ⟨?_⟩
  refine Loop.range (B := rD l (l.length : Int) _ _) l.length (fun i => (i : Int)) (fun i => (l.take i).all cK = true) rfl ?_ ?_
  · intro i hi hI X hX
    unfold rD
    rw [if_pos (by simpa using hi)]
    refine ⟨by omega, kG ?_⟩
    simp only [Int.toNat_natCast]
    cases hm : cK (l.getD i ([], 0, [])) with
    | true =>
      rw [if_neg (by simp [hm])]
      rw [aA _ (by omega) (by omega)]
      exact hX (by rw [O8 (d := ([], 0, [])) hi, hI, hm]; rfl)
    | false =>
      rw [if_pos (by simp [hm])]
      unfold mE at h
      rw [if_neg (by rw [aA7 hi hm]; simp)] at h
      exact h
  · intro hI X
    unfold rD
    rw [if_neg (by simp)]
    rw [List.take_length] at hI
    unfold mE at h
    rw [if_pos hI] at h
    refine ⟨?_⟩
    refine Loop.range (B := qM n l (l.length : Int) _ _) l.length (fun i => (i : Int)) (fun i => (l.take i).all (fun t => (t.1.length : Int) == n) = true) rfl ?_ ?_
    · intro i hi hJ X hX
      unfold qM
      rw [if_pos (by simpa using hi)]
      refine ⟨by omega, ?_⟩
      simp only [Int.toNat_natCast]
      cases hm : (((l.getD i ([], 0, [])).1.length : Int) == n) with
      | true =>
        rw [if_neg (by unfold bne; rw [hm]; simp)]
        rw [aA _ (by omega) (by omega)]
        exact hX (by rw [O8 (d := ([], 0, [])) hi, hJ, hm]; rfl)
      | false =>
        rw [if_pos (by unfold bne; rw [hm]; rfl)]
        rw [if_neg (by rw [aA7 (d := ([], 0, [])) hi hm]; simp)] at h
        exact h
    · intro hJ X
      unfold qM
      rw [if_neg (by simp)]
      rw [List.take_length] at hJ
      rw [if_pos hJ] at h
      exact h
def rM (s:Int) (g:Nat->Int):Nat->Int
 | 0=>s
 | n+1=>rM s g n+g n
theorem YP (s:Int) (g:Nat->Int) (n:Nat):rM s g n=s+bR g n:=by
 induction n with
 | zero=>simp [rM,bR]
 | succ n ih=>simp only [rM,bR]; rw [ih,Int.add_assoc]
theorem HD {s:Int} {g:Nat->Int} {n:Nat} (hs : -1048576<=s/\s<=1048576) (hn:n<=1000000) (h:∀ i,-16384<=g i/\g i<=16384) : -17432576000<=rM s g n/\rM s g n<=17432576000:=by
 have:=HR g 16384 n fun i _=>h i
 rw [YP]
 omega
theorem E7 {s:Int} {g:Nat->Int} {n:Nat} (hs : -1048576<=s/\s<=1048576) (hn:n<=959) (h:∀ i,-16384<=g i/\g i<=16384) : -16760832<=rM s g n/\rM s g n<=16760832:=by
 have:=HR g 16384 n fun i _=>h i
 rw [YP]
 omega
theorem mac {s a b:Int} (hs : -17432576000<=s/\s<=17432576000) (ha : -128<=a/\a<=127) (hb : -128<=b/\b<=127):IntKind.i64.wrap (s+IntKind.i64.wrap (IntKind.i64.wrap a*IntKind.i64.wrap b))=s+a*b:=by
 have:=RV ha hb
 rw [aA a (by omega) (by omega),aA b (by omega) (by omega),aA (a*b) (by omega) (by omega),aA _ (by omega) (by omega)]
theorem aIO {s a:Int} (hs : -17432576000<=s/\s<=17432576000) (ha : -128<=a/\a<=127):IntKind.i64.wrap (s+IntKind.i64.wrap a)=s+a:=by
 rw [aA a (by omega) (by omega),aA _ (by omega) (by omega)]
def fwC (n:Nat) (e be:Int) (b x w:List Int) (r o:Nat):Int:=rM (alF (b.getD o 0) be e) (fun i=>x.getD (r*n+i) 0*w.getD (o*n+i) 0) n
theorem aHJ {r o n:Nat} {bd b xd x wd w:List Int} {be e xe we:Int} (ho:o<b.length) (hx:r*n+n<=x.length) (hw:o*n+n<=w.length) (lx:x.length<=8192) (lw:w.length<=8192) (hn:n<=959) (bx:All8 x) (bw:All8 w) (bb:All8 b) {Q:Int->Prop} (h:Q (fwC n e be b x w r o)):pH (r:Int) (o:Int) bd be b e (n:Int) xd xe x wd we w Q:=by
 refine ⟨?_⟩
 refine ⟨by omega,?_⟩
 have hb:=bb.at_ o
 simp only [Int.toNat_natCast]
 rw [aA (b.getD o 0) (by omega) (by omega)]
 refine aF0 ⟨?_⟩
 refine Loop.range (B:=jR (r:Int) (o:Int) (n:Int) x w (n:Int) _) (f:=fun i=>(rM (alF (b.getD o 0) be e) (fun i=>x.getD (r*n+i) 0*w.getD (o*n+i) 0) i,(i:Int))) n (fun _=>True) trivial ?_ ?_
 ·intro i hi _ X hX
  unfold jR
  rw [if_pos (by simpa using hi)]
  dsimp only
  have hs:=HD (s:=alF (b.getD o 0) be e) (g:=fun i=>x.getD (r*n+i) 0*w.getD (o*n+i) 0) (n:=i) (V0 (bb.at_ o)) (by omega) (fun i=>RV (bx.at_ _) (bw.at_ _))
  rw [ix (r:=r) (n:=n) (i:=i) (by omega)]
  rw [ix (r:=o) (n:=n) (i:=i) (by omega)]
  refine ⟨⟨by omega,by omega⟩,⟨by omega,by omega⟩,?_⟩
  simp only [Int.toNat_natCast]
  rw [mac hs (bx.at_ _) (bw.at_ _),aA ((i:Int)+1) (by omega) (by omega)]
  exact hX trivial
 ·intro _ X
  unfold jR
  rw [if_neg (by simp)]
  exact h
theorem aGg {n:Nat} {e be:Int} {b x w:List Int} {r o:Nat} (hn:n<=959) (bx:All8 x) (bw:All8 w) (bb:All8 b) : -16760832<=fwC n e be b x w r o/\fwC n e be b x w r o<=16760832:=E7 (V0 (bb.at_ o)) hn (fun i=>RV (bx.at_ _) (bw.at_ _))
def kR (R C n e:Int) (f:Nat->Nat->Int):T3×Int :=
 if ((!kL n||decide (128<e))||decide (e < -128))=true then (Z3,3)
 else if (!decide (0<szF [R,C]))=true then (Z3,1)
 else (([R,C],(e,kM R.toNat C.toNat f)),0)
theorem XP {b bd x xd w wd : List Int} {be e2 n2 xe we : Int} {R C n e : Int} {f : Nat -> Nat -> Int} {Q : T3 × Int -> Prop}
    (hc : kL n = true -> 0 < szF [R, C] -> ∀ r q : Nat, r < R.toNat -> q < C.toNat -> -2147483648 <= f r q /\ f r q <= 2147483647 /\ ∀ K : Int -> Prop, K (f r q) -> pH (r : Int) (q : Int) bd be b e2 n2 xd xe x wd we w K)
    (h : Q (kR R C n e f)) : eV R C n e bd be b e2 n2 xd xe x wd we w Q := by
  refine ⟨?_⟩
  refine P3 ?_
  unfold kR at h
  by_cases h1 : ((!kL n || decide (128 < e)) || decide (e < -128)) = true
  · rw [if_pos h1] at h ⊢; exact h
  · rw [if_neg h1] at h ⊢
    refine EB ?_
    by_cases h2 : (!decide (0 < szF [R, C])) = true
    · rw [if_pos h2] at h ⊢; exact h
    · rw [if_neg h2] at h ⊢
      have hfit : kL n = true := by
        simp only [Bool.or_eq_true, not_or] at h1
        have := h1.1.1
        cases hq : kL n with
        | true => rfl
        | false => rw [hq] at this; exact absurd rfl this
      have hsz : 0 < szF [R, C] := by simpa using h2
      have hc := hc hfit hsz
      obtain ⟨k1, k2, k3, k4, k5, _⟩ := aCK R C hsz
      obtain ⟨R, rfl⟩ := Int.eq_ofNat_of_zero_le (show 0 <= R by omega)
      obtain ⟨C, rfl⟩ := Int.eq_ofNat_of_zero_le (show 0 <= C by omega)
      have hRC : R * C <= 8192 := by rw [<- Int.natCast_mul] at k5; omega
      simp only [Int.toNat_natCast] at hc h
      refine ⟨?_⟩
      refine Loop.range (B := dE (C : Int) bd be b e2 n2 xd xe x wd we w (R : Int) _) (f := fun r => ((r : Int), kM r C f)) R (fun _ => True) trivial ?_ ?_
      · intro r hr _ X hX
        unfold dE
        rw [if_pos (by simpa using hr)]
        refine ⟨?_⟩
        dsimp only
        have hl := zJ r C f
        have hrc : (r + 1) * C <= R * C := Nat.mul_le_mul_right C hr
        rw [Nat.add_mul, Nat.one_mul] at hrc
        rw [show (0, kM r C f) = ((fun q : Nat => ((q : Int), kM r C f ++ (List.range q).map (f r))) 0) by simp]
        refine Loop.range (f := fun q => ((q : Int), kM r C f ++ (List.range q).map (f r))) C (fun _ => True) trivial ?_ ?_
        · intro q hcc _ Y hY
          unfold fD
          rw [if_pos (by simpa using hcc)]
          obtain ⟨m1, m2, m3⟩ := hc r q hr hcc
          refine m3 _ ?_
          refine ⟨?_, ?_⟩
          · simp only [List.length_append, List.length_map, List.length_range, List.length_singleton, hl]
            omega
          · have := hY trivial
            simp only [List.range_succ, List.map_append, List.map_cons, List.map_nil, <- List.append_assoc] at this
            rw [vG _ m1 m2, aA ((q : Int) + 1) (by omega) (by omega)]
            exact this
        · intro _ Y
          unfold fD
          rw [if_neg (by simp)]
          have := hX trivial
          simp only [vL] at this
          dsimp only
          rw [aA ((r : Int) + 1) (by omega) (by omega)]
          exact this
      · intro _ X
        unfold dE
        rw [if_neg (by simp)]
        exact h
theorem W6 {a:T3} (h:cK a=true):(0<szF a.1/\(a.2.2.length:Int)=szF a.1) /\ -64<=a.2.1/\a.2.1<=64 /\ -128∉a.2.2:=by
 obtain ⟨h1,h2,h3,h4⟩:=eI.1 h
 exact ⟨⟨h1,h2⟩,h3.1,h3.2,h4⟩
theorem yY {n:Int} (h:kL n=true):0<=n/\n<=959:=aCU.1 h
theorem ZU {t : T3} (h : cK t = true) (h2 : t.1.length = 2) : ∃ R C : Nat, t.1 = [(R : Int), (C : Int)] /\ 1 <= R /\ R <= 4096 /\ 1 <= C /\ C <= 4096 /\ R * C <= 8192 /\ t.2.2.length = R * C /\ -64 <= t.2.1 /\ t.2.1 <= 64 := by
  obtain ⟨m1, m2, m3, _⟩ := W6 h
  obtain ⟨l1, l2⟩ := m1
  obtain ⟨d, e, v⟩ := t
  match d, h2 with
  | [r, c], _ =>
    obtain ⟨k1, k2, k3, k4, k5, k6⟩ := aCK r c l1
    obtain ⟨R, rfl⟩ := Int.eq_ofNat_of_zero_le (show 0 <= r by omega)
    obtain ⟨C, rfl⟩ := Int.eq_ofNat_of_zero_le (show 0 <= c by omega)
    simp only at l2
    have l2' : (v.length : Int) = ((R * C : Nat) : Int) := by rw [l2, k6, Int.natCast_mul]
    rw [<- Int.natCast_mul] at k5
    exact ⟨R, C, rfl, by omega, by omega, by omega, by omega, by omega, by show v.length = _; omega, m2, m3⟩
theorem aI7 {t : T3} (h : cK t = true) (h2 : t.1.length = 1) : ∃ C : Nat, t.1 = [(C : Int)] /\ 1 <= C /\ C <= 4096 /\ t.2.2.length = C := by
  obtain ⟨m1, m2, m3, _⟩ := W6 h
  obtain ⟨l1, l2⟩ := m1
  obtain ⟨d, e, v⟩ := t
  match d, h2 with
  | [c], _ =>
    obtain ⟨k1, k2, k3⟩ := aEz l1
    obtain ⟨C, rfl⟩ := Int.eq_ofNat_of_zero_le (show 0 <= c by omega)
    simp only at l2
    exact ⟨C, rfl, by omega, by omega, by show v.length = _; omega⟩
theorem ZT {n:Int} {x w:T3} (h:mE n [x,w]=0):cK x=true/\cK w=true/\(x.1.length:Int)=n/\(w.1.length:Int)=n:=by
 unfold mE at h
 split at h
 ·rename_i h1
  split at h
  ·rename_i h2
   simp only [List.all_cons,List.all_nil,Bool.and_true,Bool.and_eq_true,beq_iff_eq] at h1 h2
   exact ⟨h1.1,h1.2,h2.1,h2.2⟩
  ·omega
 ·omega
def VM (x w b:T3):T3×Int :=
 if (!cK b)=true then (Z3,1)
 else if (mE 2 [x,w] != 0)=true then (Z3,mE 2 [x,w])
 else if (((w.1.getD 1 0 != x.1.getD 1 0)||((b.1.length:Int) != 1))||(b.1.getD 0 0 != w.1.getD 0 0))=true then (Z3,2)
 else kR (x.1.getD 0 0) (w.1.getD 0 0) (x.1.getD 1 0) (x.2.1+w.2.1) (fwC (x.1.getD 1 0).toNat (x.2.1+w.2.1) b.2.1 b.2.2 x.2.2 w.2.2)
theorem aHg {x w b : T3} {Q : T3 × Int -> Prop} (bx : All8 x.2.2) (bw : All8 w.2.2) (bb : All8 b.2.2) (h : Q (VM x w b)) : xM x w b Q := by
  refine ⟨?_⟩
  refine kG ?_
  unfold VM at h
  by_cases h1 : (!cK b) = true
  · rw [if_pos h1] at h
    rw [if_pos h1]; exact h
  · rw [if_neg h1] at h
    rw [if_neg h1]
    refine VF (by simp) ?_
    by_cases h2 : (mE 2 [x, w] != 0) = true
    · rw [if_pos h2] at h ⊢; exact h
    · rw [if_neg h2] at h ⊢
      obtain ⟨mx, mw, lx, lw⟩ := ZT (by simpa using h2)
      have mb : cK b = true := by simpa using h1
      obtain ⟨R, n, ex, x1, x2, x3, x4, x5, x6, x7, x8⟩ := ZU mx (by omega)
      obtain ⟨C, m, ew, w1, w2, w3, w4, w5, w6, w7, w8⟩ := ZU mw (by omega)
      rw [ex, ew] at h ⊢
      refine ⟨by simp, by simp, by simp, by simp, ?_⟩
      have key : ∀ v : Bool, (((((m : Int) != (n : Int)) || ((b.1.length : Int) != 1)) || (b.1.getD 0 0 != (C : Int))) = v) -> (if v = true then Q (Z3, 2) else eV (R : Int) (C : Int) (n : Int) (IntKind.i64.wrap (x.2.1 + w.2.1)) b.1 b.2.1 b.2.2 (IntKind.i64.wrap (x.2.1 + w.2.1)) (n : Int) [(R : Int), (n : Int)] x.2.1 x.2.2 [(C : Int), (m : Int)] w.2.1 w.2.2 (fun r5 => Q ((r5.1.1, (r5.1.2.1, r5.1.2.2)), r5.2))) := by
        intro v hv
        cases v with
        | true =>
          rw [if_pos rfl]
          rw [if_pos (by simpa using hv)] at h
          exact h
        | false =>
          rw [if_neg (by simp)]
          rw [if_neg (by show ¬ _ = true; rw [show ((((([(C : Int), (m : Int)].getD 1 0) != ([(R : Int), (n : Int)].getD 1 0)) || ((b.1.length : Int) != 1)) || (b.1.getD 0 0 != [(C : Int), (m : Int)].getD 0 0))) = false from hv]; simp)] at h
          simp only [Bool.or_eq_false_iff, bne_eq_false_iff_eq] at hv
          obtain ⟨⟨h3, h4⟩, h5⟩ := hv
          obtain ⟨D, eb, b1, b2, b3⟩ := aI7 mb (by omega)
          have hD : D = C := by
            have : (D : Int) = (C : Int) := by rw [eb] at h5; simpa using h5
            omega
          have hmn : m = n := by omega
          subst hD; subst hmn
          rw [aA (x.2.1 + w.2.1) (by omega) (by omega)]
          refine XP (f := fwC m (x.2.1 + w.2.1) b.2.1 b.2.2 x.2.2 w.2.2) ?_ h
          intro hfit hsz r c hr hcc
          have hn := yY hfit
          have := aGg (n := m) (e := x.2.1 + w.2.1) (be := b.2.1) (r := r) (o := c) (by omega) bx bw bb
          refine ⟨by omega, by omega, fun K hK => ?_⟩
          simp only [Int.toNat_natCast] at hr hcc
          have k1 : (r + 1) * m <= R * m := Nat.mul_le_mul_right m hr
          have k2 : (c + 1) * m <= D * m := Nat.mul_le_mul_right m hcc
          rw [Nat.add_mul, Nat.one_mul] at k1 k2
          exact aHJ (by omega) (by omega) (by omega) (by omega) (by omega) (by omega) bx bw bb hK
      show (if (((m : Int) != (n : Int)) || ((b.1.length : Int) != 1)) = true then _ else _)
      by_cases h3 : (((m : Int) != (n : Int)) || ((b.1.length : Int) != 1)) = true
      · rw [if_pos h3]
        exact key true (by rw [h3]; rfl)
      · rw [if_neg h3]
        have h4 : b.1.length = 1 := by
          simp only [Bool.or_eq_true, not_or, bne_iff_ne, ne_eq, Classical.not_not] at h3
          omega
        refine ⟨⟨by omega, by omega⟩, key _ ?_⟩
        have h3' : (((m : Int) != (n : Int)) || ((b.1.length : Int) != 1)) = false := by simpa using h3
        rw [h3']
        rfl
end Go.Proofs.YtcfpfefadlnmcaaGreat

namespace Go.Proofs.YtcfpfefadlnmcaaGreat
open Go.Mach Go.RowKit
set_option maxRecDepth 100000
set_option linter.unusedVariables false
set_option linter.unusedSimpArgs false
def inC (n C:Nat) (g w:List Int) (r i:Nat):Int:=rM 0 (fun o=>g.getD (r*n+o) 0*w.getD (o*C+i) 0) n
theorem aHu {r i n C:Nat} {gd g wd w:List Int} {ge we:Int} (hg:r*n+n<=g.length) (hw:n*C<=w.length) (hi:i<C) (lg:g.length<=8192) (lw:w.length<=8192) (hn:n<=959) (bg:All8 g) (bw:All8 w) {Q:Int->Prop} (h:Q (inC n C g w r i)):sQ (r:Int) (i:Int) (n:Int) gd ge g wd we w (C:Int) Q:=by
 refine ⟨⟨?_⟩⟩
 refine Loop.range (B:=lW (r:Int) (i:Int) (n:Int) g w (C:Int) (n:Int) _) (f:=fun o=>(rM 0 (fun o=>g.getD (r*n+o) 0*w.getD (o*C+i) 0) o,(o:Int))) n (fun _=>True) trivial ?_ ?_
 ·intro o ho _ X hX
  unfold lW
  rw [if_pos (by simpa using ho)]
  dsimp only
  have hs:=HD (s:=0) (g:=fun o=>g.getD (r*n+o) 0*w.getD (o*C+i) 0) (n:=o) (by omega) (by omega) (fun o=>RV (bg.at_ _) (bw.at_ _))
  have hl:=jM (R:=n) ho hi
  rw [ix (r:=r) (n:=n) (i:=o) (by omega),ix (r:=o) (n:=C) (i:=i) (by omega)]
  refine ⟨⟨by omega,by omega⟩,⟨by omega,by omega⟩,?_⟩
  simp only [Int.toNat_natCast]
  rw [mac hs (bg.at_ _) (bw.at_ _),aA ((o:Int)+1) (by omega) (by omega)]
  exact hX trivial
 ·intro _ X
  unfold lW
  rw [if_neg (by simp)]
  exact h
theorem aG2 {n C:Nat} {g w:List Int} {r i:Nat} (hn:n<=959) (bg:All8 g) (bw:All8 w) : -16760832<=inC n C g w r i/\inC n C g w r i<=16760832:=E7 (by omega) hn (fun i=>RV (bg.at_ _) (bw.at_ _))
def wgC (n R C:Nat) (g x:List Int) (o i:Nat):Int:=rM 0 (fun r=>g.getD (r*R+o) 0*x.getD (r*C+i) 0) n
theorem aHf {o i n R C:Nat} {gd g xd x:List Int} {ge xe:Int} (hg:n*R<=g.length) (hx:n*C<=x.length) (ho:o<R) (hi:i<C) (lg:g.length<=8192) (lx:x.length<=8192) (hn:n<=959) (bg:All8 g) (bx:All8 x) {Q:Int->Prop} (h:Q (wgC n R C g x o i)):qR (o:Int) (i:Int) (n:Int) gd ge g (R:Int) xd xe x (C:Int) Q:=by
 refine ⟨⟨?_⟩⟩
 refine Loop.range (B:=kD (o:Int) (i:Int) g (R:Int) x (C:Int) (n:Int) _) (f:=fun r=>(rM 0 (fun r=>g.getD (r*R+o) 0*x.getD (r*C+i) 0) r,(r:Int))) n (fun _=>True) trivial ?_ ?_
 ·intro r hr _ X hX
  unfold kD
  rw [if_pos (by simpa using hr)]
  dsimp only
  have hs:=HD (s:=0) (g:=fun r=>g.getD (r*R+o) 0*x.getD (r*C+i) 0) (n:=r) (by omega) (by omega) (fun o=>RV (bg.at_ _) (bx.at_ _))
  have h1:=jM (R:=n) hr ho
  have h2:=jM (R:=n) hr hi
  rw [ix (r:=r) (n:=R) (i:=o) (by omega),ix (r:=r) (n:=C) (i:=i) (by omega)]
  refine ⟨⟨by omega,by omega⟩,⟨by omega,by omega⟩,?_⟩
  simp only [Int.toNat_natCast]
  rw [mac hs (bg.at_ _) (bx.at_ _),aA ((r:Int)+1) (by omega) (by omega)]
  exact hX trivial
 ·intro _ X
  unfold kD
  rw [if_neg (by simp)]
  exact h
theorem aEQ {n R C:Nat} {g x:List Int} {o i:Nat} (hn:n<=959) (bg:All8 g) (bx:All8 x) : -16760832<=wgC n R C g x o i/\wgC n R C g x o i<=16760832:=E7 (by omega) hn (fun i=>RV (bg.at_ _) (bx.at_ _))
def biC (n C:Nat) (g:List Int) (o:Nat):Int:=rM 0 (fun r=>g.getD (r*C+o) 0) n
theorem aHc {q o n C:Nat} {gd g:List Int} {ge:Int} (hg:n*C<=g.length) (ho:o<C) (lg:g.length<=8192) (hn:n<=959) (bg:All8 g) {Q:Int->Prop} (h:Q (biC n C g o)):uS (q:Int) (o:Int) (n:Int) gd ge g (C:Int) Q:=by
 refine ⟨⟨?_⟩⟩
 refine Loop.range (B:=mN (o:Int) g (C:Int) (n:Int) _) (f:=fun r=>(rM 0 (fun r=>g.getD (r*C+o) 0) r,(r:Int))) n (fun _=>True) trivial ?_ ?_
 ·intro r hr _ X hX
  unfold mN
  rw [if_pos (by simpa using hr)]
  dsimp only
  have hs:=HD (s:=0) (g:=fun r=>g.getD (r*C+o) 0) (n:=r) (by omega) (by omega) (fun k=>by have:=bg.at_ (k*C+o); omega)
  have h1:=jM (R:=n) hr ho
  rw [ix (r:=r) (n:=C) (i:=o) (by omega)]
  refine ⟨⟨by omega,by omega⟩,?_⟩
  simp only [Int.toNat_natCast]
  rw [aIO hs (bg.at_ _),aA ((r:Int)+1) (by omega) (by omega)]
  exact hX trivial
 ·intro _ X
  unfold mN
  rw [if_neg (by simp)]
  exact h
theorem aGC {n C:Nat} {g:List Int} {o:Nat} (hn:n<=959) (bg:All8 g) : -16760832<=biC n C g o/\biC n C g o<=16760832:=E7 (by omega) hn (fun k=>by have:=bg.at_ (k*C+o); omega)
theorem aCE {gd g wd w : List Int} {n2 ge we cl : Int} {R C n e : Int} {f : Nat -> Nat -> Int} {Q : T3 × Int -> Prop}
    (hc : kL n = true -> 0 < szF [R, C] -> ∀ r q : Nat, r < R.toNat -> q < C.toNat -> -2147483648 <= f r q /\ f r q <= 2147483647 /\ ∀ K : Int -> Prop, K (f r q) -> sQ (r : Int) (q : Int) n2 gd ge g wd we w cl K)
    (h : Q (kR R C n e f)) : jH R C n e n2 gd ge g wd we w cl Q := by
  refine ⟨?_⟩
  refine P3 ?_
  unfold kR at h
  by_cases h1 : ((!kL n || decide (128 < e)) || decide (e < -128)) = true
  · rw [if_pos h1] at h ⊢; exact h
  · rw [if_neg h1] at h ⊢
    refine EB ?_
    by_cases h2 : (!decide (0 < szF [R, C])) = true
    · rw [if_pos h2] at h ⊢; exact h
    · rw [if_neg h2] at h ⊢
      have hfit : kL n = true := by
        simp only [Bool.or_eq_true, not_or] at h1
        have := h1.1.1
        cases hq : kL n with
        | true => rfl
        | false => rw [hq] at this; exact absurd rfl this
      have hsz : 0 < szF [R, C] := by simpa using h2
      have hc := hc hfit hsz
      obtain ⟨k1, k2, k3, k4, k5, _⟩ := aCK R C hsz
      obtain ⟨R, rfl⟩ := Int.eq_ofNat_of_zero_le (show 0 <= R by omega)
      obtain ⟨C, rfl⟩ := Int.eq_ofNat_of_zero_le (show 0 <= C by omega)
      have hRC : R * C <= 8192 := by rw [<- Int.natCast_mul] at k5; omega
      simp only [Int.toNat_natCast] at hc h
      refine ⟨?_⟩
      refine Loop.range (B := dP (C : Int) n2 gd ge g wd we w cl (R : Int) _) (f := fun r => ((r : Int), kM r C f)) R (fun _ => True) trivial ?_ ?_
      · intro r hr _ X hX
        unfold dP
        rw [if_pos (by simpa using hr)]
        refine ⟨?_⟩
        dsimp only
        have hl := zJ r C f
        have hrc : (r + 1) * C <= R * C := Nat.mul_le_mul_right C hr
        rw [Nat.add_mul, Nat.one_mul] at hrc
        rw [show (0, kM r C f) = ((fun q : Nat => ((q : Int), kM r C f ++ (List.range q).map (f r))) 0) by simp]
        refine Loop.range (f := fun q => ((q : Int), kM r C f ++ (List.range q).map (f r))) C (fun _ => True) trivial ?_ ?_
        · intro q hcc _ Y hY
          unfold fW
          rw [if_pos (by simpa using hcc)]
          obtain ⟨m1, m2, m3⟩ := hc r q hr hcc
          refine m3 _ ?_
          refine ⟨?_, ?_⟩
          · simp only [List.length_append, List.length_map, List.length_range, List.length_singleton, hl]
            omega
          · have := hY trivial
            simp only [List.range_succ, List.map_append, List.map_cons, List.map_nil, <- List.append_assoc] at this
            rw [vG _ m1 m2, aA ((q : Int) + 1) (by omega) (by omega)]
            exact this
        · intro _ Y
          unfold fW
          rw [if_neg (by simp)]
          have := hX trivial
          simp only [vL] at this
          dsimp only
          rw [aA ((r : Int) + 1) (by omega) (by omega)]
          exact this
      · intro _ X
        unfold dP
        rw [if_neg (by simp)]
        exact h
theorem aA0 {gd g xd x : List Int} {n2 ge xe rws cl : Int} {R C n e : Int} {f : Nat -> Nat -> Int} {Q : T3 × Int -> Prop}
    (hc : kL n = true -> 0 < szF [R, C] -> ∀ r q : Nat, r < R.toNat -> q < C.toNat -> -2147483648 <= f r q /\ f r q <= 2147483647 /\ ∀ K : Int -> Prop, K (f r q) -> qR (r : Int) (q : Int) n2 gd ge g rws xd xe x cl K)
    (h : Q (kR R C n e f)) : i6 R C n e n2 gd ge g rws xd xe x cl Q := by
  refine ⟨?_⟩
  refine P3 ?_
  unfold kR at h
  by_cases h1 : ((!kL n || decide (128 < e)) || decide (e < -128)) = true
  · rw [if_pos h1] at h ⊢; exact h
  · rw [if_neg h1] at h ⊢
    refine EB ?_
    by_cases h2 : (!decide (0 < szF [R, C])) = true
    · rw [if_pos h2] at h ⊢; exact h
    · rw [if_neg h2] at h ⊢
      have hfit : kL n = true := by
        simp only [Bool.or_eq_true, not_or] at h1
        have := h1.1.1
        cases hq : kL n with
        | true => rfl
        | false => rw [hq] at this; exact absurd rfl this
      have hsz : 0 < szF [R, C] := by simpa using h2
      have hc := hc hfit hsz
      obtain ⟨k1, k2, k3, k4, k5, _⟩ := aCK R C hsz
      obtain ⟨R, rfl⟩ := Int.eq_ofNat_of_zero_le (show 0 <= R by omega)
      obtain ⟨C, rfl⟩ := Int.eq_ofNat_of_zero_le (show 0 <= C by omega)
      have hRC : R * C <= 8192 := by rw [<- Int.natCast_mul] at k5; omega
      simp only [Int.toNat_natCast] at hc h
      refine ⟨?_⟩
      refine Loop.range (B := dJ (C : Int) n2 gd ge g rws xd xe x cl (R : Int) _) (f := fun r => ((r : Int), kM r C f)) R (fun _ => True) trivial ?_ ?_
      · intro r hr _ X hX
        unfold dJ
        rw [if_pos (by simpa using hr)]
        refine ⟨?_⟩
        dsimp only
        have hl := zJ r C f
        have hrc : (r + 1) * C <= R * C := Nat.mul_le_mul_right C hr
        rw [Nat.add_mul, Nat.one_mul] at hrc
        rw [show (0, kM r C f) = ((fun q : Nat => ((q : Int), kM r C f ++ (List.range q).map (f r))) 0) by simp]
        refine Loop.range (f := fun q => ((q : Int), kM r C f ++ (List.range q).map (f r))) C (fun _ => True) trivial ?_ ?_
        · intro q hcc _ Y hY
          unfold fQ
          rw [if_pos (by simpa using hcc)]
          obtain ⟨m1, m2, m3⟩ := hc r q hr hcc
          refine m3 _ ?_
          refine ⟨?_, ?_⟩
          · simp only [List.length_append, List.length_map, List.length_range, List.length_singleton, hl]
            omega
          · have := hY trivial
            simp only [List.range_succ, List.map_append, List.map_cons, List.map_nil, <- List.append_assoc] at this
            rw [vG _ m1 m2, aA ((q : Int) + 1) (by omega) (by omega)]
            exact this
        · intro _ Y
          unfold fQ
          rw [if_neg (by simp)]
          have := hX trivial
          simp only [vL] at this
          dsimp only
          rw [aA ((r : Int) + 1) (by omega) (by omega)]
          exact this
      · intro _ X
        unfold dJ
        rw [if_neg (by simp)]
        exact h
theorem aEN {gd g : List Int} {n2 ge cl : Int} {R C n e : Int} {f : Nat -> Nat -> Int} {Q : T3 × Int -> Prop}
    (hc : kL n = true -> 0 < szF [R, C] -> ∀ r q : Nat, r < R.toNat -> q < C.toNat -> -2147483648 <= f r q /\ f r q <= 2147483647 /\ ∀ K : Int -> Prop, K (f r q) -> uS (r : Int) (q : Int) n2 gd ge g cl K)
    (h : Q (kR R C n e f)) : j8 R C n e n2 gd ge g cl Q := by
  refine ⟨?_⟩
  refine P3 ?_
  unfold kR at h
  by_cases h1 : ((!kL n || decide (128 < e)) || decide (e < -128)) = true
  · rw [if_pos h1] at h ⊢; exact h
  · rw [if_neg h1] at h ⊢
    refine EB ?_
    by_cases h2 : (!decide (0 < szF [R, C])) = true
    · rw [if_pos h2] at h ⊢; exact h
    · rw [if_neg h2] at h ⊢
      have hfit : kL n = true := by
        simp only [Bool.or_eq_true, not_or] at h1
        have := h1.1.1
        cases hq : kL n with
        | true => rfl
        | false => rw [hq] at this; exact absurd rfl this
      have hsz : 0 < szF [R, C] := by simpa using h2
      have hc := hc hfit hsz
      obtain ⟨k1, k2, k3, k4, k5, _⟩ := aCK R C hsz
      obtain ⟨R, rfl⟩ := Int.eq_ofNat_of_zero_le (show 0 <= R by omega)
      obtain ⟨C, rfl⟩ := Int.eq_ofNat_of_zero_le (show 0 <= C by omega)
      have hRC : R * C <= 8192 := by rw [<- Int.natCast_mul] at k5; omega
      simp only [Int.toNat_natCast] at hc h
      refine ⟨?_⟩
      refine Loop.range (B := dU (C : Int) n2 gd ge g cl (R : Int) _) (f := fun r => ((r : Int), kM r C f)) R (fun _ => True) trivial ?_ ?_
      · intro r hr _ X hX
        unfold dU
        rw [if_pos (by simpa using hr)]
        refine ⟨?_⟩
        dsimp only
        have hl := zJ r C f
        have hrc : (r + 1) * C <= R * C := Nat.mul_le_mul_right C hr
        rw [Nat.add_mul, Nat.one_mul] at hrc
        rw [show (0, kM r C f) = ((fun q : Nat => ((q : Int), kM r C f ++ (List.range q).map (f r))) 0) by simp]
        refine Loop.range (f := fun q => ((q : Int), kM r C f ++ (List.range q).map (f r))) C (fun _ => True) trivial ?_ ?_
        · intro q hcc _ Y hY
          unfold hZ
          rw [if_pos (by simpa using hcc)]
          obtain ⟨m1, m2, m3⟩ := hc r q hr hcc
          refine m3 _ ?_
          refine ⟨?_, ?_⟩
          · simp only [List.length_append, List.length_map, List.length_range, List.length_singleton, hl]
            omega
          · have := hY trivial
            simp only [List.range_succ, List.map_append, List.map_cons, List.map_nil, <- List.append_assoc] at this
            rw [vG _ m1 m2, aA ((q : Int) + 1) (by omega) (by omega)]
            exact this
        · intro _ Y
          unfold hZ
          rw [if_neg (by simp)]
          have := hX trivial
          simp only [vL] at this
          dsimp only
          rw [aA ((r : Int) + 1) (by omega) (by omega)]
          exact this
      · intro _ X
        unfold dU
        rw [if_neg (by simp)]
        exact h
def MT (g w:T3):T3×Int :=
 if (mE 2 [g,w] != 0)=true then (Z3,mE 2 [g,w])
 else if (w.1.getD 0 0 != g.1.getD 1 0)=true then (Z3,2)
 else kR (g.1.getD 0 0) (w.1.getD 1 0) (g.1.getD 1 0) (g.2.1+w.2.1) (inC (g.1.getD 1 0).toNat (w.1.getD 1 0).toNat g.2.2 w.2.2)
theorem aH0 {g w:T3} {Q:T3×Int->Prop} (bg:All8 g.2.2) (bw:All8 w.2.2) (h:Q (MT g w)):EH g w Q:=by
 refine ⟨VF (by simp) ?_⟩
 unfold MT at h
 by_cases h2:(mE 2 [g,w] != 0)=true
 ·rw [if_pos h2] at h ⊢; exact h
 rw [if_neg h2] at h ⊢
 obtain ⟨mg,mw,lg,lw⟩:=ZT (by simpa using h2)
 obtain ⟨R,n,eg,g1,g2,g3,g4,g5,g6,g7,g8⟩:=ZU mg (by omega)
 obtain ⟨D,C,ew,w1,w2,w3,w4,w5,w6,w7,w8⟩:=ZU mw (by omega)
 rw [eg,ew] at h ⊢
 refine ⟨by simp,by simp,by simp,by simp,?_⟩
 by_cases h3:(([(D:Int),(C:Int)].getD 0 0) != ([(R:Int),(n:Int)].getD 1 0))=true
 ·rw [if_pos h3] at h ⊢; exact h
 rw [if_neg h3] at h ⊢
 have hD:D=n:=by
  have:(D:Int)=(n:Int):=by simpa using h3
  omega
 subst hD
 rw [aA (g.2.1+w.2.1) (by omega) (by omega)]
 refine aCE ?_ h
 intro hfit hsz r c hr hcc
 have hn:=yY hfit
 simp only [List.getD_cons_zero,List.getD_cons_succ,Int.toNat_natCast] at hr hcc hn ⊢
 have hb:=aG2 (n:=D) (C:=C) (g:=g.2.2) (w:=w.2.2) (r:=r) (i:=c) (by omega) bg bw
 refine ⟨by omega,by omega,fun K hK => ?_⟩
 have k1:(r+1)*D<=R*D:=Nat.mul_le_mul_right D hr
 rw [Nat.add_mul,Nat.one_mul] at k1
 exact aHu (by omega) (by omega) hcc (by omega) (by omega) (by omega) bg bw hK
def HZ (g x:T3):T3×Int :=
 if (mE 2 [g,x] != 0)=true then (Z3,mE 2 [g,x])
 else if (x.1.getD 0 0 != g.1.getD 0 0)=true then (Z3,2)
 else kR (g.1.getD 1 0) (x.1.getD 1 0) (g.1.getD 0 0) (g.2.1+x.2.1) (wgC (g.1.getD 0 0).toNat (g.1.getD 1 0).toNat (x.1.getD 1 0).toNat g.2.2 x.2.2)
theorem aHS {g x:T3} {Q:T3×Int->Prop} (bg:All8 g.2.2) (bx:All8 x.2.2) (h:Q (HZ g x)):zU g x Q:=by
 refine ⟨VF (by simp) ?_⟩
 unfold HZ at h
 by_cases h2:(mE 2 [g,x] != 0)=true
 ·rw [if_pos h2] at h ⊢; exact h
 rw [if_neg h2] at h ⊢
 obtain ⟨mg,mx,lg,lx⟩:=ZT (by simpa using h2)
 obtain ⟨n,R,eg,g1,g2,g3,g4,g5,g6,g7,g8⟩:=ZU mg (by omega)
 obtain ⟨D,C,ex,x1,x2,x3,x4,x5,x6,x7,x8⟩:=ZU mx (by omega)
 rw [eg,ex] at h ⊢
 refine ⟨by simp,by simp,by simp,by simp,?_⟩
 by_cases h3:(([(D:Int),(C:Int)].getD 0 0) != ([(n:Int),(R:Int)].getD 0 0))=true
 ·rw [if_pos h3] at h ⊢; exact h
 rw [if_neg h3] at h ⊢
 have hD:D=n:=by
  have:(D:Int)=(n:Int):=by simpa using h3
  omega
 subst hD
 rw [aA (g.2.1+x.2.1) (by omega) (by omega)]
 refine aA0 ?_ h
 intro hfit hsz o i ho hi
 have hn:=yY hfit
 simp only [List.getD_cons_zero,List.getD_cons_succ,Int.toNat_natCast] at ho hi hn ⊢
 have hb:=aEQ (n:=D) (R:=R) (C:=C) (g:=g.2.2) (x:=x.2.2) (o:=o) (i:=i) (by omega) bg bx
 refine ⟨by omega,by omega,fun K hK => ?_⟩
 exact aHf (by omega) (by omega) ho hi (by omega) (by omega) (by omega) bg bx hK
theorem aG5 {n:Int} {x:T3} (h:mE n [x]=0):cK x=true/\(x.1.length:Int)=n:=by
 unfold mE at h
 split at h
 ·rename_i h1
  split at h
  ·rename_i h2
   simp only [List.all_cons,List.all_nil,Bool.and_true,beq_iff_eq] at h1 h2
   exact ⟨h1,h2⟩
  ·omega
 ·omega
def UK (g:T3):T3×Int:=kR 1 (g.1.getD 1 0) (g.1.getD 0 0) g.2.1 (fun _=>biC (g.1.getD 0 0).toNat (g.1.getD 1 0).toNat g.2.2)
def MQ (g:T3):T3×Int :=
 if (mE 2 [g] != 0)=true then (Z3,mE 2 [g])
 else if ((UK g).2==0)=true then (([g.1.getD 1 0],(UK g).1.2),(UK g).2) else UK g
theorem aHj {g:T3} {Q:T3×Int->Prop} (bg:All8 g.2.2) (h:Q (MQ g)):GX g Q:=by
 refine ⟨VF (by simp) ?_⟩
 unfold MQ at h
 by_cases h2:(mE 2 [g] != 0)=true
 ·rw [if_pos h2] at h ⊢; exact h
 rw [if_neg h2] at h ⊢
 obtain ⟨mg,lg⟩:=aG5 (by simpa using h2)
 obtain ⟨n,C,eg,g1,g2,g3,g4,g5,g6,g7,g8⟩:=ZU mg (by omega)
 refine ⟨by omega,by omega,?_⟩
 refine aEN (f:=fun _=>biC (g.1.getD 0 0).toNat (g.1.getD 1 0).toNat g.2.2) ?_ ?_
 ·intro hfit hsz r q hr hq
  have hn:=yY hfit
  rw [eg] at hn hq ⊢
  simp only [List.getD_cons_zero,List.getD_cons_succ,Int.toNat_natCast] at hr hq hn ⊢
  have hb:=aGC (n:=n) (C:=C) (g:=g.2.2) (o:=q) (by omega) bg
  refine ⟨by omega,by omega,fun K hK => ?_⟩
  exact aHc (by omega) hq (by omega) (by omega) bg hK
 ·show if ((UK g).2==0)=true then _ else _
  by_cases h3:((UK g).2==0)=true
  ·rw [if_pos h3] at h ⊢; exact ⟨h⟩
  ·rw [if_neg h3] at h ⊢; exact ⟨h⟩
end Go.Proofs.YtcfpfefadlnmcaaGreat

namespace Go.Proofs.YtcfpfefadlnmcaaGreat
open Go.Mach Go.RowKit
set_option maxRecDepth 100000
set_option linter.unusedVariables false
set_option linter.unusedSimpArgs false
theorem aDg (x:Int):0<=IntKind.u8.wrap x/\IntKind.u8.wrap x<256:=by
 simp only [IntKind.wrap,IntKind.bits,IntKind.signed]
 simp
 omega
def shF (a:Int):Int:=aM 0 (bP a 62)
theorem aAx (a:Int):0<=shF a/\shF a<=62:=by
 unfold shF aM bP
 split <;> split <;> omega
def b32 (a:Int):Int:=aM 1 (bP a 32)
theorem aEr (a:Int):1<=b32 a/\b32 a<=32:=by
 unfold b32 aM bP
 split <;> split <;> omega
def aGw (a:Int):Int:=IntKind.i64.wrap ((IntKind.i64.wrap (1*2 ^ (min (IntKind.i64.wrap (b32 a-1)).toNat (IntKind.i64).bits)))-1)
def clF (a b:Int):Int:=aM (IntKind.i64.wrap (0-aGw b)) (bP (C2 a) (aGw b))
theorem aFP {a:Int} {Q:Int->Prop} (h:Q (shF a)):DH a Q:=⟨aAv h⟩
theorem aE4 {a b:Int} {Q:Int->Prop} (h:Q (clF a b)):DN a b Q:=by
 refine ⟨aAv ⟨?_,aBX (V4 h)⟩⟩
 have:=aEr b
 show 0<=IntKind.i64.wrap (b32 b-1)
 rw [aA _ (by omega) (by omega)]
 omega
theorem aEF (a:Int) : -4611686018427387904<=C2 a/\C2 a<=4611686018427387904:=by
 unfold C2 aM bP
 split <;> split <;> omega
def chF (a s r:Int):Int:=(IntKind.i64.wrap (C2 a+(IntKind.i64.wrap (IntKind.u64.wrap ((BitVec.ofInt (IntKind.u64).bits r &&& BitVec.ofInt (IntKind.u64).bits (IntKind.u64.wrap ((IntKind.u64.wrap (1*2 ^ (min (shF s).toNat (IntKind.u64).bits)))-1))).toNat:Nat))))).fdiv (2 ^ (min (shF s).toNat (IntKind.i64).bits))
theorem aEM {a s r:Int} {Q:Int->Prop} (h:Q (chF a s r)):AQ a s r Q:=⟨aFP (aBX ⟨(aAx s).1,(aAx s).1,h⟩)⟩
theorem IB {a r:Int}:chF a 0 r=C2 a:=by
 have e:BitVec.ofInt (IntKind.u64).bits (IntKind.u64.wrap ((IntKind.u64.wrap (1*2 ^ (min (shF 0).toNat (IntKind.u64).bits)))-1))=0#(IntKind.u64).bits:=by decide +kernel
 have e2:(2:Int) ^ (min (shF 0).toNat (IntKind.i64).bits)=1:=by decide +kernel
 unfold chF
 rw [e,e2,BitVec.and_zero]
 have h:=aEF a
 have e3:IntKind.i64.wrap (IntKind.u64.wrap ((0#(IntKind.u64).bits).toNat:Nat))=0:=by decide +kernel
 rw [e3,Int.add_zero,aA _ (by omega) (by omega),Int.fdiv_one]
def l31 (x n:Int):Int:=IntKind.i64.wrap (n+(IntKind.i64.wrap ((wU.data.toList.getD (IntKind.u8.wrap x).toNat 0).toNat:Nat)))
def l15 (x n:Int):Int:=if 256<=x then l31 (x.fdiv (2 ^ (min ((8:Int)).toNat (IntKind.u64).bits))) (IntKind.i64.wrap (n+8)) else l31 x n
def l7 (x n:Int):Int:=if 65536<=x then l15 (x.fdiv (2 ^ (min ((16:Int)).toNat (IntKind.u64).bits))) (IntKind.i64.wrap (n+16)) else l15 x n
def aGr (x:Int):Int:=if 4294967296<=x then l7 (x.fdiv (2 ^ (min ((32:Int)).toNat (IntKind.u64).bits))) 32 else l7 x 0
theorem aFN:wU.size=256:=by decide +kernel
theorem aFt {x n:Int} {K:Int->Prop} (h:K (l31 x n)):lK x n K:=by
 refine ⟨⟨?_,h⟩⟩
 rw [aFN]
 exact ⟨(aDg x).1,(aDg x).2⟩
theorem aFg {x n:Int} {K:Int->Prop} (h:K (l15 x n)):lO x n K:=by
 refine ⟨?_⟩
 unfold l15 at h
 by_cases e:256<=x
 ·rw [if_pos e] at h
  rw [if_pos (by simpa using e)]
  exact ⟨by decide,aFt h⟩
 ·rw [if_neg e] at h
  rw [if_neg (by simpa using e)]
  exact aFt h
theorem aH6 {x n:Int} {K:Int->Prop} (h:K (l7 x n)):lT x n K:=by
 refine ⟨?_⟩
 unfold l7 at h
 by_cases e:65536<=x
 ·rw [if_pos e] at h
  rw [if_pos (by simpa using e)]
  exact ⟨by decide,aFg h⟩
 ·rw [if_neg e] at h
  rw [if_neg (by simpa using e)]
  exact aFg h
theorem aH7 {x:Int} {K:Int->Prop} (h:K (aGr x)):tN x K:=by
 refine ⟨?_⟩
 unfold aGr at h
 by_cases e:4294967296<=x
 ·rw [if_pos e] at h
  rw [if_pos (by simpa using e)]
  exact ⟨by decide,aH6 h⟩
 ·rw [if_neg e] at h
  rw [if_neg (by simpa using e)]
  exact aH6 h
def aBw (a:Int):Int:=aGr (IntKind.u64.wrap (aM (C2 a) (IntKind.i64.wrap (0-C2 a))))
theorem aGT {a:Int} {Q:Int->Prop} (h:Q (aBw a)):GL a Q:=⟨aBX (aH7 (K:=Q) h)⟩
theorem ZM (a:Int):∃ v,∀ Q:Int->Prop,Q v->DM a Q:=⟨_,fun Q h=>⟨⟨by decide,by decide,by decide,h⟩⟩⟩
theorem aFh (a b c:Int):∃ v,∀ Q:Int->Prop,Q v->NT a b c Q:=by
 obtain ⟨v1,h1⟩:=ZM a
 obtain ⟨v2,h2⟩:=ZM (IntKind.u64.wrap ((BitVec.ofInt (IntKind.u64).bits v1 ^^^ BitVec.ofInt (IntKind.u64).bits b).toNat:Nat))
 obtain ⟨v3,h3⟩:=ZM (IntKind.u64.wrap ((BitVec.ofInt (IntKind.u64).bits v2 ^^^ BitVec.ofInt (IntKind.u64).bits c).toNat:Nat))
 exact ⟨v3,fun Q h=>⟨h1 _ (h2 _ (h3 _ h))⟩⟩
noncomputable def atF (a b c:Int):Int:=Classical.choose (aFh a b c)
theorem aIS {a b c:Int} {Q:Int->Prop} (h:Q (atF a b c)):NT a b c Q:=Classical.choose_spec (aFh a b c) Q h
def pG (a:List Int×Int×List Int):Bool:=(decide (0<szF a.1)&&((a.2.2.length:Int)==szF a.1))&&R5 a.2.1 128
theorem YV {a : List Int × Int × List Int} {Q : Bool -> Prop} (h : Q (pG a)) : sP a Q := by
  refine ⟨EB ?_⟩
  unfold jn
  dsimp only
  unfold pG at h
  cases hb : decide (0 < szF a.1) with
  | true =>
    rw [hb] at h
    rw [if_pos rfl]
    refine C6 ?_
    cases hc : ((a.2.2.length : Int) == szF a.1) with
    | true =>
      rw [hc] at h
      rw [if_pos rfl]
      exact aES h
    | false =>
      rw [hc] at h
      rw [if_neg (by simp)]
      exact h
  | false =>
    rw [hb] at h
    rw [if_neg (by simp), if_neg (by simp)]
    exact h
theorem DK {a:List Int×Int×List Int} (h:pG a=true):0<szF a.1/\(a.2.2.length:Int)=szF a.1/\a.1≠[]/\a.1.length<=4/\a.2.2.length<=8192:=by
 unfold pG at h
 simp only [Bool.and_eq_true,decide_eq_true_eq,beq_iff_eq] at h
 obtain ⟨⟨h1,h2⟩,_⟩:=h
 have h3:=GF a.1
 refine ⟨h1,h2,?_,?_,by omega⟩
 ·intro e; rw [e] at h1; exact absurd h1 (by decide)
 ·unfold szF at h1
  split at h1
  ·omega
  ·rename_i hn
   simp only [Bool.or_eq_true,decide_eq_true_eq,not_or] at hn
   omega
def TF (l:List Int):Int:=l.foldl (fun m x=>aM m (aBw (IntKind.i64.wrap x))) 0
theorem aAK (l:List Int) (i:Nat) (h:i<l.length):TF (l.take (i+1))=aM (TF (l.take i)) (aBw (IntKind.i64.wrap (l.getD i 0))):=by
 unfold TF
 rw [List.take_add_one,List.foldl_append,List.getD_eq_getElem?_getD,List.getElem?_eq_getElem h]
 rfl
def VR (a:List Int×Int×List Int):Int:=if pG a=true then TF a.2.2 else 0
theorem aF9 {a : List Int × Int × List Int} {Q : Int -> Prop} (h : Q (VR a)) : BO a Q := by
  refine ⟨YV (a := a) ?_⟩
  unfold VR at h
  cases hm : pG a with
  | false =>
    rw [hm] at h
    exact h
  | true =>
    rw [hm, if_pos rfl] at h
    rw [if_neg (by simp)]
    obtain ⟨_, _, _, _, hlen⟩ := DK hm
    refine ⟨?_⟩
    refine Loop.range (B := mK a.2.2 (a.2.2.length : Int) fun y => Q y) a.2.2.length (fun i => (TF (a.2.2.take i), (i : Int))) (fun _ => True) trivial ?_ ?_
    · intro i hi _ X hX
      unfold mK
      rw [if_pos (by simpa using hi)]
      refine ⟨by simp only []; omega, aGT ?_⟩
      have := hX trivial
      rw [aAK _ _ hi] at this
      simp only [Int.toNat_natCast]
      rw [aA ((i : Int) + 1) (by omega) (by omega)]
      exact this
    · intro _ X
      unfold mK
      rw [if_neg (by simp)]
      simp only [List.take_length]
      exact h
theorem sS {a:List Int} {Q:List Int->Prop} (h1:a.length<=17592186044416) (h:Q a):aN a Q:=by
 refine ⟨fun e=>(by rw [e] at h; exact h),?_,h⟩
 simp only [List.length_nil]
 omega
theorem W2 {a:List Int} {Q:List Int->Prop} (h1:a.length<=140737488355328) (h:Q a):iM a Q:=by
 refine ⟨fun e=>(by rw [e] at h; exact h),?_,h⟩
 simp only [List.length_nil]
 omega
noncomputable def JD (b s t sh:Int) (l:List Int) (i:Nat):Int:=IntKind.i8.wrap (clF (chF (IntKind.i64.wrap (l.getD i 0)) sh (atF s t (IntKind.u64.wrap (i:Int)))) b)
noncomputable def IJ (b s t sh:Int) (l:List Int):List Int:=(List.range l.length).map (JD b s t sh l)
def pO (a:List Int×Int×List Int) (b:Int):Int:=aM 0 (IntKind.i64.wrap (VR a-(IntKind.i64.wrap (b-1))))
noncomputable def jX (a:List Int×Int×List Int) (b s t:Int):(List Int×Int×List Int)×Int :=
 if ((!(pG a)||(decide (b<2)))||(decide (8<b)))=true then (([],0,[]),1)
 else if (!(R5 (IntKind.i64.wrap (a.2.1+pO a b)) 64))=true then (([],0,[]),3)
 else ((a.1,IntKind.i64.wrap (a.2.1+pO a b),IJ b s t (pO a b) a.2.2),0)
theorem aBR {a : List Int × Int × List Int} {b s t : Int} {Q : ((List Int × Int × List Int) × Int) -> Prop} (h : Q (jX a b s t)) : uT a b s t Q := by
  refine ⟨?_⟩
  refine YV (a := a) ?_
  unfold jX at h
  by_cases e : ((!(pG a) || (decide (b < 2))) || (decide (8 < b))) = true
  · rw [if_pos e] at h ⊢; exact h
  · rw [if_neg e] at h ⊢
    have hm : pG a = true := by
      cases hm : pG a with
      | true => rfl
      | false => exfalso; apply e; rw [hm]; rfl
    obtain ⟨_, _, h3, h4, hlen⟩ := DK hm
    refine aF9 (a := a) (sS (by omega) (aES ?_))
    show (if (!(R5 (IntKind.i64.wrap (a.2.1 + pO a b)) 64)) = true then _ else _)
    by_cases e2 : (!(R5 (IntKind.i64.wrap (a.2.1 + pO a b)) 64)) = true
    · rw [if_pos e2] at h ⊢; exact h
    · rw [if_neg e2] at h ⊢
      refine ⟨?_⟩
      refine Loop.range (B := mG b s t (pO a b) a.2.2 (a.2.2.length : Int) _) (f := fun i => ((i : Int), (List.range i).map (JD b s t (pO a b) a.2.2))) a.2.2.length (fun _ => True) trivial ?_ ?_
      · intro i hi _ X hX
        unfold mG
        rw [if_pos (by simpa using hi)]
        refine ⟨by simp only []; omega, aIS (aEM (aE4 ⟨?_, ?_⟩))⟩
        · simp only [List.length_map, List.length_range, List.length_singleton]
          omega
        · have := hX trivial
          simp only [List.range_succ, List.map_append, List.map_cons, List.map_nil] at this
          simp only [Int.toNat_natCast]
          rw [aA ((i : Int) + 1) (by omega) (by omega)]
          exact this
      · intro _ X
        unfold mG
        rw [if_neg (by simp)]
        exact h
end Go.Proofs.YtcfpfefadlnmcaaGreat

namespace Go.Proofs.YtcfpfefadlnmcaaGreat
open Go.Mach Go.RowKit
set_option maxRecDepth 100000
set_option linter.unusedVariables false
set_option linter.unusedSimpArgs false
theorem ST {a b : List Int} {Q : Bool -> Prop} (hl : a.length <= 1000000000000000) (h : Q (decide (a = b))) : g9 a b Q := by
  refine ⟨?_⟩
  by_cases e : a.length = b.length
  · rw [if_neg (by simp [e])]
    refine ⟨?_⟩
    refine Loop.range (B := fS a b (a.length : Int) (fun _ => Q true) (fun _ => Q false)) a.length (fun i => (i : Int)) (fun i => ∀ j, j < i -> a.getD j 0 = b.getD j 0) (fun j hj => absurd hj (by omega)) ?_ ?_
    · intro i hi hI X hX
      unfold fS
      rw [if_pos (decide_eq_true (show (i : Int) < (a.length : Int) by omega))]
      refine ⟨by omega, by omega, ?_⟩
      simp only [Int.toNat_natCast]
      by_cases hd : a.getD i 0 = b.getD i 0
      · rw [if_neg (by simpa using hd), aA _ (by omega) (by omega)]
        refine hX fun j hj => ?_
        by_cases hji : j = i
        · subst hji; exact hd
        · exact hI j (by omega)
      · rw [if_pos (by simpa using hd)]
        have : decide (a = b) = false := by
          simp only [decide_eq_false_iff_not]
          intro hab; exact hd (by rw [hab])
        rw [this] at h; exact h
    · intro hI X
      unfold fS
      rw [if_neg (by simp)]
      have : decide (a = b) = true := by
        simp only [decide_eq_true_eq]
        refine List.ext_getElem e fun i h1 h2 => ?_
        have := hI i h1
        rw [List.getD_eq_getElem?_getD, List.getD_eq_getElem?_getD, List.getElem?_eq_getElem h1, List.getElem?_eq_getElem h2] at this
        exact this
      rw [this] at h; exact h
  · rw [if_pos (by simp; omega)]
    have : decide (a = b) = false := by
      simp only [decide_eq_false_iff_not]
      intro hab; exact e (by rw [hab])
    rw [this] at h; exact h
theorem D3 {a b:List Int} {Q:Bool->Prop} (hl:a.length<=1000000000000000) (h:Q (decide (a=b))):fC a b Q:=⟨ST hl h⟩
theorem eK {a:T3} (h:cK a=true):a.1.length<=4/\a.2.2.length<=8192/\1<=a.1.length/\1<=a.1.getD 0 0/\a.1.getD 0 0<=4096:=by
 obtain ⟨h1,h2,_⟩:=eI.1 h
 obtain ⟨h3,h4,_⟩:=lD h1
 have h5:=GF a.1
 refine ⟨h3.2,by omega,h3.1,?_⟩
 match hA:a.1 with
 | []=>rw [hA] at h3; simp at h3
 | x::l=>exact h4 x (by rw [hA]; simp)
def pN (t:T3) (d:List Int):T3×Int :=
 if cK t=true/\0<szF d then (if szF d=(t.2.2.length:Int) then ((d,t.2.1,t.2.2),0) else (([],0,[]),2)) else (([],0,[]),1)
theorem aBc {t : T3} {d : List Int} {Q : T3 × Int -> Prop} (hd : d.length <= 17592186044416) (h : Q (pN t d)) : A6 t d Q := by
  refine ⟨kG ?_⟩
  unfold jn
  dsimp only
  unfold pN at h
  cases hm : cK t with
  | false =>
    rw [if_neg (by rw [hm]; simp)] at h
    rw [if_pos (by rfl), if_pos (by rfl)]
    exact h
  | true =>
    rw [if_neg (by simp)]
    refine EB ?_
    by_cases hs : 0 < szF d
    · rw [if_pos ⟨hm, hs⟩] at h
      rw [decide_eq_true hs, if_neg (by simp)]
      refine C6 ?_
      by_cases he : szF d = (t.2.2.length : Int)
      · rw [if_pos he] at h
        rw [if_neg (by simp [he])]
        refine sS hd (W2 ?_ h)
        have := (eK hm).2.1
        omega
      · rw [if_neg he] at h
        rw [if_pos (by simpa using he)]
        exact h
    · rw [if_neg (fun hh => hs hh.2)] at h
      rw [decide_eq_false hs, if_pos (by rfl)]
      exact h
def BZ (t:T3):T3×Int:=if cK t=true then pN t [t.1.getD 0 0,IntKind.i64.wrap ((szF t.1).tdiv (t.1.getD 0 0))] else (([],0,[]),1)
theorem aG8 {t : T3} {Q : T3 × Int -> Prop} (h : Q (BZ t)) : JO t Q := by
  refine ⟨kG ?_⟩
  unfold BZ at h
  cases hm : cK t with
  | false =>
    rw [if_neg (by rw [hm]; simp)] at h
    rw [if_pos (by rfl)]
    exact h
  | true =>
    rw [if_pos hm] at h
    rw [if_neg (by simp)]
    obtain ⟨h1, h2, h3, h4, h5⟩ := eK hm
    refine ⟨by omega, C6 ⟨by omega, ⟨by omega, aBc (by simp) ?_⟩⟩⟩
    exact h
def BW (t:T3):T3×Int:=if cK t=true then ((t.1,t.2.1,t.2.2.map (aM 0)),0) else (([],0,[]),1)
theorem aGb {t : T3} {Q : T3 × Int -> Prop} (h : Q (BW t)) : J0 t Q := by
  refine ⟨kG ?_⟩
  unfold BW at h
  cases hm : cK t with
  | false =>
    rw [if_neg (by rw [hm]; simp)] at h
    rw [if_pos (by rfl)]
    exact h
  | true =>
    rw [if_pos hm] at h
    rw [if_neg (by simp)]
    obtain ⟨h1, h2, _⟩ := eK hm
    refine ⟨sS (by omega) ⟨?_⟩⟩
    try dsimp only
    refine Loop.range (B := eU t.1 t.2.1 t.2.2 (t.2.2.length : Int) _) t.2.2.length (fun i => ((i : Int), (t.2.2.take i).map (aM 0))) (fun _ => True) trivial ?_ ?_
    · intro i hi _ X hX
      unfold eU
      dsimp only
      rw [if_pos (decide_eq_true (show (i : Int) < (t.2.2.length : Int) by omega))]
      refine ⟨⟨by omega, ?_⟩⟩
      rw [Int.toNat_natCast]
      refine ⟨by simp; omega, ?_⟩
      rw [aA _ (by omega) (by omega)]
      have e : (t.2.2.take i).map (aM 0) ++ [aM 0 (t.2.2.getD i 0)] = (t.2.2.take (i + 1)).map (aM 0) := by
        rw [List.take_add_one, List.getD_eq_getElem?_getD, List.getElem?_eq_getElem hi, List.map_append]
        rfl
      rw [e]
      exact hX trivial
    · intro _ X
      unfold eU
      dsimp only
      rw [if_neg (by simp), List.take_length]
      exact h
def aCx (a b:T3):Int:=aM (bP a.2.1 b.2.1) (IntKind.i64.wrap (aM a.2.1 b.2.1-12))
def mC (a b:T3) (i:Nat):Int:=IntKind.i32.wrap (IntKind.i64.wrap (alF (IntKind.i64.wrap (a.2.2.getD i 0)) a.2.1 (aCx a b)+alF (IntKind.i64.wrap (b.2.2.getD i 0)) b.2.1 (aCx a b)))
def addF (a b:T3):T3×Int :=
 if cK a=true/\cK b=true then (if a.1=b.1 then ((a.1,aCx a b,(List.range a.2.2.length).map (mC a b)),0) else (([],0,[]),2)) else (([],0,[]),1)
theorem aDu {a b : T3} {Q : T3 × Int -> Prop} (h : Q (addF a b)) : JC a b Q := by
  refine ⟨kG ?_⟩
  unfold jn
  dsimp only
  unfold addF at h
  cases hm : cK a with
  | false =>
    rw [if_neg (by rw [hm]; simp)] at h
    rw [if_pos (by rfl), if_pos (by rfl)]
    exact h
  | true =>
    rw [if_neg (by simp)]
    refine kG ?_
    cases hn : cK b with
    | false =>
      rw [if_neg (by rw [hn]; simp)] at h
      rw [if_pos (by rfl)]
      exact h
    | true =>
      rw [if_pos ⟨hm, hn⟩] at h
      rw [if_neg (by simp)]
      obtain ⟨h1, h2, _⟩ := eK hm
      obtain ⟨k1, k2, _⟩ := eK hn
      refine D3 (by omega) ?_
      by_cases he : a.1 = b.1
      · rw [if_pos he] at h
        rw [decide_eq_true he, if_neg (by simp)]
        have hlen : a.2.2.length = b.2.2.length := by
          have q1 := (eI.1 hm).2.1
          have q2 := (eI.1 hn).2.1
          rw [he] at q1
          omega
        refine sS (by omega) ⟨?_⟩
        refine Loop.range (B := uU (a.2.2.length : Int) a.2.1 a.2.2 b.2.1 b.2.2 (aCx a b) _) a.2.2.length (fun i => ((i : Int), (List.range i).map (mC a b))) (fun _ => True) trivial ?_ ?_
        · intro i hi _ X hX
          unfold uU
          dsimp only
          rw [if_pos (decide_eq_true (show (i : Int) < (a.2.2.length : Int) by omega))]
          refine ⟨by omega, ?_⟩
          rw [Int.toNat_natCast]
          refine aF0 ⟨by omega, aF0 ⟨by simp; omega, ?_⟩⟩
          rw [aA ((i : Int) + 1) (by omega) (by omega)]
          have e : (List.range i).map (mC a b) ++ [mC a b i] = (List.range (i + 1)).map (mC a b) := by
            rw [List.range_succ, List.map_append]; rfl
          have := hX trivial
          rw [<- e] at this
          exact this
        · intro _ X
          unfold uU
          dsimp only
          rw [if_neg (by simp)]
          exact h
      · rw [if_neg he] at h
        rw [decide_eq_false he, if_pos (by rfl)]
        exact h
end Go.Proofs.YtcfpfefadlnmcaaGreat

namespace Go.Proofs.YtcfpfefadlnmcaaGreat
open Go.Mach
set_option maxRecDepth 100000
set_option linter.unusedVariables false
set_option linter.unusedSimpArgs false
theorem NY (n:Nat) (f:Nat->Int):tab (n+1) f=tab n f++[f n]:=by
 unfold tab
 rw [List.range_succ,List.map_append]
 rfl
theorem yT {α:Type} {l:List α} {i:Nat} (h:i<l.length) (d:α):l.take (i+1)=l.take i++[l.getD i d]:=by
 rw [List.take_add_one,List.getElem?_eq_getElem h,List.getD_eq_getElem?_getD,List.getElem?_eq_getElem h]; rfl
theorem UR {d:List Int} {k s:Int} {Q:(Int×Int×Int×Int×Int×Int)×Bool->Prop} (h1:((d.length:Int) != 4)=true->Q ((0,(0,(0,(0,(0,0))))),false))
  (h2:((d.length:Int) != 4)=false->Q ((d.getD 2 0,(d.getD 3 0,(k,(s,(aL (d.getD 2 0) k s 0,aL (d.getD 3 0) k s 0))))),decide (0<aL (d.getD 2 0) k s 0)&&decide (0<aL (d.getD 3 0) k s 0))):zC d k s Q:=by
 refine ⟨?_⟩
 split
 ·rename_i h; exact h1 h
 ·rename_i h
  have h:=Bool.eq_false_iff.2 h
  have:(d.length:Int)=4:=by simpa using h
  exact ⟨by omega,by omega,FP (FP (h2 h))⟩
def lY (H V:Nat) (k s:Int) (P Q t:Nat):List Int:=(eO H V ((t%(P*Q) / Q:Nat):Int) ((t%(P*Q)%Q:Nat):Int) k s 0).map fun z=>((t / (P*Q)*H*V:Nat):Int)+z.1
theorem ER {n H V:Nat} {a:Int} (h:n*H*V<=100000000) (ha:0<=a/\a<=100000000):IntKind.i64.wrap (IntKind.i64.wrap (IntKind.i64.wrap ((n:Int)*(H:Int))*(V:Int))+a)=((n*H*V:Nat):Int)+a\/V=0:=by
 by_cases hV:V=0
 ·exact .inr hV
 ·left
  have h1:n*H<=n*H*V:=Nat.le_mul_of_pos_right _ (by omega)
  rw [vN (r:=n) (n:=H) (by omega),vN (r:=n*H) (n:=V) (by omega),aA _ (by omega) (by omega)]
theorem aFc {n H V:Nat} {w:List (Int×Int×Int)} {K0:List Int->Prop} (hb:n*H*V<=100000000) (hV:1<=V) (hw:w.length<=1000000) (hz:∀ z∈w,0<=z.1/\z.1<=100000000) (h:K0 (w.map fun z=>((n*H*V:Nat):Int)+z.1)) :
  fX n (w.length:Int) H V w K0 (0,[]):=by
 refine ⟨?_⟩
 have e0:((0:Int),([]:List Int))=(fun i:Nat=>((i:Int),(w.take i).map fun z=>((n*H*V:Nat):Int)+z.1)) 0:=by simp
 rw [e0]
 refine Loop.range (B:=dA n (w.length:Int) H V w K0) w.length (fun i:Nat=>((i:Int),(w.take i).map fun z=>((n*H*V:Nat):Int)+z.1)) (fun _=>True) trivial ?_ ?_
 ·intro i hi _ X hX
  have hX:=hX trivial
  unfold dA
  rw [if_pos (decide_eq_true (show (i:Int)<(w.length:Int) by omega))]
  dsimp only at hX ⊢
  have hm:=hz (w.getD i (0,0,0)) (by rw [List.getD_eq_getElem?_getD,List.getElem?_eq_getElem hi]; exact List.getElem_mem hi)
  refine ⟨by omega,?_⟩
  rw [Int.toNat_natCast]
  rcases ER hb hm with e | e
  ·rw [e,aA ((i:Int)+1) (by omega) (by omega)]
   refine ⟨by simp; omega,?_⟩
   rw [yT hi (0,0,0),List.map_append] at hX
   exact hX
  ·omega
 ·intro _ X
  unfold dA
  rw [if_neg (by simp)]
  simpa using h
def oJ (X:List Int) (b:Int) (l:List Int):Int:=l.foldl (fun b a=>if decide (X.getD b.toNat 0<X.getD a.toNat 0)=true then a else b) b
def IG (X l:List Int):Int:=oJ X (l.getD 0 0) l
theorem AM (X : List Int) : ∀ (l : List Int) (b : Int), oJ X b l = b \/ oJ X b l ∈ l
  | [], b => .inl rfl
  | a :: l, b => by
    unfold oJ
    rw [List.foldl_cons]
    by_cases h : decide (X.getD b.toNat 0 < X.getD a.toNat 0) = true
    · rw [if_pos h]
      rcases AM X l a with e | e
      · right; unfold oJ at e; rw [e]; exact List.mem_cons_self
      · right; exact List.mem_cons_of_mem _ e
    · rw [if_neg h]
      rcases AM X l b with e | e
      · left; exact e
      · right; exact List.mem_cons_of_mem _ e
theorem SN {X l : List Int} (h : l ≠ []) : IG X l ∈ l := by
  unfold IG
  cases l with
  | nil => exact absurd rfl h
  | cons a l =>
    rcases AM X (a :: l) ((a :: l).getD 0 0) with e | e
    · rw [e]; simp
    · exact e
theorem aEc {X l:List Int} {K0:Int->Prop} (hl:l≠[]) (hn:l.length<=1000000) (hr:∀ a∈l,0<=a/\a<(X.length:Int)) (h:K0 (IG X l)):cQ (l.length:Int) X l K0 (l.getD 0 0,0):=by
 refine ⟨?_⟩
 have e0:(l.getD 0 0,(0:Int))=(fun i:Nat=>(oJ X (l.getD 0 0) (l.take i),(i:Int))) 0:=by simp [oJ]
 rw [e0]
 have hmem:∀ i,0<=oJ X (l.getD 0 0) (l.take i)/\oJ X (l.getD 0 0) (l.take i)<(X.length:Int):=by
  intro i
  rcases AM X (l.take i) (l.getD 0 0) with e | e
  ·rw [e]
   refine hr _ ?_
   cases l with
   | nil=>exact absurd rfl hl
   | cons a l=>simp
  ·exact hr _ (List.mem_of_mem_take e)
 refine Loop.range (B:=bK (l.length:Int) X l K0) l.length (fun i:Nat=>(oJ X (l.getD 0 0) (l.take i),(i:Int))) (fun _=>True) trivial ?_ ?_
 ·intro i hi _ Y hY
  have hY:=hY trivial
  unfold bK
  rw [if_pos (decide_eq_true (show (i:Int)<(l.length:Int) by omega))]
  dsimp only at hY ⊢
  have hm:=hr (l.getD i 0) (IE hi)
  refine ⟨by omega,?_⟩
  rw [Int.toNat_natCast]
  refine ⟨hm,hmem i,?_⟩
  have e1:oJ X (l.getD 0 0) (l.take (i+1))=if decide (X.getD (oJ X (l.getD 0 0) (l.take i)).toNat 0<X.getD (l.getD i 0).toNat 0)=true then l.getD i 0 else oJ X (l.getD 0 0) (l.take i):=by
   rw [yT hi 0]
   unfold oJ
   rw [List.foldl_append]
   rfl
  rw [e1] at hY
  by_cases hc:decide (X.getD (oJ X (l.getD 0 0) (l.take i)).toNat 0<X.getD (l.getD i 0).toNat 0)=true
  ·rw [if_pos hc] at hY ⊢
   refine ⟨?_⟩
   rw [aA ((i:Int)+1) (by omega) (by omega)]
   exact hY
  ·rw [if_neg hc] at hY ⊢
   refine ⟨?_⟩
   rw [aA ((i:Int)+1) (by omega) (by omega)]
   exact hY
 ·intro _ Y
  unfold bK
  rw [if_neg (by simp)]
  have:oJ X (l.getD 0 0) (l.take l.length)=IG X l:=by rw [List.take_length]; rfl
  dsimp only
  rw [this]; exact h
structure PoolIn (N H V P Q:Nat) (k s:Int) (X:List Int):Prop where
 hx:X.length=N*(H*V)
 bx:N*(H*V)<=8192
 hH:1<=H/\H<=16
 hV:1<=V/\V<=16
 hk:1<=k/\k<=5
 hs:1<=s/\s<=4
 hP:aL H k s 0=P
 hQ:aL V k s 0=Q
 p1:1<=P
 q1:1<=Q
theorem PoolIn.le {N H V P Q:Nat} {k s:Int} {X:List Int} (g:PoolIn N H V P Q k s X):P<=25/\Q<=25/\N<=8192:=by
 obtain ⟨P',e1,h1⟩:=pM (n:=H) (k:=k) (s:=s) (p:=0)
 obtain ⟨Q',e2,h2⟩:=pM (n:=V) (k:=k) (s:=s) (p:=0)
 have:=g.hP
 have:=g.hQ
 have h3:=g.bx
 have h4:=Nat.mul_le_mul (Nat.mul_le_mul (Nat.le_refl N) g.hH.1) g.hV.1
 rw [Nat.mul_assoc,Nat.mul_assoc] at h4
 have h5:N*H*V=N*(H*V):=Nat.mul_assoc _ _ _
 omega
theorem T0 {n:Nat} {k s r:Int} {P:Nat} (h:aL n k s 0=P) (h1:1<=P) (hr:0<=r/\r<=P-1):0<=s*r/\s*r<=n-k:=by
 obtain ⟨a,b,c,d,e,f⟩:=nM (n:=(n:Int)) (k:=k) (s:=s) (p:=0) (by omega)
 have h2:(P:Int)-1=(n+2*0-k) / s:=by omega
 have h3:s*((n+2*0-k) / s)<=n+2*0-k:=Int.mul_ediv_self_le (by omega)
 have h4:s*r<=s*((P:Int)-1):=Int.mul_le_mul_of_nonneg_left hr.2 (by omega)
 rw [h2] at h4
 exact ⟨Int.mul_nonneg (by omega) hr.1,by omega⟩
theorem aDI {H V P Q:Nat} {k s r c:Int} (hP:aL H k s 0=P) (hQ:aL V k s 0=Q) (p1:1<=P) (q1:1<=Q) (hr:0<=r/\r<=P-1) (hc:0<=c/\c<=Q-1):eO H V r c k s 0≠[]:=by
 obtain ⟨a,b,_⟩:=nM (n:=(H:Int)) (k:=k) (s:=s) (p:=0) (by omega)
 obtain ⟨a',_⟩:=nM (n:=(V:Int)) (k:=k) (s:=s) (p:=0) (by omega)
 have h1:=T0 hP p1 hr
 have h2:=T0 hQ q1 hc
 have hnw:aB6 H V r c k s 0=false:=by
  unfold aB6 inP
  rw [hP,hQ]
  simp only [Bool.or_eq_false_iff,decide_eq_false_iff_not,Bool.not_eq_false',Bool.and_eq_true,decide_eq_true_eq]
  omega
 unfold eO
 rw [if_neg (by rw [hnw]; simp)]
 have hm:(((s*r-0+((0:Nat):Int))*V+(s*c-0+((0:Nat):Int)),((0:Nat):Int),((0:Nat):Int)):Int×Int×Int)∈CP H V (s*r-0) (s*c-0) k.toNat k.toNat:=by
  unfold CP oO jL
  refine List.mem_flatMap.2 ⟨0,List.mem_range.2 (by omega),List.mem_flatMap.2 ⟨0,List.mem_range.2 (by omega),?_⟩⟩
  rw [if_pos (by unfold inP; simp only [Bool.and_eq_true,decide_eq_true_eq]; omega)]
  exact List.mem_singleton.2 rfl
 intro e
 rw [e] at hm
 cases hm
section
variable {N H V P Q:Nat} {k s:Int} {X:List Int}
theorem PoolIn.cell (g:PoolIn N H V P Q k s X) {n i:Nat} (hn:n<N) (hi:i<P*Q) :
  (i / Q<P/\i%Q<Q)/\(eO H V ((i / Q:Nat):Int) ((i%Q:Nat):Int) k s 0).length<=25/\(∀ z∈eO H V ((i / Q:Nat):Int) ((i%Q:Nat):Int) k s 0,0<=z.1/\z.1<(H*V:Nat))/\eO H V ((i / Q:Nat):Int) ((i%Q:Nat):Int) k s 0≠[] /\
   lY H V k s P Q (n*(P*Q)+i)=(eO H V ((i / Q:Nat):Int) ((i%Q:Nat):Int) k s 0).map fun z=>((n*H*V:Nat):Int)+z.1:=by
 obtain ⟨l1,l2,l3⟩:=g.le
 have q1:=g.q1
 have p1:=g.p1
 have hk:=g.hk
 have h1:i / Q<P:=Nat.div_lt_of_lt_mul (by rw [Nat.mul_comm]; exact hi)
 have h2:i%Q<Q:=Nat.mod_lt _ (by omega)
 obtain ⟨K,hK⟩:∃ K:Nat,k=K:=⟨k.toNat,by omega⟩
 subst hK
 refine ⟨⟨h1,h2⟩,?_,?_,?_,?_⟩
 ·have:=DJ (rows:=H) (cols:=V) (r:=((i / Q:Nat):Int)) (c:=((i%Q:Nat):Int)) (s:=s) (p:=0) (K:=K)
  have:K*K<=5*5:=Nat.mul_le_mul (by omega) (by omega)
  omega
 ·intro z hz
  obtain ⟨a,r,c,rfl,ha,_⟩:=GO z hz
  exact ⟨by dsimp only; omega,by dsimp only; omega⟩
 ·exact aDI g.hP g.hQ p1 q1 ⟨Int.natCast_nonneg _,by generalize i / Q=y at *; omega⟩ ⟨Int.natCast_nonneg _,by generalize i%Q=y at *; omega⟩
 ·unfold lY
  rw [KI hi,JM hi]
theorem PoolIn.addr (g:PoolIn N H V P Q k s X) {n i:Nat} (hn:n<N) (hi:i<P*Q):∀ a∈lY H V k s P Q (n*(P*Q)+i),0<=a/\a<(X.length:Int):=by
 obtain ⟨_,_,h3,_,h5⟩:=g.cell hn hi
 rw [h5]
 intro a ha
 obtain ⟨z,hz,rfl⟩:=List.mem_map.1 ha
 have:=h3 z hz
 have h6:=jM (r:=n) (R:=N) (n:=H*V) (i:=z.1.toNat) hn (by omega)
 have h7:n*H*V=n*(H*V):=Nat.mul_assoc _ _ _
 rw [g.hx]
 omega
theorem aFF (g:PoolIn N H V P Q k s X) {n:Nat} (hn:n<N) {K0:List Int×List Int->Prop} {F:Nat->Int} (hF:F=fun t=>IG X (lY H V k s P Q t))
  (h:K0 ((tab (n*(P*Q)+P*Q) F).map (fun a=>X.getD a.toNat 0),tab (n*(P*Q)+P*Q) F)) :
  f5 n ((P*Q:Nat):Int) X H V k s Q K0 (0,(tab (n*(P*Q)) F).map (fun a=>X.getD a.toNat 0),tab (n*(P*Q)) F):=by
 obtain ⟨l1,l2,l3⟩:=g.le
 have q1:=g.q1
 have hPQ:P*Q<=25*25:=Nat.mul_le_mul l1 l2
 have hNN:n*(P*Q)<=8192*(25*25):=Nat.mul_le_mul (by omega) hPQ
 have hx:=g.hx
 have bx:=g.bx
 refine ⟨?_⟩
 have e0:((0:Int),(tab (n*(P*Q)) F).map (fun a=>X.getD a.toNat 0),tab (n*(P*Q)) F)=(fun i:Nat=>((i:Int),(tab (n*(P*Q)+i) F).map (fun a=>X.getD a.toNat 0),tab (n*(P*Q)+i) F)) 0:=rfl
 rw [e0]
 refine Loop.range (B:=dH n ((P*Q:Nat):Int) X H V k s Q K0) (P*Q) (fun i:Nat=>((i:Int),(tab (n*(P*Q)+i) F).map (fun a=>X.getD a.toNat 0),tab (n*(P*Q)+i) F)) (fun _=>True) trivial ?_ ?_
 ·intro i hi _ Y hY
  have hY:=hY trivial
  obtain ⟨⟨c1,c2⟩,c3,c4,c5,c6⟩:=g.cell hn hi
  have c7:=g.addr hn hi
  unfold dH
  rw [if_pos (decide_eq_true (show (i:Int)<((P*Q:Nat):Int) by omega))]
  dsimp only at hY ⊢
  refine ⟨by omega,by omega,?_⟩
  have e1:IntKind.i64.wrap ((i:Int).tdiv (Q:Int))=((i / Q:Nat):Int):=by
   rw [<- Int.ofNat_tdiv]; exact aA _ (by have:=Int.natCast_nonneg (i / Q); generalize i / Q=y at *; omega) (by have:=Nat.div_le_self i Q; generalize i / Q=y at *; omega)
  have e2:(i:Int).tmod (Q:Int)=((i%Q:Nat):Int):=(Int.ofNat_tmod _ _).symm
  rw [e1,e2]
  refine DC ?_
  have hb:n*H*V<=100000000:=by
   have h7:n*H*V=n*(H*V):=Nat.mul_assoc _ _ _
   have:=Nat.mul_le_mul_right (H*V) (Nat.le_of_lt hn)
   omega
  refine aFc hb g.hV.1 (by omega) (fun z hz=>by
   have:=c4 z hz
   have h8:H*V<=16*16:=Nat.mul_le_mul g.hH.2 g.hV.2
   omega) ?_
  rw [<- c6]
  have hne:lY H V k s P Q (n*(P*Q)+i)≠[]:=by rw [c6]; simpa using c5
  have hlen:(lY H V k s P Q (n*(P*Q)+i)).length<=25:=by rw [c6]; simpa using c3
  have hpos:0<(lY H V k s P Q (n*(P*Q)+i)).length:=List.length_pos_iff.2 hne
  refine ⟨by omega,?_⟩
  refine aEc hne (by omega) c7 ?_
  have hb:=c7 _ (SN (X:=X) hne)
  refine ⟨hb,by simp; omega,by simp; omega,?_⟩
  rw [aA ((i:Int)+1) (by omega) (by omega)]
  rw [show n*(P*Q)+(i+1)=n*(P*Q)+i+1 by omega,NY,List.map_append] at hY
  have eF:F (n*(P*Q)+i)=IG X (lY H V k s P Q (n*(P*Q)+i)):=by rw [hF]
  rw [eF] at hY
  exact hY
 ·intro _ Y
  unfold dH
  rw [if_neg (by simp)]
  exact h
theorem aDB (g:PoolIn N H V P Q k s X) {K0:List Int×List Int->Prop} {F:Nat->Int} (hF:F=fun t=>IG X (lY H V k s P Q t))
  (h:K0 ((tab (N*(P*Q)) F).map (fun a=>X.getD a.toNat 0),tab (N*(P*Q)) F)) :
  gC (N:Int) X H V k s P Q K0 (0,[],[]):=by
 obtain ⟨l1,l2,l3⟩:=g.le
 refine ⟨?_⟩
 have e0:((0:Int),([]:List Int),([]:List Int))=(fun n:Nat=>((n:Int),(tab (n*(P*Q)) F).map (fun a=>X.getD a.toNat 0),tab (n*(P*Q)) F)) 0:=by simp [tab]
 rw [e0]
 refine Loop.range (B:=dF (N:Int) X H V k s P Q K0) N (fun n:Nat=>((n:Int),(tab (n*(P*Q)) F).map (fun a=>X.getD a.toNat 0),tab (n*(P*Q)) F)) (fun _=>True) trivial ?_ ?_
 ·intro n hn _ Y hY
  have hY:=hY trivial
  unfold dF
  rw [if_pos (decide_eq_true (show (n:Int)<(N:Int) by omega))]
  dsimp only at hY ⊢
  have hPQ:P*Q<=25*25:=Nat.mul_le_mul l1 l2
  rw [vN (r:=P) (n:=Q) (by omega)]
  refine aFF g hn hF ?_
  rw [aA ((n:Int)+1) (by omega) (by omega)]
  rw [Nat.add_mul,Nat.one_mul] at hY
  exact hY
 ·intro _ Y
  unfold dF
  rw [if_neg (by simp)]
  exact h
end
def plE (x:T3) (k s:Int):Int :=
 if cK x=true then (if ((x.1.length:Int) != 4)=true then 2 else if (decide (0<aL (x.1.getD 2 0) k s 0)&&decide (0<aL (x.1.getD 3 0) k s 0))=true then 0 else 2) else 1
def plD (x:T3) (k s:Int):List Int:=[x.1.getD 0 0,x.1.getD 1 0,aL (x.1.getD 2 0) k s 0,aL (x.1.getD 3 0) k s 0]
def plN (x:T3) (k s:Int):Nat:=(x.1.getD 0 0*x.1.getD 1 0).toNat*((aL (x.1.getD 2 0) k s 0).toNat*(aL (x.1.getD 3 0) k s 0).toNat)
def plA (x:T3) (k s:Int) (t:Nat):List Int:=lY (x.1.getD 2 0).toNat (x.1.getD 3 0).toNat k s (aL (x.1.getD 2 0) k s 0).toNat (aL (x.1.getD 3 0) k s 0).toNat t
def CF (x:T3) (k s:Int):List Int:=tab (plN x k s) fun t=>IG x.2.2 (plA x k s t)
def M5 (x:T3) (k s:Int):T3×List Int×Int :=
 if (plE x k s != 0)=true then (Z3,[],plE x k s) else ((plD x k s,(x.2.1,(CF x k s).map fun a=>x.2.2.getD a.toNat 0)),CF x k s,0)
theorem aD3 {x:T3} {k s:Int} (h:plE x k s=0):∃ N H V P Q n m:Nat,x.1=[(n:Int),(m:Int),(H:Int),(V:Int)]/\N=n*m/\PoolIn N H V P Q k s x.2.2/\cK x=true/\(1<=n/\n<=4096/\1<=m/\m<=4096):=by
 unfold plE at h
 split at h
 case isFalse=>exact absurd h (by decide)
 rename_i hm
 split at h
 case isTrue=>exact absurd h (by decide)
 rename_i hl
 split at h
 case isFalse=>exact absurd h (by decide)
 rename_i hpq
 have hl:(x.1.length:Int)=4:=by simpa using hl
 simp only [Bool.and_eq_true,decide_eq_true_eq] at hpq
 obtain ⟨n,m,H,V,e,h1,h2,h3,h4,h5,h6,_⟩:=UA hm hl
 rw [e] at hpq
 simp only [List.getD_cons_succ,List.getD_cons_zero] at hpq
 obtain ⟨P,eP,_⟩:=pM (n:=(H:Int)) (k:=k) (s:=s) (p:=0)
 obtain ⟨Q,eQ,_⟩:=pM (n:=(V:Int)) (k:=k) (s:=s) (p:=0)
 obtain ⟨a1,a2,a3,_⟩:=nM hpq.1
 obtain ⟨b1,_⟩:=nM hpq.2
 obtain ⟨_,hd,_,_⟩:=lD (eI.1 hm).1
 rw [e] at hd
 have hn:=hd n (by simp)
 have hmm:=hd m (by simp)
 exact ⟨n*m,H,V,P,Q,n,m,e,rfl,⟨by rw [h6,Nat.mul_assoc],by rw [<- Nat.mul_assoc]; exact h5,by omega,by omega,a2,a3,eP,eQ,by omega,by omega⟩,hm,by omega⟩
theorem aHq {x : T3} {k s : Int} {Q : T3 × List Int × Int -> Prop} (h : Q (M5 x k s)) : N2 x k s Q := by
  refine ⟨?_⟩
  unfold M5 at h
  refine kG ?_
  cases hm : cK (x.1, x.2.1, x.2.2) with
  | false =>
    have e : plE x k s = 1 := by unfold plE; rw [if_neg (by rw [show x = (x.1, x.2.1, x.2.2) from rfl, hm]; simp)]
    rw [e] at h
    exact h
  | true =>
    rw [if_neg (by simp)]
    refine UR (fun hl => ?_) (fun hl => ?_)
    · have e : plE x k s = 2 := by unfold plE; rw [if_pos hm, if_pos hl]
      rw [e] at h
      exact h
    · cases hpq : (decide (0 < aL (x.1.getD 2 0) k s 0) && decide (0 < aL (x.1.getD 3 0) k s 0)) with
      | false =>
        have e : plE x k s = 2 := by unfold plE; rw [if_pos hm, if_neg (by rw [hl]; simp), if_neg (by rw [hpq]; simp)]
        rw [e] at h
        exact h
      | true =>
        have e : plE x k s = 0 := by unfold plE; rw [if_pos hm, if_neg (by rw [hl]; simp), if_pos hpq]
        rw [e, if_neg (by simp)] at h
        rw [if_neg (by simp)]
        obtain ⟨N, H, V, P, Q, n, m, ex, eN, g, _, hb⟩ := aD3 e
        unfold CF plN plA plD at h
        dsimp only
        rw [ex] at h ⊢
        simp only [List.getD_cons_succ, List.getD_cons_zero] at h ⊢
        rw [g.hP, g.hQ] at h ⊢
        have en : ((n : Int) * (m : Int)).toNat = N := by rw [eN, <- Int.natCast_mul]; exact Int.toNat_natCast _
        rw [en] at h
        simp only [Int.toNat_natCast] at h
        have hN : n * m <= 8192 := by rw [<- eN]; exact g.le.2.2
        rw [vN (r := n) (n := m) (by omega), <- eN]
        refine ⟨by simp, by simp, by simp, by simp, aDB g rfl ?_⟩
        exact h
theorem aEy {n H V:Nat} {w:List (Int×Int×Int)} {K0:List Int->Prop} (hb:n*H*V<=100000000) (hV:1<=V) (hw:w.length<=1000000) (hz:∀ z∈w,0<=z.1/\z.1<=100000000) (h:K0 (w.map fun z=>((n*H*V:Nat):Int)+z.1)) :
  f7 n (w.length:Int) H V w K0 (0,[]):=by
 refine ⟨?_⟩
 have e0:((0:Int),([]:List Int))=(fun i:Nat=>((i:Int),(w.take i).map fun z=>((n*H*V:Nat):Int)+z.1)) 0:=by simp
 rw [e0]
 refine Loop.range (B:=dC n (w.length:Int) H V w K0) w.length (fun i:Nat=>((i:Int),(w.take i).map fun z=>((n*H*V:Nat):Int)+z.1)) (fun _=>True) trivial ?_ ?_
 ·intro i hi _ X hX
  have hX:=hX trivial
  unfold dC
  rw [if_pos (decide_eq_true (show (i:Int)<(w.length:Int) by omega))]
  dsimp only at hX ⊢
  have hm:=hz (w.getD i (0,0,0)) (by rw [List.getD_eq_getElem?_getD,List.getElem?_eq_getElem hi]; exact List.getElem_mem hi)
  refine ⟨by omega,?_⟩
  rw [Int.toNat_natCast]
  rcases ER hb hm with e | e
  ·rw [e,aA ((i:Int)+1) (by omega) (by omega)]
   refine ⟨by simp; omega,?_⟩
   rw [yT hi (0,0,0),List.map_append] at hX
   exact hX
  ·omega
 ·intro _ X
  unfold dC
  rw [if_neg (by simp)]
  simpa using h
def aBj (X l:List Int):Int:=IntKind.i32.wrap (nF l fun a=>X.getD a.toNat 0)
theorem aFZ {X l:List Int} {K0:Int->Prop} (hn:l.length<=1000000) (hr:∀ a∈l,0<=a/\a<(X.length:Int)) (h:K0 (aBj X l)):cU (l.length:Int) X l K0 (0,0):=by
 refine ⟨?_⟩
 have e0:((0:Int),(0:Int))=(fun i:Nat=>(IntKind.i32.wrap (bR (fun j=>X.getD (l.getD j 0).toNat 0) i),(i:Int))) 0:=by simp [bR,IntKind.wrap,IntKind.bits,IntKind.signed]
 rw [e0]
 refine Loop.range (B:=bI (l.length:Int) X l K0) l.length (fun i:Nat=>(IntKind.i32.wrap (bR (fun j=>X.getD (l.getD j 0).toNat 0) i),(i:Int))) (fun _=>True) trivial ?_ ?_
 ·intro i hi _ Y hY
  have hY:=hY trivial
  unfold bI
  rw [if_pos (decide_eq_true (show (i:Int)<(l.length:Int) by omega))]
  dsimp only at hY ⊢
  have hm:=hr (l.getD i 0) (IE hi)
  refine ⟨by omega,?_⟩
  rw [Int.toNat_natCast]
  refine ⟨hm,?_⟩
  rw [JV,JL,aA ((i:Int)+1) (by omega) (by omega)]
  exact hY
 ·intro _ Y
  unfold bI
  rw [if_neg (by simp)]
  unfold aBj at h
  rw [EZ l _ 0] at h
  exact h
section
variable {N H V P Q:Nat} {k s:Int} {X:List Int}
theorem aFM (g:PoolIn N H V P Q k s X) {n:Nat} (hn:n<N) {K0:List Int->Prop} {F:Nat->Int} (hF:F=fun t=>aBj X (lY H V k s P Q t)) (h:K0 (tab (n*(P*Q)+P*Q) F)) :
  gE n ((P*Q:Nat):Int) X H V k s Q K0 (0,tab (n*(P*Q)) F):=by
 obtain ⟨l1,l2,l3⟩:=g.le
 have q1:=g.q1
 have hPQ:P*Q<=25*25:=Nat.mul_le_mul l1 l2
 have hNN:n*(P*Q)<=8192*(25*25):=Nat.mul_le_mul (by omega) hPQ
 have hx:=g.hx
 have bx:=g.bx
 refine ⟨?_⟩
 have e0:((0:Int),tab (n*(P*Q)) F)=(fun i:Nat=>((i:Int),tab (n*(P*Q)+i) F)) 0:=rfl
 rw [e0]
 refine Loop.range (B:=dD n ((P*Q:Nat):Int) X H V k s Q K0) (P*Q) (fun i:Nat=>((i:Int),tab (n*(P*Q)+i) F)) (fun _=>True) trivial ?_ ?_
 ·intro i hi _ Y hY
  have hY:=hY trivial
  obtain ⟨⟨c1,c2⟩,c3,c4,c5,c6⟩:=g.cell hn hi
  have c7:=g.addr hn hi
  unfold dD
  rw [if_pos (decide_eq_true (show (i:Int)<((P*Q:Nat):Int) by omega))]
  dsimp only at hY ⊢
  refine ⟨by omega,by omega,?_⟩
  have e1:IntKind.i64.wrap ((i:Int).tdiv (Q:Int))=((i / Q:Nat):Int):=by
   rw [<- Int.ofNat_tdiv]; exact aA _ (by have:=Int.natCast_nonneg (i / Q); generalize i / Q=y at *; omega) (by have:=Nat.div_le_self i Q; generalize i / Q=y at *; omega)
  have e2:(i:Int).tmod (Q:Int)=((i%Q:Nat):Int):=(Int.ofNat_tmod _ _).symm
  rw [e1,e2]
  refine DC ?_
  have hb:n*H*V<=100000000:=by
   have h7:n*H*V=n*(H*V):=Nat.mul_assoc _ _ _
   have:=Nat.mul_le_mul_right (H*V) (Nat.le_of_lt hn)
   omega
  refine aEy hb g.hV.1 (by omega) (fun z hz=>by
   have:=c4 z hz
   have h8:H*V<=16*16:=Nat.mul_le_mul g.hH.2 g.hV.2
   omega) ?_
  rw [<- c6]
  have hlen:(lY H V k s P Q (n*(P*Q)+i)).length<=25:=by rw [c6]; simpa using c3
  refine aFZ (by omega) c7 ⟨by simp; omega,?_⟩
  rw [aA ((i:Int)+1) (by omega) (by omega)]
  rw [show n*(P*Q)+(i+1)=n*(P*Q)+i+1 by omega,NY] at hY
  have eF:F (n*(P*Q)+i)=aBj X (lY H V k s P Q (n*(P*Q)+i)):=by rw [hF]
  rw [eF] at hY
  exact hY
 ·intro _ Y
  unfold dD
  rw [if_neg (by simp)]
  exact h
theorem aEE (g:PoolIn N H V P Q k s X) {K0:List Int->Prop} {F:Nat->Int} (hF:F=fun t=>aBj X (lY H V k s P Q t)) (h:K0 (tab (N*(P*Q)) F)):fY (N:Int) X H V k s P Q K0 (0,[]):=by
 obtain ⟨l1,l2,l3⟩:=g.le
 refine ⟨?_⟩
 have e0:((0:Int),([]:List Int))=(fun n:Nat=>((n:Int),tab (n*(P*Q)) F)) 0:=by simp [tab]
 rw [e0]
 refine Loop.range (B:=dB (N:Int) X H V k s P Q K0) N (fun n:Nat=>((n:Int),tab (n*(P*Q)) F)) (fun _=>True) trivial ?_ ?_
 ·intro n hn _ Y hY
  have hY:=hY trivial
  unfold dB
  rw [if_pos (decide_eq_true (show (n:Int)<(N:Int) by omega))]
  dsimp only at hY ⊢
  have hPQ:P*Q<=25*25:=Nat.mul_le_mul l1 l2
  rw [vN (r:=P) (n:=Q) (by omega)]
  refine aFM g hn hF ?_
  rw [aA ((n:Int)+1) (by omega) (by omega)]
  rw [Nat.add_mul,Nat.one_mul] at hY
  exact hY
 ·intro _ Y
  unfold dB
  rw [if_neg (by simp)]
  exact h
end
def aFi (k:Int):Int:=IntKind.i64.wrap ((IntKind.i64.wrap (k.tdiv 2))*2)
def WJ (x:T3) (k s:Int):T3×Int :=
 if (plE x k s != 0)=true then (Z3,plE x k s) else ((plD x k s,(IntKind.i64.wrap (x.2.1-aFi k),tab (plN x k s) fun t=>aBj x.2.2 (plA x k s t))),0)
theorem aHP {x : T3} {k s : Int} {Q : T3 × Int -> Prop} (h : Q (WJ x k s)) : PG x k s Q := by
  refine ⟨?_⟩
  unfold WJ at h
  refine kG ?_
  cases hm : cK (x.1, x.2.1, x.2.2) with
  | false =>
    have e : plE x k s = 1 := by unfold plE; rw [if_neg (by rw [show x = (x.1, x.2.1, x.2.2) from rfl, hm]; simp)]
    rw [e] at h
    exact h
  | true =>
    rw [if_neg (by simp)]
    refine UR (fun hl => ?_) (fun hl => ?_)
    · have e : plE x k s = 2 := by unfold plE; rw [if_pos hm, if_pos hl]
      rw [e] at h
      exact h
    · cases hpq : (decide (0 < aL (x.1.getD 2 0) k s 0) && decide (0 < aL (x.1.getD 3 0) k s 0)) with
      | false =>
        have e : plE x k s = 2 := by unfold plE; rw [if_pos hm, if_neg (by rw [hl]; simp), if_neg (by rw [hpq]; simp)]
        rw [e] at h
        exact h
      | true =>
        have e : plE x k s = 0 := by unfold plE; rw [if_pos hm, if_neg (by rw [hl]; simp), if_pos hpq]
        rw [e, if_neg (by simp)] at h
        rw [if_neg (by simp)]
        obtain ⟨N, H, V, P, Q, n, m, ex, eN, g, _, hb⟩ := aD3 e
        unfold plN plA plD at h
        dsimp only
        rw [ex] at h ⊢
        simp only [List.getD_cons_succ, List.getD_cons_zero] at h ⊢
        rw [g.hP, g.hQ] at h ⊢
        have en : ((n : Int) * (m : Int)).toNat = N := by rw [eN, <- Int.natCast_mul]; exact Int.toNat_natCast _
        rw [en] at h
        simp only [Int.toNat_natCast] at h
        have hN : n * m <= 8192 := by rw [<- eN]; exact g.le.2.2
        rw [vN (r := n) (n := m) (by omega), <- eN]
        refine ⟨by simp, by simp, ⟨by decide, ?_⟩⟩
        refine ⟨by simp, by simp, aEE g rfl ?_⟩
        exact h
end Go.Proofs.YtcfpfefadlnmcaaGreat

namespace Go.Proofs.YtcfpfefadlnmcaaGreat
open Go.Mach Go.RowKit
set_option maxRecDepth 100000
set_option linter.unusedVariables false
set_option linter.unusedSimpArgs false
def BX (v:Int) (L l:List Int):List Int:=l.foldl (fun L a=>L.set a.toNat (IntKind.i32.wrap (L.getD a.toNat 0+v))) L
theorem KZ (v : Int) : ∀ (l L : List Int), (BX v L l).length = L.length
  | [], L => rfl
  | a :: l, L => by
    show (BX v (L.set _ _) l).length = _
    rw [KZ v l, List.length_set]
theorem aAH {v:Int} {L l:List Int} {i:Nat} (hi:i<l.length):BX v L (l.take (i+1))=(BX v L (l.take i)).set (l.getD i 0).toNat (IntKind.i32.wrap ((BX v L (l.take i)).getD (l.getD i 0).toNat 0+v)):=by
 rw [yT hi 0]
 unfold BX
 rw [List.foldl_append]
 rfl
theorem aF5 {gd L l:List Int} {t:Nat} {K0:List Int->Prop} (hl:l.length<=1000000) (hr:∀ a∈l,0<=a/\a<(L.length:Int)) (ht:t<gd.length) (h:K0 (BX (IntKind.i32.wrap (gd.getD t 0)) L l)) :
  bT (t:Int) (l.length:Int) gd l K0 (0,L):=by
 refine ⟨?_⟩
 refine Loop.range (B:=aU (t:Int) (l.length:Int) gd l K0) l.length (fun i:Nat=>((i:Int),BX (IntKind.i32.wrap (gd.getD t 0)) L (l.take i))) (fun _=>True) trivial ?_ ?_
 ·intro i hi _ X hX
  have hX:=hX trivial
  unfold aU
  rw [if_pos (decide_eq_true (show (i:Int)<(l.length:Int) by omega))]
  dsimp only at hX ⊢
  have hm:=hr (l.getD i 0) (by rw [List.getD_eq_getElem?_getD,List.getElem?_eq_getElem hi]; exact List.getElem_mem hi)
  rw [Int.toNat_natCast,Int.toNat_natCast,KZ]
  refine ⟨by omega,by omega,by omega,by omega,?_⟩
  rw [aA ((i:Int)+1) (by omega) (by omega)]
  rw [aAH hi] at hX
  exact hX
 ·intro _ X
  unfold aU
  rw [if_neg (by simp),List.take_length]
  exact h
theorem aGx {n H V:Nat} {w:List (Int×Int×Int)} {K0:List Int->Prop} (hb:n*H*V<=100000000) (hV:1<=V) (hw:w.length<=1000000) (hz:∀ z∈w,0<=z.1/\z.1<=100000000) (h:K0 (w.map fun z=>((n*H*V:Nat):Int)+z.1)) :
  d9 n (w.length:Int) H V w K0 (0,[]):=by
 refine ⟨?_⟩
 have e0:((0:Int),([]:List Int))=(fun i:Nat=>((i:Int),(w.take i).map fun z=>((n*H*V:Nat):Int)+z.1)) 0:=by simp
 rw [e0]
 refine Loop.range (B:=cH n (w.length:Int) H V w K0) w.length (fun i:Nat=>((i:Int),(w.take i).map fun z=>((n*H*V:Nat):Int)+z.1)) (fun _=>True) trivial ?_ ?_
 ·intro i hi _ X hX
  have hX:=hX trivial
  unfold cH
  rw [if_pos (decide_eq_true (show (i:Int)<(w.length:Int) by omega))]
  dsimp only at hX ⊢
  have hm:=hz (w.getD i (0,0,0)) (by rw [List.getD_eq_getElem?_getD,List.getElem?_eq_getElem hi]; exact List.getElem_mem hi)
  refine ⟨by omega,?_⟩
  rw [Int.toNat_natCast]
  rcases ER hb hm with e | e
  ·rw [e,aA ((i:Int)+1) (by omega) (by omega)]
   refine ⟨by simp; omega,?_⟩
   rw [yT hi (0,0,0),List.map_append] at hX
   exact hX
  ·omega
 ·intro _ X
  unfold cH
  rw [if_neg (by simp),List.take_length]
  exact h
def bkF (gd:List Int) (cell:Nat->List Int) (L:List Int) (t:Nat):List Int:=(List.range t).foldl (fun L t=>BX (IntKind.i32.wrap (gd.getD t 0)) L (cell t)) L
theorem P6 (gd:List Int) (cell:Nat->List Int) (L:List Int) (t:Nat):bkF gd cell L (t+1)=BX (IntKind.i32.wrap (gd.getD t 0)) (bkF gd cell L t) (cell t):=by
 unfold bkF
 rw [List.range_succ,List.foldl_append]
 rfl
theorem aBK (gd:List Int) (cell:Nat->List Int) (L:List Int):∀ t,(bkF gd cell L t).length=L.length
 | 0=>rfl
 | t+1=>by rw [P6,KZ,aBK gd cell L t]
section
variable {N H V P Q:Nat} {k s:Int} {X gd:List Int}
theorem aG3 (g:PoolIn N H V P Q k s X) (hg:gd.length=N*(P*Q)) {n:Nat} (hn:n<N) {K0:List Int->Prop} (h:K0 (bkF gd (lY H V k s P Q) X (n*(P*Q)+P*Q))) :
  eC n ((P*Q:Nat):Int) gd H V k s P Q K0 (0,bkF gd (lY H V k s P Q) X (n*(P*Q))):=by
 obtain ⟨l1,l2,l3⟩:=g.le
 have q1:=g.q1
 have hPQ:P*Q<=25*25:=Nat.mul_le_mul l1 l2
 have hNN:n*(P*Q)<=8192*(25*25):=Nat.mul_le_mul (by omega) hPQ
 have hN1:n*(P*Q)+P*Q<=N*(P*Q):=by
  have:=Nat.mul_le_mul_right (P*Q) hn
  rw [Nat.succ_mul] at this
  exact this
 have hx:=g.hx
 have bx:=g.bx
 refine ⟨?_⟩
 have e0:((0:Int),bkF gd (lY H V k s P Q) X (n*(P*Q)))=(fun i:Nat=>((i:Int),bkF gd (lY H V k s P Q) X (n*(P*Q)+i))) 0:=rfl
 rw [e0]
 refine Loop.range (B:=cJ n ((P*Q:Nat):Int) gd H V k s P Q K0) (P*Q) (fun i:Nat=>((i:Int),bkF gd (lY H V k s P Q) X (n*(P*Q)+i))) (fun _=>True) trivial ?_ ?_
 ·intro i hi _ Y hY
  have hY:=hY trivial
  obtain ⟨⟨c1,c2⟩,c3,c4,c5,c6⟩:=g.cell hn hi
  have c7:=g.addr hn hi
  unfold cJ
  rw [if_pos (decide_eq_true (show (i:Int)<((P*Q:Nat):Int) by omega))]
  dsimp only at hY ⊢
  refine ⟨by omega,by omega,?_⟩
  have e1:IntKind.i64.wrap ((i:Int).tdiv (Q:Int))=((i / Q:Nat):Int):=by
   rw [<- Int.ofNat_tdiv]; exact aA _ (by have:=Int.natCast_nonneg (i / Q); generalize i / Q=y at *; omega) (by have:=Nat.div_le_self i Q; generalize i / Q=y at *; omega)
  have e2:(i:Int).tmod (Q:Int)=((i%Q:Nat):Int):=(Int.ofNat_tmod _ _).symm
  rw [e1,e2]
  refine DC ?_
  have hb:n*H*V<=100000000:=by
   have h7:n*H*V=n*(H*V):=Nat.mul_assoc _ _ _
   have:=Nat.mul_le_mul_right (H*V) (Nat.le_of_lt hn)
   omega
  refine aGx hb g.hV.1 (by omega) (fun z hz=>by
   have:=c4 z hz
   have h8:H*V<=16*16:=Nat.mul_le_mul g.hH.2 g.hV.2
   omega) ?_
  rw [<- c6]
  have hlen:(lY H V k s P Q (n*(P*Q)+i)).length<=25:=by rw [c6]; simpa using c3
  have e3:IntKind.i64.wrap (IntKind.i64.wrap (IntKind.i64.wrap ((n:Int)*(P:Int))*(Q:Int))+(i:Int))=((n*(P*Q)+i:Nat):Int):=by
   rcases ER (n:=n) (H:=P) (V:=Q) (a:=(i:Int)) (by rw [Nat.mul_assoc]; omega) (by omega) with e | e
   ·rw [e,Nat.mul_assoc]; rfl
   ·omega
  rw [e3]
  refine aF5 (by omega) (by rw [aBK]; exact c7) (by omega) ?_
  rw [aA ((i:Int)+1) (by omega) (by omega)]
  rw [show n*(P*Q)+(i+1)=n*(P*Q)+i+1 by omega,P6] at hY
  exact hY
 ·intro _ Y
  unfold cJ
  rw [if_neg (by simp)]
  exact h
theorem aF6 (g:PoolIn N H V P Q k s X) (hg:gd.length=N*(P*Q)) {K0:List Int->Prop} (h:K0 (bkF gd (lY H V k s P Q) X (N*(P*Q)))):eB (N:Int) gd H V k s P Q K0 (0,X):=by
 obtain ⟨l1,l2,l3⟩:=g.le
 refine ⟨?_⟩
 have e0:((0:Int),X)=(fun n:Nat=>((n:Int),bkF gd (lY H V k s P Q) X (n*(P*Q)))) 0:=by simp [bkF]
 rw [e0]
 refine Loop.range (B:=cI (N:Int) gd H V k s P Q K0) N (fun n:Nat=>((n:Int),bkF gd (lY H V k s P Q) X (n*(P*Q)))) (fun _=>True) trivial ?_ ?_
 ·intro n hn _ Y hY
  have hY:=hY trivial
  unfold cI
  rw [if_pos (decide_eq_true (show (n:Int)<(N:Int) by omega))]
  dsimp only at hY ⊢
  have hPQ:P*Q<=25*25:=Nat.mul_le_mul l1 l2
  rw [vN (r:=P) (n:=Q) (by omega)]
  refine aG3 g hg hn ?_
  rw [aA ((n:Int)+1) (by omega) (by omega)]
  rw [Nat.add_mul,Nat.one_mul] at hY
  exact hY
 ·intro _ Y
  unfold cI
  rw [if_neg (by simp)]
  exact h
end
def abD (d:List Int) (k s:Int):List Int:=[d.getD 0 0,d.getD 1 0,aL (d.getD 2 0) k s 0,aL (d.getD 3 0) k s 0]
def abE (g:T3) (d:List Int) (k s:Int):Int :=
 if cK g=true/\0<szF d then (if (d.length=4/\0<aL (d.getD 2 0) k s 0/\0<aL (d.getD 3 0) k s 0)/\g.1=abD d k s then 0 else 2) else 1
def aEG (g:T3) (d:List Int) (k s:Int):List Int :=
 bkF g.2.2 (lY (d.getD 2 0).toNat (d.getD 3 0).toNat k s (aL (d.getD 2 0) k s 0).toNat (aL (d.getD 3 0) k s 0).toNat) (List.replicate (szF d).toNat 0) ((d.getD 0 0*d.getD 1 0).toNat*((aL (d.getD 2 0) k s 0).toNat*(aL (d.getD 3 0) k s 0).toNat))
def qY (g:T3) (d:List Int) (k s:Int):T3×Int :=
 if (abE g d k s != 0)=true then (Z3,abE g d k s) else ((d,(IntKind.i64.wrap (g.2.1-aFi k),aEG g d k s)),0)
theorem aCe {g : T3} {d : List Int} {k s : Int} {Q : T3 × Int -> Prop} (h : Q (qY g d k s)) : BM g d k s Q := by
  refine ⟨kG ?_⟩
  unfold jn
  dsimp only
  unfold qY at h
  cases hm : cK g with
  | false =>
    have e : abE g d k s = 1 := by unfold abE; rw [if_neg (by rw [hm]; simp)]
    rw [e] at h
    exact h
  | true =>
    rw [if_neg (by simp)]
    refine EB ?_
    by_cases hs : 0 < szF d
    rotate_left
    · have e : abE g d k s = 1 := by unfold abE; rw [if_neg (fun hh => hs hh.2)]
      rw [e] at h
      rw [decide_eq_false hs, if_pos (by rfl)]
      exact h
    rw [decide_eq_true hs, if_neg (by simp)]
    refine UR (fun hl => ?_) (fun hl => ?_)
    · have e : abE g d k s = 2 := by unfold abE; rw [if_pos ⟨hm, hs⟩, if_neg (by rintro ⟨⟨h1, _⟩, _⟩; simp [h1] at hl)]
      rw [e] at h
      exact h
    have hl4 : d.length = 4 := by
      have : (d.length : Int) = 4 := by simpa using hl
      omega
    cases hpq : (decide (0 < aL (d.getD 2 0) k s 0) && decide (0 < aL (d.getD 3 0) k s 0)) with
    | false =>
      have e : abE g d k s = 2 := by
        unfold abE
        rw [if_pos ⟨hm, hs⟩, if_neg]
        rintro ⟨⟨_, h1, h2⟩, _⟩
        rw [decide_eq_true h1, decide_eq_true h2] at hpq
        cases hpq
      rw [e] at h
      exact h
    | true =>
      rw [if_neg (by simp)]
      have hpq' := hpq
      simp only [Bool.and_eq_true, decide_eq_true_eq] at hpq'
      refine ⟨by omega, by omega, D3 (by have := (eK hm).1; omega) ?_⟩
      by_cases hd : g.1 = abD d k s
      rotate_left
      · have e : abE g d k s = 2 := by unfold abE; rw [if_pos ⟨hm, hs⟩, if_neg (fun hh => hd hh.2)]
        rw [e] at h
        rw [show decide (g.1 = [d.getD 0 0, d.getD 1 0, aL (d.getD 2 0) k s 0, aL (d.getD 3 0) k s 0]) = false from decide_eq_false hd, if_pos (by rfl)]
        exact h
      have e : abE g d k s = 0 := by unfold abE; rw [if_pos ⟨hm, hs⟩, if_pos ⟨⟨hl4, hpq'⟩, hd⟩]
      rw [e, if_neg (by simp)] at h
      rw [show decide (g.1 = [d.getD 0 0, d.getD 1 0, aL (d.getD 2 0) k s 0, aL (d.getD 3 0) k s 0]) = true from decide_eq_true hd, if_neg (by simp)]
      refine sS (by omega) ⟨by decide, C6 ⟨by have := (lD hs).2.2.2; have := (lD hs).2.2.1; omega, by omega, by omega, ?_⟩⟩
      obtain ⟨a, b, c, dd, ed⟩ := aH1 (l := d) (by omega)
      subst ed
      obtain ⟨n, m, H, V, rfl, rfl, rfl, rfl, n1, m1, H1, V1, hb, hsz⟩ := aCP hs
      unfold aEG at h
      simp only [List.getD_cons_succ, List.getD_cons_zero, abD] at h hd hpq' ⊢
      obtain ⟨P, eP, _⟩ := pM (n := (H : Int)) (k := k) (s := s) (p := 0)
      obtain ⟨R, eQ, _⟩ := pM (n := (V : Int)) (k := k) (s := s) (p := 0)
      obtain ⟨a1, a2, a3, _⟩ := nM hpq'.1
      obtain ⟨b1, _⟩ := nM hpq'.2
      rw [eP, eQ] at h hd hpq' ⊢
      have en : ((n : Int) * (m : Int)).toNat = n * m := by rw [<- Int.natCast_mul]; exact Int.toNat_natCast _
      rw [en, hsz] at h
      simp only [Int.toNat_natCast] at h
      have hnm : n * m <= n * m * H * V := by rw [Nat.mul_assoc (n * m)]; exact Nat.le_mul_of_pos_right _ (Nat.mul_pos H1 V1)
      rw [vN (r := n) (n := m) (by omega), hsz, Int.toNat_natCast]
      obtain ⟨_, _, _, _, e4, _, _, _, _, _, hgl, _, _⟩ := UA hm (by rw [hd]; rfl)
      rw [hd] at e4
      simp only [List.cons.injEq, Int.natCast_inj, and_true] at e4
      obtain ⟨rfl, rfl, rfl, rfl⟩ := e4
      exact aF6 (N := n * m) ⟨by rw [List.length_replicate, Nat.mul_assoc (n * m)], by rw [<- Nat.mul_assoc]; exact hb, by omega, by omega, a2, a3, eP, eQ, by omega, by omega⟩ (by rw [hgl, Nat.mul_assoc (n * m)]) h
def W3 (gd fr:List Int) (L:List Int) (t:Nat):List Int:=(List.range t).foldl (fun L t=>L.set (fr.getD t 0).toNat (IntKind.i32.wrap (L.getD (fr.getD t 0).toNat 0+IntKind.i32.wrap (gd.getD t 0)))) L
theorem KS (gd fr L:List Int) (t:Nat):W3 gd fr L (t+1)=(W3 gd fr L t).set (fr.getD t 0).toNat (IntKind.i32.wrap ((W3 gd fr L t).getD (fr.getD t 0).toNat 0+IntKind.i32.wrap (gd.getD t 0))):=by
 unfold W3
 rw [List.range_succ,List.foldl_append]
 rfl
theorem ZE (gd fr L:List Int):∀ t,(W3 gd fr L t).length=L.length
 | 0=>rfl
 | t+1=>by rw [KS,List.length_set,ZE gd fr L t]
def mxE (g:T3) (fr d:List Int):Int :=
 if cK g=true/\0<szF d then (if fr.length=g.2.2.length then (if (fr.all fun a=>inP a 0 (szF d-1))=true then 0 else 1) else 2) else 1
def qQ (g:T3) (fr d:List Int):T3×Int :=
 if (mxE g fr d != 0)=true then (Z3,mxE g fr d) else ((d,(g.2.1,W3 g.2.2 fr (List.replicate (szF d).toNat 0) fr.length)),0)
theorem aCk {g : T3} {fr d : List Int} {Q : T3 × Int -> Prop} (h : Q (qQ g fr d)) : BN g fr d Q := by
  refine ⟨C6 (kG ?_)⟩
  unfold qQ at h
  have hn := BE d
  by_cases hs : cK g = true /\ 0 < szF d
  rotate_left
  · have e : mxE g fr d = 1 := by unfold mxE; rw [if_neg hs]
    rw [e] at h
    rw [if_pos]
    · exact h
    · simp only [Bool.or_eq_true, Bool.not_eq_true', beq_iff_eq]
      cases hm : cK g with
      | false => exact .inl rfl
      | true => right; have : ¬ 0 < szF d := fun hh => hs ⟨hm, hh⟩; omega
  rw [if_neg (by simp only [Bool.or_eq_true, Bool.not_eq_true', beq_iff_eq, hs.1]; have := hs.2; rintro (h1 | h1); cases h1; omega)]
  by_cases hl : fr.length = g.2.2.length
  rotate_left
  · have e : mxE g fr d = 2 := by unfold mxE; rw [if_pos hs, if_neg hl]
    rw [e] at h
    rw [if_pos (by simp only [bne_iff_ne, ne_eq]; omega)]
    exact h
  rw [if_neg (by simp [hl])]
  obtain ⟨hd1, _, hd3, hd4⟩ := lD hs.2
  obtain ⟨k1, k2, _⟩ := eK hs.1
  refine sS (by omega) ⟨by omega, ⟨?_⟩⟩
  have hK1 : (fr.all fun a => inP a 0 (szF d - 1)) = false -> Q (Z3, 1) := fun hf => by
    have e : mxE g fr d = 1 := by unfold mxE; rw [if_pos hs, if_pos hl, if_neg (by rw [hf]; simp)]
    rw [e] at h
    exact h
  refine Loop.range (B := mF (szF d) fr (fr.length : Int) g.2.2 _ _) fr.length (fun i : Nat => ((i : Int), W3 g.2.2 fr (List.replicate (szF d).toNat 0) i)) (fun i => (fr.take i).all (fun a => inP a 0 (szF d - 1)) = true) rfl ?_ ?_
  · intro i hi hI X hX
    unfold mF
    rw [if_pos (decide_eq_true (show (i : Int) < (fr.length : Int) by omega))]
    dsimp only at hX ⊢
    rw [Int.toNat_natCast]
    refine ⟨by omega, ?_⟩
    cases hb : inP (fr.getD i 0) 0 (szF d - 1) with
    | false =>
      rw [if_pos]
      · exact hK1 (aA7 (d := 0) hi hb)
      · unfold inP at hb
        simp only [Bool.and_eq_false_iff, decide_eq_false_iff_not] at hb
        simp only [Bool.or_eq_true, decide_eq_true_eq]
        omega
    | true =>
      have hb' := hb
      unfold inP at hb'
      simp only [Bool.and_eq_true, decide_eq_true_eq] at hb'
      rw [if_neg (by simp only [Bool.or_eq_true, decide_eq_true_eq]; omega), ZE, List.length_replicate]
      refine ⟨by omega, by omega, by omega, ?_⟩
      have hX := hX (by rw [O8 (d := 0) hi, hI, hb]; rfl)
      rw [KS] at hX
      rw [aA ((i : Int) + 1) (by omega) (by omega)]
      exact hX
  · intro hI X
    unfold mF
    rw [if_neg (by simp)]
    rw [List.take_length] at hI
    have e : mxE g fr d = 0 := by unfold mxE; rw [if_pos hs, if_pos hl, if_pos hI]
    rw [e, if_neg (by simp)] at h
    exact h
def rbF (g x:T3):T3×Int :=
 if cK g=true/\cK x=true then (if g.1=x.1 then ((g.1,g.2.1,tab g.2.2.length fun i=>if 0<x.2.2.getD i 0 then g.2.2.getD i 0 else 0),0) else (Z3,2)) else (Z3,1)
theorem ZO {g x : T3} {Q : T3 × Int -> Prop} (h : Q (rbF g x)) : xK g x Q := by
  refine ⟨kG ?_⟩
  unfold jn
  dsimp only
  unfold rbF at h
  cases hm : cK g with
  | false =>
    rw [if_neg (by rw [hm]; simp)] at h
    rw [if_pos (by rfl), if_pos rfl]
    exact h
  | true =>
    rw [if_neg (by simp)]
    refine kG ?_
    cases hx : cK x with
    | false =>
      rw [if_neg (by rw [hx]; simp)] at h
      rw [if_pos (by rfl)]
      exact h
    | true =>
      rw [if_pos ⟨hm, hx⟩] at h
      rw [if_neg (by simp)]
      obtain ⟨h1, h2, _⟩ := eK hm
      refine D3 (by omega) ?_
      by_cases he : g.1 = x.1
      rotate_left
      · rw [if_neg he] at h
        rw [decide_eq_false he, if_pos (by rfl)]
        exact h
      rw [if_pos he] at h
      rw [decide_eq_true he, if_neg (by simp)]
      have hlen : x.2.2.length = g.2.2.length := by
        have a := (eI.1 hm).2.1
        have b := (eI.1 hx).2.1
        rw [he] at a
        omega
      refine ⟨sS (by omega) ⟨?_⟩⟩
      refine Loop.range (B := dI x.1 x.2.1 x.2.2 g.1 g.2.1 g.2.2 (g.2.2.length : Int) _) g.2.2.length (fun i : Nat => ((i : Int), tab i fun i => if 0 < x.2.2.getD i 0 then g.2.2.getD i 0 else 0)) (fun _ => True) trivial ?_ ?_
      · intro i hi _ X hX
        have hX := hX trivial
        unfold dI
        dsimp only at hX ⊢
        rw [if_pos (decide_eq_true (show (i : Int) < (g.2.2.length : Int) by omega))]
        rw [NY] at hX
        refine ⟨⟨by omega, ?_⟩⟩
        rw [Int.toNat_natCast]
        by_cases hp : 0 < x.2.2.getD i 0
        · rw [if_pos hp] at hX
          rw [if_pos (decide_eq_true hp)]
          refine ⟨by omega, by simp [tab]; omega, ?_⟩
          rw [aA _ (by omega) (by omega)]
          exact hX
        · rw [if_neg hp] at hX
          rw [if_neg (by simpa using hp)]
          refine ⟨by simp [tab]; omega, ?_⟩
          rw [aA _ (by omega) (by omega)]
          exact hX
      · intro _ X
        unfold dI
        dsimp only
        rw [if_neg (by simp)]
        exact h
end Go.Proofs.YtcfpfefadlnmcaaGreat

namespace Go.Proofs.YtcfpfefadlnmcaaGreat
open Go.Mach Go.RowKit
set_option maxRecDepth 100000
set_option linter.unusedVariables false
set_option linter.unusedSimpArgs false
abbrev Lay:=Int×Int×Int×Int×Int×Int×Bool
abbrev Mdl:=(Int×Int×Int)×List Lay
abbrev aG:Lay:=(0,0,0,0,0,0,false)
theorem FL {a lo hi:Int} {Q:Bool->Prop} (h:Q (inP a lo hi)):l5 a lo hi Q:=⟨h⟩
def nV (a:Int×Int×Int):Bool:=(inP a.1 1 8&&inP a.2.1 1 16)&&inP a.2.2 1 16
theorem aDK {a : Int × Int × Int} {Q : Bool -> Prop} (h : Q (nV a)) : AN a Q := by
  refine ⟨FL ?_⟩
  unfold jn
  dsimp only
  unfold nV at h
  cases h1 : inP a.1 1 8 with
  | false => rw [h1] at h; rw [if_neg (by simp), if_neg (by simp)]; exact h
  | true =>
    rw [h1] at h
    rw [if_pos rfl]
    refine FL ?_
    cases h2 : inP a.2.1 1 16 with
    | false => rw [h2] at h; rw [if_neg (by simp)]; exact h
    | true => rw [h2] at h; rw [if_pos rfl]; exact FL h
def ZQ (x:Lay):Bool:=inP x.2.2.1 1 5&&inP x.2.2.2.1 1 4
theorem aEH {x:Lay} {Q:Bool->Prop} (h:Q (ZQ x)):uR x Q:=by
 refine ⟨FL ?_⟩
 unfold jn
 dsimp only
 unfold ZQ at h
 cases h1:inP x.2.2.1 1 5 with
 | false=>rw [h1] at h; rw [if_neg (by simp)]; exact h
 | true=>rw [h1] at h; rw [if_pos rfl]; exact FL h
def mZ (x:Lay) (n:Int):Bool :=
 if x.1=1 then inP x.2.1 1 4096&&((x.2.2.1==0)&&((x.2.2.2.1==0)&&((x.2.2.2.2.1==0)&&(x.2.2.2.2.2.1==0))))
 else if x.1=2 then ((inP x.2.1 1 8&&ZQ x)&&inP x.2.2.2.2.1 0 (IntKind.i64.wrap (x.2.2.1-1)))&&(x.2.2.2.2.2.1==0)
 else if x.1=3\/x.1=4 then ZQ x&&((x.2.1==0)&&((x.2.2.2.2.1==0)&&((x.2.2.2.2.2.1==0)&&(x.2.2.2.2.2.2==false))))
 else if x.1=5\/x.1=6 then (x.2.1==0)&&((x.2.2.1==0)&&((x.2.2.2.1==0)&&((x.2.2.2.2.1==0)&&((x.2.2.2.2.2.1==0)&&(x.2.2.2.2.2.2==false)))))
 else if x.1=7 then inP x.2.2.2.2.2.1 0 (IntKind.i64.wrap (n-1))&&((x.2.1==0)&&((x.2.2.1==0)&&((x.2.2.2.1==0)&&((x.2.2.2.2.1==0)&&(x.2.2.2.2.2.2==false)))))
 else false
theorem RZ {K:Unit->Prop} (h:K ()):nP K:=⟨h⟩
theorem aGe {x : Lay} {n : Int} {Q : Bool -> Prop} (h : Q (mZ x n)) : LH x n Q := by
  obtain ⟨kd, ou, k, st, pd, fr, fz⟩ := x
  refine ⟨?_⟩
  dsimp only
  unfold mZ at h
  dsimp only at h
  by_cases h1 : kd = 1
  · rw [if_pos h1] at h
    rw [if_pos (by simpa using h1)]
    refine FL (RZ ?_)
    refine cast (congrArg Q ?_) h
    simp
  rw [if_neg h1] at h
  rw [if_neg (by simpa using h1)]
  by_cases h2 : kd = 2
  · rw [if_pos h2] at h
    rw [if_pos (by simpa using h2)]
    refine FL ?_
    unfold jn
    dsimp only
    cases e1 : inP ou 1 8 with
    | false =>
      rw [e1] at h
      rw [if_neg (by simp), if_neg (by simp)]
      refine RZ (cast (congrArg Q ?_) h)
      simp
    | true =>
      rw [e1] at h
      rw [if_pos rfl]
      refine aEH ?_
      cases e2 : ZQ (kd, ou, k, st, pd, fr, fz) with
      | false =>
        rw [e2] at h
        rw [if_neg (by simp)]
        refine RZ (cast (congrArg Q ?_) h)
        simp
      | true =>
        rw [e2] at h
        rw [if_pos rfl]
        refine FL (RZ (cast (congrArg Q ?_) h))
        simp
  rw [if_neg h2] at h
  rw [if_neg (by simpa using h2)]
  have fin : ∀ {b : Bool} {k' st' fr' : Int}, (b && ((kd == kd) && ((ou == 0) && ((k == k') && ((st == st') && ((pd == 0) && ((fr == fr') && ((fz == false) && (true)))))))))
      = (b && ((ou == 0) && ((k == k') && ((st == st') && ((pd == 0) && ((fr == fr') && (fz == false))))))) := by
    intro b k' st' fr'
    simp
  by_cases h3 : kd = 3
  · rw [if_pos (.inl h3)] at h
    rw [if_pos (by simpa using h3)]
    refine ⟨?_⟩
    rw [if_pos (by simpa using h3)]
    refine aEH (RZ (cast (congrArg Q ?_) h))
    rw [fin]
    simp
  rw [if_neg (by simpa using h3)]
  refine ⟨?_⟩
  by_cases h4 : kd = 4
  · rw [if_pos (.inr h4)] at h
    rw [if_pos (by simpa using h4)]
    refine aEH (RZ (cast (congrArg Q ?_) h))
    rw [fin]
    simp
  rw [if_neg (by omega)] at h
  rw [if_neg (by simpa using h4)]
  by_cases h5 : kd = 5
  · rw [if_pos (.inl h5)] at h
    rw [if_pos (by simpa using h5)]
    refine ⟨?_⟩
    rw [if_pos (by simpa using h5)]
    refine RZ (cast (congrArg Q ?_) h)
    rw [fin]
    simp
  rw [if_neg (by simpa using h5)]
  refine ⟨?_⟩
  by_cases h6 : kd = 6
  · rw [if_pos (.inr h6)] at h
    rw [if_pos (by simpa using h6)]
    refine RZ (cast (congrArg Q ?_) h)
    rw [fin]
    simp
  rw [if_neg (by omega)] at h
  rw [if_neg (by simpa using h6)]
  by_cases h7 : kd = 7
  · rw [if_pos h7] at h
    rw [if_pos (by simpa using h7)]
    refine FL (RZ (cast (congrArg Q ?_) h))
    rw [fin]
    simp
  · rw [if_neg h7] at h
    rw [if_neg (by simpa using h7)]
    refine RZ (cast (congrArg Q ?_) h)
    simp
def FU (l:List Lay):Bool:=(List.range l.length).all fun i=>mZ (l.getD i aG) i
def qZ (m:Mdl):Bool:=(nV m.1&&inP (m.2.length:Int) 1 12)&&FU m.2
theorem aHB {m : Mdl} {Q : Bool -> Prop} (hl : m.2.length <= 10000000000000) (h : Q (qZ m)) : KA m Q := by
  refine ⟨aDK ?_⟩
  unfold jn
  dsimp only
  unfold qZ at h
  cases h1 : nV m.1 with
  | false =>
    rw [h1] at h
    rw [if_pos (by rfl), if_pos rfl]
    exact h
  | true =>
    rw [h1] at h
    rw [if_neg (by simp)]
    refine FL ?_
    cases h2 : inP (m.2.length : Int) 1 12 with
    | false =>
      rw [h2] at h
      rw [if_pos (by rfl)]
      exact h
    | true =>
      rw [h2] at h
      rw [if_neg (by simp)]
      simp only [Bool.true_and] at h
      refine ⟨?_⟩
      refine Loop.range (B := rE m.2 (m.2.length : Int) (fun _ => Q true) (fun _ => Q false)) m.2.length (fun i => (i : Int)) (fun i => ∀ j, j < i -> mZ (m.2.getD j aG) j = true) (fun j hj => absurd hj (by omega)) ?_ ?_
      · intro i hi hI X hX
        unfold rE
        rw [if_pos (decide_eq_true (show (i : Int) < (m.2.length : Int) by omega))]
        refine ⟨by omega, aGe ?_⟩
        simp only [Int.toNat_natCast]
        show if (!mZ (m.2.getD i aG) i) = true then _ else _
        cases hb : mZ (m.2.getD i aG) i with
        | true =>
          rw [if_neg (by simp), aA _ (by omega) (by omega)]
          refine hX fun j hj => ?_
          by_cases hji : j = i
          · subst hji; exact hb
          · exact hI j (by omega)
        | false =>
          rw [if_pos (by rfl)]
          have : FU m.2 = false := by
            unfold FU
            rw [List.all_eq_false]
            exact ⟨i, List.mem_range.2 hi, by rw [hb]; simp⟩
          rw [this] at h
          exact h
      · intro hI X
        unfold rE
        rw [if_neg (by simp)]
        have : FU m.2 = true := by
          unfold FU
          rw [List.all_eq_true]
          intro j hj
          exact hI j (List.mem_range.1 hj)
        rw [this] at h
        exact h
theorem iB {m:Mdl} (h:qZ m=true):((1<=m.1.1/\m.1.1<=8)/\(1<=m.1.2.1/\m.1.2.1<=16)/\(1<=m.1.2.2/\m.1.2.2<=16))/\(1<=m.2.length/\m.2.length<=12)/\∀ i,i<m.2.length->mZ (m.2.getD i aG) i=true:=by
 unfold qZ nV inP at h
 simp only [Bool.and_eq_true,decide_eq_true_eq] at h
 refine ⟨⟨h.1.1.1.1,h.1.1.1.2,h.1.1.2⟩,by omega,fun i hi => ?_⟩
 have:=h.2
 unfold FU at this
 rw [List.all_eq_true] at this
 exact this i (List.mem_range.2 hi)
def oZ (l:List Int):Int:=l.foldl (fun a x=>IntKind.i64.wrap (a*x)) 1
theorem KC {l:List Int} {Q:Int->Prop} (hl:l.length<=10000000000000) (h:Q (oZ l)):l6 l Q:=by
 refine ⟨⟨?_⟩⟩
 refine Loop.range (B:=lR l (l.length:Int) _) l.length (fun i=>(oZ (l.take i),(i:Int))) (fun _=>True) trivial ?_ ?_
 ·intro i hi _ X hX
  unfold lR
  dsimp only
  rw [if_pos (decide_eq_true (show (i:Int)<(l.length:Int) by omega))]
  refine ⟨by omega,?_⟩
  rw [Int.toNat_natCast,aA ((i:Int)+1) (by omega) (by omega)]
  have e:oZ (l.take (i+1))=IntKind.i64.wrap (oZ (l.take i)*l.getD i 0):=by
   unfold oZ
   rw [List.take_add_one,List.foldl_append,List.getD_eq_getElem?_getD,List.getElem?_eq_getElem hi]
   rfl
  rw [<- e]
  exact hX trivial
 ·intro _ X
  unfold lR
  dsimp only
  rw [if_neg (by simp),List.take_length]
  exact h
def eL (d:List Int) (c:Int) (x:Lay):List Int :=
 if d.length=3 then (if aL (d.getD 1 0) x.2.2.1 x.2.2.2.1 x.2.2.2.2.1=0\/aL (d.getD 2 0) x.2.2.1 x.2.2.2.1 x.2.2.2.2.1=0 then [] else [c,aL (d.getD 1 0) x.2.2.1 x.2.2.2.1 x.2.2.2.2.1,aL (d.getD 2 0) x.2.2.1 x.2.2.2.1 x.2.2.2.2.1]) else []
theorem aER {d:List Int} {c:Int} {x:Lay} {Q:List Int->Prop} (h:Q (eL d c x)):nU d c x Q:=by
 refine ⟨?_⟩
 unfold eL at h
 by_cases h3:d.length=3
 ·rw [if_pos h3] at h
  rw [if_neg (by simp [h3])]
  refine ⟨by omega,FP ⟨by omega,FP ?_⟩⟩
  by_cases hz:aL (d.getD 1 0) x.2.2.1 x.2.2.2.1 x.2.2.2.2.1=0\/aL (d.getD 2 0) x.2.2.1 x.2.2.2.1 x.2.2.2.2.1=0
  ·rw [if_pos hz] at h
   rw [if_pos (by simpa using hz)]
   exact h
  ·rw [if_neg hz] at h
   rw [if_neg (by simpa using hz)]
   exact ⟨by simp,h⟩
 ·rw [if_neg h3] at h
  rw [if_pos (by simp; omega)]
  exact h
def bX (x:Lay) (l:List (List Int)) (d:List Int):List Int :=
 if x.1=1 then (if d.length=1 then [x.2.1] else [])
 else if x.1=2 then eL d x.2.1 x
 else if x.1=3\/x.1=4 then eL d (d.getD 0 0) x
 else if x.1=5 then d
 else if x.1=6 then [oZ d]
 else if x.1=7 then (if l.getD x.2.2.2.2.2.1.toNat []=d then d else [])
 else []
theorem aFE {x : Lay} {l : List (List Int)} {Q : List Int -> Prop} (hl : l ≠ []) (hn : l.length <= 1000000) (hd : (l.getD (l.length - 1) []) ≠ []) (hb : ∀ d ∈ l, d.length <= 1000000) (hx : x.1 = 7 -> 0 <= x.2.2.2.2.2.1 /\ x.2.2.2.2.2.1 < (l.length : Int))
    (h : Q (bX x l (l.getD (l.length - 1) []))) : DR x l Q := by
  have hlen : 1 <= l.length := List.length_pos_iff.2 hl
  have hw : IntKind.i64.wrap ((l.length : Int) - 1) = ((l.length - 1 : Nat) : Int) := by rw [aA _ (by omega) (by omega)]; omega
  have hdb : (l.getD (l.length - 1) []).length <= 1000000 := by
    rw [List.getD_eq_getElem?_getD, List.getElem?_eq_getElem (by omega)]
    exact hb _ (List.getElem_mem _)
  refine ⟨?_⟩
  rw [hw]
  simp only [Int.toNat_natCast]
  refine ⟨by omega, ?_⟩
  obtain ⟨d, hde⟩ : ∃ d, l.getD (l.length - 1) [] = d := ⟨_, rfl⟩
  simp only [hde] at h hd hdb ⊢
  have hd0 : 0 < (d.length : Int) := by have := List.length_pos_iff.2 hd; omega
  have pl : ∀ c, Q (eL d c x) -> nU d c x (fun r => nz r (Q []) (ck (r ≠ []) (Q r))) := by
    intro c hq
    refine aER ⟨fun e => ?_, fun e => ⟨e, hq⟩⟩
    rw [e] at hq; exact hq
  unfold bX at h
  by_cases h1 : x.1 = 1
  · rw [if_pos h1] at h
    rw [if_pos (by simpa using h1)]
    by_cases h11 : d.length = 1
    · rw [if_pos h11] at h
      rw [if_pos (by simp [h11])]
      exact ⟨by simp, h⟩
    · rw [if_neg h11] at h
      rw [if_neg (by simp; omega)]
      exact h
  rw [if_neg h1] at h
  rw [if_neg (by simpa using h1)]
  by_cases h2 : x.1 = 2
  · rw [if_pos h2] at h
    rw [if_pos (by simpa using h2)]
    exact pl _ h
  rw [if_neg h2] at h
  rw [if_neg (by simpa using h2)]
  by_cases h3 : x.1 = 3
  · rw [if_pos (.inl h3)] at h
    rw [if_pos (by simpa using h3), if_pos (by simpa using h3)]
    exact ⟨by omega, pl _ h⟩
  rw [if_neg (by simpa using h3)]
  by_cases h4 : x.1 = 4
  · rw [if_pos (.inr h4)] at h
    rw [if_pos (by simpa using h4)]
    exact ⟨by omega, pl _ h⟩
  rw [if_neg (by omega)] at h
  rw [if_neg (by simpa using h4)]
  by_cases h5 : x.1 = 5
  · rw [if_pos h5] at h
    rw [if_pos (by simpa using h5)]
    exact sS (by omega) ⟨hd, h⟩
  rw [if_neg h5] at h
  rw [if_neg (by simpa using h5)]
  by_cases h6 : x.1 = 6
  · rw [if_pos h6] at h
    rw [if_pos (by simpa using h6)]
    exact KC (by omega) ⟨by simp, h⟩
  rw [if_neg h6] at h
  rw [if_neg (by simpa using h6)]
  by_cases h7 : x.1 = 7
  · rw [if_pos h7] at h
    rw [if_pos (by simpa using h7)]
    obtain ⟨f1, f2⟩ := hx h7
    refine ⟨⟨f1, f2⟩, ST ?_ ?_⟩
    · rw [List.getD_eq_getElem?_getD, List.getElem?_eq_getElem (by omega)]
      have := hb _ (List.getElem_mem (l := l) (n := x.2.2.2.2.2.1.toNat) (by omega))
      simp only [Option.getD_some]
      omega
    · by_cases he : l.getD x.2.2.2.2.2.1.toNat [] = d
      · rw [if_pos he] at h
        rw [decide_eq_true he, if_pos rfl]
        exact sS (by omega) ⟨hd, h⟩
      · rw [if_neg he] at h
        rw [decide_eq_false he, if_neg (by simp)]
        exact h
  · rw [if_neg h7] at h
    rw [if_neg (by simpa using h7)]
    exact h
end Go.Proofs.YtcfpfefadlnmcaaGreat

namespace Go.Proofs.YtcfpfefadlnmcaaGreat
open Go.Mach Go.RowKit
set_option maxRecDepth 100000
set_option linter.unusedVariables false
set_option linter.unusedSimpArgs false
abbrev Prm:=T3×List Int×T3
abbrev dY:Prm:=(([],0,[]),[],([],0,[]))
def bZ : List Lay -> Int -> List (List Int) -> List (List Int) × Int × Int
  | [], _, l => (l, 0, 0)
  | x :: r, i, l =>
    if bX x l (l.getD (l.length - 1) []) = [] then ([], i + 1, 2)
    else if 8192 < oZ (bX x l (l.getD (l.length - 1) [])) then ([], i + 1, 1)
    else bZ r (i + 1) (l ++ [bX x l (l.getD (l.length - 1) [])])
def inL (m:Mdl):List Int:=[m.1.1,m.1.2.1,m.1.2.2]
def aF (m:Mdl):List (List Int)×Int×Int :=
 if qZ m=true then (if 8192<oZ (inL m) then ([],0,1) else bZ m.2 0 [inL m]) else ([],0,1)
theorem MH (d:List Int) (c:Int) (x:Lay):(eL d c x).length<=3:=by
 unfold eL
 split
 ·split <;> simp
 ·simp
theorem N3 {x:Lay} {l:List (List Int)} {d:List Int} (hd:d.length<=3):(bX x l d).length<=3:=by
 unfold bX
 split
 ·split <;> simp
 split
 ·exact MH _ _ _
 split
 ·exact MH _ _ _
 split
 ·exact hd
 split
 ·simp
 split
 ·split
  ·exact hd
  ·simp
 ·simp
theorem vX {x:Lay} {n:Int} (h:mZ x n=true) (h7:x.1=7):0<=x.2.2.2.2.2.1/\x.2.2.2.2.2.1<=IntKind.i64.wrap (n-1):=by
 unfold mZ at h
 rw [if_neg (by omega),if_neg (by omega),if_neg (by omega),if_neg (by omega),if_pos h7] at h
 unfold inP at h
 simp only [Bool.and_eq_true,decide_eq_true_eq] at h
 exact h.1
structure ShOk (l:List (List Int)) (n:Nat):Prop where
 len:l.length=n
 ne:∀ d∈l,d≠[]/\d.length<=3
theorem ShOk.last {l:List (List Int)} {n:Nat} (h:ShOk l n) (hn:0<n):l.getD (l.length-1) []∈l:=by
 have:=h.len
 rw [List.getD_eq_getElem?_getD,List.getElem?_eq_getElem (by omega)]
 exact List.getElem_mem _
theorem ShOk.at_ {l:List (List Int)} {n:Nat} (h:ShOk l n) {i:Nat} (hi:i<n):l.getD i []≠[]/\(l.getD i []).length<=3:=by
 have:=h.len
 rw [List.getD_eq_getElem?_getD,List.getElem?_eq_getElem (by omega)]
 exact h.ne _ (List.getElem_mem _)
theorem ShOk.push {l:List (List Int)} {n:Nat} (h:ShOk l n) (hn:0<n) {x:Lay} (hg:bX x l (l.getD (l.length-1) [])≠[]):ShOk (l++[bX x l (l.getD (l.length-1) [])]) (n+1) where
 len:=by simp [h.len]
 ne:=fun d hd=>by
  rcases List.mem_append.1 hd with hd | hd
  ·exact h.ne d hd
  ·rw [List.mem_singleton] at hd
   subst hd
   exact ⟨hg,N3 (h.ne _ (h.last hn)).2⟩
theorem Q3 {m : Mdl} {Q : List (List Int) × Int × Int -> Prop} (hl : m.2.length <= 10000000000000) (h : Q (aF m)) : qV m Q := by
  refine ⟨aHB hl ?_⟩
  unfold aF at h
  show if (!qZ m) = true then _ else _
  by_cases hm : qZ m = true
  rotate_left
  · rw [if_neg hm] at h
    rw [if_pos (by simp [hm])]
    exact h
  rw [if_pos hm] at h
  rw [if_neg (by simp [hm])]
  obtain ⟨hin, hlen, hlay⟩ := iB hm
  refine ⟨by simp, KC (by simp) ?_⟩
  show if decide (8192 < oZ (inL m)) = true then _ else _
  by_cases hp : 8192 < oZ (inL m)
  · rw [if_pos hp] at h
    rw [if_pos (decide_eq_true hp)]
    exact h
  rw [if_neg hp] at h
  rw [if_neg (by simpa using hp)]
  refine ⟨?_⟩
  obtain ⟨z, hz⟩ : ∃ z, bZ m.2 0 [inL m] = z := ⟨_, rfl⟩
  rw [hz] at h
  refine Loop.rangeI (B := mJ m.2 (m.2.length : Int) _ _) m.2.length (fun i s => s.1 = (i : Int) /\ ShOk s.2 (i + 1) /\ bZ (m.2.drop i) i s.2 = z) ⟨rfl, ⟨rfl, fun d hd => ?_⟩, hz⟩ ?_ ?_
  · rw [List.mem_singleton] at hd
    subst hd
    exact ⟨by simp, by simp⟩
  · rintro i hi ⟨s1, l⟩ ⟨rfl, hsh, hgo⟩ X hX
    dsimp only at hsh hgo
    unfold mJ
    dsimp only
    rw [if_pos (decide_eq_true (show (i : Int) < (m.2.length : Int) by omega))]
    refine ⟨by omega, ?_⟩
    simp only [Int.toNat_natCast]
    have hdrop : m.2.drop i = m.2.getD i aG :: m.2.drop (i + 1) := by
      rw [List.drop_eq_getElem_cons hi, List.getD_eq_getElem?_getD, List.getElem?_eq_getElem hi]; rfl
    rw [hdrop] at hgo
    have hne : l ≠ [] := by intro e; have := hsh.len; rw [e] at this; simp at this
    have hL := hsh.last (by omega)
    refine aFE hne (by rw [hsh.len]; omega) (hsh.ne _ hL).1 (fun d hd => by have := (hsh.ne d hd).2; omega) (fun h7 => ?_) ?_
    · have := vX (hlay i hi) h7
      rw [hsh.len]
      rw [aA _ (by omega) (by omega)] at this
      show 0 <= (m.2.getD i aG).2.2.2.2.2.1 /\ (m.2.getD i aG).2.2.2.2.2.1 < _
      omega
    unfold bZ at hgo
    show nz (bX (m.2.getD i aG) l (l.getD (l.length - 1) [])) _ _
    generalize hg : bX (m.2.getD i aG) l (l.getD (l.length - 1) []) = g at hgo ⊢
    refine ⟨fun e => ?_, fun e => ⟨fun e2 => absurd e2 e, ?_⟩⟩
    · rw [if_pos e] at hgo
      subst hgo
      rw [aA _ (by omega) (by omega)]
      exact h
    · rw [if_neg e] at hgo
      have hg3 : g.length <= 3 := by rw [<- hg]; exact N3 (hsh.ne _ hL).2
      refine KC (by omega) ?_
      by_cases hq : 8192 < oZ g
      · rw [if_pos hq] at hgo
        subst hgo
        rw [if_pos (decide_eq_true hq), aA _ (by omega) (by omega)]
        exact h
      · rw [if_neg hq] at hgo
        rw [if_neg (by simpa using hq)]
        refine ⟨by rw [hsh.len]; simp; omega, ?_⟩
        refine hX _ ⟨by dsimp only; rw [aA _ (by omega) (by omega)]; omega, ?_, by dsimp only; exact_mod_cast hgo⟩
        dsimp only
        have := hsh.push (by omega) (x := m.2.getD i aG) (by rw [hg]; exact e)
        rwa [hg] at this
  · rintro ⟨s1, l⟩ ⟨rfl, hsh, hgo⟩ X
    unfold mJ
    dsimp only at hgo ⊢
    rw [if_neg (by simp)]
    rw [List.drop_length] at hgo
    unfold bZ at hgo
    subst hgo
    exact h
theorem LN : ∀ (r : List Lay) (i : Int) (l : List (List Int)) (n : Nat), ShOk l n -> 0 < n -> (bZ r i l).2.2 = 0 -> ShOk (bZ r i l).1 (n + r.length)
  | [], i, l, n, h, _, _ => h
  | x :: r, i, l, n, h, hn, h0 => by
    unfold bZ at h0 ⊢
    split at h0
    · cases h0
    · rename_i hg
      rw [if_neg hg]
      split at h0
      · cases h0
      · rename_i hp
        rw [if_neg hp]
        have := LN r (i + 1) _ (n + 1) (h.push hn hg) (by omega) h0
        rw [List.length_cons, show n + (r.length + 1) = n + 1 + r.length by omega]
        exact this
theorem sD {m:Mdl} (h:(aF m).2.2=0):qZ m=true/\ShOk (aF m).1 (m.2.length+1):=by
 unfold aF at h ⊢
 split at h
 ·rename_i hm
  rw [if_pos hm]
  split at h
  ·cases h
  ·rename_i hp
   rw [if_neg hp]
   have:=LN m.2 0 [inL m] 1 ⟨rfl,fun d hd=>by rw [List.mem_singleton] at hd; subst hd; exact ⟨by simp [inL],by simp [inL]⟩⟩ (by omega) h
   rw [Nat.add_comm]
   exact ⟨hm,this⟩
 ·cases h
def ofF (x:Lay) (d:List Int):List Int×Int :=
 if x.1=1 then ([x.2.1,d.getD 0 0],x.2.1) else if x.1=2 then ([x.2.1,d.getD 0 0,x.2.2.1,x.2.2.1],x.2.1) else ([],0)
def mR (m:Mdl) (i:Int):List Int×Int :=
 if (((aF m).2.2 != 0)||decide (i<1)||decide ((m.2.length:Int)<i))=true then ([],0)
 else if 0<szF (ofF (m.2.getD (i-1).toNat aG) ((aF m).1.getD (i-1).toNat [])).1 then ofF (m.2.getD (i-1).toNat aG) ((aF m).1.getD (i-1).toNat []) else ([],0)
theorem aBS:szF []=0:=rfl
theorem aHC {m:Mdl} {i:Int} {Q:List Int×Int->Prop} (hl:m.2.length<=10000000000000) (hd:(mR m i).1=[]->Q (mR m i)) (h:(mR m i).1≠[]->Q (mR m i)):DX m i Q:=by
 have h:Q (mR m i):=by
  by_cases e:(mR m i).1=[]
  ·exact hd e
  ·exact h e
 clear hd
 refine ⟨Q3 hl ?_⟩
 unfold mR at h
 by_cases h1:(((aF m).2.2 != 0)||decide (i<1)||decide ((m.2.length:Int)<i))=true
 ·rw [if_pos h1] at h
  rw [if_pos h1]
  exact h
 rw [if_neg h1] at h
 rw [if_neg h1]
 simp only [Bool.or_eq_true,bne_iff_ne,decide_eq_true_eq,not_or,ne_eq,Decidable.not_not] at h1
 obtain ⟨hm,hok⟩:=sD h1.1.1
 have hw:IntKind.i64.wrap (i-1)=i-1:=aA _ (by omega) (by omega)
 rw [hw]
 have hol:=hok.len
 have hat:=hok.at_ (i:=(i-1).toNat) (by omega)
 refine ⟨by omega,by show _/\_<((aF m).1.length:Int); omega,?_⟩
 show KY (m.2.getD (i-1).toNat aG) ((aF m).1.getD (i-1).toNat []) _
 generalize m.2.getD (i-1).toNat aG=x at h ⊢
 generalize (aF m).1.getD (i-1).toNat []=d at h hat ⊢
 have hd0:0<(d.length:Int):=by have:=List.length_pos_iff.2 hat.1; omega
 have fin:∀ r:List Int×Int,r.1≠[]->r.1.length<=4->Q (if 0<szF r.1 then r else ([],0))->nz r.1 (gB [] fun r3=>if (!r3)=true then Q ([],0) else Q ([],r.2)) (gB r.1 fun r3=>if (!r3)=true then Q ([],0) else ck (r.1≠[]) (Q (r.1,r.2))):=by
  intro r hr hr4 hq
  refine ⟨fun e=>absurd e hr,fun e=>EB ?_⟩
  by_cases hs:0<szF r.1
  ·rw [if_pos hs] at hq
   rw [decide_eq_true hs,if_neg (by simp)]
   exact ⟨hr,hq⟩
  ·rw [if_neg hs] at hq
   rw [decide_eq_false hs,if_pos (by rfl)]
   exact hq
 refine ⟨?_⟩
 unfold ofF at h
 by_cases k1:x.1=1
 ·simp only [if_pos k1] at h
  rw [if_pos (by simpa using k1)]
  exact ⟨by omega,by simp,fin ([x.2.1,d.getD 0 0],x.2.1) (by simp) (by simp) h⟩
 simp only [if_neg k1] at h
 rw [if_neg (by simpa using k1)]
 by_cases k2:x.1=2
 ·simp only [if_pos k2] at h
  rw [if_pos (by simpa using k2)]
  exact ⟨by omega,by simp,fin ([x.2.1,d.getD 0 0,x.2.2.1,x.2.2.1],x.2.1) (by simp) (by simp) h⟩
 ·simp only [if_neg k2] at h
  rw [if_neg (by simpa using k2)]
  refine ⟨fun _=>EB ?_,fun e=>absurd rfl e⟩
  rw [aBS,if_pos (by rfl)]
  rw [aBS,if_neg (by omega)] at h
  exact h
end Go.Proofs.YtcfpfefadlnmcaaGreat
