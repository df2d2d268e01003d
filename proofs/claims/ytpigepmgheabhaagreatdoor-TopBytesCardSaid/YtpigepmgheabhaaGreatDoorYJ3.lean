/- Part of the proof. No condition. -/
import Derived.Test.YtpigepmgheabhaaGreatDoorYJ2
import Derived.Test.YtpigepmgheabhaaGreatDoorYSim
namespace Go.Mach.J
open Go Go.Mach
def big:Nat:=1000000
structure HT where
 size:Nat
 t:Tr (Option KB)
def YJ (t:Tr Value)(n:Nat):Nat->(List Value->Prop)->Prop :=
 Nat.rec (motive:=fun _=>Nat->(List Value->Prop)->Prop) (fun _ k=>k [])
  (fun _ ih off k=>cG off fun off=>aDe (pth off) t fun v=>ih (Nat.succ off) fun l=>k (v::l)) n
def NK (vs:List Value):Nat->Tr Value->(Tr Value->Prop)->Prop :=
 List.rec (motive:=fun _=>Nat->Tr Value->(Tr Value->Prop)->Prop) (fun _ t k=>k t)
  (fun v _ ih off t k=>cG off fun off=>aFN v (pth off) t fun t=>ih (Nat.succ off) t k) vs
def R9 (vs:List Value)(p:Prop):Prop:=List.rec (motive:=fun _=>Prop) p (fun v _ ih=>aA0 v ih) vs
def o6 (l:List Value)(k:List Value->Prop):Prop :=
 List.rec (motive:=fun _=>(List Value->Prop)->Prop) (fun k=>k []) (fun v _ ih k=>UD v fun v=>ih fun l=>k (v::l)) l k
def vU (H:HT)(b:Nat)(k:KB->Prop):Prop :=
 HT.rec (motive:=fun _=>Prop) (fun n t=>chk (Nat.blt b n) (aAW (pth b) t fun o=>fN o False k)) H
def vF (H:HT)(b:Nat)(B:Option KB)(k:HT->Prop):Prop :=
 HT.rec (motive:=fun _=>Prop) (fun n t=>aAH B (pth b) t fun t=>k ⟨n,t⟩) H
def LL (H:HT)(B:KB)(k:Nat->HT->Prop):Prop :=
 HT.rec (motive:=fun _=>Prop) (fun n t=>chk (Nat.blt n big) (aAH (some B) (pth n) t fun t=>cG (Nat.succ n) fun m=>k n ⟨m,t⟩)) H
def RH (B:KB)(off:Nat)(k:Value->Prop):Prop :=
 KB.rec (motive:=fun _=>Prop) (fun t len _ _=>chk (Nat.blt off len) (aDe (pth off) t k)) B
def wI (B:KB)(off n:Nat)(k:List Value->Prop):Prop :=
 KB.rec (motive:=fun _=>Prop) (fun t len _ _=>chk (Nat.ble (off+n) len) (YJ t n off k)) B
def aBX (B:KB)(off:Nat)(vs:List Value)(k:KB->Prop):Prop :=
 KB.rec (motive:=fun _=>Prop) (fun t len es ex=>chk (Nat.ble (off+vs.length) len) (R9 vs (NK vs off t fun t=>k ⟨t,len,es,ex⟩))) B
def aBa (vs:List Value)(es:Nat)(ex:Bool)(k:KB->Prop):Prop :=
 chk (Nat.blt vs.length big) (R9 vs (NK vs 0 (.c undef) fun t=>cG vs.length fun n=>k ⟨t,n,es,ex⟩))
def A2 (B:KB)(L:Blk):Prop :=
 B.es=L.es/\B.exact=L.exact/\L.alive=true/\B.len=L.cells.length/\B.len<=big /\
   ∀ i,i<B.len->L.cells[i]? = some (B.t.get (pth i))/\(B.t.get (pth i)).oneCell'=true
def c6 (T:HT)(H:aD):Prop :=
 T.size=H.length/\T.size<=big/\∀ b B,b<T.size->T.t.get (pth b)=some B->∃ L,H[b]? = some L/\A2 B L
theorem C2 {i j:Nat}(hi:i<big)(hj:j<big)(h:pth i=pth j):i=j:=by
 unfold big at hi hj
 exact aDh (by omega) (by omega) h
def NC:List Value->Nat->Tr Value->Tr Value
 | [],_,t=>t
 | v::vs,off,t=>NC vs (off+1) (t.set v (pth off))
theorem CI:∀ (vs:List Value) (off:Nat) (t:Tr Value) (k:Tr Value->Prop),NK vs off t k ↔ k (NC vs off t)
 | [],_,_,_=>Iff.rfl
 | v::vs,off,t,k=>(aZ (k:=fun off=>aFN v (pth off) t fun t=>NK vs (Nat.succ off) t k)).trans ((xS v (pth off) t (fun t=>NK vs (Nat.succ off) t k)).trans (CI vs (off+1) _ k))
theorem DE:∀ (vs:List Value) (off:Nat) (t:Tr Value) (i:Nat),off+vs.length<=big->i<big ->
 some ((NC vs off t).get (pth i))=if off<=i/\i<off+vs.length then vs[i-off]? else some (t.get (pth i))
 | [],off,t,i,_,_=>by
   rw[aC (by simp only[List.length_nil];omega)]
   rfl
 | v::vs,off,t,i,h,hi=>by
   simp only[List.length_cons]at h
   simp only[NC,List.length_cons]
   rw[DE vs (off+1) _ i (by omega) hi]
   by_cases h1:off+1<=i/\i<off+1+vs.length
   ·rw[aA h1,aA (by omega),show i-off=(i-(off+1))+1 from by omega,List.getElem?_cons_succ]
   ·rw[aC h1]
    by_cases h2:i=off
    ·subst h2
     rw[aA (by omega),Nat.sub_self,Tr.get_set]
     rfl
    ·rw[aC (by omega),Tr.get_set_ne]
     exact fun e=>h2 (C2 hi (by omega) e)
theorem SX:∀ (n off:Nat) (t:Tr Value) (k:List Value->Prop),YJ t n off k->k ((List.range' off n).map fun i=>t.get (pth i))
 | 0,_,_,_,h=>h
 | n+1,off,t,k,h=>by
   have h1:=(aZ (k:=fun off=>aDe (pth off) t fun v=>YJ t n (Nat.succ off) fun l=>k (v::l))).1 h
   have h2:=(C9 (pth off) t (fun v=>YJ t n (Nat.succ off) fun l=>k (v::l))).1 h1
   have h3:=SX n (off+1) t _ h2
   rw[List.range'_succ,List.map_cons]
   exact h3
theorem BU:∀ {vs:List Value} {p:Prop},R9 vs p->vs.all Value.oneCell'=true/\vs.all (fun v => !lC v)=true/\p
 | [],_,h=>⟨rfl,rfl,h⟩
 | v::vs,p,h=>by
   obtain⟨h1,h2,h3⟩:=MW (v:=v) (p:=R9 vs p) h
   obtain⟨h4,h5,h6⟩:=BU h3
   refine⟨?_,?_,h6⟩
   ·simp only[List.all_cons,h1,h4,oZ]
   ·simp only[List.all_cons,h2,h5,Bool.not_false,oZ]
theorem jP:∀ {l:List Value} {k:List Value->Prop},o6 l k->k l
 | [],_,h=>h
 | v::l,k,h=>by
   have h1:=(LI (v:=v) (k:=fun v=>o6 l fun l=>k (v::l))).1 h
   exact jP (k:=fun l=>k (v::l)) h1
theorem vY {v:Value}(h:v.oneCell'=true):lC v=false:=by
 cases v with
 | tuple a=>cases h
 | _=>rfl
theorem lE {T:HT}{H:aD}{b:Nat}{k:KB->Prop}(hH:c6 T H)(h:vU T b k):∃ B L,b<T.size/\T.t.get (pth b)=some B/\H[b]? = some L/\A2 B L/\k B:=by
 obtain⟨n,t⟩:=T
 obtain⟨h1,h2⟩:=bU.1 (show chk (Nat.blt b n) _ from h)
 have h1:b<n:=by simpa [Nat.blt_eq] using h1
 have h3:=(wZ (pth b) t (fun o=>fN o False k)).1 h2
 cases hg:t.get (pth b)with
 | none=>rw[hg]at h3;exact h3.elim
 | some B =>
   rw[hg]at h3
   obtain⟨L,hL,hB⟩:=hH.2.2 b B h1 hg
   exact⟨B,L,h1,rfl,hL,hB,h3⟩
theorem blk?_of {H:aD}{b:Nat}{L:Blk}(h:H[b]? = some L)(ha:L.alive=true):blk? H b=some L:=by
 unfold blk?
 rw[h]
 simp only[ha,aO]
theorem KN {H:aD}{a:Addr}{B:KB}{L:Blk}{k:Value->Prop}(hL:H[a.block]? = some L)(hB:A2 B L)(h:RH B a.off k):∃ v,qR H a=some v/\v.oneCell'=true/\k v:=by
 obtain⟨t,len,es,ex⟩:=B
 obtain⟨h1,h2⟩:=bU.1 (show chk (Nat.blt a.off len) _ from h)
 have h1:a.off<len:=by simpa [Nat.blt_eq] using h1
 have h3:=(C9 (pth a.off) t k).1 h2
 obtain⟨_,_,ha,_,_,hc⟩:=hB
 obtain⟨hc1,hc2⟩:=hc a.off h1
 refine⟨_,?_,hc2,h3⟩
 unfold qR
 rw[blk?_of hL ha]
 simp only[hc1,vY hc2]
 rfl
theorem JX {B:KB}{L:Blk}(hB:A2 B L)(off n:Nat)(h:off+n<=B.len):(L.cells.drop off).take n=(List.range' off n).map (fun i=>B.t.get (pth i)):=by
 obtain⟨_,_,_,hl,_,hc⟩:=hB
 apply wQ
 intro i
 rw[List.getElem?_take,b8]
 by_cases hi:i<n
 ·rw[aA hi,q8,(hc (off+i) (by omega)).1,List.getElem?_range' hi]
  simp only[Option.map_some,m8]
 ·rw[aC hi,qX (by simp only[List.length_range'];omega)]
  rfl
theorem xZ {H:aD}{a:Addr}{n:Nat}{B:KB}{L:Blk}{k:List Value->Prop}(hL:H[a.block]? = some L)(hB:A2 B L)(h:wI B a.off n k) :
 ∃ l,fC H a n=some l/\l=(L.cells.drop a.off).take n/\a.off+n<=L.cells.length/\l.length=n/\l.all Value.oneCell'=true/\k l:=by
 obtain⟨t,len,es,ex⟩:=B
 obtain⟨h1,h2⟩:=bU.1 (show chk (Nat.ble (a.off+n) len) _ from h)
 have h1:a.off+n<=len:=by simpa [Nat.ble_eq] using h1
 have h3:=SX n a.off t k h2
 have h4:=JX hB a.off n h1
 have hB':=hB
 obtain⟨_,_,ha,hl,_,hc⟩:=hB
 have hone:((L.cells.drop a.off).take n).all Value.oneCell'=true:=by
  rw[h4,bW]
  intro v hv
  obtain⟨i,hi,he⟩:=List.mem_map.1 hv
  rw[List.mem_range']at hi
  obtain⟨j,hj,hi⟩:=hi
  have:=(hc i (show i<len from by omega)).2
  simp only at he
  rw[<- he,this]
 have hall:((L.cells.drop a.off).take n).all (fun v => !lC v)=true:=by
  rw[bW]at hone⊢
  intro v hv
  rw[vY (hone v hv)]
  rfl
 have hl':a.off+n<=L.cells.length:=by
  have:len=L.cells.length:=hl
  omega
 refine⟨(L.cells.drop a.off).take n,?_,rfl,hl',?_,hone,?_⟩
 ·unfold fC
  rw[blk?_of hL ha]
  simp only
  rw[aA ⟨hl',hall⟩]
 ·rw[eI,oB];omega
 ·rw[h4];exact h3
theorem ZI {B:KB}{L:Blk}{off:Nat}{vs:List Value}{k:KB->Prop}(hB:A2 B L)(h:aBX B off vs k) :
 ∃ B',off+vs.length<=L.cells.length/\vs.all Value.oneCell'=true/\A2 B' { L with cells:=setCells L.cells off vs }/\k B':=by
 obtain⟨t,len,es,ex⟩:=B
 obtain⟨h1,h2⟩:=bU.1 (show chk (Nat.ble (off+vs.length) len) _ from h)
 have h1:off+vs.length<=len:=by simpa [Nat.ble_eq] using h1
 obtain⟨h3,h4,h5⟩:=BU h2
 have h6:=(CI vs off t _).1 h5
 obtain⟨e1,e2,ha,hl,hb,hc⟩:=hB
 simp only at e1 e2 ha hl hb hc
 refine⟨_,by omega,h3,⟨e1,e2,ha,?_,hb,?_⟩,h6⟩
 ·simp only[pT];exact hl
 ·intro i hi
  simp only at hi
  have hp:=DE vs off t i (by omega) (by omega)
  by_cases h7:off<=i/\i<off+vs.length
  ·rw[aA h7]at hp
   have:=oL vs L.cells off (i-off) (by omega) (by omega)
   rw[show off+(i-off)=i from by omega]at this
   simp only
   rw[this,<- hp]
   refine⟨rfl,?_⟩
   have hm:=fW hp.symm
   exact List.all_eq_true.1 h3 _ hm
  ·rw[aC h7]at hp
   simp only[aX]at hp
   simp only
   rw[jY vs L.cells off i (by omega),hp]
   exact hc i hi
theorem XL {vs:List Value}{es:Nat}{ex:Bool}{k:KB->Prop}(h:aBa vs es ex k):∃ B,A2 B ⟨vs,es,ex,true⟩/\vs.all Value.oneCell'=true/\k B:=by
 obtain⟨h1,h2⟩:=bU.1 h
 have h1:vs.length<big:=by simpa [Nat.blt_eq] using h1
 obtain⟨h3,h4,h5⟩:=BU h2
 have h6:=(CI vs 0 (.c undef) _).1 h5
 have h7:=(aZ (n:=vs.length) (k:=fun n=>k ⟨NC vs 0 (.c undef),n,es,ex⟩)).1 h6
 refine⟨_,⟨rfl,rfl,rfl,rfl,kP h1,?_⟩,h3,h7⟩
 intro i hi
 simp only at hi
 have hp:=DE vs 0 (.c undef) i (by omega) (by omega)
 rw[aA (by omega),Nat.sub_zero]at hp
 refine⟨hp.symm,?_⟩
 have hm:=fW hp.symm
 exact List.all_eq_true.1 h3 _ hm
theorem QP {T:HT}{H:aD}{b:Nat}{B:KB}{L:Blk}{k:HT->Prop}(hH:c6 T H)(hb:b<T.size)(hB:A2 B L)(h:vF T b (some B) k):∃ T',c6 T' (H.set b L)/\k T':=by
 obtain⟨n,t⟩:=T
 have h1:=(oW (some B) (pth b) t (fun t=>k ⟨n,t⟩)).1 h
 obtain⟨e1,e2,e3⟩:=hH
 simp only at e1 e2 e3 hb
 refine⟨_,⟨?_,e2,?_⟩,h1⟩
 ·simp only[List.length_set];exact e1
 ·intro c C hc hC
  simp only at hc hC
  by_cases h2:c=b
  ·subst h2
   rw[Tr.get_set]at hC
   cases hC
   exact⟨L,by rw[gQ (by omega)],hB⟩
  ·rw[Tr.get_set_ne]at hC
   ·obtain⟨M,hM,hBM⟩:=e3 c C hc hC
    exact⟨M,by rw[dK (Ne.symm h2)];exact hM,hBM⟩
   ·exact fun e=>h2 (C2 (by omega) (by omega) e)
theorem J0 {T:HT}{H:aD}{b:Nat}{L:Blk}{k:HT->Prop}(hH:c6 T H)(hb:b<T.size)(h:vF T b none k):∃ T',c6 T' (H.set b L)/\k T':=by
 obtain⟨n,t⟩:=T
 have h1:=(oW none (pth b) t (fun t=>k ⟨n,t⟩)).1 h
 obtain⟨e1,e2,e3⟩:=hH
 simp only at e1 e2 e3 hb
 refine⟨_,⟨?_,e2,?_⟩,h1⟩
 ·simp only[List.length_set];exact e1
 ·intro c C hc hC
  simp only at hc hC
  by_cases h2:c=b
  ·subst h2
   rw[Tr.get_set]at hC
   cases hC
  ·rw[Tr.get_set_ne]at hC
   ·obtain⟨M,hM,hBM⟩:=e3 c C hc hC
    exact⟨M,by rw[dK (Ne.symm h2)];exact hM,hBM⟩
   ·exact fun e=>h2 (C2 (by omega) (by omega) e)
theorem II {T:HT}{H:aD}{B:KB}{L:Blk}{k:Nat->HT->Prop}(hH:c6 T H)(hB:A2 B L)(h:LL T B k):∃ T',c6 T' (H++[L])/\k H.length T':=by
 obtain⟨n,t⟩:=T
 obtain⟨h0,h1⟩:=bU.1 (show chk (Nat.blt n big) _ from h)
 have h0:n<big:=by simpa [Nat.blt_eq] using h0
 have h2:=(oW (some B) (pth n) t (fun t=>cG (Nat.succ n) fun m=>k n ⟨m,t⟩)).1 h1
 have h3:=(aZ (k:=fun m=>k n ⟨m,t.set (some B) (pth n)⟩)).1 h2
 obtain⟨e1,e2,e3⟩:=hH
 simp only at e1 e2 e3
 subst e1
 refine⟨_,⟨?_,?_,?_⟩,h3⟩
 ·simp only[aR,List.length_singleton]
 ·exact h0
 ·intro c C hc hC
  simp only at hc hC
  by_cases h2:c=H.length
  ·subst h2
   rw[Tr.get_set]at hC
   cases hC
   exact⟨L,by simp,hB⟩
  ·rw[Tr.get_set_ne]at hC
   ·obtain⟨M,hM,hBM⟩:=e3 c C (by omega) hC
    exact⟨M,by rw[dL (by omega)];exact hM,hBM⟩
   ·exact fun e=>h2 (C2 (by omega) (by omega) e)
end Go.Mach.J
