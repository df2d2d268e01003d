/- Part of the proof. No condition. -/
import Derived.Test.YtpigepmgheabhaaGreatDoorYJ5
namespace Go.Mach.J
open Go Go.Mach
def f8 (call:aQ)(ck:KC):Prop:=∀ fl f args T H k,c6 T H->ck fl f args T k->∃ v T' H',call fl f ⟨args⟩ H=some (v,H')/\c6 T' H'/\k v T'
def rA (P:Program)(call:aQ)(fl flc:Nat)(op:Op)(ev:Operand->Value)(H:aD):Option (Value×aD) :=
 match aJ P fl op ev H with
 | some (.value v,H')=>some (v,H')
 | some (.skip,H')=>some (undef,H')
 | some (.enter f args,H')=>call flc f args H'
 | none=>none
def FS (P:Program)(f:F)(op:Op):Prop:=∀ call ck fl flc T t K H k,f8 call ck->TRel T t->c6 K H->f ck fl flc T K k ->
 ∃ v K' H',rA P call fl flc op (eval t) H=some (v,H')/\c6 K' H'/\k v K'
section
variable {P:Program}
theorem dH {call:aQ}{fl flc:Nat}{op:Op}{ev:Operand->Value}{H H':aD}{v:Value}(h:aJ P fl op ev H=some (.value v,H')):rA P call fl flc op ev H=some (v,H'):=by
 unfold rA
 rw[h]
theorem fZ (op:Op):FS P pU op:=fun _ _ _ _ _ _ _ _ _ _ _ _ h=>h.elim
theorem eQ {p:Addr}{k:Nat->Nat->Prop}:jX p k ↔ k p.block p.off:=by cases p;exact Iff.rfl
theorem gD {α:Type}{o:Option α}{k:α->Prop}(h:fN o False k):∃ a,o=some a/\k a:=by
 cases o with
 | none=>exact h.elim
 | some a=>exact⟨a,rfl,h⟩
theorem xM {v:Value}{k:List Value->Prop}(h:cellsOf v k):k v.cells.toList:=by
 rcases ZS h with⟨a,rfl,h2⟩|⟨h1,h2⟩
 ·cases a;exact h2
 ·rw[h1];exact h2
theorem CO:∀ (l m:List Value) (k:List Value->Prop),aAJ l m k->k (l++m)
 | [],_,_,h=>h
 | v::l,m,k,h=>CO l m (fun r=>k (v::r)) h
theorem yS {T:TT}{t:aE}(hT:TRel T t):∀ (l:List Operand) (k:List Value->Prop),rdL (l.map cg) T k->k (l.map (eval t))
 | [],_,h=>h
 | x::l,k,h=>yS hT l (fun r=>k (eval t x::r)) (bP (k:=fun v=>rdL (l.map cg) T fun r=>k (v::r)) hT h)
theorem QR {T:TT}{t:aE}(hT:TRel T t){o:Option Operand}{k:Option Value->Prop}(h:rdO (o.map cg) T k):k (o.map (eval t)):=by
 cases o with
 | none=>exact h
 | some x=>exact bP (k:=fun v=>k (some v)) hT h
theorem C5 {a:Addr}{n:Nat}{k:Addr->Prop}(h:Y3 a n k):k (a.add n):=by
 cases n with
 | zero=>exact h
 | succ n =>
   have h1:=(eQ (k:=fun b o=>cG (o+Nat.succ n) fun o=>k ⟨b,o,none⟩)).1 h
   exact(aZ (k:=fun o=>k ⟨a.block,o,none⟩)).1 h1
theorem uH (a:Array Operand)(f:Operand->Value):a.map f=⟨a.toList.map f⟩:=by
 cases a;simp
theorem aD7 (x:Operand):FS P (aCC (cg x)) (.move x):=fun _ _ _ _ _ _ K _ k _ hT hH h=>⟨_,_,_,dH rfl,hH,bP (k:=fun v=>k v K) hT h⟩
theorem aAQ (x:Operand):FS P (aCC (cg x)) (.assign x):=fun _ _ _ _ _ _ K _ k _ hT hH h=>⟨_,_,_,dH rfl,hH,bP (k:=fun v=>k v K) hT h⟩
theorem aCz (c a b:Operand):FS P (aE7 (cg c) (cg a) (cg b)) (.pick c a b):=by
 intro call ck fl flc T t K H k _ hT hH h
 have h1:=bP (k:=fun d=>JH d fun d=>ifB d (rd (cg a) T fun v=>k v K) (rd (cg b) T fun v=>k v K)) hT h
 obtain⟨d,hd,h2⟩:=HK h1
 refine⟨_,_,_,dH (v:=if d then eval t a else eval t b) (by simp only[aJ,hd]),hH,?_⟩
 rcases cO.1 h2 with⟨rfl,h3⟩|⟨rfl,h3⟩
 ·exact bP (k:=fun v=>k v K) hT h3
 ·exact bP (k:=fun v=>k v K) hT h3
theorem tH {op:Op}{g:Value->Option Value}{x:Operand}(hop:∀ fl ev H,aJ P fl op ev H=(g (ev x)).map fun v=>(.value v,H)):FS P (u5 g (cg x)) op:=by
 intro call ck fl flc T t K H k _ hT hH h
 have h1:=bP (k:=fun v=>sE (g v) fun v=>k v K) hT h
 obtain⟨v,hv,hk⟩:=yJ h1
 exact⟨v,_,_,dH (by rw[hop,hv];rfl),hH,hk⟩
theorem aAf {op:Op}{g:Value->Value->Option Value}{x y:Operand}(hop:∀ fl ev H,aJ P fl op ev H=(g (ev x) (ev y)).map fun v=>(.value v,H)):FS P (aBD g (cg x) (cg y)) op:=by
 intro call ck fl flc T t K H k _ hT hH h
 have h1:=bP (k:=fun v=>rd (cg y) T fun w=>sE (g v w) fun v=>k v K) hT h
 have h2:=bP (k:=fun w=>sE (g (eval t x) w) fun v=>k v K) hT h1
 obtain⟨v,hv,hk⟩:=yJ h2
 exact⟨v,_,_,dH (by rw[hop,hv];rfl),hH,hk⟩
theorem aFc (op:BinOp)(ty yt:TypeId)(x y:Operand):FS P (aG6 P op ty (bR x||bR y) (cg x) (cg y)) (.binOp op ty x y yt):=by
 intro call ck fl flc T t K H k _ hT hH h
 have h1:=bP (k:=fun a=>rd (cg y) T fun b=>aFk P op ty (bR x||bR y) a b (fun v=>k v K) (sE (nM P op ty (bR x||bR y) a b) fun v=>k v K)) hT h
 have h2:=bP (k:=fun b=>aFk P op ty (bR x||bR y) (eval t x) b (fun v=>k v K) (sE (nM P op ty (bR x||bR y) (eval t x) b) fun v=>k v K)) hT h1
 have fin:∀ v,nM P op ty (bR x||bR y) (eval t x) (eval t y)=some v->k v K->∃ v K' H',rA P call fl flc (.binOp op ty x y yt) (eval t) H=some (v,H')/\c6 K' H'/\k v K' :=
  fun v hv hk=>⟨v,_,_,dH (by simp only[aJ,hv];rfl),hH,hk⟩
 have other:sE (nM P op ty (bR x||bR y) (eval t x) (eval t y)) (fun v=>k v K)->∃ v K' H',rA P call fl flc (.binOp op ty x y yt) (eval t) H=some (v,H')/\c6 K' H'/\k v K':=fun h=>by
  obtain⟨v,hv,hk⟩:=yJ h
  exact fin v hv hk
 rcases fD h2 with⟨i,m,hx,h3⟩|h3
 ·rcases fD h3 with⟨j,n,hy,h4⟩|h4
  ·rcases aGS op i m j n (fun v=>k v K) _ h4 with⟨v,hv,hk⟩|h5
   ·refine fin v ?_ hk
    rw[hx,hy]
    unfold nM
    rw[hv]
    rfl
   ·exact other h5
  ·exact other h4
 ·exact other h3
theorem aEI {s d:TypeId}{i:IntKind}{x:Operand}{u:TypeDesc}(hs:P.underlying s=some u)(hd:P.underlying d=some (.int i)):FS P (aEX i (cg x)) (.convert s d x):=by
 intro call ck fl flc T t K H k _ hT hH h
 have h1:=bP (k:=fun v=>oS v (fun _ n=>wL i n fun n=>k (.int i n) K) False) hT h
 rcases fD h1 with⟨j,n,hx,h2⟩|h2
 ·refine⟨_,_,_,dH (v := .int i (i.wrap n)) ?_,hH,j7 (k:=fun n=>k (.int i n) K) h2⟩
  simp only[aJ,hx,kY,kF,hs,hd,Option.map_some]
 ·exact h2.elim
theorem kZ {K:HT}{H:aD}{vs:List Value}{es:Nat}{ex:Bool}{k:Nat->HT->Prop}(hH:c6 K H)(h:oK vs es ex K k) :
 ∃ K',c6 K' (H++[⟨vs,es,ex,true⟩])/\vs.all Value.oneCell'=true/\k H.length K':=by
 obtain⟨B,hB,h1,h2⟩:=XL (k:=fun B=>LL K B k) h
 obtain⟨K',h3,h4⟩:=II hH hB h2
 exact⟨K',h3,h1,h4⟩
theorem aAs (ty:TypeId):FS P (aBy (cS P ty)) (.alloc ty):=by
 intro call ck fl flc T t K H k _ hT hH h
 obtain⟨z,hz,h1⟩:=gD (k:=fun z=>o6 z fun z=>oK z 0 true K fun b H=>k (.pointer (some ⟨b,0,none⟩)) H) h
 have h2:=jP (k:=fun z=>oK z 0 true K fun b H=>k (.pointer (some ⟨b,0,none⟩)) H) h1
 obtain⟨K',h3,_,h4⟩:=kZ hH h2
 exact⟨_,_,_,dH (by simp only[aJ,hz]),h3,h4⟩
theorem aFQ (ty:TypeId)(x:Operand):FS P (aHe (cg x)) (.box ty x):=by
 intro call ck fl flc T t K H k _ hT hH h
 have h1:=bP (k:=fun v=>cellsOf v fun l=>oK l 0 true K fun b H=>k (.pointer (some ⟨b,0,none⟩)) H) hT h
 have h2:=xM (k:=fun l=>oK l 0 true K fun b H=>k (.pointer (some ⟨b,0,none⟩)) H) h1
 obtain⟨K',h3,_,h4⟩:=kZ hH h2
 exact⟨_,_,_,dH rfl,h3,h4⟩
theorem sW:∀ (vs l:List Value) (x:Value) (n:Nat),setCells (x::l) (n+1) vs=x::setCells l n vs
 | [],_,_,_=>rfl
 | v::vs,l,x,n=>by
   rw[setCells,setCells,List.set_cons_succ,sW vs]
theorem YQ:∀ (vs l:List Value) (k:List Value->Prop),rep vs l k->vs.length<=l.length/\k (setCells l 0 vs)
 | [],_,_,h=>⟨eJ _,h⟩
 | _::_,[],_,h=>h.elim
 | v::vs,y::l,k,h=>by
   obtain⟨h1,h2⟩:=YQ vs l (fun r=>k (v::r)) h
   refine⟨Nat.succ_le_succ h1,?_⟩
   rw[setCells,List.set_cons_zero,sW]
   exact h2
theorem YB:∀ (n:Nat) (vs l:List Value) (k:List Value->Prop),spl n vs l k->n+vs.length<=l.length/\k (setCells l n vs)
 | 0,vs,l,k,h=>by
   obtain⟨h1,h2⟩:=YQ vs l k h
   exact⟨by omega,h2⟩
 | _+1,_,[],_,h=>h.elim
 | n+1,vs,x::l,k,h=>by
   obtain⟨h1,h2⟩:=YB n vs l (fun r=>k (x::r)) h
   refine⟨by simp only[List.length_cons];omega,?_⟩
   rw[sW]
   exact h2
theorem ED {T:TT}{t:aE}(hT:TRel T t){place:Nat->Option (Nat×Nat)}:∀ (l:List (Nat×Operand)) (ps:KP) (z:List Value) (k:List Value->Prop),u7 place l=some ps->uK T ps z k ->
 ∃ cs,rS place z (l.map fun p=>(p.1,eval t p.2))=some cs/\k cs
 | [],ps,z,k,hc,h=>by
   cases hc
   exact⟨z,rfl,h⟩
 | (i,x)::r,ps,z,k,hc,h=>by
   simp only[u7]at hc
   split at hc
   ·rename_i off size hp
    obtain⟨ps',hr,rfl⟩:=Option.map_eq_some_iff.1 hc
    have h1:=bP (k:=fun v=>cellsOf v fun vs=>chk (Nat.beq vs.length size) (spl off vs z fun l=>uK T ps' l k)) hT h
    have h2:=xM (k:=fun vs=>chk (Nat.beq vs.length size) (spl off vs z fun l=>uK T ps' l k)) h1
    obtain⟨h3,h4⟩:=bU.1 h2
    have h3:(eval t x).cells.size=size:=by simpa using h3
    obtain⟨h5,h6⟩:=YB _ _ _ _ h4
    obtain⟨cs,h7,h8⟩:=ED hT r ps' _ k hr h6
    refine⟨cs,?_,h8⟩
    simp only[List.map_cons,rS,hp]
    rw[aA ⟨h3,by simp only[Array.length_toList]at h5;omega⟩]
    exact h7
   ·cases hc
theorem TP {ty:TypeId}{parts:Array (Nat×Operand)}{place:Nat->Option (Nat×Nat)}
 (hop:∀ fl ev H z cs,cS P ty=some z->rS place z (parts.toList.map fun p=>(p.1,ev p.2))=some cs->aJ P fl (.build ty parts) ev H=some (.value (.agg cs.toArray),H)) :
 FS P (U7 (cS P ty) (u7 place parts.toList)) (.build ty parts):=by
 intro call ck fl flc T t K H k _ hT hH h
 obtain⟨z,hz,h1⟩:=gD (k:=fun z=>fN (u7 place parts.toList) False fun ps=>o6 z fun z=>uK T ps z fun l=>k (.agg ⟨l⟩) K) h
 obtain⟨ps,hp,h2⟩:=gD (k:=fun ps=>o6 z fun z=>uK T ps z fun l=>k (.agg ⟨l⟩) K) h1
 have h3:=jP (k:=fun z=>uK T ps z fun l=>k (.agg ⟨l⟩) K) h2
 obtain⟨cs,h4,h5⟩:=ED hT _ _ _ _ hp h3
 exact⟨_,_,_,dH (hop _ _ _ _ _ hz h4),hH,h5⟩
theorem MF {ty e:TypeId}{len es eb:Nat}{parts:Array (Nat×Operand)}(hty:aTy P ty = .slice e es eb) :
 FS P (FM (cS P e) (u7 (fun i=>some (i*es,es)) parts.toList) len es) (.buildSlice ty len parts):=by
 intro call ck fl flc T t K H k _ hT hH h
 obtain⟨h0,h00⟩:=bU.1 h
 have h0:len*es<=2 ^ 20:=by simpa [Nat.ble_eq] using h0
 obtain⟨z,hz,h1⟩:=gD h00
 obtain⟨ps,hp,h2⟩:=gD h1
 have h3:=jP (k:=fun z=>uK T ps z fun l=>oK l es true K fun b H=>k (.slice (some ⟨b,0,none⟩) len len) H) h2
 obtain⟨cs,h4,h5⟩:=ED hT _ _ _ _ hp h3
 obtain⟨K',h6,_,h7⟩:=kZ hH h5
 refine⟨_,_,_,dH ?_,h6,h7⟩
 simp only[aJ,hty]
 rw[aA h0]
 simp only[hz,h4]
theorem aBE {ty:TypeId}{a:Operand}(hl:∀ H p,lD P ty H p=qR H p):FS P (aBL (cg a)) (.load ty a):=by
 intro call ck fl flc T t K H k _ hT hH h
 have h1:=bP (k:=fun v=>wD v fun p=>jX p fun b o=>vU K b fun B=>RH B o fun v=>k v K) hT h
 obtain⟨p,hp,h2⟩:=tU h1
 obtain⟨B,L,_,_,hL,hB,h3⟩:=lE hH (eQ.1 h2)
 obtain⟨v,hv,_,hk⟩:=KN hL hB h3
 exact⟨v,_,_,dH (by simp only[aJ,hp,hl,hv];rfl),hH,hk⟩
theorem R7 {ty:TypeId}{sz:Nat}{a:Operand}(hl:∀ H p,lD P ty H p=(fC H p sz).map fun cs => .agg cs.toArray):FS P (VB sz (cg a)) (.load ty a):=by
 intro call ck fl flc T t K H k _ hT hH h
 have h1:=bP (k:=fun v=>wD v fun p=>jX p fun b o=>vU K b fun B=>wI B o sz fun l=>k (.agg ⟨l⟩) K) hT h
 obtain⟨p,hp,h2⟩:=tU h1
 obtain⟨B,L,_,_,hL,hB,h3⟩:=lE hH (eQ.1 h2)
 obtain⟨l,hl1,_,_,_,_,hk⟩:=xZ hL hB h3
 exact⟨_,_,_,dH (by simp only[aJ,hp,hl,hl1];rfl),hH,hk⟩
theorem U9 {fl:Nat}{K:HT}{H:aD}{p:Addr}{vs:List Value}{k:HT->Prop}(hH:c6 K H)(h:stK fl K p vs k):∃ K' H',storeAt fl H p vs=some H'/\c6 K' H'/\k K':=by
 cases vs with
 | nil=>exact⟨K,H,rfl,hH,h⟩
 | cons v vs =>
   have h1:=(eQ (k:=fun b o=>chk (Nat.ble fl b) (vU K b fun B=>aBX B o (v::vs) fun B=>vF K b (some B) k))).1 h
   obtain⟨h2,h3⟩:=bU.1 h1
   have h2:fl<=p.block:=by simpa [Nat.ble_eq] using h2
   obtain⟨B,L,hb,_,hL,hB,h4⟩:=lE hH h3
   obtain⟨B',h5,h6,h7,h8⟩:=ZI hB h4
   obtain⟨K',h9,h10⟩:=QP hH hb h7 h8
   refine⟨K',_,?_,h9,h10⟩
   simp only[storeAt,blk?_of hL hB.2.2.1]
   rw[aA ⟨h2,h5,h6⟩]
theorem aC1 (ty:TypeId)(a x:Operand):FS P (aB0 (zN P ty) (cg a) (cg x)) (.store ty a x):=by
 intro call ck fl flc T t K H k _ hT hH h
 obtain⟨n,hn,h1⟩:=gD h
 have h2:=bP (k:=fun v=>rd (cg x) T fun x=>wD v fun p=>cellsOf x fun vs=>chk (Nat.beq n vs.length) (stK fl K p vs fun H=>k undef H)) hT h1
 have h3:=bP (k:=fun x=>wD (eval t a) fun p=>cellsOf x fun vs=>chk (Nat.beq n vs.length) (stK fl K p vs fun H=>k undef H)) hT h2
 obtain⟨p,hp,h4⟩:=tU h3
 obtain⟨h5,h6⟩:=bU.1 (xM (k:=fun vs=>chk (Nat.beq n vs.length) (stK fl K p vs fun H=>k undef H)) h4)
 have h5:n=(eval t x).cells.size:=by simpa using h5
 obtain⟨K',H',h7,h8,h9⟩:=U9 hH h6
 refine⟨undef,K',H',?_,h8,h9⟩
 unfold rA
 simp only[aJ,hp,uY,hn,h5,aO,h7,Option.map_some]
theorem Q7 (x:Operand):FS P (u5 aEc (cg x)) (.nilCheck x):=tH fun fl ev H=>by
 simp only[aJ]
 cases ev x with
 | pointer a=>cases a <;> rfl
 | func f a b=>cases f <;> rfl
 | _=>rfl
theorem SD (fn:Fn)(first captured:Array Operand):FS P (NL fn (first.toList.map cg) (captured.toList.map cg)) (.makeFunc fn first captured):=by
 intro call ck fl flc T t K H k _ hT hH h
 have h1:=yS hT _ _ h
 have h2:=yS hT _ _ h1
 exact⟨_,_,_,dH (by simp only[aJ,uH]),hH,h2⟩
theorem VG {v w:Value}(h:O6 v w=true):w=v/\v.oneCell'=true:=by
 unfold O6 at h
 split at h
 ·exact⟨by rw[aCt (Nat.eq_of_beq_eq_true h)],rfl⟩
 ·cases h
theorem aEF {z:List Value}{v:Value}(h:aBO z=some v):z≠[]/\∀ w∈z,w=v:=by
 cases z with
 | nil=>cases h
 | cons a r =>
   simp only[aBO]at h
   split at h
   ·rename_i hr
    cases h
    refine⟨List.cons_ne_nil _ _,fun w hw => ?_⟩
    rcases List.mem_cons.1 hw with rfl|hw
    ·rfl
    ·exact(VG (List.all_eq_true.1 hr w hw)).1
   ·cases h
theorem YY {z:List Value}{v:Value}(h:aBO z=some v)(n i:Nat)(hi:i<n):(dW z n)[i]? = some v:=by
 obtain⟨h1,h2⟩:=aEF h
 unfold dW
 rw[b8,List.getElem?_range hi,Option.map_some]
 have h3:i%z.length<z.length:=Nat.mod_lt _ (List.length_pos_iff.2 h1)
 rw[getElem!_pos z _ h3,h2 _ (lO h3)]
theorem VP (z:List Value)(n:Nat):(dW z n).length=n:=by simp[dW]
theorem OY {ty e:TypeId}{es eb:Nat}{l c:Operand}(hty:aTy P ty = .slice e es eb):FS P (KK (cS P e) es eb (cg l) (cg c)) (.makeSlice ty l c):=by
 intro call ck fl flc T t K H k _ hT hH h
 obtain⟨z,hz,h1⟩:=gD h
 have h2:=bP hT h1
 have h3:=bP hT h2
 rcases fD h3 with⟨i,m,hm,h4⟩|h4
 ·rcases fD h4 with⟨j,n,hn,h5⟩|h5
  ·rcases oY h5 with⟨a,b,rfl,rfl,h6⟩|h6
   ·obtain⟨h7,h8⟩:=bU.1 h6
    simp only[aH,Nat.ble_eq]at h7
    have hp:∀ cs,dW z (b*es)=cs->aJ P fl (.makeSlice ty l c) (eval t) H=some (.value (.slice (some ⟨H.length,0,none⟩) a b),H++[⟨cs,es,true,true⟩]):=by
     intro cs hcs
     simp only[aJ,hty,hm,hn]
     rw[aA (by
      have e1:(Int.ofNat a)=(a:Int):=rfl
      have e2:(Int.ofNat b)=(b:Int):=rfl
      rw[e1,e2]
      refine⟨by omega,by omega,by omega,?_⟩
      have:((eb*b:Nat):Int)<=70368744177664:=by omega
      rw[Int.natCast_mul]at this
      exact this)]
     simp only[hz,<- hcs]
     rfl
    cases hr:aBO z with
    | none =>
      rw[hr]at h8
      have h9:=jP (k:=fun z=>oK z es true K fun b' H=>k (.slice (some ⟨b',0,none⟩) a b) H) h8
      obtain⟨K',h10,_,h11⟩:=kZ hH h9
      exact⟨_,_,_,dH (hp _ rfl),h10,h11⟩
    | some v =>
      rw[hr]at h8
      obtain⟨h9,h10⟩:=bU.1 (show chk (Nat.ble (b*es) big) _ from h8)
      have h9:b*es<=big:=by simpa [Nat.ble_eq] using h9
      obtain⟨hv1,_,h11⟩:=MW h10
      have h12:=(aZ (k:=fun n=>LL K ⟨.c v,n,es,true⟩ fun b' H=>k (.slice (some ⟨b',0,none⟩) a b) H)).1 h11
      have hB:A2 ⟨.c v,b*es,es,true⟩ ⟨dW z (b*es),es,true,true⟩:=by
       refine⟨rfl,rfl,rfl,(VP _ _).symm,h9,fun i hi => ?_⟩
       simp only[Tr.get_c]
       exact⟨YY hr _ _ hi,hv1⟩
      obtain⟨K',h13,h14⟩:=II hH hB h12
      exact⟨_,_,_,dH (hp _ rfl),h13,h14⟩
   ·exact h6.elim
  ·exact h5.elim
 ·exact h4.elim
end
end Go.Mach.J
