/- Part of the proof. No condition. -/
import Derived.Test.YtpigepmgheabhaaGreatDoorYJ8
namespace Go.Mach.J
open Go Go.Mach
def WJ (H:HT)(b o len m:Nat)(k:Value->HT->Prop):Prop :=
 o6 (uM b o len m) fun l=>oK l 1 false H fun b' H=>cG ((len+m-1) / m) fun c=>k (.slice (some ⟨b',0,none⟩) c c) H
theorem U6 {K:HT}{H:aD}{b o len m:Nat}{k:Value->HT->Prop}(hH:c6 K H)(h:WJ K b o len m k) :
 ∃ K',c6 K' (H++[⟨uM b o len m,1,false,true⟩])/\k (.slice (some ⟨H.length,0,none⟩) ((len+m-1) / m) ((len+m-1) / m)) K':=by
 unfold WJ at h
 obtain⟨K',h12,_,h13⟩:=kZ hH (jP h)
 exact⟨K',h12,(aZ (n:=(len+m-1) / m)).1 h13⟩
def aCP (H:HT)(s n:Value)(k:Value->HT->Prop):Prop :=
 match s,n with
 | .slice (some ⟨b,o,none⟩) len _,.int .i64 (.ofNat m)=>chk (Nat.ble 1 len&&Nat.ble len 16777216&&Nat.ble 1 m&&Nat.ble m 16777216)
  (WJ H b o len m k)
 | _,_=>False
def aHa (l:List UInt8)(k:List (List UInt8)->Prop):Prop :=
 List.rec (motive:=fun _=>(List (List UInt8)->Prop)->Prop) (fun k=>k [[]]) (fun x _ ih k=>ih fun r=>ifB (Nat.beq x.toNat 32) (k ([]::r)) (List.rec (motive:=fun _=>Prop) (k [[x]]) (fun h s _=>k ((x::h)::s)) r)) l k
theorem RZ:∀ (l:List UInt8) {k:List (List UInt8)->Prop},aHa l k->k (pP l)
 | [],_,h=>h
 | x::l,k,h=>by
   have h1:=RZ l (k:=fun r=>ifB (Nat.beq x.toNat 32) (k ([]::r)) (List.rec (motive:=fun _=>Prop) (k [[x]]) (fun h s _=>k ((x::h)::s)) r)) h
   unfold pP
   rcases cO.1 h1 with⟨h2,h3⟩|⟨h2,h3⟩
   ·rw[h2];exact h3
   ·rw[h2]
    cases hr:pP l with
    | nil=>rw[hr]at h3;exact h3
    | cons h r=>rw[hr]at h3;exact h3
def aFq (H:HT)(l:List (List UInt8))(k:Value->HT->Prop):Prop :=
 o6 (l.map OW) fun vs=>oK vs 1 false H fun b' H=>cG l.length fun c=>k (.slice (some ⟨b',0,none⟩) c c) H
theorem aBI {K:HT}{H:aD}{l:List (List UInt8)}{k:Value->HT->Prop}(hH:c6 K H)(h:aFq K l k) :
 ∃ K',c6 K' (H++[⟨l.map OW,1,false,true⟩])/\k (.slice (some ⟨H.length,0,none⟩) l.length l.length) K':=by
 unfold aFq at h
 obtain⟨K',h12,_,h13⟩:=kZ hH (jP h)
 exact⟨K',h12,(aZ (n:=l.length) (k:=fun c=>k (.slice (some ⟨H.length,0,none⟩) c c) K')).1 h13⟩
def WQ (l:List UInt8)(k:List UInt8->Prop):Prop :=
 List.rec (motive:=fun _=>(List UInt8->Prop)->Prop) (fun k=>k []) (fun c _ ih k=>cG c.toNat fun n=>ih fun r=>k (UInt8.ofNat n::r)) l k
theorem KE:∀ (l:List UInt8) {k:List UInt8->Prop},WQ l k->k l
 | [],_,h=>h
 | c::l,k,h=>by
   have h1:=(aZ (k:=fun n=>WQ l fun r=>k (UInt8.ofNat n::r))).1 h
   rw[show UInt8.ofNat c.toNat=c from UInt8.ofNat_toNat]at h1
   exact KE l (k:=fun r=>k (c::r)) h1
def aHZ (H:HT)(e:Lib.NumEnd Int)(k:Value->HT->Prop):Prop :=
 Lib.NumEnd.rec (motive:=fun _=>Prop) (fun v=>HW v fun v=>k (.tuple ⟨[.int .i64 v,.nilIface]⟩) H) (oK [] 0 false H fun b H=>k (.tuple ⟨[.int .i64 0,.iface aAN (.pointer (some ⟨b,0,none⟩))]⟩) H) False e
theorem aCc {K:HT}{H:aD}{e:Lib.NumEnd Int}{k:Value->HT->Prop}(hH:c6 K H)(h:aHZ K e k):∃ v K' H',aFX H e=some (v,H')/\c6 K' H'/\k v K':=by
 cases e with
 | ok v=>exact⟨_,K,H,rfl,hH,(rC (n:=v) (k:=fun v=>k (.tuple ⟨[.int .i64 v,.nilIface]⟩) K)).1 h⟩
 | range=>exact h.elim
 | _ =>
   obtain⟨K',h1,_,h2⟩:=kZ (k:=fun b H=>k (.tuple ⟨[.int .i64 0,.iface aAN (.pointer (some ⟨b,0,none⟩))]⟩) H) hH h
   exact⟨_,K',_,rfl,h1,h2⟩
def xk:KC:=fun _ f args H k =>
 match args with
 | [.slice none 0 0,.func (.func g) first cp]=>match first.toList,cp.toList with
   | [],[.pointer (some p),.pointer (some q)]=>chk (Nat.beq f Go.Mach.extA&&Nat.beq g Go.Mach.extC)
       (jX p fun b o=>vU H b fun B=>RH B o fun s=>jX q fun b o=>vU H b fun B=>RH B o fun n=>aCP H s n k)
   | _,_=>False
 | [.slice none 0 0,.int .i64 (.ofNat n)]=>chk (Nat.beq f extG&&Nat.ble 1 n&&Nat.ble n 1099511627776) (oK [] 1 false H fun b H=>k (.slice (some ⟨b,0,none⟩) 0 0) H)
 | [.string s,.string sep]=>chk (Nat.beq f extS&&(Nat.blt s.size 4294967281&&AB sep)) (aHa s.data.toList fun l=>aFq H l k)
 | [.string s,.string o,.string n]=>chk (Nat.beq f extR&&(Nat.ble s.size 1048576&&Nat.ble n.size 1048576&&Nat.ble 1 o.size)) (WQ (Lib.replaceAll s.data.toList o.data.toList n.data.toList) fun l=>k (.string ⟨⟨l⟩⟩) H)
 | [.string s,.int .i64 (.ofNat a),.int .i64 (.ofNat b)]=>chk (Nat.beq f extP&&(Nat.ble s.size 281474976710656&&Nat.beq a 10&&Nat.beq b 64)) (aHZ H (Lib.parseIntB 64 s.data.toList) k)
 | _=>False
theorem YC (P:Program):f8 (lA P) xk:=by
 intro fl f args K H k hH h
 unfold xk at h
 split at h
 ·rename_i g first cp
  split at h
  ·rename_i p q h1 h2
   obtain⟨h3,h4⟩:=bU.1 h
   simp only[aH]at h3
   have e1:=Nat.eq_of_beq_eq_true h3.1
   have e2:=Nat.eq_of_beq_eq_true h3.2
   obtain⟨B,L,_,_,hL,hB,h5⟩:=lE hH (eQ.1 h4)
   obtain⟨s,hs,_,h6⟩:=KN hL hB h5
   obtain⟨C,M,_,_,hM,hC,h7⟩:=lE hH (eQ.1 h6)
   obtain⟨n,hn,_,h8⟩:=KN hM hC h7
   unfold aCP at h8
   split at h8
   ·rename_i b o len c m
    obtain⟨h9,h10⟩:=bU.1 h8
    simp only[aH,Nat.ble_eq]at h9
    obtain⟨K',h12,h14⟩:=U6 hH h10
    refine⟨_,K',_,?_,h12,h14⟩
    simp only[lA,h1,h2,hs,hn,QF]
    rw[aA ⟨e1,e2⟩,aA ⟨h9.1.1.1,h9.1.1.2,h9.1.2,h9.2⟩]
   ·exact h8.elim
  ·exact h.elim
 ·rename_i n
  obtain⟨h1,h2⟩:=bU.1 h
  simp only[aH,Nat.ble_eq]at h1
  obtain⟨K',h3,_,h4⟩:=kZ hH h2
  refine⟨_,K',_,?_,h3,h4⟩
  simp only[lA]
  rw[aA ⟨Nat.eq_of_beq_eq_true h1.1.1,by rw[show Int.ofNat n=(n:Int)from rfl];omega,by rw[show Int.ofNat n=(n:Int)from rfl];omega⟩]
 ·rename_i s sep
  obtain⟨h1,h2⟩:=bU.1 h
  simp only[aH,Nat.blt_eq]at h1
  obtain⟨K',h3,h4⟩:=aBI hH (RZ _ h2)
  refine⟨_,K',_,?_,h3,h4⟩
  simp only[lA]
  rw[aA ⟨Nat.eq_of_beq_eq_true h1.1,h1.2.1,h1.2.2⟩]
 ·rename_i s o n
  obtain⟨h1,h2⟩:=bU.1 h
  simp only[aH,Nat.ble_eq]at h1
  refine⟨_,K,H,?_,hH,KE _ h2⟩
  simp only[lA]
  rw[aA ⟨Nat.eq_of_beq_eq_true h1.1,h1.2.1.1,h1.2.1.2,h1.2.2⟩]
 ·rename_i s a b
  obtain⟨h1,h2⟩:=bU.1 h
  simp only[aH,Nat.ble_eq]at h1
  obtain⟨v,K',H',h3,h4,h5⟩:=aCc hH h2
  refine⟨v,K',H',?_,h4,h5⟩
  simp only[lA]
  rw[aA ⟨Nat.eq_of_beq_eq_true h1.1,h1.2.1.1,by rw[Nat.eq_of_beq_eq_true h1.2.1.2];rfl,by rw[Nat.eq_of_beq_eq_true h1.2.2];rfl⟩]
  exact h3
 ·exact h.elim
def gcT (n:Nat)(t:Tr (Option KB))(ids:List Nat)(k:Tr (Option KB)->Prop):Tr (Option KB)->Prop :=
 List.rec (motive:=fun _=>Tr (Option KB)->Prop) k (fun x _ ih u=>chk (Nat.blt x n) (aAW (pth x) t fun o=>aAH o (pth x) u ih)) ids
def gcK (ids:List Nat)(H:HT)(k:HT->Prop):Prop:=HT.rec (motive:=fun _=>Prop) (fun n t=>gcT n t ids (fun u=>k ⟨n,u⟩) (.c none)) H
theorem X0 {n:Nat}{t:Tr (Option KB)}(hn:n<=big){k:Tr (Option KB)->Prop}:∀ (ids:List Nat) {u:Tr (Option KB)},(∀ b B,b<n->u.get (pth b)=some B->t.get (pth b)=some B)->gcT n t ids k u ->
 ∃ u',(∀ b B,b<n->u'.get (pth b)=some B->t.get (pth b)=some B)/\k u'
 | [],u,hu,h=>⟨u,hu,h⟩
 | x::ids,u,hu,h=>by
   obtain⟨h1,h2⟩:=bU.1 (show chk (Nat.blt x n) (aAW (pth x) t fun o=>aAH o (pth x) u (gcT n t ids k))from h)
   have h1:x<n:=by simpa [Nat.blt_eq] using h1
   have h3:=(oW _ (pth x) u (gcT n t ids k)).1 ((wZ (pth x) t (fun o=>aAH o (pth x) u (gcT n t ids k))).1 h2)
   refine X0 hn ids (fun b B hb hB => ?_) h3
   by_cases hx:b=x
   ·subst hx
    rw[Tr.get_set]at hB
    exact hB
   ·rw[Tr.get_set_ne]at hB
    ·exact hu b B hb hB
    ·exact fun e=>hx (C2 (by omega) (by omega) e)
theorem aAg {ids:List Nat}{K:HT}{H:aD}{k:HT->Prop}(hH:c6 K H)(h:gcK ids K k):∃ K',c6 K' H/\k K':=by
 obtain⟨n,t⟩:=K
 obtain⟨e1,e2,e3⟩:=hH
 obtain⟨u,h1,h2⟩:=X0 (t:=t) e2 ids (fun b B _ hB=>by rw[Tr.get_c]at hB;cases hB) (show gcT n t ids (fun u=>k ⟨n,u⟩) (.c none)from h)
 exact⟨⟨n,u⟩,⟨e1,e2,fun b B hb hB=>e3 b B hb (h1 b B hb hB)⟩,h2⟩
theorem aEA {call:aQ}{ck:KC}(hS:f8 call ck){ids:List Nat}{fl:Nat}{f:FuncId}{args:List Value}{K:HT}{v:Value}{K2:HT}
 (he:∀ k:Value->HT->Prop,(ck fl f args K fun v H=>gcK ids H fun H=>k v H)=k v K2) {H:aD} (hH:c6 K H) {k:Value->HT->Prop} (h:k v K2) :
 ∃ v' T' H',call fl f ⟨args⟩ H=some (v',H')/\c6 T' H'/\k v' T':=by
 obtain⟨v',T,H',h1,h2,h3⟩:=hS fl f args K H (fun v H=>gcK ids H fun H=>k v H) hH (by rw[he k];exact h)
 obtain⟨T',h4,h5⟩:=aAg h2 h3
 exact⟨v',T',H',h1,h4,h5⟩
theorem IV {hi hj:(HT->Prop)->Prop}(hi':∃ G,∀ k,hi k=k G)(hj':∃ G,∀ k,hj k=k G){call:aQ}{ck:KC}(hS:f8 call ck){ids:List Nat}{fl0:Nat}{f0:FuncId}{a0:List Value}{v:Value}
 (run:∀ k:Value->HT->Prop,(hi fun H=>ck fl0 f0 a0 H fun v H=>gcK ids H fun H=>k v H)=hj fun H=>k v H)
 {fl:Nat} {f:FuncId} {args:List Value} {K:HT} {H:aD} {k:Value->HT->Prop} (hH:c6 K H) (h:hi fun G=>(fl=fl0/\f=f0/\args=a0/\K=G)/\hj fun G=>k v G) :
 ∃ v' T' H',call fl f ⟨args⟩ H=some (v',H')/\c6 T' H'/\k v' T':=by
 obtain⟨G,hG⟩:=hi'
 obtain⟨G',hG'⟩:=hj'
 rw[hG]at h
 obtain⟨⟨rfl,rfl,rfl,rfl⟩,h2⟩:=h
 rw[hG']at h2
 refine aEA (ids:=ids) (K2:=G') hS (fun k => ?_) hH h2
 have:=run k
 rw[hG,hG']at this
 exact this
structure aGB (p:Prop):Prop where
 out:p
theorem aEC {p q:Prop}(e:p=q)(h:q):aGB p:=⟨e.mpr h⟩
theorem aCE {call:aQ}{ck:KC}(hS:f8 call ck){ids:List Nat}{fl:Nat}{f:FuncId}{args:List Value}{K:HT}{H:aD}(hH:c6 K H){k:Value->HT->Prop}
 (h:ck fl f args K fun v H=>gcK ids H fun H=>k v H):∃ v' T' H',call fl f ⟨args⟩ H=some (v',H')/\c6 T' H'/\k v' T':=by
 obtain⟨v',T,H',h1,h2,h3⟩:=hS fl f args K H (fun v H=>gcK ids H fun H=>k v H) hH h
 obtain⟨T',h4,h5⟩:=aAg h2 h3
 exact⟨v',T',H',h1,h4,h5⟩
theorem aBB {E:Prop->Prop}(hE:∀ Z:Prop,Z->E Z){hi hj:(HT->Prop)->Prop}(hi':∃ G,∀ k,hi k=k G)(hj':∃ G,∀ k,hj k=k G){call:aQ}{ck:KC}(hS:f8 call ck){ids:List Nat}{fl0:Nat}{f0:FuncId}{a0:List Value}{v:Value}
 (run:∀ k:Value->HT->Prop,(hi fun H=>ck fl0 f0 a0 H fun v H=>gcK ids H fun H=>k v H)=E (hj fun H=>k v H))
 {fl:Nat} {f:FuncId} {args:List Value} {K:HT} {H:aD} {k:Value->HT->Prop} (hH:c6 K H) (h:hi fun G=>(fl=fl0/\f=f0/\args=a0/\K=G)/\hj fun G=>k v G) :
 ∃ v' T' H',call fl f ⟨args⟩ H=some (v',H')/\c6 T' H'/\k v' T':=by
 obtain⟨G,hG⟩:=hi'
 rw[hG]at h
 obtain⟨⟨rfl,rfl,rfl,rfl⟩,h2⟩:=h
 have h3:=(run k).mpr (hE _ h2)
 rw[hG]at h3
 exact aCE hS hH h3
def inL (l:List Nat)(f:Nat):Bool:=l.any (Nat.beq f)
def aDs (xb:FuncId->Bool)(P:Program)(xk ck0:KC)(M:Nat)(l:List Nat)(n:Nat):KC :=
 Nat.rec (motive:=fun _=>KC) ck0 (fun j ih fl f args H k=>ifB (inL l f) (kfn xb P xk ih (M+j) fl f args H k) (wH xb P xk (M+j+1) fl f args H k)) n
theorem XO {xb:FuncId->Bool}{P:Program}{xf:aQ}{xk ck0:KC}{M:Nat}{l:List Nat}(hX:f8 xf xk)(hk:∀ N,CallerKept (jI xb xf P N))(h0:f8 (jI xb xf P M) ck0) :
 ∀ n,f8 (jI xb xf P (M+n)) (aDs xb P xk ck0 M l n)
 | 0=>h0
 | n+1=>fun fl f args K H k hH h=>by
   rcases cO.1 h with⟨_,h⟩|⟨_,h⟩
   ·exact aCW hX (XO hX hk h0 n) (hk _) fl f args K H k hH h
   ·exact BO hX hk (M+n+1) fl f args K H k hH h
theorem aDa {xb:FuncId->Bool}{P:Program}{xf:aQ}{xk ck:KC}{n:Nat}(hX:f8 xf xk)(hS:f8 (jI xb xf P n) ck)(hk:CallerKept (jI xb xf P n)){fl:Nat}{f:FuncId}{args:List Value}{K:HT}{H:aD}(hH:c6 K H)
 (h:aGB (kfn xb P xk ck n fl f args K (fun v _=>v = .bool true))):∃ H',jI xb xf P (n+1) fl f ⟨args⟩ H=some (.bool true,H'):=by
 obtain⟨v,K',H',h1,_,h2⟩:=aCW hX hS hk fl f args K H (fun v _=>v = .bool true) hH h.out
 rw[h2]at h1
 exact⟨H',h1⟩
def FN (n:Nat):aD:=List.replicate n ⟨[],0,true,false⟩
theorem ZX {n:Nat}(h:Nat.ble n big=true):c6 ⟨n,.c none⟩ (FN n):=⟨by unfold FN;rw[List.length_replicate],Nat.le_of_ble_eq_true h,fun b B _ hb=>by rw[Tr.get_c]at hb;cases hb⟩
abbrev N {α:Type} := @Tr.n α
abbrev C {α:Type} := @Tr.c α
def u (n:Nat):Value := .int .u8 (.ofNat n)
def i (n:Nat):Value := .int .i64 (.ofNat n)
def b (n:Nat):Value := .int .i8 (.ofNat n)
def d (n:Nat):Value := .int .i32 (.ofNat n)
def w (n:Nat):Value := .int .u64 (.ofNat n)
def x (n:Nat):Value := .int .u32 (.ofNat n)
def i' (n:Nat):Value := .int .i64 (.negSucc n)
def b' (n:Nat):Value := .int .i8 (.negSucc n)
def d' (n:Nat):Value := .int .i32 (.negSucc n)
def y:Value:=undef
def q:Value := .pointer none
def z:Value := .slice none 0 0
def t:Value := .bool true
def f:Value := .bool false
def p (b o:Nat):Value := .pointer (some ⟨b,o,none⟩)
def s (b o l c:Nat):Value := .slice (some ⟨b,o,none⟩) l c
def B (t:Tr Value)(len es:Nat)(ex:Bool):Option KB:=some ⟨t,len,es,ex⟩
end Go.Mach.J
