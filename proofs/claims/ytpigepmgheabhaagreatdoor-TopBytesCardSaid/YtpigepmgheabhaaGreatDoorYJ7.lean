/- Part of the proof. No condition. -/
import Derived.Test.YtpigepmgheabhaaGreatDoorYJ6
import Derived.Test.YtpigepmgheabhaaGreatDoorYPrimAll
namespace Go.Mach.J
open IntKind (i8 i16 i32 i64 u8 u16 u32 u64)
open Go Go.Mach
section
variable {P:Program}
theorem Z5 {ty:TypeId}{x:Value}{lo hi mx:Option Value}{H:aD}{st:Option (Bool×Nat)}
 (h:∀ b,O0 x=some b->∃ L,H[b]? = some L/\st=some (L.exact,L.es)):sX P ty x lo hi mx H=sliceB P ty x lo hi mx st:=by
 unfold sX sliceB
 cases aTy P ty with
 | one=>cases x <;> rfl
 | str=>cases x <;> rfl
 | struct sz fs=>cases x <;> rfl
 | other=>cases x <;> rfl
 | slice e es eb =>
   cases x with
   | slice a len cap=>cases a with
     | none=>rfl
     | some a =>
       obtain⟨L,h1,h2⟩:=h a.block rfl
       simp only[h1,h2]
       cases eW len cap lo hi mx <;> rfl
   | _=>rfl
 | array n e es sz =>
   cases x with
   | pointer a=>cases a with
     | none=>rfl
     | some a =>
       obtain⟨L,h1,h2⟩:=h a.block rfl
       simp only[h1,h2]
       cases eW n n lo hi mx <;> rfl
   | _=>rfl
theorem aBY (ty:TypeId)(x:Operand)(lo hi mx:Option Operand):FS P (aB8 P ty (cg x) (lo.map cg) (hi.map cg) (mx.map cg)) (.slice ty x lo hi mx):=by
 intro call ck fl flc T t K H k _ hT hH h
 have h1:=bP hT h
 have h2:=QR hT h1
 have h3:=QR hT h2
 have h4:=QR hT h3
 have fin:∀ st,(∀ b,O0 (eval t x)=some b->∃ L,H[b]? = some L/\st=some (L.exact,L.es))->sE (sliceB P ty (eval t x) (lo.map (eval t)) (hi.map (eval t)) (mx.map (eval t)) st) (fun v=>k v K) ->
  ∃ v K' H',rA P call fl flc (.slice ty x lo hi mx) (eval t) H=some (v,H')/\c6 K' H'/\k v K':=by
  intro st hst hk
  obtain⟨v,hv,hk⟩:=yJ hk
  exact⟨v,_,_,dH (by simp only[aJ];rw[Z5 hst,hv];rfl),hH,hk⟩
 cases hb:O0 (eval t x)with
 | none =>
   rw[hb]at h4
   exact fin none (fun b h=>by rw[hb]at h;cases h) h4
 | some b =>
   rw[hb]at h4
   obtain⟨B,L,_,_,hL,hB,h5⟩:=lE hH (k:=fun B=>sE (sliceB P ty (eval t x) (lo.map (eval t)) (hi.map (eval t)) (mx.map (eval t)) (some (B.exact,B.es))) fun v=>k v K) h4
   exact fin _ (fun b' h=>by rw[hb]at h;cases h;exact⟨L,hL,by rw[hB.1,hB.2.1]⟩) h5
theorem aH1 {s:TypeId}{x:Operand}{f off size sz:Nat}{ag:Option Bool}{fs:List (Nat×Nat×Option Bool)}(hty:aTy P s = .struct sz fs)(hf:fs[f]? = some (off,size,ag))(hs:size≠0) :
 FS P (kFA off (cg x)) (.fieldAddr s x f):=by
 intro call ck fl flc T t K H k _ hT hH h
 have h1:=bP (k:=fun v=>wD v fun a=>Y3 a off fun a=>k (.pointer (some a)) K) hT h
 obtain⟨a,ha,h2⟩:=tU h1
 have h3:=C5 (k:=fun a=>k (.pointer (some a)) K) h2
 exact⟨_,_,_,dH (by simp only[aJ,n6,hty,ha,hf,hs,aS,Option.map_some]),hH,h3⟩
theorem aFG {s e:TypeId}{x ix:Operand}{es eb:Nat}(hty:aTy P s = .slice e es eb):FS P (aHm es (cg x) (cg ix)) (.indexAddr s x ix):=by
 intro call ck fl flc T t K H k _ hT hH h
 have h1:=bP hT h
 have h2:=bP hT h1
 rcases dV h2 with⟨a,len,c,hx,h3⟩|h3
 ·obtain⟨a,rfl,h4⟩:=gD h3
  rcases fD h4 with⟨i,n,hi,h5⟩|h5
  ·cases n with
   | ofNat n =>
     obtain⟨h6,h7⟩:=bU.1 (show chk (Nat.blt n len) _ from h5)
     have h6:n<len:=by simpa [Nat.blt_eq] using h6
     have h8:=C5 (k:=fun a=>k (.pointer (some a)) K) h7
     refine⟨_,_,_,dH ?_,hH,h8⟩
     simp only[aJ,iL,hty,hx,hi]
     rw[aA (by rw[show Int.ofNat n=(n:Int)from rfl];omega)]
     rfl
   | negSucc n=>exact h5.elim
  ·exact h5.elim
 ·exact h3.elim
theorem aGO {s e:TypeId}{x ix:Operand}{n es sz:Nat}(hty:aTy P s = .array n e es sz):FS P (aGU n es (cg x) (cg ix)) (.indexAddr s x ix):=by
 intro call ck fl flc T t K H k _ hT hH h
 have h1:=bP hT h
 have h2:=bP hT h1
 obtain⟨a,hx,h3⟩:=tU h2
 rcases fD h3 with⟨i,m,hi,h5⟩|h5
 ·cases m with
  | ofNat m =>
    obtain⟨h6,h7⟩:=bU.1 (show chk (Nat.blt m n) _ from h5)
    have h6:m<n:=by simpa [Nat.blt_eq] using h6
    have h8:=C5 (k:=fun a=>k (.pointer (some a)) K) h7
    refine⟨_,_,_,dH ?_,hH,h8⟩
    simp only[aJ,iL,hty,hx,hi]
    rw[aA (by rw[show Int.ofNat m=(m:Int)from rfl];omega)]
    rfl
  | negSucc m=>exact h5.elim
 ·exact h5.elim
theorem aCL {f:Fn}{k:FuncId->Prop}(h:aHc f k):∃ g,f = .func g/\k g:=by
 cases f with
 | func g=>exact⟨g,rfl,h⟩
 | _=>exact h.elim
theorem aD3 {c:Call}{f:Operand}(hc:c.callee = .value f):FS P (aE0 P (cg f) (c.args.toList.map cg)) (.call c):=by
 intro call ck fl flc T t K H k hS hT hH h
 have h1:=bP hT h
 obtain⟨fn,first,cap,hf,h2⟩:=V5 h1
 obtain⟨g,rfl,h3⟩:=aCL h2
 obtain⟨h4,h5⟩:=bU.1 h3
 have h6:=yS hT _ _ h5
 obtain⟨first⟩:=first
 obtain⟨cap⟩:=cap
 have h7:=CO _ cap (fun l=>arr ⟨first⟩ fun f=>aAJ f l fun l=>ck flc g l K k) h6
 have h8:=CO first _ (fun l=>ck flc g l K k) h7
 obtain⟨v,K',H',h9,h10,h11⟩:=hS _ _ _ _ _ _ hH h8
 refine⟨v,K',H',?_,h10,h11⟩
 have he:(⟨first⟩++c.args.map (eval t)++⟨cap⟩:Array Value)=⟨first++(c.args.toList.map (eval t)++cap)⟩:=by
  rw[uH,<- bM]
  apply zE
  simp only[tT]
 simp only[rA,aJ,fP,hc,hf,h4,aO,he]
 exact h9
theorem aFC {c:Call}{x:Operand}{ty e:TypeId}{es eb:Nat}(hc:c.callee = .builtin .len)(ht:c.argTypes[0]? = some ty)(ha:c.args.toList=[x])(hty:aTy P ty = .slice e es eb):FS P (aE3 (cg x)) (.call c):=by
 intro call ck fl flc T t K H k _ hT hH h
 have h1:=bP hT h
 rcases dV h1 with⟨a,n,cap,hx,h2⟩|h2
 ·refine⟨_,_,_,dH ?_,hH,h2⟩
  simp only[aJ,fP,hc,s9,ht,uH,ha,List.map_cons,List.map_nil,hx]
  simp only[show(#[Value.slice a n cap]:Array Value)[0]? = some (.slice a n cap)from rfl,hty,Option.map_some]
  rfl
 ·exact h2.elim
theorem aDo {c:Call}{x:Operand}(hc:c.callee = .builtin .len)(ha:c.args.toList=[x]):FS P (u5 (fun v=>s9 P c.argTypes #[v]) (cg x)) (.call c):=tH fun fl ev H=>by
 simp only[aJ,fP,hc,uH,ha,List.map_cons,List.map_nil]
theorem aA4 {x y:Value}{k:Value->Prop}(h:XP x y k):∃ z,C4 x y=some z/\k z:=by
 rcases fD h with⟨i,m,rfl,h1⟩|h1
 ·rcases fD h1 with⟨j,n,rfl,h2⟩|h2
  ·rcases yO h2 with⟨h3,h4⟩|⟨h3,h4⟩
   ·exact⟨_,by simp only[C4];rw[aA h3],h4⟩
   ·exact⟨_,by simp only[C4];rw[aC (Int.not_lt.2 h3)],h4⟩
  ·exact h2.elim
 ·exact h1.elim
theorem aCg {x y:Value}{k:Value->Prop}(h:XF x y k):∃ z,B9 x y=some z/\k z:=by
 rcases fD h with⟨i,m,rfl,h1⟩|h1
 ·rcases fD h1 with⟨j,n,rfl,h2⟩|h2
  ·rcases yO h2 with⟨h3,h4⟩|⟨h3,h4⟩
   ·exact⟨_,by simp only[B9];rw[aA h3],h4⟩
   ·exact⟨_,by simp only[B9];rw[aC (Int.not_lt.2 h3)],h4⟩
  ·exact h2.elim
 ·exact h1.elim
theorem KX {f:Value->Value->(Value->Prop)->Prop}{g:Value->Value->Option Value}(hfg:∀ x y k,f x y k->∃ z,g x y=some z/\k z):∀ (l:List Value) (x:Value) (k:Value->Prop),aBt f l x k->∃ z,wE g x l=some z/\k z
 | [],x,k,h=>⟨x,rfl,h⟩
 | y::l,x,k,h=>by
   obtain⟨z,h1,h2⟩:=hfg x y (fun z=>aBt f l z k) h
   obtain⟨w,h3,h4⟩:=KX hfg l z k h2
   exact⟨w,by simp only[wE,h1,h3],h4⟩
theorem aFj {c:Call}{x:Operand}{l:List Operand}(hc:c.callee = .builtin .max)(ha:c.args.toList=x::l):FS P (YG XP (cg x) (l.map cg)) (.call c):=by
 intro call ck fl flc T t K H k _ hT hH h
 have h1:=bP hT h
 have h2:=yS hT _ _ h1
 obtain⟨z,h3,h4⟩:=KX (f:=XP) (g:=C4) (fun x y k h=>aA4 h) _ _ (fun v=>k v K) h2
 exact⟨z,_,_,dH (by simp only[aJ,fP,hc,uH,ha,List.map_cons,h3,Option.map_some]),hH,h4⟩
theorem aFn {c:Call}{x:Operand}{l:List Operand}(hc:c.callee = .builtin .min)(ha:c.args.toList=x::l):FS P (YG XF (cg x) (l.map cg)) (.call c):=by
 intro call ck fl flc T t K H k _ hT hH h
 have h1:=bP hT h
 have h2:=yS hT _ _ h1
 obtain⟨z,h3,h4⟩:=KX (f:=XF) (g:=B9) (fun x y k h=>aCg h) _ _ (fun v=>k v K) h2
 exact⟨z,_,_,dH (by simp only[aJ,fP,hc,uH,ha,List.map_cons,h3,Option.map_some]),hH,h4⟩
theorem ET {K:HT}{H:aD}{es m:Nat}{x:Value}{k:List Value->Prop}(hH:c6 K H)(h:AM K (m*es) x k)(hl:∀ a l c,x = .slice a l c->es≠0\/m=0\/a.isSome=true) :
 ∃ l,cU H es m x=some l/\l.length=m*es/\k l:=by
 rcases dV h with⟨a,n,c,rfl,h1⟩|h1
 ·cases hm:m*es with
  | zero =>
    rw[hm]at h1
    refine⟨[],?_,rfl,h1⟩
    cases a with
    | none =>
      have:m=0:=by
       rcases hl _ _ _ rfl with h2|h2|h2
       ·rcases Nat.mul_eq_zero.1 hm with h3|h3
        ·exact h3
        ·exact absurd h3 h2
       ·exact h2
       ·cases h2
      simp only[cU,this,aO]
    | some a=>simp only[cU,hm,aO]
  | succ q =>
    rw[hm]at h1
    obtain⟨a,rfl,h2⟩:=gD (k:=fun a=>jX a fun b o=>vU K b fun B=>wI B o (q+1) k) h1
    obtain⟨B,L,_,_,hL,hB,h3⟩:=lE hH (eQ.1 h2)
    obtain⟨l,h4,_,_,h5,_,h6⟩:=xZ hL hB h3
    refine⟨l,?_,h5,h6⟩
    simp only[cU,hm,Nat.add_eq_zero_iff,Nat.one_ne_zero,and_false,aS,h4]
 ·exact h1.elim
theorem aC6 {B:KB}{L:Blk}{H:aD}{a:Addr}{n:Nat}{new:List Value}{es:Nat}{k:KB->Prop}(hL:H[a.block]? = some L)(hB:A2 B L)(h:aAr B a.off n new es k) :
 ∃ B' old,old=(L.cells.drop a.off).take n/\a.off+n<=L.cells.length/\old.all (fun v => !lC v)=true/\new.all Value.oneCell'=true/\A2 B' ⟨old++new,es,false,true⟩/\k B':=by
 cases ho:a.off with
 | zero =>
   rw[ho]at h
   obtain⟨t,len,bs,ex⟩:=B
   obtain⟨h1,h2⟩:=bU.1 (show chk (Nat.ble n len&&Nat.blt (n+new.length) big) _ from h)
   simp only[aH,Nat.ble_eq,Nat.blt_eq]at h1
   obtain⟨h3,h4,h5⟩:=BU h2
   have h6:=(CI new n t _).1 h5
   have h7:=(aZ (k:=fun m=>k ⟨NC new n t,m,es,false⟩)).1 h6
   have hcs:=JX hB 0 n (by simp only;omega)
   have hB':=hB
   obtain⟨_,_,_,hl,_,hc⟩:=hB
   simp only at hl hc
   have hone:((L.cells.drop 0).take n).all (fun v => !lC v)=true:=by
    rw[hcs,bW]
    intro v hv
    obtain⟨i,hi,he⟩:=List.mem_map.1 hv
    rw[List.mem_range']at hi
    obtain⟨j,hj,hi⟩:=hi
    simp only at he
    rw[<- he,vY (hc i (by omega)).2]
    rfl
   refine⟨_,_,rfl,by omega,hone,h3,?_,h7⟩
   have hlen:((L.cells.drop 0).take n).length=n:=by rw[eI,oB];omega
   refine⟨rfl,rfl,rfl,?_,?_,?_⟩
   ·simp only[aR,hlen]
   ·simp only;omega
   ·intro i hi
    simp only at hi
    have hp:=DE new n t i (by omega) (by omega)
    simp only
    by_cases h8:i<n
    ·rw[aC (by omega)]at hp
     simp only[aX]at hp
     rw[dL (by omega),List.getElem?_take,aA h8,q8,e9,hp]
     exact hc i (by omega)
    ·rw[aA (by omega)]at hp
     rw[o5 (by omega),hlen,<- hp]
     refine⟨rfl,?_⟩
     exact List.all_eq_true.1 h3 _ (fW hp.symm)
 | succ o =>
   rw[ho]at h
   have h1:wI B a.off n fun old=>aAJ old new fun l=>aBa l es false k:=by rw[ho];exact h
   obtain⟨l,_,h2,h3,_,h5,h6⟩:=xZ hL hB h1
   have h7:=CO l new (fun l=>aBa l es false k) h6
   obtain⟨B',h8,h9,h10⟩:=XL h7
   rw[<- ho]
   refine⟨B',l,h2,h3,?_,?_,h8,h10⟩
   ·rw[bW]at h5⊢
    intro v hv
    rw[vY (h5 v hv)]
    rfl
   ·rw[List.all_append,aH]at h9
    exact h9.2
theorem aCQ {fl:Nat}{K:HT}{H:aD}{es:Nat}{a:Addr}{B:KB}{L:Blk}{k:HT->Prop}(hH:c6 K H)(hb:a.block<K.size)(hL:H[a.block]? = some L)(hB:A2 B L)(h:aAn fl K es a.block B k) :
 ∃ K' H',nO fl H es (some a)=some H'/\H'.length=H.length/\c6 K' H'/\k K':=by
 rcases cO.1 h with⟨h1,h2⟩|⟨h1,h2⟩
 ·refine⟨K,H,?_,rfl,hH,h2⟩
  simp only[nO,hL]
  rw[hB.2.1]at h1
  rw[aA h1]
 ·obtain⟨h3,h4⟩:=bU.1 h2
  obtain⟨h5,h6⟩:=bU.1 h4
  have h3:L.es=es:=by rw[<- hB.1];exact Nat.eq_of_beq_eq_true h3
  have h5:fl<=a.block:=by simpa [Nat.ble_eq] using h5
  obtain⟨K',h7,h8⟩:=J0 (L:={ L with alive:=false }) hH hb h6
  refine⟨K',_,?_,by simp,h7,h8⟩
  simp only[nO,hL]
  rw[hB.2.1]at h1
  rw[aC (by rw[h1];exact Bool.false_ne_true),aA ⟨h3,hB.2.2.1,h5⟩]
theorem FV {fl e es eb:Nat}{base:Option Addr}{n c m:Nat}{x:Value}{new:List Value}{H:aD}(hn:cU H es m x=some new):gF P fl e es eb base n c m x H=mD P fl e es eb base n c m new H:=by
 simp only[gF,hn,mD]
theorem A9 {fl e es eb:Nat}{base:Option Addr}{n c m:Nat}{new:List Value}{K:HT}{H:aD}{k:Value->HT->Prop}(hH:c6 K H)(hz:(cS P e).map List.length=some es)
 (h:BR fl es eb base n c m new K k):∃ v K' H',mD P fl e es eb base n c m new H=some (v,H')/\c6 K' H'/\k v K':=by
 have h1:=(aZ (n:=n+m)).1 h
 simp only[mD]
 rcases cO.1 h1 with⟨h2,h3⟩|⟨h2,h3⟩
 ·have h2:n+m<=c:=by simpa [Nat.ble_eq] using h2
  simp only[h2,aO]
  cases base with
  | none=>exact⟨_,_,_,rfl,hH,h3⟩
  | some a =>
    have h4:=C5 (k:=fun p=>stK fl K p new fun H=>k (.slice (some a) (n+m) c) H) h3
    obtain⟨K',H',h5,h6,h7⟩:=U9 hH h4
    exact⟨_,K',H',by simp only[h5],h6,h7⟩
 ·have h2 : ¬ n+m<=c:=by simpa [<- Bool.not_eq_true,Nat.ble_eq] using h2
  obtain⟨h4,h5⟩:=bU.1 h3
  simp only[aH,Nat.ble_eq]at h4
  simp only[h2,aS]
  cases base with
  | none =>
    obtain⟨h6,h7⟩:=bU.1 (show chk (Nat.beq n 0) _ from h5)
    have h6:n=0:=Nat.eq_of_beq_eq_true h6
    subst h6
    obtain⟨K',h8,h9,h10⟩:=kZ hH h7
    rw[aA ⟨by omega,by omega,h9,hz⟩]
    refine⟨_,K',_,?_,h8,h10⟩
    simp only[cU,nO,aO,List.nil_append]
  | some a =>
    obtain⟨B,L,hb,_,hL,hB,h6⟩:=lE hH (eQ.1 (show jX a (fun b o=>vU K b fun B=>cG (n*es) fun ne=>aAr B o ne new es fun B'=>aAn fl K es b B fun H=>LL H B' fun b H=>k (.slice (some ⟨b,0,none⟩) (n+m) (n+m)) H)from h5))
    have h7:=(aZ (n:=n*es)).1 h6
    obtain⟨B',old,h8,h9,h10,h11,h12,h13⟩:=aC6 hL hB h7
    obtain⟨K1,H1,h14,h15,h16,h17⟩:=aCQ hH hb hL hB h13
    obtain⟨K2,h18,h19⟩:=II h16 h12 h17
    have hold:cU H es n (.slice (some a) n c)=some old:=by
     simp only[cU]
     split
     ·rename_i h0
      rw[h8,h0,List.take_zero]
     ·unfold fC
      rw[blk?_of hL hB.2.2.1]
      simp only
      rw[aA ⟨h9,by rw[<- h8];exact h10⟩,h8]
    rw[aA ⟨by omega,by omega,h11,hz⟩]
    refine⟨_,K2,_,?_,h18,h19⟩
    simp only[hold,h14]
theorem aDZ {c:Call}{a b:Operand}(ha:c.args.toList=[a,b])(ev:Operand->Value):c.args.map ev = #[ev a,ev b]:=by
 rw[uH,ha]
 rfl
theorem xW {fl:Nat}{ats:Array TypeId}{st xt:TypeId}{base:Option Addr}{n c:Nat}{x:Value}{H:aD}(h0:ats[0]? = some st)(h1:ats[1]? = some xt):mN P fl ats #[.slice base n c,x] H =
 (match aTy P st,aTy P xt,EF x with
 | .slice e es eb,.slice _ _ _,some m=>gF P fl e es eb base n c m x H
 | .slice e es eb,.str,some m=>gF P fl e es eb base n c m x H
 | .slice e es eb,.one,none=>rP P fl e es eb base n c xt x H
 | _,_,_=>none):=by
 unfold mN
 rw[h0,h1]
 rfl
theorem Y6 {c:Call}{s x:Operand}{st xt e e':TypeId}{es eb es' eb':Nat}(hc:c.callee = .builtin .append)(h0:c.argTypes[0]? = some st)(h1:c.argTypes[1]? = some xt)(ha:c.args.toList=[s,x])
 (hs:aTy P st = .slice e es eb) (hx:aTy P xt = .slice e' es' eb') (hes:es≠0):FS P (YP es eb (((cS P e).map List.length).any (Nat.beq es)) (cg s) (cg x)) (.call c):=by
 intro call ck fl flc T t K H k _ hT hH h
 obtain⟨hz,h2⟩:=bU.1 h
 have hz:(cS P e).map List.length=some es:=by
  cases hh:(cS P e).map List.length with
  | none=>rw[hh]at hz;cases hz
  | some q=>rw[hh]at hz;rw[<- Nat.eq_of_beq_eq_true hz]
 have h3:=bP hT h2
 have h4:=bP hT h3
 rcases dV h4 with⟨base,n,cp,hsv,h5⟩|h5
 ·rcases dV (show iI (eval t x) _ _ from h5)with⟨xa,m,xc,hxv,h6⟩|h6
  ·obtain⟨new,h7,h8,h9⟩:=ET hH h6 (fun _ _ _ _ => .inl hes)
   obtain⟨v,K',H',h10,h11,h12⟩:=A9 (base:=base) hH hz h9
   refine⟨v,K',H',dH ?_,h11,h12⟩
   rw[hxv]at h7
   simp only[aJ,fP,hc,aDZ ha,hsv,hxv]
   rw[xW h0 h1]
   simp only[hs,hx,EF,FV h7,h10,Option.map_some]
  ·exact h6.elim
 ·exact h5.elim
theorem E2:∀ (l:List UInt8) (k:List Value->Prop),qL l k->k (l.map fun b => .int .u8 b.toNat)
 | [],_,h=>h
 | c::l,k,h=>by
   have h1:=(aZ (k:=fun n=>qL l fun r=>k (.int .u8 (.ofNat n)::r))).1 h
   exact E2 l (fun r=>k (.int .u8 (.ofNat c.toNat)::r)) h1
theorem WL {c:Call}{s x:Operand}{st xt e:TypeId}{es eb:Nat}(hc:c.callee = .builtin .append)(h0:c.argTypes[0]? = some st)(h1:c.argTypes[1]? = some xt)(ha:c.args.toList=[s,x])
 (hs:aTy P st = .slice e es eb) (hx:aTy P xt = .str):FS P (SJ eb (((cS P e).map List.length).any (Nat.beq es)&&Nat.beq es 1) (cg s) (cg x)) (.call c):=by
 intro call ck fl flc T t K H k _ hT hH h
 obtain⟨hz,h2⟩:=bU.1 h
 rw[aH]at hz
 have he:es=1:=Nat.eq_of_beq_eq_true hz.2
 subst he
 have hz:(cS P e).map List.length=some 1:=by
  cases hh:(cS P e).map List.length with
  | none=>rw[hh]at hz;cases hz.1
  | some q=>rw[hh]at hz;rw[<- Nat.eq_of_beq_eq_true hz.1]
 have h3:=bP hT h2
 have h4:=bP hT h3
 rcases dV h4 with⟨base,n,cp,hsv,h5⟩|h5
 ·rcases M2 h5 with⟨y,hxv,h6⟩|h6
  ·have h7:=(aZ (n:=y.size)).1 h6
   have h8:=E2 _ _ h7
   have h9:cU H 1 y.size (.string y)=some ((y.extract 0 y.size).data.toList.map fun b => .int .u8 b.toNat):=by simp only[cU,aO]
   obtain⟨v,K',H',h10,h11,h12⟩:=A9 (base:=base) hH hz h8
   refine⟨v,K',H',dH ?_,h11,h12⟩
   simp only[aJ,fP,hc,aDZ ha,hsv,hxv]
   rw[xW h0 h1]
   simp only[hs,hx,EF,FV h9,h10,Option.map_some]
  ·exact h6.elim
 ·exact h5.elim
theorem VW {c:Call}{s x:Operand}{st xt e:TypeId}{es eb:Nat}{i:IntKind}(hc:c.callee = .builtin .append)(h0:c.argTypes[0]? = some st)(h1:c.argTypes[1]? = some xt)(ha:c.args.toList=[s,x])
 (hs:aTy P st = .slice e es eb) (hx:aTy P xt = .one) (hu:P.underlying xt=some (.int i)):FS P (S1 es eb (cS P e) (cg s) (cg x)) (.call c):=by
 intro call ck fl flc T t K H k _ hT hH h
 obtain⟨z,hzz,h2⟩:=gD h
 obtain⟨hzl,h2⟩:=bU.1 h2
 have hzl:z.length=es:=Nat.eq_of_beq_eq_true hzl
 have hz:(cS P e).map List.length=some es:=by rw[hzz,<- hzl];rfl
 have h3:=bP hT h2
 have h4:=bP hT h3
 rcases dV h4 with⟨base,n,cp,hsv,h5⟩|h5
 ·rcases fD h5 with⟨j,m,hxv,h6⟩|h6
  ·rcases dS h6 with⟨rfl,h7⟩|h7
   ·cases m with
    | ofNat m =>
      obtain⟨h8,h9⟩:=bU.1 (show chk (Nat.ble (m*eb) 140737488355328&&Nat.ble m 140737488355328) _ from h7)
      simp only[aH,Nat.ble_eq]at h8
      have h10:=jP (k:=fun new=>BR fl es eb base n cp m new K k) h9
      obtain⟨v,K',H',h11,h12,h13⟩:=A9 (base:=base) hH hz h10
      refine⟨v,K',H',dH ?_,h12,h13⟩
      simp only[aJ,fP,hc,aDZ ha,hsv,hxv]
      rw[xW h0 h1]
      simp only[hs,hx,EF,rP,hu,hzz]
      rw[aA ⟨hzl,by omega,by omega⟩,h11]
      rfl
    | negSucc m=>exact h7.elim
   ·exact h7.elim
  ·exact h6.elim
 ·exact h5.elim
theorem P4 {cs vs:List Value}(h:vs.length=cs.length):setCells cs 0 vs=vs:=by
 apply wQ
 intro i
 by_cases hi:i<vs.length
 ·have:=oL vs cs 0 i (by omega) hi
  rw[e9]at this
  exact this
 ·rw[qX (by rw[pT];omega),qX (by omega)]
theorem Y2 {fl:Nat}{ats:Array TypeId}{dt:TypeId}{base:Option Addr}{n c:Nat}{x:Value}{H:aD}(h0:ats[0]? = some dt):DG P fl ats #[.slice base n c,x] H =
 (match aTy P dt,EF x with
 | .slice _ es _,some m =>
   match cU H es (Nat.min m n) x with
   | some cells =>
     match base with
     | some a=>match storeAt fl H a cells with
       | some H'=>some (.int .i64 (Nat.min m n),H')
       | none=>none
     | none=>some (.int .i64 (Nat.min m n),H)
   | none=>none
 | _,_=>none):=by
 unfold DG
 rw[h0]
 rfl
theorem aDN {c:Call}{s x:Operand}{dt e:TypeId}{es eb:Nat}(hc:c.callee = .builtin .copy)(h0:c.argTypes[0]? = some dt)(ha:c.args.toList=[s,x])(hs:aTy P dt = .slice e es eb):FS P (aEp es (cg s) (cg x)) (.call c):=by
 obtain⟨_,_,_,_,_,_,_,hes⟩:=fR hs
 intro call ck fl flc T t K H k _ hT hH h
 have h3:=bP hT h
 have h4:=bP hT h3
 rcases dV h4 with⟨base,n,cp,hsv,h5⟩|h5
 rotate_left
 ·exact h5.elim
 rcases dV (show iI (eval t x) _ _ from h5)with⟨xa,m,xc,hxv,h6⟩|h6
 rotate_left
 ·exact h6.elim
 have h7:=(aZ (n:=Nat.min m n)).1 h6
 generalize hq:Nat.min m n=q at h7
 have fin:∀ l K' H',cU H es q (eval t x)=some l->(match base with
  | some a=>storeAt fl H a l=some H'
  | none=>H'=H)->c6 K' H'->k (.int .i64 (.ofNat q)) K'->∃ v K' H',rA P call fl flc (.call c) (eval t) H=some (v,H')/\c6 K' H'/\k v K':=by
  intro l K' H' e1 e2 e3 e4
  refine⟨_,K',H',dH ?_,e3,e4⟩
  simp only[aJ,fP,hc,aDZ ha,hsv]
  rw[Y2 h0]
  rw[hxv]at e1⊢
  simp only[hs,EF,hq,e1]
  cases base with
  | none=>subst e2;rfl
  | some a=>simp only at e2;simp only[e2];rfl
 cases base with
 | none =>
   obtain⟨l,e1,_,e2⟩:=ET (es:=es) (m:=q) (x:=eval t x) (k:=fun _=>k (.int .i64 (.ofNat q)) K) hH h7 (fun _ _ _ _ => .inl hes)
   exact fin l K H e1 rfl hH e2
 | some a =>
   have h7':=HR.1 h7
   have h8:=eQ.1 h7'
   rcases dV h8 with⟨xa',m',xc',hxv',h9⟩|h9
   rotate_left
   ·exact h9.elim
   have slow:AM K (q*es) (eval t x) (fun l=>stK fl K a l fun H=>k (.int .i64 (.ofNat q)) H)->∃ v K' H',rA P call fl flc (.call c) (eval t) H=some (v,H')/\c6 K' H'/\k v K':=by
    intro h
    obtain⟨l,e1,_,e2⟩:=ET (es:=es) (m:=q) (x:=eval t x) hH h (fun _ _ _ _ => .inl hes)
    obtain⟨K',H',e3,e4,e5⟩:=U9 hH e2
    exact fin l K' H' e1 e3 e4 e5
   cases xa' with
   | none=>exact slow h9
   | some xa' =>
     have h9':=HR.1 h9
     have h10:=eQ.1 h9'
     obtain⟨B,LB,hb,_,hLB,hB,h11⟩:=lE hH h10
     obtain⟨X,LX,_,_,hLX,hX,h12⟩:=lE hH h11
     rcases cO.1 h12 with⟨h13,h14⟩|⟨_,h14⟩
     rotate_left
     ·exact slow h14
     simp only[aH,Nat.ble_eq,Nat.blt_eq]at h13
     obtain⟨⟨⟨⟨ho,hxo⟩,hql⟩,hle⟩,hpos⟩:=h13
     have ho:=Nat.eq_of_beq_eq_true ho
     have hxo:=Nat.eq_of_beq_eq_true hxo
     have hql:=Nat.eq_of_beq_eq_true hql
     obtain⟨hf,h15⟩:=bU.1 h14
     have hf:fl<=a.block:=by simpa [Nat.ble_eq] using hf
     obtain⟨bt,blen,bes,bex⟩:=B
     obtain⟨xt,xlen,xes,xex⟩:=X
     have h16:vF K a.block (some ⟨xt,blen,bes,bex⟩) (fun H=>k (.int .i64 (.ofNat q)) H):=h15
     obtain⟨b1,b2,b3,b4,b5,b6⟩:=hB
     obtain⟨x1,x2,x3,x4,x5,x6⟩:=hX
     simp only at hql hle hpos b1 b2 b4 b5 x4 x6
     have hcs:=JX (B:=⟨xt,xlen,xes,xex⟩) (L:=LX) ⟨x1,x2,x3,x4,x5,x6⟩ 0 (q*es) (by simp only;omega)
     have hall:((LX.cells.drop 0).take (q*es)).all Value.oneCell'=true:=by
      rw[hcs,bW]
      intro v hv
      obtain⟨i,hi,he⟩:=List.mem_map.1 hv
      rw[List.mem_range']at hi
      obtain⟨j,hj,hi⟩:=hi
      simp only at he
      rw[<- he]
      exact(x6 i (by omega)).2
     have hhole:((LX.cells.drop 0).take (q*es)).all (fun v => !lC v)=true:=by
      rw[bW]at hall⊢
      intro v hv
      rw[vY (hall v hv)]
      rfl
     have hlen:((LX.cells.drop 0).take (q*es)).length=q*es:=by rw[eI,oB];omega
     obtain⟨v0,vs0,hv0⟩:∃ v vs,(LX.cells.drop 0).take (q*es)=v::vs:=by
      cases hh:(LX.cells.drop 0).take (q*es)with
      | nil=>rw[hh]at hlen;simp at hlen;omega
      | cons v vs=>exact⟨v,vs,rfl⟩
     have hBn:A2 ⟨xt,blen,bes,bex⟩ { LB with cells:=(LX.cells.drop 0).take (q*es) }:=by
      refine⟨b1,b2,b3,?_,b5,fun i hi => ?_⟩
      ·simp only[hlen];omega
      ·simp only at hi⊢
       rw[List.getElem?_take,aA (by omega),q8,e9]
       exact x6 i (by omega)
     obtain⟨K',h17,h18⟩:=QP hH hb hBn h16
     refine fin ((LX.cells.drop 0).take (q*es)) K' _ ?_ ?_ h17 h18
     ·rw[hxv']
      simp only[cU]
      rw[aC (by omega)]
      unfold fC
      rw[blk?_of hLX x3]
      simp only[hxo]
      rw[aA ⟨by omega,hhole⟩]
     ·simp only
      rw[hv0]
      simp only[storeAt,blk?_of hLB b3]
      rw[<- hv0,aA ⟨hf,by omega,hall⟩,ho,P4 (by rw[hlen];omega)]
theorem aDQ {s:TypeId}{e:TypeId}{x:Operand}(hs:P.underlying s=some (.slice e))(he:P.underlying e=some (.int .u8)):FS P (aEm (cg x)) (.convert s s x):=by
 intro call ck fl flc T t K H k _ hT hH h
 have h1:=bP hT h
 rcases dV h1 with⟨a,n,c,hx,h2⟩|h2
 ·obtain⟨a,rfl,h3⟩:=gD h2
  cases n with
  | zero=>exact((eQ (p:=a)).1 h3).elim
  | succ n =>
    obtain⟨h4,h5⟩:=bU.1 ((eQ (p:=a)).1 h3)
    have h4:fl<=a.block:=by simpa [Nat.ble_eq] using h4
    obtain⟨B,L,_,_,hL,hB,h6⟩:=lE hH h5
    refine⟨_,_,_,dH (v:=eval t x) ?_,hH,h6⟩
    simp only[aJ,hx,kY]
    rw[aA ⟨trivial,h4,by rw[blk?_of hL hB.2.2.1];rfl⟩]
    simp only[hs,he]
 ·exact h2.elim
theorem aDq {s d e:TypeId}{x:Operand}(hs:P.underlying s=some .string)(hd:P.underlying d=some (.slice e))(he:P.underlying e=some (.int .u8)):FS P (aE4 (cg x)) (.convert s d x):=by
 intro call ck fl flc T t K H k _ hT hH h
 have h1:=bP hT h
 rcases M2 h1 with⟨y,hx,h2⟩|h2
 ·obtain⟨h3,h4⟩:=bU.1 h2
  have h3:y.size<=2 ^ 60:=by simpa [Nat.ble_eq] using h3
  have h5:=E2 _ _ h4
  obtain⟨K',h6,_,h7⟩:=kZ hH h5
  have h8:=(aZ (n:=y.size)).1 h7
  refine⟨_,K',_,dH ?_,h6,h8⟩
  simp only[aJ,hx,kY,kF,hs,hd,he]
  rw[aA h3]
  rfl
 ·exact h2.elim
theorem aCw {s d e:TypeId}{x:Operand}(hs:P.underlying s=some (.slice e))(hd:P.underlying d=some .string)(he:P.underlying e=some (.int .u8)):FS P (aET (cg x)) (.convert s d x):=by
 intro call ck fl flc T t K H k _ hT hH h
 have hne:s≠d:=fun h=>by rw[h,hd]at hs;cases hs
 have h1:=bP hT h
 have hmk:∀ v,kY P fl s d v H=none:=fun v=>by
  unfold kY
  split
  ·rw[aC (fun h=>hne h.1)]
  ·rfl
 rcases dV h1 with⟨a,n,c,hx,h2⟩|h2
 ·cases a with
  | none =>
    refine⟨_,K,_,dH ?_,hH,h2⟩
    simp only[aJ,hmk]
    simp only[hx,kF,hs,hd,he,Option.map_some]
  | some a =>
    cases n with
    | zero =>
      refine⟨_,K,_,dH ?_,hH,h2⟩
      simp only[aJ,hmk]
      simp only[hx,kF,hs,hd,he,aO,Option.map_some]
    | succ n =>
      rcases dV (show iI (eval t x) _ _ from h2)with⟨a',n',c',hx',h3⟩|h3
      ·rw[hx]at hx'
       cases hx'
       obtain⟨B,L,_,_,hL,hB,h4⟩:=lE hH ((eQ (p:=a)).1 (show jX a (fun b o=>vU K b fun B=>wI B o (n+1) fun cs=>fN (eZ cs) False fun l=>k (.string ⟨l.toArray⟩) K)from h3))
       obtain⟨l,h5,_,_,_,_,h6⟩:=xZ hL hB h4
       obtain⟨bs,h7,h8⟩:=gD h6
       refine⟨_,K,_,dH ?_,hH,h8⟩
       simp only[aJ,hmk]
       simp only[hx,kF,hs,hd,he,Nat.add_eq_zero_iff,Nat.one_ne_zero,and_false,aS,h5,h7,Option.map_some]
      ·exact h3.elim
 ·exact h2.elim
def KS (P:Program)(o:KO)(op:Op):Prop:=match o with | .mk f=>FS P f op
theorem RN (s d:TypeId)(x:Operand):KS P (XV P s d (cg x)) (.convert s d x):=by
 unfold XV
 split
 ·exact aEI ‹_› ‹_›
 ·split
  ·exact aDq ‹_› ‹_› ‹_›
  ·exact fZ _
 ·split
  ·exact aCw ‹_› ‹_› ‹_›
  ·exact fZ _
 ·rename_i hs hd
  split
  ·rename_i he
   split
   ·rename_i hsd
    subst hsd
    exact aDQ hs he
   ·exact fZ _
  ·exact fZ _
 ·exact fZ _
theorem aCM (n:Int):u64.wrap n=Int.ofNat (aFD n):=by
 have h:(2:Int) ^ u64.bits=18446744073709551616:=by decide
 have h0:0<=n%18446744073709551616:=Int.emod_nonneg _ (by decide)
 unfold IntKind.wrap
 simp only[h,show u64.signed=false from rfl,Bool.false_and,eK,aS]
 show n%18446744073709551616=((Int.toNat (n%18446744073709551616):Nat):Int)
 omega
theorem aBb {s d:TypeId}{x:Operand}{u:TypeDesc}(hs:P.underlying s=some u)(hd:P.underlying d=some (.int .u64)):FS P (aAb (cg x)) (.convert s d x):=by
 intro call ck fl flc T t K H k _ hT hH h
 have h1:=bP (k:=fun v=>oS v (fun _ n=>k (.int .u64 (.ofNat (aFD n))) K) False) hT h
 rcases fD h1 with⟨j,n,hx,h2⟩|h2
 ·refine⟨_,_,_,dH (v := .int .u64 (u64.wrap n)) ?_,hH,?_⟩
  ·simp only[aJ,hx,kY,kF,hs,hd,Option.map_some]
  ·rw[aCM];exact h2
 ·exact h2.elim
theorem aAT (s d:TypeId)(x:Operand):KS P (UT P s d (cg x)) (.convert s d x):=by
 unfold UT
 split
 ·exact aBb ‹_› ‹_›
 ·exact RN _ _ _
theorem aDc {op:BinOp}{y:Operand}(h:aFK op y=true):op = .rem/\y = .const (.int .u64 (.ofNat 3)):=by
 unfold aFK at h
 split at h
 ·exact⟨rfl,rfl⟩
 ·cases h
theorem aDw (ty yt:TypeId)(x:Operand):FS P (aEW (cg x)) (.binOp .rem ty x (.const (.int .u64 (.ofNat 3))) yt):=by
 intro call ck fl flc T t K H k _ hT hH h
 have h1:=bP hT h
 rcases fD h1 with⟨i,n,hx,h2⟩|h2
 ·rcases dS h2 with⟨rfl,h3⟩|h3
  ·cases n with
   | ofNat a =>
     obtain⟨k0,k1,k2⟩:=h3
     have fin:k (.int .u64 (.ofNat (a%3))) K:=by
      have:a%3=0\/a%3=1\/a%3=2:=by omega
      rcases this with e|e|e <;> rw[e] <;> assumption
     refine⟨_,_,_,dH ?_,hH,fin⟩
     have hv:fI .rem (.int .u64 (.ofNat a)) (.int .u64 (.ofNat 3))=some (.int .u64 (.ofNat (a%3))):=by
      simp only[fI,ne_eq,not_true_eq_false,aS]
      rw[aC (by intro h;cases h)]
      rfl
     have hb:nM P .rem ty (bR x||bR (.const (.int .u64 (.ofNat 3)))) (eval t x) (eval t (.const (.int .u64 (.ofNat 3))))=some (.int .u64 (.ofNat (a%3))):=by
      rw[hx]
      unfold nM
      simp only[eval]
      rw[hv]
      rfl
     simp only[aJ,hb]
     rfl
   | negSucc a=>exact h3.elim
  ·exact h3.elim
 ·exact h2.elim
theorem aC8 (c:Call):KS P (aBQ P c) (.call c):=by
 unfold aBQ
 split
 ·exact aD3 ‹_›
 ·rename_i hc
  split
  ·split
   ·exact aFC hc ‹_› ‹_› ‹_›
   ·exact aDo hc ‹_›
  ·exact fZ _
 ·rename_i hc
  split
  ·split
   ·rename_i hs _
    obtain⟨_,_,_,_,_,_,_,hes⟩:=fR hs
    exact Y6 hc ‹_› ‹_› ‹_› hs ‹_› hes
   ·split
    ·exact VW hc ‹_› ‹_› ‹_› ‹_› ‹_› ‹_›
    ·exact fZ _
   ·exact WL hc ‹_› ‹_› ‹_› ‹_› ‹_›
   ·exact fZ _
  ·exact fZ _
 ·rename_i hc
  split
  ·split
   ·exact aDN hc ‹_› ‹_› ‹_›
   ·exact fZ _
  ·exact fZ _
 ·rename_i hc
  split
  ·exact aFj hc ‹_›
  ·exact fZ _
 ·rename_i hc
  split
  ·exact aFn hc ‹_›
  ·exact fZ _
 ·exact fZ _
theorem aAc (op:Op):KS P (cop P op) op:=by
 unfold cop
 split
 ·exact aD7 _
 ·exact aAQ _
 ·exact aCz _ _ _
 ·exact aAs _
 ·exact aFQ _ _
 ·split
  ·rename_i hty
   exact TP fun fl ev H z cs hz h=>by simp only[aJ,hty,hz,h]
  ·rename_i hty
   exact TP fun fl ev H z cs hz h=>by simp only[aJ,hty,hz,h]
  ·exact fZ _
 ·split
  ·exact MF ‹_›
  ·exact fZ _
 ·split
  ·rename_i hty
   exact R7 fun H p=>by simp only[lD,hty]
  ·rename_i hty
   exact R7 fun H p=>by simp only[lD,hty]
  ·exact fZ _
  ·rename_i h1 h2 h3
   refine aBE fun H p => ?_
   unfold lD
   split
   ·rename_i hty;exact absurd hty (h1 _ _)
   ·rename_i hty;exact absurd hty (h2 _ _ _ _)
   ·rename_i hty;exact absurd hty h3
   ·rfl
 ·exact aC1 _ _ _
 ·exact Q7 _
 ·split
  ·rename_i h3
   obtain⟨rfl,rfl⟩:=aDc h3
   exact aDw _ _ _
  ·exact aFc _ _ _ _ _
 ·exact tH fun fl ev H=>rfl
 ·split
  ·exact aAT _ _ _
  ·exact RN _ _ _
 ·exact SD _ _ _
 ·split
  ·exact OY ‹_›
  ·exact fZ _
 ·exact aBY _ _ _ _ _
 ·split
  ·split
   ·split
    ·exact fZ _
    ·rename_i hs
     exact aH1 ‹_› ‹_› hs
   ·exact fZ _
  ·exact fZ _
 ·exact tH fun fl ev H=>rfl
 ·split
  ·exact aFG ‹_›
  ·exact aGO ‹_›
  ·exact fZ _
 ·exact aAf fun fl ev H=>rfl
 ·exact tH fun fl ev H=>by
   simp only[aJ]
   cases ev _ <;> rfl
 ·exact tH fun fl ev H=>rfl
 ·exact aC8 _
 ·exact fZ _
end
end Go.Mach.J
