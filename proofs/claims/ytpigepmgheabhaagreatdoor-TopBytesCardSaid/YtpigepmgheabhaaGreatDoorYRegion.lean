/- Part of the proof. No condition. -/
import Derived.Test.YtpigepmgheabhaaGreatDoorYInv
namespace Go.Mach
def gC (l:Array Bool)(i:Nat):Prop:=l.getD i false=true
def tF (n:Nat)(l:Array Bool):List Nat:=(List.range n).filter fun i => !l.getD i true
section
variable {P:Program} {cl:Nat->aQ} {fc:Nat->Nat} {Pm:Nat->Nat->Prop} {base fl n:Nat} {ops:Array Oper} {b:Array Nat} {T:Nat->aE} {HH:Nat->aD} {w0:World} {ρ0 ρ:Ren} {wS w:World} {a:Act}
theorem MX {l:Array Bool}{i:Nat}(h:i<l.size):l.getD i true=l.getD i false:=by
 simp[nT,nU h]
theorem IR {l:Array Bool}{i j:Nat}(hi:i<l.size):gC (l.setIfInBounds i true) j ↔ (gC l j\/j=i):=by
 unfold gC
 simp only[nT]
 by_cases h:j=i
 ·subst h;simp[hi]
 ·rw[FP (fun e=>h e.symm)];simp[h]
theorem yI {md:Region.Mode}{l:Array Bool}{i:Nat}:i∈Region.ready md ops l ↔ ∃ o,ops[i]? = some o/\l.getD i true=false/\∀ e∈o.after.toList,Region.binds md e=true->l.getD e.on false=true:=by
 unfold Region.ready
 simp only[List.mem_filter,qW,aH,AP]
 constructor
 ·rintro⟨h1,h2,h3⟩
  refine⟨ops[i],nU h1,h2,fun e he hb => ?_⟩
  rw[nU h1]at h3
  simp only[Option.map_some,Option.getD_some,Array.all_eq_true_iff_forall_mem]at h3
  have:=h3 e (by simpa using he)
  simpa [hb] using this
 ·rintro⟨o,h1,h2,h3⟩
  refine⟨cR h1,h2,?_⟩
  rw[h1]
  simp only[Option.map_some,Option.getD_some,Array.all_eq_true_iff_forall_mem]
  intro e he
  cases hb:Region.binds md e with
  | false=>rfl
  | true=>simp[h3 e (by simpa using he) hb]
theorem Drawn.edge_lt (D:Drawn P cl fc Pm base w0 fl n ops b T HH){i:Nat}{o:Oper}(ho:ops[i]? = some o){e:Edge}(he:e∈o.after.toList)(hb:Region.binds .any e=true):e.on<i:=by
 have:=D.hdraw
 simp only[gU,aH]at this
 have:=this.1
 simp only[O3,bW,qW]at this
 have:=this i (cR ho)
 simp only[ho,Option.map_some,Option.getD_some,bW]at this
 simpa [hb] using this e he
def VQ (ops:Array Oper)(l:Array Bool):Prop:=∀ (i:Nat) o,ops[i]? = some o->gC l i->∀ e∈o.after.toList,Region.binds .any e=true->gC l e.on
theorem JI (D:Drawn P cl fc Pm base w0 fl n ops b T HH){l:Array Bool}(hc:VQ ops l):∀ (i j:Nat),i<ops.size->gC l i->Bef b i j->gC l j:=by
 intro i
 induction i using Nat.strongRecOn with
 | _ i ih =>
   intro j hi hl hb
   have ho:=nU hi
   unfold Bef at hb
   rw[D.hb]at hb
   obtain⟨e,he,hbd,h⟩:=A7 ho hb
   have hle:=hc i _ ho hl e he hbd
   rcases h with h|⟨h1,h2⟩
   ·rwa [<- h]
   ·exact ih e.on h1 j (by omega) hle (by unfold Bef;rw[D.hb];exact h2)
theorem ZD (D:Drawn P cl fc Pm base w0 fl n ops b T HH){l:Array Bool}(hsz:l.size=ops.size)(hc:VQ ops l){i:Nat}(h:i∈Region.ready .any ops l):Upnext ops b (gC l) i:=by
 obtain⟨o,ho,h1,h2⟩:=yI.1 h
 have hi:=cR ho
 refine⟨hi,?_,fun j hb => ?_,fun i j hi hl hb=>JI D hc i j hi hl hb⟩
 ·unfold gC;rw[<- MX (by omega),h1];simp
 ·unfold Bef at hb
  rw[D.hb]at hb
  obtain⟨e,he,hbd,h⟩:=A7 ho hb
  have hle:gC l e.on:=h2 e he hbd
  rcases h with h|⟨h3,h4⟩
  ·rwa [<- h]
  ·exact JI D hc e.on j (by omega) hle (by unfold Bef;rw[D.hb];exact h4)
theorem VH (D:Drawn P cl fc Pm base w0 fl n ops b T HH){l:Array Bool}(hsz:l.size=ops.size)(h:Region.ready .any ops l=[]):∀ i,i<ops.size->gC l i:=by
 intro i
 induction i using Nat.strongRecOn with
 | _ i ih =>
   intro hi
   by_cases hl:gC l i
   ·exact hl
   ·exfalso
    have ho:=nU hi
    have:i∈Region.ready .any ops l:=yI.2 ⟨_,ho,by
     unfold gC at hl
     rw[MX (by omega)]
     simpa using hl,fun e he hb=>by
     have:=D.edge_lt ho he hb
     exact ih e.on this (by omega)⟩
    rw[h]at this;cases this
theorem YW (D:Drawn P cl fc Pm base w0 fl n ops b T HH)(hfr0:∀ id,(HH 0).length<=id->id<(HH ops.size).length->ρ0 id=none){Q:Exit->Act->World->Prop}
 (hQ:∀ ρ' a' w',Inv base w0 fl n ops Pm T HH ρ0 wS (fun j=>j<ops.size) ρ' a' w'->Q .normal a' w') :
 ∀ (fuel:Nat) (l:Array Bool) (ρ:Ren) (a:Act) (w:World),l.size=ops.size->VQ ops l->(tF ops.size l).length=fuel->Inv base w0 fl n ops Pm T HH ρ0 wS (gC l) ρ a w ->
   wpAny P .any ops Q fuel l a w:=by
 have fin:∀ (l:Array Bool) (ρ:Ren) (a:Act) (w:World),l.size=ops.size->Inv base w0 fl n ops Pm T HH ρ0 wS (gC l) ρ a w->Region.ready .any ops l=[]->Q .normal a w:=by
  intro l ρ a w hsz I hr
  have hall:=VH D hsz hr
  have hS:gC l=fun j=>j<ops.size:=funext fun j=>propext ⟨fun h=>by
   unfold gC at h
   rcases lM j ops.size with h1|h1
   ·exact h1
   ·simp[nT,Array.getElem?_eq_none (show l.size<=j by omega)]at h,fun h=>hall j h⟩
  rw[hS]at I
  exact hQ ρ a w I
 intro fuel
 induction fuel with
 | zero =>
   intro l ρ a w hsz hc hn I
   have hr:Region.ready .any ops l=[]:=by
    cases hq:Region.ready .any ops l with
    | nil=>rfl
    | cons i r =>
      exfalso
      have hi:i∈Region.ready .any ops l:=by rw[hq];exact cN ..
      obtain⟨o,ho,h1,_⟩:=yI.1 hi
      have:i∈tF ops.size l:=List.mem_filter.2 ⟨List.mem_range.2 (cR ho),by simp[h1]⟩
      rw[sY hn]at this
      cases this
   exact⟨hr,fin l ρ a w hsz I hr⟩
 | succ fuel ih =>
   intro l ρ a w hsz hc hn I
   refine⟨fun hr=>fin l ρ a w hsz I hr,fun i hi => ?_⟩
   have hu:=ZD D hsz hc hi
   have hil:i<l.size:=by rw[hsz];exact hu.lt
   obtain⟨o,ho,h1,h2⟩:=yI.1 hi
   refine Inv.step D I hfr0 hu ho fun ρ' a' w' I'=>ih _ ρ' a' w' (by simpa using hsz) ?_ ?_ ?_
   ·intro j p hp hl e he hb
    rw[IR hil]at hl⊢
    rcases hl with hl|rfl
    ·exact .inl (hc j p hp hl e he hb)
    ·rw[ho]at hp;cases hp
     exact .inl (h2 e he hb)
   ·have hone:=GS (List.nodup_range (n:=ops.size)) (p:=fun i => !l.getD i true) (List.mem_range.2 hu.lt) (by simp[h1])
    have:tF ops.size (l.setIfInBounds i true)=(List.range ops.size).filter fun x => !l.getD x true&&x != i:=by
     unfold tF
     refine List.filter_congr fun x hx => ?_
     simp only[nT]
     by_cases h:x=i
     ·subst h;simp[hsz,hu.lt]
     ·rw[FP (fun e=>h e.symm)];simp[h]
    rw[this]
    unfold tF at hn
    omega
   ·have:(fun j=>gC l j\/j=i)=gC (l.setIfInBounds i true):=funext fun j=>propext (IR hil).symm
    rw[<- this];exact I'
theorem HF {Q:Exit->Act->World->Prop}(D:Drawn P cl fc Pm base w0 fl n ops b T HH)(S:Sim base w0 All ρ (HH 0) w)(hfr0:∀ id,(HH 0).length<=id->id<(HH ops.size).length->ρ id=none)(hT:TRel n ρ (T 0) a)(hm:P.follows .mixedOrders=true)(id:Nat)
 (hQ:∀ ρ' a' w',TRel n ρ' (T ops.size) a'->Step base w0 All All fl ρ (HH 0) w ρ' (HH ops.size) w'->Q .normal a' w'):(Code.region id ops true).wp P Q a w:=by
 refine wp_region_any hm ?_
 have I0:=Inv.start (wS:={ w with drawn:=w.drawn+1 }) D (S.heap rfl) hfr0 hT
 refine YW (w0:=w0) (wS:={ w with drawn:=w.drawn+1 }) D hfr0 ?_ ops.size (Array.replicate ops.size false) ρ a _ (by simp) ?_ ?_ ?_
 ·intro ρ' a' w' I
  have syn:∀ id,EA fl ops Pm T HH (fun j=>j<ops.size) id ops.size:=fun id j hj _=>⟨fun h=>h,fun h=>h⟩
  have live:∀ id,(blk? (HH ops.size) id).isSome=true->PD fl ops Pm T HH (fun j=>j<ops.size) id:=fun id hb=>⟨ops.size,aF _,syn id,hb⟩
  refine hQ ρ' a' w' ⟨I.size,I.defers,fun d hd => ?_⟩ ?_
  ·exact I.tmps d hd ops.size (aF _) fun j p hp _=>⟨fun h=>h,fun h=>h⟩
  ·refine⟨⟨I.base_le,I.old,I.dom,I.apart,fun id L B h hB=>I.stat ops.size (aF _) id L B h hB,fun id L B _ h hB=>I.cont ops.size (aF _) id L B h (syn id) hB,
    fun id id' L L' _ _ h h' hl hl' b1 b2 he=>I.inj id id' L L' h h' (live id hl) (live id' hl') b1 b2 he⟩,I.ext,fun id L h h' => ?_,fun i hi hno => ?_,I.grow,I.side,D.len (eJ _) (aF _),fun i hi hk => ?_,fun i hi hb => ?_⟩
   ·obtain⟨⟨k,hk,_,k1,k2⟩,k3⟩:=I.new id L h h'
    have e1:=D.len (i:=0) (k:=k) (eJ _) (by omega)
    have e2:=D.len (i:=k+1) (k:=ops.size) (by omega) (aF _)
    refine⟨by omega,by omega,?_⟩
    rcases k3 with k3|⟨id0,L0,f,e0,eb,al,nl⟩
    ·exact .inl k3
    ·refine .inr ⟨id0,L0,f,trivial,trivial,e0,eb,al,?_⟩
     cases hb:blk? (HH ops.size) id0 with
     | none=>rfl
     | some B=>exact absurd (live id0 (by rw[hb];rfl)) nl
   ·exact I.frame i hi fun id L f e al=>hno id L f trivial trivial e al
   ·refine D.keep (eJ _) (aF _) hi fun j _ hj hw => ?_
    rcases hk with hk|hk
    ·have:=D.wrote_fl hj hw
     omega
    ·exact hk trivial
   ·cases hbb:blk? (HH ops.size) i with
    | none=>rw[hbb]at hb;cases hb
    | some B =>
      obtain⟨q1,q2⟩:=blk?_inv hbb
      obtain⟨B',r1,_,_,_,r5⟩:=D.stat (aM hi) (eJ _) (aF _)
      rw[q1]at r1;cases r1
      unfold blk?
      rw[aM hi]
      simp[r5 q2]
 ·intro i o ho hl
  unfold gC at hl
  simp[nT,Array.getElem?_replicate]at hl
  split at hl <;> simp at hl
 ·unfold tF
  rw[List.filter_eq_self.2]
  ·simp
  ·intro i hi
   simp[nT,List.mem_range.1 hi]
 ·have:gC (Array.replicate ops.size false)=fun _=>False:=funext fun j=>propext ⟨fun h=>by
   unfold gC at h
   simp[nT,Array.getElem?_replicate]at h
   split at h <;> simp at h,fun h=>h.elim⟩
  rw[this];exact I0
theorem aAR {call:aQ}{b:Array Nat}{t t':aE}{H H':aD}{Q:Exit->Act->World->Prop}(hb:b=aI ops.toList #[])(hcs:CallerSound base w0 P call)(hck:CallerKept call)(hbf:base<=fl)(hfl:fl<=H.length)(hok:∀ (i:Nat) o,ops[i]? = some o->gO n ops o=true)
 (hd:gU ops b=true) (hl:(b7 ops b).all (fun p=>c7 ops p.1&&c7 ops p.2)=true) (hrun:eB P call fl ops b 0 ops.toList t H=some (t',H')) (hcl:(b7 ops b).all (dE ops t')=true)
 (S:Sim base w0 All ρ H w) (hfr:∀ id,H.length<=id->id<H'.length->ρ id=none) (hT:TRel n ρ t a) (hm:P.follows .mixedOrders=true) (id:Nat)
 (hQ:∀ ρ' a' w',TRel n ρ' t' a'->Step base w0 All All fl ρ H w ρ' H' w'->Q .normal a' w'):(Code.region id ops true).wp P Q a w:=by
 obtain⟨T,HH,h1,h2,h3,h4,h5⟩:=RV _ _ _ _ _ _ hrun
 simp only[e9,Array.length_toList]at h3 h4 h5
 subst h1;subst h2;subst h3;subst h4
 have h6:∀ k o,ops[k]? = some o->cF P call fl (if aK o.op==4&&bH ops b k then fl else(HH k).length) ops o (T k) (HH k)=some (T (k+1),HH (k+1)):=fun k o ho=>h5 k o (by simpa using ho)
 have lens:∀ k,k<=ops.size->fl<=(HH k).length:=by
  intro k
  induction k with
  | zero=>exact fun _=>hfl
  | succ k ih =>
    intro hk
    have:=(kC hck (by split <;> first|exact .inl (aF _)|exact .inr (aF _)) (h6 k ops[k] (nU hk))).len
    have:=ih (by omega)
    omega
 obtain⟨fc,hfc⟩:∃ fc:Nat->Nat,∀ k o,ops[k]? = some o->fc k=if aK o.op==4&&bH ops b k then fl else(HH k).length :=
  ⟨fun k=>match ops[k]? with
   | some o=>if aK o.op==4&&bH ops b k then fl else(HH k).length
   | none=>0,fun k o ho=>by simp only[ho]⟩
 refine HF (cl:=fun _=>call) (fc:=fc) (Pm:=fun k id=>fc k<=id) (T:=T) (HH:=HH) (b:=b) (n:=n)
  ⟨hb,hbf,hfl,fun k=>hcs.toW _,fun k=>hck.toW _,fun k hk => ?_,fun _ _ h=>h,fun j oj hj hk4 id hlt hP => ?_,hok,hd,hl,hcl,fun k o ho=>by rw[hfc k o ho];exact h6 k o ho⟩ S hfr hT hm id hQ
 ·have:=lens k (by omega)
  rw[hfc k _ (nU hk)]
  split <;> omega
 ·rw[hfc j oj hj]at hP
  split at hP
  ·rename_i hap
   simp only[aH,eP]at hap
   refine⟨fun i oi hi hne h => ?_,fun i oi hi hlt' hgr => ?_⟩
   ·have hk':aK oi.op≠0/\aK oi.op≠1:=by
     rcases h with h|h
     ·rcases CM h with h|h <;> omega
     ·omega
    exact(uW hb hd (cR hj) hi hne hk'.1 (fun e=>absurd e hk'.2) hap.2).symm
   ·refine(uW hb hd (cR hj) hi (by omega) (fun hk => ?_) (fun _=>hlt') hap.2).symm
    rw[wJ (h6 i oi hi) hk]at hgr
    omega
  ·omega
theorem WS {call:aQ}{b:Array Nat}{t t':aE}{H H':aD}{Q:Exit->Act->World->Prop}(hb:b=aI ops.toList #[])(hcs:CallerSound base w0 P call)(hck:CallerKept call)(hbf:base<=fl)(hfl:fl<=H.length)(hok:∀ (i:Nat) o,ops[i]? = some o->gO n ops o=true)
 (hd:gU ops b=true) (hl:(b7 ops b).all (fun p=>c7 ops p.1&&c7 ops p.2)=true) (hrun:fL P call fl ops b 0 [] [] ops.toList t H=some (t',H')) (hcl:(b7 ops b).all (dE ops t')=true)
 (S:Sim base w0 All ρ H w) (hfr:∀ id,H.length<=id->id<H'.length->ρ id=none) (hT:TRel n ρ t a) (hm:P.follows .mixedOrders=true) (id:Nat)
 (hQ:∀ ρ' a' w',TRel n ρ' t' a'->Step base w0 All All fl ρ H w ρ' H' w'->Q .normal a' w'):(Code.region id ops true).wp P Q a w:=by
 obtain⟨T,HH,XX,h1,h2,_,h3,h4,h6,s2,_,_,s5⟩:=MV ops.toList 0 [] [] t t' H H' (eJ _) (fun k=>by rw[e9];simp) hrun
 subst h1;subst h2;subst h3;subst h4
 have h6:=fun k o (ho:ops[k]? = some o)=>h6 k o (eJ _) ho
 have hkc:∀ k o,CallerKept (if eH ops b k o then cM call (XX k)else call):=fun k o=>by
  split
  ·exact zM hck _
  ·exact hck
 have lens:∀ k,k<=ops.size->fl<=(HH k).length:=by
  intro k
  induction k with
  | zero=>exact fun _=>hfl
  | succ k ih =>
    intro hk
    have:=(kC (hkc k _) (by split <;> first|exact .inl (aF _)|exact .inr (aF _)) (h6 k ops[k] (nU hk))).len
    have:=ih (by omega)
    omega
 obtain⟨fc,hfc⟩:∃ fc:Nat->Nat,∀ k o,ops[k]? = some o->fc k=if aK o.op==4&&(bH ops b k||qS ops b k o)then fl else(HH k).length :=
  ⟨fun k=>match ops[k]? with
   | some o=>if aK o.op==4&&(bH ops b k||qS ops b k o)then fl else(HH k).length
   | none=>0,fun k o ho=>by simp only[ho]⟩
 obtain⟨sb,hsb⟩:∃ sb:Nat->Bool,∀ k o,ops[k]? = some o->sb k=eH ops b k o :=
  ⟨fun k=>match ops[k]? with
   | some o=>eH ops b k o
   | none=>false,fun k o ho=>by simp only[ho]⟩
 refine HF (cl:=fun k=>if sb k then cM call (XX k)else call) (fc:=fc) (Pm:=fun k id=>fc k<=id/\(sb k=true->id∉XX k)) (T:=T) (HH:=HH) (b:=b) (n:=n)
  ⟨hb,hbf,hfl,fun k => ?_,fun k => ?_,fun k hk => ?_,fun _ _ h=>h.1,fun j oj hj hk4 id hlt hP => ?_,hok,hd,hl,hcl,fun k o ho=>by simp only[hfc k o ho,hsb k o ho];exact h6 k o ho⟩ S hfr hT hm id hQ
 ·cases hs:sb k with
  | true=>exact(V2 hcs (XX k) (fc k)).mono fun id h=>⟨h.1,fun _=>h.2⟩
  | false=>exact(hcs.toW (fc k)).mono fun id h=>⟨h,fun h=>by cases h⟩
 ·cases hs:sb k with
  | true=>exact fun f args H v H' h=>(OJ hck (XX k) (fc k) f args H v H' h).mono fun id _ h=>⟨h.1,fun _=>h.2⟩
  | false=>exact fun f args H v H' h=>(hck (fc k) f args H v H' h).mono fun id _ h=>⟨h,fun h=>by cases h⟩
 ·have:=lens k (by omega)
  rw[hfc k _ (nU hk)]
  split <;> omega
 ·obtain⟨hP1,hP2⟩:=hP
  rw[hfc j oj hj]at hP1
  rw[hsb j oj hj]at hP2
  split at hP1
  ·rename_i hap
   simp only[aH,eP,iX]at hap
   by_cases happ:bH ops b j=true
   ·refine⟨fun i oi hi hne h => ?_,fun i oi hi hlt' hgr => ?_⟩
    ·have hk':aK oi.op≠0/\aK oi.op≠1:=by
      rcases h with h|h
      ·rcases CM h with h|h <;> omega
      ·omega
     exact(uW hb hd (cR hj) hi hne hk'.1 (fun e=>absurd e hk'.2) happ).symm
    ·refine(uW hb hd (cR hj) hi (by omega) (fun hk => ?_) (fun _=>hlt') happ).symm
     rw[wJ (h6 i oi hi) hk]at hgr
     omega
   ·have hsc':qS ops b j oj=true:=hap.2.resolve_left happ
    have hsc:CD ops b j=true:=by
     unfold qS at hsc'
     rw[aH]at hsc'
     exact hsc'.1
    have hsa:eH ops b j oj=true:=by
     unfold eH
     rw[hsc']
     simp[hk4,happ]
    have hX:=hP2 hsa
    refine⟨fun i oi hi hne h => ?_,fun i oi hi hlt' hgr => ?_⟩
    ·have hk':aK oi.op≠0/\aK oi.op≠1:=by
      rcases h with h|h
      ·rcases CM h with h|h <;> omega
      ·omega
     by_cases hld:nL oi.op=true
     ·have hacc:id∈cI oi.op (eval (T i)):=by
       rcases h with h|h
       ·exact h
       ·exfalso
        cases ho:oi.op <;> rw[ho]at hld h <;> first|(cases hld;done)|(simp only[aK]at h;omega)
      rcases Nat.lt_or_gt_of_ne hne with hlt'|hgt
      ·exact absurd (s2 i oi (eJ _) hi hld j hlt' (kP (cR hj)) id hacc) hX
      ·rcases s5 j oj i oi (eJ _) hj hi hgt hsa with h7|h7
       ·exact⟨fun h=>by omega,fun _=>h7⟩
       ·exact absurd (h7 id hacc) hX
     ·exact(OA hb hd (cR hj) hi hne hk'.1 (fun e=>absurd e hk'.2) hld hsc).symm
    ·refine(OA hb hd (cR hj) hi (by omega) (fun hk => ?_) (fun _=>hlt') (fun hld => ?_) hsc).symm
     ·rw[wJ (h6 i oi hi) hk]at hgr
      omega
     ·rw[QW (h6 i oi hi) hld]at hgr
      omega
  ·omega
theorem T8 {call:aQ}{t t':aE}{H H':aD}{Q:Exit->Act->World->Prop}(hcs:CallerSound base w0 P call)(hck:CallerKept call)(hbf:base<=fl)(hfl:fl<=H.length)(hok:∀ (i:Nat) o,ops[i]? = some o->gO n ops o=true)
 (S:Sim base w0 All ρ H w) (hfr:∀ id,H.length<=id->id<H'.length->ρ id=none) (hT:TRel n ρ t a) (hm:P.follows .mixedOrders=true) (id:Nat)
 (h:cZ P call fl ops true t H=some (t',H')) (hQ:∀ ρ' a' w',TRel n ρ' t' a'->Step base w0 All All fl ρ H w ρ' H' w'->Q .normal a' w'):(Code.region id ops true).wp P Q a w:=by
 unfold cZ at h
 simp only[aO]at h
 split at h
 ·rename_i hst
  simp only[aH]at hst
  split at h
  ·rename_i t1 H1 hrun
   split at h
   ·rename_i hcl
    cases h
    split at hrun
    ·exact WS rfl hcs hck hbf hfl hok hst.1 hst.2 hrun hcl S hfr hT hm id hQ
    ·exact aAR rfl hcs hck hbf hfl hok hst.1 hst.2 hrun hcl S hfr hT hm id hQ
   ·cases h
  ·cases h
 ·cases h
end
end Go.Mach
