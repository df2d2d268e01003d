/- Part of the proof. No condition. -/
import Derived.Test.YtcfpfefadlnmcaaGreatYInv
namespace Go.Mach
def oL (l:Array Bool)(i:Nat):Prop:=l.getD i false=true
def JC (n:Nat)(l:Array Bool):List Nat:=(List.range n).filter fun i => !l.getD i true
section
variable {P:Program} {call:nS} {base fl n:Nat} {ops:Array Oper} {b:Array Nat} {T:Nat->aJ} {HH:Nat->aE} {w0:World} {ρ0 ρ:Ren} {wS w:World} {a:Act}
theorem aCV {l:Array Bool}{i:Nat}(h:i<l.size):l.getD i true=l.getD i false:=by
 simp[C1,FZ h]
theorem aAh {l:Array Bool}{i j:Nat}(hi:i<l.size):oL (l.setIfInBounds i true) j ↔ (oL l j\/j=i):=by
 unfold oL
 simp only[C1]
 by_cases h:j=i
 ·subst h;simp[hi]
 ·rw[aAz (fun e=>h e.symm)];simp[h]
theorem P4 {md:Region.Mode}{l:Array Bool}{i:Nat}:i∈Region.ready md ops l ↔ ∃ o,ops[i]? = some o/\l.getD i true=false/\∀ e∈o.after.toList,Region.binds md e=true->l.getD e.on false=true:=by
 unfold Region.ready
 simp only[List.mem_filter,KL,aI,nJ]
 constructor
 ·rintro⟨h1,h2,h3⟩
  refine⟨ops[i],FZ h1,h2,fun e he hb => ?_⟩
  rw[FZ h1]at h3
  simp only[Option.map_some,Option.getD_some,Array.all_eq_true_iff_forall_mem]at h3
  have:=h3 e (by simpa using he)
  simpa [hb] using this
 ·rintro⟨o,h1,h2,h3⟩
  refine⟨nH h1,h2,?_⟩
  rw[h1]
  simp only[Option.map_some,Option.getD_some,Array.all_eq_true_iff_forall_mem]
  intro e he
  cases hb:Region.binds md e with
  | false=>rfl
  | true=>simp[h3 e (by simpa using he) hb]
theorem Drawn.edge_lt (D:Drawn P call base w0 fl n ops b T HH){i:Nat}{o:Oper}(ho:ops[i]? = some o){e:Edge}(he:e∈o.after.toList)(hb:Region.binds .any e=true):e.on<i:=by
 have:=D.hdraw
 simp only[GK,aI]at this
 have:=this.1
 simp only[aE1,jG,KL]at this
 have:=this i (nH ho)
 simp only[ho,Option.map_some,Option.getD_some,jG]at this
 simpa [hb] using this e he
def aGE (ops:Array Oper)(l:Array Bool):Prop:=∀ (i:Nat) o,ops[i]? = some o->oL l i->∀ e∈o.after.toList,Region.binds .any e=true->oL l e.on
theorem aAA (D:Drawn P call base w0 fl n ops b T HH){l:Array Bool}(hc:aGE ops l):∀ (i j:Nat),i<ops.size->oL l i->Bef b i j->oL l j:=by
 intro i
 induction i using Nat.strongRecOn with
 | _ i ih =>
   intro j hi hl hb
   have ho:=FZ hi
   unfold Bef at hb
   rw[D.hb]at hb
   obtain⟨e,he,hbd,h⟩:=S1 ho hb
   have hle:=hc i _ ho hl e he hbd
   rcases h with h|⟨h1,h2⟩
   ·rwa [<- h]
   ·exact ih e.on h1 j (by omega) hle (by unfold Bef;rw[D.hb];exact h2)
theorem aIM (D:Drawn P call base w0 fl n ops b T HH){l:Array Bool}(hsz:l.size=ops.size)(hc:aGE ops l){i:Nat}(h:i∈Region.ready .any ops l):Upnext ops b (oL l) i:=by
 obtain⟨o,ho,h1,h2⟩:=P4.1 h
 have hi:=nH ho
 refine⟨hi,?_,fun j hb => ?_,fun i j hi hl hb=>aAA D hc i j hi hl hb⟩
 ·unfold oL;rw[<- aCV (by omega),h1];simp
 ·unfold Bef at hb
  rw[D.hb]at hb
  obtain⟨e,he,hbd,h⟩:=S1 ho hb
  have hle:oL l e.on:=h2 e he hbd
  rcases h with h|⟨h3,h4⟩
  ·rwa [<- h]
  ·exact aAA D hc e.on j (by omega) hle (by unfold Bef;rw[D.hb];exact h4)
theorem aGJ (D:Drawn P call base w0 fl n ops b T HH){l:Array Bool}(hsz:l.size=ops.size)(h:Region.ready .any ops l=[]):∀ i,i<ops.size->oL l i:=by
 intro i
 induction i using Nat.strongRecOn with
 | _ i ih =>
   intro hi
   by_cases hl:oL l i
   ·exact hl
   ·exfalso
    have ho:=FZ hi
    have:i∈Region.ready .any ops l:=P4.2 ⟨_,ho,by
     unfold oL at hl
     rw[aCV (by omega)]
     simpa using hl,fun e he hb=>by
     have:=D.edge_lt ho he hb
     exact ih e.on this (by omega)⟩
    rw[h]at this;cases this
theorem aI8 (D:Drawn P call base w0 fl n ops b T HH)(hfr0:∀ id,(HH 0).length<=id->id<(HH ops.size).length->ρ0 id=none){Q:Exit->Act->World->Prop}
 (hQ:∀ ρ' a' w',Inv base w0 fl n ops b T HH ρ0 wS (fun j=>j<ops.size) ρ' a' w'->Q .normal a' w') :
 ∀ (fuel:Nat) (l:Array Bool) (ρ:Ren) (a:Act) (w:World),l.size=ops.size->aGE ops l->(JC ops.size l).length=fuel->Inv base w0 fl n ops b T HH ρ0 wS (oL l) ρ a w ->
   wpAny P .any ops Q fuel l a w:=by
 have fin:∀ (l:Array Bool) (ρ:Ren) (a:Act) (w:World),l.size=ops.size->Inv base w0 fl n ops b T HH ρ0 wS (oL l) ρ a w->Region.ready .any ops l=[]->Q .normal a w:=by
  intro l ρ a w hsz I hr
  have hall:=aGJ D hsz hr
  have hS:oL l=fun j=>j<ops.size:=funext fun j=>propext ⟨fun h=>by
   unfold oL at h
   rcases AB j ops.size with h1|h1
   ·exact h1
   ·simp[C1,Array.getElem?_eq_none (show l.size<=j by omega)]at h,fun h=>hall j h⟩
  rw[hS]at I
  exact hQ ρ a w I
 intro fuel
 induction fuel with
 | zero =>
   intro l ρ a w hsz hc hn I
   have hr:Region.ready .any ops l=[]:=by
    cases hq:Region.ready .any ops l with
    | nil=>rfl
    | cons i r =>
      exfalso
      have hi:i∈Region.ready .any ops l:=by rw[hq];exact jO ..
      obtain⟨o,ho,h1,_⟩:=P4.1 hi
      have:i∈JC ops.size l:=List.mem_filter.2 ⟨List.mem_range.2 (nH ho),by simp[h1]⟩
      rw[TB hn]at this
      cases this
   exact⟨hr,fin l ρ a w hsz I hr⟩
 | succ fuel ih =>
   intro l ρ a w hsz hc hn I
   refine⟨fun hr=>fin l ρ a w hsz I hr,fun i hi => ?_⟩
   have hu:=aIM D hsz hc hi
   have hil:i<l.size:=by rw[hsz];exact hu.lt
   obtain⟨o,ho,h1,h2⟩:=P4.1 hi
   refine Inv.step D I hfr0 hu ho fun ρ' a' w' I'=>ih _ ρ' a' w' (by simpa using hsz) ?_ ?_ ?_
   ·intro j p hp hl e he hb
    rw[aAh hil]at hl⊢
    rcases hl with hl|rfl
    ·exact .inl (hc j p hp hl e he hb)
    ·rw[ho]at hp;cases hp
     exact .inl (h2 e he hb)
   ·have hone:=X9 (List.nodup_range (n:=ops.size)) (p:=fun i => !l.getD i true) (List.mem_range.2 hu.lt) (by simp[h1])
    have:JC ops.size (l.setIfInBounds i true)=(List.range ops.size).filter fun x => !l.getD x true&&x != i:=by
     unfold JC
     refine List.filter_congr fun x hx => ?_
     simp only[C1]
     by_cases h:x=i
     ·subst h;simp[hsz,hu.lt]
     ·rw[aAz (fun e=>h e.symm)];simp[h]
    rw[this]
    unfold JC at hn
    omega
   ·have:(fun j=>oL l j\/j=i)=oL (l.setIfInBounds i true):=funext fun j=>propext (aAh hil).symm
    rw[<- this];exact I'
theorem aEz {t t':aJ}{H H':aE}{Q:Exit->Act->World->Prop}(hcs:kW base w0 P call)(hck:jB call)(hbf:base<=fl)(hfl:fl<=H.length)(hok:∀ (i:Nat) o,ops[i]? = some o->tH n ops o=true)
 (S:Sim base w0 All ρ H w) (hfr:∀ id,H.length<=id->id<H'.length->ρ id=none) (hT:TRel n ρ t a) (hm:P.follows .mixedOrders=true) (id:Nat)
 (h:j8 P call fl ops true t H=some (t',H')) (hQ:∀ ρ' a' w',TRel n ρ' t' a'->Step base w0 All All fl ρ H w ρ' H' w'->Q .normal a' w'):(Code.region id ops true).wp P Q a w:=by
 unfold j8 at h
 simp only[bS]at h
 split at h
 ·rename_i hst
  simp only[aI]at hst
  split at h
  ·rename_i t1 H1 hrun
   split at h
   ·rename_i hcl
    cases h
    obtain⟨T,HH,h1,h2,h3,h4,h5⟩:=aF8 _ _ _ _ _ _ hrun
    simp only[tA,Array.length_toList]at h3 h4 h5
    subst h1;subst h2
    have D:Drawn P call base w0 fl n ops (cY ops.toList #[]) T HH:=⟨rfl,hbf,hfl,hcs,hck,hok,hst.1,hst.2,by rw[h3];exact hcl,fun k o ho=>h5 k o (by simpa using ho)⟩
    have hfr0:∀ id,(HH 0).length<=id->id<(HH ops.size).length->ρ id=none:=by rw[h4];exact hfr
    refine wp_region_any hm ?_
    have I0:=Inv.start (wS:={ w with drawn:=w.drawn+1 }) D (S.heap rfl) hfr0 hT
    refine aI8 (w0:=w0) (wS:={ w with drawn:=w.drawn+1 }) D hfr0 ?_ ops.size (Array.replicate ops.size false) ρ a _ (by simp) ?_ ?_ ?_
    ·intro ρ' a' w' I
     have syn:∀ id,V8 fl ops (cY ops.toList #[]) T HH (fun j=>j<ops.size) id ops.size:=fun id j hj _=>⟨fun h=>h,fun h=>h⟩
     have live:∀ id,(blk? (HH ops.size) id).isSome=true->aDQ fl ops (cY ops.toList #[]) T HH (fun j=>j<ops.size) id:=fun id hb=>⟨ops.size,aR _,syn id,hb⟩
     refine hQ ρ' a' w' ⟨I.size,I.defers,fun d hd => ?_⟩ ?_
     ·rw[<- h3]
      exact I.tmps d hd ops.size (aR _) fun j p hp _=>⟨fun h=>h,fun h=>h⟩
     ·rw[<- h4]
      refine⟨⟨I.base_le,I.old,I.dom,I.apart,fun id L B h hB=>I.stat ops.size (aR _) id L B h hB,fun id L B _ h hB=>I.cont ops.size (aR _) id L B h (syn id) hB,
       fun id id' L L' _ _ h h' hl hl' b1 b2 he=>I.inj id id' L L' h h' (live id hl) (live id' hl') b1 b2 he⟩,I.ext,fun id L h h' => ?_,fun i hi hno => ?_,I.grow,I.side,D.len (kM _) (aR _),fun i hi hk => ?_,fun i hi hb => ?_⟩
      ·obtain⟨⟨k,hk,_,k1,k2⟩,k3⟩:=I.new id L h h'
       have e1:=D.len (i:=0) (k:=k) (kM _) (by omega)
       have e2:=D.len (i:=k+1) (k:=ops.size) (by omega) (aR _)
       refine⟨by omega,by omega,?_⟩
       rcases k3 with k3|⟨id0,L0,f,e0,eb,al,nl⟩
       ·exact .inl k3
       ·refine .inr ⟨id0,L0,f,trivial,trivial,e0,eb,al,?_⟩
        cases hb:blk? (HH ops.size) id0 with
        | none=>rfl
        | some B=>exact absurd (live id0 (by rw[hb];rfl)) nl
      ·exact I.frame i hi fun id L f e al=>hno id L f trivial trivial e al
      ·refine D.keep (kM _) (aR _) hi fun j _ _ hw => ?_
       obtain⟨_,p,_,hw⟩:=hw
       rcases hk with hk|hk
       ·rcases hw with hw|hw <;> omega
       ·exact hk trivial
      ·cases hbb:blk? (HH ops.size) i with
       | none=>rw[hbb]at hb;cases hb
       | some B =>
         obtain⟨q1,q2⟩:=blk?_inv hbb
         obtain⟨B',r1,_,_,_,r5⟩:=D.stat (aP hi) (kM _) (aR _)
         rw[q1]at r1;cases r1
         unfold blk?
         rw[aP hi]
         simp[r5 q2]
    ·intro i o ho hl
     unfold oL at hl
     simp[C1,Array.getElem?_replicate]at hl
     split at hl <;> simp at hl
    ·unfold JC
     rw[List.filter_eq_self.2]
     ·simp
     ·intro i hi
      simp[C1,List.mem_range.1 hi]
    ·have:oL (Array.replicate ops.size false)=fun _=>False:=funext fun j=>propext ⟨fun h=>by
      unfold oL at h
      simp[C1,Array.getElem?_replicate]at h
      split at h <;> simp at h,fun h=>h.elim⟩
     rw[this];exact I0
   ·cases h
  ·cases h
 ·cases h
end
end Go.Mach
