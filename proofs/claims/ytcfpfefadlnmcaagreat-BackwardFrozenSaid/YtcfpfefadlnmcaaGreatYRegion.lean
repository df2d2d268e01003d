/- Part of the proof. No condition. -/
import Derived.Test.YtcfpfefadlnmcaaGreatYInv
namespace Go.Mach
def jH (l:Array Bool)(i:Nat):Prop:=l.getD i false=true
def yV (n:Nat)(l:Array Bool):List Nat:=(List.range n).filter fun i => !l.getD i true
section
variable {P:Program} {call:iW} {base fl n:Nat} {ops:Array Oper} {b:Array Nat} {T:Nat->aC} {HH:Nat->aB} {w0:World} {ρ0 ρ:Ren} {wS w:World} {a:Act}
theorem ST {l:Array Bool}{i:Nat}(h:i<l.size):l.getD i true=l.getD i false:=by
 simp[Array.getD_eq_getD_getElem?,Array.getElem?_eq_getElem h]
theorem Q5 {l:Array Bool}{i j:Nat}(hi:i<l.size):jH (l.setIfInBounds i true) j ↔ (jH l j\/j=i):=by
 unfold jH
 simp only[Array.getD_eq_getD_getElem?]
 by_cases h:j=i
 ·subst h;simp[hi]
 ·rw[Array.getElem?_setIfInBounds_ne (fun e=>h e.symm)];simp[h]
theorem EP {md:Region.Mode}{l:Array Bool}{i:Nat}:i∈Region.ready md ops l ↔ ∃ o,ops[i]? = some o/\l.getD i true=false/\∀ e∈o.after.toList,Region.binds md e=true->l.getD e.on false=true:=by
 unfold Region.ready
 simp only[List.mem_filter,List.mem_range,Bool.and_eq_true,Bool.not_eq_true']
 constructor
 ·rintro⟨h1,h2,h3⟩
  refine⟨ops[i],Array.getElem?_eq_getElem h1,h2,fun e he hb => ?_⟩
  rw[Array.getElem?_eq_getElem h1]at h3
  simp only[Option.map_some,Option.getD_some,Array.all_eq_true_iff_forall_mem]at h3
  have:=h3 e (by simpa using he)
  simpa [hb] using this
 ·rintro⟨o,h1,h2,h3⟩
  refine⟨iU h1,h2,?_⟩
  rw[h1]
  simp only[Option.map_some,Option.getD_some,Array.all_eq_true_iff_forall_mem]
  intro e he
  cases hb:Region.binds md e with
  | false=>rfl
  | true=>simp[h3 e (by simpa using he) hb]
theorem Drawn.edge_lt (D:Drawn P call base w0 fl n ops b T HH){i:Nat}{o:Oper}(ho:ops[i]? = some o){e:Edge}(he:e∈o.after.toList)(hb:Region.binds .any e=true):e.on<i:=by
 have:=D.hdraw
 simp only[yE,Bool.and_eq_true]at this
 have:=this.1
 simp only[WD,List.all_eq_true,List.mem_range]at this
 have:=this i (iU ho)
 simp only[ho,Option.map_some,Option.getD_some,List.all_eq_true]at this
 simpa [hb] using this e he
def aAF (ops:Array Oper)(l:Array Bool):Prop:=∀ (i:Nat) o,ops[i]? = some o->jH l i->∀ e∈o.after.toList,Region.binds .any e=true->jH l e.on
theorem Q1 (D:Drawn P call base w0 fl n ops b T HH){l:Array Bool}(hc:aAF ops l):∀ (i j:Nat),i<ops.size->jH l i->Bef b i j->jH l j:=by
 intro i
 induction i using Nat.strongRecOn with
 | _ i ih =>
   intro j hi hl hb
   have ho:=Array.getElem?_eq_getElem hi
   unfold Bef at hb
   rw[D.hb]at hb
   obtain⟨e,he,hbd,h⟩:=F5 ho hb
   have hle:=hc i _ ho hl e he hbd
   rcases h with h|⟨h1,h2⟩
   ·rwa [<- h]
   ·exact ih e.on h1 j (by omega) hle (by unfold Bef;rw[D.hb];exact h2)
theorem aBy (D:Drawn P call base w0 fl n ops b T HH){l:Array Bool}(hsz:l.size=ops.size)(hc:aAF ops l){i:Nat}(h:i∈Region.ready .any ops l):Upnext ops b (jH l) i:=by
 obtain⟨o,ho,h1,h2⟩:=EP.1 h
 have hi:=iU ho
 refine⟨hi,?_,fun j hb => ?_,fun i j hi hl hb=>Q1 D hc i j hi hl hb⟩
 ·unfold jH;rw[<- ST (by omega),h1];simp
 ·unfold Bef at hb
  rw[D.hb]at hb
  obtain⟨e,he,hbd,h⟩:=F5 ho hb
  have hle:jH l e.on:=h2 e he hbd
  rcases h with h|⟨h3,h4⟩
  ·rwa [<- h]
  ·exact Q1 D hc e.on j (by omega) hle (by unfold Bef;rw[D.hb];exact h4)
theorem aAq (D:Drawn P call base w0 fl n ops b T HH){l:Array Bool}(hsz:l.size=ops.size)(h:Region.ready .any ops l=[]):∀ i,i<ops.size->jH l i:=by
 intro i
 induction i using Nat.strongRecOn with
 | _ i ih =>
   intro hi
   by_cases hl:jH l i
   ·exact hl
   ·exfalso
    have ho:=Array.getElem?_eq_getElem hi
    have:i∈Region.ready .any ops l:=EP.2 ⟨_,ho,by
     unfold jH at hl
     rw[ST (by omega)]
     simpa using hl,fun e he hb=>by
     have:=D.edge_lt ho he hb
     exact ih e.on this (by omega)⟩
    rw[h]at this;cases this
theorem aCR (D:Drawn P call base w0 fl n ops b T HH)(hfr0:∀ id,(HH 0).length<=id->id<(HH ops.size).length->ρ0 id=none){Q:Exit->Act->World->Prop}
 (hQ:∀ ρ' a' w',Inv base w0 fl n ops b T HH ρ0 wS (fun j=>j<ops.size) ρ' a' w'->Q .normal a' w') :
 ∀ (fuel:Nat) (l:Array Bool) (ρ:Ren) (a:Act) (w:World),l.size=ops.size->aAF ops l->(yV ops.size l).length=fuel->Inv base w0 fl n ops b T HH ρ0 wS (jH l) ρ a w ->
   wpAny P .any ops Q fuel l a w:=by
 have fin:∀ (l:Array Bool) (ρ:Ren) (a:Act) (w:World),l.size=ops.size->Inv base w0 fl n ops b T HH ρ0 wS (jH l) ρ a w->Region.ready .any ops l=[]->Q .normal a w:=by
  intro l ρ a w hsz I hr
  have hall:=aAq D hsz hr
  have hS:jH l=fun j=>j<ops.size:=funext fun j=>propext ⟨fun h=>by
   unfold jH at h
   rcases Nat.lt_or_ge j ops.size with h1|h1
   ·exact h1
   ·simp[Array.getD_eq_getD_getElem?,Array.getElem?_eq_none (show l.size<=j by omega)]at h,fun h=>hall j h⟩
  rw[hS]at I
  exact hQ ρ a w I
 intro fuel
 induction fuel with
 | zero =>
   intro l ρ a w hsz hc hn I
   have hr:Region.ready .any ops l=[]:=by
    cases hq:Region.ready .any ops l with
    | nil=>rfl
    | cons i r =>
      exfalso
      have hi:i∈Region.ready .any ops l:=by rw[hq];exact List.mem_cons_self ..
      obtain⟨o,ho,h1,_⟩:=EP.1 hi
      have:i∈yV ops.size l:=List.mem_filter.2 ⟨List.mem_range.2 (iU ho),by simp[h1]⟩
      rw[List.eq_nil_of_length_eq_zero hn]at this
      cases this
   exact⟨hr,fin l ρ a w hsz I hr⟩
 | succ fuel ih =>
   intro l ρ a w hsz hc hn I
   refine⟨fun hr=>fin l ρ a w hsz I hr,fun i hi => ?_⟩
   have hu:=aBy D hsz hc hi
   have hil:i<l.size:=by rw[hsz];exact hu.lt
   obtain⟨o,ho,h1,h2⟩:=EP.1 hi
   refine Inv.step D I hfr0 hu ho fun ρ' a' w' I'=>ih _ ρ' a' w' (by simpa using hsz) ?_ ?_ ?_
   ·intro j p hp hl e he hb
    rw[Q5 hil]at hl⊢
    rcases hl with hl|rfl
    ·exact .inl (hc j p hp hl e he hb)
    ·rw[ho]at hp;cases hp
     exact .inl (h2 e he hb)
   ·have hone:=NE (List.nodup_range (n:=ops.size)) (p:=fun i => !l.getD i true) (List.mem_range.2 hu.lt) (by simp[h1])
    have:yV ops.size (l.setIfInBounds i true)=(List.range ops.size).filter fun x => !l.getD x true&&x != i:=by
     unfold yV
     refine List.filter_congr fun x hx => ?_
     simp only[Array.getD_eq_getD_getElem?]
     by_cases h:x=i
     ·subst h;simp[hsz,hu.lt]
     ·rw[Array.getElem?_setIfInBounds_ne (fun e=>h e.symm)];simp[h]
    rw[this]
    unfold yV at hn
    omega
   ·have:(fun j=>jH l j\/j=i)=jH (l.setIfInBounds i true):=funext fun j=>propext (Q5 hil).symm
    rw[<- this];exact I'
theorem YE {t t':aC}{H H':aB}{Q:Exit->Act->World->Prop}(hcs:gW base w0 P call)(hck:fD call)(hbf:base<=fl)(hfl:fl<=H.length)(hok:∀ (i:Nat) o,ops[i]? = some o->mX n ops o=true)
 (S:Sim base w0 All ρ H w) (hfr:∀ id,H.length<=id->id<H'.length->ρ id=none) (hT:TRel n ρ t a) (hm:P.follows .mixedOrders=true) (id:Nat)
 (h:fZ P call fl ops true t H=some (t',H')) (hQ:∀ ρ' a' w',TRel n ρ' t' a'->Step base w0 All All fl ρ H w ρ' H' w'->Q .normal a' w'):(Code.region id ops true).wp P Q a w:=by
 unfold fZ at h
 simp only[if_true]at h
 split at h
 ·rename_i hst
  simp only[Bool.and_eq_true]at hst
  split at h
  ·rename_i t1 H1 hrun
   split at h
   ·rename_i hcl
    cases h
    obtain⟨T,HH,h1,h2,h3,h4,h5⟩:=XK _ _ _ _ _ _ hrun
    simp only[Nat.zero_add,Array.length_toList]at h3 h4 h5
    subst h1;subst h2
    have D:Drawn P call base w0 fl n ops (bK ops.toList #[]) T HH:=⟨rfl,hbf,hfl,hcs,hck,hok,hst.1,hst.2,by rw[h3];exact hcl,fun k o ho=>h5 k o (by simpa using ho)⟩
    have hfr0:∀ id,(HH 0).length<=id->id<(HH ops.size).length->ρ id=none:=by rw[h4];exact hfr
    refine wp_region_any hm ?_
    have I0:=Inv.start (wS:={ w with drawn:=w.drawn+1 }) D (S.heap rfl) hfr0 hT
    refine aCR (w0:=w0) (wS:={ w with drawn:=w.drawn+1 }) D hfr0 ?_ ops.size (Array.replicate ops.size false) ρ a _ (by simp) ?_ ?_ ?_
    ·intro ρ' a' w' I
     have syn:∀ id,JV fl ops (bK ops.toList #[]) T HH (fun j=>j<ops.size) id ops.size:=fun id j hj _=>⟨fun h=>h,fun h=>h⟩
     have live:∀ id,(blk? (HH ops.size) id).isSome=true->WJ fl ops (bK ops.toList #[]) T HH (fun j=>j<ops.size) id:=fun id hb=>⟨ops.size,Nat.le_refl _,syn id,hb⟩
     refine hQ ρ' a' w' ⟨I.size,I.defers,fun d hd => ?_⟩ ?_
     ·rw[<- h3]
      exact I.tmps d hd ops.size (Nat.le_refl _) fun j p hp _=>⟨fun h=>h,fun h=>h⟩
     ·rw[<- h4]
      refine⟨⟨I.base_le,I.old,I.dom,I.apart,fun id L B h hB=>I.stat ops.size (Nat.le_refl _) id L B h hB,fun id L B _ h hB=>I.cont ops.size (Nat.le_refl _) id L B h (syn id) hB,
       fun id id' L L' _ _ h h' hl hl' b1 b2 he=>I.inj id id' L L' h h' (live id hl) (live id' hl') b1 b2 he⟩,I.ext,fun id L h h' => ?_,fun i hi hno => ?_,I.grow,I.side,D.len (Nat.zero_le _) (Nat.le_refl _),fun i hi hk => ?_,fun i hi hb => ?_⟩
      ·obtain⟨⟨k,hk,_,k1,k2⟩,k3⟩:=I.new id L h h'
       have e1:=D.len (i:=0) (k:=k) (Nat.zero_le _) (by omega)
       have e2:=D.len (i:=k+1) (k:=ops.size) (by omega) (Nat.le_refl _)
       refine⟨by omega,by omega,?_⟩
       rcases k3 with k3|⟨id0,L0,f,e0,eb,al,nl⟩
       ·exact .inl k3
       ·refine .inr ⟨id0,L0,f,trivial,trivial,e0,eb,al,?_⟩
        cases hb:blk? (HH ops.size) id0 with
        | none=>rfl
        | some B=>exact absurd (live id0 (by rw[hb];rfl)) nl
      ·exact I.frame i hi fun id L f e al=>hno id L f trivial trivial e al
      ·refine D.keep (Nat.zero_le _) (Nat.le_refl _) hi fun j _ _ hw => ?_
       obtain⟨_,p,_,hw⟩:=hw
       rcases hk with hk|hk
       ·rcases hw with hw|hw <;> omega
       ·exact hk trivial
      ·cases hbb:blk? (HH ops.size) i with
       | none=>rw[hbb]at hb;cases hb
       | some B =>
         obtain⟨q1,q2⟩:=blk?_inv hbb
         obtain⟨B',r1,_,_,_,r5⟩:=D.stat (List.getElem?_eq_getElem hi) (Nat.zero_le _) (Nat.le_refl _)
         rw[q1]at r1;cases r1
         unfold blk?
         rw[List.getElem?_eq_getElem hi]
         simp[r5 q2]
    ·intro i o ho hl
     unfold jH at hl
     simp[Array.getD_eq_getD_getElem?,Array.getElem?_replicate]at hl
     split at hl <;> simp at hl
    ·unfold yV
     rw[List.filter_eq_self.2]
     ·simp
     ·intro i hi
      simp[Array.getD_eq_getD_getElem?,List.mem_range.1 hi]
    ·have:jH (Array.replicate ops.size false)=fun _=>False:=funext fun j=>propext ⟨fun h=>by
      unfold jH at h
      simp[Array.getD_eq_getD_getElem?,Array.getElem?_replicate]at h
      split at h <;> simp at h,fun h=>h.elim⟩
     rw[this];exact I0
   ·cases h
  ·cases h
 ·cases h
end
end Go.Mach
