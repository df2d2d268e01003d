/- Part of the proof. No condition. -/
import Derived.Test.YtpigepmgheabhaaGreatDoorYVSt
namespace Go.Mach
set_option linter.unusedVariables false
section
variable {F0:Fz} {H0:Base} {c c':Ctx} {H H':aD}
theorem RSl.cells {F:Fz}{t:Ty}{ad:Option Addr}{k:Nat}{l:List t.den}(h:RSl F (RT F t) t.w ad k l) :
 l=[]\/∃ b o B,ad=some ⟨b,o,none⟩/\F b=some B/\(B.exact=true\/B.es=t.w)/\o+l.length*t.w<=B.cells.length/\RC F t l ((B.cells.drop o).take (l.length*t.w)):=by
 rcases h.at_ with rfl|⟨b,o,B,h1,h2,h3,h4⟩
 ·exact .inl rfl
 ·by_cases hl:l=[]
  ·exact .inl hl
  ·refine .inr ⟨b,o,B,h1,h2,h3,?_⟩
   have hpos:0<l.length:=List.length_pos_iff.2 hl
   have hlen:o+l.length*t.w<=B.cells.length:=by
    obtain⟨cs,⟨k1,_⟩,_⟩:=h4 (l.length-1) l[l.length-1] (aM (by omega))
    have:l.length*t.w=(l.length-1)*t.w+t.w:=by
     rw[<- Nat.succ_mul];congr 1;omega
    omega
   refine⟨hlen,?_,fun i x hx => ?_⟩
   ·rw[eI,oB];omega
   ·obtain⟨cs,⟨k1,k2⟩,k3⟩:=h4 i x hx
    have hi:=bB hx
    have hm:=uO t.w (show i+1<=l.length from hi)
    rw[fA,m8]at hm
    refine⟨cs,⟨by rw[eI,oB];omega,?_⟩,k3⟩
    rw[<- k2,List.drop_take,s7,List.take_take,xG (by omega)]
theorem RM {H:aD}{F:Fz}{t:Ty}{ad:Option Addr}{k n:Nat}{l:List t.den}(hF:∀ b B,F b=some B->blk? H b=some B)(h:RSl F (RT F t) t.w ad k l)(hn:n=l.length) :
 ∃ new,cU H t.w n (.slice ad n k)=some new/\RC F t l new:=by
 subst hn
 rcases h.cells with rfl|⟨b,o,B,rfl,h2,h3,h4,h5⟩
 ·refine⟨[],?_,RC.nil _ _⟩
  cases ad <;> simp[cU]
 ·refine⟨_,?_,h5⟩
  simp only[cU]
  split
  ·rename_i h0;rw[h0];simp
  ·simp only[fC,hF b B h2]
   rw[aA ⟨h4,h5.good.1⟩]
theorem E3 {H:aD}{F:Fz}{t:Ty}{a:Option Nat}{k n:Nat}{l:List t.den}(hn0:a=none->l=[])(h:∀ b,a=some b->∃ azz ex,blk? H b=some ⟨azz,t.w,ex,true⟩/\RC F t l azz)(hn:n=l.length) :
 ∃ new,cU H t.w n (.slice (a.map fun b=>⟨b,0,none⟩) n k)=some new/\RC F t l new:=by
 subst hn
 cases a with
 | none=>rw[hn0 rfl];exact⟨[],by simp[cU],RC.nil _ _⟩
 | some b =>
   obtain⟨azz,ex,h1,h2⟩:=h b rfl
   refine⟨azz,?_,h2⟩
   simp only[Option.map_some,cU]
   split
   ·rename_i h0
    have:azz.length=0:=by rw[h2.1,h0]
    rw[List.length_eq_zero_iff.1 this]
   ·simp only[fC,h1]
    have e:(azz.drop 0).take (l.length*t.w)=azz:=by rw[<- h2.1];simp
    rw[e,aA ⟨by rw[<- h2.1];simp,h2.good.1⟩]
theorem aAl {fl es b:Nat}{azz:List Value}{ex:Bool}(hb:blk? H b=some ⟨azz,es,ex,true⟩)(hfl:fl<=b) :
 ∃ H',nO fl H es (some ⟨b,0,none⟩)=some H'/\H'.length=H.length/\∀ j:Nat,j≠b->H'[j]? = H[j]? := by
 have h1:H[b]? = some ⟨azz,es,ex,true⟩:=by
  unfold blk? at hb
  cases e:H[b]? with
  | none=>simp[e]at hb
  | some C=>grind
 cases ex with
 | true=>exact⟨H,by simp only[nO,h1,aO],rfl,fun _ _=>rfl⟩
 | false =>
   refine⟨H.set b ⟨azz,es,false,false⟩,?_,by simp,fun j hj=>dK (fun e=>hj e.symm)⟩
   simp only[nO,h1]
   grind
theorem Ok.kill (h:Ok F0 H0 c H){i:Nat}{q:Bool}{t:Ty}{l:List t.den}(hi:c.h[i]? = some (.lst q t l false))(x:Bool)(hl:H'.length=H.length)(hg:∀ j:Nat,c.ρ i≠some j->H'[j]? = H[j]?):Ok F0 H0 (kU c i (.dead x)) H':=by
 have ok:=h.obj i _ hi
 have hle:Le c (kU c i (.dead x)):=pS hi trivial
 have hFi:∀ b,c.ρ i=some b->c.F b=none:=fun b e=>by
  obtain⟨azz,ex,_,_,_,k⟩:=(ok.lst _ _ _ _ rfl).2 b e
  exact k rfl
 have hbk:∀ b B,c.ρ i≠some b->blk? H b=some B->blk? H' b=some B:=fun b B hne hB=>by
  unfold blk? at hB⊢
  rw[hg b hne];exact hB
 exact {
  n0:=h.n0
  pre:=⟨by rw[hl];exact h.pre.len,fun b hb=>by
   rw[hg b (fun e=>by have:=(h.blk e).1;rw[h.n0,hb]at this;cases this)]
   exact h.pre.get b hb⟩
  fz:=fun b B e=>hbk b B (fun e'=>by have e:c.F b=some B:=e;rw[hFi b e']at e;cases e) (h.fz b B e)
  low:=h.low
  obj:=fun j p hj=>by
   rcases w6 hj with⟨rfl,rfl⟩|⟨hne,h1⟩
   ·exact { lo:=fun b e=>(by rw[hl];exact ok.lo b e),box:=fun _ _ e=>(by cases e),lst:=fun _ _ _ _ e=>(by cases e),dead:=fun b e e'=>hFi b e' }
   ·by_cases hpd:p = .dead false
    ·subst hpd
     exact { lo:=fun b' e=>(by rw[hl];exact(h.obj j _ h1).lo b' e),box:=fun _ _ e=>(by cases e),lst:=fun _ _ _ _ e=>(by cases e),dead:=fun _ e=>(by cases e) }
    ·refine(h.obj j p h1).mono hle rfl (fun _ _=>rfl) (fun b' B e hB=>hbk b' B (fun e' => ?_) hB) (by rw[hl];exact aF _)
     exact h.other hi (by intro e;cases e) hne e' e (by rw[h1];intro e;cases e;exact hpd rfl) rfl
  inj:=fun j k b' hjk hj hk=>by
   show(c.h.set i _)[j]? = _\/(c.h.set i _)[k]? = _
   rcases h.inj j k b' hjk hj hk with e|e
   ·left
    by_cases hji:i=j
    ·subst hji;rw[hi]at e;cases e
    ·rw[dK hji];exact e
   ·right
    by_cases hki:i=k
    ·subst hki;rw[hi]at e;cases e
    ·rw[dK hki];exact e
  bj:=h.bj.set hi (fun e=>by cases e)
  dom:=fun j hj=>h.dom j (by have:(c.h.set i (.dead x)).length<=j:=hj;simpa using this) }
theorem Ok.append (h:Ok F0 H0 c H){P:Program}{fl:Nat}(hfl:Fl fl H0){i:Nat}{q q2:Bool}{t:Ty}{l l2:List t.den}(hi:c.h[i]? = some (.lst q t l false)){e eb:Nat}{x:Value}{new:List Value}
 (hx:cU H t.w l2.length x=some new) (hn:RC (cA q2 c.n0 c.F) t l2 new) (hz:(cS P e).map List.length=some t.w) (hb:(l.length+l2.length)*eb<=140737488355328) (heb:0<eb) :
 ∃ a' H',gF P fl e t.w eb ((c.ρ i).map fun b=>⟨b,0,none⟩) l.length l.length l2.length x H=some (sl a' (l.length+l2.length),H') /\
   Ok F0 H0 (mI (kU c i (.dead (kM l2))) a' (.lst (q&&q2) t (l++l2) false)) H':=by
 have ok:=h.obj i _ hi
 have e47:2 ^ 47=140737488355328:=by decide
 have hcut1:(cA q c.n0 c.F).ext (cA (q&&q2) c.n0 c.F):=by
  intro b B hb
  unfold cA at hb⊢
  split at hb
  ·cases hb
  ·rename_i hh;rw[aC (by intro ⟨h1,h2⟩;exact hh ⟨by cases q <;> simp_all,h2⟩)];exact hb
 have hcut2:(cA q2 c.n0 c.F).ext (cA (q&&q2) c.n0 c.F):=by
  intro b B hb
  unfold cA at hb⊢
  split at hb
  ·cases hb
  ·rename_i hh;rw[aC (by intro ⟨h1,h2⟩;exact hh ⟨by cases q <;> cases q2 <;> simp_all,h2⟩)];exact hb
 unfold gF
 simp only[hx]
 by_cases hm0:l2=[]
 ·subst hm0
  have hnew:new=[]:=List.length_eq_zero_iff.1 (by rw[hn.1];simp)
  subst hnew
  refine⟨c.ρ i,H,?_,?_⟩
  ·rw[aA (by simp)]
   cases hρ:c.ρ i with
   | none=>rfl
   | some b=>simp[storeAt,sl]
  ·rw[bJ]
   have hk:=h.kill (H':=H) hi (kM ([]:List t.den)) rfl (fun _ _=>rfl)
   have hle:=gT (c:=kU c i (.dead (kM ([]:List t.den)))) (c.ρ i) (.lst (q&&q2) t l false)
   have hlen:(kU c i (.dead (kM ([]:List t.den)))).h.length=c.h.length:=by simp[kU]
   exact {
    n0:=h.n0,pre:=h.pre,fz:=h.fz,low:=h.low
    obj:=fun j p hj=>by
     rcases J4 hj with⟨rfl,rfl⟩|h1
     ·exact {
       lo:=fun b e=>by rw[addC_ρ]at e;exact ok.lo b e
       box:=fun _ _ e=>by cases e
       lst:=fun q' t' l' fr' e=>by
        cases e
        rw[addC_ρ]
        refine⟨(ok.lst _ _ _ _ rfl).1,fun b e => ?_⟩
        obtain⟨azz,ex,k1,k2,k3,k4⟩:=(ok.lst _ _ _ _ rfl).2 b e
        exact⟨azz,ex,k1,k2.mono hcut1,fun e=>(by cases e),fun _=>k4 rfl⟩
       dead:=fun b e=>by cases e }
     ·exact(hk.obj j p h1).mono hle (hle.ρ j (bB h1)) (fun _ _=>rfl) (fun _ _ _ hB=>hB) (aF _)
    inj:=fun j k b' hjk hj hk'=>by
     show((kU c i _).h++[_])[j]? = _\/((kU c i _).h++[_])[k]? = _
     have hj:(if j=(kU c i (.dead (kM ([]:List t.den)))).h.length then c.ρ i else c.ρ j)=some b':=hj
     have hk':(if k=(kU c i (.dead (kM ([]:List t.den)))).h.length then c.ρ i else c.ρ k)=some b':=hk'
     have hdi:∀ y:VO,((kU c i (.dead (kM ([]:List t.den)))).h++[y])[i]? = some (.dead false):=fun y=>by
      rw[dL (by rw[hlen];exact bB hi)]
      show(c.h.set i _)[i]? = _
      rw[gQ (bB hi)];rfl
     have hot:∀ j:Nat,∀ y:VO,j≠(kU c i (.dead (kM ([]:List t.den)))).h.length->c.ρ j=some b'->c.ρ i=some b'->((kU c i (.dead (kM ([]:List t.den)))).h++[y])[j]? = some (.dead false):=fun j y hj e e'=>by
      by_cases hji:j=i
      ·subst hji;exact hdi y
      ·rcases h.inj j i b' hji e e' with k|k
       ·rw[dL (by rw[hlen];exact bB k)]
        show(c.h.set i _)[j]? = _
        rw[dK (fun e=>hji e.symm)];exact k
       ·rw[hi]at k;cases k
     split at hj
     ·split at hk'
      ·omega
      ·exact .inr (hot k _ (by assumption) hk' hj)
     ·split at hk'
      ·exact .inl (hot j _ (by assumption) hj hk')
      ·rcases hk.inj j k b' hjk hj hk' with e|e
       ·left;rw[dL (bB e)];exact e
       ·right;rw[dL (bB e)];exact e
    bj:=hk.bj.twin (i:=i) (o := .dead (kM ([]:List t.den))) (by show(c.h.set i _)[i]? = _;rw[gQ (bB hi)]) rfl rfl
    dom:=fun j hj=>by
     have hj:((kU c i (.dead (kM ([]:List t.den)))).h++[_]).length<=j:=hj
     rw[aR,hlen]at hj
     simp at hj
     show(if j=(kU c i _).h.length then _ else c.ρ j)=none
     rw[aC (by rw[hlen];omega)]
     exact h.dom j (by omega) }
 ·have hpos:0<l2.length:=List.length_pos_iff.2 hm0
  have hcnt:l.length+l2.length<=140737488355328:=by
   have:=Nat.le_mul_of_pos_right (l.length+l2.length) heb
   omega
  rw[aC (by omega),aA ⟨by rw[e47];exact hb,by rw[e47];exact hcnt,hn.good.2,hz⟩]
  obtain⟨old,ho1,ho2⟩:=E3 (H:=H) (F:=cA q c.n0 c.F) (a:=c.ρ i) (k:=l.length) (n:=l.length) (l:=l) (ok.lst _ _ _ _ rfl).1 (fun b e=>by
   obtain⟨azz,ex,k1,k2,_⟩:=(ok.lst _ _ _ _ rfl).2 b e
   exact⟨azz,ex,k1,k2⟩) rfl
  rw[ho1]
  have hkill:∃ H',nO fl H t.w ((c.ρ i).map fun b=>⟨b,0,none⟩)=some H'/\H'.length=H.length/\∀ j:Nat,c.ρ i≠some j->H'[j]? = H[j]? := by
   cases hρ:c.ρ i with
   | none=>exact⟨H,rfl,rfl,fun _ _=>rfl⟩
   | some b =>
     obtain⟨azz,ex,k1,_⟩:=(ok.lst _ _ _ _ rfl).2 b hρ
     obtain⟨H',g1,g2,g3⟩:=aAl (fl:=fl) k1 (h.fl hfl hρ)
     exact⟨H',g1,g2,fun j hj=>g3 j (fun e=>hj (by rw[e]))⟩
  obtain⟨H',g1,g2,g3⟩:=hkill
  simp only[g1]
  have hk:=h.kill (H':=H') hi (kM l2) g2 g3
  refine⟨some H'.length,H'++[⟨old++new,t.w,false,true⟩],rfl,?_⟩
  exact hk.addLst (ex:=false) (Pre.push _ _) (aF _) (rY H' _ rfl) ((ho2.mono hcut1).app (hn.mono hcut2))
theorem Ok.append0 (h:Ok F0 H0 c H){P:Program}{fl:Nat}{q2:Bool}{t:Ty}{l2:List t.den}{e eb:Nat}{x:Value}{new:List Value}
 (hx:cU H t.w l2.length x=some new) (hn:RC (cA q2 c.n0 c.F) t l2 new) (hz:(cS P e).map List.length=some t.w) (hb:l2.length*eb<=140737488355328) (heb:0<eb) :
 ∃ a' H',gF P fl e t.w eb none 0 0 l2.length x H=some (sl a' l2.length,H')/\Ok F0 H0 (mI c a' (.lst q2 t l2 false)) H':=by
 have e47:2 ^ 47=140737488355328:=by decide
 unfold gF
 simp only[hx]
 by_cases hm0:l2=[]
 ·subst hm0
  exact⟨none,H,by simp[sl],h.addNil q2 t (Pre.refl H)⟩
 ·have hpos:0<l2.length:=List.length_pos_iff.2 hm0
  have hcnt:l2.length<=140737488355328:=by
   have:=Nat.le_mul_of_pos_right l2.length heb
   omega
  rw[aC (by omega),aA ⟨by rw[e47,e9];exact hb,by rw[e47];omega,hn.good.2,hz⟩]
  simp only[cU,nO,aO,List.nil_append,e9]
  exact⟨some H.length,_,rfl,h.addLst (ex:=false) (Pre.push _ _) (aF _) (rY H _ rfl) hn⟩
end
end Go.Mach
