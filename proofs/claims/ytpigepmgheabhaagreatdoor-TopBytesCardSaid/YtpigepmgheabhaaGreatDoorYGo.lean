/- Part of the proof. No condition. -/
import Derived.Test.YtpigepmgheabhaaGreatDoorYW
namespace Go.Mach
open IntKind (i8 i16 i32 i64 u8 u16 u32 u64)
def tl:List (Nat×Value)->aE->aE
 | [],u=>u
 | (d,v)::l,u=>xV (tl l u) d v
section
variable {P:Program} {fl:Nat} {t:aE} {H H1:aD} {Q:bE->aE->aD->Prop} {ops:Array Oper} {g:List Bool} {l:List Oper} {o:Oper} {K:aE->aD->Prop}
theorem R6 {id:Nat}{draw:Bool}(g:List Bool)(cl:List (Nat×Nat))(hd:(draw=true/\oE ops g cl=true)\/(draw=false/\g=ops.toList.map fun _=>true))
 (h:WDrawn P fl ops g ops.toList t H fun t' H'=>cl.all (dE ops t')=true/\Q .normal t' H'):W P fl (.region id ops draw) t H Q:=by
 rcases hd with⟨rfl,hok⟩|⟨rfl,rfl⟩
 ·exact aDd g cl hok h
 ·refine T7 ?_
  have:∀ (l:List Oper) (t:aE) (H:aD),WDrawn P fl ops (l.map fun _=>true) l t H (fun t' H'=>cl.all (dE ops t')=true/\Q .normal t' H')->WOps P fl ops l t H (Q .normal):=by
   intro l
   induction l with
   | nil=>intro t H h;exact h.2
   | cons o l ih =>
     intro t H h
     have h:WOp P fl fl ops o t H fun t' H'=>WDrawn P fl ops (l.map fun _=>true) l t' H' (fun t' H'=>cl.all (dE ops t')=true/\Q .normal t' H'):=h
     show WOp P fl fl ops o t H fun t' H'=>WOps P fl ops l t' H' (Q .normal)
     unfold WOp at h⊢
     split at h
     ·rename_i hw
      rw[aA hw]
      split at h
      ·exact ih _ _ h
      ·exact ih _ _ h
      ·exact h.mono fun v H' h=>ih _ _ h
      ·exact h.elim
     ·rename_i hw
      rw[aC hw];exact ih _ _ h
  exact this _ _ _ h
theorem aEh (h:K t H):WDrawn P fl ops g [] t H K:=by cases g <;> exact h
theorem aIP {v:Value}(hw:bS ops t o=true)(hp:aJ P fl o.op (eval t) H=some (.value v,H1))(h:WDrawn P fl ops g.tail l (lN t o.dst v) H1 K):WDrawn P fl ops g (o::l) t H K:=by
 show WOp P fl _ ops o t H _
 unfold WOp
 rw[aA hw]
 simp only[hp]
 exact h
theorem aEz {v:Value}(hw:bS ops t o=true)(hp:aJ P fl o.op (eval t) H=some (.value v,H))(h:WDrawn P fl ops g.tail l (lN t o.dst v) H K):WDrawn P fl ops g (o::l) t H K:=aIP hw hp h
theorem aGX (hw:bS ops t o=false)(h:WDrawn P fl ops g.tail l (lN t o.dst undef) H K):WDrawn P fl ops g (o::l) t H K:=by
 show WOp P fl _ ops o t H _
 unfold WOp
 rw[hw]
 exact h
theorem t8 {K':aE->aD->Prop}(hk:∀ t H,K t H->K' t H):∀ {g:List Bool} {l:List Oper} {t:aE} {H:aD},WDrawn P fl ops g l t H K->WDrawn P fl ops g l t H K':=by
 intro g l
 induction l generalizing g with
 | nil=>intro t H h;cases g <;> exact hk _ _ h
 | cons o l ih =>
   intro t H h
   have h:WOp P fl (if g.headD false then fl else H.length) ops o t H fun t' H'=>WDrawn P fl ops g.tail l t' H' K:=h
   show WOp P fl (if g.headD false then fl else H.length) ops o t H fun t' H'=>WDrawn P fl ops g.tail l t' H' K'
   unfold WOp at h⊢
   split at h
   ·rename_i hw
    rw[aA hw]
    split at h
    ·exact ih h
    ·exact ih h
    ·exact h.mono fun v H' h=>ih h
    ·exact h.elim
   ·rename_i hw
    rw[aC hw];exact ih h
theorem yB {ty:TypeId}{a:Operand}{p:Addr}{v:Value}(ha:eval t a = .pointer (some p))(hl:lD P ty H p=some v):aJ P fl (.load ty a) (eval t) H=some (.value v,H):=by
 simp only[aJ,ha,hl,Option.map_some]
theorem UF {ty e es eb:TypeId}{x ix:Operand}{b o n c:Nat}{k:IntKind}{i:Int}(hty:aTy P ty = .slice e es eb)(hx:eval t x = .slice (some ⟨b,o,none⟩) n c)(hi:eval t ix = .int k i)
 (h0:0<=i) (hn:i<n):aJ P fl (.indexAddr ty x ix) (eval t) H=some (.value (.pointer (some ⟨b,o+i.toNat*es,none⟩)),H):=by
 have:iL P ty (.slice (some ⟨b,o,none⟩) n c) (.int k i)=some (.pointer (some ⟨b,o+i.toNat*es,none⟩)):=by
  unfold iL
  rw[hty]
  simp only[h0,hn,and_self,aO]
  unfold Addr.add
  split
  ·rename_i h;simp[h]
  ·rfl
 simp only[aJ,hx,hi,this,Option.map_some]
end
theorem oJ (x:Int)(h1 : -9223372036854775808<=x:=by omega)(h2:x<=9223372036854775807:=by omega):i64.wrap x=x:=by
 simp only[IntKind.wrap,IntKind.bits,IntKind.signed]
 simp
 omega
end Go.Mach
