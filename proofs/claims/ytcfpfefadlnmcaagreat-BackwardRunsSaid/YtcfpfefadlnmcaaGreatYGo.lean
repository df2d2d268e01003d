/- Part of the proof. No condition. -/
import Derived.Test.YtcfpfefadlnmcaaGreatYW
namespace Go.Mach
open IntKind (i8 i16 i32 i64 u8 u16 u32 u64)
section
variable {P:Program} {fl:Nat} {t:aJ} {H H1:aE} {Q:f9->aJ->aE->Prop} {ops:Array Oper} {g:List Bool} {l:List Oper} {o:Oper} {K:aJ->aE->Prop}
theorem aFb {id:Nat}{draw:Bool}(g:List Bool)(cl:List (Nat×Nat))(hd:(draw=true/\A2 ops g cl=true)\/(draw=false/\g=ops.toList.map fun _=>true))
 (h:WDrawn P fl ops g ops.toList t H fun t' H'=>cl.all (nW ops t')=true/\Q .normal t' H'):W P fl (.region id ops draw) t H Q:=by
 rcases hd with⟨rfl,hok⟩|⟨rfl,rfl⟩
 ·exact aLf g cl hok h
 ·refine aKB ?_
  have:∀ (l:List Oper) (t:aJ) (H:aE),WDrawn P fl ops (l.map fun _=>true) l t H (fun t' H'=>cl.all (nW ops t')=true/\Q .normal t' H')->WOps P fl ops l t H (Q .normal):=by
   intro l
   induction l with
   | nil=>intro t H h;exact h.2
   | cons o l ih =>
     intro t H h
     have h:WOp P fl fl ops o t H fun t' H'=>WDrawn P fl ops (l.map fun _=>true) l t' H' (fun t' H'=>cl.all (nW ops t')=true/\Q .normal t' H'):=h
     show WOp P fl fl ops o t H fun t' H'=>WOps P fl ops l t' H' (Q .normal)
     unfold WOp at h⊢
     split at h
     ·rename_i hw
      rw[aB hw]
      split at h
      ·exact ih _ _ h
      ·exact ih _ _ h
      ·exact h.mono fun v H' h=>ih _ _ h
      ·exact h.elim
     ·rename_i hw
      rw[aA hw];exact ih _ _ h
  exact this _ _ _ h
theorem aLz (h:K t H):WDrawn P fl ops g [] t H K:=by cases g <;> exact h
theorem aOv {v:Value}(hw:gN ops t o=true)(hp:bX P fl o.op (eval t) H=some (.value v,H1))(h:WDrawn P fl ops g.tail l (C6 t o.dst v) H1 K):WDrawn P fl ops g (o::l) t H K:=by
 show WOp P fl _ ops o t H _
 unfold WOp
 rw[aB hw]
 simp only[hp]
 exact h
theorem aMu {v:Value}(hw:gN ops t o=true)(hp:bX P fl o.op (eval t) H=some (.value v,H))(h:WDrawn P fl ops g.tail l (C6 t o.dst v) H K):WDrawn P fl ops g (o::l) t H K:=aOv hw hp h
theorem aNn (hw:gN ops t o=false)(h:WDrawn P fl ops g.tail l (C6 t o.dst undef) H K):WDrawn P fl ops g (o::l) t H K:=by
 show WOp P fl _ ops o t H _
 unfold WOp
 rw[hw]
 exact h
theorem KX {K':aJ->aE->Prop}(hk:∀ t H,K t H->K' t H):∀ {g:List Bool} {l:List Oper} {t:aJ} {H:aE},WDrawn P fl ops g l t H K->WDrawn P fl ops g l t H K':=by
 intro g l
 induction l generalizing g with
 | nil=>intro t H h;cases g <;> exact hk _ _ h
 | cons o l ih =>
   intro t H h
   have h:WOp P fl (if g.headD false then fl else H.length) ops o t H fun t' H'=>WDrawn P fl ops g.tail l t' H' K:=h
   show WOp P fl (if g.headD false then fl else H.length) ops o t H fun t' H'=>WDrawn P fl ops g.tail l t' H' K'
   unfold WOp at h⊢
   split at h
   ·rename_i hw
    rw[aB hw]
    split at h
    ·exact ih h
    ·exact ih h
    ·exact h.mono fun v H' h=>ih h
    ·exact h.elim
   ·rename_i hw
    rw[aA hw];exact ih h
theorem QA {ty:TypeId}{a:Operand}{p:Addr}{v:Value}(ha:eval t a = .pointer (some p))(hl:Q5 P ty H p=some v):bX P fl (.load ty a) (eval t) H=some (.value v,H):=by
 simp only[bX,ha,hl,Option.map_some]
theorem aHN {ty e es eb:TypeId}{x ix:Operand}{b o n c:Nat}{k:IntKind}{i:Int}(hty:aTy P ty = .slice e es eb)(hx:eval t x = .slice (some ⟨b,o,none⟩) n c)(hi:eval t ix = .int k i)
 (h0:0<=i) (hn:i<n):bX P fl (.indexAddr ty x ix) (eval t) H=some (.value (.pointer (some ⟨b,o+i.toNat*es,none⟩)),H):=by
 have:xC P ty (.slice (some ⟨b,o,none⟩) n c) (.int k i)=some (.pointer (some ⟨b,o+i.toNat*es,none⟩)):=by
  unfold xC
  rw[hty]
  simp only[h0,hn,and_self,bS]
  unfold Addr.add
  split
  ·rename_i h;simp[h]
  ·rfl
 simp only[bX,hx,hi,this,Option.map_some]
end
theorem aC (x:Int)(h1 : -9223372036854775808<=x:=by omega)(h2:x<=9223372036854775807:=by omega):i64.wrap x=x:=by
 simp only[IntKind.wrap,IntKind.bits,IntKind.signed]
 simp
 omega
theorem tO (x:Int)(h1 : -2147483648<=x:=by omega)(h2:x<=2147483647:=by omega):i32.wrap x=x:=by
 simp only[IntKind.wrap,IntKind.bits,IntKind.signed]
 simp
 omega
theorem aLe (x:Int)(h1:0<=x)(h2:x<=255):u8.wrap x=x:=by
 simp only[IntKind.wrap,IntKind.bits,IntKind.signed]
 simp
 omega
theorem p7 (x:Int)(h1:0<=x:=by omega)(h2:x<=18446744073709551615:=by omega):u64.wrap x=x:=by
 simp only[IntKind.wrap,IntKind.bits,IntKind.signed]
 simp
 omega
end Go.Mach
