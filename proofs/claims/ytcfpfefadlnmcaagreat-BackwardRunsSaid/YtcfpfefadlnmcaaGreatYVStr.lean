/- Part of the proof. No condition. -/
import Derived.Test.YtcfpfefadlnmcaaGreatYVTold
import Derived.Test.YtcfpfefadlnmcaaGreatProg
namespace Go.Mach
open Go.Proofs
theorem aIR {f:FuncId}(h3:(Tryz.prog.funcs[f]?.bind fun fn=>(bod fn).map fun c=>okF f fn c)=some false){fl:Nat}{args:Array Value}{H:aE}{r:Value×aE}(h:YJ Tryz.prog fl f args H=some r) :
 xM Tryz.prog 1 fl f args H=some r:=by
 simp only[xM]
 cases h5:Tryz.prog.funcs[f]? with
 | none=>rw[h5]at h3;cases h3
 | some fn =>
   cases h6:bod fn with
   | none=>rw[h5]at h3;simp[h6]at h3
   | some c =>
     rw[h5]at h3
     simp only[Option.bind_some,h6,Option.map_some,iJ]at h3
     simp only[h6,h3,Bool.false_and,eW,cN]
     exact h
theorem grow_snd (n:Int)(Q:List (Bool×List VV)->Prop)(hb:1<=n/\n<=1099511627776)(h:Q [(false,[.nw (.int .i64) []])]) :
 rX Tryz.prog aLB [aK,.pl (.int .i64 n)] Q:=by
 intro F fl H az hF hfl ha
 cases ha with
 | cons h1 ht =>
 cases ht with
 | cons h2 ht =>
 cases ht
 obtain⟨rfl,_⟩:=h1
 obtain⟨rfl,_⟩:=h2
 have key:YJ Tryz.prog fl aLB #[.slice none 0 0,.int .i64 n] H=some (F1 [Value.slice (some ⟨H.length,0,none⟩) 0 0],H++[⟨[],1,false,true⟩]):=by
  unfold YJ
  show(if _ then _ else _)=_
  rw[aB ⟨rfl,hb⟩]
  rfl
 refine⟨1,_,_,aIR (by kernel_rfl) key,_,h,.inl ⟨qG (SZ F H VN) (some H.length) (.lst true (.int .i64) [] false),[0],[Value.slice (some ⟨H.length,0,none⟩) 0 0],?_,?_,by simp,rfl⟩⟩
 ·exact(aIG F H VN hF).addLst (ex:=false) (Pre.push _ _) (aR _) (J0 H _ rfl) (RC.nil F _)
 ·refine(XS.one (is:=[0]) ?_ XS.nil).toZ
  exact XR.nw (T := .int .i64) (x:=[]) (i:=0) rfl XR.nil
end Go.Mach
