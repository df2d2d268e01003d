/- Part of the proof. No condition. -/
import Derived.Test.YtcfpfefadlnmcaaGreatYVTold
import Derived.Test.YtcfpfefadlnmcaaGreatProg
namespace Go.Mach
open Go.Proofs
theorem aBh {f:FuncId}(h3:(Tryz.prog.funcs[f]?.bind fun fn=>(bod fn).map fun c=>okF f fn c)=some false){fl:Nat}{args:Array Value}{H:aB}{r:Value×aB}(h:NJ Tryz.prog fl f args H=some r) :
 qC Tryz.prog 1 fl f args H=some r:=by
 simp only[qC]
 cases h5:Tryz.prog.funcs[f]? with
 | none=>rw[h5]at h3;cases h3
 | some fn =>
   cases h6:bod fn with
   | none=>rw[h5]at h3;simp[h6]at h3
   | some c =>
     rw[h5]at h3
     simp only[Option.bind_some,h6,Option.map_some,Option.some.injEq]at h3
     simp only[h6,h3,Bool.false_and,Bool.false_eq_true,if_false]
     exact h
theorem grow_snd (n:Int)(Q:List (Bool×List VV)->Prop)(hb:1<=n/\n<=1099511627776)(h:Q [(false,[.nw (.int .i64) []])]) :
 mS Tryz.prog aEg [.pl (.slice none 0 0),.pl (.int .i64 n)] Q:=by
 intro F fl H az hF hfl ha
 cases ha with
 | cons h1 ht =>
 cases ht with
 | cons h2 ht =>
 cases ht
 obtain⟨rfl,_⟩:=h1
 obtain⟨rfl,_⟩:=h2
 have key:NJ Tryz.prog fl aEg #[.slice none 0 0,.int .i64 n] H=some (xC [Value.slice (some ⟨H.length,0,none⟩) 0 0],H++[⟨[],1,false,true⟩]):=by
  unfold NJ
  show(if _ then _ else _)=_
  rw[if_pos ⟨rfl,hb⟩]
  rfl
 refine⟨1,_,_,aBh (by kernel_rfl) key,_,h,.inl ⟨mD (GW F H LD) (some H.length) (.lst true (.int .i64) [] false),[0],[Value.slice (some ⟨H.length,0,none⟩) 0 0],?_,?_,by simp,rfl⟩⟩
 ·exact(aB2 F H LD hF).addLst (ex:=false) (Pre.push _ _) (Nat.le_refl _) (BD H _ rfl) (RC.nil F _)
 ·refine(XS.one (is:=[0]) ?_ XS.nil).toZ
  exact XR.nw (T := .int .i64) (x:=[]) (i:=0) rfl XR.nil
end Go.Mach
