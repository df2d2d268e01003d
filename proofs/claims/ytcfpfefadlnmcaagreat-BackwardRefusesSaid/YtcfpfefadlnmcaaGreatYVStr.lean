/- Part of the proof. No condition. -/
import Derived.Test.YtcfpfefadlnmcaaGreatYVTold
import Derived.Test.YtcfpfefadlnmcaaGreatProg
namespace Go.Mach
open Go.Proofs
theorem aI5 {f:FuncId}(h3:(Tryz.prog.funcs[f]?.bind fun fn=>(bod fn).map fun c=>okF f fn c)=some false){fl:Nat}{args:Array Value}{H:aE}{r:Value×aE}(h:YS Tryz.prog fl f args H=some r) :
 yD Tryz.prog 1 fl f args H=some r:=by
 simp only[yD]
 cases h5:Tryz.prog.funcs[f]? with
 | none=>rw[h5]at h3;cases h3
 | some fn =>
   cases h6:bod fn with
   | none=>rw[h5]at h3;simp[h6]at h3
   | some c =>
     rw[h5]at h3
     simp only[Option.bind_some,h6,Option.map_some,iU]at h3
     simp only[h6,h3,Bool.false_and,eA,cB]
     exact h
theorem grow_snd (n:Int)(Q:List (Bool×List VV)->Prop)(hb:1<=n/\n<=1099511627776)(h:Q [(false,[.nw (.int .i64) []])]) :
 sD Tryz.prog aL6 [aL,.pl (.int .i64 n)] Q:=by
 intro F fl H az hF hfl ha
 cases ha with
 | cons h1 ht =>
 cases ht with
 | cons h2 ht =>
 cases ht
 obtain⟨rfl,_⟩:=h1
 obtain⟨rfl,_⟩:=h2
 have key:YS Tryz.prog fl aL6 #[.slice none 0 0,.int .i64 n] H=some (GX [Value.slice (some ⟨H.length,0,none⟩) 0 0],H++[⟨[],1,false,true⟩]):=by
  unfold YS
  show(if _ then _ else _)=_
  rw[aB ⟨rfl,hb⟩]
  rfl
 refine⟨1,_,_,aI5 (by kernel_rfl) key,_,h,.inl ⟨qJ (SP F H U1) (some H.length) (.lst true (.int .i64) [] false),[0],[Value.slice (some ⟨H.length,0,none⟩) 0 0],?_,?_,by simp,rfl⟩⟩
 ·exact(aHj F H U1 hF).addLst (ex:=false) (Pre.push _ _) (aJ _) (LQ H _ rfl) (RC.nil F _)
 ·refine(XS.one (is:=[0]) ?_ XS.nil).toZ
  exact XR.nw (T := .int .i64) (x:=[]) (i:=0) rfl XR.nil
end Go.Mach
