/- Part of the proof. No condition. -/
import Derived.Test.YtcfpfefadlnmcaaGreatZ36
import Derived.Test.YtcfpfefadlnmcaaGreatProg
import Derived.KernelRfl
import Derived.Test.YtcfpfefadlnmcaaGreatYVJoin
import GoSem.Core.Float
import Derived.Laws.ComplexArith
import Derived.Test.YtcfpfefadlnmcaaGreatYVArg
namespace Go.Proofs.YtcfpfefadlnmcaaGreat
open Go.Mach
set_option maxRecDepth 100000
set_option linter.unusedVariables false
noncomputable section
def lW (x0 x1 x2:Int) (x5 x8:List Int) (x9 x11:Int) (K0:Int->Prop) (s:Int×Int) (nx:(Int×Int)->Prop):Prop :=
 if (decide (s.2<x11))=true then ck ((0:Int)<=(IntKind.i64.wrap ((IntKind.i64.wrap (x0*x2))+s.2))/\(IntKind.i64.wrap ((IntKind.i64.wrap (x0*x2))+s.2))<(x5.length:Int)) (ck ((0:Int)<=(IntKind.i64.wrap ((IntKind.i64.wrap (s.2*x9))+x1))/\(IntKind.i64.wrap ((IntKind.i64.wrap (s.2*x9))+x1))<(x8.length:Int)) (nx (IntKind.i64.wrap (s.1+(IntKind.i64.wrap ((IntKind.i64.wrap (x5.getD ((IntKind.i64.wrap ((IntKind.i64.wrap (x0*x2))+s.2)).toNat) 0))*(IntKind.i64.wrap (x8.getD ((IntKind.i64.wrap ((IntKind.i64.wrap (s.2*x9))+x1)).toNat) 0))))),IntKind.i64.wrap (s.2+1)))) else K0 s.1
structure yX (x0 x1 x2:Int) (x5 x8:List Int) (x9 x11:Int) (K0:Int->Prop) (s:Int×Int):Prop where
 it:Go.Mach.Loop (lW x0 x1 x2 x5 x8 x9 x11 K0) s
structure sQ (a0 a1 a2:Int) (a3:List Int) (a4:Int) (a5 a6:List Int) (a7:Int) (a8:List Int) (a9:Int) (Q:Int->Prop):Prop where
 it:yX a0 a1 a2 a5 a8 a9 a2 (fun y1=>Q y1) (0,0)
def JQ:Ent:=⟨[0,1,2,3,4,5,9,11,12],[sI,sI,.bx [lI],.bx [lZ (.int .i64),lI,lZ (.int .i8)],.bx [lZ (.int .i64),lI,lZ (.int .i8)],.bx [lI],sI,sI,sI],[],fun ⟨⟨a,b,⟨c,_⟩,⟨_,_,f,_⟩,⟨_,_,j,_⟩,⟨l,_⟩,m,n,o,_⟩,_⟩ k=>yX a b c f j l n (fun y2=>k (.exit 0) ⟨[(9,vI y2)],[]⟩) (m,o)⟩
def ND:=CQ.put tt 179 Tryz.func179 [8] [] [(58,JQ)] [sI,sI,.bx [lI],.bx [lZ (.int .i64),lI,lZ (.int .i8)],.bx [lZ (.int .i64),lI,lZ (.int .i8)],.bx [lI]] [] [(false,(.int .i64))] (fun x=>sQ x.1 x.2.1 x.2.2.1.1 x.2.2.2.1.1 x.2.2.2.1.2.1 x.2.2.2.1.2.2.1 x.2.2.2.2.1.1 x.2.2.2.2.1.2.1 x.2.2.2.2.1.2.2.1 x.2.2.2.2.2.1.1) ⟨fun _ _ hs ⟨⟨a,b,⟨c,_⟩,⟨d,e,f,_⟩,⟨g,i,j,_⟩,⟨l,_⟩,m,n,o,_⟩,_⟩ _ h=>aD hs (fun y=>⟨⟨a,b,⟨c,()⟩,⟨d,e,f,()⟩,⟨g,i,j,()⟩,⟨l,()⟩,y.1,n,y.2,()⟩,()⟩) (m,o) h.it,trivial⟩ fun _ _ h=>⟨_,h.it,by kernel_rfl⟩
def fW (x1:Int) (x2:List Int) (x3:Int) (x4 x5:List Int) (x6:Int) (x7:List Int) (x8 x9 x12:Int) (K0:(List Int)->Prop) (s:Int×List Int) (nx:(Int×List Int)->Prop):Prop :=
 if (decide (s.1<x12))=true then sQ x9 s.1 x1 x2 x3 x4 x5 x6 x7 x8 (fun r6=>ck ((s.2.length+[IntKind.i32.wrap r6].length)*4<=140737488355328) (nx (IntKind.i64.wrap (s.1+1),s.2++[IntKind.i32.wrap r6]))) else K0 s.2
structure l0 (x1:Int) (x2:List Int) (x3:Int) (x4 x5:List Int) (x6:Int) (x7:List Int) (x8 x9 x12:Int) (K0:(List Int)->Prop) (s:Int×List Int):Prop where
 it:Go.Mach.Loop (fW x1 x2 x3 x4 x5 x6 x7 x8 x9 x12 K0) s
def dP (x0 x1:Int) (x2:List Int) (x3:Int) (x4 x5:List Int) (x6:Int) (x7:List Int) (x8 x9:Int) (K0:(List Int)->Prop) (s:Int×List Int) (nx:(Int×List Int)->Prop):Prop :=
 if (decide (s.1<x9))=true then l0 x1 x2 x3 x4 x5 x6 x7 x8 s.1 x0 (fun y6=>nx (IntKind.i64.wrap (s.1+1),y6)) (0,s.2) else K0 s.2
structure lX (x0 x1:Int) (x2:List Int) (x3:Int) (x4 x5:List Int) (x6:Int) (x7:List Int) (x8 x9:Int) (K0:(List Int)->Prop) (s:Int×List Int):Prop where
 it:Go.Mach.Loop (dP x0 x1 x2 x3 x4 x5 x6 x7 x8 x9 K0) s
structure jH (a0 a1 a2 a3 a4:Int) (a5:List Int) (a6:Int) (a7 a8:List Int) (a9:Int) (a10:List Int) (a11:Int) (Q:(uN×Int)->Prop):Prop where
 it:pU a2 (fun r1=>if (((!r1)||(decide (128<a3)))||(decide (a3<(-128))))=true then Q ((([]:List Int),(0,([]:List Int))),3) else gB [a0,a1] (fun r2=>if (!r2)=true then Q ((([]:List Int),(0,([]:List Int))),1) else lX a1 a4 a5 a6 a7 a8 a9 a10 a11 a0 (fun y7=>Q (([a0,a1],(a3,y7)),0)) (0,([]:List Int))))
def tX:Ent:=⟨[1,4,10,12,39,40],[sI,.fn 179 [.bx [lI],.bx [lZ (.int .i64),lI,lZ (.int .i8)],.bx [lZ (.int .i64),lI,lZ (.int .i8)],.bx [lI]],sC (.ptr 0 0),sC (.ptr 1 0),sI,sI],[.box [.cst (.pl (.slice none 0 0)),lI,.cst (.pl (.slice none 0 0))] false,.box [.cst (.own 2),lI,.cst (.pl (.slice none 0 0))] false,.lst true (.int .i64) false],fun ⟨⟨a,⟨⟨b,_⟩,⟨c,d,e,_⟩,⟨f,g,i,_⟩,⟨j,_⟩,_⟩,_,_,l,m,_⟩,⟨⟨_,n,_⟩,⟨_,o,_⟩,p,_⟩⟩ k=>lX a b c d e f g i j l (fun y8=>k (.exit 1) ⟨[(10,.ptr 0 0),(12,.ptr 1 0)],[.box [.pl (.slice none 0 0),vI n,.pl (.slice none 0 0)] false,.box [.own 2,vI o,.own 3] false,.lst true (.int .i64) p false,.lst true (.int .i32) y8 false]⟩) (m,([]:List Int))⟩
def uA:Ent:=⟨[1,4,10,12,13,39,40,43,44],[sI,.fn 179 [.bx [lI],.bx [lZ (.int .i64),lI,lZ (.int .i8)],.bx [lZ (.int .i64),lI,lZ (.int .i8)],.bx [lI]],sC (.ptr 0 0),sC (.ptr 1 0),sI,sI,sI,sI,sI],[.box [.cst (.pl (.slice none 0 0)),lI,.cst (.pl (.slice none 0 0))] false,.box [.cst (.own 2),lI,.cst (.own 3)] false,.lst true (.int .i64) false,.lst true (.int .i32) false],fun ⟨⟨a,⟨⟨b,_⟩,⟨c,d,e,_⟩,⟨f,g,i,_⟩,⟨j,_⟩,_⟩,_,_,l,m,n,o,p,_⟩,⟨⟨_,q,_⟩,⟨_,t,_⟩,u,w,_⟩⟩ k=>l0 b c d e f g i j l o (fun y9=>k (.exit 3) ⟨[(1,vI a),(4,.fn 179 [.bx [vI b] 0,.bx [vZ (.int .i64) c,vI d,vZ (.int .i8) e] 0,.bx [vZ (.int .i64) f,vI g,vZ (.int .i8) i] 0,.bx [vI j] 0]),(10,.ptr 0 0),(12,.ptr 1 0),(39,vI m),(40,vI n)],[.box [.pl (.slice none 0 0),vI q,.pl (.slice none 0 0)] false,.box [.own 2,vI t,.own 3] false,.lst true (.int .i64) u false,.lst true (.int .i32) y9 false]⟩) (p,w)⟩
def uF:=ND.putX tt 156 Tryz.func156 [10,11] [(122,[⟨12,some 2,false,(.int .i32)⟩]),(31334,[⟨12,some 2,false,(.int .i32)⟩])] [(122,tX),(31334,uA)] [sI,sI,sI,sI,.fn 179 [.bx [lI],.bx [lZ (.int .i64),lI,lZ (.int .i8)],.bx [lZ (.int .i64),lI,lZ (.int .i8)],.bx [lI]]] [] [(true,wL),(false,(.int .i64))] (fun x=>jH x.1 x.2.1 x.2.2.1 x.2.2.2.1 x.2.2.2.2.1.1.1 x.2.2.2.2.1.2.1.1 x.2.2.2.2.1.2.1.2.1 x.2.2.2.2.1.2.1.2.2.1 x.2.2.2.2.1.2.2.1.1 x.2.2.2.2.1.2.2.1.2.1 x.2.2.2.2.1.2.2.1.2.2.1 x.2.2.2.2.1.2.2.2.1.1) [179] none false 0 hI0 ⟨fun _ _ hs ⟨⟨a,⟨⟨b,_⟩,⟨c,d,e,_⟩,⟨f,g,i,_⟩,⟨j,_⟩,_⟩,_,_,l,m,_⟩,⟨⟨_,n,_⟩,⟨_,o,_⟩,p,_⟩⟩ _ h=>dW hs (fun y=>⟨[(1,vI a),(4,.fn 179 [.bx [vI b] 0,.bx [vZ (.int .i64) c,vI d,vZ (.int .i8) e] 0,.bx [vZ (.int .i64) f,vI g,vZ (.int .i8) i] 0,.bx [vI j] 0]),(10,.ptr 0 0),(12,.ptr 1 0),(39,vI l),(40,vI y.1)],[.box [.pl (.slice none 0 0),vI n,.pl (.slice none 0 0)] false,.box [.own 2,vI o,.own 3] false,.lst true (.int .i64) p false,.lst true (.int .i32) y.2 false]⟩) (m,([]:List Int)) h.it,fun _ _ hs ⟨⟨a,⟨⟨b,_⟩,⟨c,d,e,_⟩,⟨f,g,i,_⟩,⟨j,_⟩,_⟩,_,_,l,m,n,o,p,_⟩,⟨⟨_,q,_⟩,⟨_,t,_⟩,u,w,_⟩⟩ _ h=>aD hs (fun y=>⟨⟨a,⟨⟨b,()⟩,⟨c,d,e,()⟩,⟨f,g,i,()⟩,⟨j,()⟩,()⟩,(),(),l,m,n,o,y.1,()⟩,⟨⟨(),q,(),()⟩,⟨(),t,(),()⟩,u,y.2,()⟩⟩) (p,w) h.it,trivial⟩ fun _ _ h=>⟨_,h.it,by kernel_rfl⟩
structure EH (a0 a1:bS) (Q:(uN×Int)->Prop):Prop where
 it:u4 2 [a0,a1] (fun r1=>if (r1 != 0)=true then Q ((([]:List Int),(0,([]:List Int))),r1) else ck ((0:Int)<=0/\0<(a0.1.length:Int)) (ck ((0:Int)<=1/\1<(a0.1.length:Int)) (ck ((0:Int)<=1/\1<(a1.1.length:Int)) (ck ((0:Int)<=0/\0<(a1.1.length:Int)) (if ((a1.1.getD 0 0) != (a0.1.getD 1 0))=true then Q ((([]:List Int),(0,([]:List Int))),2) else jH (a0.1.getD 0 0) (a1.1.getD 1 0) (a0.1.getD 1 0) (IntKind.i64.wrap (a0.2.1+a1.2.1)) (a0.1.getD 1 0) a0.1 a0.2.1 a0.2.2 a1.1 a1.2.1 a1.2.2 (a1.1.getD 1 0) (fun r2=>Q (r2.1,r2.2)))))))
def SH:=uF.put tt 137 Tryz.func137 [4,5] [] [] [.agg [lZ (.int .i64),lI,lZ (.int .i8)],.agg [lZ (.int .i64),lI,lZ (.int .i8)]] [] [(true,wL),(false,(.int .i64))] (fun x=>EH (x.1.1,(x.1.2.1,x.1.2.2.1)) (x.2.1.1,(x.2.1.2.1,x.2.1.2.2.1))) trivial fun _ _ h=>⟨_,h.it,by kernel_rfl⟩
def kD (x0 x1:Int) (x4:List Int) (x5:Int) (x8:List Int) (x9 x11:Int) (K0:Int->Prop) (s:Int×Int) (nx:(Int×Int)->Prop):Prop :=
 if (decide (s.2<x11))=true then ck ((0:Int)<=(IntKind.i64.wrap ((IntKind.i64.wrap (s.2*x5))+x0))/\(IntKind.i64.wrap ((IntKind.i64.wrap (s.2*x5))+x0))<(x4.length:Int)) (ck ((0:Int)<=(IntKind.i64.wrap ((IntKind.i64.wrap (s.2*x9))+x1))/\(IntKind.i64.wrap ((IntKind.i64.wrap (s.2*x9))+x1))<(x8.length:Int)) (nx (IntKind.i64.wrap (s.1+(IntKind.i64.wrap ((IntKind.i64.wrap (x4.getD ((IntKind.i64.wrap ((IntKind.i64.wrap (s.2*x5))+x0)).toNat) 0))*(IntKind.i64.wrap (x8.getD ((IntKind.i64.wrap ((IntKind.i64.wrap (s.2*x9))+x1)).toNat) 0))))),IntKind.i64.wrap (s.2+1)))) else K0 s.1
structure xB (x0 x1:Int) (x4:List Int) (x5:Int) (x8:List Int) (x9 x11:Int) (K0:Int->Prop) (s:Int×Int):Prop where
 it:Go.Mach.Loop (kD x0 x1 x4 x5 x8 x9 x11 K0) s
structure qR (a0 a1 a2:Int) (a3:List Int) (a4:Int) (a5:List Int) (a6:Int) (a7:List Int) (a8:Int) (a9:List Int) (a10:Int) (Q:Int->Prop):Prop where
 it:xB a0 a1 a5 a6 a9 a10 a2 (fun y1=>Q y1) (0,0)
def I6:Ent:=⟨[0,1,3,4,5,6,10,12,13],[sI,sI,.bx [lZ (.int .i64),lI,lZ (.int .i8)],.bx [lI],.bx [lZ (.int .i64),lI,lZ (.int .i8)],.bx [lI],sI,sI,sI],[],fun ⟨⟨a,b,⟨_,_,e,_⟩,⟨f,_⟩,⟨_,_,j,_⟩,⟨l,_⟩,m,n,o,_⟩,_⟩ k=>xB a b e f j l n (fun y2=>k (.exit 0) ⟨[(10,vI y2)],[]⟩) (m,o)⟩
def JU:=SH.put tt 176 Tryz.func176 [9] [] [(58,I6)] [sI,sI,.bx [lI],.bx [lZ (.int .i64),lI,lZ (.int .i8)],.bx [lI],.bx [lZ (.int .i64),lI,lZ (.int .i8)],.bx [lI]] [] [(false,(.int .i64))] (fun x=>qR x.1 x.2.1 x.2.2.1.1 x.2.2.2.1.1 x.2.2.2.1.2.1 x.2.2.2.1.2.2.1 x.2.2.2.2.1.1 x.2.2.2.2.2.1.1 x.2.2.2.2.2.1.2.1 x.2.2.2.2.2.1.2.2.1 x.2.2.2.2.2.2.1.1) ⟨fun _ _ hs ⟨⟨a,b,⟨c,d,e,_⟩,⟨f,_⟩,⟨g,i,j,_⟩,⟨l,_⟩,m,n,o,_⟩,_⟩ _ h=>aD hs (fun y=>⟨⟨a,b,⟨c,d,e,()⟩,⟨f,()⟩,⟨g,i,j,()⟩,⟨l,()⟩,y.1,n,y.2,()⟩,()⟩) (m,o) h.it,trivial⟩ fun _ _ h=>⟨_,h.it,by kernel_rfl⟩
def fQ (x1:Int) (x2:List Int) (x3:Int) (x4:List Int) (x5:Int) (x6:List Int) (x7:Int) (x8:List Int) (x9 x10 x13:Int) (K0:(List Int)->Prop) (s:Int×List Int) (nx:(Int×List Int)->Prop):Prop :=
 if (decide (s.1<x13))=true then qR x10 s.1 x1 x2 x3 x4 x5 x6 x7 x8 x9 (fun r6=>ck ((s.2.length+[IntKind.i32.wrap r6].length)*4<=140737488355328) (nx (IntKind.i64.wrap (s.1+1),s.2++[IntKind.i32.wrap r6]))) else K0 s.2
structure kV (x1:Int) (x2:List Int) (x3:Int) (x4:List Int) (x5:Int) (x6:List Int) (x7:Int) (x8:List Int) (x9 x10 x13:Int) (K0:(List Int)->Prop) (s:Int×List Int):Prop where
 it:Go.Mach.Loop (fQ x1 x2 x3 x4 x5 x6 x7 x8 x9 x10 x13 K0) s
def dJ (x0 x1:Int) (x2:List Int) (x3:Int) (x4:List Int) (x5:Int) (x6:List Int) (x7:Int) (x8:List Int) (x9 x10:Int) (K0:(List Int)->Prop) (s:Int×List Int) (nx:(Int×List Int)->Prop):Prop :=
 if (decide (s.1<x10))=true then kV x1 x2 x3 x4 x5 x6 x7 x8 x9 s.1 x0 (fun y6=>nx (IntKind.i64.wrap (s.1+1),y6)) (0,s.2) else K0 s.2
structure kW (x0 x1:Int) (x2:List Int) (x3:Int) (x4:List Int) (x5:Int) (x6:List Int) (x7:Int) (x8:List Int) (x9 x10:Int) (K0:(List Int)->Prop) (s:Int×List Int):Prop where
 it:Go.Mach.Loop (dJ x0 x1 x2 x3 x4 x5 x6 x7 x8 x9 x10 K0) s
structure i6 (a0 a1 a2 a3 a4:Int) (a5:List Int) (a6:Int) (a7:List Int) (a8:Int) (a9:List Int) (a10:Int) (a11:List Int) (a12:Int) (Q:(uN×Int)->Prop):Prop where
 it:pU a2 (fun r1=>if (((!r1)||(decide (128<a3)))||(decide (a3<(-128))))=true then Q ((([]:List Int),(0,([]:List Int))),3) else gB [a0,a1] (fun r2=>if (!r2)=true then Q ((([]:List Int),(0,([]:List Int))),1) else kW a1 a4 a5 a6 a7 a8 a9 a10 a11 a12 a0 (fun y7=>Q (([a0,a1],(a3,y7)),0)) (0,([]:List Int))))
def tC:Ent:=⟨[1,4,10,12,39,40],[sI,.fn 176 [.bx [lI],.bx [lZ (.int .i64),lI,lZ (.int .i8)],.bx [lI],.bx [lZ (.int .i64),lI,lZ (.int .i8)],.bx [lI]],sC (.ptr 0 0),sC (.ptr 1 0),sI,sI],[.box [.cst (.pl (.slice none 0 0)),lI,.cst (.pl (.slice none 0 0))] false,.box [.cst (.own 2),lI,.cst (.pl (.slice none 0 0))] false,.lst true (.int .i64) false],fun ⟨⟨a,⟨⟨b,_⟩,⟨c,d,e,_⟩,⟨f,_⟩,⟨g,i,j,_⟩,⟨l,_⟩,_⟩,_,_,m,n,_⟩,⟨⟨_,o,_⟩,⟨_,p,_⟩,q,_⟩⟩ k=>kW a b c d e f g i j l m (fun y8=>k (.exit 1) ⟨[(10,.ptr 0 0),(12,.ptr 1 0)],[.box [.pl (.slice none 0 0),vI o,.pl (.slice none 0 0)] false,.box [.own 2,vI p,.own 3] false,.lst true (.int .i64) q false,.lst true (.int .i32) y8 false]⟩) (n,([]:List Int))⟩
def s4:Ent:=⟨[1,4,10,12,13,39,40,43,44],[sI,.fn 176 [.bx [lI],.bx [lZ (.int .i64),lI,lZ (.int .i8)],.bx [lI],.bx [lZ (.int .i64),lI,lZ (.int .i8)],.bx [lI]],sC (.ptr 0 0),sC (.ptr 1 0),sI,sI,sI,sI,sI],[.box [.cst (.pl (.slice none 0 0)),lI,.cst (.pl (.slice none 0 0))] false,.box [.cst (.own 2),lI,.cst (.own 3)] false,.lst true (.int .i64) false,.lst true (.int .i32) false],fun ⟨⟨a,⟨⟨b,_⟩,⟨c,d,e,_⟩,⟨f,_⟩,⟨g,i,j,_⟩,⟨l,_⟩,_⟩,_,_,m,n,o,p,q,_⟩,⟨⟨_,t,_⟩,⟨_,u,_⟩,w,z,_⟩⟩ k=>kV b c d e f g i j l m p (fun y9=>k (.exit 3) ⟨[(1,vI a),(4,.fn 176 [.bx [vI b] 0,.bx [vZ (.int .i64) c,vI d,vZ (.int .i8) e] 0,.bx [vI f] 0,.bx [vZ (.int .i64) g,vI i,vZ (.int .i8) j] 0,.bx [vI l] 0]),(10,.ptr 0 0),(12,.ptr 1 0),(39,vI n),(40,vI o)],[.box [.pl (.slice none 0 0),vI t,.pl (.slice none 0 0)] false,.box [.own 2,vI u,.own 3] false,.lst true (.int .i64) w false,.lst true (.int .i32) y9 false]⟩) (q,z)⟩
def t5:=JU.putX tt 156 Tryz.func156 [10,11] [(122,[⟨12,some 2,false,(.int .i32)⟩]),(31334,[⟨12,some 2,false,(.int .i32)⟩])] [(122,tC),(31334,s4)] [sI,sI,sI,sI,.fn 176 [.bx [lI],.bx [lZ (.int .i64),lI,lZ (.int .i8)],.bx [lI],.bx [lZ (.int .i64),lI,lZ (.int .i8)],.bx [lI]]] [] [(true,wL),(false,(.int .i64))] (fun x=>i6 x.1 x.2.1 x.2.2.1 x.2.2.2.1 x.2.2.2.2.1.1.1 x.2.2.2.2.1.2.1.1 x.2.2.2.2.1.2.1.2.1 x.2.2.2.2.1.2.1.2.2.1 x.2.2.2.2.1.2.2.1.1 x.2.2.2.2.1.2.2.2.1.1 x.2.2.2.2.1.2.2.2.1.2.1 x.2.2.2.2.1.2.2.2.1.2.2.1 x.2.2.2.2.1.2.2.2.2.1.1) [176] none false 0 hI0 ⟨fun _ _ hs ⟨⟨a,⟨⟨b,_⟩,⟨c,d,e,_⟩,⟨f,_⟩,⟨g,i,j,_⟩,⟨l,_⟩,_⟩,_,_,m,n,_⟩,⟨⟨_,o,_⟩,⟨_,p,_⟩,q,_⟩⟩ _ h=>dW hs (fun y=>⟨[(1,vI a),(4,.fn 176 [.bx [vI b] 0,.bx [vZ (.int .i64) c,vI d,vZ (.int .i8) e] 0,.bx [vI f] 0,.bx [vZ (.int .i64) g,vI i,vZ (.int .i8) j] 0,.bx [vI l] 0]),(10,.ptr 0 0),(12,.ptr 1 0),(39,vI m),(40,vI y.1)],[.box [.pl (.slice none 0 0),vI o,.pl (.slice none 0 0)] false,.box [.own 2,vI p,.own 3] false,.lst true (.int .i64) q false,.lst true (.int .i32) y.2 false]⟩) (n,([]:List Int)) h.it,fun _ _ hs ⟨⟨a,⟨⟨b,_⟩,⟨c,d,e,_⟩,⟨f,_⟩,⟨g,i,j,_⟩,⟨l,_⟩,_⟩,_,_,m,n,o,p,q,_⟩,⟨⟨_,t,_⟩,⟨_,u,_⟩,w,z,_⟩⟩ _ h=>aD hs (fun y=>⟨⟨a,⟨⟨b,()⟩,⟨c,d,e,()⟩,⟨f,()⟩,⟨g,i,j,()⟩,⟨l,()⟩,()⟩,(),(),m,n,o,p,y.1,()⟩,⟨⟨(),t,(),()⟩,⟨(),u,(),()⟩,w,y.2,()⟩⟩) (q,z) h.it,trivial⟩ fun _ _ h=>⟨_,h.it,by kernel_rfl⟩
structure zU (a0 a1:bS) (Q:(uN×Int)->Prop):Prop where
 it:u4 2 [a0,a1] (fun r1=>if (r1 != 0)=true then Q ((([]:List Int),(0,([]:List Int))),r1) else ck ((0:Int)<=0/\0<(a0.1.length:Int)) (ck ((0:Int)<=1/\1<(a0.1.length:Int)) (ck ((0:Int)<=1/\1<(a1.1.length:Int)) (ck ((0:Int)<=0/\0<(a1.1.length:Int)) (if ((a1.1.getD 0 0) != (a0.1.getD 0 0))=true then Q ((([]:List Int),(0,([]:List Int))),2) else i6 (a0.1.getD 1 0) (a1.1.getD 1 0) (a0.1.getD 0 0) (IntKind.i64.wrap (a0.2.1+a1.2.1)) (a0.1.getD 0 0) a0.1 a0.2.1 a0.2.2 (a0.1.getD 1 0) a1.1 a1.2.1 a1.2.2 (a1.1.getD 1 0) (fun r2=>Q (r2.1,r2.2)))))))
def OY:=t5.put tt 132 Tryz.func132 [4,5] [] [] [.agg [lZ (.int .i64),lI,lZ (.int .i8)],.agg [lZ (.int .i64),lI,lZ (.int .i8)]] [] [(true,wL),(false,(.int .i64))] (fun x=>zU (x.1.1,(x.1.2.1,x.1.2.2.1)) (x.2.1.1,(x.2.1.2.1,x.2.1.2.2.1))) trivial fun _ _ h=>⟨_,h.it,by kernel_rfl⟩
def mN (x0:Int) (x3:List Int) (x4 x6:Int) (K0:Int->Prop) (s:Int×Int) (nx:(Int×Int)->Prop):Prop :=
 if (decide (s.2<x6))=true then ck ((0:Int)<=(IntKind.i64.wrap ((IntKind.i64.wrap (s.2*x4))+x0))/\(IntKind.i64.wrap ((IntKind.i64.wrap (s.2*x4))+x0))<(x3.length:Int)) (nx (IntKind.i64.wrap (s.1+(IntKind.i64.wrap (x3.getD ((IntKind.i64.wrap ((IntKind.i64.wrap (s.2*x4))+x0)).toNat) 0))),IntKind.i64.wrap (s.2+1))) else K0 s.1
structure B7 (x0:Int) (x3:List Int) (x4 x6:Int) (K0:Int->Prop) (s:Int×Int):Prop where
 it:Go.Mach.Loop (mN x0 x3 x4 x6 K0) s
structure uS (a0 a1 a2:Int) (a3:List Int) (a4:Int) (a5:List Int) (a6:Int) (Q:Int->Prop):Prop where
 it:B7 a1 a5 a6 a2 (fun y1=>Q y1) (0,0)
def M2:Ent:=⟨[1,3,4,8,10,11],[sI,.bx [lZ (.int .i64),lI,lZ (.int .i8)],.bx [lI],sI,sI,sI],[],fun ⟨⟨a,⟨_,_,d,_⟩,⟨e,_⟩,f,g,i,_⟩,_⟩ k=>B7 a d e g (fun y2=>k (.exit 0) ⟨[(8,vI y2)],[]⟩) (f,i)⟩
def QQ:=OY.put tt 177 Tryz.func177 [7] [] [(58,M2)] [sI,sI,.bx [lI],.bx [lZ (.int .i64),lI,lZ (.int .i8)],.bx [lI]] [] [(false,(.int .i64))] (fun x=>uS x.1 x.2.1 x.2.2.1.1 x.2.2.2.1.1 x.2.2.2.1.2.1 x.2.2.2.1.2.2.1 x.2.2.2.2.1.1) ⟨fun _ _ hs ⟨⟨a,⟨b,c,d,_⟩,⟨e,_⟩,f,g,i,_⟩,_⟩ _ h=>aD hs (fun y=>⟨⟨a,⟨b,c,d,()⟩,⟨e,()⟩,y.1,g,y.2,()⟩,()⟩) (f,i) h.it,trivial⟩ fun _ _ h=>⟨_,h.it,by kernel_rfl⟩
def hZ (x1:Int) (x2:List Int) (x3:Int) (x4:List Int) (x5 x6 x9:Int) (K0:(List Int)->Prop) (s:Int×List Int) (nx:(Int×List Int)->Prop):Prop :=
 if (decide (s.1<x9))=true then uS x6 s.1 x1 x2 x3 x4 x5 (fun r6=>ck ((s.2.length+[IntKind.i32.wrap r6].length)*4<=140737488355328) (nx (IntKind.i64.wrap (s.1+1),s.2++[IntKind.i32.wrap r6]))) else K0 s.2
structure mW (x1:Int) (x2:List Int) (x3:Int) (x4:List Int) (x5 x6 x9:Int) (K0:(List Int)->Prop) (s:Int×List Int):Prop where
 it:Go.Mach.Loop (hZ x1 x2 x3 x4 x5 x6 x9 K0) s
def dU (x0 x1:Int) (x2:List Int) (x3:Int) (x4:List Int) (x5 x6:Int) (K0:(List Int)->Prop) (s:Int×List Int) (nx:(Int×List Int)->Prop):Prop :=
 if (decide (s.1<x6))=true then mW x1 x2 x3 x4 x5 s.1 x0 (fun y6=>nx (IntKind.i64.wrap (s.1+1),y6)) (0,s.2) else K0 s.2
structure mP (x0 x1:Int) (x2:List Int) (x3:Int) (x4:List Int) (x5 x6:Int) (K0:(List Int)->Prop) (s:Int×List Int):Prop where
 it:Go.Mach.Loop (dU x0 x1 x2 x3 x4 x5 x6 K0) s
structure j8 (a0 a1 a2 a3 a4:Int) (a5:List Int) (a6:Int) (a7:List Int) (a8:Int) (Q:(uN×Int)->Prop):Prop where
 it:pU a2 (fun r1=>if (((!r1)||(decide (128<a3)))||(decide (a3<(-128))))=true then Q ((([]:List Int),(0,([]:List Int))),3) else gB [a0,a1] (fun r2=>if (!r2)=true then Q ((([]:List Int),(0,([]:List Int))),1) else mP a1 a4 a5 a6 a7 a8 a0 (fun y7=>Q (([a0,a1],(a3,y7)),0)) (0,([]:List Int))))
def uL:Ent:=⟨[1,4,10,12,39,40],[sI,.fn 177 [.bx [lI],.bx [lZ (.int .i64),lI,lZ (.int .i8)],.bx [lI]],sC (.ptr 0 0),sC (.ptr 1 0),sI,sI],[.box [.cst (.pl (.slice none 0 0)),lI,.cst (.pl (.slice none 0 0))] false,.box [.cst (.own 2),lI,.cst (.pl (.slice none 0 0))] false,.lst true (.int .i64) false],fun ⟨⟨a,⟨⟨b,_⟩,⟨c,d,e,_⟩,⟨f,_⟩,_⟩,_,_,g,i,_⟩,⟨⟨_,j,_⟩,⟨_,l,_⟩,m,_⟩⟩ k=>mP a b c d e f g (fun y8=>k (.exit 1) ⟨[(10,.ptr 0 0),(12,.ptr 1 0)],[.box [.pl (.slice none 0 0),vI j,.pl (.slice none 0 0)] false,.box [.own 2,vI l,.own 3] false,.lst true (.int .i64) m false,.lst true (.int .i32) y8 false]⟩) (i,([]:List Int))⟩
def uQ:Ent:=⟨[1,4,10,12,13,39,40,43,44],[sI,.fn 177 [.bx [lI],.bx [lZ (.int .i64),lI,lZ (.int .i8)],.bx [lI]],sC (.ptr 0 0),sC (.ptr 1 0),sI,sI,sI,sI,sI],[.box [.cst (.pl (.slice none 0 0)),lI,.cst (.pl (.slice none 0 0))] false,.box [.cst (.own 2),lI,.cst (.own 3)] false,.lst true (.int .i64) false,.lst true (.int .i32) false],fun ⟨⟨a,⟨⟨b,_⟩,⟨c,d,e,_⟩,⟨f,_⟩,_⟩,_,_,g,i,j,l,m,_⟩,⟨⟨_,n,_⟩,⟨_,o,_⟩,p,q,_⟩⟩ k=>mW b c d e f g l (fun y9=>k (.exit 3) ⟨[(1,vI a),(4,.fn 177 [.bx [vI b] 0,.bx [vZ (.int .i64) c,vI d,vZ (.int .i8) e] 0,.bx [vI f] 0]),(10,.ptr 0 0),(12,.ptr 1 0),(39,vI i),(40,vI j)],[.box [.pl (.slice none 0 0),vI n,.pl (.slice none 0 0)] false,.box [.own 2,vI o,.own 3] false,.lst true (.int .i64) p false,.lst true (.int .i32) y9 false]⟩) (m,q)⟩
def vH:=QQ.putX tt 156 Tryz.func156 [10,11] [(122,[⟨12,some 2,false,(.int .i32)⟩]),(31334,[⟨12,some 2,false,(.int .i32)⟩])] [(122,uL),(31334,uQ)] [sI,sI,sI,sI,.fn 177 [.bx [lI],.bx [lZ (.int .i64),lI,lZ (.int .i8)],.bx [lI]]] [] [(true,wL),(false,(.int .i64))] (fun x=>j8 x.1 x.2.1 x.2.2.1 x.2.2.2.1 x.2.2.2.2.1.1.1 x.2.2.2.2.1.2.1.1 x.2.2.2.2.1.2.1.2.1 x.2.2.2.2.1.2.1.2.2.1 x.2.2.2.2.1.2.2.1.1) [177] none false 0 hI0 ⟨fun _ _ hs ⟨⟨a,⟨⟨b,_⟩,⟨c,d,e,_⟩,⟨f,_⟩,_⟩,_,_,g,i,_⟩,⟨⟨_,j,_⟩,⟨_,l,_⟩,m,_⟩⟩ _ h=>dW hs (fun y=>⟨[(1,vI a),(4,.fn 177 [.bx [vI b] 0,.bx [vZ (.int .i64) c,vI d,vZ (.int .i8) e] 0,.bx [vI f] 0]),(10,.ptr 0 0),(12,.ptr 1 0),(39,vI g),(40,vI y.1)],[.box [.pl (.slice none 0 0),vI j,.pl (.slice none 0 0)] false,.box [.own 2,vI l,.own 3] false,.lst true (.int .i64) m false,.lst true (.int .i32) y.2 false]⟩) (i,([]:List Int)) h.it,fun _ _ hs ⟨⟨a,⟨⟨b,_⟩,⟨c,d,e,_⟩,⟨f,_⟩,_⟩,_,_,g,i,j,l,m,_⟩,⟨⟨_,n,_⟩,⟨_,o,_⟩,p,q,_⟩⟩ _ h=>aD hs (fun y=>⟨⟨a,⟨⟨b,()⟩,⟨c,d,e,()⟩,⟨f,()⟩,()⟩,(),(),g,i,j,l,y.1,()⟩,⟨⟨(),n,(),()⟩,⟨(),o,(),()⟩,p,y.2,()⟩⟩) (m,q) h.it,trivial⟩ fun _ _ h=>⟨_,h.it,by kernel_rfl⟩
structure yF  (K0:Unit->Prop):Prop where
 it:K0 ()
structure GX (a0:bS) (Q:(uN×Int)->Prop):Prop where
 it:u4 2 [a0] (fun r1=>if (r1 != 0)=true then Q ((([]:List Int),(0,([]:List Int))),r1) else ck ((0:Int)<=0/\0<(a0.1.length:Int)) (ck ((0:Int)<=1/\1<(a0.1.length:Int)) (j8 1 (a0.1.getD 1 0) (a0.1.getD 0 0) a0.2.1 (a0.1.getD 0 0) a0.1 a0.2.1 a0.2.2 (a0.1.getD 1 0) (fun r2=>if (r2.2==0)=true then yF (fun _=>Q (([a0.1.getD 1 0],r2.1.2),r2.2)) else yF (fun _=>Q (r2.1,r2.2))))))
def R4:Ent:=⟨[2,7,8],[sC (.ptr 0 0),sC (.ptr 1 0),sI],[.box [.cst (.pl (.slice none 0 0)),lI,.cst (.pl (.slice none 0 0))] false,.box [.cst (.own 2),lI,.cst (.own 3)] false,.lst true (.int .i64) false,.lst true (.int .i32) false],fun ⟨⟨_,_,a,_⟩,⟨_,⟨_,c,_⟩,d,e,_⟩⟩ k=>yF (fun _=>k .ret ⟨[(2,.ptr 0 0),(3,vI a)],[.box [.own 1,vI c,.own 2] false,.lst true (.int .i64) d false,.lst true (.int .i32) e false]⟩)⟩
def U5:=vH.put tt 133 Tryz.func133 [2,3] [] [(63,R4)] [.agg [lZ (.int .i64),lI,lZ (.int .i8)]] [] [(true,wL),(false,(.int .i64))] (fun x=>GX (x.1.1,(x.1.2.1,x.1.2.2.1))) ⟨fun _ _ hs ⟨⟨_,_,_,_⟩,⟨_,⟨_,_,_⟩,_,_,_⟩⟩ _ h=>aI hs h.it,trivial⟩ fun _ _ h=>⟨_,h.it,by kernel_rfl⟩
structure sF (x11:Int) (K0:Int->Prop):Prop where
 it:K0 (IntKind.i64.wrap (x11+1))
def kY (x0 x1 x2 x3 x4 x5 x10:Int) (x18:List bL) (K0:(List bL)->Prop) (s:Int×List bL) (nx:(Int×List bL)->Prop):Prop :=
 if (decide (s.1<x10))=true then ck ((0:Int)<=s.1/\s.1<(x18.length:Int)) (if (((x18.getD ((s.1).toNat) (0,(0,0))).1)==(IntKind.i64.wrap ((IntKind.i64.wrap (x1*x0))+x2)))=true then ck ((s.2.length+[(IntKind.i64.wrap ((IntKind.i64.wrap (x4*x3))+x5),(x18.getD ((s.1).toNat) (0,(0,0))).2)].length)*24<=140737488355328) (sF s.1 (fun y16=>nx (y16,(s.2++[(IntKind.i64.wrap ((IntKind.i64.wrap (x4*x3))+x5),(x18.getD ((s.1).toNat) (0,(0,0))).2)])))) else sF s.1 (fun y17=>nx (y17,s.2))) else K0 s.2
structure rT (x0 x1 x2 x3 x4 x5 x10:Int) (x18:List bL) (K0:(List bL)->Prop) (s:Int×List bL):Prop where
 it:Go.Mach.Loop (kY x0 x1 x2 x3 x4 x5 x10 x18 K0) s
def lC (x0 x1 x2 x3 x4 x7 x9 x10 x11 x12 x13:Int) (K0:(List bL)->Prop) (s:Int×List bL) (nx:(Int×List bL)->Prop):Prop :=
 if (decide (s.1<x7))=true then lV (x9,(x10,(x11,(x12,x13)))) x4 s.1 (fun r15=>rT x0 x1 x2 x3 x4 s.1 (r15.length:Int) r15 (fun y16=>nx (IntKind.i64.wrap (s.1+1),y16)) (0,s.2)) else K0 s.2
structure rV (x0 x1 x2 x3 x4 x7 x9 x10 x11 x12 x13:Int) (K0:(List bL)->Prop) (s:Int×List bL):Prop where
 it:Go.Mach.Loop (lC x0 x1 x2 x3 x4 x7 x9 x10 x11 x12 x13 K0) s
def lL (x0 x1 x2 x3 x4 x6 x7 x8 x9 x10:Int) (K0:(List bL)->Prop) (s:Int×List bL) (nx:(Int×List bL)->Prop):Prop :=
 if (decide (s.1<x4))=true then rV x0 x1 x2 x3 s.1 x3 x6 x7 x8 x9 x10 (fun y15=>nx (IntKind.i64.wrap (s.1+1),y15)) (0,s.2) else K0 s.2
structure yQ (x0 x1 x2 x3 x4 x6 x7 x8 x9 x10:Int) (K0:(List bL)->Prop) (s:Int×List bL):Prop where
 it:Go.Mach.Loop (lL x0 x1 x2 x3 x4 x6 x7 x8 x9 x10 K0) s
structure xO (a0 a1 a2 a3 a4 a5 a6:Int) (Q:(List bL)->Prop):Prop where
 it:tZ (a0,(a1,(a4,(a5,a6)))) (fun r1=>jn (fun v2=>jn (fun v5=>if v5=true then Q ([]:List bL) else yQ a1 a2 a3 r1.2 r1.1 a0 a1 a4 a5 a6 (fun y16=>Q y16) (0,([]:List bL))) (fun J6=>if v2=true then J6 true else o6 a3 0 (IntKind.i64.wrap (a1-1)) (fun r7=>J6 (!r7)))) (fun J3=>if ((decide (r1.1<1))||(decide (r1.2<1)))=true then J3 true else o6 a2 0 (IntKind.i64.wrap (a0-1)) (fun r4=>J3 (!r4))))
def JT:Ent:=⟨[1,2,3,15,17,18,54,55],[sI,sI,sI,sC (.ptr 0 0),sI,sC (.pl (.slice none 0 0)),sI,sI],[.box [lI,lI,lI,lI,lI] false],fun ⟨⟨a,b,c,_,d,_,e,f,_⟩,⟨⟨g,i,j,l,m,_⟩,_⟩⟩ k=>yQ a b c d e g i j l m (fun y17=>k (.exit 0) ⟨[(18,.own 0)],[.lst true bY y17 false]⟩) (f,([]:List bL))⟩
def LL:Ent:=⟨[1,2,3,15,17,18,19,54,55,58,59],[sI,sI,sI,sC (.ptr 0 0),sI,sC (.own 1),sI,sI,sI,sI,sI],[.box [lI,lI,lI,lI,lI] false,.lst true bY false],fun ⟨⟨a,b,c,_,d,_,e,f,g,i,j,_⟩,⟨⟨l,m,n,o,p,_⟩,q,_⟩⟩ k=>rV a b c d e i l m n o p (fun y18=>k (.exit 2) ⟨[(1,vI a),(2,vI b),(3,vI c),(15,.ptr 0 0),(17,vI d),(18,.own 1),(54,vI f),(55,vI g)],[.box [vI l,vI m,vI n,vI o,vI p] false,.lst true bY y18 false]⟩) (j,q)⟩
def LG:Ent:=⟨[1,2,3,15,17,18,19,20,54,55,58,59,65,66,67],[sI,sI,sI,sC (.ptr 0 0),sI,sC (.own 1),sI,sI,sI,sI,sI,sI,sC (.own 2),sI,sI],[.box [lI,lI,lI,lI,lI] false,.lst true bY false,.lst true bY false],fun ⟨⟨a,b,c,_,d,_,e,f,g,i,j,l,_,m,n,_⟩,⟨⟨o,p,q,t,u,_⟩,w,z,_⟩⟩ k=>rT a b c d e f m z (fun y19=>k (.exit 4) ⟨[(1,vI a),(2,vI b),(3,vI c),(15,.ptr 0 0),(17,vI d),(18,.own 1),(19,vI e),(54,vI g),(55,vI i),(58,vI j),(59,vI l)],[.box [vI o,vI p,vI q,vI t,vI u] false,.lst true bY y19 false]⟩) (n,w)⟩
def JY:Ent:=⟨[1,2,3,15,17,18,19,20,54,55,58,59,65,66,67],[sI,sI,sI,sC (.ptr 0 0),sI,sC (.own 1),sI,sI,sI,sI,sI,sI,sC (.own 2),sI,sI],[.box [lI,lI,lI,lI,lI] false,.lst true bY false,.lst true bY false],fun ⟨⟨a,b,c,_,d,_,e,f,g,i,j,l,_,m,n,_⟩,⟨⟨o,p,q,t,u,_⟩,w,z,_⟩⟩ k=>sF n (fun y20=>k .normal ⟨[(1,vI a),(2,vI b),(3,vI c),(15,.ptr 0 0),(17,vI d),(18,.own 1),(19,vI e),(20,vI f),(54,vI g),(55,vI i),(58,vI j),(59,vI l),(65,.own 2),(66,vI m),(67,vI y20)],[.box [vI o,vI p,vI q,vI t,vI u] false,.lst true bY w false,.lst true bY z false]⟩)⟩
def NK:=U5.put tt 190 Tryz.func190 [14] [(506,[⟨18,none,false,bY⟩]),(129638,[⟨18,none,false,bY⟩]),(33187430,[⟨18,none,false,bY⟩])] [(506,JT),(129638,LL),(33187430,LG),(530998887,JY)] [sI,sI,sI,sI,sI,sI,sI] [] [(false,(.slc bY))] (fun x=>xO x.1 x.2.1 x.2.2.1 x.2.2.2.1 x.2.2.2.2.1 x.2.2.2.2.2.1 x.2.2.2.2.2.2.1) ⟨fun _ _ hs ⟨⟨a,b,c,_,d,_,e,f,_⟩,⟨⟨g,i,j,l,m,_⟩,_⟩⟩ _ h=>dW hs (fun y=>⟨[(1,vI a),(2,vI b),(3,vI c),(15,.ptr 0 0),(17,vI d),(18,.own 1),(54,vI e),(55,vI y.1)],[.box [vI g,vI i,vI j,vI l,vI m] false,.lst true bY y.2 false]⟩) (f,([]:List bL)) h.it,fun _ _ hs ⟨⟨a,b,c,_,d,_,e,f,g,i,j,_⟩,⟨⟨l,m,n,o,p,_⟩,q,_⟩⟩ _ h=>aD hs (fun y=>⟨⟨a,b,c,(),d,(),e,f,g,i,y.1,()⟩,⟨⟨l,m,n,o,p,()⟩,y.2,()⟩⟩) (j,q) h.it,fun _ _ hs ⟨⟨a,b,c,_,d,_,e,f,g,i,j,l,_,m,n,_⟩,⟨⟨o,p,q,t,u,_⟩,w,z,_⟩⟩ _ h=>aD hs (fun y=>⟨⟨a,b,c,(),d,(),e,f,g,i,j,l,(),m,y.1,()⟩,⟨⟨o,p,q,t,u,()⟩,y.2,z,()⟩⟩) (n,w) h.it,fun _ _ hs ⟨⟨_,_,_,_,_,_,_,_,_,_,_,_,_,_,_,_⟩,⟨⟨_,_,_,_,_,_⟩,_,_,_⟩⟩ _ h=>aI hs h.it,trivial⟩ fun _ _ h=>⟨_,h.it,by kernel_rfl⟩
structure tI (a0:aEO) (a1 a2:Int) (Q:(List bL)->Prop):Prop where
 it:xO a0.1 a0.2.1 a1 a2 a0.2.2.1 a0.2.2.2.1 a0.2.2.2.2.1 (fun r1=>Q r1)
def A9:=NK.put tt 180 Tryz.func180 [6] [] [] [.agg [lI,lI,lI,lI,lI,lI,lI],sI,sI] [] [(false,(.slc bY))] (fun x=>tI (x.1.1,(x.1.2.1,(x.1.2.2.1,(x.1.2.2.2.1,(x.1.2.2.2.2.1,(x.1.2.2.2.2.2.1,x.1.2.2.2.2.2.2.1)))))) x.2.1 x.2.2.1) trivial fun _ _ h=>⟨_,h.it,by kernel_rfl⟩
def pF (x3 x4 x5 x6 x8 x9 x11 x20:Int) (x24 x27:List Int) (x38:List bL) (K0:Int->Prop) (s:Int×Int) (nx:(Int×Int)->Prop):Prop :=
 if (decide (s.2<x20))=true then ck ((0:Int)<=s.2/\s.2<(x38.length:Int)) (ck ((0:Int)<=(IntKind.i64.wrap ((IntKind.i64.wrap ((IntKind.i64.wrap ((IntKind.i64.wrap (x8*x3))+x11))*x6))+((x38.getD ((s.2).toNat) (0,(0,0))).1)))/\(IntKind.i64.wrap ((IntKind.i64.wrap ((IntKind.i64.wrap ((IntKind.i64.wrap (x8*x3))+x11))*x6))+((x38.getD ((s.2).toNat) (0,(0,0))).1)))<(x24.length:Int)) (ck ((0:Int)<=(IntKind.i64.wrap ((IntKind.i64.wrap ((IntKind.i64.wrap ((IntKind.i64.wrap ((IntKind.i64.wrap ((IntKind.i64.wrap (x11*x4))+x9))*x5))+(((x38.getD ((s.2).toNat) (0,(0,0))).2).1)))*x5))+(((x38.getD ((s.2).toNat) (0,(0,0))).2).2)))/\(IntKind.i64.wrap ((IntKind.i64.wrap ((IntKind.i64.wrap ((IntKind.i64.wrap ((IntKind.i64.wrap ((IntKind.i64.wrap (x11*x4))+x9))*x5))+(((x38.getD ((s.2).toNat) (0,(0,0))).2).1)))*x5))+(((x38.getD ((s.2).toNat) (0,(0,0))).2).2)))<(x27.length:Int)) (nx (IntKind.i64.wrap (s.1+(IntKind.i64.wrap ((IntKind.i64.wrap (x24.getD ((IntKind.i64.wrap ((IntKind.i64.wrap ((IntKind.i64.wrap ((IntKind.i64.wrap (x8*x3))+x11))*x6))+((x38.getD ((s.2).toNat) (0,(0,0))).1))).toNat) 0))*(IntKind.i64.wrap (x27.getD ((IntKind.i64.wrap ((IntKind.i64.wrap ((IntKind.i64.wrap ((IntKind.i64.wrap ((IntKind.i64.wrap ((IntKind.i64.wrap (x11*x4))+x9))*x5))+(((x38.getD ((s.2).toNat) (0,(0,0))).2).1)))*x5))+(((x38.getD ((s.2).toNat) (0,(0,0))).2).2))).toNat) 0))))),IntKind.i64.wrap (s.2+1))))) else K0 s.1
structure yB (x3 x4 x5 x6 x8 x9 x11 x20:Int) (x24 x27:List Int) (x38:List bL) (K0:Int->Prop) (s:Int×Int):Prop where
 it:Go.Mach.Loop (pF x3 x4 x5 x6 x8 x9 x11 x20 x24 x27 x38 K0) s
def pC (x3 x4 x5 x6 x8 x9 x17:Int) (x21 x24:List Int) (x35:List bL) (K0:Int->Prop) (s:Int×Int) (nx:(Int×Int)->Prop):Prop :=
 if (decide (s.2<x17))=true then yB x3 x4 x5 x6 x8 x9 s.2 (x35.length:Int) x21 x24 x35 (fun y13=>nx (y13,IntKind.i64.wrap (s.2+1))) (s.1,0) else K0 s.1
structure yJ (x3 x4 x5 x6 x8 x9 x17:Int) (x21 x24:List Int) (x35:List bL) (K0:Int->Prop) (s:Int×Int):Prop where
 it:Go.Mach.Loop (pC x3 x4 x5 x6 x8 x9 x17 x21 x24 x35 K0) s
def pJ (x0 x1 x3 x4 x5 x6 x7 x8 x13:Int) (x17 x20:List Int) (x31:List bL) (K0:(List Int)->Prop) (s:Int×List Int) (nx:(Int×List Int)->Prop):Prop :=
 if (decide (s.1<x13))=true then yJ x3 x4 x5 x6 x8 s.1 x3 x17 x20 x31 (fun y13=>ck ((0:Int)<=(IntKind.i64.wrap ((IntKind.i64.wrap ((IntKind.i64.wrap ((IntKind.i64.wrap ((IntKind.i64.wrap (x8*x4))+s.1))*x0))*x1))+x7))/\(IntKind.i64.wrap ((IntKind.i64.wrap ((IntKind.i64.wrap ((IntKind.i64.wrap ((IntKind.i64.wrap (x8*x4))+s.1))*x0))*x1))+x7))<(s.2.length:Int)) (nx (IntKind.i64.wrap (s.1+1),s.2.set ((IntKind.i64.wrap ((IntKind.i64.wrap ((IntKind.i64.wrap ((IntKind.i64.wrap ((IntKind.i64.wrap (x8*x4))+s.1))*x0))*x1))+x7)).toNat) (IntKind.i32.wrap y13)))) (0,0) else K0 s.2
structure xW (x0 x1 x3 x4 x5 x6 x7 x8 x13:Int) (x17 x20:List Int) (x31:List bL) (K0:(List Int)->Prop) (s:Int×List Int):Prop where
 it:Go.Mach.Loop (pJ x0 x1 x3 x4 x5 x6 x7 x8 x13 x17 x20 x31 K0) s
def pK (x0 x1 x3 x4 x5 x6 x7 x10:Int) (x14 x17:List Int) (x28:List bL) (K0:(List Int)->Prop) (s:Int×List Int) (nx:(Int×List Int)->Prop):Prop :=
 if (decide (s.1<x10))=true then xW x0 x1 x3 x4 x5 x6 x7 s.1 x4 x14 x17 x28 (fun y13=>nx (IntKind.i64.wrap (s.1+1),y13)) (0,s.2) else K0 s.2
structure xI (x0 x1 x3 x4 x5 x6 x7 x10:Int) (x14 x17:List Int) (x28:List bL) (K0:(List Int)->Prop) (s:Int×List Int):Prop where
 it:Go.Mach.Loop (pK x0 x1 x3 x4 x5 x6 x7 x10 x14 x17 x28 K0) s
def pE (x0 x1 x2 x3 x4 x5 x6 x7:Int) (x11 x14:List Int) (x16 x17 x18 x19 x20 x21 x22:Int) (K0:(List Int)->Prop) (s:Int×List Int) (nx:(Int×List Int)->Prop):Prop :=
 if (decide (s.1<x7))=true then ck (x1≠(0:Int)) (ck (x1≠(0:Int)) (tI (x16,(x17,(x18,(x19,(x20,(x21,x22)))))) (IntKind.i64.wrap ((s.1).tdiv x1)) ((s.1).tmod x1) (fun r12=>xI x0 x1 x3 x4 x5 x6 s.1 x2 x11 x14 r12 (fun y13=>nx (IntKind.i64.wrap (s.1+1),y13)) (0,s.2)))) else K0 s.2
structure xT (x0 x1 x2 x3 x4 x5 x6 x7:Int) (x11 x14:List Int) (x16 x17 x18 x19 x20 x21 x22:Int) (K0:(List Int)->Prop) (s:Int×List Int):Prop where
 it:Go.Mach.Loop (pE x0 x1 x2 x3 x4 x5 x6 x7 x11 x14 x16 x17 x18 x19 x20 x21 x22 K0) s
structure FM (x0 x1 x2 x3 x4 x5 x6:Int) (x9 x12:List Int) (x14 x15 x16 x17 x18 x19 x20:Int) (x23:List Int) (K0:(Int×List Int)->Prop):Prop where
 it:if (x6 != 0)=true then K0 (x6,x23) else xT x0 x1 x2 x3 x4 x5 (IntKind.i64.wrap (x19*x20)) (IntKind.i64.wrap (x0*x1)) x9 x12 x14 x15 x16 x17 x18 x19 x20 (fun y12=>K0 (0,y12)) (0,x23)
structure F5 (a0 a1:bS) (a2 a3 a4 a5:Int) (Q:(uN×Int)->Prop):Prop where
 it:zF [a0,a1] (fun r1=>if (r1 != 0)=true then Q ((([]:List Int),(0,([]:List Int))),r1) else ck ((0:Int)<=0/\0<(a0.1.length:Int)) (ck ((0:Int)<=1/\1<(a0.1.length:Int)) (ck ((0:Int)<=1/\1<(a1.1.length:Int)) (ck ((0:Int)<=2/\2<(a1.1.length:Int)) (zA a2 a3 (a1.1.getD 2 0) a4 a5 (fun r2=>jn (fun v3=>jn (fun v5=>jn (fun v7=>jn (fun v9=>if v9=true then Q ((([]:List Int),(0,([]:List Int))),2) else sH (IntKind.i64.wrap ((IntKind.i64.wrap ((a0.1.getD 1 0)*(a1.1.getD 2 0)))*(a1.1.getD 2 0))) (IntKind.i64.wrap (a0.2.1+a1.2.1)) [a0.1.getD 0 0,a1.1.getD 1 0,a2,a3] (fun r11=>FM a2 a3 (a0.1.getD 0 0) (a0.1.getD 1 0) (a1.1.getD 1 0) (a1.1.getD 2 0) r11.2 a0.2.2 a1.2.2 r2.1.1 r2.1.2.1 r2.1.2.2.1 r2.1.2.2.2.1 r2.1.2.2.2.2.1 r2.1.2.2.2.2.2.1 r2.1.2.2.2.2.2.2 r11.1.2.2 (fun y13=>Q ((r11.1.1,(r11.1.2.1,y13.2)),y13.1)))) (fun J10=>if v7=true then J10 true else ck ((0:Int)<=3/\3<(a0.1.length:Int)) (J10 ((a0.1.getD 3 0) != r2.1.2.2.2.2.2.2)))) (fun J8=>if v5=true then J8 true else ck ((0:Int)<=2/\2<(a0.1.length:Int)) (J8 ((a0.1.getD 2 0) != r2.1.2.2.2.2.2.1)))) (fun J6=>if v3=true then J6 true else ck ((0:Int)<=3/\3<(a1.1.length:Int)) (J6 ((a1.1.getD 3 0) != (a1.1.getD 2 0))))) (fun J4=>if (!r2.2)=true then J4 true else ck ((0:Int)<=0/\0<(a1.1.length:Int)) (J4 ((a1.1.getD 0 0) != (a0.1.getD 1 0))))))))))
def SB:Ent:=⟨[2,3,6,7,12,15,16,17,18,19,21,22],[sI,sI,sC (.ptr 0 0),sC (.ptr 1 0),sC (.ptr 2 0),sI,sI,sI,sI,sC (.ptr 3 0),sC (.ptr 4 0),sI],[.box [lZ (.int .i64),lI,lZ (.int .i8)] false,.box [lZ (.int .i64),lI,lZ (.int .i8)] false,.box [.cst (.pl (.slice none 0 0)),lI,.cst (.pl (.slice none 0 0))] false,.box [lI,lI,lI,lI,lI,lI,lI] false,.box [lZ (.int .i64),lI,.cst (.own 5)] false,.lst true (.int .i32) false],fun ⟨⟨a,b,_,_,_,c,d,e,f,_,_,g,_⟩,⟨⟨_,_,l,_⟩,⟨_,_,o,_⟩,_,⟨q,t,u,w,z,a0,a1,_⟩,⟨a2,a3,_⟩,a4,_⟩⟩ k=>FM a b c d e f g l o q t u w z a0 a1 a4 (fun y14=>k .ret ⟨[(12,.ptr 0 0),(13,vI y14.1)],[.box [vZ (.int .i64) a2,vI a3,.own 1] false,.lst true (.int .i32) y14.2 false]⟩)⟩
def R7:Ent:=⟨[2,3,6,7,12,15,16,17,18,19,21,23,132,133],[sI,sI,sC (.ptr 0 0),sC (.ptr 1 0),sC (.ptr 2 0),sI,sI,sI,sI,sC (.ptr 3 0),sC (.ptr 4 0),sI,sI,sI],[.box [lZ (.int .i64),lI,lZ (.int .i8)] false,.box [lZ (.int .i64),lI,lZ (.int .i8)] false,.box [.cst (.pl (.slice none 0 0)),lI,.cst (.pl (.slice none 0 0))] false,.box [lI,lI,lI,lI,lI,lI,lI] false,.box [lZ (.int .i64),lI,.cst (.own 5)] false,.lst true (.int .i32) false],fun ⟨⟨a,b,_,_,_,c,d,e,f,_,_,g,i,j,_⟩,⟨⟨_,_,n,_⟩,⟨_,_,q,_⟩,⟨_,t,_⟩,⟨u,w,z,a0,a1,a2,a3,_⟩,⟨a4,a5,_⟩,a6,_⟩⟩ k=>xT a b c d e f g i n q u w z a0 a1 a2 a3 (fun y15=>k (.exit 0) ⟨[(12,.ptr 0 0),(21,.ptr 1 0)],[.box [.pl (.slice none 0 0),vI t,.pl (.slice none 0 0)] false,.box [vZ (.int .i64) a4,vI a5,.own 2] false,.lst true (.int .i32) y15 false]⟩) (j,a6)⟩
def RU:Ent:=⟨[2,3,6,7,12,15,16,17,18,19,21,23,24,25,132,133,144,145],[sI,sI,sC (.ptr 0 0),sC (.ptr 1 0),sC (.ptr 2 0),sI,sI,sI,sI,sC (.ptr 3 0),sC (.ptr 4 0),sI,sI,sC (.own 5),sI,sI,sI,sI],[.box [lZ (.int .i64),lI,lZ (.int .i8)] false,.box [lZ (.int .i64),lI,lZ (.int .i8)] false,.box [.cst (.pl (.slice none 0 0)),lI,.cst (.pl (.slice none 0 0))] false,.box [lI,lI,lI,lI,lI,lI,lI] false,.box [lZ (.int .i64),lI,.cst (.own 6)] false,.lst true bY false,.lst true (.int .i32) false],fun ⟨⟨a,b,_,_,_,c,d,e,f,_,_,g,i,_,j,l,m,n,_⟩,⟨⟨o,p,q,_⟩,⟨t,u,w,_⟩,⟨_,z,_⟩,⟨a0,a1,a2,a3,a4,a5,a6,_⟩,⟨a7,a8,_⟩,a9,b0,_⟩⟩ k=>xI a b d e f g i m q w a9 (fun y16=>k (.exit 2) ⟨[(2,vI a),(3,vI b),(6,.ptr 0 0),(7,.ptr 1 0),(12,.ptr 2 0),(15,vI c),(16,vI d),(17,vI e),(18,vI f),(19,.ptr 3 0),(21,.ptr 4 0),(23,vI g),(132,vI j),(133,vI l)],[.box [vZ (.int .i64) o,vI p,vZ (.int .i8) q] false,.box [vZ (.int .i64) t,vI u,vZ (.int .i8) w] false,.box [.pl (.slice none 0 0),vI z,.pl (.slice none 0 0)] false,.box [vI a0,vI a1,vI a2,vI a3,vI a4,vI a5,vI a6] false,.box [vZ (.int .i64) a7,vI a8,.own 5] false,.lst true (.int .i32) y16 false]⟩) (n,b0)⟩
def RR:Ent:=⟨[2,3,6,7,12,15,16,17,18,19,21,23,24,25,26,132,133,144,145,148,149],[sI,sI,sC (.ptr 0 0),sC (.ptr 1 0),sC (.ptr 2 0),sI,sI,sI,sI,sC (.ptr 3 0),sC (.ptr 4 0),sI,sI,sC (.own 5),sI,sI,sI,sI,sI,sI,sI],[.box [lZ (.int .i64),lI,lZ (.int .i8)] false,.box [lZ (.int .i64),lI,lZ (.int .i8)] false,.box [.cst (.pl (.slice none 0 0)),lI,.cst (.pl (.slice none 0 0))] false,.box [lI,lI,lI,lI,lI,lI,lI] false,.box [lZ (.int .i64),lI,.cst (.own 6)] false,.lst true bY false,.lst true (.int .i32) false],fun ⟨⟨a,b,_,_,_,c,d,e,f,_,_,g,i,_,j,l,m,n,o,p,q,_⟩,⟨⟨t,u,w,_⟩,⟨z,a0,a1,_⟩,⟨_,a2,_⟩,⟨a3,a4,a5,a6,a7,a8,a9,_⟩,⟨b0,b1,_⟩,b2,b3,_⟩⟩ k=>xW a b d e f g i j p w a1 b2 (fun y17=>k (.exit 4) ⟨[(2,vI a),(3,vI b),(6,.ptr 0 0),(7,.ptr 1 0),(12,.ptr 2 0),(15,vI c),(16,vI d),(17,vI e),(18,vI f),(19,.ptr 3 0),(21,.ptr 4 0),(23,vI g),(24,vI i),(25,.own 5),(132,vI l),(133,vI m),(144,vI n),(145,vI o)],[.box [vZ (.int .i64) t,vI u,vZ (.int .i8) w] false,.box [vZ (.int .i64) z,vI a0,vZ (.int .i8) a1] false,.box [.pl (.slice none 0 0),vI a2,.pl (.slice none 0 0)] false,.box [vI a3,vI a4,vI a5,vI a6,vI a7,vI a8,vI a9] false,.box [vZ (.int .i64) b0,vI b1,.own 6] false,.lst true bY b2 false,.lst true (.int .i32) y17 false]⟩) (q,b3)⟩
def SD:Ent:=⟨[2,3,6,7,12,15,16,17,18,19,21,23,24,25,26,27,28,132,133,144,145,148,149,152,153],[sI,sI,sC (.ptr 0 0),sC (.ptr 1 0),sC (.ptr 2 0),sI,sI,sI,sI,sC (.ptr 3 0),sC (.ptr 4 0),sI,sI,sC (.own 5),sI,sI,sI,sI,sI,sI,sI,sI,sI,sI,sI],[.box [lZ (.int .i64),lI,lZ (.int .i8)] false,.box [lZ (.int .i64),lI,lZ (.int .i8)] false,.box [.cst (.pl (.slice none 0 0)),lI,.cst (.pl (.slice none 0 0))] false,.box [lI,lI,lI,lI,lI,lI,lI] false,.box [lZ (.int .i64),lI,.cst (.own 6)] false,.lst true bY false,.lst true (.int .i32) false],fun ⟨⟨a,b,_,_,_,c,d,e,f,_,_,g,i,_,j,l,m,n,o,p,q,t,u,w,z,_⟩,⟨⟨a0,a1,a2,_⟩,⟨a3,a4,a5,_⟩,⟨_,a6,_⟩,⟨a7,a8,a9,b0,b1,b2,b3,_⟩,⟨b4,b5,_⟩,b6,b7,_⟩⟩ k=>yJ d e f g j l w a2 a5 b6 (fun y18=>k (.exit 6) ⟨[(2,vI a),(3,vI b),(6,.ptr 0 0),(7,.ptr 1 0),(12,.ptr 2 0),(15,vI c),(16,vI d),(17,vI e),(18,vI f),(19,.ptr 3 0),(21,.ptr 4 0),(23,vI g),(24,vI i),(25,.own 5),(26,vI j),(27,vI l),(28,vI y18),(132,vI n),(133,vI o),(144,vI p),(145,vI q),(148,vI t),(149,vI u)],[.box [vZ (.int .i64) a0,vI a1,vZ (.int .i8) a2] false,.box [vZ (.int .i64) a3,vI a4,vZ (.int .i8) a5] false,.box [.pl (.slice none 0 0),vI a6,.pl (.slice none 0 0)] false,.box [vI a7,vI a8,vI a9,vI b0,vI b1,vI b2,vI b3] false,.box [vZ (.int .i64) b4,vI b5,.own 6] false,.lst true bY b6 false,.lst true (.int .i32) b7 false]⟩) (m,z)⟩
def RO:Ent:=⟨[2,3,6,7,12,15,16,17,18,19,21,23,24,25,26,27,28,29,132,133,144,145,148,149,152,153,156,157,158],[sI,sI,sC (.ptr 0 0),sC (.ptr 1 0),sC (.ptr 2 0),sI,sI,sI,sI,sC (.ptr 3 0),sC (.ptr 4 0),sI,sI,sC (.own 5),sI,sI,sI,sI,sI,sI,sI,sI,sI,sI,sI,sI,sC (.own 5),sI,sI],[.box [lZ (.int .i64),lI,lZ (.int .i8)] false,.box [lZ (.int .i64),lI,lZ (.int .i8)] false,.box [.cst (.pl (.slice none 0 0)),lI,.cst (.pl (.slice none 0 0))] false,.box [lI,lI,lI,lI,lI,lI,lI] false,.box [lZ (.int .i64),lI,.cst (.own 6)] false,.lst true bY false,.lst true (.int .i32) false],fun ⟨⟨a,b,_,_,_,c,d,e,f,_,_,g,i,_,j,l,m,n,o,p,q,t,u,w,z,a0,_,a1,a2,_⟩,⟨⟨a3,a4,a5,_⟩,⟨a6,a7,a8,_⟩,⟨_,a9,_⟩,⟨b0,b1,b2,b3,b4,b5,b6,_⟩,⟨b7,b8,_⟩,b9,c0,_⟩⟩ k=>yB d e f g j l n a1 a5 a8 b9 (fun y19=>k (.exit 8) ⟨[(2,vI a),(3,vI b),(6,.ptr 0 0),(7,.ptr 1 0),(12,.ptr 2 0),(15,vI c),(16,vI d),(17,vI e),(18,vI f),(19,.ptr 3 0),(21,.ptr 4 0),(23,vI g),(24,vI i),(25,.own 5),(26,vI j),(27,vI l),(28,vI y19),(132,vI o),(133,vI p),(144,vI q),(145,vI t),(148,vI u),(149,vI w),(152,vI z),(153,vI a0)],[.box [vZ (.int .i64) a3,vI a4,vZ (.int .i8) a5] false,.box [vZ (.int .i64) a6,vI a7,vZ (.int .i8) a8] false,.box [.pl (.slice none 0 0),vI a9,.pl (.slice none 0 0)] false,.box [vI b0,vI b1,vI b2,vI b3,vI b4,vI b5,vI b6] false,.box [vZ (.int .i64) b7,vI b8,.own 6] false,.lst true bY b9 false,.lst true (.int .i32) c0 false]⟩) (m,a2)⟩
def UU:=A9.put tt 138 Tryz.func138 [12,13] [] [(127,SB),(4090,R7),(2094286,RU),(536137318,RR),(549004614042,SD),(140545181194854,RO)] [.agg [lZ (.int .i64),lI,lZ (.int .i8)],.agg [lZ (.int .i64),lI,lZ (.int .i8)],sI,sI,sI,sI] [(.p .f .n)] [(true,wL),(false,(.int .i64))] (fun x=>F5 (x.1.1,(x.1.2.1,x.1.2.2.1)) (x.2.1.1,(x.2.1.2.1,x.2.1.2.2.1)) x.2.2.1 x.2.2.2.1 x.2.2.2.2.1 x.2.2.2.2.2.1) ⟨fun _ _ hs ⟨⟨_,_,_,_,_,_,_,_,_,_,_,_,_⟩,⟨⟨_,_,_,_⟩,⟨_,_,_,_⟩,_,⟨_,_,_,_,_,_,_,_⟩,⟨_,_,_⟩,_,_⟩⟩ _ h=>aI hs h.it,fun _ _ hs ⟨⟨a,b,_,_,_,c,d,e,f,_,_,g,i,j,_⟩,⟨⟨l,m,n,_⟩,⟨o,p,q,_⟩,⟨_,t,_⟩,⟨u,w,z,a0,a1,a2,a3,_⟩,⟨a4,a5,_⟩,a6,_⟩⟩ _ h=>aD hs (fun y=>⟨⟨a,b,(),(),(),c,d,e,f,(),(),g,i,y.1,()⟩,⟨⟨l,m,n,()⟩,⟨o,p,q,()⟩,⟨(),t,(),()⟩,⟨u,w,z,a0,a1,a2,a3,()⟩,⟨a4,a5,(),()⟩,y.2,()⟩⟩) (j,a6) h.it,fun _ _ hs ⟨⟨a,b,_,_,_,c,d,e,f,_,_,g,i,_,j,l,m,n,_⟩,⟨⟨o,p,q,_⟩,⟨t,u,w,_⟩,⟨_,z,_⟩,⟨a0,a1,a2,a3,a4,a5,a6,_⟩,⟨a7,a8,_⟩,a9,b0,_⟩⟩ _ h=>aD hs (fun y=>⟨⟨a,b,(),(),(),c,d,e,f,(),(),g,i,(),j,l,m,y.1,()⟩,⟨⟨o,p,q,()⟩,⟨t,u,w,()⟩,⟨(),z,(),()⟩,⟨a0,a1,a2,a3,a4,a5,a6,()⟩,⟨a7,a8,(),()⟩,a9,y.2,()⟩⟩) (n,b0) h.it,fun _ _ hs ⟨⟨a,b,_,_,_,c,d,e,f,_,_,g,i,_,j,l,m,n,o,p,q,_⟩,⟨⟨t,u,w,_⟩,⟨z,a0,a1,_⟩,⟨_,a2,_⟩,⟨a3,a4,a5,a6,a7,a8,a9,_⟩,⟨b0,b1,_⟩,b2,b3,_⟩⟩ _ h=>aD hs (fun y=>⟨⟨a,b,(),(),(),c,d,e,f,(),(),g,i,(),j,l,m,n,o,p,y.1,()⟩,⟨⟨t,u,w,()⟩,⟨z,a0,a1,()⟩,⟨(),a2,(),()⟩,⟨a3,a4,a5,a6,a7,a8,a9,()⟩,⟨b0,b1,(),()⟩,b2,y.2,()⟩⟩) (q,b3) h.it,fun _ _ hs ⟨⟨a,b,_,_,_,c,d,e,f,_,_,g,i,_,j,l,m,n,o,p,q,t,u,w,z,_⟩,⟨⟨a0,a1,a2,_⟩,⟨a3,a4,a5,_⟩,⟨_,a6,_⟩,⟨a7,a8,a9,b0,b1,b2,b3,_⟩,⟨b4,b5,_⟩,b6,b7,_⟩⟩ _ h=>aD hs (fun y=>⟨⟨a,b,(),(),(),c,d,e,f,(),(),g,i,(),j,l,y.1,n,o,p,q,t,u,w,y.2,()⟩,⟨⟨a0,a1,a2,()⟩,⟨a3,a4,a5,()⟩,⟨(),a6,(),()⟩,⟨a7,a8,a9,b0,b1,b2,b3,()⟩,⟨b4,b5,(),()⟩,b6,b7,()⟩⟩) (m,z) h.it,fun _ _ hs ⟨⟨a,b,_,_,_,c,d,e,f,_,_,g,i,_,j,l,m,n,o,p,q,t,u,w,z,a0,_,a1,a2,_⟩,⟨⟨a3,a4,a5,_⟩,⟨a6,a7,a8,_⟩,⟨_,a9,_⟩,⟨b0,b1,b2,b3,b4,b5,b6,_⟩,⟨b7,b8,_⟩,b9,c0,_⟩⟩ _ h=>aD hs (fun y=>⟨⟨a,b,(),(),(),c,d,e,f,(),(),g,i,(),j,l,y.1,n,o,p,q,t,u,w,z,a0,(),a1,y.2,()⟩,⟨⟨a3,a4,a5,()⟩,⟨a6,a7,a8,()⟩,⟨(),a9,(),()⟩,⟨b0,b1,b2,b3,b4,b5,b6,()⟩,⟨b7,b8,(),()⟩,b9,c0,()⟩⟩) (m,a2) h.it,trivial⟩ fun _ _ h=>⟨_,h.it,by kernel_rfl⟩
def nY (x0 x2 x3 x4 x5 x6 x7 x16:Int) (x20 x23:List Int) (x30 x31 x34 x35 x36:Int) (K0:(List Int)->Prop) (s:Int×List Int) (nx:(Int×List Int)->Prop):Prop :=
 if (decide (s.1<x16))=true then ck ((0:Int)<=(IntKind.i64.wrap ((IntKind.i64.wrap ((IntKind.i64.wrap ((IntKind.i64.wrap ((IntKind.i64.wrap ((IntKind.i64.wrap (x7*x3))+s.1))*x0))+x35))*x0))+x36))/\(IntKind.i64.wrap ((IntKind.i64.wrap ((IntKind.i64.wrap ((IntKind.i64.wrap ((IntKind.i64.wrap ((IntKind.i64.wrap (x7*x3))+s.1))*x0))+x35))*x0))+x36))<(s.2.length:Int)) (ck ((0:Int)<=(IntKind.i64.wrap ((IntKind.i64.wrap ((IntKind.i64.wrap ((IntKind.i64.wrap ((IntKind.i64.wrap (x6*x2))+x7))*x30))*x31))+x5))/\(IntKind.i64.wrap ((IntKind.i64.wrap ((IntKind.i64.wrap ((IntKind.i64.wrap ((IntKind.i64.wrap (x6*x2))+x7))*x30))*x31))+x5))<(x20.length:Int)) (ck ((0:Int)<=(IntKind.i64.wrap ((IntKind.i64.wrap ((IntKind.i64.wrap ((IntKind.i64.wrap (x6*x3))+s.1))*x4))+x34))/\(IntKind.i64.wrap ((IntKind.i64.wrap ((IntKind.i64.wrap ((IntKind.i64.wrap (x6*x3))+s.1))*x4))+x34))<(x23.length:Int)) (ck ((0:Int)<=(IntKind.i64.wrap ((IntKind.i64.wrap ((IntKind.i64.wrap ((IntKind.i64.wrap ((IntKind.i64.wrap ((IntKind.i64.wrap (x7*x3))+s.1))*x0))+x35))*x0))+x36))/\(IntKind.i64.wrap ((IntKind.i64.wrap ((IntKind.i64.wrap ((IntKind.i64.wrap ((IntKind.i64.wrap ((IntKind.i64.wrap (x7*x3))+s.1))*x0))+x35))*x0))+x36))<(s.2.length:Int)) (nx (IntKind.i64.wrap (s.1+1),s.2.set ((IntKind.i64.wrap ((IntKind.i64.wrap ((IntKind.i64.wrap ((IntKind.i64.wrap ((IntKind.i64.wrap ((IntKind.i64.wrap (x7*x3))+s.1))*x0))+x35))*x0))+x36)).toNat) (IntKind.i32.wrap ((s.2.getD ((IntKind.i64.wrap ((IntKind.i64.wrap ((IntKind.i64.wrap ((IntKind.i64.wrap ((IntKind.i64.wrap ((IntKind.i64.wrap (x7*x3))+s.1))*x0))+x35))*x0))+x36)).toNat) 0)+(IntKind.i32.wrap ((IntKind.i32.wrap (x20.getD ((IntKind.i64.wrap ((IntKind.i64.wrap ((IntKind.i64.wrap ((IntKind.i64.wrap ((IntKind.i64.wrap (x6*x2))+x7))*x30))*x31))+x5)).toNat) 0))*(IntKind.i32.wrap (x23.getD ((IntKind.i64.wrap ((IntKind.i64.wrap ((IntKind.i64.wrap ((IntKind.i64.wrap (x6*x3))+s.1))*x4))+x34)).toNat) 0))))))))))) else K0 s.2
structure vC (x0 x2 x3 x4 x5 x6 x7 x16:Int) (x20 x23:List Int) (x30 x31 x34 x35 x36:Int) (K0:(List Int)->Prop) (s:Int×List Int):Prop where
 it:Go.Mach.Loop (nY x0 x2 x3 x4 x5 x6 x7 x16 x20 x23 x30 x31 x34 x35 x36 K0) s
def nQ (x0 x2 x3 x4 x5 x6 x13:Int) (x17 x20:List Int) (x27 x28 x31 x32 x33:Int) (K0:(List Int)->Prop) (s:Int×List Int) (nx:(Int×List Int)->Prop):Prop :=
 if (decide (s.1<x13))=true then vC x0 x2 x3 x4 x5 x6 s.1 x3 x17 x20 x27 x28 x31 x32 x33 (fun y11=>nx (IntKind.i64.wrap (s.1+1),y11)) (0,s.2) else K0 s.2
structure vD (x0 x2 x3 x4 x5 x6 x13:Int) (x17 x20:List Int) (x27 x28 x31 x32 x33:Int) (K0:(List Int)->Prop) (s:Int×List Int):Prop where
 it:Go.Mach.Loop (nQ x0 x2 x3 x4 x5 x6 x13 x17 x20 x27 x28 x31 x32 x33 K0) s
def nN (x0 x2 x3 x4 x5 x10:Int) (x14 x17:List Int) (x24 x25 x28 x29 x30:Int) (K0:(List Int)->Prop) (s:Int×List Int) (nx:(Int×List Int)->Prop):Prop :=
 if (decide (s.1<x10))=true then vD x0 x2 x3 x4 x5 s.1 x2 x14 x17 x24 x25 x28 x29 x30 (fun y11=>nx (IntKind.i64.wrap (s.1+1),y11)) (0,s.2) else K0 s.2
structure vA (x0 x2 x3 x4 x5 x10:Int) (x14 x17:List Int) (x24 x25 x28 x29 x30:Int) (K0:(List Int)->Prop) (s:Int×List Int):Prop where
 it:Go.Mach.Loop (nN x0 x2 x3 x4 x5 x10 x14 x17 x24 x25 x28 x29 x30 K0) s
def nT (x0 x1 x2 x3 x4 x5 x8:Int) (x12 x15:List Int) (x22 x23:Int) (x26:List bL) (K0:(List Int)->Prop) (s:Int×List Int) (nx:(Int×List Int)->Prop):Prop :=
 if (decide (s.1<x8))=true then ck ((0:Int)<=s.1/\s.1<(x26.length:Int)) (vA x0 x2 x3 x4 x5 x1 x12 x15 x22 x23 ((x26.getD ((s.1).toNat) (0,(0,0))).1) (((x26.getD ((s.1).toNat) (0,(0,0))).2).1) (((x26.getD ((s.1).toNat) (0,(0,0))).2).2) (fun y11=>nx (IntKind.i64.wrap (s.1+1),y11)) (0,s.2)) else K0 s.2
structure vP (x0 x1 x2 x3 x4 x5 x8:Int) (x12 x15:List Int) (x22 x23:Int) (x26:List bL) (K0:(List Int)->Prop) (s:Int×List Int):Prop where
 it:Go.Mach.Loop (nT x0 x1 x2 x3 x4 x5 x8 x12 x15 x22 x23 x26 K0) s
def nZ (x0 x1 x2 x3 x4 x5:Int) (x9 x12:List Int) (x14 x15 x16 x17 x18 x19 x20:Int) (K0:(List Int)->Prop) (s:Int×List Int) (nx:(Int×List Int)->Prop):Prop :=
 if (decide (s.1<x5))=true then ck (x20≠(0:Int)) (ck (x20≠(0:Int)) (t6 (x14,(x15,(x16,(x17,(x18,(x19,x20)))))) (IntKind.i64.wrap ((s.1).tdiv x20)) ((s.1).tmod x20) (fun r10=>vP x0 x1 x2 x3 x4 s.1 (r10.length:Int) x9 x12 x19 x20 r10 (fun y11=>nx (IntKind.i64.wrap (s.1+1),y11)) (0,s.2)))) else K0 s.2
structure vT (x0 x1 x2 x3 x4 x5:Int) (x9 x12:List Int) (x14 x15 x16 x17 x18 x19 x20:Int) (K0:(List Int)->Prop) (s:Int×List Int):Prop where
 it:Go.Mach.Loop (nZ x0 x1 x2 x3 x4 x5 x9 x12 x14 x15 x16 x17 x18 x19 x20 K0) s
structure DD (x0 x1 x2 x3 x4:Int) (x7 x10:List Int) (x12 x13 x14 x15 x16 x17 x18:Int) (x21:List Int) (K0:(Int×List Int)->Prop):Prop where
 it:if (x4 != 0)=true then K0 (x4,x21) else vT x0 x1 x2 x3 (IntKind.i64.wrap (x12*x13)) (IntKind.i64.wrap (x17*x18)) x7 x10 x12 x13 x14 x15 x16 x17 x18 (fun y10=>K0 (0,y10)) (0,x21)
structure C8 (a0 a1:bS) (a2 a3 a4:Int) (Q:(uN×Int)->Prop):Prop where
 it:zF [a0,a1] (fun r1=>if (r1 != 0)=true then Q ((([]:List Int),(0,([]:List Int))),r1) else ck ((0:Int)<=0/\0<(a0.1.length:Int)) (ck ((0:Int)<=1/\1<(a0.1.length:Int)) (ck ((0:Int)<=1/\1<(a1.1.length:Int)) (ck ((0:Int)<=2/\2<(a1.1.length:Int)) (ck ((0:Int)<=3/\3<(a1.1.length:Int)) (zA (a1.1.getD 2 0) (a1.1.getD 3 0) a2 a3 a4 (fun r2=>jn (fun v3=>jn (fun v5=>jn (fun v7=>if v7=true then Q ((([]:List Int),(0,([]:List Int))),2) else sH (IntKind.i64.wrap ((IntKind.i64.wrap ((a0.1.getD 0 0)*r2.1.2.2.2.2.2.1))*r2.1.2.2.2.2.2.2)) (IntKind.i64.wrap (a0.2.1+a1.2.1)) [a0.1.getD 1 0,a1.1.getD 1 0,a2,a2] (fun r9=>DD a2 (a0.1.getD 0 0) (a0.1.getD 1 0) (a1.1.getD 1 0) r9.2 a0.2.2 a1.2.2 r2.1.1 r2.1.2.1 r2.1.2.2.1 r2.1.2.2.2.1 r2.1.2.2.2.2.1 r2.1.2.2.2.2.2.1 r2.1.2.2.2.2.2.2 r9.1.2.2 (fun y11=>Q ((r9.1.1,(r9.1.2.1,y11.2)),y11.1)))) (fun J8=>if v5=true then J8 true else ck ((0:Int)<=3/\3<(a0.1.length:Int)) (J8 ((a0.1.getD 3 0) != r2.1.2.2.2.2.2.2)))) (fun J6=>if v3=true then J6 true else ck ((0:Int)<=2/\2<(a0.1.length:Int)) (J6 ((a0.1.getD 2 0) != r2.1.2.2.2.2.2.1)))) (fun J4=>if (!r2.2)=true then J4 true else ck ((0:Int)<=0/\0<(a1.1.length:Int)) (J4 ((a1.1.getD 0 0) != (a0.1.getD 0 0)))))))))))
def N0:Ent:=⟨[2,5,6,10,13,14,15,16,18,19],[sI,sC (.ptr 0 0),sC (.ptr 1 0),sC (.ptr 2 0),sI,sI,sI,sC (.ptr 3 0),sC (.ptr 4 0),sI],[.box [lZ (.int .i64),lI,lZ (.int .i8)] false,.box [lZ (.int .i64),lI,lZ (.int .i8)] false,.box [.cst (.pl (.slice none 0 0)),lI,.cst (.pl (.slice none 0 0))] false,.box [lI,lI,lI,lI,lI,lI,lI] false,.box [lZ (.int .i64),lI,.cst (.own 5)] false,.lst true (.int .i32) false],fun ⟨⟨a,_,_,_,b,c,d,_,_,e,_⟩,⟨⟨_,_,i,_⟩,⟨_,_,m,_⟩,_,⟨o,p,q,t,u,w,z,_⟩,⟨a0,a1,_⟩,a2,_⟩⟩ k=>DD a b c d e i m o p q t u w z a2 (fun y12=>k .ret ⟨[(10,.ptr 0 0),(11,vI y12.1)],[.box [vZ (.int .i64) a0,vI a1,.own 1] false,.lst true (.int .i32) y12.2 false]⟩)⟩
def P1:Ent:=⟨[2,5,6,10,13,14,15,16,18,20,125,126],[sI,sC (.ptr 0 0),sC (.ptr 1 0),sC (.ptr 2 0),sI,sI,sI,sC (.ptr 3 0),sC (.ptr 4 0),sI,sI,sI],[.box [lZ (.int .i64),lI,lZ (.int .i8)] false,.box [lZ (.int .i64),lI,lZ (.int .i8)] false,.box [.cst (.pl (.slice none 0 0)),lI,.cst (.pl (.slice none 0 0))] false,.box [lI,lI,lI,lI,lI,lI,lI] false,.box [lZ (.int .i64),lI,.cst (.own 5)] false,.lst true (.int .i32) false],fun ⟨⟨a,_,_,_,b,c,d,_,_,e,f,g,_⟩,⟨⟨_,_,l,_⟩,⟨_,_,o,_⟩,⟨_,p,_⟩,⟨q,t,u,w,z,a0,a1,_⟩,⟨a2,a3,_⟩,a4,_⟩⟩ k=>vT a b c d e f l o q t u w z a0 a1 (fun y13=>k (.exit 0) ⟨[(10,.ptr 0 0),(18,.ptr 1 0)],[.box [.pl (.slice none 0 0),vI p,.pl (.slice none 0 0)] false,.box [vZ (.int .i64) a2,vI a3,.own 2] false,.lst true (.int .i32) y13 false]⟩) (g,a4)⟩
def PV:Ent:=⟨[2,5,6,10,13,14,15,16,18,20,21,125,126,138,139,140],[sI,sC (.ptr 0 0),sC (.ptr 1 0),sC (.ptr 2 0),sI,sI,sI,sC (.ptr 3 0),sC (.ptr 4 0),sI,sI,sI,sI,sC (.own 5),sI,sI],[.box [lZ (.int .i64),lI,lZ (.int .i8)] false,.box [lZ (.int .i64),lI,lZ (.int .i8)] false,.box [.cst (.pl (.slice none 0 0)),lI,.cst (.pl (.slice none 0 0))] false,.box [lI,lI,lI,lI,lI,lI,lI] false,.box [lZ (.int .i64),lI,.cst (.own 6)] false,.lst true bY false,.lst true (.int .i32) false],fun ⟨⟨a,_,_,_,b,c,d,_,_,e,f,g,i,_,j,l,_⟩,⟨⟨m,n,o,_⟩,⟨p,q,t,_⟩,⟨_,u,_⟩,⟨w,z,a0,a1,a2,a3,a4,_⟩,⟨a5,a6,_⟩,a7,a8,_⟩⟩ k=>vP a b c d e f j o t a3 a4 a7 (fun y14=>k (.exit 2) ⟨[(2,vI a),(5,.ptr 0 0),(6,.ptr 1 0),(10,.ptr 2 0),(13,vI b),(14,vI c),(15,vI d),(16,.ptr 3 0),(18,.ptr 4 0),(20,vI e),(125,vI g),(126,vI i)],[.box [vZ (.int .i64) m,vI n,vZ (.int .i8) o] false,.box [vZ (.int .i64) p,vI q,vZ (.int .i8) t] false,.box [.pl (.slice none 0 0),vI u,.pl (.slice none 0 0)] false,.box [vI w,vI z,vI a0,vI a1,vI a2,vI a3,vI a4] false,.box [vZ (.int .i64) a5,vI a6,.own 5] false,.lst true (.int .i32) y14 false]⟩) (l,a8)⟩
def ON:Ent:=⟨[2,5,6,10,13,14,15,16,18,20,21,23,125,126,138,139,140,144,145],[sI,sC (.ptr 0 0),sC (.ptr 1 0),sC (.ptr 2 0),sI,sI,sI,sC (.ptr 3 0),sC (.ptr 4 0),sI,sI,sC (.ptr 5 0),sI,sI,sC (.own 6),sI,sI,sI,sI],[.box [lZ (.int .i64),lI,lZ (.int .i8)] false,.box [lZ (.int .i64),lI,lZ (.int .i8)] false,.box [.cst (.pl (.slice none 0 0)),lI,.cst (.pl (.slice none 0 0))] false,.box [lI,lI,lI,lI,lI,lI,lI] false,.box [lZ (.int .i64),lI,.cst (.own 7)] false,.box [lI,lI,lI] false,.lst true bY false,.lst true (.int .i32) false],fun ⟨⟨a,_,_,_,b,c,d,_,_,e,f,_,g,i,_,j,l,m,n,_⟩,⟨⟨o,p,q,_⟩,⟨t,u,w,_⟩,⟨_,z,_⟩,⟨a0,a1,a2,a3,a4,a5,a6,_⟩,⟨a7,a8,_⟩,⟨a9,b0,b1,_⟩,b2,b3,_⟩⟩ k=>vA a c d e f m q w a5 a6 a9 b0 b1 (fun y15=>k (.exit 4) ⟨[(2,vI a),(5,.ptr 0 0),(6,.ptr 1 0),(10,.ptr 2 0),(13,vI b),(14,vI c),(15,vI d),(16,.ptr 3 0),(18,.ptr 4 0),(20,vI e),(21,vI f),(125,vI g),(126,vI i),(138,.own 5),(139,vI j),(140,vI l)],[.box [vZ (.int .i64) o,vI p,vZ (.int .i8) q] false,.box [vZ (.int .i64) t,vI u,vZ (.int .i8) w] false,.box [.pl (.slice none 0 0),vI z,.pl (.slice none 0 0)] false,.box [vI a0,vI a1,vI a2,vI a3,vI a4,vI a5,vI a6] false,.box [vZ (.int .i64) a7,vI a8,.own 6] false,.lst true bY b2 false,.lst true (.int .i32) y15 false]⟩) (n,b3)⟩
def O4:Ent:=⟨[2,5,6,10,13,14,15,16,18,20,21,23,24,125,126,138,139,140,144,145,148,149],[sI,sC (.ptr 0 0),sC (.ptr 1 0),sC (.ptr 2 0),sI,sI,sI,sC (.ptr 3 0),sC (.ptr 4 0),sI,sI,sC (.ptr 5 0),sI,sI,sI,sC (.own 6),sI,sI,sI,sI,sI,sI],[.box [lZ (.int .i64),lI,lZ (.int .i8)] false,.box [lZ (.int .i64),lI,lZ (.int .i8)] false,.box [.cst (.pl (.slice none 0 0)),lI,.cst (.pl (.slice none 0 0))] false,.box [lI,lI,lI,lI,lI,lI,lI] false,.box [lZ (.int .i64),lI,.cst (.own 7)] false,.box [lI,lI,lI] false,.lst true bY false,.lst true (.int .i32) false],fun ⟨⟨a,_,_,_,b,c,d,_,_,e,f,_,g,i,j,_,l,m,n,o,p,q,_⟩,⟨⟨t,u,w,_⟩,⟨z,a0,a1,_⟩,⟨_,a2,_⟩,⟨a3,a4,a5,a6,a7,a8,a9,_⟩,⟨b0,b1,_⟩,⟨b2,b3,b4,_⟩,b5,b6,_⟩⟩ k=>vD a c d e f g p w a1 a8 a9 b2 b3 b4 (fun y16=>k (.exit 6) ⟨[(2,vI a),(5,.ptr 0 0),(6,.ptr 1 0),(10,.ptr 2 0),(13,vI b),(14,vI c),(15,vI d),(16,.ptr 3 0),(18,.ptr 4 0),(20,vI e),(21,vI f),(23,.ptr 5 0),(125,vI i),(126,vI j),(138,.own 6),(139,vI l),(140,vI m),(144,vI n),(145,vI o)],[.box [vZ (.int .i64) t,vI u,vZ (.int .i8) w] false,.box [vZ (.int .i64) z,vI a0,vZ (.int .i8) a1] false,.box [.pl (.slice none 0 0),vI a2,.pl (.slice none 0 0)] false,.box [vI a3,vI a4,vI a5,vI a6,vI a7,vI a8,vI a9] false,.box [vZ (.int .i64) b0,vI b1,.own 7] false,.box [vI b2,vI b3,vI b4] false,.lst true bY b5 false,.lst true (.int .i32) y16 false]⟩) (q,b6)⟩
def OG:Ent:=⟨[2,5,6,10,13,14,15,16,18,20,21,23,24,25,125,126,138,139,140,144,145,148,149,152,153],[sI,sC (.ptr 0 0),sC (.ptr 1 0),sC (.ptr 2 0),sI,sI,sI,sC (.ptr 3 0),sC (.ptr 4 0),sI,sI,sC (.ptr 5 0),sI,sI,sI,sI,sC (.own 6),sI,sI,sI,sI,sI,sI,sI,sI],[.box [lZ (.int .i64),lI,lZ (.int .i8)] false,.box [lZ (.int .i64),lI,lZ (.int .i8)] false,.box [.cst (.pl (.slice none 0 0)),lI,.cst (.pl (.slice none 0 0))] false,.box [lI,lI,lI,lI,lI,lI,lI] false,.box [lZ (.int .i64),lI,.cst (.own 7)] false,.box [lI,lI,lI] false,.lst true bY false,.lst true (.int .i32) false],fun ⟨⟨a,_,_,_,b,c,d,_,_,e,f,_,g,i,j,l,_,m,n,o,p,q,t,u,w,_⟩,⟨⟨z,a0,a1,_⟩,⟨a2,a3,a4,_⟩,⟨_,a5,_⟩,⟨a6,a7,a8,a9,b0,b1,b2,_⟩,⟨b3,b4,_⟩,⟨b5,b6,b7,_⟩,b8,b9,_⟩⟩ k=>vC a c d e f g i u a1 a4 b1 b2 b5 b6 b7 (fun y17=>k (.exit 8) ⟨[(2,vI a),(5,.ptr 0 0),(6,.ptr 1 0),(10,.ptr 2 0),(13,vI b),(14,vI c),(15,vI d),(16,.ptr 3 0),(18,.ptr 4 0),(20,vI e),(21,vI f),(23,.ptr 5 0),(24,vI g),(125,vI j),(126,vI l),(138,.own 6),(139,vI m),(140,vI n),(144,vI o),(145,vI p),(148,vI q),(149,vI t)],[.box [vZ (.int .i64) z,vI a0,vZ (.int .i8) a1] false,.box [vZ (.int .i64) a2,vI a3,vZ (.int .i8) a4] false,.box [.pl (.slice none 0 0),vI a5,.pl (.slice none 0 0)] false,.box [vI a6,vI a7,vI a8,vI a9,vI b0,vI b1,vI b2] false,.box [vZ (.int .i64) b3,vI b4,.own 7] false,.box [vI b5,vI b6,vI b7] false,.lst true bY b8 false,.lst true (.int .i32) y17 false]⟩) (w,b9)⟩
def RI:=UU.put tt 134 Tryz.func134 [10,11] [] [(127,N0),(4090,P1),(1047142,PV),(268068454,ON),(68625524326,O4),(17568134227558,OG)] [.agg [lZ (.int .i64),lI,lZ (.int .i8)],.agg [lZ (.int .i64),lI,lZ (.int .i8)],sI,sI,sI] [(.p .f .n)] [(true,wL),(false,(.int .i64))] (fun x=>C8 (x.1.1,(x.1.2.1,x.1.2.2.1)) (x.2.1.1,(x.2.1.2.1,x.2.1.2.2.1)) x.2.2.1 x.2.2.2.1 x.2.2.2.2.1) ⟨fun _ _ hs ⟨⟨_,_,_,_,_,_,_,_,_,_,_⟩,⟨⟨_,_,_,_⟩,⟨_,_,_,_⟩,_,⟨_,_,_,_,_,_,_,_⟩,⟨_,_,_⟩,_,_⟩⟩ _ h=>aI hs h.it,fun _ _ hs ⟨⟨a,_,_,_,b,c,d,_,_,e,f,g,_⟩,⟨⟨i,j,l,_⟩,⟨m,n,o,_⟩,⟨_,p,_⟩,⟨q,t,u,w,z,a0,a1,_⟩,⟨a2,a3,_⟩,a4,_⟩⟩ _ h=>aD hs (fun y=>⟨⟨a,(),(),(),b,c,d,(),(),e,f,y.1,()⟩,⟨⟨i,j,l,()⟩,⟨m,n,o,()⟩,⟨(),p,(),()⟩,⟨q,t,u,w,z,a0,a1,()⟩,⟨a2,a3,(),()⟩,y.2,()⟩⟩) (g,a4) h.it,fun _ _ hs ⟨⟨a,_,_,_,b,c,d,_,_,e,f,g,i,_,j,l,_⟩,⟨⟨m,n,o,_⟩,⟨p,q,t,_⟩,⟨_,u,_⟩,⟨w,z,a0,a1,a2,a3,a4,_⟩,⟨a5,a6,_⟩,a7,a8,_⟩⟩ _ h=>aD hs (fun y=>⟨⟨a,(),(),(),b,c,d,(),(),e,f,g,i,(),j,y.1,()⟩,⟨⟨m,n,o,()⟩,⟨p,q,t,()⟩,⟨(),u,(),()⟩,⟨w,z,a0,a1,a2,a3,a4,()⟩,⟨a5,a6,(),()⟩,a7,y.2,()⟩⟩) (l,a8) h.it,fun _ _ hs ⟨⟨a,_,_,_,b,c,d,_,_,e,f,_,g,i,_,j,l,m,n,_⟩,⟨⟨o,p,q,_⟩,⟨t,u,w,_⟩,⟨_,z,_⟩,⟨a0,a1,a2,a3,a4,a5,a6,_⟩,⟨a7,a8,_⟩,⟨a9,b0,b1,_⟩,b2,b3,_⟩⟩ _ h=>aD hs (fun y=>⟨⟨a,(),(),(),b,c,d,(),(),e,f,(),g,i,(),j,l,m,y.1,()⟩,⟨⟨o,p,q,()⟩,⟨t,u,w,()⟩,⟨(),z,(),()⟩,⟨a0,a1,a2,a3,a4,a5,a6,()⟩,⟨a7,a8,(),()⟩,⟨a9,b0,b1,()⟩,b2,y.2,()⟩⟩) (n,b3) h.it,fun _ _ hs ⟨⟨a,_,_,_,b,c,d,_,_,e,f,_,g,i,j,_,l,m,n,o,p,q,_⟩,⟨⟨t,u,w,_⟩,⟨z,a0,a1,_⟩,⟨_,a2,_⟩,⟨a3,a4,a5,a6,a7,a8,a9,_⟩,⟨b0,b1,_⟩,⟨b2,b3,b4,_⟩,b5,b6,_⟩⟩ _ h=>aD hs (fun y=>⟨⟨a,(),(),(),b,c,d,(),(),e,f,(),g,i,j,(),l,m,n,o,p,y.1,()⟩,⟨⟨t,u,w,()⟩,⟨z,a0,a1,()⟩,⟨(),a2,(),()⟩,⟨a3,a4,a5,a6,a7,a8,a9,()⟩,⟨b0,b1,(),()⟩,⟨b2,b3,b4,()⟩,b5,y.2,()⟩⟩) (q,b6) h.it,fun _ _ hs ⟨⟨a,_,_,_,b,c,d,_,_,e,f,_,g,i,j,l,_,m,n,o,p,q,t,u,w,_⟩,⟨⟨z,a0,a1,_⟩,⟨a2,a3,a4,_⟩,⟨_,a5,_⟩,⟨a6,a7,a8,a9,b0,b1,b2,_⟩,⟨b3,b4,_⟩,⟨b5,b6,b7,_⟩,b8,b9,_⟩⟩ _ h=>aD hs (fun y=>⟨⟨a,(),(),(),b,c,d,(),(),e,f,(),g,i,j,l,(),m,n,o,p,q,t,u,y.1,()⟩,⟨⟨z,a0,a1,()⟩,⟨a2,a3,a4,()⟩,⟨(),a5,(),()⟩,⟨a6,a7,a8,a9,b0,b1,b2,()⟩,⟨b3,b4,(),()⟩,⟨b5,b6,b7,()⟩,b8,y.2,()⟩⟩) (w,b9) h.it,trivial⟩ fun _ _ h=>⟨_,h.it,by kernel_rfl⟩
def qO (x0 x1:Int) (x2:List Int) (x3:Int) (K0:(List Int)->Prop) (s:Int×List Int) (nx:(Int×List Int)->Prop):Prop :=
 if (decide (s.1<x3))=true then ck ((0:Int)<=s.1/\s.1<(x2.length:Int)) (ck (x1≠(0:Int)) (ck (x0≠(0:Int)) (ck ((0:Int)<=((IntKind.i64.wrap ((s.1).tdiv x1)).tmod x0)/\((IntKind.i64.wrap ((s.1).tdiv x1)).tmod x0)<(s.2.length:Int)) (ck ((0:Int)<=((IntKind.i64.wrap ((s.1).tdiv x1)).tmod x0)/\((IntKind.i64.wrap ((s.1).tdiv x1)).tmod x0)<(s.2.length:Int)) (nx (IntKind.i64.wrap (s.1+1),s.2.set (((IntKind.i64.wrap ((s.1).tdiv x1)).tmod x0).toNat) (IntKind.i32.wrap ((s.2.getD (((IntKind.i64.wrap ((s.1).tdiv x1)).tmod x0).toNat) 0)+(IntKind.i32.wrap (x2.getD ((s.1).toNat) 0)))))))))) else K0 s.2
structure BC (x0 x1:Int) (x2:List Int) (x3:Int) (K0:(List Int)->Prop) (s:Int×List Int):Prop where
 it:Go.Mach.Loop (qO x0 x1 x2 x3 K0) s
structure KB (a0:bS) (Q:(uN×Int)->Prop):Prop where
 it:zF [a0] (fun r1=>if (r1 != 0)=true then Q ((([]:List Int),(0,([]:List Int))),r1) else ck ((0:Int)<=0/\0<(a0.1.length:Int)) (ck ((0:Int)<=1/\1<(a0.1.length:Int)) (ck ((0:Int)<=2/\2<(a0.1.length:Int)) (ck ((0:Int)<=3/\3<(a0.1.length:Int)) (sH (IntKind.i64.wrap ((a0.1.getD 0 0)*(IntKind.i64.wrap ((a0.1.getD 2 0)*(a0.1.getD 3 0))))) a0.2.1 [a0.1.getD 1 0] (fun r2=>if (r2.2 != 0)=true then Q (r2.1,r2.2) else BC (a0.1.getD 1 0) (IntKind.i64.wrap ((a0.1.getD 2 0)*(a0.1.getD 3 0))) a0.2.2 (a0.2.2.length:Int) (fun y3=>Q ((r2.1.1,(r2.1.2.1,y3)),0)) (0,r2.1.2.2)))))))
def VK:Ent:=⟨[2,6,7,8,52,53,54],[sC (.ptr 0 0),sI,sI,sC (.ptr 1 0),sZ (.int .i8),sI,sI],[.box [.cst (.pl (.slice none 0 0)),lI,.cst (.pl (.slice none 0 0))] false,.box [lZ (.int .i64),lI,.cst (.own 2)] false,.lst true (.int .i32) false],fun ⟨⟨_,a,b,_,c,d,e,_⟩,⟨⟨_,f,_⟩,⟨g,i,_⟩,j,_⟩⟩ k=>BC a b c d (fun y4=>k (.exit 0) ⟨[(2,.ptr 0 0),(8,.ptr 1 0)],[.box [.pl (.slice none 0 0),vI f,.pl (.slice none 0 0)] false,.box [vZ (.int .i64) g,vI i,.own 2] false,.lst true (.int .i32) y4 false]⟩) (e,j)⟩
def X3:=RI.put tt 135 Tryz.func135 [2,3] [] [(506,VK)] [.agg [lZ (.int .i64),lI,lZ (.int .i8)]] [(.p .f .n)] [(true,wL),(false,(.int .i64))] (fun x=>KB (x.1.1,(x.1.2.1,x.1.2.2.1))) ⟨fun _ _ hs ⟨⟨_,a,b,_,c,d,e,_⟩,⟨⟨_,f,_⟩,⟨g,i,_⟩,j,_⟩⟩ _ h=>aD hs (fun y=>⟨⟨(),a,b,(),c,d,y.1,()⟩,⟨⟨(),f,(),()⟩,⟨g,i,(),()⟩,y.2,()⟩⟩) (e,j) h.it,trivial⟩ fun _ _ h=>⟨_,h.it,by kernel_rfl⟩
def mF (x0:Int) (x1:List Int) (x2:Int) (x6:List Int) (K0:(List Int)->Prop) (K1:Unit->Prop) (s:Int×List Int) (nx:(Int×List Int)->Prop):Prop :=
 if (decide (s.1<x2))=true then ck ((0:Int)<=s.1/\s.1<(x1.length:Int)) (if ((decide ((x1.getD ((s.1).toNat) 0)<0))||(decide (x0<=(x1.getD ((s.1).toNat) 0))))=true then K1 () else ck ((0:Int)<=(x1.getD ((s.1).toNat) 0)/\(x1.getD ((s.1).toNat) 0)<(s.2.length:Int)) (ck ((0:Int)<=s.1/\s.1<(x6.length:Int)) (ck ((0:Int)<=(x1.getD ((s.1).toNat) 0)/\(x1.getD ((s.1).toNat) 0)<(s.2.length:Int)) (nx (IntKind.i64.wrap (s.1+1),s.2.set ((x1.getD ((s.1).toNat) 0).toNat) (IntKind.i32.wrap ((s.2.getD ((x1.getD ((s.1).toNat) 0).toNat) 0)+(IntKind.i32.wrap (x6.getD ((s.1).toNat) 0))))))))) else K0 s.2
structure CJ (x0:Int) (x1:List Int) (x2:Int) (x6:List Int) (K0:(List Int)->Prop) (K1:Unit->Prop) (s:Int×List Int):Prop where
 it:Go.Mach.Loop (mF x0 x1 x2 x6 K0 K1) s
structure BN (a0:bS) (a1 a2:List Int) (Q:(uN×Int)->Prop):Prop where
 it:j6 a2 (fun r1=>bF a0 (fun r2=>if ((!r2)||(r1==0))=true then Q ((([]:List Int),(0,([]:List Int))),1) else if ((a1.length:Int) != (a0.2.2.length:Int))=true then Q ((([]:List Int),(0,([]:List Int))),2) else aN a2 (fun r3=>ck ((0:Int)<=r1/\((4:Nat):Int)*r1<=70368744177664) (CJ r1 a1 (a1.length:Int) a0.2.2 (fun y4=>Q ((r3,(a0.2.1,y4)),0)) (fun _=>Q ((([]:List Int),(0,([]:List Int))),1)) (0,List.replicate (r1).toNat (0:Int))))))
def MX:Ent:=⟨[3,6,8,9,38,39,40],[sC (.ptr 0 0),sC (.ptr 1 0),sI,sC (.ptr 2 0),sZ (.int .i64),sI,sI],[.box [lZ (.int .i64),lI,lZ (.int .i8)] false,.box [.cst (.pl (.slice none 0 0)),lI,.cst (.pl (.slice none 0 0))] false,.box [.cst (.own 3),lI,.cst (.own 4)] false,.lst true (.int .i64) false,.lst true (.int .i32) false],fun ⟨⟨_,_,a,_,b,c,d,_⟩,⟨⟨_,_,g,_⟩,⟨_,i,_⟩,⟨_,j,_⟩,l,m,_⟩⟩ k=>CJ a b c g (fun y6=>k (.exit 1) ⟨[(6,.ptr 0 0),(9,.ptr 1 0)],[.box [.pl (.slice none 0 0),vI i,.pl (.slice none 0 0)] false,.box [.own 2,vI j,.own 3] false,.lst true (.int .i64) l false,.lst true (.int .i32) y6 false]⟩) (fun _=>k .ret ⟨[(6,.ptr 0 0),(7,vI 1)],[.box [.pl (.slice none 0 0),vI 0,.pl (.slice none 0 0)] false]⟩) (d,m)⟩
def iY:=X3.put tt 139 Tryz.func139 [6,7] [] [(250,MX)] [.agg [lZ (.int .i64),lI,lZ (.int .i8)],sZ (.int .i64),sZ (.int .i64)] [] [(true,wL),(false,(.int .i64))] (fun x=>BN (x.1.1,(x.1.2.1,x.1.2.2.1)) x.2.1 x.2.2.1) ⟨fun _ _ hs ⟨⟨_,_,a,_,b,c,d,_⟩,⟨⟨e,f,g,_⟩,⟨_,i,_⟩,⟨_,j,_⟩,l,m,_⟩⟩ _ h=>aD hs (fun y=>⟨⟨(),(),a,(),b,c,y.1,()⟩,⟨⟨e,f,g,()⟩,⟨(),i,(),()⟩,⟨(),j,(),()⟩,l,y.2,()⟩⟩) (d,m) h.it,trivial⟩ fun _ _ h=>⟨_,h.it,by kernel_rfl⟩
def aU (x0 x1:Int) (x11 x12:List Int) (K0:(List Int)->Prop) (s:Int×List Int) (nx:(Int×List Int)->Prop):Prop :=
 if (decide (s.1<x1))=true then ck ((0:Int)<=s.1/\s.1<(x12.length:Int)) (ck ((0:Int)<=(x12.getD ((s.1).toNat) 0)/\(x12.getD ((s.1).toNat) 0)<(s.2.length:Int)) (ck ((0:Int)<=x0/\x0<(x11.length:Int)) (ck ((0:Int)<=(x12.getD ((s.1).toNat) 0)/\(x12.getD ((s.1).toNat) 0)<(s.2.length:Int)) (nx (IntKind.i64.wrap (s.1+1),s.2.set ((x12.getD ((s.1).toNat) 0).toNat) (IntKind.i32.wrap ((s.2.getD ((x12.getD ((s.1).toNat) 0).toNat) 0)+(IntKind.i32.wrap (x11.getD ((x0).toNat) 0))))))))) else K0 s.2
structure bT (x0 x1:Int) (x11 x12:List Int) (K0:(List Int)->Prop) (s:Int×List Int):Prop where
 it:Go.Mach.Loop (aU x0 x1 x11 x12 K0) s
def iV:Ent:=⟨[0,2,3,8,9,10,30,31,34,39,40,47,48,109,113],[sI,sC (.ptr 0 0),sC (.ptr 1 0),sC (.own 2),sI,sI,.fn 181 [.lf (.cst (.ptr 0 0)),.lf (.cst (.ptr 1 0))],sC (.ptr 3 0),sI,sI,sI,sI,sI,sC (.ptr 4 0),sC (.ptr 0 0)],[.box [.cst (.own 5),lI,.cst (.own 6)] false,.box [lZ (.int .i64),lI,lZ (.int .i8)] false,.lst true (.int .i64) false,.box [lI,lI,lI,lI,lI,lI] false,.box [.cst (.pl (.slice none 0 0)),lI,.cst (.pl (.slice none 0 0))] false,.lst true (.int .i64) false,.lst true (.int .i32) false],fun ⟨⟨a,_,_,_,b,c,_,_,d,e,f,g,i,_⟩,⟨⟨_,j,_⟩,⟨l,m,n,_⟩,o,⟨p,q,t,u,w,z,_⟩,⟨_,a0,_⟩,a1,a2,_⟩⟩ k=>bT a b n o (fun yii3=>k (.exit 0) ⟨[(30,.fn 181 [.ptr 0 0,.ptr 1 0]),(31,.ptr 2 0),(34,vI d),(39,vI e),(40,vI f),(47,vI g),(48,vI i),(109,.ptr 3 0),(113,.ptr 0 0)],[.box [.own 4,vI j,.own 5] false,.box [vZ (.int .i64) l,vI m,vZ (.int .i8) n] false,.box [vI p,vI q,vI t,vI u,vI w,vI z] false,.box [.pl (.slice none 0 0),vI a0,.pl (.slice none 0 0)] false,.lst true (.int .i64) a1 false,.lst true (.int .i32) yii3 false]⟩) (c,a2)⟩
def bW:Inl:=OO (iY.cfg tt none false 0) 181 Tryz.f181 [(6,iV)] [30,31,34,39,40,47,48,109,113] []
theorem iT:cA Tryz.prog bW:=sX (G:=(iY.cfg tt none false 0)) Tryz.func181 iY.ok hI0 ⟨fun _ _ hs ⟨⟨a,_,_,_,b,c,_,_,d,e,f,g,i,_⟩,⟨⟨_,j,_⟩,⟨l,m,n,_⟩,o,⟨p,q,t,u,w,z,_⟩,⟨_,a0,_⟩,a1,a2,_⟩⟩ _ h=>aD hs (fun y=>⟨⟨a,(),(),(),b,y.1,⟨(),(),()⟩,(),d,e,f,g,i,(),(),()⟩,⟨⟨(),j,(),()⟩,⟨l,m,n,()⟩,o,⟨p,q,t,u,w,z,()⟩,⟨(),a0,(),()⟩,a1,y.2,()⟩⟩) (c,a2) h.it,trivial⟩
def cH (x0 x6 x12 x13:Int) (x19:List bL) (K0:(List Int)->Prop) (s:Int×List Int) (nx:(Int×List Int)->Prop):Prop :=
 if (decide (s.1<x6))=true then ck ((0:Int)<=s.1/\s.1<(x19.length:Int)) (ck ((s.2.length+[IntKind.i64.wrap ((IntKind.i64.wrap ((IntKind.i64.wrap (x0*x12))*x13))+((x19.getD ((s.1).toNat) (0,(0,0))).1))].length)*8<=140737488355328) (nx (IntKind.i64.wrap (s.1+1),s.2++[IntKind.i64.wrap ((IntKind.i64.wrap ((IntKind.i64.wrap (x0*x12))*x13))+((x19.getD ((s.1).toNat) (0,(0,0))).1))]))) else K0 s.2
structure d9 (x0 x6 x12 x13:Int) (x19:List bL) (K0:(List Int)->Prop) (s:Int×List Int):Prop where
 it:Go.Mach.Loop (cH x0 x6 x12 x13 x19 K0) s
def cJ (x0 x3:Int) (x8:List Int) (x9 x10 x11 x12 x13 x14:Int) (K0:(List Int)->Prop) (s:Int×List Int) (nx:(Int×List Int)->Prop):Prop :=
 if (decide (s.1<x3))=true then ck (x14≠(0:Int)) (ck (x14≠(0:Int)) (nS x9 x10 (IntKind.i64.wrap ((s.1).tdiv x14)) ((s.1).tmod x14) x11 x12 0 (fun ri1=>d9 x0 (ri1.length:Int) x9 x10 ri1 (fun yi2=>bT (IntKind.i64.wrap ((IntKind.i64.wrap ((IntKind.i64.wrap (x0*x13))*x14))+s.1)) (yi2.length:Int) x8 yi2 (fun yii2=>nx (IntKind.i64.wrap (s.1+1),yii2)) (0,s.2)) (0,([]:List Int))))) else K0 s.2
structure eC (x0 x3:Int) (x8:List Int) (x9 x10 x11 x12 x13 x14:Int) (K0:(List Int)->Prop) (s:Int×List Int):Prop where
 it:Go.Mach.Loop (cJ x0 x3 x8 x9 x10 x11 x12 x13 x14 K0) s
def cI (x0:Int) (x5:List Int) (x6 x7 x8 x9 x10 x11:Int) (K0:(List Int)->Prop) (s:Int×List Int) (nx:(Int×List Int)->Prop):Prop :=
 if (decide (s.1<x0))=true then eC s.1 (IntKind.i64.wrap (x10*x11)) x5 x6 x7 x8 x9 x10 x11 (fun yi1=>nx (IntKind.i64.wrap (s.1+1),yi1)) (0,s.2) else K0 s.2
structure eB (x0:Int) (x5:List Int) (x6 x7 x8 x9 x10 x11:Int) (K0:(List Int)->Prop) (s:Int×List Int):Prop where
 it:Go.Mach.Loop (cI x0 x5 x6 x7 x8 x9 x10 x11 K0) s
def pS:Ent:=⟨[2,3,11,12,81,85],[.fn 181 [.lf (.cst (.ptr 0 0)),.lf (.cst (.ptr 1 0))],sC (.ptr 2 0),sI,sI,sC (.ptr 3 0),sC (.ptr 0 0)],[.box [.cst (.own 4),lI,.cst (.own 5)] false,.box [lZ (.int .i64),lI,lZ (.int .i8)] false,.box [lI,lI,lI,lI,lI,lI] false,.box [.cst (.pl (.slice none 0 0)),lI,.cst (.pl (.slice none 0 0))] false,.lst true (.int .i64) false,.lst true (.int .i32) false],fun ⟨⟨_,_,a,b,_⟩,⟨⟨_,c,_⟩,⟨_,_,f,_⟩,⟨g,i,j,l,m,n,_⟩,⟨_,o,_⟩,p,q,_⟩⟩ k=>eB a f g i j l m n (fun yi3=>k (.exit 0) ⟨[(81,.ptr 0 0),(85,.ptr 1 0)],[.box [.pl (.slice none 0 0),vI o,.pl (.slice none 0 0)] false,.box [.own 2,vI c,.own 3] false,.lst true (.int .i64) p false,.lst true (.int .i32) yi3 false]⟩) (b,q)⟩
def pT:Ent:=⟨[2,3,6,11,12,19,20,81,85],[.fn 181 [.lf (.cst (.ptr 0 0)),.lf (.cst (.ptr 1 0))],sC (.ptr 2 0),sI,sI,sI,sI,sI,sC (.ptr 3 0),sC (.ptr 0 0)],[.box [.cst (.own 4),lI,.cst (.own 5)] false,.box [lZ (.int .i64),lI,lZ (.int .i8)] false,.box [lI,lI,lI,lI,lI,lI] false,.box [.cst (.pl (.slice none 0 0)),lI,.cst (.pl (.slice none 0 0))] false,.lst true (.int .i64) false,.lst true (.int .i32) false],fun ⟨⟨_,_,a,b,c,d,e,_⟩,⟨⟨_,f,_⟩,⟨g,i,j,_⟩,⟨l,m,n,o,p,q,_⟩,⟨_,t,_⟩,u,w,_⟩⟩ k=>eC a d j l m n o p q (fun yi4=>k (.exit 2) ⟨[(2,.fn 181 [.ptr 0 0,.ptr 1 0]),(3,.ptr 2 0),(11,vI b),(12,vI c),(81,.ptr 3 0),(85,.ptr 0 0)],[.box [.own 4,vI f,.own 5] false,.box [vZ (.int .i64) g,vI i,vZ (.int .i8) j] false,.box [vI l,vI m,vI n,vI o,vI p,vI q] false,.box [.pl (.slice none 0 0),vI t,.pl (.slice none 0 0)] false,.lst true (.int .i64) u false,.lst true (.int .i32) yi4 false]⟩) (e,w)⟩
def pX:Ent:=⟨[2,3,6,7,8,11,12,19,20,39,40,41,81,85],[.fn 181 [.lf (.cst (.ptr 0 0)),.lf (.cst (.ptr 1 0))],sC (.ptr 2 0),sI,sI,sC (.pl (.slice none 0 0)),sI,sI,sI,sI,sC (.own 3),sI,sI,sC (.ptr 4 0),sC (.ptr 0 0)],[.box [.cst (.own 5),lI,.cst (.own 6)] false,.box [lZ (.int .i64),lI,lZ (.int .i8)] false,.box [lI,lI,lI,lI,lI,lI] false,.lst true bY false,.box [.cst (.pl (.slice none 0 0)),lI,.cst (.pl (.slice none 0 0))] false,.lst true (.int .i64) false,.lst true (.int .i32) false],fun ⟨⟨_,_,a,b,_,c,d,e,f,_,g,i,_⟩,⟨⟨_,j,_⟩,⟨l,m,n,_⟩,⟨o,p,q,t,u,w,_⟩,z,⟨_,a0,_⟩,a1,a2,_⟩⟩ k=>d9 a g o p z (fun yi5=>k (.exit 4) ⟨[(2,.fn 181 [.ptr 0 0,.ptr 1 0]),(3,.ptr 2 0),(6,vI a),(7,vI b),(8,.own 3),(11,vI c),(12,vI d),(19,vI e),(20,vI f),(81,.ptr 4 0),(85,.ptr 0 0)],[.box [.own 5,vI j,.own 6] false,.box [vZ (.int .i64) l,vI m,vZ (.int .i8) n] false,.box [vI o,vI p,vI q,vI t,vI u,vI w] false,.lst true (.int .i64) yi5 false,.box [.pl (.slice none 0 0),vI a0,.pl (.slice none 0 0)] false,.lst true (.int .i64) a1 false,.lst true (.int .i32) a2 false]⟩) (i,([]:List Int))⟩
def jD:Inl:=OO (iY.cfg tt (some bW) false 0) 107 Tryz.f107 [(14,pS),(3686,pT),(3774874,pX)] [81,85] [(3774874,[⟨8,none,false,(.int .i64)⟩])]
theorem oV:cA Tryz.prog jD:=sX (G:=(iY.cfg tt (some bW) false 0)) Tryz.func107 iY.ok (hI1 iT) ⟨fun _ _ hs ⟨⟨_,_,a,b,_⟩,⟨⟨_,c,_⟩,⟨d,e,f,_⟩,⟨g,i,j,l,m,n,_⟩,⟨_,o,_⟩,p,q,_⟩⟩ _ h=>aD hs (fun y=>⟨⟨⟨(),(),()⟩,(),a,y.1,(),(),()⟩,⟨⟨(),c,(),()⟩,⟨d,e,f,()⟩,⟨g,i,j,l,m,n,()⟩,⟨(),o,(),()⟩,p,y.2,()⟩⟩) (b,q) h.it,fun _ _ hs ⟨⟨_,_,a,b,c,d,e,_⟩,⟨⟨_,f,_⟩,⟨g,i,j,_⟩,⟨l,m,n,o,p,q,_⟩,⟨_,t,_⟩,u,w,_⟩⟩ _ h=>aD hs (fun y=>⟨⟨⟨(),(),()⟩,(),a,b,c,d,y.1,(),(),()⟩,⟨⟨(),f,(),()⟩,⟨g,i,j,()⟩,⟨l,m,n,o,p,q,()⟩,⟨(),t,(),()⟩,u,y.2,()⟩⟩) (e,w) h.it,fun _ _ hs ⟨⟨_,_,a,b,_,c,d,e,f,_,g,i,_⟩,⟨⟨_,j,_⟩,⟨l,m,n,_⟩,⟨o,p,q,t,u,w,_⟩,z,⟨_,a0,_⟩,a1,a2,_⟩⟩ _ h=>dW hs (fun y=>⟨[(2,.fn 181 [.ptr 0 0,.ptr 1 0]),(3,.ptr 2 0),(6,vI a),(7,vI b),(8,.own 3),(11,vI c),(12,vI d),(19,vI e),(20,vI f),(39,.own 4),(40,vI g),(41,vI y.1),(81,.ptr 5 0),(85,.ptr 0 0)],[.box [.own 6,vI j,.own 7] false,.box [vZ (.int .i64) l,vI m,vZ (.int .i8) n] false,.box [vI o,vI p,vI q,vI t,vI u,vI w] false,.lst true (.int .i64) y.2 false,.lst true bY z false,.box [.pl (.slice none 0 0),vI a0,.pl (.slice none 0 0)] false,.lst true (.int .i64) a1 false,.lst true (.int .i32) a2 false]⟩) (i,([]:List Int)) h.it,trivial⟩
structure BM (a0:bS) (a1:List Int) (a2 a3:Int) (Q:(uN×Int)->Prop):Prop where
 it:bF a0 (fun r1=>jn (fun v2=>if v2=true then Q ((([]:List Int),(0,([]:List Int))),1) else zC a1 a2 a3 (fun r5=>jn (fun v6=>if v6=true then Q ((([]:List Int),(0,([]:List Int))),2) else aN a1 (fun r9=>LK a2 (fun r10=>j6 a1 (fun r11=>ck ((0:Int)<=r11/\((4:Nat):Int)*r11<=70368744177664) (ck ((0:Int)<=0/\0<(a1.length:Int)) (ck ((0:Int)<=1/\1<(a1.length:Int)) (eB (IntKind.i64.wrap ((a1.getD 0 0)*(a1.getD 1 0))) a0.2.2 r5.1.1 r5.1.2.1 r5.1.2.2.1 r5.1.2.2.2.1 r5.1.2.2.2.2.1 r5.1.2.2.2.2.2 (fun yi2=>Q ((r9,((IntKind.i64.wrap (a0.2.1-r10)),yi2)),0)) (0,List.replicate (r11).toNat (0:Int))))))))) (fun J7=>if (!r5.2)=true then J7 true else ck ((0:Int)<=0/\0<(a1.length:Int)) (ck ((0:Int)<=1/\1<(a1.length:Int)) (fC a0.1 [a1.getD 0 0,a1.getD 1 0,r5.1.2.2.2.2.1,r5.1.2.2.2.2.2] (fun r8=>J7 (!r8))))))) (fun J3=>if (!r1)=true then J3 true else gB a1 (fun r4=>J3 (!r4))))
def P0:=iY.putX tt 140 Tryz.func140 [8,9] [] [] [.agg [lZ (.int .i64),lI,lZ (.int .i8)],sZ (.int .i64),sI,sI] [] [(true,wL),(false,(.int .i64))] (fun x=>BM (x.1.1,(x.1.2.1,x.1.2.2.1)) x.2.1 x.2.2.1 x.2.2.2.1) [] (some jD) false 0 (hI1 oV) trivial fun _ _ h=>⟨_,h.it,by kernel_rfl⟩
structure CC (a0:Int) (a1:List Int) (a2:Int) (a3 a4:List Int) (a5:Int) (a6:List Int) (Q:Int->Prop):Prop where
 it:ck ((0:Int)<=a0/\a0<(a3.length:Int)) (if (decide (0<(a3.getD ((a0).toNat) 0)))=true then ck ((0:Int)<=a0/\a0<(a6.length:Int)) (Q (a6.getD ((a0).toNat) 0)) else Q 0)
def HK:=P0.put tt 178 Tryz.func178 [4] [] [] [sI,.bx [lZ (.int .i64),lI,lZ (.int .i8)],.bx [lZ (.int .i64),lI,lZ (.int .i8)]] [] [(false,(.int .i8))] (fun x=>CC x.1 x.2.1.1 x.2.1.2.1 x.2.1.2.2.1 x.2.2.1.1 x.2.2.1.2.1 x.2.2.1.2.2.1) trivial fun _ _ h=>⟨_,h.it,by kernel_rfl⟩
def dI (x0:List Int) (x1:Int) (x2 x3:List Int) (x4:Int) (x5:List Int) (x6:Int) (K0:(List Int)->Prop) (s:Int×List Int) (nx:(Int×List Int)->Prop):Prop :=
 if (decide (s.1<x6))=true then CC s.1 x0 x1 x2 x3 x4 x5 (fun r3=>ck ((s.2.length+[r3].length)*1<=140737488355328) (nx (IntKind.i64.wrap (s.1+1),s.2++[r3]))) else K0 s.2
structure kU (x0:List Int) (x1:Int) (x2 x3:List Int) (x4:Int) (x5:List Int) (x6:Int) (K0:(List Int)->Prop) (s:Int×List Int):Prop where
 it:Go.Mach.Loop (dI x0 x1 x2 x3 x4 x5 x6 K0) s
structure m7 (a0:bS) (a1:List Int) (a2:Int) (a3 a4:List Int) (a5:Int) (a6:List Int) (Q:bS->Prop):Prop where
 it:aN a0.1 (fun r1=>kU a1 a2 a3 a4 a5 a6 (a0.2.2.length:Int) (fun y4=>Q (r1,(a0.2.1,y4))) (0,([]:List Int)))
def s8:Ent:=⟨[1,4,5,15,16],[.fn 178 [.bx [lZ (.int .i64),lI,lZ (.int .i8)],.bx [lZ (.int .i64),lI,lZ (.int .i8)]],sC (.ptr 0 0),sC (.ptr 1 0),sI,sI],[.box [.cst (.pl (.slice none 0 0)),lI,.cst (.pl (.slice none 0 0))] false,.box [.cst (.own 2),lI,.cst (.pl (.slice none 0 0))] false,.lst true (.int .i64) false],fun ⟨⟨⟨⟨a,b,c,_⟩,⟨d,e,f,_⟩,_⟩,_,_,g,i,_⟩,⟨⟨_,j,_⟩,⟨_,l,_⟩,m,_⟩⟩ k=>kU a b c d e f g (fun y5=>k (.exit 0) ⟨[(4,.ptr 0 0),(5,.ptr 1 0)],[.box [.pl (.slice none 0 0),vI j,.pl (.slice none 0 0)] false,.box [.own 2,vI l,.own 3] false,.lst true (.int .i64) m false,.lst true (.int .i8) y5 false]⟩) (i,([]:List Int))⟩
def tP:=HK.putX tt 109 Tryz.func109 [4] [(58,[⟨5,some 2,false,(.int .i8)⟩])] [(58,s8)] [.agg [lZ (.int .i64),lI,lZ (.int .i8)],.fn 178 [.bx [lZ (.int .i64),lI,lZ (.int .i8)],.bx [lZ (.int .i64),lI,lZ (.int .i8)]]] [] [(true,aY)] (fun x=>m7 (x.1.1,(x.1.2.1,x.1.2.2.1)) x.2.1.1.1 x.2.1.1.2.1 x.2.1.1.2.2.1 x.2.1.2.1.1 x.2.1.2.1.2.1 x.2.1.2.1.2.2.1) [178] none false 0 hI0 ⟨fun _ _ hs ⟨⟨⟨⟨a,b,c,_⟩,⟨d,e,f,_⟩,_⟩,_,_,g,i,_⟩,⟨⟨_,j,_⟩,⟨_,l,_⟩,m,_⟩⟩ _ h=>dW hs (fun y=>⟨[(1,.fn 178 [.bx [vZ (.int .i64) a,vI b,vZ (.int .i8) c] 0,.bx [vZ (.int .i64) d,vI e,vZ (.int .i8) f] 0]),(4,.ptr 0 0),(5,.ptr 1 0),(15,vI g),(16,vI y.1)],[.box [.pl (.slice none 0 0),vI j,.pl (.slice none 0 0)] false,.box [.own 2,vI l,.own 3] false,.lst true (.int .i64) m false,.lst true (.int .i8) y.2 false]⟩) (i,([]:List Int)) h.it,trivial⟩ fun _ _ h=>⟨_,h.it,by kernel_rfl⟩
structure xK (a0 a1:bS) (Q:(bS×Int)->Prop):Prop where
 it:bF a0 (fun r1=>jn (fun v2=>if v2=true then Q ((([]:List Int),(0,([]:List Int))),1) else fC a0.1 a1.1 (fun r5=>if (!r5)=true then Q ((([]:List Int),(0,([]:List Int))),2) else m7 a0 a1.1 a1.2.1 a1.2.2 a0.1 a0.2.1 a0.2.2 (fun r6=>Q (r6,0)))) (fun J3=>if (!r1)=true then J3 true else bF a1 (fun r4=>J3 (!r4))))
def NL:=tP.put tt 136 Tryz.func136 [4,5] [] [] [.agg [lZ (.int .i64),lI,lZ (.int .i8)],.agg [lZ (.int .i64),lI,lZ (.int .i8)]] [] [(true,aY),(false,(.int .i64))] (fun x=>xK (x.1.1,(x.1.2.1,x.1.2.2.1)) (x.2.1.1,(x.2.1.2.1,x.2.1.2.2.1))) trivial fun _ _ h=>⟨_,h.it,by kernel_rfl⟩
structure lG (x2:Int) (K0:Int->Prop):Prop where
 it:K0 (IntKind.i64.wrap (x2+1))
def gK (x0:List Int) (x1:Int) (K0:(List Int)->Prop) (s:Int×List Int) (nx:(Int×List Int)->Prop):Prop :=
 if (decide (s.1<x1))=true then jn (fun v1=>if v1=true then ck ((0:Int)<=s.1/\s.1<(x0.length:Int)) (ck ((0:Int)<=s.1/\s.1<(s.2.length:Int)) (lG s.1 (fun y3=>nx (y3,(s.2.set ((s.1).toNat) (x0.getD ((s.1).toNat) 0)))))) else lG s.1 (fun y4=>nx (y4,s.2))) (fun J2=>if (decide (s.1<(x0.length:Int)))=true then ck ((0:Int)<=s.1/\s.1<(x0.length:Int)) (J2 ((x0.getD ((s.1).toNat) 0) != (-128))) else J2 false) else K0 s.2
structure q8 (x0:List Int) (x1:Int) (K0:(List Int)->Prop) (s:Int×List Int):Prop where
 it:Go.Mach.Loop (gK x0 x1 K0) s
structure oP (a0:bS) (a1:List Int) (a2:Int) (Q:bS->Prop):Prop where
 it:ck ((([]:List Int).length+a0.1.length)*8<=140737488355328) (ck (20≠(0:Int)) (ck ((0:Int)<=(a0.2.2.length:Int)/\((1:Nat):Int)*(a0.2.2.length:Int)<=70368744177664) (q8 a1 ((List.replicate ((a0.2.2.length:Int)).toNat (0:Int)).length:Int) (fun y5=>Q ((([]:List Int)++a0.1),(((a2).tmod 20),y5))) (0,List.replicate ((a0.2.2.length:Int)).toNat (0:Int)))))
def z8:Ent:=⟨[1,6,7,22,23],[sZ (.int .i8),sC (.ptr 0 0),sC (.ptr 1 0),sI,sI],[.box [.cst (.pl (.slice none 0 0)),lI,.cst (.pl (.slice none 0 0))] false,.box [.cst (.own 2),lI,.cst (.own 3)] false,.lst true (.int .i64) false,.lst true (.int .i8) false],fun ⟨⟨a,_,_,b,c,_⟩,⟨⟨_,d,_⟩,⟨_,e,_⟩,f,g,_⟩⟩ k=>q8 a b (fun y6=>k (.exit 0) ⟨[(6,.ptr 0 0),(7,.ptr 1 0)],[.box [.pl (.slice none 0 0),vI d,.pl (.slice none 0 0)] false,.box [.own 2,vI e,.own 3] false,.lst true (.int .i64) f false,.lst true (.int .i8) y6 false]⟩) (c,g)⟩
def BR:Ent:=⟨[1,6,7,22,23],[sZ (.int .i8),sC (.ptr 0 0),sC (.ptr 1 0),sI,sI],[.box [.cst (.pl (.slice none 0 0)),lI,.cst (.pl (.slice none 0 0))] false,.box [.cst (.own 2),lI,.cst (.own 3)] false,.lst true (.int .i64) false,.lst true (.int .i8) false],fun ⟨⟨a,_,_,b,c,_⟩,⟨⟨_,d,_⟩,⟨_,e,_⟩,f,g,_⟩⟩ k=>lG c (fun y7=>k .normal ⟨[(1,vZ (.int .i8) a),(6,.ptr 0 0),(7,.ptr 1 0),(22,vI b),(23,vI y7)],[.box [.pl (.slice none 0 0),vI d,.pl (.slice none 0 0)] false,.box [.own 2,vI e,.own 3] false,.lst true (.int .i64) f false,.lst true (.int .i8) g false]⟩)⟩
def CL:=NL.put tt 15 Tryz.func15 [6] [] [(58,z8),(935,BR)] [.agg [lZ (.int .i64),lI,lZ (.int .i8)],sZ (.int .i8),sI] [] [(true,aY)] (fun x=>oP (x.1.1,(x.1.2.1,x.1.2.2.1)) x.2.1 x.2.2.1) ⟨fun _ _ hs ⟨⟨a,_,_,b,c,_⟩,⟨⟨_,d,_⟩,⟨_,e,_⟩,f,g,_⟩⟩ _ h=>aD hs (fun y=>⟨⟨a,(),(),b,y.1,()⟩,⟨⟨(),d,(),()⟩,⟨(),e,(),()⟩,f,y.2,()⟩⟩) (c,g) h.it,fun _ _ hs ⟨⟨_,_,_,_,_,_⟩,⟨⟨_,_,_⟩,⟨_,_,_⟩,_,_,_⟩⟩ _ h=>aI hs h.it,trivial⟩ fun _ _ h=>⟨_,h.it,by kernel_rfl⟩
end
end Go.Proofs.YtcfpfefadlnmcaaGreat

namespace Go.Proofs.YtcfpfefadlnmcaaGreat
open Go.Mach
set_option maxRecDepth 100000
set_option linter.unusedVariables false
noncomputable section
structure uC (a0:bS) (Q:Bool->Prop):Prop where
 it:bF a0 (fun r1=>Q (!r1))
def CZ:=CL.put tt 81 Tryz.func81 [2] [] [] [.agg [lZ (.int .i64),lI,lZ (.int .i8)]] [] [(false,.bool)] (fun x=>uC (x.1.1,(x.1.2.1,x.1.2.2.1))) trivial fun _ _ h=>⟨_,h.it,by kernel_rfl⟩
def aH (x0:List bS) (x1:Int) (K0:Unit->Prop) (K1:Int->Prop) (s:Int) (nx:Int->Prop):Prop :=
 if (decide (s<x1))=true then ck ((0:Int)<=s/\s<(x0.length:Int)) (uC (x0.getD ((s).toNat) ([],(0,[]))) (fun r1=>if r1=true then K1 s else nx (IntKind.i64.wrap (s+1)))) else K0 ()
structure cC (x0:List bS) (x1:Int) (K0:Unit->Prop) (K1:Int->Prop) (s:Int):Prop where
 it:Go.Mach.Loop (aH x0 x1 K0 K1) s
structure cE (a0:List bS) (Q:Int->Prop):Prop where
 it:cC a0 (a0.length:Int) (fun _=>Q (-1)) (fun y3=>Q y3) 0
def fK:Ent:=⟨[0,1,7,8],[sZ aY,sC (.fn 81 []),sI,sI],[],fun ⟨⟨a,_,b,c,_⟩,_⟩ k=>cC a b (fun _=>k (.exit 0) ⟨[],[]⟩) (fun y5=>k .ret ⟨[(4,vI y5)],[]⟩) c⟩
def fN:=CZ.putX tt 129 Tryz.func129 [4] [] [(26,fK)] [sZ aY,.fn 81 []] [] [(false,(.int .i64))] (fun x=>cE x.1) [81] none false 0 hI0 ⟨fun _ _ hs ⟨⟨a,_,b,c,_⟩,_⟩ _ h=>aD hs (fun y=>⟨⟨a,(),b,y,()⟩,()⟩) c h.it,trivial⟩ fun _ _ h=>⟨_,h.it,by kernel_rfl⟩
structure aV (a0:List bS) (Q:Bool->Prop):Prop where
 it:cE a0 (fun r1=>Q (decide (0<=r1)))
def eW:=fN.putX tt 80 Tryz.func80 [4] [] [] [sZ aY,.fn 81 []] [] [(false,.bool)] (fun x=>aV x.1) [81] none false 0 hI0 trivial fun _ _ h=>⟨_,h.it,by kernel_rfl⟩
def oH (a0:Int) (Q:List Int->Prop):Prop:=(1<=a0/\a0<=1099511627776)/\Q ([]:List Int)
def iK:List Sh:=[.lf (.cst (.pl (.slice none 0 0))),.lf (.int .i64)]
def CM (x:uH iK) (Q:List (Bool×List VV)->Prop):Prop:=oH x.2.1 (fun(r:List Int)=>Q (kE [(false,.slc (.int .i64))] [.n] (r,())))
theorem zG (x:uH iK) (Q:List (Bool×List VV)->Prop) (h:CM x Q):mH Tryz.prog 130 (vJ iK x) Q:=by
 exact Go.Mach.grow_snd _ Q h.1 h.2
noncomputable def C4:Tb Tryz.prog:=eW.add 130 iK zG
structure gG (x4:Int) (K0:Int->Prop):Prop where
 it:K0 (IntKind.i64.wrap (x4+1))
def nE (x2:List (List Int)) (x3:Int) (K0:Int->Prop) (s:Int×Int) (nx:(Int×Int)->Prop):Prop :=
 if (decide (s.2<x3))=true then ck ((0:Int)<=s.2/\s.2<(x2.length:Int)) (if (decide ((IntKind.i64.wrap (s.1+((x2.getD ((s.2).toNat) []).length:Int)))<0))=true then False else gG s.2 (fun y1=>nx ((IntKind.i64.wrap (s.1+((x2.getD ((s.2).toNat) []).length:Int))),y1))) else K0 s.1
structure oU (x2:List (List Int)) (x3:Int) (K0:Int->Prop) (s:Int×Int):Prop where
 it:Go.Mach.Loop (nE x2 x3 K0) s
def nD (x0:List (List Int)) (x1:Int) (K0:(List Int)->Prop) (s:Int×List Int) (nx:(Int×List Int)->Prop):Prop :=
 if (decide (s.1<x1))=true then ck ((0:Int)<=s.1/\s.1<(x0.length:Int)) (ck ((s.2.length+(x0.getD ((s.1).toNat) []).length)*8<=140737488355328) (nx (IntKind.i64.wrap (s.1+1),s.2++(x0.getD ((s.1).toNat) [])))) else K0 s.2
structure j7 (x0:List (List Int)) (x1:Int) (K0:(List Int)->Prop) (s:Int×List Int):Prop where
 it:Go.Mach.Loop (nD x0 x1 K0) s
structure i9 (a0:List (List Int)) (Q:(List Int)->Prop):Prop where
 it:oU a0 (a0.length:Int) (fun y2=>oH y2 (fun r3=>j7 a0 (a0.length:Int) (fun y4=>Q y4) (0,r3))) (0,0)
def xX:Ent:=⟨[0,3,9,10,11],[sZ (.slc (.int .i64)),sI,sZ (.slc (.int .i64)),sI,sI],[],fun ⟨⟨a,b,c,d,e,_⟩,_⟩ k=>oU c d (fun y5=>k (.exit 0) ⟨[(0,vZ (.slc (.int .i64)) a),(3,vI y5)],[]⟩) (b,e)⟩
def xJ:Ent:=⟨[6,25,26,27],[sC (.own 0),sZ (.slc (.int .i64)),sI,sI],[.lst true (.int .i64) false],fun ⟨⟨_,a,b,c,_⟩,⟨d,_⟩⟩ k=>j7 a b (fun y6=>k (.exit 2) ⟨[(6,.own 0)],[.lst true (.int .i64) y6 false]⟩) (c,d)⟩
def xU:Ent:=⟨[0,3,9,10,11],[sZ (.slc (.int .i64)),sI,sZ (.slc (.int .i64)),sI,sI],[],fun ⟨⟨a,b,c,d,e,_⟩,_⟩ k=>gG e (fun y7=>k .normal ⟨[(0,vZ (.slc (.int .i64)) a),(3,vI b),(9,vZ (.slc (.int .i64)) c),(10,vI d),(11,vI y7)],[]⟩)⟩
def zI:=C4.put tt 82 Tryz.func82 [2] [] [(58,xX),(250,xJ),(935,xU)] [sZ (.slc (.int .i64))] [] [(false,(.slc (.int .i64)))] (fun x=>i9 x.1) ⟨fun _ _ hs ⟨⟨a,b,c,d,e,_⟩,_⟩ _ h=>aD hs (fun y=>⟨⟨a,y.1,c,d,y.2,()⟩,()⟩) (b,e) h.it,fun _ _ hs ⟨⟨_,a,b,c,_⟩,⟨d,_⟩⟩ _ h=>aD hs (fun y=>⟨⟨(),a,b,y.1,()⟩,⟨y.2,()⟩⟩) (c,d) h.it,fun _ _ hs ⟨⟨_,_,_,_,_,_⟩,_⟩ _ h=>aI hs h.it,trivial⟩ fun _ _ h=>⟨_,h.it,by kernel_rfl⟩
structure uE (a0:jC) (Q:Bool->Prop):Prop where
 it:Q (a0.1==3)
def CX:=zI.put tt 84 Tryz.func84 [2] [] [] [.agg [lI,lI,lI,lI,lI,lI,lB]] [] [(false,.bool)] (fun x=>uE (x.1.1,(x.1.2.1,(x.1.2.2.1,(x.1.2.2.2.1,(x.1.2.2.2.2.1,(x.1.2.2.2.2.2.1,x.1.2.2.2.2.2.2.1))))))) trivial fun _ _ h=>⟨_,h.it,by kernel_rfl⟩
def aK (x0:List jC) (x1:Int) (K0:Unit->Prop) (K1:Int->Prop) (s:Int) (nx:Int->Prop):Prop :=
 if (decide (s<x1))=true then ck ((0:Int)<=s/\s<(x0.length:Int)) (uE (x0.getD ((s).toNat) (0,(0,(0,(0,(0,(0,false))))))) (fun r1=>if r1=true then K1 s else nx (IntKind.i64.wrap (s+1)))) else K0 ()
structure cD (x0:List jC) (x1:Int) (K0:Unit->Prop) (K1:Int->Prop) (s:Int):Prop where
 it:Go.Mach.Loop (aK x0 x1 K0 K1) s
structure cO (a0:List jC) (Q:Int->Prop):Prop where
 it:cD a0 (a0.length:Int) (fun _=>Q (-1)) (fun y3=>Q y3) 0
def fP:Ent:=⟨[0,1,7,8],[sZ bQ,sC (.fn 84 []),sI,sI],[],fun ⟨⟨a,_,b,c,_⟩,_⟩ k=>cD a b (fun _=>k (.exit 0) ⟨[],[]⟩) (fun y5=>k .ret ⟨[(4,vI y5)],[]⟩) c⟩
def fV:=CX.putX tt 131 Tryz.func131 [4] [] [(26,fP)] [sZ bQ,.fn 84 []] [] [(false,(.int .i64))] (fun x=>cO x.1) [84] none false 0 hI0 ⟨fun _ _ hs ⟨⟨a,_,b,c,_⟩,_⟩ _ h=>aD hs (fun y=>⟨⟨a,(),b,y,()⟩,()⟩) c h.it,trivial⟩ fun _ _ h=>⟨_,h.it,by kernel_rfl⟩
structure aX (a0:List jC) (Q:Bool->Prop):Prop where
 it:cO a0 (fun r1=>Q (decide (0<=r1)))
def fF:=fV.putX tt 83 Tryz.func83 [4] [] [] [sZ bQ,.fn 84 []] [] [(false,.bool)] (fun x=>aX x.1) [84] none false 0 hI0 trivial fun _ _ h=>⟨_,h.it,by kernel_rfl⟩
def iQ (x9:List bS) (x10:Int) (x15:List (List Int)) (K0 K1:Unit->Prop) (s:Int) (nx:Int->Prop):Prop :=
 if (decide (s<x10))=true then ck ((0:Int)<=s/\s<(x15.length:Int)) (ck ((0:Int)<=s/\s<(x9.length:Int)) (ck ((0:Int)<=0/\0<(x9.length:Int)) (ck (((x9.getD 0 ([],(0,[]))).1)≠[]/\(0:Int)<=0/\(0:Int)<=1/\1<=(((x9.getD 0 ([],(0,[]))).1).length:Int)) (i9 [(((x9.getD 0 ([],(0,[]))).1).take ((1:Int)).toNat).drop ((0:Int)).toNat,x15.getD ((s).toNat) []] (fun r15=>fC ((x9.getD ((s).toNat) ([],(0,[]))).1) r15 (fun r16=>if (!r16)=true then K1 () else nx (IntKind.i64.wrap (s+1)))))))) else K0 ()
structure tA (x9:List bS) (x10:Int) (x15:List (List Int)) (K0 K1:Unit->Prop) (s:Int):Prop where
 it:Go.Mach.Loop (iQ x9 x10 x15 K0 K1) s
structure s7 (x0 x1 x2:Int) (x3:List jC) (x6:List (List Int)) (x9:List bS) (x10:List Int) (K0:Int->Prop):Prop where
 it:qV ((x0,(x1,x2)),x3) (fun r14=>tA x9 (r14.1.length:Int) r14.1 (fun _=>aX x3 (fun r16=>jn (fun v17=>jn (fun v21=>if v21=true then K0 2 else K0 0) (fun J22=>if v17=true then J22 true else ck ((0:Int)<=(IntKind.i64.wrap ((x9.length:Int)-1))/\(IntKind.i64.wrap ((x9.length:Int)-1))<(x9.length:Int)) (fC x10 ((x9.getD ((IntKind.i64.wrap ((x9.length:Int)-1)).toNat) ([],(0,[]))).1) (fun r23=>J22 (!r23))))) (fun J18=>if ((x6.length:Int) != (x9.length:Int))=true then jn (fun v19=>J18 v19) (fun J20=>if r16=true then J20 true else J20 (decide (0<(x6.length:Int)))) else J18 false))) (fun _=>K0 2) 0)
structure qI (a0 a1 a2:Int) (a3:List jC) (a4:List gF) (a5:List bS) (a6:List (List Int)) (a7 a8:Int) (a9:bS) (Q:Int->Prop):Prop where
 it:jn (fun v1=>jn (fun v3=>jn (fun v6=>jn (fun v8=>jn (fun v11=>if v11=true then Q 1 else s7 a0 a1 a2 a3 a6 a5 a9.1 (fun y25=>Q y25)) (fun J12=>if v8=true then J12 true else aV a5 (fun r13=>J12 r13))) (fun J9=>if v6=true then J9 true else bF a9 (fun r10=>J9 (!r10)))) (fun J7=>if v3=true then J7 true else J7 ((a5.length:Int) != (IntKind.i64.wrap ((a3.length:Int)+1))))) (fun J4=>if v1=true then J4 true else AB ((a0,(a1,a2)),a3) a4 (fun r5=>J4 (!r5)))) (fun J2=>if (decide (a8<0))=true then J2 true else J2 (decide (1000000<a8)))
def DA:Ent:=⟨[0,3,5],[.bx [lI,lI,lI,lZ bQ,lZ dN,lZ aY,lZ (.slc (.int .i64)),.cst (.pl (.slice none 0 0)),.int .u64,lI],sC (.ptr 0 0),sZ aY],[.box [lZ (.int .i64),lI,lZ (.int .i8)] false],fun ⟨⟨⟨a,b,c,d,_,_,g,_⟩,_,l,_⟩,⟨⟨m,_⟩,_⟩⟩ k=>s7 a b c d g l m (fun y26=>k .ret ⟨[(4,vI y26)],[]⟩)⟩
def DG:Ent:=⟨[0,3,5,71,72,73],[.bx [lI,lI,lI,lZ bQ,lZ dN,lZ aY,lZ (.slc (.int .i64)),.cst (.pl (.slice none 0 0)),.int .u64,lI],sC (.ptr 0 0),sZ aY,sC (.own 1),sI,sI],[.box [lZ (.int .i64),lI,lZ (.int .i8)] false,.lst true (.slc (.int .i64)) false],fun ⟨⟨⟨a,b,c,d,e,f,g,_,i,j,_⟩,_,l,_,m,n,_⟩,⟨⟨o,p,q,_⟩,t,_⟩⟩ k=>tA l m t (fun _=>k (.exit 0) ⟨[(0,.bx [vI a,vI b,vI c,vZ bQ d,vZ dN e,vZ aY f,vZ (.slc (.int .i64)) g,.pl (.slice none 0 0),vK .u64 i,vI j] 0),(3,.ptr 0 0),(5,vZ aY l)],[.box [vZ (.int .i64) o,vI p,vZ (.int .i8) q] false]⟩) (fun _=>k .ret ⟨[(4,vI 2)],[]⟩) n⟩
def FF:=fF.put tt 42 Tryz.func42 [4] [] [(15,DA),(250,DG)] [.bx [lI,lI,lI,lZ bQ,lZ dN,lZ aY,lZ (.slc (.int .i64)),.cst (.pl (.slice none 0 0)),.int .u64,lI],.agg [lZ (.int .i64),lI,lZ (.int .i8)]] [] [(false,(.int .i64))] (fun x=>qI x.1.1 x.1.2.1 x.1.2.2.1 x.1.2.2.2.1 x.1.2.2.2.2.1 x.1.2.2.2.2.2.1 x.1.2.2.2.2.2.2.1 x.1.2.2.2.2.2.2.2.2.1 x.1.2.2.2.2.2.2.2.2.2.1 (x.2.1.1,(x.2.1.2.1,x.2.1.2.2.1))) ⟨fun _ _ hs ⟨⟨⟨_,_,_,_,_,_,_,_⟩,_,_,_⟩,⟨⟨_,_⟩,_⟩⟩ _ h=>aI hs h.it,fun _ _ hs ⟨⟨⟨a,b,c,d,e,f,g,_,i,j,_⟩,_,l,_,m,n,_⟩,⟨⟨o,p,q,_⟩,t,_⟩⟩ _ h=>aD hs (fun y=>⟨⟨⟨a,b,c,d,e,f,g,(),i,j,()⟩,(),l,(),m,y,()⟩,⟨⟨o,p,q,()⟩,t,()⟩⟩) n h.it,trivial⟩ fun _ _ h=>⟨_,h.it,by kernel_rfl⟩
structure iI (a0 a1 a2:Int) (a3:List jC) (a4:List gF) (a5:List bS) (a6:List (List Int)) (a7:List (List bS)) (a8 a9:Int) (a10:uN) (a11 a12 a13:Int) (Q:(bS×Int)->Prop):Prop where
 it:if (a11 != 0)=true then Q ((([]:List Int),(0,([]:List Int))),a11) else nC a9 a12 a13 (fun r1=>uT a10 8 a8 r1 (fun r2=>Q (r2.1,r2.2)))
def aP:=FF.put tt 141 Tryz.func141 [10,11] [] [] [.bx [lI,lI,lI,lZ bQ,lZ dN,lZ aY,lZ (.slc (.int .i64)),lZ (.ref aY),.int .u64,lI],.agg [lZ (.int .i64),lI,lZ (.int .i32)],sI,sI,sI] [] [(true,aY),(false,(.int .i64))] (fun x=>iI x.1.1 x.1.2.1 x.1.2.2.1 x.1.2.2.2.1 x.1.2.2.2.2.1 x.1.2.2.2.2.2.1 x.1.2.2.2.2.2.2.1 x.1.2.2.2.2.2.2.2.1 x.1.2.2.2.2.2.2.2.2.1 x.1.2.2.2.2.2.2.2.2.2.1 (x.2.1.1,(x.2.1.2.1,x.2.1.2.2.1)) x.2.2.1 x.2.2.2.1 x.2.2.2.2.1) trivial fun _ _ h=>⟨_,h.it,by kernel_rfl⟩
structure bD (x0:Int) (x7:Bool) (x8:List Int) (x9:Int) (x10:List Int) (x11:Int) (x38 x39:List Int) (K0:(Int×Bool×(List Int)×Int×(List Int)×(List Int)×Int×List Int)->Prop):Prop where
 it:if (x0 != 0)=true then K0 (x0,false,([]:List Int),0,([]:List Int),([]:List Int),0,([]:List Int)) else K0 (0,x7,x8,x9,x38,x10,x11,x39)
structure aO (x0 x1:Int) (x8:Bool) (x9:List Int) (x10:Int) (x11:List Int) (x12:Int) (x39 x40:List Int) (K0:(Int×Bool×(List Int)×Int×(List Int)×(List Int)×Int×List Int)->Prop):Prop where
 it:if (x0==0)=true then bD x1 x8 x9 x10 x11 x12 x39 x40 (fun yii3=>K0 (yii3.1,yii3.2.1,yii3.2.2.1,yii3.2.2.2.1,yii3.2.2.2.2.1,yii3.2.2.2.2.2.1,yii3.2.2.2.2.2.2.1,yii3.2.2.2.2.2.2.2)) else bD x0 x8 x9 x10 x11 x12 x39 x40 (fun yii4=>K0 (yii4.1,yii4.2.1,yii4.2.2.1,yii4.2.2.2.1,yii4.2.2.2.2.1,yii4.2.2.2.2.2.1,yii4.2.2.2.2.2.2.1,yii4.2.2.2.2.2.2.2))
def gT:Ent:=⟨[8,10,11,12,57,58,61,63,64,65,66,67,172,174,175,176,177],[sC (.ptr 0 0),sC (.ptr 1 0),sI,sI,sC (.ptr 2 0),sI,sC (.ptr 3 0),sC (.ptr 4 0),sC (.ptr 5 0),.lf (.fp false aY),sC (.ptr 6 0),sC (.undef),sC (.ptr 2 0),sC (.own 7),sI,sC (.undef),sC (.undef)],[.box [lB,.cst (.pl (.slice none 0 0)),lI,.cst (.pl (.slice none 0 0)),.cst (.pl (.slice none 0 0)),lI,.cst (.pl (.slice none 0 0))] false,.box [lB,lZ (.int .i64),lI,.cst (.own 8),lZ (.int .i64),lI,.cst (.own 9)] false,.box [lI,lI,lI,lZ bQ,lZ dN,lZ aY,lZ (.slc (.int .i64)),.cst (.own 10),.int .u64,lI] false,.box [lB,.cst (.pl (.slice none 0 0)),lI,.cst (.pl (.slice none 0 0)),.cst (.pl (.slice none 0 0)),lI,.cst (.pl (.slice none 0 0))] false,.box [lI,lI,lI,lI,lI,lI,lB] false,.box [lZ (.int .i64),lI,lZ (.int .i8)] false,.box [lB,.cst (.pl (.slice none 0 0)),lI,.cst (.pl (.slice none 0 0)),.cst (.pl (.slice none 0 0)),lI,.cst (.pl (.slice none 0 0))] false,.lst false jT false,.lst true (.int .i32) false,.lst true (.int .i32) false,.lst false (.ref aY) false],fun ⟨⟨_,_,a,b,_,c,_,_,_,d,_,_,_,_,e,_⟩,⟨_,⟨j,l,m,_,n,o,_⟩,⟨p,q,t,u,w,z,a0,_,a1,a2,_⟩,⟨a3,_,a4,_,_,a5,_⟩,⟨a6,a7,a8,a9,b0,b1,b2,_⟩,⟨b3,b4,b5,_⟩,⟨b6,_,b7,_,_,b8,_⟩,b9,c0,c1,c2,_⟩⟩ k=>aO a b j l m n o c0 c1 (fun yii15=>k .ret ⟨[(8,.ptr 0 0),(9,vI yii15.1),(57,.ptr 1 0),(58,vI c),(61,.ptr 2 0),(63,.ptr 3 0),(64,.ptr 4 0),(65,.fptr false aY [d] 0 0),(66,.ptr 5 0),(67,.undef),(172,.ptr 1 0),(174,.own 6),(175,vI e),(176,.undef),(177,.undef)],[.box [vB yii15.2.1,vZ (.int .i64) yii15.2.2.1,vI yii15.2.2.2.1,vZ (.int .i32) yii15.2.2.2.2.1,vZ (.int .i64) yii15.2.2.2.2.2.1,vI yii15.2.2.2.2.2.2.1,vZ (.int .i32) yii15.2.2.2.2.2.2.2] false,.box [vI p,vI q,vI t,vZ bQ u,vZ dN w,vZ aY z,vZ (.slc (.int .i64)) a0,.own 7,vK .u64 a1,vI a2] false,.box [vB a3,.pl (.slice none 0 0),vI a4,.pl (.slice none 0 0),.pl (.slice none 0 0),vI a5,.pl (.slice none 0 0)] false,.box [vI a6,vI a7,vI a8,vI a9,vI b0,vI b1,vB b2] false,.box [vZ (.int .i64) b3,vI b4,vZ (.int .i8) b5] false,.box [vB b6,.pl (.slice none 0 0),vI b7,.pl (.slice none 0 0),.pl (.slice none 0 0),vI b8,.pl (.slice none 0 0)] false,.lst false jT b9 false,.lst false (.ref aY) c2 false]⟩)⟩
def gZ:Ent:=⟨[8,10,11,57,58,61,63,64,65,66,67,172,174,175,176,177],[sC (.ptr 0 0),sC (.ptr 1 0),sI,sC (.ptr 2 0),sI,sC (.ptr 3 0),sC (.ptr 4 0),sC (.ptr 5 0),.lf (.fp false aY),sC (.ptr 6 0),sC (.undef),sC (.ptr 2 0),sC (.own 7),sI,sC (.undef),sC (.undef)],[.box [lB,.cst (.pl (.slice none 0 0)),lI,.cst (.pl (.slice none 0 0)),.cst (.pl (.slice none 0 0)),lI,.cst (.pl (.slice none 0 0))] false,.box [lB,lZ (.int .i64),lI,.cst (.own 8),lZ (.int .i64),lI,.cst (.own 9)] false,.box [lI,lI,lI,lZ bQ,lZ dN,lZ aY,lZ (.slc (.int .i64)),.cst (.own 10),.int .u64,lI] false,.box [lB,.cst (.pl (.slice none 0 0)),lI,.cst (.pl (.slice none 0 0)),.cst (.pl (.slice none 0 0)),lI,.cst (.pl (.slice none 0 0))] false,.box [lI,lI,lI,lI,lI,lI,lB] false,.box [lZ (.int .i64),lI,lZ (.int .i8)] false,.box [lB,.cst (.pl (.slice none 0 0)),lI,.cst (.pl (.slice none 0 0)),.cst (.pl (.slice none 0 0)),lI,.cst (.pl (.slice none 0 0))] false,.lst false jT false,.lst true (.int .i32) false,.lst true (.int .i32) false,.lst false (.ref aY) false],fun ⟨⟨_,_,a,_,b,_,_,_,c,_,_,_,_,d,_⟩,⟨_,⟨i,j,l,_,m,n,_⟩,⟨o,p,q,t,u,w,z,_,a0,a1,_⟩,⟨a2,_,a3,_,_,a4,_⟩,⟨a5,a6,a7,a8,a9,b0,b1,_⟩,⟨b2,b3,b4,_⟩,⟨b5,_,b6,_,_,b7,_⟩,b8,b9,c0,c1,_⟩⟩ k=>bD a i j l m n b9 c0 (fun yii16=>k .ret ⟨[(8,.ptr 0 0),(9,vI yii16.1),(57,.ptr 1 0),(58,vI b),(61,.ptr 2 0),(63,.ptr 3 0),(64,.ptr 4 0),(65,.fptr false aY [c] 0 0),(66,.ptr 5 0),(67,.undef),(172,.ptr 1 0),(174,.own 6),(175,vI d),(176,.undef),(177,.undef)],[.box [vB yii16.2.1,vZ (.int .i64) yii16.2.2.1,vI yii16.2.2.2.1,vZ (.int .i32) yii16.2.2.2.2.1,vZ (.int .i64) yii16.2.2.2.2.2.1,vI yii16.2.2.2.2.2.2.1,vZ (.int .i32) yii16.2.2.2.2.2.2.2] false,.box [vI o,vI p,vI q,vZ bQ t,vZ dN u,vZ aY w,vZ (.slc (.int .i64)) z,.own 7,vK .u64 a0,vI a1] false,.box [vB a2,.pl (.slice none 0 0),vI a3,.pl (.slice none 0 0),.pl (.slice none 0 0),vI a4,.pl (.slice none 0 0)] false,.box [vI a5,vI a6,vI a7,vI a8,vI a9,vI b0,vB b1] false,.box [vZ (.int .i64) b2,vI b3,vZ (.int .i8) b4] false,.box [vB b5,.pl (.slice none 0 0),vI b6,.pl (.slice none 0 0),.pl (.slice none 0 0),vI b7,.pl (.slice none 0 0)] false,.lst false jT b8 false,.lst false (.ref aY) c1 false]⟩)⟩
def bH:Inl:=OO (aP.cfg tt none false 0) 85 Tryz.f85 [(31,gT),(63,gZ)] [8,9,57,58,61,63,64,65,66,67,172,174,175,176,177] [(245,[⟨10,some 1,true,(.int .i64)⟩,⟨10,some 4,true,(.int .i64)⟩]),(247,[⟨10,some 1,true,(.int .i64)⟩,⟨10,some 4,true,(.int .i64)⟩]),(255,[⟨8,some 1,true,(.int .i64)⟩,⟨8,some 3,true,(.int .i32)⟩,⟨8,some 4,true,(.int .i64)⟩,⟨8,some 6,true,(.int .i32)⟩]),(1013,[⟨8,some 1,true,(.int .i64)⟩,⟨8,some 3,true,(.int .i32)⟩,⟨8,some 4,true,(.int .i64)⟩,⟨8,some 6,true,(.int .i32)⟩])]
theorem gQ:cA Tryz.prog bH:=sX (G:=(aP.cfg tt none false 0)) Tryz.func85 aP.ok hI0 ⟨fun _ _ hs ⟨⟨_,_,_,_,_,_,_,_,_,_,_,_,_,_,_,_⟩,⟨_,⟨_,_,_,_,_,_,_⟩,⟨_,_,_,_,_,_,_,_,_,_,_⟩,⟨_,_,_,_,_,_,_⟩,⟨_,_,_,_,_,_,_,_⟩,⟨_,_,_,_⟩,⟨_,_,_,_,_,_,_⟩,_,_,_,_,_⟩⟩ _ h=>aI hs h.it,fun _ _ hs ⟨⟨_,_,_,_,_,_,_,_,_,_,_,_,_,_,_⟩,⟨_,⟨_,_,_,_,_,_,_⟩,⟨_,_,_,_,_,_,_,_,_,_,_⟩,⟨_,_,_,_,_,_,_⟩,⟨_,_,_,_,_,_,_,_⟩,⟨_,_,_,_⟩,⟨_,_,_,_,_,_,_⟩,_,_,_,_,_⟩⟩ _ h=>aI hs h.it,trivial⟩
structure aR (x0 x1 x5 x6 x7:Int) (x8:List jC) (x9:List gF) (x10:List bS) (x11:List (List Int)) (x12 x13:Int) (x15:List Int) (x16:Int) (x17:List Int) (x36:List (List bS)) (K0:(Int×Int×(List Int)×List Int)->Prop):Prop where
 it:iI x5 x6 x7 x8 x9 x10 x11 x36 x12 x13 (x15,(x16,x17)) x1 x0 2 (fun rii4=>K0 (rii4.2,rii4.1.2.1,rii4.1.1,rii4.1.2.2))
structure cY (x0 x1 x2:Int) (x3:Bool) (x13:List (List Int)) (x16:List Int) (x17:Int) (x18 x19:List Int) (x25 x26 x30:Int) (K0:(Int×(List Int)×Int×List Int)->Prop):Prop where
 it:if x3=true then ck ((0:Int)<=x0/\x0<(x13.length:Int)) (BN (x16,(x17,x18)) (x13.getD ((x0).toNat) []) x19 (fun rii8=>K0 (rii8.2,rii8.1.1,rii8.1.2.1,rii8.1.2.2))) else if (x2==4)=true then BM (x16,(x17,x18)) x19 x25 x26 (fun rii9=>K0 (rii9.2,rii9.1.1,rii9.1.2.1,rii9.1.2.2)) else K0 (x1,([]:List Int),x30,([]:List Int))
def iG:Ent:=⟨[0,1,8,12,13,118,119,122,124,126,127,128,129,233,235,236,237,238],[sC (.ptr 0 0),sI,sC (.ptr 1 0),sC (.ptr 2 0),sI,sC (.ptr 0 0),sI,sC (.ptr 3 0),sC (.ptr 4 0),.lf (.fp false aY),sC (.ptr 5 0),sC (.undef),sC (.undef),sC (.ptr 0 0),sC (.own 6),sI,sC (.undef),sC (.undef)],[.box [lI,lI,lI,lZ bQ,lZ dN,lZ aY,lZ (.slc (.int .i64)),.cst (.own 7),.int .u64,lI] false,.box [.cst (.pl (.slice none 0 0)),lI,.cst (.pl (.slice none 0 0))] false,.box [lZ (.int .i64),lI,lZ (.int .i32)] false,.box [lB,.cst (.pl (.slice none 0 0)),lI,.cst (.pl (.slice none 0 0)),.cst (.pl (.slice none 0 0)),lI,.cst (.pl (.slice none 0 0))] false,.box [lI,lI,lI,lI,lI,lI,lB] false,.box [lB,lZ (.int .i64),lI,lZ (.int .i32),lZ (.int .i64),lI,lZ (.int .i32)] false,.lst false jT false,.lst false (.ref aY) false],fun ⟨⟨_,a,_,_,b,_,c,_,_,d,_,_,_,_,_,e,_⟩,⟨⟨f,g,i,j,l,m,n,_,o,p,_⟩,_,⟨t,u,w,_⟩,⟨z,_,a0,_,_,a1,_⟩,⟨a2,a3,a4,a5,a6,a7,a8,_⟩,⟨a9,b0,b1,b2,b3,b4,b5,_⟩,b6,b7,_⟩⟩ k=>aR a b f g i j l m n o p t u w b7 (fun yii20=>k .ret ⟨[(8,.ptr 0 0),(9,vI yii20.1),(118,.ptr 1 0),(119,vI c),(122,.ptr 2 0),(124,.ptr 3 0),(126,.fptr false aY [d] 0 0),(127,.ptr 4 0),(128,.undef),(129,.undef),(233,.ptr 1 0),(235,.own 5),(236,vI e),(237,.undef),(238,.undef)],[.box [.own 6,vI yii20.2.1,.own 7] false,.box [vI f,vI g,vI i,vZ bQ j,vZ dN l,vZ aY m,vZ (.slc (.int .i64)) n,.own 8,vK .u64 o,vI p] false,.box [vB z,.pl (.slice none 0 0),vI a0,.pl (.slice none 0 0),.pl (.slice none 0 0),vI a1,.pl (.slice none 0 0)] false,.box [vI a2,vI a3,vI a4,vI a5,vI a6,vI a7,vB a8] false,.box [vB a9,vZ (.int .i64) b0,vI b1,vZ (.int .i32) b2,vZ (.int .i64) b3,vI b4,vZ (.int .i32) b5] false,.lst false jT b6 false,.lst true (.int .i64) yii20.2.2.1 false,.lst true (.int .i8) yii20.2.2.2 false,.lst false (.ref aY) b7 false]⟩)⟩
def iH:Ent:=⟨[0,1,6,7,8,10,12,13,32,81,118,119,122,124,126,127,128,129,233,235,236,237,238],[sC (.ptr 0 0),sI,sC (.ptr 1 0),sC (.ptr 2 0),sC (.ptr 3 0),sC (.ptr 4 0),sC (.ptr 5 0),sI,sI,sB,sC (.ptr 0 0),sI,sC (.ptr 6 0),sC (.ptr 7 0),.lf (.fp false aY),sC (.ptr 8 0),sC (.undef),sC (.undef),sC (.ptr 0 0),sC (.own 9),sI,sC (.undef),sC (.undef)],[.box [lI,lI,lI,lZ bQ,lZ dN,lZ aY,lZ (.slc (.int .i64)),.cst (.own 10),.int .u64,lI] false,.box [lZ (.int .i64),lI,lZ (.int .i8)] false,.box [lZ (.int .i64),lI,lZ (.int .i8)] false,.box [.cst (.pl (.slice none 0 0)),lI,.cst (.pl (.slice none 0 0))] false,.box [lI,lI,lI,lI,lI,lI,lB] false,.box [.cst (.pl (.slice none 0 0)),lI,.cst (.pl (.slice none 0 0))] false,.box [lB,.cst (.pl (.slice none 0 0)),lI,.cst (.pl (.slice none 0 0)),.cst (.pl (.slice none 0 0)),lI,.cst (.pl (.slice none 0 0))] false,.box [lI,lI,lI,lI,lI,lI,lB] false,.box [lB,lZ (.int .i64),lI,lZ (.int .i32),lZ (.int .i64),lI,lZ (.int .i32)] false,.lst false jT false,.lst false (.ref aY) false],fun ⟨⟨_,a,_,_,_,_,_,b,c,d,_,e,_,_,f,_,_,_,_,_,g,_⟩,⟨⟨i,j,l,m,n,o,p,_,q,t,_⟩,⟨u,w,z,_⟩,⟨a0,_⟩,⟨_,a3,_⟩,⟨_,_,a6,a7,_⟩,⟨_,b1,_⟩,⟨b2,_,b3,_,_,b4,_⟩,⟨b5,b6,b7,b8,b9,c0,c1,_⟩,⟨c2,c3,c4,c5,c6,c7,c8,_⟩,c9,d0,_⟩⟩ k=>cY a b c d p u w z a0 a6 a7 b1 (fun yii21=>k .normal ⟨[(0,.ptr 0 0),(1,vI a),(8,.ptr 1 0),(12,.ptr 2 0),(13,vI yii21.1),(118,.ptr 0 0),(119,vI e),(122,.ptr 3 0),(124,.ptr 4 0),(126,.fptr false aY [f] 0 0),(127,.ptr 5 0),(128,.undef),(129,.undef),(233,.ptr 0 0),(235,.own 6),(236,vI g),(237,.undef),(238,.undef)],[.box [vI i,vI j,vI l,vZ bQ m,vZ dN n,vZ aY o,vZ (.slc (.int .i64)) p,.own 7,vK .u64 q,vI t] false,.box [.pl (.slice none 0 0),vI a3,.pl (.slice none 0 0)] false,.box [vZ (.int .i64) yii21.2.1,vI yii21.2.2.1,vZ (.int .i32) yii21.2.2.2] false,.box [vB b2,.pl (.slice none 0 0),vI b3,.pl (.slice none 0 0),.pl (.slice none 0 0),vI b4,.pl (.slice none 0 0)] false,.box [vI b5,vI b6,vI b7,vI b8,vI b9,vI c0,vB c1] false,.box [vB c2,vZ (.int .i64) c3,vI c4,vZ (.int .i32) c5,vZ (.int .i64) c6,vI c7,vZ (.int .i32) c8] false,.lst false jT c9 false,.lst false (.ref aY) d0 false]⟩)⟩
def bN:Inl:=OO (aP.cfg tt none false 0) 86 Tryz.f86 [(63,iG),(514047,iH)] [8,9,118,119,122,124,126,127,128,129,233,235,236,237,238] [(64254,[⟨12,some 0,true,(.int .i64)⟩,⟨12,some 2,true,(.int .i32)⟩]),(257022,[⟨12,some 0,true,(.int .i64)⟩,⟨12,some 2,true,(.int .i32)⟩]),(1028094,[⟨12,some 0,true,(.int .i64)⟩,⟨12,some 2,true,(.int .i32)⟩]),(4112382,[⟨12,some 0,true,(.int .i64)⟩,⟨12,some 2,true,(.int .i32)⟩]),(4112383,[⟨12,some 0,true,(.int .i64)⟩,⟨12,some 2,true,(.int .i32)⟩])]
theorem iA:cA Tryz.prog bN:=sX (G:=(aP.cfg tt none false 0)) Tryz.func86 aP.ok hI0 ⟨fun _ _ hs ⟨⟨_,_,_,_,_,_,_,_,_,_,_,_,_,_,_,_,_⟩,⟨⟨_,_,_,_,_,_,_,_,_,_,_⟩,_,⟨_,_,_,_⟩,⟨_,_,_,_,_,_,_⟩,⟨_,_,_,_,_,_,_,_⟩,⟨_,_,_,_,_,_,_,_⟩,_,_,_⟩⟩ _ h=>aI hs h.it,fun _ _ hs ⟨⟨_,_,_,_,_,_,_,_,_,_,_,_,_,_,_,_,_,_,_,_,_,_⟩,⟨⟨_,_,_,_,_,_,_,_,_,_,_⟩,⟨_,_,_,_⟩,⟨_,_⟩,⟨_,_,_⟩,⟨_,_,_,_,_⟩,⟨_,_,_⟩,⟨_,_,_,_,_,_,_⟩,⟨_,_,_,_,_,_,_,_⟩,⟨_,_,_,_,_,_,_,_⟩,_,_,_⟩⟩ _ h=>aI hs h.it,trivial⟩
def bE:Inl:=OO (aP.cfg tt none false 0) 87 Tryz.f87 [] [6,44,48,50,52,53,54,159,161,162,163,164] []
theorem f8:cA Tryz.prog bE:=sX (G:=(aP.cfg tt none false 0)) Tryz.func87 aP.ok hI0 trivial
structure cL (x2:Int) (K0 K1:Unit->Prop):Prop where
 it:if (x2 != 0)=true then K1 () else K0 ()
structure dS (x1:bS) (x2:Bool) (x16 x18 x19 x20:Int) (x23:List Int) (x24:Int) (x25:List Int) (x26:Bool) (x27 x28:Int) (K0:(Bool×(List Int)×Int×(List Int)×(List Int)×Int×List Int)->Prop) (K1:Int->Prop):Prop where
 it:if x2=true then if (x16==1)=true then zU x1 (x23,(x24,x25)) (fun rii9=>GX x1 (fun rii10=>aO rii9.2 rii10.2 true rii9.1.1 rii9.1.2.1 rii10.1.1 rii10.1.2.1 rii9.1.2.2 rii10.1.2.2 (fun yii11=>cL yii11.1 (fun _=>K0 (yii11.2.1,yii11.2.2.1,yii11.2.2.2.1,yii11.2.2.2.2.1,yii11.2.2.2.2.2.1,yii11.2.2.2.2.2.2.1,yii11.2.2.2.2.2.2.2)) (fun _=>K1 yii11.1)))) else C8 x1 (x23,(x24,x25)) x18 x19 x20 (fun rii12=>KB x1 (fun rii13=>aO rii12.2 rii13.2 true rii12.1.1 rii12.1.2.1 rii13.1.1 rii13.1.2.1 rii12.1.2.2 rii13.1.2.2 (fun yii14=>cL yii14.1 (fun _=>K0 (yii14.2.1,yii14.2.2.1,yii14.2.2.2.1,yii14.2.2.2.2.1,yii14.2.2.2.2.2.1,yii14.2.2.2.2.2.2.1,yii14.2.2.2.2.2.2.2)) (fun _=>K1 yii14.1)))) else K0 (x26,([]:List Int),x27,([]:List Int),([]:List Int),x28,([]:List Int))
structure bM  (K0:Unit->Prop):Prop where
 it:K0 ()
structure aW (x0:bS) (x1 x3 x4 x5:Int) (x6:List jC) (x7:List gF) (x8:List bS) (x9:List (List Int)) (x10 x11 x15 x20:Int) (x30:List (List bS)) (K0:(Int×List (List bS))->Prop):Prop where
 it:if ((x1==0)&&(x15==7))=true then ck ((0:Int)<=x20/\x20<(x30.length:Int)) (rsp (x30.getD ((x20).toNat) []) (ck ((0:Int)<=x20/\x20<(x30.length:Int)) (bM (fun _=>K0 (0,(x30.set ((x20).toNat) [x0]))))) (fun yii5=>JC yii5 x0 (fun rii6=>iI x3 x4 x5 x6 x7 x8 x9 x30 x10 x11 rii6.1 rii6.2 x20 1 (fun rii7=>if (rii7.2 != 0)=true then bM (fun _=>K0 (rii7.2,x30)) else ck ((0:Int)<=x20/\x20<(x30.length:Int)) (bM (fun _=>K0 (0,(x30.set ((x20).toNat) [rii7.1])))))))) else bM (fun _=>K0 (x1,x30))
structure aJ (x0:Int) (x1:bS) (x2 x4 x5 x6:Int) (x7:List jC) (x8:List gF) (x9:List bS) (x10:List (List Int)) (x11 x12 x16 x21:Int) (x30:List Int) (x31:Int) (x32:List Int) (x34:List (List bS)) (K0:(Int×List (List bS))->Prop):Prop where
 it:if (x2==0)=true then ck ((0:Int)<=(IntKind.i64.wrap (x0-1))/\(IntKind.i64.wrap (x0-1))<(x34.length:Int)) (rsp (x34.getD ((IntKind.i64.wrap (x0-1)).toNat) []) (ck ((0:Int)<=(IntKind.i64.wrap (x0-1))/\(IntKind.i64.wrap (x0-1))<(x34.length:Int)) (aW x1 0 x4 x5 x6 x7 x8 x9 x10 x11 x12 x16 x21 (x34.set ((IntKind.i64.wrap (x0-1)).toNat) [(x30,(x31,x32))]) (fun yi7=>K0 (yi7.1,yi7.2)))) (fun yii10=>JC yii10 (x30,(x31,x32)) (fun rii11=>iI x4 x5 x6 x7 x8 x9 x10 x34 x11 x12 rii11.1 rii11.2 (IntKind.i64.wrap (x0-1)) 1 (fun rii12=>if (rii12.2 != 0)=true then aW x1 rii12.2 x4 x5 x6 x7 x8 x9 x10 x11 x12 x16 x21 x34 (fun yi8=>K0 (yi8.1,yi8.2)) else ck ((0:Int)<=(IntKind.i64.wrap (x0-1))/\(IntKind.i64.wrap (x0-1))<(x34.length:Int)) (aW x1 0 x4 x5 x6 x7 x8 x9 x10 x11 x12 x16 x21 (x34.set ((IntKind.i64.wrap (x0-1)).toNat) [rii12.1]) (fun yi9=>K0 (yi9.1,yi9.2))))))) else aW x1 x2 x4 x5 x6 x7 x8 x9 x10 x11 x12 x16 x21 x34 (fun yi10=>K0 (yi10.1,yi10.2))
structure cG (x0:Int) (x1:bS) (x3 x4 x5:Int) (x6:List jC) (x7:List gF) (x8:List bS) (x9:List (List Int)) (x10 x11 x15 x20:Int) (x22:List Int) (x23:Int) (x24:List Int) (x33:List (List bS)) (K0:(Int×List (List bS))->Prop):Prop where
 it:ck ((0:Int)<=(IntKind.i64.wrap (x0-1))/\(IntKind.i64.wrap (x0-1))<(x6.length:Int)) (ck ((0:Int)<=(IntKind.i64.wrap (x0-1))/\(IntKind.i64.wrap (x0-1))<(x7.length:Int)) (if (((x6.getD ((IntKind.i64.wrap (x0-1)).toNat) (0,(0,(0,(0,(0,(0,false))))))).1)==5)=true then xK x1 (x22,(x23,x24)) (fun rii12=>aJ x0 x1 rii12.2 x3 x4 x5 x6 x7 x8 x9 x10 x11 x15 x20 rii12.1.1 rii12.1.2.1 rii12.1.2.2 x33 (fun yi7=>K0 (yi7.1,yi7.2))) else if (((x6.getD ((IntKind.i64.wrap (x0-1)).toNat) (0,(0,(0,(0,(0,(0,false))))))).1)==6)=true then A6 x1 x22 (fun rii13=>aJ x0 x1 rii13.2 x3 x4 x5 x6 x7 x8 x9 x10 x11 x15 x20 rii13.1.1 rii13.1.2.1 rii13.1.2.2 x33 (fun yi8=>K0 (yi8.1,yi8.2))) else if (((x6.getD ((IntKind.i64.wrap (x0-1)).toNat) (0,(0,(0,(0,(0,(0,false))))))).1)==7)=true then aJ x0 x1 0 x3 x4 x5 x6 x7 x8 x9 x10 x11 x15 x20 x1.1 x1.2.1 x1.2.2 x33 (fun yi9=>K0 (yi9.1,yi9.2)) else if (((x6.getD ((IntKind.i64.wrap (x0-1)).toNat) (0,(0,(0,(0,(0,(0,false))))))).1)==1)=true then EH x1 ((x7.getD ((IntKind.i64.wrap (x0-1)).toNat) (([],(0,[])),([],([],(0,[]))))).1) (fun rii14=>aR x0 rii14.2 x3 x4 x5 x6 x7 x8 x9 x10 x11 rii14.1.1 rii14.1.2.1 rii14.1.2.2 x33 (fun yii15=>aJ x0 x1 yii15.1 x3 x4 x5 x6 x7 x8 x9 x10 x11 x15 x20 yii15.2.2.1 yii15.2.1 yii15.2.2.2 x33 (fun yi10=>K0 (yi10.1,yi10.2)))) else if (((x6.getD ((IntKind.i64.wrap (x0-1)).toNat) (0,(0,(0,(0,(0,(0,false))))))).1)==2)=true then ck ((0:Int)<=2/\2<(x22.length:Int)) (ck ((0:Int)<=3/\3<(x22.length:Int)) (F5 x1 ((x7.getD ((IntKind.i64.wrap (x0-1)).toNat) (([],(0,[])),([],([],(0,[]))))).1) (x22.getD 2 0) (x22.getD 3 0) (((((x6.getD ((IntKind.i64.wrap (x0-1)).toNat) (0,(0,(0,(0,(0,(0,false))))))).2).2).2).1) ((((((x6.getD ((IntKind.i64.wrap (x0-1)).toNat) (0,(0,(0,(0,(0,(0,false))))))).2).2).2).2).1) (fun rii16=>aR x0 rii16.2 x3 x4 x5 x6 x7 x8 x9 x10 x11 rii16.1.1 rii16.1.2.1 rii16.1.2.2 x33 (fun yii17=>aJ x0 x1 yii17.1 x3 x4 x5 x6 x7 x8 x9 x10 x11 x15 x20 yii17.2.2.1 yii17.2.1 yii17.2.2.2 x33 (fun yi11=>K0 (yi11.1,yi11.2)))))) else cY x0 0 ((x6.getD ((IntKind.i64.wrap (x0-1)).toNat) (0,(0,(0,(0,(0,(0,false))))))).1) (((x6.getD ((IntKind.i64.wrap (x0-1)).toNat) (0,(0,(0,(0,(0,(0,false))))))).1)==3) x9 x1.1 x1.2.1 x1.2.2 x22 ((((x6.getD ((IntKind.i64.wrap (x0-1)).toNat) (0,(0,(0,(0,(0,(0,false))))))).2).2).1) (((((x6.getD ((IntKind.i64.wrap (x0-1)).toNat) (0,(0,(0,(0,(0,(0,false))))))).2).2).2).1) 0 (fun yii18=>aR x0 yii18.1 x3 x4 x5 x6 x7 x8 x9 x10 x11 yii18.2.1 yii18.2.2.1 yii18.2.2.2 x33 (fun yii19=>aJ x0 x1 yii19.1 x3 x4 x5 x6 x7 x8 x9 x10 x11 x15 x20 yii19.2.2.1 yii19.2.1 yii19.2.2.2 x33 (fun yi12=>K0 (yi12.1,yi12.2))))))
def oB:Ent:=⟨[0,1,4,6,7,8,9,115,117,118,119,120],[sC (.ptr 0 0),sI,sC (.ptr 1 0),sC (.ptr 2 0),sC (.ptr 3 0),.lf (.fp false aY),sC (.ptr 4 0),sC (.ptr 0 0),sC (.own 5),sI,sC (.undef),sC (.undef)],[.box [lI,lI,lI,lZ bQ,lZ dN,lZ aY,lZ (.slc (.int .i64)),.cst (.own 6),.int .u64,lI] false,.box [lB,.cst (.pl (.slice none 0 0)),lI,.cst (.pl (.slice none 0 0)),.cst (.pl (.slice none 0 0)),lI,.cst (.pl (.slice none 0 0))] false,.box [lI,lI,lI,lI,lI,lI,lB] false,.box [lZ (.int .i64),lI,lZ (.int .i8)] false,.box [lB,lZ (.int .i64),lI,lZ (.int .i32),lZ (.int .i64),lI,lZ (.int .i32)] false,.lst false jT false,.lst false (.ref aY) false],fun ⟨⟨_,a,_,_,_,b,_,_,_,c,_⟩,⟨⟨d,e,f,g,i,j,l,_,m,n,_⟩,_,⟨t,_,_,_,_,a1,_⟩,⟨a3,a4,a5,_⟩,⟨a6,a7,a8,a9,b0,b1,b2,_⟩,b3,b4,_⟩⟩ k=>cG a b d e f g i j l m n t a1 a3 a4 a5 b4 (fun yi19=>k .ret ⟨[(4,.ptr 0 0),(5,vI yi19.1),(115,.ptr 1 0),(117,.own 2),(118,vI c),(119,.undef),(120,.undef)],[.box [vB a6,vZ (.int .i64) a7,vI a8,vZ (.int .i32) a9,vZ (.int .i64) b0,vI b1,vZ (.int .i32) b2] false,.box [vI d,vI e,vI f,vZ bQ g,vZ dN i,vZ aY j,vZ (.slc (.int .i64)) l,.own 3,vK .u64 m,vI n] false,.lst false jT b3 false,.lst false (.ref aY) yi19.2 false]⟩)⟩
def oK:Ent:=⟨[0,1,4,6,7,8,9,52,115,117,118,119,120],[sC (.ptr 0 0),sI,sC (.ptr 1 0),sC (.ptr 2 0),sC (.ptr 3 0),.lf (.fp false aY),sC (.ptr 4 0),sB,sC (.ptr 0 0),sC (.own 5),sI,sC (.undef),sC (.undef)],[.box [lI,lI,lI,lZ bQ,lZ dN,lZ aY,lZ (.slc (.int .i64)),.cst (.own 6),.int .u64,lI] false,.box [lB,.cst (.pl (.slice none 0 0)),lI,.cst (.pl (.slice none 0 0)),.cst (.pl (.slice none 0 0)),lI,.cst (.pl (.slice none 0 0))] false,.box [lI,lI,lI,lI,lI,lI,lB] false,.box [lZ (.int .i64),lI,lZ (.int .i8)] false,.box [lB,.cst (.pl (.slice none 0 0)),lI,.cst (.pl (.slice none 0 0)),.cst (.pl (.slice none 0 0)),lI,.cst (.pl (.slice none 0 0))] false,.lst false jT false,.lst false (.ref aY) false],fun ⟨⟨_,a,_,_,_,b,_,c,_,_,d,_⟩,⟨⟨e,f,g,i,j,l,m,_,n,o,_⟩,⟨p,_,q,_,_,t,_⟩,⟨u,w,z,a0,a1,a2,a3,_⟩,⟨a4,a5,a6,_⟩,⟨a7,_,a8,_,_,a9,_⟩,b0,b1,_⟩⟩ k=>dS b c u z a0 a1 a4 a5 a6 a7 a8 a9 (fun yi20=>k .normal ⟨[(0,.ptr 0 0),(1,vI a),(4,.ptr 1 0),(6,.ptr 2 0),(7,.ptr 3 0),(8,.fptr false aY [b] 0 0),(9,.ptr 4 0),(115,.ptr 0 0),(117,.own 5),(118,vI d),(119,.undef),(120,.undef)],[.box [vI e,vI f,vI g,vZ bQ i,vZ dN j,vZ aY l,vZ (.slc (.int .i64)) m,.own 6,vK .u64 n,vI o] false,.box [vB p,.pl (.slice none 0 0),vI q,.pl (.slice none 0 0),.pl (.slice none 0 0),vI t,.pl (.slice none 0 0)] false,.box [vI u,vI w,vI z,vI a0,vI a1,vI a2,vB a3] false,.box [vZ (.int .i64) a4,vI a5,vZ (.int .i8) a6] false,.box [vB yi20.1,vZ (.int .i64) yi20.2.1,vI yi20.2.2.1,vZ (.int .i32) yi20.2.2.2.1,vZ (.int .i64) yi20.2.2.2.2.1,vI yi20.2.2.2.2.2.1,vZ (.int .i32) yi20.2.2.2.2.2.2] false,.lst false jT b0 false,.lst false (.ref aY) b1 false]⟩) (fun yi21=>k .ret ⟨[(4,.ptr 0 0),(5,vI yi21),(115,.ptr 1 0),(117,.own 2),(118,vI d),(119,.undef),(120,.undef)],[.box [vB false,.pl (.slice none 0 0),vI 0,.pl (.slice none 0 0),.pl (.slice none 0 0),vI 0,.pl (.slice none 0 0)] false,.box [vI e,vI f,vI g,vZ bQ i,vZ dN j,vZ aY l,vZ (.slc (.int .i64)) m,.own 3,vK .u64 n,vI o] false,.lst false jT b0 false,.lst false (.ref aY) b1 false]⟩)⟩
def oF:Ent:=⟨[0,1,4,6,8,9,10,11,115,117,118,119,120],[sC (.ptr 0 0),sI,sC (.ptr 1 0),sC (.ptr 2 0),.lf (.fp false aY),sC (.ptr 3 0),sI,sC (.ptr 4 0),sC (.ptr 0 0),sC (.own 5),sI,sC (.undef),sC (.undef)],[.box [lI,lI,lI,lZ bQ,lZ dN,lZ aY,lZ (.slc (.int .i64)),.cst (.own 6),.int .u64,lI] false,.box [lB,.cst (.pl (.slice none 0 0)),lI,.cst (.pl (.slice none 0 0)),.cst (.pl (.slice none 0 0)),lI,.cst (.pl (.slice none 0 0))] false,.box [lI,lI,lI,lI,lI,lI,lB] false,.box [lB,lZ (.int .i64),lI,lZ (.int .i32),lZ (.int .i64),lI,lZ (.int .i32)] false,.box [lZ (.int .i64),lI,lZ (.int .i8)] false,.lst false jT false,.lst false (.ref aY) false],fun ⟨⟨_,a,_,_,b,_,c,_,_,_,d,_⟩,⟨⟨e,f,g,i,j,l,m,_,n,o,_⟩,_,⟨u,_,_,_,_,a2,_⟩,⟨a4,a5,a6,a7,a8,a9,b0,_⟩,⟨b1,b2,b3,_⟩,b4,b5,_⟩⟩ k=>aJ a b c e f g i j l m n o u a2 b1 b2 b3 b5 (fun yi22=>k .ret ⟨[(4,.ptr 0 0),(5,vI yi22.1),(115,.ptr 1 0),(117,.own 2),(118,vI d),(119,.undef),(120,.undef)],[.box [vB a4,vZ (.int .i64) a5,vI a6,vZ (.int .i32) a7,vZ (.int .i64) a8,vI a9,vZ (.int .i32) b0] false,.box [vI e,vI f,vI g,vZ bQ i,vZ dN j,vZ aY l,vZ (.slc (.int .i64)) m,.own 3,vK .u64 n,vI o] false,.lst false jT b4 false,.lst false (.ref aY) yi22.2 false]⟩)⟩
def oC:Ent:=⟨[0,4,6,8,9,10,115,117,118,119,120],[sC (.ptr 0 0),sC (.ptr 1 0),sC (.ptr 2 0),.lf (.fp false aY),sC (.ptr 3 0),sI,sC (.ptr 0 0),sC (.own 4),sI,sC (.undef),sC (.undef)],[.box [lI,lI,lI,lZ bQ,lZ dN,lZ aY,lZ (.slc (.int .i64)),.cst (.own 5),.int .u64,lI] false,.box [lB,.cst (.pl (.slice none 0 0)),lI,.cst (.pl (.slice none 0 0)),.cst (.pl (.slice none 0 0)),lI,.cst (.pl (.slice none 0 0))] false,.box [lI,lI,lI,lI,lI,lI,lB] false,.box [lB,lZ (.int .i64),lI,lZ (.int .i32),lZ (.int .i64),lI,lZ (.int .i32)] false,.lst false jT false,.lst false (.ref aY) false],fun ⟨⟨_,_,_,a,_,b,_,_,c,_⟩,⟨⟨d,e,f,g,i,j,l,_,m,n,_⟩,_,⟨t,_,_,_,_,a1,_⟩,⟨a3,a4,a5,a6,a7,a8,a9,_⟩,b0,b1,_⟩⟩ k=>aW a b d e f g i j l m n t a1 b1 (fun yi23=>k .ret ⟨[(4,.ptr 0 0),(5,vI yi23.1),(115,.ptr 1 0),(117,.own 2),(118,vI c),(119,.undef),(120,.undef)],[.box [vB a3,vZ (.int .i64) a4,vI a5,vZ (.int .i32) a6,vZ (.int .i64) a7,vI a8,vZ (.int .i32) a9] false,.box [vI d,vI e,vI f,vZ bQ g,vZ dN i,vZ aY j,vZ (.slc (.int .i64)) l,.own 3,vK .u64 m,vI n] false,.lst false jT b0 false,.lst false (.ref aY) yi23.2 false]⟩)⟩
def oQ:Ent:=⟨[0,1,4,6,7,8,9,10,115,117,118,119,120],[sC (.ptr 0 0),sI,sC (.ptr 1 0),sC (.ptr 2 0),sC (.ptr 3 0),.lf (.fp false aY),sC (.ptr 4 0),sI,sC (.ptr 0 0),sC (.own 5),sI,sC (.undef),sC (.undef)],[.box [lI,lI,lI,lZ bQ,lZ dN,lZ aY,lZ (.slc (.int .i64)),.cst (.own 6),.int .u64,lI] false,.box [lB,.cst (.pl (.slice none 0 0)),lI,.cst (.pl (.slice none 0 0)),.cst (.pl (.slice none 0 0)),lI,.cst (.pl (.slice none 0 0))] false,.box [lI,lI,lI,lI,lI,lI,lB] false,.box [lZ (.int .i64),lI,lZ (.int .i8)] false,.box [lB,lZ (.int .i64),lI,lZ (.int .i32),lZ (.int .i64),lI,lZ (.int .i32)] false,.lst false jT false,.lst false (.ref aY) false],fun ⟨⟨_,a,_,_,_,b,_,c,_,_,d,_⟩,⟨⟨e,f,g,i,j,l,m,_,n,o,_⟩,⟨p,_,q,_,_,t,_⟩,⟨u,w,z,a0,a1,a2,a3,_⟩,⟨a4,a5,a6,_⟩,⟨a7,a8,a9,b0,b1,b2,b3,_⟩,b4,b5,_⟩⟩ k=>cL c (fun _=>k .normal ⟨[(0,.ptr 0 0),(1,vI a),(4,.ptr 1 0),(6,.ptr 2 0),(7,.ptr 3 0),(8,.fptr false aY [b] 0 0),(9,.ptr 4 0),(115,.ptr 0 0),(117,.own 5),(118,vI d),(119,.undef),(120,.undef)],[.box [vI e,vI f,vI g,vZ bQ i,vZ dN j,vZ aY l,vZ (.slc (.int .i64)) m,.own 6,vK .u64 n,vI o] false,.box [vB p,.pl (.slice none 0 0),vI q,.pl (.slice none 0 0),.pl (.slice none 0 0),vI t,.pl (.slice none 0 0)] false,.box [vI u,vI w,vI z,vI a0,vI a1,vI a2,vB a3] false,.box [vZ (.int .i64) a4,vI a5,vZ (.int .i8) a6] false,.box [vB a7,vZ (.int .i64) a8,vI a9,vZ (.int .i32) b0,vZ (.int .i64) b1,vI b2,vZ (.int .i32) b3] false,.lst false jT b4 false,.lst false (.ref aY) b5 false]⟩) (fun _=>k .ret ⟨[(4,.ptr 0 0),(5,vI c),(115,.ptr 1 0),(117,.own 2),(118,vI d),(119,.undef),(120,.undef)],[.box [vB false,.pl (.slice none 0 0),vI 0,.pl (.slice none 0 0),.pl (.slice none 0 0),vI 0,.pl (.slice none 0 0)] false,.box [vI e,vI f,vI g,vZ bQ i,vZ dN j,vZ aY l,vZ (.slc (.int .i64)) m,.own 3,vK .u64 n,vI o] false,.lst false jT b4 false,.lst false (.ref aY) b5 false]⟩)⟩
def oM:Ent:=⟨[4,9,10,115,117,118,119,120],[sC (.ptr 0 0),sC (.ptr 1 0),sI,sC (.ptr 2 0),sC (.own 3),sI,sC (.undef),sC (.undef)],[.box [lB,.cst (.pl (.slice none 0 0)),lI,.cst (.pl (.slice none 0 0)),.cst (.pl (.slice none 0 0)),lI,.cst (.pl (.slice none 0 0))] false,.box [lB,lZ (.int .i64),lI,lZ (.int .i32),lZ (.int .i64),lI,lZ (.int .i32)] false,.box [lI,lI,lI,lZ bQ,lZ dN,lZ aY,lZ (.slc (.int .i64)),.cst (.own 4),.int .u64,lI] false,.lst false jT false,.lst false (.ref aY) false],fun ⟨⟨_,_,a,_,_,b,_⟩,⟨_,⟨f,g,i,j,l,m,n,_⟩,⟨o,p,q,t,u,w,z,_,a0,a1,_⟩,a2,a3,_⟩⟩ k=>bM (fun _=>k .ret ⟨[(4,.ptr 0 0),(5,vI a),(115,.ptr 1 0),(117,.own 2),(118,vI b),(119,.undef),(120,.undef)],[.box [vB f,vZ (.int .i64) g,vI i,vZ (.int .i32) j,vZ (.int .i64) l,vI m,vZ (.int .i32) n] false,.box [vI o,vI p,vI q,vZ bQ t,vZ dN u,vZ aY w,vZ (.slc (.int .i64)) z,.own 3,vK .u64 a0,vI a1] false,.lst false jT a2 false,.lst false (.ref aY) a3 false]⟩)⟩
def iR:Inl:=OO (aP.cfg tt (some (RA (RA bH bN) bE)) false 0) 43 Tryz.f43 [(255,oB),(509,oK),(511,oF),(1023,oC),(2037,oQ),(2047,oM)] [4,5,115,117,118,119,120] [(510,[⟨11,some 0,true,(.int .i64)⟩,⟨11,some 2,true,(.int .i8)⟩]),(1019,[⟨9,some 1,true,(.int .i64)⟩,⟨9,some 3,true,(.int .i32)⟩,⟨9,some 4,true,(.int .i64)⟩,⟨9,some 6,true,(.int .i32)⟩]),(8151,[⟨9,some 1,true,(.int .i64)⟩,⟨9,some 3,true,(.int .i32)⟩,⟨9,some 4,true,(.int .i64)⟩,⟨9,some 6,true,(.int .i32)⟩])]
theorem nX:cA Tryz.prog iR:=sX (G:=(aP.cfg tt (some (RA (RA bH bN) bE)) false 0)) Tryz.func43 aP.ok (hI1 (aAy (aAy gQ iA) f8)) ⟨fun _ _ hs ⟨⟨_,_,_,_,_,_,_,_,_,_,_⟩,⟨⟨_,_,_,_,_,_,_,_,_,_,_⟩,_,⟨_,_,_,_,_,_,_⟩,⟨_,_,_,_⟩,⟨_,_,_,_,_,_,_,_⟩,_,_,_⟩⟩ _ h=>aI hs h.it,fun _ _ hs ⟨⟨_,_,_,_,_,_,_,_,_,_,_,_⟩,⟨⟨_,_,_,_,_,_,_,_,_,_,_⟩,⟨_,_,_,_,_,_,_⟩,⟨_,_,_,_,_,_,_,_⟩,⟨_,_,_,_⟩,⟨_,_,_,_,_,_,_⟩,_,_,_⟩⟩ _ h=>aI hs h.it,fun _ _ hs ⟨⟨_,_,_,_,_,_,_,_,_,_,_,_⟩,⟨⟨_,_,_,_,_,_,_,_,_,_,_⟩,_,⟨_,_,_,_,_,_,_⟩,⟨_,_,_,_,_,_,_,_⟩,⟨_,_,_,_⟩,_,_,_⟩⟩ _ h=>aI hs h.it,fun _ _ hs ⟨⟨_,_,_,_,_,_,_,_,_,_⟩,⟨⟨_,_,_,_,_,_,_,_,_,_,_⟩,_,⟨_,_,_,_,_,_,_⟩,⟨_,_,_,_,_,_,_,_⟩,_,_,_⟩⟩ _ h=>aI hs h.it,fun _ _ hs ⟨⟨_,_,_,_,_,_,_,_,_,_,_,_⟩,⟨⟨_,_,_,_,_,_,_,_,_,_,_⟩,⟨_,_,_,_,_,_,_⟩,⟨_,_,_,_,_,_,_,_⟩,⟨_,_,_,_⟩,⟨_,_,_,_,_,_,_,_⟩,_,_,_⟩⟩ _ h=>aI hs h.it,fun _ _ hs ⟨⟨_,_,_,_,_,_,_⟩,⟨_,⟨_,_,_,_,_,_,_,_⟩,⟨_,_,_,_,_,_,_,_,_,_,_⟩,_,_,_⟩⟩ _ h=>aI hs h.it,trivial⟩
structure fO (x0 x1:Int) (x11:List D7) (x12:Bool) (x13:List Int) (x14:Int) (x15 x16:List Int) (x17:Int) (x18:List Int) (K0 K1:(List D7)->Prop):Prop where
 it:if (x1 != 0)=true then K1 ([]:List D7) else ck ((0:Int)<=(IntKind.i64.wrap (x0-1))/\(IntKind.i64.wrap (x0-1))<(x11.length:Int)) (K0 (x11.set ((IntKind.i64.wrap (x0-1)).toNat) (x12,((x13,(x14,x15)),(x16,(x17,x18))))))
def mS (x1 x2 x3:Int) (x4:List jC) (x5:List gF) (x6:List bS) (x7:List (List Int)) (x8 x9:Int) (K0:(List D7)->Prop) (K1:((List D7)×Int×Int)->Prop) (s:Int×(List D7)×List (List bS)) (nx:(Int×(List D7)×List (List bS))->Prop):Prop :=
 if (decide (0<s.1))=true then ck ((0:Int)<=(IntKind.i64.wrap (s.1-1))/\(IntKind.i64.wrap (s.1-1))<(x4.length:Int)) (ck ((0:Int)<=(IntKind.i64.wrap (s.1-1))/\(IntKind.i64.wrap (s.1-1))<(x6.length:Int)) (ck ((0:Int)<=s.1/\s.1<(s.2.2.length:Int)) (rsp (s.2.2.getD ((s.1).toNat) []) (fO s.1 0 s.2.1 false ([]:List Int) 0 ([]:List Int) ([]:List Int) 0 ([]:List Int) (fun y2=>nx (IntKind.i64.wrap (s.1-1),y2,s.2.2)) (fun y3=>K1 (y3,s.1,0))) (fun yi15=>dS yi15 (((((x4.getD ((IntKind.i64.wrap (s.1-1)).toNat) (0,(0,(0,(0,(0,(0,false))))))).1)==1)||(((x4.getD ((IntKind.i64.wrap (s.1-1)).toNat) (0,(0,(0,(0,(0,(0,false))))))).1)==2))&&(!(((((((x4.getD ((IntKind.i64.wrap (s.1-1)).toNat) (0,(0,(0,(0,(0,(0,false))))))).2).2).2).2).2).2))) ((x4.getD ((IntKind.i64.wrap (s.1-1)).toNat) (0,(0,(0,(0,(0,(0,false))))))).1) ((((x4.getD ((IntKind.i64.wrap (s.1-1)).toNat) (0,(0,(0,(0,(0,(0,false))))))).2).2).1) (((((x4.getD ((IntKind.i64.wrap (s.1-1)).toNat) (0,(0,(0,(0,(0,(0,false))))))).2).2).2).1) ((((((x4.getD ((IntKind.i64.wrap (s.1-1)).toNat) (0,(0,(0,(0,(0,(0,false))))))).2).2).2).2).1) ((x6.getD ((IntKind.i64.wrap (s.1-1)).toNat) ([],(0,[]))).1) (((x6.getD ((IntKind.i64.wrap (s.1-1)).toNat) ([],(0,[]))).2).1) (((x6.getD ((IntKind.i64.wrap (s.1-1)).toNat) ([],(0,[]))).2).2) false 0 0 (fun yi16=>cG s.1 yi15 x1 x2 x3 x4 x5 x6 x7 x8 x9 ((x4.getD ((IntKind.i64.wrap (s.1-1)).toNat) (0,(0,(0,(0,(0,(0,false))))))).1) (((((((x4.getD ((IntKind.i64.wrap (s.1-1)).toNat) (0,(0,(0,(0,(0,(0,false))))))).2).2).2).2).2).1) ((x6.getD ((IntKind.i64.wrap (s.1-1)).toNat) ([],(0,[]))).1) (((x6.getD ((IntKind.i64.wrap (s.1-1)).toNat) ([],(0,[]))).2).1) (((x6.getD ((IntKind.i64.wrap (s.1-1)).toNat) ([],(0,[]))).2).2) s.2.2 (fun yi17=>fO s.1 yi17.1 s.2.1 yi16.1 yi16.2.1 yi16.2.2.1 yi16.2.2.2.1 yi16.2.2.2.2.1 yi16.2.2.2.2.2.1 yi16.2.2.2.2.2.2 (fun y4=>nx (IntKind.i64.wrap (s.1-1),y4,yi17.2)) (fun y5=>K1 (y5,s.1,yi17.1)))) (fun yi18=>fO s.1 yi18 s.2.1 false ([]:List Int) 0 ([]:List Int) ([]:List Int) 0 ([]:List Int) (fun y6=>nx (IntKind.i64.wrap (s.1-1),y6,s.2.2)) (fun y7=>K1 (y7,s.1,yi18))))))) else K0 s.2.1
structure uB (x1 x2 x3:Int) (x4:List jC) (x5:List gF) (x6:List bS) (x7:List (List Int)) (x8 x9:Int) (K0:(List D7)->Prop) (K1:((List D7)×Int×Int)->Prop) (s:Int×(List D7)×List (List bS)):Prop where
 it:Go.Mach.Loop (mS x1 x2 x3 x4 x5 x6 x7 x8 x9 K0 K1) s
structure uK (a0:JJ) (a1:List gF) (a2:aHo) (a3:bS) (a4 a5:Int) (Q:((List D7)×Int×Int)->Prop):Prop where
 it:qI a0.1.1 a0.1.2.1 a0.1.2.2 a0.2 a1 a2.1 a2.2 a4 a5 a3 (fun r1=>if (r1 != 0)=true then Q (([]:List D7),0,r1) else ck ((0:Int)<=(a2.1.length:Int)/\((8:Nat):Int)*(a2.1.length:Int)<=70368744177664) (ck ((0:Int)<=(a0.2.length:Int)/\(a0.2.length:Int)<((List.replicate ((a2.1.length:Int)).toNat (([]:List bS):List bS)).length:Int)) (ck ((0:Int)<=(a0.2.length:Int)/\((120:Nat):Int)*(a0.2.length:Int)<=70368744177664) (uB a0.1.1 a0.1.2.1 a0.1.2.2 a0.2 a1 a2.1 a2.2 a4 a5 (fun y8=>Q (y8,0,0)) (fun y9=>Q (y9.1,y9.2.1,y9.2.2)) ((a0.2.length:Int),List.replicate ((a0.2.length:Int)).toNat ((false,((([]:List Int),(0,([]:List Int))),(([]:List Int),(0,([]:List Int))))):D7),(List.replicate ((a2.1.length:Int)).toNat (([]:List bS):List bS)).set (((a0.2.length:Int)).toNat) [a3])))))
def M1:Ent:=⟨[15,17,18],[sC (.ptr 0 0),sC (.own 1),sI],[.box [lI,lI,lI,lZ bQ,lZ dN,lZ aY,lZ (.slc (.int .i64)),.cst (.own 2),.int .u64,lI] false,.lst false jT false,.lst false (.ref aY) false],fun ⟨⟨_,_,a,_⟩,⟨⟨b,c,d,e,f,g,i,_,j,l,_⟩,m,n,_⟩⟩ k=>uB b c d e f g i j l (fun y10=>k (.exit 0) ⟨[(17,.own 0)],[.lst false jT y10 false]⟩) (fun y11=>k .ret ⟨[(12,vZ jT y11.1),(13,vI y11.2.1),(14,vI y11.2.2)],[]⟩) (a,m,n)⟩
def M8:Ent:=⟨[15,17,18,19,20],[sC (.ptr 0 0),sC (.own 1),sI,sC (.ptr 2 0),sI],[.box [lI,lI,lI,lZ bQ,lZ dN,lZ aY,lZ (.slc (.int .i64)),.cst (.own 3),.int .u64,lI] false,.lst false jT false,.box [lB,lZ (.int .i64),lI,lZ (.int .i32),lZ (.int .i64),lI,lZ (.int .i32)] false,.lst false (.ref aY) false],fun ⟨⟨_,_,a,_,b,_⟩,⟨⟨c,d,e,f,g,i,j,_,l,m,_⟩,n,⟨o,p,q,t,u,w,z,_⟩,a0,_⟩⟩ k=>fO a b n o p q t u w z (fun y12=>k .normal ⟨[(15,.ptr 0 0),(17,.own 1),(18,vI a)],[.box [vI c,vI d,vI e,vZ bQ f,vZ dN g,vZ aY i,vZ (.slc (.int .i64)) j,.own 2,vK .u64 l,vI m] false,.lst false jT y12 false,.lst false (.ref aY) a0 false]⟩) (fun y13=>k .ret ⟨[(12,vZ jT y13),(13,vI a),(14,vI b)],[]⟩)⟩
def OL:=aP.putX tt 16 Tryz.func16 [12,13,14] [(237,[⟨12,none,true,jT⟩]),(511,[⟨12,none,true,jT⟩]),(32584,[⟨19,some 1,true,(.int .i64)⟩,⟨19,some 3,true,(.int .i32)⟩,⟨19,some 4,true,(.int .i64)⟩,⟨19,some 6,true,(.int .i32)⟩]),(521365,[⟨12,none,true,jT⟩])] [(1018,M1),(32585,M8)] [.agg [lI,lI,lI,lZ bQ],sZ dN,.agg [lZ aY,lZ (.slc (.int .i64))],.agg [lZ (.int .i64),lI,lZ (.int .i8)],.lf (.int .u64),sI] [.f] [(false,(.slc jT)),(false,(.int .i64)),(false,(.int .i64))] (fun x=>uK ((x.1.1,(x.1.2.1,x.1.2.2.1)),x.1.2.2.2.1) x.2.1 (x.2.2.1.1,x.2.2.1.2.1) (x.2.2.2.1.1,(x.2.2.2.1.2.1,x.2.2.2.1.2.2.1)) x.2.2.2.2.1 x.2.2.2.2.2.1) [] (some iR) true 0 (hI1 nX) ⟨fun _ _ hs ⟨⟨_,_,a,_⟩,⟨⟨b,c,d,e,f,g,i,_,j,l,_⟩,m,n,_⟩⟩ _ h=>aD hs (fun y=>⟨⟨(),(),y.1,()⟩,⟨⟨b,c,d,e,f,g,i,(),j,l,()⟩,y.2.1,y.2.2,()⟩⟩) (a,m,n) h.it,fun _ _ hs ⟨⟨_,_,_,_,_,_⟩,⟨⟨_,_,_,_,_,_,_,_,_,_,_⟩,_,⟨_,_,_,_,_,_,_,_⟩,_,_⟩⟩ _ h=>aI hs h.it,trivial⟩ fun _ _ h=>⟨_,h.it,by kernel_rfl⟩
structure oE (a0:Int) (Q:JJ->Prop):Prop where
 it:Q ((1,(1,2)),[(6,(0,(0,(0,(0,(0,false)))))),(1,(a0,(0,(0,(0,(0,false))))))])
def C5:=OL.put tt 38 Tryz.func38 [2] [] [] [sI] [] [(true,aCf)] (fun x=>oE x.1) trivial fun _ _ h=>⟨_,h.it,by kernel_rfl⟩
structure dM  (Q:Bool->Prop):Prop where
 it:oE 1 (fun r1=>tM r1 [((([]:List Int),(0,([]:List Int))),(([]:List Int),(([]:List Int),(0,([]:List Int))))),(([1,2],(0,[3,4])),([0,0],([1],(0,[5]))))] ([1,1,1,2],(0,[1,2])) 1 0 (fun r2=>oE 1 (fun r3=>uK r3 [((([]:List Int),(0,([]:List Int))),(([]:List Int),(([]:List Int),(0,([]:List Int))))),(([1,2],(0,[3,4])),([0,0],([1],(0,[5]))))] r2.1 ([1,1],(0,[6])) 1 0 (fun r4=>jn (fun v5=>jn (fun v7=>jn (fun v9=>jn (fun v11=>jn (fun v13=>Q v13) (fun J14=>if v11=true then ck ((0:Int)<=1/\1<(r4.1.length:Int)) (ck ((0:Int)<=0/\0<((((((r4.1.getD 1 (false,(([],(0,[])),([],(0,[]))))).2).2).2).2).length:Int)) (J14 (((((((r4.1.getD 1 (false,(([],(0,[])),([],(0,[]))))).2).2).2).2).getD 0 0)==6))) else J14 false)) (fun J12=>if v9=true then ck ((0:Int)<=1/\1<(r4.1.length:Int)) (J12 (((((((r4.1.getD 1 (false,(([],(0,[])),([],(0,[]))))).2).2).2).2).length:Int)==1)) else J12 false)) (fun J10=>if v7=true then ck ((0:Int)<=1/\1<(r4.1.length:Int)) (ck ((0:Int)<=1/\1<((((((r4.1.getD 1 (false,(([],(0,[])),([],(0,[]))))).2).1).2).2).length:Int)) (J10 (((((((r4.1.getD 1 (false,(([],(0,[])),([],(0,[]))))).2).1).2).2).getD 1 0)==12))) else J10 false)) (fun J8=>if v5=true then ck ((0:Int)<=1/\1<(r4.1.length:Int)) (J8 (((((((r4.1.getD 1 (false,(([],(0,[])),([],(0,[]))))).2).1).2).2).length:Int)==2)) else J8 false)) (fun J6=>if (((r2.2.2==0)&&(r4.2.2==0))&&((r4.1.length:Int)==2))=true then ck ((0:Int)<=1/\1<(r4.1.length:Int)) (J6 ((r4.1.getD 1 (false,(([],(0,[])),([],(0,[]))))).1)) else J6 false)))))
def AD:=C5.put tt 13 Tryz.func13 [0] [] [] [] [] [(false,.bool)] (fun _=>dM) trivial fun _ _ h=>⟨_,h.it,by kernel_rfl⟩
end
end Go.Proofs.YtcfpfefadlnmcaaGreat

namespace Go.Proofs.YtcfpfefadlnmcaaGreat
open Go.Mach
set_option maxRecDepth 100000
set_option linter.unusedVariables false
noncomputable section
structure dG (x3:Int) (K0:Int->Prop):Prop where
 it:K0 (IntKind.i64.wrap (x3+1))
def cT (x4:List Int) (x5:Int) (K0 K1:Unit->Prop) (s:Int) (nx:Int->Prop):Prop :=
 if (decide (s<x5))=true then ck ((0:Int)<=s/\s<(x4.length:Int)) (if ((decide (16777216<=(x4.getD ((s).toNat) 0)))||(decide ((x4.getD ((s).toNat) 0)<=(-16777216))))=true then K1 () else nx (IntKind.i64.wrap (s+1))) else K0 ()
structure jU (x4:List Int) (x5:Int) (K0 K1:Unit->Prop) (s:Int):Prop where
 it:Go.Mach.Loop (cT x4 x5 K0 K1) s
structure jJ (x0:List D7) (x1:Int) (K0 K1:Unit->Prop):Prop where
 it:ck ((0:Int)<=x1/\x1<(x0.length:Int)) (jU (((((x0.getD ((x1).toNat) (false,(([],(0,[])),([],(0,[]))))).2).1).2).2) ((((((x0.getD ((x1).toNat) (false,(([],(0,[])),([],(0,[]))))).2).1).2).2).length:Int) (fun _=>K0 ()) (fun _=>K1 ()) 0)
def cS (x0:List D7) (x1:List jC) (x2 x4 x5 x6:Int) (x7:List jC) (K0 K1:Unit->Prop) (s:Int) (nx:Int->Prop):Prop :=
 if (decide (s<x2))=true then ck ((0:Int)<=s/\s<(x1.length:Int)) (kB ((x4,(x5,x6)),x7) (IntKind.i64.wrap (s+1)) (fun r13=>ck ((0:Int)<=s/\s<(x0.length:Int)) (if (((x0.getD ((s).toNat) (false,(([],(0,[])),([],(0,[]))))).1) != ((decide (0<(r13.1.length:Int)))&&(!(((((((x1.getD ((s).toNat) (0,(0,(0,(0,(0,(0,false))))))).2).2).2).2).2).2))))=true then K1 () else ck ((0:Int)<=s/\s<(x0.length:Int)) (if (!((x0.getD ((s).toNat) (false,(([],(0,[])),([],(0,[]))))).1))=true then dG s (fun y14=>nx y14) else ck ((0:Int)<=s/\s<(x0.length:Int)) (cB ((((x0.getD ((s).toNat) (false,(([],(0,[])),([],(0,[]))))).2).1).1) r13.1 (fun r15=>jn (fun v16=>if v16=true then K1 () else jJ x0 s (fun _=>dG s (fun y20=>nx y20)) (fun _=>K1 ())) (fun J17=>if (!r15)=true then J17 true else ck ((0:Int)<=s/\s<(x0.length:Int)) (cB ((((x0.getD ((s).toNat) (false,(([],(0,[])),([],(0,[]))))).2).2).1) [r13.2] (fun r18=>J17 (!r18)))))))))) else K0 ()
structure jS (x0:List D7) (x1:List jC) (x2 x4 x5 x6:Int) (x7:List jC) (K0 K1:Unit->Prop) (s:Int):Prop where
 it:Go.Mach.Loop (cS x0 x1 x2 x4 x5 x6 x7 K0 K1) s
structure jV (x0:List D7) (x1 x2 x3:Int) (x4:List jC) (K0:Bool->Prop):Prop where
 it:if ((x0.length:Int) != (x4.length:Int))=true then K0 false else jS x0 x4 (x4.length:Int) x1 x2 x3 x4 (fun _=>dM (fun r14=>K0 r14)) (fun _=>K0 false) 0
structure jO (x0:List Int) (x1 x2 x3 x4 x5:Int) (x6:List jC) (x12:List gF) (x13:List bS) (x14:List (List Int)) (K0:Bool->Prop):Prop where
 it:ck ((0:Int)<=(IntKind.i64.wrap ((x13.length:Int)-1))/\(IntKind.i64.wrap ((x13.length:Int)-1))<(x13.length:Int)) (oP (x13.getD ((IntKind.i64.wrap ((x13.length:Int)-1)).toNat) ([],(0,[]))) x0 x1 (fun r8=>uK ((x3,(x4,x5)),x6) x12 (x13,x14) r8 x2 0 (fun r9=>if (r9.2.2 != 0)=true then jn (fun v10=>K0 v10) (fun J11=>if (((r9.2.2==3)||(r9.2.2==1))&&((r9.1.length:Int)==0))=true then dM (fun r12=>J11 r12) else J11 false) else jV r9.1 x3 x4 x5 x6 (fun y13=>K0 y13))))
structure gY (a0:aHU) (a1:List Int) (a2 a3:Int) (Q:Bool->Prop):Prop where
 it:if (decide (12<(a0.1.2.length:Int)))=true then dM (fun r1=>Q r1) else oG a0 (fun r2=>if (r2.2.2 != 0)=true then dM (fun r3=>Q r3) else tM a0.1 r2.1 r2.2.1 a3 0 (fun r4=>if ((r4.2.2 != 0)||((r4.1.1.length:Int) != (IntKind.i64.wrap ((a0.1.2.length:Int)+1))))=true then jn (fun v5=>Q v5) (fun J6=>if (r4.2.2 != 0)=true then dM (fun r7=>J6 r7) else J6 false) else jO a1 a2 a3 a0.1.1.1 a0.1.1.2.1 a0.1.1.2.2 a0.1.2 r2.1 r4.1.1 r4.1.2 (fun y14=>Q y14)))
def rI:Ent:=⟨[1,2,3,4,9,12],[sZ (.int .i8),sI,.lf (.int .u64),sC (.ptr 0 0),sC (.own 1),sC (.ptr 2 0)],[.box [lI,lI,lI,lZ bQ,.int .u64,lZ (.int .i8),lI,lZ (.int .i8),lI] false,.lst true dN false,.box [.cst (.own 3),.cst (.own 4)] false,.lst true aY false,.lst true (.slc (.int .i64)) false],fun ⟨⟨a,b,c,_⟩,⟨⟨d,e,f,g,_⟩,o,_,p,q,_⟩⟩ k=>jO a b c d e f g o p q (fun y15=>k .ret ⟨[(8,vB y15)],[]⟩)⟩
def rG:Ent:=⟨[4,15],[sC (.ptr 0 0),sZ jT],[.box [lI,lI,lI,lZ bQ,.int .u64,lZ (.int .i8),lI,lZ (.int .i8),lI] false],fun ⟨⟨_,a,_⟩,⟨⟨b,c,d,e,_⟩,_⟩⟩ k=>jV a b c d e (fun y16=>k .ret ⟨[(8,vB y16)],[]⟩)⟩
def qU:Ent:=⟨[4,15,113,114,115],[sC (.ptr 0 0),sZ jT,sZ bQ,sI,sI],[.box [lI,lI,lI,lZ bQ,.int .u64,lZ (.int .i8),lI,lZ (.int .i8),lI] false],fun ⟨⟨_,a,b,c,d,_⟩,⟨⟨e,f,g,i,_,_,_,_,_,_⟩,_⟩⟩ k=>jS a b c e f g i (fun _=>k (.exit 0) ⟨[],[]⟩) (fun _=>k .ret ⟨[(8,vB false)],[]⟩) d⟩
def rH:Ent:=⟨[4,15,113,114,115],[sC (.ptr 0 0),sZ jT,sZ bQ,sI,sI],[.box [lI,lI,lI,lZ bQ,.int .u64,lZ (.int .i8),lI,lZ (.int .i8),lI] false],fun ⟨⟨_,a,b,c,d,_⟩,⟨⟨e,f,g,i,j,l,m,n,o,_⟩,_⟩⟩ k=>dG d (fun y19=>k .normal ⟨[(4,.ptr 0 0),(15,vZ jT a),(113,vZ bQ b),(114,vI c),(115,vI y19)],[.box [vI e,vI f,vI g,vZ bQ i,vK .u64 j,vZ (.int .i8) l,vI m,vZ (.int .i8) n,vI o] false]⟩)⟩
def q7:Ent:=⟨[4,15,18,113,114,115],[sC (.ptr 0 0),sZ jT,sI,sZ bQ,sI,sI],[.box [lI,lI,lI,lZ bQ,.int .u64,lZ (.int .i8),lI,lZ (.int .i8),lI] false],fun ⟨⟨_,a,b,c,d,e,_⟩,⟨⟨f,g,i,j,l,m,n,o,p,_⟩,_⟩⟩ k=>jJ a b (fun _=>k .normal ⟨[(4,.ptr 0 0),(15,vZ jT a),(113,vZ bQ c),(114,vI d),(115,vI e)],[.box [vI f,vI g,vI i,vZ bQ j,vK .u64 l,vZ (.int .i8) m,vI n,vZ (.int .i8) o,vI p] false]⟩) (fun _=>k .ret ⟨[(8,vB false)],[]⟩)⟩
def q5:Ent:=⟨[4,15,113,114,115,174,175,176],[sC (.ptr 0 0),sZ jT,sZ bQ,sI,sI,sZ (.int .i32),sI,sI],[.box [lI,lI,lI,lZ bQ,.int .u64,lZ (.int .i8),lI,lZ (.int .i8),lI] false],fun ⟨⟨_,a,b,c,d,e,f,g,_⟩,⟨⟨i,j,l,m,n,o,p,q,t,_⟩,_⟩⟩ k=>jU e f (fun _=>k (.exit 2) ⟨[(4,.ptr 0 0),(15,vZ jT a),(113,vZ bQ b),(114,vI c),(115,vI d)],[.box [vI i,vI j,vI l,vZ bQ m,vK .u64 n,vZ (.int .i8) o,vI p,vZ (.int .i8) q,vI t] false]⟩) (fun _=>k .ret ⟨[(8,vB false)],[]⟩) g⟩
def fG:List Sh:=[.agg [lI,lI,lI,lZ bQ,.int .u64,lZ (.int .i8),lI,lZ (.int .i8),lI],sZ (.int .i8),sI,.lf (.int .u64)]
theorem qG (x:uH fG) (Q:QT) (h:gY (((x.1.1,(x.1.2.1,x.1.2.2.1)),x.1.2.2.2.1),(x.1.2.2.2.2.1,(x.1.2.2.2.2.2.1,(x.1.2.2.2.2.2.2.1,(x.1.2.2.2.2.2.2.2.1,x.1.2.2.2.2.2.2.2.2.1))))) x.2.1 x.2.2.1 x.2.2.2.1 fun r=>Q (kE [(false,.bool)] [] (r,()))):mH Tryz.prog 6 (vJ fG x) Q:=LD AD (tt:=tt) (hv:=false) (un:=0) (res:=[8]) (cos:=[]) (l:=[(127,rI),(511,rG),(8186,qU),(130983,rH),(8382879,q7),(33531518,q5)]) (al:=[]) (sh:=fG) (rt:=[(false,.bool)]) (D:=fun x=>gY (((x.1.1,(x.1.2.1,x.1.2.2.1)),x.1.2.2.2.1),(x.1.2.2.2.2.1,(x.1.2.2.2.2.2.1,(x.1.2.2.2.2.2.2.1,(x.1.2.2.2.2.2.2.2.1,x.1.2.2.2.2.2.2.2.2.1))))) x.2.1 x.2.2.1 x.2.2.2.1) Tryz.func6 hI0 ⟨fun _ _ hs ⟨⟨_,_,_,_⟩,⟨⟨_,_,_,_,_⟩,_,_,_,_,_⟩⟩ _ h=>aI hs h.it,fun _ _ hs ⟨⟨_,_,_⟩,⟨⟨_,_,_,_,_⟩,_⟩⟩ _ h=>aI hs h.it,fun _ _ hs ⟨⟨_,a,b,c,d,_⟩,⟨⟨e,f,g,i,j,l,m,n,o,_⟩,_⟩⟩ _ h=>aD hs (fun y=>⟨⟨(),a,b,c,y,()⟩,⟨⟨e,f,g,i,j,l,m,n,o,()⟩,()⟩⟩) d h.it,fun _ _ hs ⟨⟨_,_,_,_,_,_⟩,⟨⟨_,_,_,_,_,_,_,_,_,_⟩,_⟩⟩ _ h=>aI hs h.it,fun _ _ hs ⟨⟨_,_,_,_,_,_,_⟩,⟨⟨_,_,_,_,_,_,_,_,_,_⟩,_⟩⟩ _ h=>aI hs h.it,fun _ _ hs ⟨⟨_,a,b,c,d,e,f,g,_⟩,⟨⟨i,j,l,m,n,o,p,q,t,_⟩,_⟩⟩ _ h=>aD hs (fun y=>⟨⟨(),a,b,c,d,e,f,y,()⟩,⟨⟨i,j,l,m,n,o,p,q,t,()⟩,()⟩⟩) g h.it,trivial⟩ (fun _ _ h=>⟨_,h.it,by kernel_rfl⟩) (by kernel_rfl) (by kernel_rfl) (by kernel_rfl) x Q h
end
end Go.Proofs.YtcfpfefadlnmcaaGreat

namespace Go.Mach
set_option linter.unusedVariables false
set_option linter.unusedSimpArgs false
theorem TH (a b:Int):IntKind.i64.wrap (IntKind.i64.wrap a+b)=IntKind.i64.wrap (a+b):=by
 simp only [IntKind.wrap,IntKind.bits,IntKind.signed]; simp; omega
theorem JV (a b:Int):IntKind.i32.wrap (IntKind.i32.wrap a+b)=IntKind.i32.wrap (a+b):=by
 simp only [IntKind.wrap,IntKind.bits,IntKind.signed]; simp; omega
theorem JL (a b:Int):IntKind.i32.wrap (a+IntKind.i32.wrap b)=IntKind.i32.wrap (a+b):=by
 simp only [IntKind.wrap,IntKind.bits,IntKind.signed]; simp; omega
theorem aBD (a:Int):IntKind.i32.wrap (IntKind.i64.wrap a)=IntKind.i32.wrap a:=by
 simp only [IntKind.wrap,IntKind.bits,IntKind.signed]; simp; omega
def bR (g:Nat->Int):Nat->Int
 | 0=>0
 | n+1=>bR g n+g n
theorem XV {f g:Nat->Int} {n:Nat} (h:∀ i,i<n->f i=g i):bR f n=bR g n:=by
 induction n with
 | zero=>rfl
 | succ n ih=>simp only [bR]; rw [ih fun i hi=>h i (by omega),h n (by omega)]
theorem pW {f:Nat->Int} {n:Nat} (h:∀ i,i<n->f i=0):bR f n=0:=by
 induction n with
 | zero=>rfl
 | succ n ih=>simp only [bR]; rw [ih fun i hi=>h i (by omega),h n (by omega)]; rfl
theorem HR (g : Nat -> Int) (B : Int) (n : Nat) (h : ∀ i, i < n -> -B <= g i /\ g i <= B) : -(B * n) <= bR g n /\ bR g n <= B * n := by
  induction n with
  | zero => simp [bR]
  | succ n ih =>
    have h1 := ih fun i hi => h i (by omega)
    have h2 := h n (by omega)
    have e : B * ((n + 1 : Nat) : Int) = B * n + B := by rw [Int.natCast_add, Int.mul_add]; simp
    simp only [bR]
    omega
theorem aBk {f : Nat -> Int} {n k : Nat} (hk : k < n) (h : ∀ i, i < n -> i ≠ k -> f i = 0) : bR f n = f k := by
  induction n with
  | zero => omega
  | succ n ih =>
    simp only [bR]
    by_cases e : k = n
    · subst e; rw [pW fun i hi => h i (by omega) (by omega)]; omega
    · rw [ih (by omega) fun i hi => h i (by omega), h n (by omega) (by omega)]; omega
theorem aCH (f:Nat->Int) (n m:Nat):bR f (n+m)=bR f n+bR (fun i=>f (n+i)) m:=by
 induction m with
 | zero=>simp [bR]
 | succ m ih=>rw [<- Nat.add_assoc]; simp only [bR]; rw [ih]; omega
def nF {α:Type} (l:List α) (f:α->Int):Int:=(l.map f).sum
theorem I8 {α:Type} (f:α->Int):nF [] f=0:=rfl
theorem yU {α:Type} (a:α) (l:List α) (f:α->Int):nF (a::l) f=f a+nF l f:=by simp [nF]
theorem MN {α:Type} (l m:List α) (f:α->Int):nF (l++m) f=nF l f+nF m f:=by simp [nF]
theorem T5 {α:Type} {l:List α} {f:α->Int} (h:∀ a∈l,f a=0):nF l f=0:=by
 induction l with
 | nil=>rfl
 | cons a l ih=>rw [yU,h a (by simp),ih fun b hb=>h b (by simp [hb])]; rfl
theorem HJ {α β:Type} (l:List α) (h:α->List β) (f:β->Int):nF (l.flatMap h) f=nF l (fun a=>nF (h a) f):=by
 induction l with
 | nil=>rfl
 | cons a l ih=>rw [List.flatMap_cons,MN,yU,ih]
theorem Q8 (f:Nat->Int) (n:Nat):nF (List.range n) f=bR f n:=by
 induction n with
 | zero=>rfl
 | succ n ih=>rw [List.range_succ,MN,ih,yU,I8]; simp [bR]
theorem EZ {α : Type} (l : List α) (f : α -> Int) (d : α) : nF l f = bR (fun i => f (l.getD i d)) l.length := by
  induction l with
  | nil => rfl
  | cons a l ih =>
    rw [yU, ih, List.length_cons, Nat.add_comm, aCH]
    simp only [bR, List.getD_cons_zero, Int.zero_add]
    congr 1
    exact XV fun i _ => by rw [Nat.add_comm, List.getD_cons_succ]
def tab (n:Nat) (f:Nat->Int):List Int:=(List.range n).map f
@[simp] theorem V8 (n:Nat) (f:Nat->Int):(tab n f).length=n:=by simp [tab]
theorem VQ {n:Nat} {f:Nat->Int} {y:Int} (h:y∈tab n f):∃ i,i<n/\f i=y:=by
 unfold tab at h
 simpa only [List.mem_map,List.mem_range] using h
theorem JA {n i:Nat} (f:Nat->Int) (h:i<n):(tab n f).getD i 0=f i:=by
 unfold tab
 rw [List.getD_eq_getElem?_getD,List.getElem?_map,List.getElem?_range h]; rfl
theorem aA1 {l:List Int} {n:Nat} {f:Nat->Int} (hl:l.length=n) (h:∀ i,i<n->l.getD i 0=f i):l=tab n f:=by
 refine List.ext_getElem (by simp [hl]) fun i h1 h2 => ?_
 have:=h i (by omega)
 rw [List.getD_eq_getElem?_getD,List.getElem?_eq_getElem h1] at this
 simp only [Option.getD_some] at this
 rw [this]
 simp [tab]
theorem aC9 {n:Nat} {f g:Nat->Int} (h:∀ i,i<n->f i=g i):tab n f=tab n g:=by
 refine aA1 (by simp) fun i hi => ?_
 rw [JA _ hi,h i hi]
theorem aBM {l m:List Int} (hl:l.length=m.length) (h:∀ i,i<l.length->l.getD i 0=m.getD i 0):l=m:=by
 refine List.ext_getElem hl fun i h1 h2 => ?_
 have:=h i h1
 rwa [List.getD_eq_getElem?_getD,List.getElem?_eq_getElem h1,List.getD_eq_getElem?_getD,List.getElem?_eq_getElem h2] at this
theorem PK {α:Type} {l:List α} {i j:Nat} {v d:α} (hi:i<l.length):(l.set i v).getD j d=if i=j then v else l.getD j d:=by
 rw [List.getD_eq_getElem?_getD,List.getElem?_set]
 by_cases h:i=j
 ·subst h; rw [if_pos rfl,if_pos rfl,if_pos hi]; rfl
 ·rw [if_neg h,if_neg h,List.getD_eq_getElem?_getD]
theorem IE {l:List Int} {i:Nat} (h:i<l.length):l.getD i 0∈l:=by
 rw [List.getD_eq_getElem?_getD,List.getElem?_eq_getElem h]; exact List.getElem_mem h
theorem TU {n i:Nat} {v:Int} (h:i<n):(List.replicate n v).getD i 0=v:=by
 rw [List.getD_eq_getElem?_getD,List.getElem?_replicate,if_pos h]; rfl
theorem O8 {α:Type} {l:List α} {p:α->Bool} {i:Nat} {d:α} (hi:i<l.length):(l.take (i+1)).all p=((l.take i).all p&&p (l.getD i d)):=by
 rw [List.take_add_one,List.all_append,List.getD_eq_getElem?_getD,List.getElem?_eq_getElem hi]
 simp
theorem aA7 {α:Type} {l:List α} {p:α->Bool} {i:Nat} {d:α} (hi:i<l.length) (h:p (l.getD i d)=false):l.all p=false:=by
 rw [List.all_eq_false]
 refine ⟨l[i],List.getElem_mem hi,?_⟩
 rw [List.getD_eq_getElem?_getD,List.getElem?_eq_getElem hi] at h
 simp only [Option.getD_some] at h
 rw [h]; simp
theorem jM {r R n i:Nat} (h1:r<R) (h2:i<n):r*n+i<R*n:=by
 have:(r+1)*n<=R*n:=Nat.mul_le_mul_right n h1
 rw [Nat.add_mul,Nat.one_mul] at this
 omega
theorem KI {r n i:Nat} (h:i<n):(r*n+i) / n=r:=by
 rw [Nat.mul_comm,Nat.mul_add_div (by omega),Nat.div_eq_of_lt h]; rfl
theorem JM {r n i:Nat} (h:i<n):(r*n+i)%n=i:=by
 rw [Nat.mul_comm,Nat.mul_add_mod,Nat.mod_eq_of_lt h]
theorem UD {r n i r' i':Nat} (h:i<n) (h':i'<n) (e:r*n+i=r'*n+i'):r=r'/\i=i':=by
 have h1:=KI (r:=r) h
 have h2:=JM (r:=r) h
 rw [e] at h1 h2
 rw [KI h'] at h1
 rw [JM h'] at h2
 exact ⟨h1.symm,h2.symm⟩
def ix4 (O P Q m o p q:Nat):Nat:=((m*O+o)*P+p)*Q+q
theorem GU {n O P Q m o p q:Nat} (hm:m<n) (ho:o<O) (hp:p<P) (hq:q<Q):ix4 O P Q m o p q<n*O*P*Q:=jM (jM (jM hm ho) hp) hq
theorem aBF {O P Q m o p q m' o' p' q':Nat} (ho:o<O) (hp:p<P) (hq:q<Q) (ho':o'<O) (hp':p'<P) (hq':q'<Q) (e:ix4 O P Q m o p q=ix4 O P Q m' o' p' q'):m=m'/\o=o'/\p=p'/\q=q':=by
 obtain ⟨e1,e2⟩:=UD hq hq' e
 obtain ⟨e3,e4⟩:=UD hp hp' e1
 obtain ⟨e5,e6⟩:=UD ho ho' e3
 exact ⟨e5,e6,e4,e2⟩
theorem yL {n k t:Nat} (h:t<n*k):t / k<n/\t%k<k/\t=t / k*k+t%k:=by
 have hk:0<k:=by
  rcases Nat.eq_zero_or_pos k with e | e
  ·rw [e,Nat.mul_zero] at h; omega
  ·exact e
 refine ⟨by rw [Nat.div_lt_iff_lt_mul hk]; exact h,Nat.mod_lt _ hk,?_⟩
 rw [Nat.mul_comm]; exact (Nat.div_add_mod t k).symm
theorem aCR {n O P Q t:Nat} (h:t<n*O*P*Q):∃ m o p q,m<n/\o<O/\p<P/\q<Q/\t=ix4 O P Q m o p q:=by
 obtain ⟨a1,a2,a3⟩:=yL h
 obtain ⟨b1,b2,b3⟩:=yL a1
 obtain ⟨c1,c2,c3⟩:=yL b1
 exact ⟨_,_,_,_,c1,c2,b2,a2,by unfold ix4; rw [<- c3,<- b3,<- a3]⟩
def F7 (n O P Q:Nat) (cell:Nat->Nat->Nat->Nat->Int):List Int:=tab (n*O*P*Q) fun t=>cell (t / Q / P / O) (t / Q / P%O) (t / Q%P) (t%Q)
theorem HB (n O P Q:Nat) (cell:Nat->Nat->Nat->Nat->Int):(F7 n O P Q cell).length=n*O*P*Q:=by simp [F7]
theorem IK {n O P Q m o p q:Nat} {cell:Nat->Nat->Nat->Nat->Int} (hm:m<n) (ho:o<O) (hp:p<P) (hq:q<Q):(F7 n O P Q cell).getD (ix4 O P Q m o p q) 0=cell m o p q:=by
 unfold F7
 rw [JA _ (GU hm ho hp hq)]
 unfold ix4
 rw [KI hq,KI hp,KI ho,JM hq,JM hp,JM ho]
structure Fill (n O P Q:Nat) (cell:Nat->Nat->Nat->Nat->Int) (C:Nat->Nat->Nat->Nat->Prop) (L:List Int):Prop where
 len:L.length=n*O*P*Q
 tell:∀ m o p q,m<n->o<O->p<P->q<Q->C m o p q->L.getD (ix4 O P Q m o p q) 0=cell m o p q
theorem Fill.mono {n O P Q:Nat} {cell:Nat->Nat->Nat->Nat->Int} {C C':Nat->Nat->Nat->Nat->Prop} {L:List Int} (h:Fill n O P Q cell C L) (hc:∀ m o p q,m<n->o<O->p<P->q<Q->C' m o p q->C m o p q):Fill n O P Q cell C' L :=
 ⟨h.len,fun m o p q hm ho hp hq hC=>h.tell m o p q hm ho hp hq (hc m o p q hm ho hp hq hC)⟩
theorem Fill.set {n O P Q:Nat} {cell:Nat->Nat->Nat->Nat->Int} {C C':Nat->Nat->Nat->Nat->Prop} {L:List Int} (h:Fill n O P Q cell C L) {m0 o0 p0 q0:Nat} (hm:m0<n) (ho:o0<O) (hp:p0<P) (hq:q0<Q)
  {v:Int} (hv:v=cell m0 o0 p0 q0) (hc:∀ m o p q,m<n->o<O->p<P->q<Q->C' m o p q->C m o p q\/(m=m0/\o=o0/\p=p0/\q=q0)):Fill n O P Q cell C' (L.set (ix4 O P Q m0 o0 p0 q0) v):=by
 have hlt:=GU hm ho hp hq
 refine ⟨by rw [List.length_set]; exact h.len,fun m o p q hm' ho' hp' hq' hC => ?_⟩
 rw [PK (by rw [h.len]; exact hlt)]
 by_cases e:ix4 O P Q m0 o0 p0 q0=ix4 O P Q m o p q
 ·rw [if_pos e]
  obtain ⟨e1,e2,e3,e4⟩:=aBF ho hp hq ho' hp' hq' e
  rw [hv,e1,e2,e3,e4]
 ·rw [if_neg e]
  rcases hc m o p q hm' ho' hp' hq' hC with g | ⟨rfl,rfl,rfl,rfl⟩
  ·exact h.tell m o p q hm' ho' hp' hq' g
  ·exact absurd rfl e
theorem E5 {n O P Q:Nat} {L M:List Int} (hl:L.length=n*O*P*Q) (hm:M.length=n*O*P*Q) (h:∀ m o p q,m<n->o<O->p<P->q<Q->L.getD (ix4 O P Q m o p q) 0=M.getD (ix4 O P Q m o p q) 0):L=M:=by
 refine aBM (by omega) fun t ht => ?_
 obtain ⟨m,o,p,q,h1,h2,h3,h4,rfl⟩:=aCR (hl ▸ ht)
 exact h m o p q h1 h2 h3 h4
theorem Fill.all {n O P Q:Nat} {cell:Nat->Nat->Nat->Nat->Int} {C:Nat->Nat->Nat->Nat->Prop} {L:List Int} (h:Fill n O P Q cell C L) (hC:∀ m o p q,m<n->o<O->p<P->q<Q->C m o p q):L=F7 n O P Q cell :=
 E5 h.len (HB _ _ _ _ _) fun m o p q hm ho hp hq=>by rw [IK hm ho hp hq,h.tell m o p q hm ho hp hq (hC m o p q hm ho hp hq)]
theorem Z9 {n O P Q:Nat} {f g:Nat->Nat->Nat->Nat->Int} (h:∀ m o p q,m<n->o<O->p<P->q<Q->f m o p q=g m o p q):F7 n O P Q f=F7 n O P Q g :=
 E5 (HB _ _ _ _ _) (HB _ _ _ _ _) fun m o p q hm ho hp hq=>by rw [IK hm ho hp hq,IK hm ho hp hq,h m o p q hm ho hp hq]
theorem Loop.rangeI {S:Type} {B:S->(S->Prop)->Prop} (n:Nat) (I:Nat->S->Prop) {s0:S} (h0:I 0 s0) (step:∀ i,i<n->∀ s,I i s->∀ X,(∀ s',I (i+1) s'->X s')->B s X) (last:∀ s,I n s->∀ X,B s X):Loop B s0:=by
 refine Loop.inv (n:=n) (fun m s=>∃ i,i+m=n/\I i s) ⟨0,by omega,h0⟩ ?_
 rintro m s X ⟨i,hi,hI⟩ hX
 by_cases h:i<n
 ·exact step i h s hI X fun s' hI'=>hX (m-1) s' (by omega) ⟨i+1,by omega,hI'⟩
 ·have:i=n:=by omega
  subst this
  exact last s hI X
theorem Loop.all {α : Type} {B : Int -> (Int -> Prop) -> Prop} (l : List α) (p : α -> Bool) {K0 K1 : Prop}
    (step : ∀ i (h : i < l.length) X, (p l[i] = true -> X ((i + 1 : Nat) : Int)) -> (p l[i] = false -> K1) -> B (i : Int) X) (last : K0 -> ∀ X, B (l.length : Int) X)
    (h : if l.all p = true then K0 else K1) : Loop B 0 := by
  refine Loop.range (B := B) (f := fun i : Nat => (i : Int)) l.length (fun i => ∀ j (hj : j < i) (hl : j < l.length), p l[j] = true) (fun j hj => absurd hj (by omega)) ?_ ?_
  · intro i hi hI X hX
    refine step i hi X (fun hp => hX fun j hj hl => ?_) (fun hp => ?_)
    · by_cases e : j = i
      · subst e; exact hp
      · exact hI j (by omega) hl
    · have : ¬ l.all p = true := by
        rw [List.all_eq_true]
        intro ha
        have := ha _ (List.getElem_mem hi)
        rw [hp] at this; cases this
      rwa [if_neg this] at h
  · intro hI X
    refine last ?_ X
    have : l.all p = true := by
      rw [List.all_eq_true]
      intro a ha
      obtain ⟨j, hj, rfl⟩ := List.getElem_of_mem ha
      exact hI j hj hj
    rwa [if_pos this] at h
end Go.Mach

namespace Go.Fl
open Ieee
set_option maxRecDepth 100000
set_option linter.unusedVariables false
set_option linter.unusedSimpArgs false
def sg (s:Bool) (m:Nat):Int:=if s=true then -(m:Int) else (m:Int)
def pV (d:Datum) (n:Int):Prop:=∃ s m e,d = .number s m e/\sg s m*2 ^ e.toNat=n*2 ^ (-e).toNat
def uJ (x:Nat) (n:Int):Prop:=pV (double.read x) n
theorem pw (a:Nat):((2 ^ a:Nat):Int)=2 ^ a:=by rw [Int.natCast_pow]; rfl
theorem aGu (s:Bool) (m:Nat):(sg s m).natAbs=m:=by
 unfold sg; split <;> omega
theorem TA (n:Int):sg (decide (n<0)) n.natAbs=n:=by
 unfold sg
 by_cases h:n<0
 ·rw [decide_eq_true h,if_pos rfl]; omega
 ·rw [decide_eq_false h,if_neg (by simp)]; omega
theorem PP {s:Bool} {m:Nat} {e n:Int} (h:sg s m*2 ^ e.toNat=n*2 ^ (-e).toNat):m*2 ^ e.toNat=n.natAbs*2 ^ (-e).toNat:=by
 have:=congrArg Int.natAbs h
 rw [Int.natAbs_mul,Int.natAbs_mul,aGu,<- pw,<- pw,Int.natAbs_natCast,Int.natAbs_natCast] at this
 exact this
theorem OA (m p:Nat) (hm:m≠0):(m*2 ^ p).log2=m.log2+p:=by
 have hp:0<2 ^ p:=Nat.pow_pos (by omega)
 rw [Nat.log2_eq_iff (Nat.mul_ne_zero hm (by omega))]
 have h1:=Nat.log2_self_le hm
 have h2 := @Nat.lt_log2_self m
 constructor
 ·rw [Nat.pow_add]; exact Nat.mul_le_mul_right _ h1
 ·rw [show m.log2+p+1=(m.log2+1)+p by omega,Nat.pow_add]; exact Nat.mul_lt_mul_of_pos_right h2 hp
theorem aBs {neg : Bool} {K M : Nat} (hK : K <= 52) (h1 : 2 ^ 52 <= M) (h2 : M < 2 ^ 53) : double.read (double.word neg ((K + 1022) * 2 ^ 52 + M)) = .number neg M ((K : Int) - 52) := by
  have hr1 : (K + 1022) * 2 ^ 52 + M < 2 ^ 63 := by omega
  have e1 : double.word neg ((K + 1022) * 2 ^ 52 + M) % double.signWeight = (K + 1022) * 2 ^ 52 + M := by
    unfold Format.word
    show _ % 2 ^ 63 = _
    cases neg with
    | true => rw [if_pos rfl]; show (2 ^ 63 + _) % 2 ^ 63 = _; omega
    | false => rw [if_neg (by simp)]; omega
  have e2 : (double.word neg ((K + 1022) * 2 ^ 52 + M) / double.signWeight % 2 == 1) = neg := by
    unfold Format.word
    show (_ / 2 ^ 63 % 2 == 1) = _
    cases neg with
    | true =>
      rw [if_pos rfl]
      show ((2 ^ 63 + _) / 2 ^ 63 % 2 == 1) = true
      rw [show (2 ^ 63 + ((K + 1022) * 2 ^ 52 + M)) / 2 ^ 63 = 1 by omega]
      rfl
    | false =>
      rw [if_neg (by simp), show ((K + 1022) * 2 ^ 52 + M) / 2 ^ 63 = 0 by omega]
      rfl
  have e3 : double.binade = 2 ^ 52 := rfl
  have e4 : double.infRung = 2047 * 2 ^ 52 := by decide
  have e5 : double.leastPlace = -1074 := by decide
  unfold Format.read
  rw [e1, e2, e3, e4, e5]
  simp only
  rw [if_neg (by omega), if_pos (by omega)]
  have d1 : ((K + 1022) * 2 ^ 52 + M) / 2 ^ 52 = K + 1023 := by omega
  have d2 : ((K + 1022) * 2 ^ 52 + M) % 2 ^ 52 = M - 2 ^ 52 := by omega
  rw [d1, d2, show 2 ^ 52 + (M - 2 ^ 52) = M by omega, show (-1074 : Int) + ((K + 1023 - 1 : Nat) : Int) = (K : Int) - 52 by omega]
theorem JK {neg:Bool} {low drop:Nat} {way:Toward}:way.cut neg (low*2 ^ drop) drop=low:=by
 unfold Toward.cut
 by_cases h0:low=0
 ·subst h0
  rw [Nat.zero_mul]
  have hg:0<1 <<< min drop (Nat.log2 0+2):=by rw [Nat.shiftLeft_eq,Nat.one_mul]; exact Nat.pow_pos (by omega)
  generalize 1 <<< min drop (Nat.log2 0+2)=g at hg
  simp only [Nat.zero_div,Nat.zero_mod]
  cases way <;> simp <;> omega
 ·have hp:0<2 ^ drop:=Nat.pow_pos (by omega)
  have hl:min drop ((low*2 ^ drop).log2+2)=drop:=by
   rw [OA low drop h0]; omega
  rw [hl,Nat.shiftLeft_eq,Nat.one_mul]
  simp only [Nat.mul_div_cancel _ hp,Nat.mul_mod_left]
  cases way <;> simp <;> omega
theorem BL {d : Datum} {n : Int} (h : pV d n) (hn : n.natAbs < 2 ^ 53) : uJ (double.write d) n := by
  obtain ⟨s, m, e, rfl, he⟩ := h
  have ha := PP he
  have hpe : 0 < 2 ^ e.toNat := Nat.pow_pos (by omega)
  have hpe' : 0 < 2 ^ (-e).toNat := Nat.pow_pos (by omega)
  unfold uJ
  show pV (double.read (double.nearest s m e)) n
  unfold Format.nearest
  by_cases hm : m = 0
  · rw [if_pos hm]
    subst hm
    have hn0 : n = 0 := by
      rw [Nat.zero_mul] at ha
      have : n.natAbs = 0 := (Nat.mul_eq_zero.1 ha.symm).resolve_right (by omega)
      omega
    subst hn0
    have : double.read (double.word s 0) = .number s 0 (-1074) := by cases s <;> decide +kernel
    rw [this]
    refine ⟨s, 0, -1074, rfl, ?_⟩
    rw [show sg s 0 = 0 by cases s <;> rfl, Int.zero_mul, Int.zero_mul]
  · rw [if_neg hm]
    have hn0 : n.natAbs ≠ 0 := by
      intro h0
      rw [h0, Nat.zero_mul] at ha
      exact hm ((Nat.mul_eq_zero.1 ha).resolve_right (by omega))
    obtain ⟨N, hN⟩ : ∃ N, n.natAbs = N := ⟨_, rfl⟩
    rw [hN] at ha hn hn0
    obtain ⟨K, hKe⟩ : ∃ K, N.log2 = K := ⟨_, rfl⟩
    have hK : K <= 52 := by
      have := (Nat.log2_lt hn0).2 hn
      omega
    have hlog : (m.log2 : Int) + e = K := by
      have := congrArg Nat.log2 ha
      rw [OA m _ hm, OA N _ hn0] at this
      omega
    have hf : (double.fractionBits : Int) = 52 := rfl
    have e5 : double.leastPlace = -1074 := by decide
    have hlast : max (e + m.log2 - double.fractionBits) double.leastPlace = (K : Int) - 52 := by
      rw [hf, e5]; omega
    simp only
    rw [hlast]
    have hkept : Toward.even.cut s (m <<< (e - ((K : Int) - 52)).toNat) ((K : Int) - 52 - e).toNat = N * 2 ^ (52 - K) := by
      rw [Nat.shiftLeft_eq]
      by_cases hc : (K : Int) - 52 <= e
      · rw [show ((K : Int) - 52 - e).toNat = 0 by omega]
        have e1 : m * 2 ^ (e - ((K : Int) - 52)).toNat = N * 2 ^ (52 - K) := by
          have hp : 0 < 2 ^ (-e).toNat := hpe'
          apply Nat.eq_of_mul_eq_mul_right hp
          rw [Nat.mul_assoc, Nat.mul_assoc, <- Nat.pow_add, Nat.mul_comm (2 ^ (52 - K)), <- Nat.mul_assoc, <- ha, Nat.mul_assoc, <- Nat.pow_add]
          congr 2
          omega
        rw [e1]
        have := @JK s (N * 2 ^ (52 - K)) 0 .even
        rw [Nat.pow_zero, Nat.mul_one] at this
        exact this
      · rw [show (e - ((K : Int) - 52)).toNat = 0 by omega, Nat.pow_zero, Nat.mul_one]
        have e1 : m = N * 2 ^ (52 - K) * 2 ^ ((K : Int) - 52 - e).toNat := by
          have h0 : e.toNat = 0 := by omega
          rw [h0, Nat.pow_zero, Nat.mul_one] at ha
          rw [ha, Nat.mul_assoc, <- Nat.pow_add]
          congr 2
          omega
        rw [e1]
        exact JK
    rw [hkept, e5, show ((K : Int) - 52 - -1074).toNat = K + 1022 by omega]
    have b1 : 2 ^ 52 <= N * 2 ^ (52 - K) := by
      have := Nat.mul_le_mul_right (2 ^ (52 - K)) (Nat.log2_self_le hn0)
      rw [hKe, <- Nat.pow_add, show K + (52 - K) = 52 by omega] at this
      exact this
    have b2 : N * 2 ^ (52 - K) < 2 ^ 53 := by
      have := Nat.mul_lt_mul_of_pos_right (@Nat.lt_log2_self N) (show 0 < 2 ^ (52 - K) from Nat.pow_pos (by omega))
      rw [hKe, <- Nat.pow_add, show K + 1 + (52 - K) = 53 by omega] at this
      exact this
    have hmin : min ((K + 1022) * double.binade + N * 2 ^ (52 - K)) double.infRung = (K + 1022) * 2 ^ 52 + N * 2 ^ (52 - K) := by
      rw [show double.binade = 2 ^ 52 from rfl, show double.infRung = 2047 * 2 ^ 52 by decide]
      generalize N * 2 ^ (52 - K) = M at b1 b2 ⊢
      exact Nat.min_eq_left (by omega)
    rw [hmin, aBs hK b1 b2]
    refine ⟨s, _, _, rfl, ?_⟩
    have hs : sg s (N * 2 ^ (52 - K)) = n * 2 ^ (52 - K) := by
      have hp : (0 : Int) < 2 ^ e.toNat := Int.pow_pos (by omega)
      have hp' : (0 : Int) < 2 ^ (-e).toNat := Int.pow_pos (by omega)
      unfold sg at he ⊢
      rw [Int.natCast_mul, pw]
      cases s with
      | true =>
        rw [if_pos rfl] at he ⊢
        have hneg : n < 0 := by
          have h1 : (-(m : Int)) * 2 ^ e.toNat < 0 := Int.mul_neg_of_neg_of_pos (by omega) hp
          rw [he] at h1
          rcases Int.lt_or_le n 0 with h | h
          · exact h
          · have := Int.mul_nonneg h (Int.le_of_lt hp'); omega
        rw [<- Int.neg_mul, show -(N : Int) = n by omega]
      | false =>
        rw [if_neg (by simp)] at he ⊢
        have hpos : 0 <= n := by
          have h1 : 0 <= (m : Int) * 2 ^ e.toNat := Int.mul_nonneg (by omega) (Int.le_of_lt hp)
          rw [he] at h1
          rcases Int.lt_or_le n 0 with h | h
          · have := Int.mul_neg_of_neg_of_pos h hp'; omega
          · exact h
        rw [show (N : Int) = n by omega]
    rw [hs, show ((K : Int) - 52).toNat = 0 by omega, show (-((K : Int) - 52)).toNat = 52 - K by omega, Int.pow_zero, Int.mul_one]
theorem ZF {s : Bool} {m : Nat} {e n : Int} (he : sg s m * 2 ^ e.toNat = n * 2 ^ (-e).toNat) : sg s n.natAbs = n := by
  have hp : (0 : Int) < 2 ^ e.toNat := Int.pow_pos (by omega)
  have hp' : (0 : Int) < 2 ^ (-e).toNat := Int.pow_pos (by omega)
  unfold sg at he ⊢
  cases s with
  | true =>
    rw [if_pos rfl] at he ⊢
    have h1 : (-(m : Int)) * 2 ^ e.toNat <= 0 := Int.mul_nonpos_of_nonpos_of_nonneg (by omega) (Int.le_of_lt hp)
    rw [he] at h1
    rcases Int.lt_or_le 0 n with h | h
    · have := Int.mul_pos h hp'; omega
    · omega
  | false =>
    rw [if_neg (by simp)] at he ⊢
    have h1 : 0 <= (m : Int) * 2 ^ e.toNat := Int.mul_nonneg (by omega) (Int.le_of_lt hp)
    rw [he] at h1
    rcases Int.lt_or_le n 0 with h | h
    · have := Int.mul_neg_of_neg_of_pos h hp'; omega
    · omega
theorem zD (s:Bool) (m up:Nat):signed s m up=sg s m*2 ^ up:=by
 unfold signed sg
 rw [Nat.shiftLeft_eq,Int.natCast_mul,pw]
 cases s <;> simp [Int.neg_mul]
theorem shift {S a i base:Int} (h:S*2 ^ i.toNat=a*2 ^ (-i).toNat) (hb:base<=i):S*2 ^ (i-base).toNat*2 ^ base.toNat=a*2 ^ (-base).toNat:=by
 rw [Int.mul_assoc,<- Int.pow_add]
 by_cases h0:0<=base
 ·rw [show (-base).toNat=0 by omega,show (i-base).toNat+base.toNat=i.toNat by omega,h,show (-i).toNat=0 by omega]
 ·rw [show base.toNat=0 by omega,Nat.add_zero]
  by_cases h1:0<=i
  ·rw [show (i-base).toNat=i.toNat+(-base).toNat by omega,Int.pow_add,<- Int.mul_assoc,h,show (-i).toNat=0 by omega,Int.pow_zero,Int.mul_one]
  ·rw [show i.toNat=0 by omega,Int.pow_zero,Int.mul_one] at h
   rw [h,Int.mul_assoc,<- Int.pow_add,show (-i).toNat+(i-base).toNat=(-base).toNat by omega]
theorem ZV (n:Int):pV (.number (decide (n<0)) n.natAbs 0) n:=⟨_,_,_,rfl,by rw [TA]; rfl⟩
theorem aAi {d:Datum} {n:Int} (h:pV d n):pV d.opposite (-n):=by
 obtain ⟨s,m,e,rfl,he⟩:=h
 refine ⟨!s,m,e,rfl,?_⟩
 have:sg (!s) m = -sg s m:=by cases s <;> simp [sg]
 rw [this,Int.neg_mul,Int.neg_mul,he]
theorem PJ {d d':Datum} {a b:Int} (h:pV d a) (h':pV d' b):∃ r,d.sum d'=some r/\pV r (a+b):=by
 obtain ⟨s,m,i,rfl,h1⟩:=h
 obtain ⟨t,n,j,rfl,h2⟩:=h'
 refine ⟨_,rfl,_,_,_,rfl,?_⟩
 rw [zD,zD]
 have k1:=shift h1 (show min i j<=i by omega)
 have k2:=shift h2 (show min i j<=j by omega)
 generalize min i j=base at k1 k2 ⊢
 have hs:∀ x:Int,sg (if x=0 then s&&t else decide (x<0)) x.natAbs=x:=by
  intro x
  by_cases h0:x=0
  ·subst h0; simp [sg]
  ·rw [if_neg h0]; exact TA x
 rw [hs,Int.add_mul,k1,k2,<- Int.add_mul]
theorem Q0 {d d':Datum} {a b:Int} (h:pV d a) (h':pV d' b):∃ r,d.product d'=some r/\pV r (a*b):=by
 obtain ⟨s,m,i,rfl,h1⟩:=h
 obtain ⟨t,n,j,rfl,h2⟩:=h'
 refine ⟨_,rfl,_,_,_,rfl,?_⟩
 have hs:sg (s ^^ t) (m*n)=sg s m*sg t n:=by
  unfold sg
  rw [Int.natCast_mul]
  cases s <;> cases t <;> simp [Int.neg_mul,Int.mul_neg]
 rw [hs]
 generalize sg s m=S at h1 ⊢
 generalize sg t n=T at h2 ⊢
 have hp:(2:Int) ^ ((-i).toNat+(-j).toNat)≠0:=Int.ne_of_gt (Int.pow_pos (by omega))
 apply Int.eq_of_mul_eq_mul_right hp
 have e1:S*T*2 ^ (i.toNat+j.toNat)=a*b*2 ^ ((-i).toNat+(-j).toNat):=by
  rw [Int.pow_add,Int.pow_add]
  calc S*T*(2 ^ i.toNat*2 ^ j.toNat)=(S*2 ^ i.toNat)*(T*2 ^ j.toNat):=by ac_rfl
   _=(a*2 ^ (-i).toNat)*(b*2 ^ (-j).toNat):=by rw [h1,h2]
   _=a*b*(2 ^ (-i).toNat*2 ^ (-j).toNat):=by ac_rfl
 rw [Int.mul_assoc,<- Int.pow_add,show (i+j).toNat+((-i).toNat+(-j).toNat)=(i.toNat+j.toNat)+(-(i+j)).toNat by omega,Int.pow_add,<- Int.mul_assoc,e1]
 ac_rfl
theorem UF {d d':Datum} {a b:Int} (h:pV d a) (h':pV d' b):d.order d'=some (compare a b):=by
 obtain ⟨s,m,i,rfl,h1⟩:=h
 obtain ⟨t,n,j,rfl,h2⟩:=h'
 show some (compare (signed s m (i-min i j).toNat) (signed t n (j-min i j).toNat))=_
 rw [zD,zD]
 have k1:=shift h1 (show min i j<=i by omega)
 have k2:=shift h2 (show min i j<=j by omega)
 generalize min i j=base at k1 k2 ⊢
 generalize sg s m*2 ^ (i-base).toNat=x at k1 ⊢
 generalize sg t n*2 ^ (j-base).toNat=y at k2 ⊢
 have hp:(0:Int)<2 ^ base.toNat:=Int.pow_pos (by omega)
 have hp':(0:Int)<2 ^ (-base).toNat:=Int.pow_pos (by omega)
 have hlt:x<y ↔ a<b:=by
  constructor
  ·intro h
   have:=Int.mul_lt_mul_of_pos_right h hp
   rw [k1,k2] at this
   exact Int.lt_of_mul_lt_mul_right this (Int.le_of_lt hp')
  ·intro h
   have:=Int.mul_lt_mul_of_pos_right h hp'
   rw [<- k1,<- k2] at this
   exact Int.lt_of_mul_lt_mul_right this (Int.le_of_lt hp)
 have heq:x=y ↔ a=b:=by
  constructor
  ·intro h
   rw [h,k2] at k1
   exact (Int.eq_of_mul_eq_mul_right (Int.ne_of_gt hp') k1).symm
  ·intro h
   rw [h,<- k2] at k1
   exact Int.eq_of_mul_eq_mul_right (Int.ne_of_gt hp) k1
 congr 1
 show compareOfLessAndEq x y=compareOfLessAndEq a b
 unfold compareOfLessAndEq
 simp only [hlt,heq]
theorem U7 {d:Datum} {n:Int} (h:pV d n):d.toInt .zero=some n:=by
 obtain ⟨s,m,e,rfl,he⟩:=h
 show some (signed s (Toward.zero.cut s (m <<< e.toNat) (-e).toNat) 0)=_
 rw [Nat.shiftLeft_eq,PP he,JK,zD,Int.pow_zero,Int.mul_one,ZF he]
theorem OZ {n:Int} (hn:n.natAbs<2 ^ 53):uJ (FloatKind.f64.nearest n) n:=BL (ZV n) hn
theorem PB {x y:Nat} {a b:Int} (h:uJ x a) (h':uJ y b) (hn:(a+b).natAbs<2 ^ 53):∃ r,double.add x y=some r/\uJ r (a+b):=by
 obtain ⟨d,h1,h2⟩:=PJ h h'
 exact ⟨_,by unfold Format.add; rw [h1]; rfl,BL h2 hn⟩
theorem RF {x y:Nat} {a b:Int} (h:uJ x a) (h':uJ y b) (hn:(a-b).natAbs<2 ^ 53):∃ r,double.sub x y=some r/\uJ r (a-b):=by
 obtain ⟨d,h1,h2⟩:=PJ h (aAi h')
 exact ⟨_,by unfold Format.sub; rw [h1]; rfl,BL (by rw [Int.sub_eq_add_neg]; exact h2) hn⟩
theorem I2 {x y:Nat} {a b:Int} (h:uJ x a) (h':uJ y b) (hn:(a*b).natAbs<2 ^ 53):∃ r,double.mul x y=some r/\uJ r (a*b):=by
 obtain ⟨d,h1,h2⟩:=Q0 h h'
 exact ⟨_,by unfold Format.mul; rw [h1]; rfl,BL h2 hn⟩
theorem aAP {x y:Nat} {a b:Int} (h:uJ x a) (h':uJ y b):double.order x y=some (compare a b):=UF h h'
theorem Z7 {x:Nat} {a:Int} (h:uJ x a):(double.read x).toInt .zero=some a:=U7 h
def B5 (z:Nat×Nat) (a b:Int):Prop:=uJ z.1 a/\uJ z.2 b
theorem aC6 {x y:Nat×Nat} {a b c d:Int} (h:B5 x a b) (h':B5 y c d) (h1:(a+c).natAbs<2 ^ 53) (h2:(b+d).natAbs<2 ^ 53):∃ r,cSumBits .add .f64 x.1 x.2 y.1 y.2=some r/\B5 r (a+c) (b+d):=by
 obtain ⟨u,u1,u2⟩:=PB h.1 h'.1 h1
 obtain ⟨v,v1,v2⟩:=PB h.2 h'.2 h2
 refine ⟨(u,v),?_,u2,v2⟩
 have e1:floatBits .add .f64 x.1 y.1=some u:=u1
 have e2:floatBits .add .f64 x.2 y.2=some v:=v1
 unfold cSumBits
 rw [e1,e2]
 rfl
theorem aCD {x y:Nat×Nat} {a b c d:Int} (h:B5 x a b) (h':B5 y c d) (h1:(a-c).natAbs<2 ^ 53) (h2:(b-d).natAbs<2 ^ 53):∃ r,cSumBits .sub .f64 x.1 x.2 y.1 y.2=some r/\B5 r (a-c) (b-d):=by
 obtain ⟨u,u1,u2⟩:=RF h.1 h'.1 h1
 obtain ⟨v,v1,v2⟩:=RF h.2 h'.2 h2
 refine ⟨(u,v),?_,u2,v2⟩
 have e1:floatBits .sub .f64 x.1 y.1=some u:=u1
 have e2:floatBits .sub .f64 x.2 y.2=some v:=v1
 unfold cSumBits
 rw [e1,e2]
 rfl
theorem aCI {x y:Nat×Nat} {a b c d:Int} (h:B5 x a b) (h':B5 y c d) (h1:(a*c).natAbs<2 ^ 52) (h2:(b*d).natAbs<2 ^ 52) (h3:(a*d).natAbs<2 ^ 52) (h4:(b*c).natAbs<2 ^ 52) :
  ∃ r,cMulBits x.1 x.2 y.1 y.2=some r/\B5 r (a*c-b*d) (a*d+b*c):=by
 obtain ⟨p,p1,p2⟩:=I2 h.1 h'.1 (by omega)
 obtain ⟨q,q1,q2⟩:=I2 h.2 h'.2 (by omega)
 obtain ⟨u,u1,u2⟩:=RF p2 q2 (by omega)
 obtain ⟨s,s1,s2⟩:=I2 h.1 h'.2 (by omega)
 obtain ⟨t,t1,t2⟩:=I2 h.2 h'.1 (by omega)
 obtain ⟨v,v1,v2⟩:=PB s2 t2 (by omega)
 refine ⟨(u,v),?_,u2,v2⟩
 have e1:floatBits .mul .f64 x.1 y.1=some p:=p1
 have e2:floatBits .mul .f64 x.2 y.2=some q:=q1
 have e3:floatBits .sub .f64 p q=some u:=u1
 have e4:floatBits .mul .f64 x.1 y.2=some s:=s1
 have e5:floatBits .mul .f64 x.2 y.1=some t:=t1
 have e6:floatBits .add .f64 s t=some v:=v1
 unfold cMulBits
 simp only [e1,e2,e3,e4,e5,e6,Option.bind_some]
theorem F6 {n:Int} (hn:n.natAbs<2 ^ 53):uJ (floatOfInt .f64 n) n:=OZ hn
theorem YR {x : Nat} {n : Int} (h : uJ x n) (h1 : -9223372036854775808 <= n) (h2 : n <= 9223372036854775807) : floatToIntVal .f64 x .i64 = some n := by
  unfold floatToIntVal
  have : (FloatKind.f64.decode x).toInt .zero = some n := Z7 h
  rw [this]
  simp only
  rw [if_pos ⟨by show IntKind.i64.min <= n; have : IntKind.i64.min = -9223372036854775808 := by decide
                 omega, by show n <= IntKind.i64.max; have : IntKind.i64.max = 9223372036854775807 := by decide
                           omega⟩]
theorem vY {x y:Nat} {a b:Int} (h:uJ x a) (h':uJ y b):FloatKind.f64.format.order x y=some (compare a b):=aAP h h'
end Go.Fl

namespace Go.Proofs.YtcfpfefadlnmcaaGreat
open Go.Mach Go.RowKit
set_option maxRecDepth 100000
set_option linter.unusedVariables false
set_option linter.unusedSimpArgs false
def qK:Int->List Int->Int
 | acc,[]=>acc
 | acc,d::r=>if ((decide (d<1)||decide (4096<d))||decide (8192<IntKind.i64.wrap (acc*d)))=true then 0 else qK (IntKind.i64.wrap (acc*d)) r
def szF (l:List Int):Int:=if (decide ((l.length:Int)<1)||decide (4<(l.length:Int)))=true then 0 else qK 1 l
theorem aBZ : ∀ (l : List Int) (acc : Int), acc <= 8192 -> qK acc l <= 8192
  | [], acc, h => h
  | d :: r, acc, h => by
    unfold qK
    split
    · omega
    · rename_i hn
      simp only [Bool.or_eq_true, decide_eq_true_eq, not_or] at hn
      exact aBZ r _ (by omega)
theorem GF (l:List Int):szF l<=8192:=by
 unfold szF
 split
 ·omega
 ·exact aBZ l 1 (by omega)
theorem C6 {a : List Int} {Q : Int -> Prop} (h : Q (szF a)) : j6 a Q := by
  refine ⟨?_⟩
  unfold szF at h
  by_cases e : (decide ((a.length : Int) < 1) || decide (4 < (a.length : Int))) = true
  · rw [if_pos e] at h ⊢; exact h
  · rw [if_neg e] at h ⊢
    simp only [Bool.or_eq_true, decide_eq_true_eq, not_or] at e
    obtain ⟨z, hzz⟩ : ∃ z, qK 1 a = z := ⟨_, rfl⟩
    rw [hzz] at h
    refine ⟨?_⟩
    refine Loop.inv (n := a.length) (fun m s => ∃ i : Nat, i + m = a.length /\ s.2 = (i : Int) /\ qK s.1 (a.drop i) = z) ⟨0, by omega, rfl, hzz⟩ ?_
    rintro m ⟨acc, i'⟩ X ⟨i, hi, he, hz⟩ hX
    simp only at he hz
    subst he
    unfold CA
    by_cases hlt : i < a.length
    · have hd : a.drop i = a.getD i 0 :: a.drop (i + 1) := by
        rw [List.drop_eq_getElem_cons hlt, List.getD_eq_getElem?_getD, List.getElem?_eq_getElem hlt]; rfl
      rw [hd] at hz
      rw [if_pos (by simpa using hlt)]
      refine ⟨by simp only []; omega, ?_⟩
      simp only [Int.toNat_natCast]
      unfold qK at hz
      split
      · rename_i hc
        rw [if_pos hc] at hz
        rw [<- hz] at h; exact h
      · rename_i hc
        rw [if_neg hc] at hz
        refine hX (m - 1) _ (by omega) ⟨i + 1, by omega, ?_, hz⟩
        show IntKind.i64.wrap ((i : Int) + 1) = _
        rw [aA _ (by omega) (by omega)]; rfl
    · have hil : i = a.length := by omega
      subst hil
      rw [if_neg (by simp)]
      rw [List.drop_length] at hz
      unfold qK at hz
      show Q acc
      rw [hz]; exact h
theorem EB {a:List Int} {Q:Bool->Prop} (h:Q (decide (0<szF a))):gB a Q:=by
 refine ⟨?_⟩
 exact C6 h
open Go.Mach Go.RowKit Go.Fl
set_option maxRecDepth 100000
set_option linter.unusedVariables false
set_option linter.unusedSimpArgs false
def inP (a lo hi:Int):Bool:=decide (lo<=a)&&decide (a<=hi)
theorem FR {a lo hi:Int} {Q:Bool->Prop} (h:Q (inP a lo hi)):o6 a lo hi Q:=⟨h⟩
theorem EA {a lo hi:Int} (h1:lo<=a) (h2:a<=hi):inP a lo hi=true:=by
 unfold inP
 rw [decide_eq_true h1,decide_eq_true h2]
 rfl
theorem aFT {r c:Int} {Q:Nat×Nat->Prop} (h1 : -1000<=r/\r<=1000) (h2 : -1000<=c/\c<=1000) (h:∀ z,B5 z r c->Q z):yN r c Q:=by
 refine ⟨?_⟩
 refine FR ?_
 rw [EA h1.1 h1.2]
 simp only [jn,Bool.not_true,Bool.false_eq_true,if_false]
 refine FR ?_
 rw [EA h2.1 h2.2]
 simp only [Bool.not_true,Bool.false_eq_true,if_false]
 exact h _ ⟨F6 (by omega),F6 (by omega)⟩
theorem aEb:uJ 13875379345695965184 (-1000):=by
 have:FloatKind.f64.nearest (-1000)=13875379345695965184:=by decide +kernel
 rw [<- this]
 exact OZ (by decide)
theorem aF3:uJ 4652007308841189376 1000:=by
 have:FloatKind.f64.nearest 1000=4652007308841189376:=by decide +kernel
 rw [<- this]
 exact OZ (by decide)
theorem aGE (a b:Int):((some (compare a b)==some Ordering.gt)||(some (compare a b)==some Ordering.eq))=decide (b<=a):=by
 show ((some (compareOfLessAndEq a b)==some Ordering.gt)||(some (compareOfLessAndEq a b)==some Ordering.eq))=decide (b<=a)
 unfold compareOfLessAndEq
 by_cases h1:a<b
 ·rw [if_pos h1,decide_eq_false (by omega)]; rfl
 ·rw [if_neg h1]
  by_cases h2:a=b
  ·rw [if_pos h2,decide_eq_true (by omega)]; rfl
  ·rw [if_neg h2,decide_eq_true (by omega)]; rfl
theorem aFy (a b:Int):((some (compare a b)==some Ordering.lt)||(some (compare a b)==some Ordering.eq))=decide (a<=b):=by
 show ((some (compareOfLessAndEq a b)==some Ordering.lt)||(some (compareOfLessAndEq a b)==some Ordering.eq))=decide (a<=b)
 unfold compareOfLessAndEq
 by_cases h1:a<b
 ·rw [if_pos h1,decide_eq_true (by omega)]; rfl
 ·rw [if_neg h1]
  by_cases h2:a=b
  ·rw [if_pos h2,decide_eq_true (by omega)]; rfl
  ·rw [if_neg h2,decide_eq_false (by omega)]; rfl
theorem aG7 (a:Int):(some (compare a a)==some Ordering.eq)=true:=by
 show (some (compareOfLessAndEq a a)==some Ordering.eq)=true
 unfold compareOfLessAndEq
 rw [if_neg (by omega),if_pos rfl]
 rfl
theorem aBP {x:Nat} {n:Int} {Q:Int×Bool->Prop} (hw:uJ x n) (h:Q (if inP n (-1000) 1000=true then (n,true) else (0,false))):wN x Q:=by
 refine ⟨?_⟩
 rw [vY hw aEb,vY hw aF3,aGE,aFy]
 by_cases hi:inP n (-1000) 1000=true
 ·rw [if_pos hi] at h
  unfold inP at hi
  rw [hi,if_neg (by simp)]
  simp only [Bool.and_eq_true,decide_eq_true_eq] at hi
  refine ⟨n,YR hw (by omega) (by omega),?_⟩
  show Q (n,FloatKind.f64.format.order (floatOfInt .f64 n) x==some Ordering.eq)
  rw [vY (F6 (by omega)) hw,aG7]
  exact h
 ·rw [if_neg hi] at h
  unfold inP at hi
  have hi2:(decide (-1000<=n)&&decide (n<=1000))=false:=by simpa using hi
  rw [hi2,if_pos (by rfl)]
  exact h
theorem aIE {z:Nat×Nat} {r c:Int} {Q:Int×Int×Bool->Prop} (hz:B5 z r c) (h:Q (if (inP r (-1000) 1000&&inP c (-1000) 1000)=true then (r,c,true) else (0,0,false))):PW z Q:=by
 refine ⟨?_⟩
 refine aBP hz.1 (aBP hz.2 ?_)
 cases h1:inP r (-1000) 1000 <;> cases h2:inP c (-1000) 1000 <;> rw [h1,h2] at h <;> exact h
open Go.Mach Go.RowKit Go.Fl
set_option maxRecDepth 100000
set_option linter.unusedVariables false
set_option linter.unusedSimpArgs false
def jL (rows cols cr cc:Int) (i j:Nat):List (Int×Int×Int) :=
 if (inP (cr+i) 0 (rows-1)&&inP (cc+j) 0 (cols-1))=true then [((cr+i)*cols+(cc+j),(i:Int),(j:Int))] else []
def oO (rows cols cr cc:Int) (i k:Nat):List (Int×Int×Int):=(List.range k).flatMap (jL rows cols cr cc i)
theorem ZC (rows cols cr cc:Int) (i j:Nat):(jL rows cols cr cc i j).length<=1:=by
 unfold jL; split <;> simp
theorem LX {rows cols cr cc:Int} {i k:Nat}:oO rows cols cr cc i (k+1)=oO rows cols cr cc i k++jL rows cols cr cc i k:=by
 unfold oO
 rw [List.range_succ,List.flatMap_append]
 simp
theorem GB {rows cols cr cc : Int} {i : Nat} : ∀ k, (oO rows cols cr cc i k).length <= k
  | 0 => by simp [oO]
  | k + 1 => by
    rw [LX, List.length_append]
    have := GB (rows := rows) (cols := cols) (cr := cr) (cc := cc) (i := i) k
    have := ZC rows cols cr cc i k
    omega
theorem aGp {z : Nat × Nat} {rows cols cr cc : Int} {i k : Nat} {acc : List (Int × Int × Int)} {K0 : List (Int × Int × Int) -> Prop} (hz : B5 z cr cc) (hr : 0 <= rows /\ rows <= 1000) (hc : 0 <= cols /\ cols <= 1000) (hcr : -100000 <= cr /\ cr <= 100000) (hcc : -100000 <= cc /\ cc <= 100000) (hi : i <= 1000) (hk : k <= 1000) (ha : acc.length <= 1000000)
    (h : K0 (acc ++ oO rows cols cr cc i k)) : mD z (i : Int) (k : Int) rows cols K0 (0, acc) := by
  refine ⟨?_⟩
  have eg : ((0 : Int), acc) = (fun j : Nat => ((j : Int), acc ++ oO rows cols cr cc i j)) 0 := by simp [oO]
  rw [eg]
  refine Loop.range (B := iE z (i : Int) (k : Int) rows cols K0) (f := fun j : Nat => ((j : Int), acc ++ oO rows cols cr cc i j)) k (fun _ => True) trivial ?_ ?_
  · intro j hj _ X hX
    have hX := hX trivial
    unfold iE
    rw [if_pos (decide_eq_true (show (j : Int) < (k : Int) by omega))]
    dsimp only at hX ⊢
    refine aFT (by omega) (by omega) fun u hu => ?_
    obtain ⟨r, e, hrr⟩ := aC6 hz hu (by omega) (by omega)
    refine ⟨r, e, aIE (z := r) hrr ?_⟩
    have hlen := GB (rows := rows) (cols := cols) (cr := cr) (cc := cc) (i := i) j
    have e1 : IntKind.i64.wrap (rows - 1) = rows - 1 := aA _ (by omega) (by omega)
    have e2 : IntKind.i64.wrap (cols - 1) = cols - 1 := aA _ (by omega) (by omega)
    rw [LX, <- List.append_assoc] at hX
    by_cases hin : (inP (cr + i) 0 (rows - 1) && inP (cc + j) 0 (cols - 1)) = true
    · have ew : jL rows cols cr cc i j = [((cr + i) * cols + (cc + j), (i : Int), (j : Int))] := by unfold jL; rw [if_pos hin]
      simp only [Bool.and_eq_true] at hin
      have b1 : 0 <= cr + i /\ cr + i <= rows - 1 := by simpa [inP] using hin.1
      have b2 : 0 <= cc + j /\ cc + j <= cols - 1 := by simpa [inP] using hin.2
      have m1 : 0 <= (cr + i) * cols := Int.mul_nonneg b1.1 hc.1
      have m2 : (cr + i) * cols <= 1000 * 1000 := Int.mul_le_mul (by omega) hc.2 hc.1 (by omega)
      rw [EA (by omega) (by omega), EA (by omega) (by omega), if_pos (by rfl)]
      simp only [jn, if_true]
      refine FR ?_
      rw [e1, hin.1]
      simp only [if_true]
      refine FR ?_
      rw [e2, hin.2]
      simp only [if_true]
      refine ⟨?_, ⟨?_⟩⟩
      · simp only [List.length_append, List.length_singleton]; omega
      · skip
        rw [aA ((j : Int) + 1) (by omega) (by omega), aA ((cr + i) * cols) (by omega) (by omega), aA ((cr + i) * cols + (cc + j)) (by omega) (by omega)]
        rw [ew] at hX
        exact hX
    · have ew : jL rows cols cr cc i j = [] := by unfold jL; rw [if_neg hin]
      rw [ew, List.append_nil] at hX
      have skip : i7 (j : Int) (fun (y28 : Int) => X (y28, acc ++ oO rows cols cr cc i j)) := by
        refine ⟨?_⟩
        rw [aA ((j : Int) + 1) (by omega) (by omega)]
        exact hX
      by_cases hb : (inP (cr + i) (-1000) 1000 && inP (cc + j) (-1000) 1000) = true
      · rw [if_pos hb]
        simp only [jn, if_true]
        refine FR ?_
        rw [e1]
        cases h1 : inP (cr + i) 0 (rows - 1) with
        | false => simp only [Bool.false_eq_true, if_false]; exact skip
        | true =>
          simp only [if_true]
          refine FR ?_
          rw [e2]
          cases h2 : inP (cc + j) 0 (cols - 1) with
          | false => simp only [Bool.false_eq_true, if_false]; exact skip
          | true => rw [h1, h2] at hin; exact absurd rfl hin
      · rw [if_neg hb]
        simp only [jn, Bool.false_eq_true, if_false]
        exact skip
  · intro _ X
    unfold iE
    rw [if_neg (by simp)]
    exact h
def CP (rows cols cr cc:Int) (k:Nat) (m:Nat):List (Int×Int×Int):=(List.range m).flatMap fun i=>oO rows cols cr cc i k
theorem TV {rows cols cr cc:Int} {k m:Nat}:CP rows cols cr cc k (m+1)=CP rows cols cr cc k m++oO rows cols cr cc m k:=by
 unfold CP
 rw [List.range_succ,List.flatMap_append]
 simp
theorem I3 {rows cols cr cc : Int} {k : Nat} : ∀ m, (CP rows cols cr cc k m).length <= m * k
  | 0 => by simp [CP]
  | m + 1 => by
    rw [TV, List.length_append, Nat.succ_mul]
    have := I3 (rows := rows) (cols := cols) (cr := cr) (cc := cc) (k := k) m
    have := GB (rows := rows) (cols := cols) (cr := cr) (cc := cc) (i := m) k
    omega
theorem YY {rows cols stride pad r c:Int} {k:Nat} {Q:List (Int×Int×Int)->Prop} (hr:0<=rows/\rows<=1000) (hc:0<=cols/\cols<=1000) (hs:0<=stride/\stride<=100) (hp:0<=pad/\pad<=100) (h1:0<=r/\r<=900) (h2:0<=c/\c<=900) (hk:k<=900)
  (h:Q (CP rows cols (stride*r-pad) (stride*c-pad) k k)):lV (rows,cols,(k:Int),stride,pad) r c Q:=by
 have m1:0<=stride*r:=Int.mul_nonneg hs.1 h1.1
 have m2:stride*r<=100*900:=Int.mul_le_mul hs.2 h1.2 h1.1 (by omega)
 have m3:0<=stride*c:=Int.mul_nonneg hs.1 h2.1
 have m4:stride*c<=100*900:=Int.mul_le_mul hs.2 h2.2 h2.1 (by omega)
 refine ⟨?_⟩
 dsimp only
 refine aFT (by show -1000<=stride/\stride<=1000; omega) (by omega) fun u hu => ?_
 refine aFT (by omega) (by omega) fun v hv => ?_
 obtain ⟨p,e1,hpw⟩:=aCI hu hv (by omega) (by rw [Int.zero_mul]; decide) (by omega) (by rw [Int.zero_mul]; decide)
 refine ⟨p,e1,?_⟩
 refine aFT (by show -1000<=pad/\pad<=1000; omega) (by show -1000<=pad/\pad<=1000; omega) fun q hq => ?_
 rw [Int.zero_mul,Int.zero_mul,Int.sub_zero,Int.add_zero] at hpw
 obtain ⟨z,e2,hz⟩:=aCD hpw hq (by omega) (by omega)
 refine ⟨z,e2,⟨?_⟩⟩
 show Go.Mach.Loop (eE z (k:Int) rows cols (k:Int) (fun y=>Q y)) (0,[])
 have eg:((0:Int),([]:List (Int×Int×Int)))=(fun i:Nat=>((i:Int),CP rows cols (stride*r-pad) (stride*c-pad) k i)) 0:=by simp [CP]
 rw [eg]
 refine Loop.range (B:=eE z (k:Int) rows cols (k:Int) (fun y=>Q y)) (f:=fun i:Nat=>((i:Int),CP rows cols (stride*r-pad) (stride*c-pad) k i)) k (fun _=>True) trivial ?_ ?_
 ·intro i hi _ X hX
  have hX:=hX trivial
  unfold eE
  rw [if_pos (decide_eq_true (show (i:Int)<(k:Int) by omega))]
  dsimp only at hX ⊢
  have hl:=I3 (rows:=rows) (cols:=cols) (cr:=stride*r-pad) (cc:=stride*c-pad) (k:=k) i
  have hm:i*k<=900*900:=Nat.mul_le_mul (by omega) hk
  refine aGp (z:=z) hz hr hc (by omega) (by omega) (by omega) (by omega) (by omega) ?_
  rw [aA ((i:Int)+1) (by omega) (by omega)]
  rw [TV] at hX
  exact hX
 ·intro _ X
  unfold eE
  rw [if_neg (by simp)]
  exact h
open Go.Mach Go.RowKit Go.Fl
set_option maxRecDepth 100000
set_option linter.unusedVariables false
set_option linter.unusedSimpArgs false
theorem aAY {b c:Bool} {Q K:Bool->Prop} {G:(Bool->Prop)->Prop} (hG:∀ P:Bool->Prop,P c->G P) (hK:∀ v,v=(b||c)->K v) (hQ:Q=K):jn (fun v=>Q v) (fun J=>if b=true then J true else G J):=by
 subst hQ
 cases b with
 | true=>exact hK _ rfl
 | false=>show (if false=true then Q true else G (fun v=>Q v)); rw [if_neg (by simp)]; exact hG _ (hK _ (by simp))
theorem aB7 {a lo hi:Int} {Q:Bool->Prop} (h:Q (inP a lo hi)):zH a lo hi Q:=⟨h⟩
def rY (n k s p:Int):Bool:=(((!inP n 1 16 || !inP k 1 5) || !inP s 1 4) || !inP p 0 (k-1))||decide (n+2*p<k)
def aL (n k s p:Int):Int:=if rY n k s p=true then 0 else (n+2*p-k) / s+1
theorem FP {n k s p : Int} {Q : Int -> Prop} (h : Q (aL n k s p)) : mB n k s p Q := by
  refine ⟨?_⟩
  refine aB7 ?_
  refine aAY (b := !inP n 1 16) (c := !inP k 1 5) (fun P hp => aB7 hp) (fun v2 e2 => ?_) rfl
  refine aAY (c := !inP s 1 4) (fun P hp => aB7 hp) (fun v5 e5 => ?_) rfl
  refine aAY (c := !inP p 0 (IntKind.i64.wrap (k - 1))) (fun P hp => aB7 hp) (fun v8 e8 => ?_) rfl
  have e8' : v8 = (((!inP n 1 16 || !inP k 1 5) || !inP s 1 4) || !inP p 0 (IntKind.i64.wrap (k - 1))) := by rw [e8, e5, e2]
  by_cases hc : ((!inP n 1 16 || !inP k 1 5) || !inP s 1 4) = true
  · have hv : v8 = true := by rw [e8', hc]; rfl
    have hb : rY n k s p = true := by unfold rY; rw [hc]; rfl
    unfold aL at h
    rw [if_pos hb] at h
    rw [hv, if_pos (by rfl)]
    exact h
  · have hc' : ((!inP n 1 16 || !inP k 1 5) || !inP s 1 4) = false := by simpa using hc
    simp only [Bool.or_eq_false_iff, Bool.not_eq_false'] at hc'
    have b1 : 1 <= n /\ n <= 16 := by simpa [inP] using hc'.1.1
    have b2 : 1 <= k /\ k <= 5 := by simpa [inP] using hc'.1.2
    have b3 : 1 <= s /\ s <= 4 := by simpa [inP] using hc'.2
    rw [aA (k - 1) (by omega) (by omega)] at e8'
    cases hv : v8 with
    | true =>
      have hb : rY n k s p = true := by unfold rY; rw [<- e8', hv]; rfl
      unfold aL at h
      rw [if_pos hb] at h
      rw [if_pos (by rfl)]
      exact h
    | false =>
      have hp : inP p 0 (k - 1) = true := by
        rw [hv] at e8'
        have := e8'.symm
        simp only [Bool.or_eq_false_iff, Bool.not_eq_false'] at this
        exact this.2
      have b4 : 0 <= p /\ p <= k - 1 := by simpa [inP] using hp
      rw [aA (2 * p) (by omega) (by omega), aA (n + 2 * p) (by omega) (by omega)]
      have hbe : rY n k s p = decide (n + 2 * p < k) := by unfold rY; rw [<- e8', hv, Bool.false_or]
      unfold aL at h
      rw [hbe] at h
      rw [Bool.false_or]
      by_cases hl : decide (n + 2 * p < k) = true
      · rw [if_pos hl] at h ⊢; exact h
      · rw [if_neg hl] at h ⊢
        have hl2 : ¬ (n + 2 * p < k) := by simpa using hl
        have d0 : 0 <= (n + 2 * p - k) / s := Int.ediv_nonneg (by omega) (by omega)
        have d1 : (n + 2 * p - k) / s <= n + 2 * p - k := Int.ediv_le_self _ (by omega)
        refine ⟨by omega, ?_⟩
        rw [aA (n + 2 * p - k) (by omega) (by omega), Int.tdiv_eq_ediv_of_nonneg (by omega), aA ((n + 2 * p - k) / s) (by omega) (by omega), aA _ (by omega) (by omega)]
        exact h
theorem BH {n k s p:Int} (h:rY n k s p=false):(1<=n/\n<=16)/\(1<=k/\k<=5)/\(1<=s/\s<=4)/\(0<=p/\p<=k-1)/\k<=n+2*p:=by
 unfold rY at h
 simp only [Bool.or_eq_false_iff,Bool.not_eq_false',decide_eq_false_iff_not] at h
 obtain ⟨⟨⟨⟨h1,h2⟩,h3⟩,h4⟩,h5⟩:=h
 exact ⟨by simpa [inP] using h1,by simpa [inP] using h2,by simpa [inP] using h3,by simpa [inP] using h4,by omega⟩
theorem u5 (n k s p : Int) : 0 <= aL n k s p /\ aL n k s p <= 25 /\ (1 <= aL n k s p -> rY n k s p = false) := by
  unfold aL
  cases hb : rY n k s p with
  | true => rw [if_pos rfl]; exact ⟨by omega, by omega, fun h => by omega⟩
  | false =>
    rw [if_neg (by simp)]
    obtain ⟨b1, b2, b3, b4, b5⟩ := BH hb
    have d0 : 0 <= (n + 2 * p - k) / s := Int.ediv_nonneg (by omega) (by omega)
    have d1 : (n + 2 * p - k) / s <= n + 2 * p - k := Int.ediv_le_self _ (by omega)
    exact ⟨by omega, by omega, fun _ => rfl⟩
def aB6 (rows cols r c k s p:Int):Bool:=((decide (aL rows k s p<1)||decide (aL cols k s p<1)) || !inP r 0 (aL rows k s p-1)) || !inP c 0 (aL cols k s p-1)
def eO (rows cols r c k s p:Int):List (Int×Int×Int):=if aB6 rows cols r c k s p=true then [] else CP rows cols (s*r-p) (s*c-p) k.toNat k.toNat
theorem DC {rows cols r c k s p : Int} {Q : List (Int × Int × Int) -> Prop} (h : Q (eO rows cols r c k s p)) : nS rows cols r c k s p Q := by
  refine ⟨?_⟩
  refine ⟨?_⟩
  refine FP (FP ?_)
  obtain ⟨m1, m2, m3⟩ := u5 rows k s p
  obtain ⟨n1, n2, n3⟩ := u5 cols k s p
  unfold eO aB6 at h
  dsimp only
  rw [aA (aL rows k s p - 1) (by omega) (by omega), aA (aL cols k s p - 1) (by omega) (by omega)]
  refine aAY (b := decide (aL rows k s p < 1) || decide (aL cols k s p < 1)) (c := !inP r 0 (aL rows k s p - 1)) (fun P hp => FR hp) (fun v2 e2 => ?_) rfl
  refine aAY (c := !inP c 0 (aL cols k s p - 1)) (fun P hp => FR hp) (fun v5 e5 => ?_) rfl
  rw [<- e2, <- e5] at h
  cases hv : v5 with
  | true => rw [hv, if_pos rfl] at h; rw [if_pos (by rfl)]; exact h
  | false =>
    rw [hv, if_neg (by simp)] at h
    rw [if_neg (by simp)]
    rw [hv, e2] at e5
    have := e5.symm
    simp only [Bool.or_eq_false_iff, Bool.not_eq_false', decide_eq_false_iff_not] at this
    obtain ⟨⟨⟨g1, g2⟩, g3⟩, g4⟩ := this
    obtain ⟨b1, b2, b3, b4, b5⟩ := BH (m3 (by omega))
    obtain ⟨c1, _⟩ := BH (n3 (by omega))
    have r1 : 0 <= r /\ r <= aL rows k s p - 1 := by simpa [inP] using g3
    have r2 : 0 <= c /\ c <= aL cols k s p - 1 := by simpa [inP] using g4
    have hk : ((k.toNat : Nat) : Int) = k := by omega
    have := YY (rows := rows) (cols := cols) (stride := s) (pad := p) (r := r) (c := c) (k := k.toNat) (Q := fun r8 => Q r8) (by omega) (by omega) (by omega) (by omega) (by omega) (by omega) (by omega) h
    rw [hk] at this
    exact this
end Go.Proofs.YtcfpfefadlnmcaaGreat
namespace Go.Proofs.YtcfpfefadlnmcaaGreat
end Go.Proofs.YtcfpfefadlnmcaaGreat
namespace Go.Proofs.YtcfpfefadlnmcaaGreat
end Go.Proofs.YtcfpfefadlnmcaaGreat
namespace Go.Proofs.YtcfpfefadlnmcaaGreat
end Go.Proofs.YtcfpfefadlnmcaaGreat

namespace Go.Proofs.YtcfpfefadlnmcaaGreat
open Go.Mach Go.RowKit
set_option maxRecDepth 100000
set_option linter.unusedVariables false
set_option linter.unusedSimpArgs false
abbrev T3:=List Int×Int×List Int
abbrev Z3:T3:=([],0,[])
theorem tK {b c:Bool} {Q K:Bool->Prop} {G:(Bool->Prop)->Prop} (hG:(b=true->∀ P:Bool->Prop,P c->G P)) (hK:∀ v,v=(b&&c)->K v) (hQ:Q=K):jn (fun v=>Q v) (fun J=>if b=true then G J else J false):=by
 subst hQ
 cases b with
 | true=>show (if true=true then G (fun v=>Q v) else Q false); rw [if_pos rfl]; exact hG rfl _ (hK _ (by simp))
 | false=>exact hK _ rfl
theorem m9 {b c:Bool} {Q K:Bool->Prop} {G:(Bool->Prop)->Prop} (hG:b=false->∀ P:Bool->Prop,P c->G P) (hK:∀ v,v=(b||c)->K v) (hQ:Q=K):jn (fun v=>Q v) (fun J=>if b=true then J true else G J):=by
 subst hQ
 cases b with
 | true=>exact hK _ rfl
 | false=>show (if false=true then Q true else G (fun v=>Q v)); rw [if_neg (by simp)]; exact hG rfl _ (hK _ (by simp))
theorem A7 (a b A B:Int) (h1 : -A<=a) (h2:a<=A) (h3:0<=b) (h4:b<=B) (hA:0<=A) : -(A*B)<=a*b/\a*b<=A*B:=by
 have e1:a*b<=A*b:=Int.mul_le_mul_of_nonneg_right h2 h3
 have e2:A*b<=A*B:=Int.mul_le_mul_of_nonneg_left h4 hA
 have e3 : -A*b<=a*b:=Int.mul_le_mul_of_nonneg_right h1 h3
 have e4 : -A*b = -(A*b):=Int.neg_mul A b
 omega
theorem RV {a b:Int} (h : -128<=a/\a<=127) (k : -128<=b/\b<=127) : -16384<=a*b/\a*b<=16384:=by
 rcases Int.le_total 0 b with hb | hb
 ·have:=A7 a b 128 128 (by omega) (by omega) hb (by omega) (by omega)
  omega
 ·have:=A7 a (-b) 128 128 (by omega) (by omega) (by omega) (by omega) (by omega)
  rw [Int.mul_neg] at this
  omega
def All8 (l:List Int):Prop:=∀ y∈l,-128<=y/\y<=127
theorem All8.at_ {l:List Int} (h:All8 l) (i:Nat) : -128<=l.getD i 0/\l.getD i 0<=127:=by
 rw [List.getD_eq_getElem?_getD]
 cases hq:l[i]? with
 | none=>simp
 | some y=>exact h y (List.mem_of_getElem? hq)
theorem ix {r n i:Nat} (h:r*n+i<=100000000):IntKind.i64.wrap (IntKind.i64.wrap ((r:Int)*(n:Int))+(i:Int))=((r*n+i:Nat):Int):=by
 have e:(r:Int)*(n:Int)=((r*n:Nat):Int):=by rw [Int.natCast_mul]
 have h1:r*n<=100000000:=by omega
 rw [e,aA ((r*n:Nat):Int) (by omega) (by omega),aA _ (by omega) (by omega),Int.natCast_add]
theorem vN {r n:Nat} (h:r*n<=100000000):IntKind.i64.wrap ((r:Int)*(n:Int))=((r*n:Nat):Int):=by
 have e:(r:Int)*(n:Int)=((r*n:Nat):Int):=by rw [Int.natCast_mul]
 rw [e,aA ((r*n:Nat):Int) (by omega) (by omega)]
theorem Y7 {l:List Int} {v:Int} {Q:Bool->Prop} (hl:l.length<=1000000000000) (h:Q (decide (v∈l))):jG l v Q:=by
 refine ⟨?_⟩
 refine ⟨?_⟩
 refine ⟨?_⟩
 refine Loop.range (B:=eS l v (l.length:Int) (fun _=>Q (decide ((0:Int) <= -1))) (fun y=>Q (decide (0<=y)))) (f:=fun i:Nat=>(i:Int)) l.length (fun i=>∀ j,j<i->v≠l.getD j 0) (fun j hj=>absurd hj (by omega)) ?_ ?_
 ·intro i hi hI X hX
  unfold eS
  rw [if_pos (by simpa using hi)]
  refine ⟨by omega,?_⟩
  simp only [Int.toNat_natCast]
  by_cases hv:v=l.getD i 0
  ·rw [if_pos (by simpa using hv)]
   have:decide (v∈l)=true:=by rw [decide_eq_true_eq,hv]; exact IE hi
   rw [this] at h
   rw [decide_eq_true (by omega:(0:Int)<=(i:Int))]
   exact h
  ·rw [if_neg (by simpa using hv),aA _ (by omega) (by omega)]
   refine hX fun j hj => ?_
   by_cases hji:j=i
   ·subst hji; exact hv
   ·exact hI j (by omega)
 ·intro hI X
  unfold eS
  rw [if_neg (by simp)]
  have:decide (v∈l)=false:=by
   simp only [decide_eq_false_iff_not]
   intro hm
   obtain ⟨j,hj,e⟩:=List.getElem_of_mem hm
   apply hI j hj
   rw [List.getD_eq_getElem?_getD,List.getElem?_eq_getElem hj,<- e]; rfl
  rw [this] at h
  exact h
def R5 (a b:Int):Bool:=(decide ((IntKind.i64.wrap (0-b))<=a))&&(decide (a<=b))
theorem aES {a b:Int} {Q:Bool->Prop} (h:Q (R5 a b)):u9 a b Q:=⟨h⟩
def cK (a:T3):Bool:=((decide (0<szF a.1)&&((a.2.2.length:Int)==szF a.1))&&R5 a.2.1 64) && !decide (-128∈a.2.2)
theorem kG {a:T3} {Q:Bool->Prop} (h:Q (cK a)):bF a Q:=by
 refine ⟨?_⟩
 refine EB ?_
 refine tK (b:=decide (0<szF a.1)) (c:=(a.2.2.length:Int)==szF a.1) (fun _ P hp=>C6 hp) (fun v2 e2 => ?_) rfl
 refine tK (c:=R5 a.2.1 64) (fun _ P hp=>aES hp) (fun v3 e3 => ?_) rfl
 refine tK (c := !decide (-128∈a.2.2)) (fun h3 P hp=>Y7 (Q:=fun r=>P (!r)) ?_ hp) (fun v4 e4 => ?_) rfl
 ·rw [e3,e2] at h3
  simp only [Bool.and_eq_true,beq_iff_eq] at h3
  have:=GF a.1
  omega
 ·rw [e4,e3,e2]
  exact h
theorem XQ {a:Int} {b:Int} (h1:0<=b) (h2:b<=1000):R5 a b=true ↔ -b<=a/\a<=b:=by
 unfold R5
 rw [aA (0-b) (by omega) (by omega)]
 simp only [Bool.and_eq_true,decide_eq_true_eq]
 omega
theorem eI {a:T3}:cK a=true ↔ 0<szF a.1/\(a.2.2.length:Int)=szF a.1/\(-64<=a.2.1/\a.2.1<=64) /\ -128∉a.2.2:=by
 unfold cK
 rw [Bool.and_eq_true,Bool.and_eq_true,Bool.and_eq_true,XQ (by omega) (by omega)]
 simp only [decide_eq_true_eq,beq_iff_eq,Bool.not_eq_true',decide_eq_false_iff_not]
 constructor
 ·rintro ⟨⟨⟨h1,h2⟩,h3⟩,h4⟩; exact ⟨h1,h2,h3,h4⟩
 ·rintro ⟨h1,h2,h3,h4⟩; exact ⟨⟨⟨h1,h2⟩,h3⟩,h4⟩
def iD:List Int->Int
 | []=>1
 | d::r=>d*iD r
theorem W5 : ∀ (l : List Int) (acc : Int), 1 <= acc -> acc <= 8192 -> 0 < qK acc l -> (∀ d ∈ l, 1 <= d /\ d <= 4096) /\ qK acc l = acc * iD l
  | [], acc, h, _, _ => ⟨by simp, by simp [qK, iD]⟩
  | d :: r, acc, h, h2, h3 => by
    unfold qK at h3 ⊢
    split at h3
    · omega
    · rename_i hn
      rw [if_neg hn]
      simp only [Bool.or_eq_true, decide_eq_true_eq, not_or] at hn
      have hb := A7 acc d 8192 4096 (by omega) (by omega) (by omega) (by omega) (by omega)
      have hw : IntKind.i64.wrap (acc * d) = acc * d := aA _ (by omega) (by omega)
      rw [hw] at h3 hn ⊢
      have hp : 1 <= acc * d := by
        have := Int.mul_pos (show 0 < acc by omega) (show 0 < d by omega)
        omega
      obtain ⟨g1, g2⟩ := W5 r (acc * d) hp (by omega) h3
      refine ⟨fun x hx => ?_, by rw [g2]; show _ = acc * (d * iD r); rw [Int.mul_assoc]⟩
      rcases List.mem_cons.1 hx with e | e
      · subst e; omega
      · exact g1 x e
theorem lD {l:List Int} (h:0<szF l):(1<=l.length/\l.length<=4)/\(∀ d∈l,1<=d/\d<=4096)/\szF l=iD l/\iD l<=8192:=by
 have hle:=GF l
 unfold szF at h hle ⊢
 split at h
 ·omega
 ·rename_i hn
  rw [if_neg hn] at hle ⊢
  simp only [Bool.or_eq_true,decide_eq_true_eq,not_or] at hn
  obtain ⟨g1,g2⟩:=W5 l 1 (by omega) (by omega) h
  rw [Int.one_mul] at g2
  exact ⟨by omega,g1,g2,by omega⟩
theorem SU : ∀ {l : List Int}, (∀ d ∈ l, 1 <= d) -> 1 <= iD l
  | [], _ => by simp [iD]
  | d :: r, h => by
    have h1 := h d (by simp)
    have h2 := SU (l := r) fun x hx => h x (by simp [hx])
    have := Int.mul_pos (show 0 < d by omega) (show 0 < iD r by omega)
    unfold iD; omega
theorem aBT : ∀ (l : List Int) (acc : Int), 1 <= acc -> (∀ d ∈ l, 1 <= d /\ d <= 4096) -> acc * iD l <= 8192 -> qK acc l = acc * iD l
  | [], acc, h, _, _ => by simp [qK, iD]
  | d :: r, acc, h, hd, h2 => by
    have h1 := hd d (by simp)
    have hr : ∀ x ∈ r, 1 <= x /\ x <= 4096 := fun x hx => hd x (by simp [hx])
    have hp := SU (l := r) fun x hx => (hr x hx).1
    have e : acc * iD (d :: r) = acc * d * iD r := by show acc * (d * iD r) = _; rw [Int.mul_assoc]
    rw [e] at h2 ⊢
    have h0 : 1 <= acc * d := by
      have := Int.mul_pos (show 0 < acc by omega) (show 0 < d by omega)
      omega
    have h3 : acc * d <= acc * d * iD r := by
      have := Int.mul_le_mul_of_nonneg_left (c := acc * d) hp (by omega)
      omega
    have hw : IntKind.i64.wrap (acc * d) = acc * d := aA _ (by omega) (by omega)
    unfold qK
    rw [hw, if_neg (by simp; omega)]
    exact aBT r (acc * d) h0 hr h2
theorem aA6 {l:List Int} (h1:1<=l.length/\l.length<=4) (hd:∀ d∈l,1<=d/\d<=4096) (h2:iD l<=8192):szF l=iD l:=by
 unfold szF
 rw [if_neg (by simp; omega),aBT l 1 (by omega) hd (by omega),Int.one_mul]
theorem BE (l : List Int) : 0 <= szF l := by
  rcases Int.lt_or_le (szF l) 0 with h | h
  · exfalso
    have key : ∀ (l : List Int) (acc : Int), 1 <= acc -> acc <= 8192 -> 0 <= qK acc l := by
      intro l
      induction l with
      | nil => intro acc h _; unfold qK; omega
      | cons d r ih =>
        intro acc h h2
        unfold qK
        split
        · omega
        · rename_i hn
          simp only [Bool.or_eq_true, decide_eq_true_eq, not_or] at hn
          have hb := A7 acc d 8192 4096 (by omega) (by omega) (by omega) (by omega) (by omega)
          have hw : IntKind.i64.wrap (acc * d) = acc * d := aA _ (by omega) (by omega)
          rw [hw] at hn ⊢
          have := Int.mul_pos (show 0 < acc by omega) (show 0 < d by omega)
          exact ih _ (by omega) (by omega)
    have := key l 1 (by omega) (by omega)
    unfold szF at h
    split at h <;> omega
  · exact h
theorem aCP {a b c d:Int} (h:0<szF [a,b,c,d]):∃ n m p q:Nat,a=n/\b=m/\c=p/\d=q/\1<=n/\1<=m/\1<=p/\1<=q/\n*m*p*q<=8192/\szF [a,b,c,d]=((n*m*p*q:Nat):Int):=by
 obtain ⟨_,h2,h3,h4⟩:=lD h
 have ha:=h2 a (by simp)
 have hb:=h2 b (by simp)
 have hc:=h2 c (by simp)
 have hd:=h2 d (by simp)
 obtain ⟨n,rfl⟩:=Int.eq_ofNat_of_zero_le (show 0<=a by omega)
 obtain ⟨m,rfl⟩:=Int.eq_ofNat_of_zero_le (show 0<=b by omega)
 obtain ⟨p,rfl⟩:=Int.eq_ofNat_of_zero_le (show 0<=c by omega)
 obtain ⟨q,rfl⟩:=Int.eq_ofNat_of_zero_le (show 0<=d by omega)
 have e:iD [(n:Int),m,p,q]=((n*m*p*q:Nat):Int):=by
  simp only [iD,Int.natCast_mul,Int.mul_one,Int.mul_assoc]
 rw [h3]
 rw [e] at h4 ⊢
 exact ⟨n,m,p,q,rfl,rfl,rfl,rfl,by omega,by omega,by omega,by omega,by omega,rfl⟩
theorem aEp {n m p q:Nat} (h1:1<=n/\n<=4096) (h2:1<=m/\m<=4096) (h3:1<=p/\p<=4096) (h4:1<=q/\q<=4096) (h:n*m*p*q<=8192):szF [(n:Int),m,p,q]=((n*m*p*q:Nat):Int):=by
 have e:iD [(n:Int),m,p,q]=((n*m*p*q:Nat):Int):=by
  simp only [iD,Int.natCast_mul,Int.mul_one,Int.mul_assoc]
 rw [aA6 (by simp) _ (by rw [e]; omega),e]
 intro d hd
 simp only [List.mem_cons,List.not_mem_nil,or_false] at hd
 omega
theorem aEz {c:Int} (h:0<szF [c]):1<=c/\c<=4096/\szF [c]=c:=by
 obtain ⟨_,h2,h3,h4⟩:=lD h
 have:=h2 c (by simp)
 have e:iD [c]=c:=by simp [iD]
 rw [h3,e]
 omega
theorem aE6 {c:Int} (h1:1<=c) (h2:c<=4096):szF [c]=c:=by
 have e:iD [c]=c:=by simp [iD]
 rw [aA6 (by simp) _ (by rw [e]; omega),e]
 intro d hd
 simp only [List.mem_cons,List.not_mem_nil,or_false] at hd
 omega
def C2 (a:Int):Int:=aM (-4611686018427387904) (bP a 4611686018427387904)
theorem aAv {a b c:Int} {Q:Int->Prop} (h:Q (aM b (bP a c))):iC a b c Q:=⟨h⟩
theorem V4 {a b c:Int} {Q:Int->Prop} (h:Q (aM b (bP a c))):fL a b c Q:=⟨h⟩
theorem aBX {a:Int} {Q:Int->Prop} (h:Q (C2 a)):pZ a Q:=⟨⟨h⟩⟩
theorem aEg {a:Int} (h1 : -4611686018427387904<=a) (h2:a<=4611686018427387904):C2 a=a:=by
 unfold C2 aM bP
 split <;> split <;> omega
def alF (a b c:Int):Int :=
 let r1:=C2 a
 let by_:=aM (-1000) (bP b 1000)-aM (-1000) (bP c 1000)
 if by_<0 then r1.fdiv (2 ^ (bP (0-by_) 62).toNat)
 else if 20<by_ then (if 0<r1 then 1048576 else if r1<0 then -1048576 else 0)
 else aM (-1048576) (bP (aM (-1048576) (bP r1 1048576)*2 ^ by_.toNat) 1048576)
theorem QL (a lo hi:Int) (h:lo<=hi):lo<=aM lo (bP a hi)/\aM lo (bP a hi)<=hi:=by
 unfold aM bP
 split <;> split <;> omega
theorem aBU (a b:Nat) (h:a<=b):(1:Int)<=2 ^ a/\(2:Int) ^ a<=2 ^ b:=by
 have h1:(2:Nat) ^ a<=2 ^ b:=Nat.pow_le_pow_right (by omega) h
 have h2:0<(2:Nat) ^ a:=Nat.pow_pos (by omega)
 have e:∀ n:Nat,((2 ^ n:Nat):Int)=2 ^ n:=fun n=>by rw [Int.natCast_pow]; rfl
 rw [<- e,<- e]
 omega
theorem aDO {a L U p:Int} (hp:1<=p) (hL:L<=0) (hU:0<=U) (h1:L<=a) (h2:a<=U):L<=a.fdiv p/\a.fdiv p<=U:=by
 rw [Int.fdiv_eq_ediv_of_nonneg _ (by omega)]
 constructor
 ·rw [Int.le_ediv_iff_mul_le (by omega)]
  have:L*p<=L*1:=Int.mul_le_mul_of_nonpos_left hL hp
  omega
 ·have:=Int.ediv_le_ediv (c:=p) (by omega) h2
  have:=Int.ediv_le_self (a:=U) p hU
  omega
theorem V0 {a b c:Int} (h : -128<=a/\a<=127) : -1048576<=alF a b c/\alF a b c<=1048576:=by
 unfold alF
 rw [aEg (by omega) (by omega)]
 simp only
 generalize aM (-1000) (bP b 1000)-aM (-1000) (bP c 1000)=y
 split
 ·have:=aDO (p:=2 ^ (bP (0-y) 62).toNat) (aBU _ _ (Nat.le_refl _)).1 (by omega) (by omega) h.1 h.2
  omega
 ·split
  ·split
   ·omega
   ·split <;> omega
  ·exact QL _ _ _ (by omega)
theorem aF0 {a b c : Int} {Q : Int -> Prop} (h : Q (alF a b c)) : p5 a b c Q := by
  refine ⟨?_⟩
  refine aBX (aAv (aAv ?_))
  unfold alF at h
  simp only at h
  have hb := QL b (-1000) 1000 (by omega)
  have hc := QL c (-1000) 1000 (by omega)
  generalize aM (-1000) (bP b 1000) = x at *
  generalize aM (-1000) (bP c 1000) = y at *
  rw [aA (x - y) (by omega) (by omega)]
  by_cases h1 : x - y < 0
  · rw [if_pos h1] at h
    rw [if_pos (by simpa using h1), aA (0 - (x - y)) (by omega) (by omega)]
    have hs : 0 <= bP (0 - (x - y)) 62 /\ bP (0 - (x - y)) 62 <= 62 := by unfold bP; split <;> omega
    refine ⟨hs.1, ?_⟩
    rw [show min (bP (0 - (x - y)) 62).toNat (IntKind.i64).bits = (bP (0 - (x - y)) 62).toNat from Nat.min_eq_left (by show _ <= 64; omega)]
    exact h
  · rw [if_neg h1] at h
    rw [if_neg (by simpa using h1)]
    by_cases h2 : 20 < x - y
    · rw [if_pos h2] at h
      by_cases h3 : 0 < C2 a
      · rw [if_pos h3] at h
        rw [if_pos (by simp [h2, h3])]
        exact h
      · rw [if_neg h3] at h
        rw [if_neg (by simp; omega)]
        by_cases h4 : C2 a < 0
        · rw [if_pos h4] at h
          rw [if_pos (by simp [h2, h4])]
          exact h
        · rw [if_neg h4] at h
          rw [if_neg (by simp; omega), if_pos (by simp [h2])]
          exact h
    · rw [if_neg h2] at h
      rw [if_neg (by simp; omega), if_neg (by simp; omega), if_neg (by simp; omega)]
      refine V4 ⟨by omega, V4 ?_⟩
      have hm := QL (C2 a) (-1048576) 1048576 (by omega)
      have hp := aBU (x - y).toNat 20 (by omega)
      have := A7 (aM (-1048576) (bP (C2 a) 1048576)) (2 ^ (x - y).toNat) 1048576 1048576 hm.1 hm.2 (by omega) hp.2 (by omega)
      rw [show min (x - y).toNat (IntKind.i64).bits = (x - y).toNat from Nat.min_eq_left (by show _ <= 64; omega)]
      rw [aA _ (by omega) (by omega)]
      exact h
def kL (n:Int):Bool:=(decide (0<=n)&&decide (n<=1023))&&decide (n*16384+1048576<16777216)
theorem P3 {n:Int} {Q:Bool->Prop} (h:Q (kL n)):pU n Q:=by
 refine ⟨?_⟩
 unfold kL at h
 by_cases h1:0<=n/\n<=1023
 ·rw [aA (n*16384) (by omega) (by omega),aA _ (by omega) (by omega)]
  exact h
 ·have e:(decide (0<=n)&&decide (n<=1023))=false:=by simp; omega
  rw [e] at h ⊢
  exact h
theorem aCU {n:Int}:kL n=true ↔ 0<=n/\n<=959:=by
 unfold kL
 simp only [Bool.and_eq_true,decide_eq_true_eq]
 omega
def p9 (d:List Int) (e n:Int):T3×Int :=
 if (!kL n)=true then (Z3,3)
 else if (decide (e < -128)||decide (128<e))=true then (Z3,3)
 else if (!decide (0<szF d))=true then (Z3,1)
 else ((d,(e,List.replicate (szF d).toNat 0)),0)
theorem NX {n e : Int} {d : List Int} {Q : T3 × Int -> Prop} (h : Q (p9 d e n)) : sH n e d Q := by
  refine ⟨?_⟩
  refine P3 ?_
  unfold p9 at h
  by_cases h1 : (!kL n) = true
  · rw [if_pos h1] at h; rw [if_pos (by rw [h1]; rfl)]; exact h
  · rw [if_neg h1] at h
    by_cases h2 : (decide (e < -128) || decide (128 < e)) = true
    · rw [if_pos h2] at h
      rw [if_pos (by simp only [Bool.or_eq_true, decide_eq_true_eq] at h2 ⊢; rcases h2 with h2 | h2 <;> simp [h2])]
      exact h
    · rw [if_neg h2] at h
      rw [if_neg (by simp only [Bool.or_eq_true, decide_eq_true_eq, not_or] at h1 h2 ⊢; exact ⟨⟨h1, h2.2⟩, h2.1⟩)]
      refine EB ?_
      by_cases h3 : (!decide (0 < szF d)) = true
      · rw [if_pos h3] at h ⊢; exact h
      · rw [if_neg h3] at h ⊢
        have := GF d
        have := BE d
        exact C6 ⟨⟨by omega, by omega⟩, h⟩
theorem vE {d : List Int} {e n : Int} (h : (p9 d e n).2 = 0) : kL n = true /\ (-128 <= e /\ e <= 128) /\ 0 < szF d /\ p9 d e n = ((d, (e, List.replicate (szF d).toNat 0)), 0) := by
  unfold p9 at h ⊢
  split at h
  · cases h
  · split at h
    · cases h
    · split at h
      · cases h
      · rename_i h1 h2 h3
        rw [if_neg h1, if_neg h2, if_neg h3]
        simp at h1 h2 h3
        exact ⟨h1, by omega, by omega, rfl⟩
def jE (l:List T3):Int:=if l.all cK=true then (if l.all (fun t=>(t.1.length:Int)==4)=true then 0 else 2) else 1
theorem UT {l : List T3} {Q : Int -> Prop} (hl : l.length <= 1000000) (h : Q (jE l)) : zF l Q := by
  refine ⟨?_⟩
  unfold jE at h
  refine ⟨?_⟩
  refine Loop.all (B := sU l (l.length : Int) _ _) l cK (K0 := Q (if l.all (fun t => (t.1.length : Int) == 4) = true then 0 else 2)) (K1 := Q 1) ?_ ?_ ?_
  · intro i hi X hX hK
    unfold sU
    rw [if_pos (by simpa using hi)]
    refine ⟨by omega, kG ?_⟩
    simp only [Int.toNat_natCast]
    have hg : l.getD i ([], 0, []) = l[i] := by rw [List.getD_eq_getElem?_getD, List.getElem?_eq_getElem hi]; rfl
    rw [hg]
    by_cases hm : cK l[i] = true
    · rw [if_neg (by simp [hm]), aA _ (by omega) (by omega)]
      exact hX hm
    · have hm : cK l[i] = false := by simpa using hm
      rw [if_pos (by simp [hm])]
      exact hK hm
  · intro hK X
    unfold sU
    rw [if_neg (by simp)]
    refine ⟨?_⟩
    refine Loop.all (B := sW l (l.length : Int) _ _) l (fun t => (t.1.length : Int) == 4) (K0 := Q 0) (K1 := Q 2) ?_ ?_ ?_
    · intro i hi X hX hK
      unfold sW
      rw [if_pos (by simpa using hi)]
      refine ⟨by omega, ?_⟩
      simp only [Int.toNat_natCast]
      have hg : l.getD i ([], 0, []) = l[i] := by rw [List.getD_eq_getElem?_getD, List.getElem?_eq_getElem hi]; rfl
      rw [hg]
      unfold bne
      by_cases hm : ((l[i].1.length : Int) == 4) = true
      · rw [if_neg (by simp [hm]), aA _ (by omega) (by omega)]
        exact hX hm
      · have hm : ((l[i].1.length : Int) == 4) = false := by simpa using hm
        rw [if_pos (by simp [hm])]
        exact hK hm
    · intro hK X
      unfold sW
      rw [if_neg (by simp)]
      exact hK
    · split <;> rename_i hh <;> simp only [hh] at hK <;> simpa using hK
  · split <;> rename_i hh <;> simp only [hh] at h <;> simpa using h
theorem aAF {a b k s p:Int} {Q:((Int×Int×Int×Int×Int×Int×Int)×Bool)->Prop} (h:Q ((a,(b,(k,(s,(p,(aL a k s p,aL b k s p)))))),(decide (0<aL a k s p))&&(decide (0<aL b k s p)))):zA a b k s p Q:=by
 refine ⟨?_⟩
 exact FP (FP h)
end Go.Proofs.YtcfpfefadlnmcaaGreat
