/- Part of the proof. No condition. -/
import Derived.Test.YtcfpfefadlnmcaaGreatZ36
import Derived.Test.YtcfpfefadlnmcaaGreatProg
import Derived.KernelRfl
import Derived.Test.YtcfpfefadlnmcaaGreatYVJoin
import GoSem.Core.Float
import Derived.Laws.ComplexArith
import Derived.Test.YtcfpfefadlnmcaaGreatYVArg
namespace Go.Proofs.YtcfpfefadlnmcaaGreat
open Go.Mach
set_option maxRecDepth 100000
set_option linter.unusedVariables false
noncomputable section
def lG (x0 x1 x2:Int)(x5 x8:List Int)(x9 x11:Int)(K0:Int->Prop)(s:Int×Int)(nx:(Int×Int)->Prop):Prop :=
 if (decide (s.2<x11))=true then ck ((0:Int)<=(IntKind.i64.wrap ((IntKind.i64.wrap (x0*x2))+s.2))/\(IntKind.i64.wrap ((IntKind.i64.wrap (x0*x2))+s.2))<(x5.length:Int)) (ck ((0:Int)<=(IntKind.i64.wrap ((IntKind.i64.wrap (s.2*x9))+x1))/\(IntKind.i64.wrap ((IntKind.i64.wrap (s.2*x9))+x1))<(x8.length:Int)) (nx (IntKind.i64.wrap (s.1+(IntKind.i64.wrap ((IntKind.i64.wrap (x5.getD ((IntKind.i64.wrap ((IntKind.i64.wrap (x0*x2))+s.2)).toNat) 0))*(IntKind.i64.wrap (x8.getD ((IntKind.i64.wrap ((IntKind.i64.wrap (s.2*x9))+x1)).toNat) 0))))),IntKind.i64.wrap (s.2+1))))else K0 s.1
structure yS (x0 x1 x2:Int)(x5 x8:List Int)(x9 x11:Int)(K0:Int->Prop)(s:Int×Int):Prop where
 it:Go.Mach.Loop (lG x0 x1 x2 x5 x8 x9 x11 K0) s
structure sW (a0 a1 a2:Int)(a3:List Int)(a4:Int)(a5 a6:List Int)(a7:Int)(a8:List Int)(a9:Int)(Q:Int->Prop):Prop where
 it:yS a0 a1 a2 a5 a8 a9 a2 (fun y1=>Q y1) (0,0)
def JK:Ent:=⟨[0,1,2,3,4,5,9,11,12],[sI,sI,.bx [lI],.bx [lZ (.int .i64),lI,lZ (.int .i8)],.bx [lZ (.int .i64),lI,lZ (.int .i8)],.bx [lI],sI,sI,sI],[],fun⟨⟨a,b,⟨c,_⟩,⟨_,_,f,_⟩,⟨_,_,j,_⟩,⟨l,_⟩,m,n,o,_⟩,_⟩ k=>yS a b c f j l n (fun y2=>k (.exit 0) ⟨[(9,vI y2)],[]⟩) (m,o)⟩
def NL:=CV.put tt 179 Tryz.func179 [8] [] [(58,JK)] [sI,sI,.bx [lI],.bx [lZ (.int .i64),lI,lZ (.int .i8)],.bx [lZ (.int .i64),lI,lZ (.int .i8)],.bx [lI]] [] [(false,(.int .i64))] (fun x=>sW x.1 x.2.1 x.2.2.1.1 x.2.2.2.1.1 x.2.2.2.1.2.1 x.2.2.2.1.2.2.1 x.2.2.2.2.1.1 x.2.2.2.2.1.2.1 x.2.2.2.2.1.2.2.1 x.2.2.2.2.2.1.1) ⟨fun _ _ hs ⟨⟨a,b,⟨c,_⟩,⟨d,e,f,_⟩,⟨g,i,j,_⟩,⟨l,_⟩,m,n,o,_⟩,_⟩ _ h=>aD hs (fun y=>⟨⟨a,b,⟨c,()⟩,⟨d,e,f,()⟩,⟨g,i,j,()⟩,⟨l,()⟩,y.1,n,y.2,()⟩,()⟩) (m,o) h.it,trivial⟩ fun _ _ h=>⟨_,h.it,by kernel_rfl⟩
def f7 (x1:Int)(x2:List Int)(x3:Int)(x4 x5:List Int)(x6:Int)(x7:List Int)(x8 x9 x12:Int)(K0:(List Int)->Prop)(s:Int×List Int)(nx:(Int×List Int)->Prop):Prop :=
 if (decide (s.1<x12))=true then sW x9 s.1 x1 x2 x3 x4 x5 x6 x7 x8 (fun r6=>ck ((s.2.length+[IntKind.i32.wrap r6].length)*4<=140737488355328) (nx (IntKind.i64.wrap (s.1+1),s.2++[IntKind.i32.wrap r6])))else K0 s.2
structure l4 (x1:Int)(x2:List Int)(x3:Int)(x4 x5:List Int)(x6:Int)(x7:List Int)(x8 x9 x12:Int)(K0:(List Int)->Prop)(s:Int×List Int):Prop where
 it:Go.Mach.Loop (f7 x1 x2 x3 x4 x5 x6 x7 x8 x9 x12 K0) s
def dP (x0 x1:Int)(x2:List Int)(x3:Int)(x4 x5:List Int)(x6:Int)(x7:List Int)(x8 x9:Int)(K0:(List Int)->Prop)(s:Int×List Int)(nx:(Int×List Int)->Prop):Prop :=
 if (decide (s.1<x9))=true then l4 x1 x2 x3 x4 x5 x6 x7 x8 s.1 x0 (fun y6=>nx (IntKind.i64.wrap (s.1+1),y6)) (0,s.2)else K0 s.2
structure lX (x0 x1:Int)(x2:List Int)(x3:Int)(x4 x5:List Int)(x6:Int)(x7:List Int)(x8 x9:Int)(K0:(List Int)->Prop)(s:Int×List Int):Prop where
 it:Go.Mach.Loop (dP x0 x1 x2 x3 x4 x5 x6 x7 x8 x9 K0) s
structure jG (a0 a1 a2 a3 a4:Int)(a5:List Int)(a6:Int)(a7 a8:List Int)(a9:Int)(a10:List Int)(a11:Int)(Q:(uT×Int)->Prop):Prop where
 it:pW a2 (fun r1=>if (((!r1)||(decide (128<a3)))||(decide (a3<(-128))))=true then Q ((([]:List Int),(0,([]:List Int))),3)else fY [a0,a1] (fun r2=>if (!r2)=true then Q ((([]:List Int),(0,([]:List Int))),1)else lX a1 a4 a5 a6 a7 a8 a9 a10 a11 a0 (fun y7=>Q (([a0,a1],(a3,y7)),0)) (0,([]:List Int))))
def tR:Ent:=⟨[1,4,10,12,39,40],[sI,.fn 179 [.bx [lI],.bx [lZ (.int .i64),lI,lZ (.int .i8)],.bx [lZ (.int .i64),lI,lZ (.int .i8)],.bx [lI]],sC (.ptr 0 0),sC (.ptr 1 0),sI,sI],[.box [.cst (.pl (.slice none 0 0)),lI,.cst (.pl (.slice none 0 0))] false,.box [.cst (.own 2),lI,.cst (.pl (.slice none 0 0))] false,.lst true (.int .i64) false],fun⟨⟨a,⟨⟨b,_⟩,⟨c,d,e,_⟩,⟨f,g,i,_⟩,⟨j,_⟩,_⟩,_,_,l,m,_⟩,⟨⟨_,n,_⟩,⟨_,o,_⟩,p,_⟩⟩ k=>lX a b c d e f g i j l (fun y8=>k (.exit 1) ⟨[(10,.ptr 0 0),(12,.ptr 1 0)],[.box [.pl (.slice none 0 0),vI n,.pl (.slice none 0 0)] false,.box [.own 2,vI o,.own 3] false,.lst true (.int .i64) p false,.lst true (.int .i32) y8 false]⟩) (m,([]:List Int))⟩
def t5:Ent:=⟨[1,4,10,12,13,39,40,43,44],[sI,.fn 179 [.bx [lI],.bx [lZ (.int .i64),lI,lZ (.int .i8)],.bx [lZ (.int .i64),lI,lZ (.int .i8)],.bx [lI]],sC (.ptr 0 0),sC (.ptr 1 0),sI,sI,sI,sI,sI],[.box [.cst (.pl (.slice none 0 0)),lI,.cst (.pl (.slice none 0 0))] false,.box [.cst (.own 2),lI,.cst (.own 3)] false,.lst true (.int .i64) false,.lst true (.int .i32) false],fun⟨⟨a,⟨⟨b,_⟩,⟨c,d,e,_⟩,⟨f,g,i,_⟩,⟨j,_⟩,_⟩,_,_,l,m,n,o,p,_⟩,⟨⟨_,q,_⟩,⟨_,t,_⟩,u,w,_⟩⟩ k=>l4 b c d e f g i j l o (fun y9=>k (.exit 3) ⟨[(1,vI a),(4,.fn 179 [.bx [vI b] 0,.bx [vZ (.int .i64) c,vI d,vZ (.int .i8) e] 0,.bx [vZ (.int .i64) f,vI g,vZ (.int .i8) i] 0,.bx [vI j] 0]),(10,.ptr 0 0),(12,.ptr 1 0),(39,vI m),(40,vI n)],[.box [.pl (.slice none 0 0),vI q,.pl (.slice none 0 0)] false,.box [.own 2,vI t,.own 3] false,.lst true (.int .i64) u false,.lst true (.int .i32) y9 false]⟩) (p,w)⟩
def uV:=NL.putX tt 156 Tryz.func156 [10,11] [(122,[⟨12,some 2,false,(.int .i32)⟩]),(31334,[⟨12,some 2,false,(.int .i32)⟩])] [(122,tR),(31334,t5)] [sI,sI,sI,sI,.fn 179 [.bx [lI],.bx [lZ (.int .i64),lI,lZ (.int .i8)],.bx [lZ (.int .i64),lI,lZ (.int .i8)],.bx [lI]]] [] [(true,wL),(false,(.int .i64))] (fun x=>jG x.1 x.2.1 x.2.2.1 x.2.2.2.1 x.2.2.2.2.1.1.1 x.2.2.2.2.1.2.1.1 x.2.2.2.2.1.2.1.2.1 x.2.2.2.2.1.2.1.2.2.1 x.2.2.2.2.1.2.2.1.1 x.2.2.2.2.1.2.2.1.2.1 x.2.2.2.2.1.2.2.1.2.2.1 x.2.2.2.2.1.2.2.2.1.1) [179] none false 0 hI0 ⟨fun _ _ hs ⟨⟨a,⟨⟨b,_⟩,⟨c,d,e,_⟩,⟨f,g,i,_⟩,⟨j,_⟩,_⟩,_,_,l,m,_⟩,⟨⟨_,n,_⟩,⟨_,o,_⟩,p,_⟩⟩ _ h=>dV hs (fun y=>⟨[(1,vI a),(4,.fn 179 [.bx [vI b] 0,.bx [vZ (.int .i64) c,vI d,vZ (.int .i8) e] 0,.bx [vZ (.int .i64) f,vI g,vZ (.int .i8) i] 0,.bx [vI j] 0]),(10,.ptr 0 0),(12,.ptr 1 0),(39,vI l),(40,vI y.1)],[.box [.pl (.slice none 0 0),vI n,.pl (.slice none 0 0)] false,.box [.own 2,vI o,.own 3] false,.lst true (.int .i64) p false,.lst true (.int .i32) y.2 false]⟩) (m,([]:List Int)) h.it,fun _ _ hs ⟨⟨a,⟨⟨b,_⟩,⟨c,d,e,_⟩,⟨f,g,i,_⟩,⟨j,_⟩,_⟩,_,_,l,m,n,o,p,_⟩,⟨⟨_,q,_⟩,⟨_,t,_⟩,u,w,_⟩⟩ _ h=>aD hs (fun y=>⟨⟨a,⟨⟨b,()⟩,⟨c,d,e,()⟩,⟨f,g,i,()⟩,⟨j,()⟩,()⟩,(),(),l,m,n,o,y.1,()⟩,⟨⟨(),q,(),()⟩,⟨(),t,(),()⟩,u,y.2,()⟩⟩) (p,w) h.it,trivial⟩ fun _ _ h=>⟨_,h.it,by kernel_rfl⟩
structure DE (a0 a1:bS)(Q:(uT×Int)->Prop):Prop where
 it:u0 2 [a0,a1] (fun r1=>if (r1 != 0)=true then Q ((([]:List Int),(0,([]:List Int))),r1)else ck ((0:Int)<=0/\0<(a0.1.length:Int)) (ck ((0:Int)<=1/\1<(a0.1.length:Int)) (ck ((0:Int)<=1/\1<(a1.1.length:Int)) (ck ((0:Int)<=0/\0<(a1.1.length:Int)) (if ((a1.1.getD 0 0) != (a0.1.getD 1 0))=true then Q ((([]:List Int),(0,([]:List Int))),2)else jG (a0.1.getD 0 0) (a1.1.getD 1 0) (a0.1.getD 1 0) (IntKind.i64.wrap (a0.2.1+a1.2.1)) (a0.1.getD 1 0) a0.1 a0.2.1 a0.2.2 a1.1 a1.2.1 a1.2.2 (a1.1.getD 1 0) (fun r2=>Q (r2.1,r2.2)))))))
def R5:=uV.put tt 137 Tryz.func137 [4,5] [] [] [.agg [lZ (.int .i64),lI,lZ (.int .i8)],.agg [lZ (.int .i64),lI,lZ (.int .i8)]] [] [(true,wL),(false,(.int .i64))] (fun x=>DE (x.1.1,(x.1.2.1,x.1.2.2.1)) (x.2.1.1,(x.2.1.2.1,x.2.1.2.2.1))) trivial fun _ _ h=>⟨_,h.it,by kernel_rfl⟩
def kC (x0 x1:Int)(x4:List Int)(x5:Int)(x8:List Int)(x9 x11:Int)(K0:Int->Prop)(s:Int×Int)(nx:(Int×Int)->Prop):Prop :=
 if (decide (s.2<x11))=true then ck ((0:Int)<=(IntKind.i64.wrap ((IntKind.i64.wrap (s.2*x5))+x0))/\(IntKind.i64.wrap ((IntKind.i64.wrap (s.2*x5))+x0))<(x4.length:Int)) (ck ((0:Int)<=(IntKind.i64.wrap ((IntKind.i64.wrap (s.2*x9))+x1))/\(IntKind.i64.wrap ((IntKind.i64.wrap (s.2*x9))+x1))<(x8.length:Int)) (nx (IntKind.i64.wrap (s.1+(IntKind.i64.wrap ((IntKind.i64.wrap (x4.getD ((IntKind.i64.wrap ((IntKind.i64.wrap (s.2*x5))+x0)).toNat) 0))*(IntKind.i64.wrap (x8.getD ((IntKind.i64.wrap ((IntKind.i64.wrap (s.2*x9))+x1)).toNat) 0))))),IntKind.i64.wrap (s.2+1))))else K0 s.1
structure wW (x0 x1:Int)(x4:List Int)(x5:Int)(x8:List Int)(x9 x11:Int)(K0:Int->Prop)(s:Int×Int):Prop where
 it:Go.Mach.Loop (kC x0 x1 x4 x5 x8 x9 x11 K0) s
structure qX (a0 a1 a2:Int)(a3:List Int)(a4:Int)(a5:List Int)(a6:Int)(a7:List Int)(a8:Int)(a9:List Int)(a10:Int)(Q:Int->Prop):Prop where
 it:wW a0 a1 a5 a6 a9 a10 a2 (fun y1=>Q y1) (0,0)
def IE:Ent:=⟨[0,1,3,4,5,6,10,12,13],[sI,sI,.bx [lZ (.int .i64),lI,lZ (.int .i8)],.bx [lI],.bx [lZ (.int .i64),lI,lZ (.int .i8)],.bx [lI],sI,sI,sI],[],fun⟨⟨a,b,⟨_,_,e,_⟩,⟨f,_⟩,⟨_,_,j,_⟩,⟨l,_⟩,m,n,o,_⟩,_⟩ k=>wW a b e f j l n (fun y2=>k (.exit 0) ⟨[(10,vI y2)],[]⟩) (m,o)⟩
def J0:=R5.put tt 176 Tryz.func176 [9] [] [(58,IE)] [sI,sI,.bx [lI],.bx [lZ (.int .i64),lI,lZ (.int .i8)],.bx [lI],.bx [lZ (.int .i64),lI,lZ (.int .i8)],.bx [lI]] [] [(false,(.int .i64))] (fun x=>qX x.1 x.2.1 x.2.2.1.1 x.2.2.2.1.1 x.2.2.2.1.2.1 x.2.2.2.1.2.2.1 x.2.2.2.2.1.1 x.2.2.2.2.2.1.1 x.2.2.2.2.2.1.2.1 x.2.2.2.2.2.1.2.2.1 x.2.2.2.2.2.2.1.1) ⟨fun _ _ hs ⟨⟨a,b,⟨c,d,e,_⟩,⟨f,_⟩,⟨g,i,j,_⟩,⟨l,_⟩,m,n,o,_⟩,_⟩ _ h=>aD hs (fun y=>⟨⟨a,b,⟨c,d,e,()⟩,⟨f,()⟩,⟨g,i,j,()⟩,⟨l,()⟩,y.1,n,y.2,()⟩,()⟩) (m,o) h.it,trivial⟩ fun _ _ h=>⟨_,h.it,by kernel_rfl⟩
def fQ (x1:Int)(x2:List Int)(x3:Int)(x4:List Int)(x5:Int)(x6:List Int)(x7:Int)(x8:List Int)(x9 x10 x13:Int)(K0:(List Int)->Prop)(s:Int×List Int)(nx:(Int×List Int)->Prop):Prop :=
 if (decide (s.1<x13))=true then qX x10 s.1 x1 x2 x3 x4 x5 x6 x7 x8 x9 (fun r6=>ck ((s.2.length+[IntKind.i32.wrap r6].length)*4<=140737488355328) (nx (IntKind.i64.wrap (s.1+1),s.2++[IntKind.i32.wrap r6])))else K0 s.2
structure kQ (x1:Int)(x2:List Int)(x3:Int)(x4:List Int)(x5:Int)(x6:List Int)(x7:Int)(x8:List Int)(x9 x10 x13:Int)(K0:(List Int)->Prop)(s:Int×List Int):Prop where
 it:Go.Mach.Loop (fQ x1 x2 x3 x4 x5 x6 x7 x8 x9 x10 x13 K0) s
def dI (x0 x1:Int)(x2:List Int)(x3:Int)(x4:List Int)(x5:Int)(x6:List Int)(x7:Int)(x8:List Int)(x9 x10:Int)(K0:(List Int)->Prop)(s:Int×List Int)(nx:(Int×List Int)->Prop):Prop :=
 if (decide (s.1<x10))=true then kQ x1 x2 x3 x4 x5 x6 x7 x8 x9 s.1 x0 (fun y6=>nx (IntKind.i64.wrap (s.1+1),y6)) (0,s.2)else K0 s.2
structure kT (x0 x1:Int)(x2:List Int)(x3:Int)(x4:List Int)(x5:Int)(x6:List Int)(x7:Int)(x8:List Int)(x9 x10:Int)(K0:(List Int)->Prop)(s:Int×List Int):Prop where
 it:Go.Mach.Loop (dI x0 x1 x2 x3 x4 x5 x6 x7 x8 x9 x10 K0) s
structure iY (a0 a1 a2 a3 a4:Int)(a5:List Int)(a6:Int)(a7:List Int)(a8:Int)(a9:List Int)(a10:Int)(a11:List Int)(a12:Int)(Q:(uT×Int)->Prop):Prop where
 it:pW a2 (fun r1=>if (((!r1)||(decide (128<a3)))||(decide (a3<(-128))))=true then Q ((([]:List Int),(0,([]:List Int))),3)else fY [a0,a1] (fun r2=>if (!r2)=true then Q ((([]:List Int),(0,([]:List Int))),1)else kT a1 a4 a5 a6 a7 a8 a9 a10 a11 a12 a0 (fun y7=>Q (([a0,a1],(a3,y7)),0)) (0,([]:List Int))))
def tI:Ent:=⟨[1,4,10,12,39,40],[sI,.fn 176 [.bx [lI],.bx [lZ (.int .i64),lI,lZ (.int .i8)],.bx [lI],.bx [lZ (.int .i64),lI,lZ (.int .i8)],.bx [lI]],sC (.ptr 0 0),sC (.ptr 1 0),sI,sI],[.box [.cst (.pl (.slice none 0 0)),lI,.cst (.pl (.slice none 0 0))] false,.box [.cst (.own 2),lI,.cst (.pl (.slice none 0 0))] false,.lst true (.int .i64) false],fun⟨⟨a,⟨⟨b,_⟩,⟨c,d,e,_⟩,⟨f,_⟩,⟨g,i,j,_⟩,⟨l,_⟩,_⟩,_,_,m,n,_⟩,⟨⟨_,o,_⟩,⟨_,p,_⟩,q,_⟩⟩ k=>kT a b c d e f g i j l m (fun y8=>k (.exit 1) ⟨[(10,.ptr 0 0),(12,.ptr 1 0)],[.box [.pl (.slice none 0 0),vI o,.pl (.slice none 0 0)] false,.box [.own 2,vI p,.own 3] false,.lst true (.int .i64) q false,.lst true (.int .i32) y8 false]⟩) (n,([]:List Int))⟩
def s7:Ent:=⟨[1,4,10,12,13,39,40,43,44],[sI,.fn 176 [.bx [lI],.bx [lZ (.int .i64),lI,lZ (.int .i8)],.bx [lI],.bx [lZ (.int .i64),lI,lZ (.int .i8)],.bx [lI]],sC (.ptr 0 0),sC (.ptr 1 0),sI,sI,sI,sI,sI],[.box [.cst (.pl (.slice none 0 0)),lI,.cst (.pl (.slice none 0 0))] false,.box [.cst (.own 2),lI,.cst (.own 3)] false,.lst true (.int .i64) false,.lst true (.int .i32) false],fun⟨⟨a,⟨⟨b,_⟩,⟨c,d,e,_⟩,⟨f,_⟩,⟨g,i,j,_⟩,⟨l,_⟩,_⟩,_,_,m,n,o,p,q,_⟩,⟨⟨_,t,_⟩,⟨_,u,_⟩,w,z,_⟩⟩ k=>kQ b c d e f g i j l m p (fun y9=>k (.exit 3) ⟨[(1,vI a),(4,.fn 176 [.bx [vI b] 0,.bx [vZ (.int .i64) c,vI d,vZ (.int .i8) e] 0,.bx [vI f] 0,.bx [vZ (.int .i64) g,vI i,vZ (.int .i8) j] 0,.bx [vI l] 0]),(10,.ptr 0 0),(12,.ptr 1 0),(39,vI n),(40,vI o)],[.box [.pl (.slice none 0 0),vI t,.pl (.slice none 0 0)] false,.box [.own 2,vI u,.own 3] false,.lst true (.int .i64) w false,.lst true (.int .i32) y9 false]⟩) (q,z)⟩
def tZ:=J0.putX tt 156 Tryz.func156 [10,11] [(122,[⟨12,some 2,false,(.int .i32)⟩]),(31334,[⟨12,some 2,false,(.int .i32)⟩])] [(122,tI),(31334,s7)] [sI,sI,sI,sI,.fn 176 [.bx [lI],.bx [lZ (.int .i64),lI,lZ (.int .i8)],.bx [lI],.bx [lZ (.int .i64),lI,lZ (.int .i8)],.bx [lI]]] [] [(true,wL),(false,(.int .i64))] (fun x=>iY x.1 x.2.1 x.2.2.1 x.2.2.2.1 x.2.2.2.2.1.1.1 x.2.2.2.2.1.2.1.1 x.2.2.2.2.1.2.1.2.1 x.2.2.2.2.1.2.1.2.2.1 x.2.2.2.2.1.2.2.1.1 x.2.2.2.2.1.2.2.2.1.1 x.2.2.2.2.1.2.2.2.1.2.1 x.2.2.2.2.1.2.2.2.1.2.2.1 x.2.2.2.2.1.2.2.2.2.1.1) [176] none false 0 hI0 ⟨fun _ _ hs ⟨⟨a,⟨⟨b,_⟩,⟨c,d,e,_⟩,⟨f,_⟩,⟨g,i,j,_⟩,⟨l,_⟩,_⟩,_,_,m,n,_⟩,⟨⟨_,o,_⟩,⟨_,p,_⟩,q,_⟩⟩ _ h=>dV hs (fun y=>⟨[(1,vI a),(4,.fn 176 [.bx [vI b] 0,.bx [vZ (.int .i64) c,vI d,vZ (.int .i8) e] 0,.bx [vI f] 0,.bx [vZ (.int .i64) g,vI i,vZ (.int .i8) j] 0,.bx [vI l] 0]),(10,.ptr 0 0),(12,.ptr 1 0),(39,vI m),(40,vI y.1)],[.box [.pl (.slice none 0 0),vI o,.pl (.slice none 0 0)] false,.box [.own 2,vI p,.own 3] false,.lst true (.int .i64) q false,.lst true (.int .i32) y.2 false]⟩) (n,([]:List Int)) h.it,fun _ _ hs ⟨⟨a,⟨⟨b,_⟩,⟨c,d,e,_⟩,⟨f,_⟩,⟨g,i,j,_⟩,⟨l,_⟩,_⟩,_,_,m,n,o,p,q,_⟩,⟨⟨_,t,_⟩,⟨_,u,_⟩,w,z,_⟩⟩ _ h=>aD hs (fun y=>⟨⟨a,⟨⟨b,()⟩,⟨c,d,e,()⟩,⟨f,()⟩,⟨g,i,j,()⟩,⟨l,()⟩,()⟩,(),(),m,n,o,p,y.1,()⟩,⟨⟨(),t,(),()⟩,⟨(),u,(),()⟩,w,y.2,()⟩⟩) (q,z) h.it,trivial⟩ fun _ _ h=>⟨_,h.it,by kernel_rfl⟩
structure AY (a0 a1:bS)(Q:(uT×Int)->Prop):Prop where
 it:u0 2 [a0,a1] (fun r1=>if (r1 != 0)=true then Q ((([]:List Int),(0,([]:List Int))),r1)else ck ((0:Int)<=0/\0<(a0.1.length:Int)) (ck ((0:Int)<=1/\1<(a0.1.length:Int)) (ck ((0:Int)<=1/\1<(a1.1.length:Int)) (ck ((0:Int)<=0/\0<(a1.1.length:Int)) (if ((a1.1.getD 0 0) != (a0.1.getD 0 0))=true then Q ((([]:List Int),(0,([]:List Int))),2)else iY (a0.1.getD 1 0) (a1.1.getD 1 0) (a0.1.getD 0 0) (IntKind.i64.wrap (a0.2.1+a1.2.1)) (a0.1.getD 0 0) a0.1 a0.2.1 a0.2.2 (a0.1.getD 1 0) a1.1 a1.2.1 a1.2.2 (a1.1.getD 1 0) (fun r2=>Q (r2.1,r2.2)))))))
def O1:=tZ.put tt 132 Tryz.func132 [4,5] [] [] [.agg [lZ (.int .i64),lI,lZ (.int .i8)],.agg [lZ (.int .i64),lI,lZ (.int .i8)]] [] [(true,wL),(false,(.int .i64))] (fun x=>AY (x.1.1,(x.1.2.1,x.1.2.2.1)) (x.2.1.1,(x.2.1.2.1,x.2.1.2.2.1))) trivial fun _ _ h=>⟨_,h.it,by kernel_rfl⟩
def mI (x0:Int)(x3:List Int)(x4 x6:Int)(K0:Int->Prop)(s:Int×Int)(nx:(Int×Int)->Prop):Prop :=
 if (decide (s.2<x6))=true then ck ((0:Int)<=(IntKind.i64.wrap ((IntKind.i64.wrap (s.2*x4))+x0))/\(IntKind.i64.wrap ((IntKind.i64.wrap (s.2*x4))+x0))<(x3.length:Int)) (nx (IntKind.i64.wrap (s.1+(IntKind.i64.wrap (x3.getD ((IntKind.i64.wrap ((IntKind.i64.wrap (s.2*x4))+x0)).toNat) 0))),IntKind.i64.wrap (s.2+1)))else K0 s.1
structure BW (x0:Int)(x3:List Int)(x4 x6:Int)(K0:Int->Prop)(s:Int×Int):Prop where
 it:Go.Mach.Loop (mI x0 x3 x4 x6 K0) s
structure uL (a0 a1 a2:Int)(a3:List Int)(a4:Int)(a5:List Int)(a6:Int)(Q:Int->Prop):Prop where
 it:BW a1 a5 a6 a2 (fun y1=>Q y1) (0,0)
def MV:Ent:=⟨[1,3,4,8,10,11],[sI,.bx [lZ (.int .i64),lI,lZ (.int .i8)],.bx [lI],sI,sI,sI],[],fun⟨⟨a,⟨_,_,d,_⟩,⟨e,_⟩,f,g,i,_⟩,_⟩ k=>BW a d e g (fun y2=>k (.exit 0) ⟨[(8,vI y2)],[]⟩) (f,i)⟩
def RA:=O1.put tt 177 Tryz.func177 [7] [] [(58,MV)] [sI,sI,.bx [lI],.bx [lZ (.int .i64),lI,lZ (.int .i8)],.bx [lI]] [] [(false,(.int .i64))] (fun x=>uL x.1 x.2.1 x.2.2.1.1 x.2.2.2.1.1 x.2.2.2.1.2.1 x.2.2.2.1.2.2.1 x.2.2.2.2.1.1) ⟨fun _ _ hs ⟨⟨a,⟨b,c,d,_⟩,⟨e,_⟩,f,g,i,_⟩,_⟩ _ h=>aD hs (fun y=>⟨⟨a,⟨b,c,d,()⟩,⟨e,()⟩,y.1,g,y.2,()⟩,()⟩) (f,i) h.it,trivial⟩ fun _ _ h=>⟨_,h.it,by kernel_rfl⟩
def gS (x1:Int)(x2:List Int)(x3:Int)(x4:List Int)(x5 x6 x9:Int)(K0:(List Int)->Prop)(s:Int×List Int)(nx:(Int×List Int)->Prop):Prop :=
 if (decide (s.1<x9))=true then uL x6 s.1 x1 x2 x3 x4 x5 (fun r6=>ck ((s.2.length+[IntKind.i32.wrap r6].length)*4<=140737488355328) (nx (IntKind.i64.wrap (s.1+1),s.2++[IntKind.i32.wrap r6])))else K0 s.2
structure mQ (x1:Int)(x2:List Int)(x3:Int)(x4:List Int)(x5 x6 x9:Int)(K0:(List Int)->Prop)(s:Int×List Int):Prop where
 it:Go.Mach.Loop (gS x1 x2 x3 x4 x5 x6 x9 K0) s
def dT (x0 x1:Int)(x2:List Int)(x3:Int)(x4:List Int)(x5 x6:Int)(K0:(List Int)->Prop)(s:Int×List Int)(nx:(Int×List Int)->Prop):Prop :=
 if (decide (s.1<x6))=true then mQ x1 x2 x3 x4 x5 s.1 x0 (fun y6=>nx (IntKind.i64.wrap (s.1+1),y6)) (0,s.2)else K0 s.2
structure mN (x0 x1:Int)(x2:List Int)(x3:Int)(x4:List Int)(x5 x6:Int)(K0:(List Int)->Prop)(s:Int×List Int):Prop where
 it:Go.Mach.Loop (dT x0 x1 x2 x3 x4 x5 x6 K0) s
structure j7 (a0 a1 a2 a3 a4:Int)(a5:List Int)(a6:Int)(a7:List Int)(a8:Int)(Q:(uT×Int)->Prop):Prop where
 it:pW a2 (fun r1=>if (((!r1)||(decide (128<a3)))||(decide (a3<(-128))))=true then Q ((([]:List Int),(0,([]:List Int))),3)else fY [a0,a1] (fun r2=>if (!r2)=true then Q ((([]:List Int),(0,([]:List Int))),1)else mN a1 a4 a5 a6 a7 a8 a0 (fun y7=>Q (([a0,a1],(a3,y7)),0)) (0,([]:List Int))))
def uO:Ent:=⟨[1,4,10,12,39,40],[sI,.fn 177 [.bx [lI],.bx [lZ (.int .i64),lI,lZ (.int .i8)],.bx [lI]],sC (.ptr 0 0),sC (.ptr 1 0),sI,sI],[.box [.cst (.pl (.slice none 0 0)),lI,.cst (.pl (.slice none 0 0))] false,.box [.cst (.own 2),lI,.cst (.pl (.slice none 0 0))] false,.lst true (.int .i64) false],fun⟨⟨a,⟨⟨b,_⟩,⟨c,d,e,_⟩,⟨f,_⟩,_⟩,_,_,g,i,_⟩,⟨⟨_,j,_⟩,⟨_,l,_⟩,m,_⟩⟩ k=>mN a b c d e f g (fun y8=>k (.exit 1) ⟨[(10,.ptr 0 0),(12,.ptr 1 0)],[.box [.pl (.slice none 0 0),vI j,.pl (.slice none 0 0)] false,.box [.own 2,vI l,.own 3] false,.lst true (.int .i64) m false,.lst true (.int .i32) y8 false]⟩) (i,([]:List Int))⟩
def uN:Ent:=⟨[1,4,10,12,13,39,40,43,44],[sI,.fn 177 [.bx [lI],.bx [lZ (.int .i64),lI,lZ (.int .i8)],.bx [lI]],sC (.ptr 0 0),sC (.ptr 1 0),sI,sI,sI,sI,sI],[.box [.cst (.pl (.slice none 0 0)),lI,.cst (.pl (.slice none 0 0))] false,.box [.cst (.own 2),lI,.cst (.own 3)] false,.lst true (.int .i64) false,.lst true (.int .i32) false],fun⟨⟨a,⟨⟨b,_⟩,⟨c,d,e,_⟩,⟨f,_⟩,_⟩,_,_,g,i,j,l,m,_⟩,⟨⟨_,n,_⟩,⟨_,o,_⟩,p,q,_⟩⟩ k=>mQ b c d e f g l (fun y9=>k (.exit 3) ⟨[(1,vI a),(4,.fn 177 [.bx [vI b] 0,.bx [vZ (.int .i64) c,vI d,vZ (.int .i8) e] 0,.bx [vI f] 0]),(10,.ptr 0 0),(12,.ptr 1 0),(39,vI i),(40,vI j)],[.box [.pl (.slice none 0 0),vI n,.pl (.slice none 0 0)] false,.box [.own 2,vI o,.own 3] false,.lst true (.int .i64) p false,.lst true (.int .i32) y9 false]⟩) (m,q)⟩
def vD:=RA.putX tt 156 Tryz.func156 [10,11] [(122,[⟨12,some 2,false,(.int .i32)⟩]),(31334,[⟨12,some 2,false,(.int .i32)⟩])] [(122,uO),(31334,uN)] [sI,sI,sI,sI,.fn 177 [.bx [lI],.bx [lZ (.int .i64),lI,lZ (.int .i8)],.bx [lI]]] [] [(true,wL),(false,(.int .i64))] (fun x=>j7 x.1 x.2.1 x.2.2.1 x.2.2.2.1 x.2.2.2.2.1.1.1 x.2.2.2.2.1.2.1.1 x.2.2.2.2.1.2.1.2.1 x.2.2.2.2.1.2.1.2.2.1 x.2.2.2.2.1.2.2.1.1) [177] none false 0 hI0 ⟨fun _ _ hs ⟨⟨a,⟨⟨b,_⟩,⟨c,d,e,_⟩,⟨f,_⟩,_⟩,_,_,g,i,_⟩,⟨⟨_,j,_⟩,⟨_,l,_⟩,m,_⟩⟩ _ h=>dV hs (fun y=>⟨[(1,vI a),(4,.fn 177 [.bx [vI b] 0,.bx [vZ (.int .i64) c,vI d,vZ (.int .i8) e] 0,.bx [vI f] 0]),(10,.ptr 0 0),(12,.ptr 1 0),(39,vI g),(40,vI y.1)],[.box [.pl (.slice none 0 0),vI j,.pl (.slice none 0 0)] false,.box [.own 2,vI l,.own 3] false,.lst true (.int .i64) m false,.lst true (.int .i32) y.2 false]⟩) (i,([]:List Int)) h.it,fun _ _ hs ⟨⟨a,⟨⟨b,_⟩,⟨c,d,e,_⟩,⟨f,_⟩,_⟩,_,_,g,i,j,l,m,_⟩,⟨⟨_,n,_⟩,⟨_,o,_⟩,p,q,_⟩⟩ _ h=>aD hs (fun y=>⟨⟨a,⟨⟨b,()⟩,⟨c,d,e,()⟩,⟨f,()⟩,()⟩,(),(),g,i,j,l,y.1,()⟩,⟨⟨(),n,(),()⟩,⟨(),o,(),()⟩,p,y.2,()⟩⟩) (m,q) h.it,trivial⟩ fun _ _ h=>⟨_,h.it,by kernel_rfl⟩
structure xR  (K0:Unit->Prop):Prop where
 it:K0 ()
structure G4 (a0:bS)(Q:(uT×Int)->Prop):Prop where
 it:u0 2 [a0] (fun r1=>if (r1 != 0)=true then Q ((([]:List Int),(0,([]:List Int))),r1)else ck ((0:Int)<=0/\0<(a0.1.length:Int)) (ck ((0:Int)<=1/\1<(a0.1.length:Int)) (j7 1 (a0.1.getD 1 0) (a0.1.getD 0 0) a0.2.1 (a0.1.getD 0 0) a0.1 a0.2.1 a0.2.2 (a0.1.getD 1 0) (fun r2=>if (r2.2==0)=true then xR (fun _=>Q (([a0.1.getD 1 0],r2.1.2),r2.2))else xR (fun _=>Q (r2.1,r2.2))))))
def RY:Ent:=⟨[2,7,8],[sC (.ptr 0 0),sC (.ptr 1 0),sI],[.box [.cst (.pl (.slice none 0 0)),lI,.cst (.pl (.slice none 0 0))] false,.box [.cst (.own 2),lI,.cst (.own 3)] false,.lst true (.int .i64) false,.lst true (.int .i32) false],fun⟨⟨_,_,a,_⟩,⟨_,⟨_,c,_⟩,d,e,_⟩⟩ k=>xR (fun _=>k .ret ⟨[(2,.ptr 0 0),(3,vI a)],[.box [.own 1,vI c,.own 2] false,.lst true (.int .i64) d false,.lst true (.int .i32) e false]⟩)⟩
def VZ:=vD.put tt 133 Tryz.func133 [2,3] [] [(63,RY)] [.agg [lZ (.int .i64),lI,lZ (.int .i8)]] [] [(true,wL),(false,(.int .i64))] (fun x=>G4 (x.1.1,(x.1.2.1,x.1.2.2.1))) ⟨fun _ _ hs ⟨⟨_,_,_,_⟩,⟨_,⟨_,_,_⟩,_,_,_⟩⟩ _ h=>aI hs h.it,trivial⟩ fun _ _ h=>⟨_,h.it,by kernel_rfl⟩
structure rZ (x11:Int)(K0:Int->Prop):Prop where
 it:K0 (IntKind.i64.wrap (x11+1))
def lC (x0 x1 x2 x3 x4 x5 x10:Int)(x18:List bL)(K0:(List bL)->Prop)(s:Int×List bL)(nx:(Int×List bL)->Prop):Prop :=
 if (decide (s.1<x10))=true then ck ((0:Int)<=s.1/\s.1<(x18.length:Int)) (if (((x18.getD ((s.1).toNat) (0,(0,0))).1)==(IntKind.i64.wrap ((IntKind.i64.wrap (x1*x0))+x2)))=true then ck ((s.2.length+[(IntKind.i64.wrap ((IntKind.i64.wrap (x4*x3))+x5),(x18.getD ((s.1).toNat) (0,(0,0))).2)].length)*24<=140737488355328) (rZ s.1 (fun y16=>nx (y16,(s.2++[(IntKind.i64.wrap ((IntKind.i64.wrap (x4*x3))+x5),(x18.getD ((s.1).toNat) (0,(0,0))).2)]))))else rZ s.1 (fun y17=>nx (y17,s.2)))else K0 s.2
structure rR (x0 x1 x2 x3 x4 x5 x10:Int)(x18:List bL)(K0:(List bL)->Prop)(s:Int×List bL):Prop where
 it:Go.Mach.Loop (lC x0 x1 x2 x3 x4 x5 x10 x18 K0) s
def lR (x0 x1 x2 x3 x4 x7 x9 x10 x11 x12 x13:Int)(K0:(List bL)->Prop)(s:Int×List bL)(nx:(Int×List bL)->Prop):Prop :=
 if (decide (s.1<x7))=true then lH (x9,(x10,(x11,(x12,x13)))) x4 s.1 (fun r15=>rR x0 x1 x2 x3 x4 s.1 (r15.length:Int) r15 (fun y16=>nx (IntKind.i64.wrap (s.1+1),y16)) (0,s.2))else K0 s.2
structure rX (x0 x1 x2 x3 x4 x7 x9 x10 x11 x12 x13:Int)(K0:(List bL)->Prop)(s:Int×List bL):Prop where
 it:Go.Mach.Loop (lR x0 x1 x2 x3 x4 x7 x9 x10 x11 x12 x13 K0) s
def lJ (x0 x1 x2 x3 x4 x6 x7 x8 x9 x10:Int)(K0:(List bL)->Prop)(s:Int×List bL)(nx:(Int×List bL)->Prop):Prop :=
 if (decide (s.1<x4))=true then rX x0 x1 x2 x3 s.1 x3 x6 x7 x8 x9 x10 (fun y15=>nx (IntKind.i64.wrap (s.1+1),y15)) (0,s.2)else K0 s.2
structure zC (x0 x1 x2 x3 x4 x6 x7 x8 x9 x10:Int)(K0:(List bL)->Prop)(s:Int×List bL):Prop where
 it:Go.Mach.Loop (lJ x0 x1 x2 x3 x4 x6 x7 x8 x9 x10 K0) s
structure yJ (a0 a1 a2 a3 a4 a5 a6:Int)(Q:(List bL)->Prop):Prop where
 it:tX (a0,(a1,(a4,(a5,a6)))) (fun r1=>jn (fun v2=>jn (fun v5=>if v5=true then Q ([]:List bL)else zC a1 a2 a3 r1.2 r1.1 a0 a1 a4 a5 a6 (fun y16=>Q y16) (0,([]:List bL))) (fun J6=>if v2=true then J6 true else o8 a3 0 (IntKind.i64.wrap (a1-1)) (fun r7=>J6 (!r7)))) (fun J3=>if ((decide (r1.1<1))||(decide (r1.2<1)))=true then J3 true else o8 a2 0 (IntKind.i64.wrap (a0-1)) (fun r4=>J3 (!r4))))
def JJ:Ent:=⟨[1,2,3,15,17,18,54,55],[sI,sI,sI,sC (.ptr 0 0),sI,sC (.pl (.slice none 0 0)),sI,sI],[.box [lI,lI,lI,lI,lI] false],fun⟨⟨a,b,c,_,d,_,e,f,_⟩,⟨⟨g,i,j,l,m,_⟩,_⟩⟩ k=>zC a b c d e g i j l m (fun y17=>k (.exit 0) ⟨[(18,.own 0)],[.lst true bY y17 false]⟩) (f,([]:List bL))⟩
def JT:Ent:=⟨[1,2,3,15,17,18,19,54,55,58,59],[sI,sI,sI,sC (.ptr 0 0),sI,sC (.own 1),sI,sI,sI,sI,sI],[.box [lI,lI,lI,lI,lI] false,.lst true bY false],fun⟨⟨a,b,c,_,d,_,e,f,g,i,j,_⟩,⟨⟨l,m,n,o,p,_⟩,q,_⟩⟩ k=>rX a b c d e i l m n o p (fun y18=>k (.exit 2) ⟨[(1,vI a),(2,vI b),(3,vI c),(15,.ptr 0 0),(17,vI d),(18,.own 1),(54,vI f),(55,vI g)],[.box [vI l,vI m,vI n,vI o,vI p] false,.lst true bY y18 false]⟩) (j,q)⟩
def KO:Ent:=⟨[1,2,3,15,17,18,19,20,54,55,58,59,65,66,67],[sI,sI,sI,sC (.ptr 0 0),sI,sC (.own 1),sI,sI,sI,sI,sI,sI,sC (.own 2),sI,sI],[.box [lI,lI,lI,lI,lI] false,.lst true bY false,.lst true bY false],fun⟨⟨a,b,c,_,d,_,e,f,g,i,j,l,_,m,n,_⟩,⟨⟨o,p,q,t,u,_⟩,w,z,_⟩⟩ k=>rR a b c d e f m z (fun y19=>k (.exit 4) ⟨[(1,vI a),(2,vI b),(3,vI c),(15,.ptr 0 0),(17,vI d),(18,.own 1),(19,vI e),(54,vI g),(55,vI i),(58,vI j),(59,vI l)],[.box [vI o,vI p,vI q,vI t,vI u] false,.lst true bY y19 false]⟩) (n,w)⟩
def LA:Ent:=⟨[1,2,3,15,17,18,19,20,54,55,58,59,65,66,67],[sI,sI,sI,sC (.ptr 0 0),sI,sC (.own 1),sI,sI,sI,sI,sI,sI,sC (.own 2),sI,sI],[.box [lI,lI,lI,lI,lI] false,.lst true bY false,.lst true bY false],fun⟨⟨a,b,c,_,d,_,e,f,g,i,j,l,_,m,n,_⟩,⟨⟨o,p,q,t,u,_⟩,w,z,_⟩⟩ k=>rZ n (fun y20=>k .normal ⟨[(1,vI a),(2,vI b),(3,vI c),(15,.ptr 0 0),(17,vI d),(18,.own 1),(19,vI e),(20,vI f),(54,vI g),(55,vI i),(58,vI j),(59,vI l),(65,.own 2),(66,vI m),(67,vI y20)],[.box [vI o,vI p,vI q,vI t,vI u] false,.lst true bY w false,.lst true bY z false]⟩)⟩
def M5:=VZ.put tt 190 Tryz.func190 [14] [(506,[⟨18,none,false,bY⟩]),(129638,[⟨18,none,false,bY⟩]),(33187430,[⟨18,none,false,bY⟩])] [(506,JJ),(129638,JT),(33187430,KO),(530998887,LA)] [sI,sI,sI,sI,sI,sI,sI] [] [(false,(.slc bY))] (fun x=>yJ x.1 x.2.1 x.2.2.1 x.2.2.2.1 x.2.2.2.2.1 x.2.2.2.2.2.1 x.2.2.2.2.2.2.1) ⟨fun _ _ hs ⟨⟨a,b,c,_,d,_,e,f,_⟩,⟨⟨g,i,j,l,m,_⟩,_⟩⟩ _ h=>dV hs (fun y=>⟨[(1,vI a),(2,vI b),(3,vI c),(15,.ptr 0 0),(17,vI d),(18,.own 1),(54,vI e),(55,vI y.1)],[.box [vI g,vI i,vI j,vI l,vI m] false,.lst true bY y.2 false]⟩) (f,([]:List bL)) h.it,fun _ _ hs ⟨⟨a,b,c,_,d,_,e,f,g,i,j,_⟩,⟨⟨l,m,n,o,p,_⟩,q,_⟩⟩ _ h=>aD hs (fun y=>⟨⟨a,b,c,(),d,(),e,f,g,i,y.1,()⟩,⟨⟨l,m,n,o,p,()⟩,y.2,()⟩⟩) (j,q) h.it,fun _ _ hs ⟨⟨a,b,c,_,d,_,e,f,g,i,j,l,_,m,n,_⟩,⟨⟨o,p,q,t,u,_⟩,w,z,_⟩⟩ _ h=>aD hs (fun y=>⟨⟨a,b,c,(),d,(),e,f,g,i,j,l,(),m,y.1,()⟩,⟨⟨o,p,q,t,u,()⟩,y.2,z,()⟩⟩) (n,w) h.it,fun _ _ hs ⟨⟨_,_,_,_,_,_,_,_,_,_,_,_,_,_,_,_⟩,⟨⟨_,_,_,_,_,_⟩,_,_,_⟩⟩ _ h=>aI hs h.it,trivial⟩ fun _ _ h=>⟨_,h.it,by kernel_rfl⟩
structure tK (a0:aCu)(a1 a2:Int)(Q:(List bL)->Prop):Prop where
 it:yJ a0.1 a0.2.1 a1 a2 a0.2.2.1 a0.2.2.2.1 a0.2.2.2.2.1 (fun r1=>Q r1)
def AD:=M5.put tt 180 Tryz.func180 [6] [] [] [.agg [lI,lI,lI,lI,lI,lI,lI],sI,sI] [] [(false,(.slc bY))] (fun x=>tK (x.1.1,(x.1.2.1,(x.1.2.2.1,(x.1.2.2.2.1,(x.1.2.2.2.2.1,(x.1.2.2.2.2.2.1,x.1.2.2.2.2.2.2.1)))))) x.2.1 x.2.2.1) trivial fun _ _ h=>⟨_,h.it,by kernel_rfl⟩
def pL (x3 x4 x5 x6 x8 x9 x11 x20:Int)(x24 x27:List Int)(x38:List bL)(K0:Int->Prop)(s:Int×Int)(nx:(Int×Int)->Prop):Prop :=
 if (decide (s.2<x20))=true then ck ((0:Int)<=s.2/\s.2<(x38.length:Int)) (ck ((0:Int)<=(IntKind.i64.wrap ((IntKind.i64.wrap ((IntKind.i64.wrap ((IntKind.i64.wrap (x8*x3))+x11))*x6))+((x38.getD ((s.2).toNat) (0,(0,0))).1)))/\(IntKind.i64.wrap ((IntKind.i64.wrap ((IntKind.i64.wrap ((IntKind.i64.wrap (x8*x3))+x11))*x6))+((x38.getD ((s.2).toNat) (0,(0,0))).1)))<(x24.length:Int)) (ck ((0:Int)<=(IntKind.i64.wrap ((IntKind.i64.wrap ((IntKind.i64.wrap ((IntKind.i64.wrap ((IntKind.i64.wrap ((IntKind.i64.wrap (x11*x4))+x9))*x5))+(((x38.getD ((s.2).toNat) (0,(0,0))).2).1)))*x5))+(((x38.getD ((s.2).toNat) (0,(0,0))).2).2)))/\(IntKind.i64.wrap ((IntKind.i64.wrap ((IntKind.i64.wrap ((IntKind.i64.wrap ((IntKind.i64.wrap ((IntKind.i64.wrap (x11*x4))+x9))*x5))+(((x38.getD ((s.2).toNat) (0,(0,0))).2).1)))*x5))+(((x38.getD ((s.2).toNat) (0,(0,0))).2).2)))<(x27.length:Int)) (nx (IntKind.i64.wrap (s.1+(IntKind.i64.wrap ((IntKind.i64.wrap (x24.getD ((IntKind.i64.wrap ((IntKind.i64.wrap ((IntKind.i64.wrap ((IntKind.i64.wrap (x8*x3))+x11))*x6))+((x38.getD ((s.2).toNat) (0,(0,0))).1))).toNat) 0))*(IntKind.i64.wrap (x27.getD ((IntKind.i64.wrap ((IntKind.i64.wrap ((IntKind.i64.wrap ((IntKind.i64.wrap ((IntKind.i64.wrap ((IntKind.i64.wrap (x11*x4))+x9))*x5))+(((x38.getD ((s.2).toNat) (0,(0,0))).2).1)))*x5))+(((x38.getD ((s.2).toNat) (0,(0,0))).2).2))).toNat) 0))))),IntKind.i64.wrap (s.2+1)))))else K0 s.1
structure yD (x3 x4 x5 x6 x8 x9 x11 x20:Int)(x24 x27:List Int)(x38:List bL)(K0:Int->Prop)(s:Int×Int):Prop where
 it:Go.Mach.Loop (pL x3 x4 x5 x6 x8 x9 x11 x20 x24 x27 x38 K0) s
def pJ (x3 x4 x5 x6 x8 x9 x17:Int)(x21 x24:List Int)(x35:List bL)(K0:Int->Prop)(s:Int×Int)(nx:(Int×Int)->Prop):Prop :=
 if (decide (s.2<x17))=true then yD x3 x4 x5 x6 x8 x9 s.2 (x35.length:Int) x21 x24 x35 (fun y13=>nx (y13,IntKind.i64.wrap (s.2+1))) (s.1,0)else K0 s.1
structure xQ (x3 x4 x5 x6 x8 x9 x17:Int)(x21 x24:List Int)(x35:List bL)(K0:Int->Prop)(s:Int×Int):Prop where
 it:Go.Mach.Loop (pJ x3 x4 x5 x6 x8 x9 x17 x21 x24 x35 K0) s
def pH (x0 x1 x3 x4 x5 x6 x7 x8 x13:Int)(x17 x20:List Int)(x31:List bL)(K0:(List Int)->Prop)(s:Int×List Int)(nx:(Int×List Int)->Prop):Prop :=
 if (decide (s.1<x13))=true then xQ x3 x4 x5 x6 x8 s.1 x3 x17 x20 x31 (fun y13=>ck ((0:Int)<=(IntKind.i64.wrap ((IntKind.i64.wrap ((IntKind.i64.wrap ((IntKind.i64.wrap ((IntKind.i64.wrap (x8*x4))+s.1))*x0))*x1))+x7))/\(IntKind.i64.wrap ((IntKind.i64.wrap ((IntKind.i64.wrap ((IntKind.i64.wrap ((IntKind.i64.wrap (x8*x4))+s.1))*x0))*x1))+x7))<(s.2.length:Int)) (nx (IntKind.i64.wrap (s.1+1),s.2.set ((IntKind.i64.wrap ((IntKind.i64.wrap ((IntKind.i64.wrap ((IntKind.i64.wrap ((IntKind.i64.wrap (x8*x4))+s.1))*x0))*x1))+x7)).toNat) (IntKind.i32.wrap y13)))) (0,0)else K0 s.2
structure xJ (x0 x1 x3 x4 x5 x6 x7 x8 x13:Int)(x17 x20:List Int)(x31:List bL)(K0:(List Int)->Prop)(s:Int×List Int):Prop where
 it:Go.Mach.Loop (pH x0 x1 x3 x4 x5 x6 x7 x8 x13 x17 x20 x31 K0) s
def pE (x0 x1 x3 x4 x5 x6 x7 x10:Int)(x14 x17:List Int)(x28:List bL)(K0:(List Int)->Prop)(s:Int×List Int)(nx:(Int×List Int)->Prop):Prop :=
 if (decide (s.1<x10))=true then xJ x0 x1 x3 x4 x5 x6 x7 s.1 x4 x14 x17 x28 (fun y13=>nx (IntKind.i64.wrap (s.1+1),y13)) (0,s.2)else K0 s.2
structure xI (x0 x1 x3 x4 x5 x6 x7 x10:Int)(x14 x17:List Int)(x28:List bL)(K0:(List Int)->Prop)(s:Int×List Int):Prop where
 it:Go.Mach.Loop (pE x0 x1 x3 x4 x5 x6 x7 x10 x14 x17 x28 K0) s
def pF (x0 x1 x2 x3 x4 x5 x6 x7:Int)(x11 x14:List Int)(x16 x17 x18 x19 x20 x21 x22:Int)(K0:(List Int)->Prop)(s:Int×List Int)(nx:(Int×List Int)->Prop):Prop :=
 if (decide (s.1<x7))=true then ck (x1≠(0:Int)) (ck (x1≠(0:Int)) (tK (x16,(x17,(x18,(x19,(x20,(x21,x22)))))) (IntKind.i64.wrap ((s.1).tdiv x1)) ((s.1).tmod x1) (fun r12=>xI x0 x1 x3 x4 x5 x6 s.1 x2 x11 x14 r12 (fun y13=>nx (IntKind.i64.wrap (s.1+1),y13)) (0,s.2))))else K0 s.2
structure yI (x0 x1 x2 x3 x4 x5 x6 x7:Int)(x11 x14:List Int)(x16 x17 x18 x19 x20 x21 x22:Int)(K0:(List Int)->Prop)(s:Int×List Int):Prop where
 it:Go.Mach.Loop (pF x0 x1 x2 x3 x4 x5 x6 x7 x11 x14 x16 x17 x18 x19 x20 x21 x22 K0) s
structure F1 (x0 x1 x2 x3 x4 x5 x6:Int)(x9 x12:List Int)(x14 x15 x16 x17 x18 x19 x20:Int)(x23:List Int)(K0:(Int×List Int)->Prop):Prop where
 it:if (x6 != 0)=true then K0 (x6,x23)else yI x0 x1 x2 x3 x4 x5 (IntKind.i64.wrap (x19*x20)) (IntKind.i64.wrap (x0*x1)) x9 x12 x14 x15 x16 x17 x18 x19 x20 (fun y12=>K0 (0,y12)) (0,x23)
structure GQ (a0 a1:bS)(a2 a3 a4 a5:Int)(Q:(uT×Int)->Prop):Prop where
 it:zK [a0,a1] (fun r1=>if (r1 != 0)=true then Q ((([]:List Int),(0,([]:List Int))),r1)else ck ((0:Int)<=0/\0<(a0.1.length:Int)) (ck ((0:Int)<=1/\1<(a0.1.length:Int)) (ck ((0:Int)<=1/\1<(a1.1.length:Int)) (ck ((0:Int)<=2/\2<(a1.1.length:Int)) (yR a2 a3 (a1.1.getD 2 0) a4 a5 (fun r2=>jn (fun v3=>jn (fun v5=>jn (fun v7=>jn (fun v9=>if v9=true then Q ((([]:List Int),(0,([]:List Int))),2)else sN (IntKind.i64.wrap ((IntKind.i64.wrap ((a0.1.getD 1 0)*(a1.1.getD 2 0)))*(a1.1.getD 2 0))) (IntKind.i64.wrap (a0.2.1+a1.2.1)) [a0.1.getD 0 0,a1.1.getD 1 0,a2,a3] (fun r11=>F1 a2 a3 (a0.1.getD 0 0) (a0.1.getD 1 0) (a1.1.getD 1 0) (a1.1.getD 2 0) r11.2 a0.2.2 a1.2.2 r2.1.1 r2.1.2.1 r2.1.2.2.1 r2.1.2.2.2.1 r2.1.2.2.2.2.1 r2.1.2.2.2.2.2.1 r2.1.2.2.2.2.2.2 r11.1.2.2 (fun y13=>Q ((r11.1.1,(r11.1.2.1,y13.2)),y13.1)))) (fun J10=>if v7=true then J10 true else ck ((0:Int)<=3/\3<(a0.1.length:Int)) (J10 ((a0.1.getD 3 0) != r2.1.2.2.2.2.2.2)))) (fun J8=>if v5=true then J8 true else ck ((0:Int)<=2/\2<(a0.1.length:Int)) (J8 ((a0.1.getD 2 0) != r2.1.2.2.2.2.2.1)))) (fun J6=>if v3=true then J6 true else ck ((0:Int)<=3/\3<(a1.1.length:Int)) (J6 ((a1.1.getD 3 0) != (a1.1.getD 2 0))))) (fun J4=>if (!r2.2)=true then J4 true else ck ((0:Int)<=0/\0<(a1.1.length:Int)) (J4 ((a1.1.getD 0 0) != (a0.1.getD 1 0))))))))))
def RV:Ent:=⟨[2,3,6,7,12,15,16,17,18,19,21,22],[sI,sI,sC (.ptr 0 0),sC (.ptr 1 0),sC (.ptr 2 0),sI,sI,sI,sI,sC (.ptr 3 0),sC (.ptr 4 0),sI],[.box [lZ (.int .i64),lI,lZ (.int .i8)] false,.box [lZ (.int .i64),lI,lZ (.int .i8)] false,.box [.cst (.pl (.slice none 0 0)),lI,.cst (.pl (.slice none 0 0))] false,.box [lI,lI,lI,lI,lI,lI,lI] false,.box [lZ (.int .i64),lI,.cst (.own 5)] false,.lst true (.int .i32) false],fun⟨⟨a,b,_,_,_,c,d,e,f,_,_,g,_⟩,⟨⟨_,_,l,_⟩,⟨_,_,o,_⟩,_,⟨q,t,u,w,z,a0,a1,_⟩,⟨a2,a3,_⟩,a4,_⟩⟩ k=>F1 a b c d e f g l o q t u w z a0 a1 a4 (fun y14=>k .ret ⟨[(12,.ptr 0 0),(13,vI y14.1)],[.box [vZ (.int .i64) a2,vI a3,.own 1] false,.lst true (.int .i32) y14.2 false]⟩)⟩
def RJ:Ent:=⟨[2,3,6,7,12,15,16,17,18,19,21,23,132,133],[sI,sI,sC (.ptr 0 0),sC (.ptr 1 0),sC (.ptr 2 0),sI,sI,sI,sI,sC (.ptr 3 0),sC (.ptr 4 0),sI,sI,sI],[.box [lZ (.int .i64),lI,lZ (.int .i8)] false,.box [lZ (.int .i64),lI,lZ (.int .i8)] false,.box [.cst (.pl (.slice none 0 0)),lI,.cst (.pl (.slice none 0 0))] false,.box [lI,lI,lI,lI,lI,lI,lI] false,.box [lZ (.int .i64),lI,.cst (.own 5)] false,.lst true (.int .i32) false],fun⟨⟨a,b,_,_,_,c,d,e,f,_,_,g,i,j,_⟩,⟨⟨_,_,n,_⟩,⟨_,_,q,_⟩,⟨_,t,_⟩,⟨u,w,z,a0,a1,a2,a3,_⟩,⟨a4,a5,_⟩,a6,_⟩⟩ k=>yI a b c d e f g i n q u w z a0 a1 a2 a3 (fun y15=>k (.exit 0) ⟨[(12,.ptr 0 0),(21,.ptr 1 0)],[.box [.pl (.slice none 0 0),vI t,.pl (.slice none 0 0)] false,.box [vZ (.int .i64) a4,vI a5,.own 2] false,.lst true (.int .i32) y15 false]⟩) (j,a6)⟩
def RH:Ent:=⟨[2,3,6,7,12,15,16,17,18,19,21,23,24,25,132,133,144,145],[sI,sI,sC (.ptr 0 0),sC (.ptr 1 0),sC (.ptr 2 0),sI,sI,sI,sI,sC (.ptr 3 0),sC (.ptr 4 0),sI,sI,sC (.own 5),sI,sI,sI,sI],[.box [lZ (.int .i64),lI,lZ (.int .i8)] false,.box [lZ (.int .i64),lI,lZ (.int .i8)] false,.box [.cst (.pl (.slice none 0 0)),lI,.cst (.pl (.slice none 0 0))] false,.box [lI,lI,lI,lI,lI,lI,lI] false,.box [lZ (.int .i64),lI,.cst (.own 6)] false,.lst true bY false,.lst true (.int .i32) false],fun⟨⟨a,b,_,_,_,c,d,e,f,_,_,g,i,_,j,l,m,n,_⟩,⟨⟨o,p,q,_⟩,⟨t,u,w,_⟩,⟨_,z,_⟩,⟨a0,a1,a2,a3,a4,a5,a6,_⟩,⟨a7,a8,_⟩,a9,b0,_⟩⟩ k=>xI a b d e f g i m q w a9 (fun y16=>k (.exit 2) ⟨[(2,vI a),(3,vI b),(6,.ptr 0 0),(7,.ptr 1 0),(12,.ptr 2 0),(15,vI c),(16,vI d),(17,vI e),(18,vI f),(19,.ptr 3 0),(21,.ptr 4 0),(23,vI g),(132,vI j),(133,vI l)],[.box [vZ (.int .i64) o,vI p,vZ (.int .i8) q] false,.box [vZ (.int .i64) t,vI u,vZ (.int .i8) w] false,.box [.pl (.slice none 0 0),vI z,.pl (.slice none 0 0)] false,.box [vI a0,vI a1,vI a2,vI a3,vI a4,vI a5,vI a6] false,.box [vZ (.int .i64) a7,vI a8,.own 5] false,.lst true (.int .i32) y16 false]⟩) (n,b0)⟩
def R3:Ent:=⟨[2,3,6,7,12,15,16,17,18,19,21,23,24,25,26,132,133,144,145,148,149],[sI,sI,sC (.ptr 0 0),sC (.ptr 1 0),sC (.ptr 2 0),sI,sI,sI,sI,sC (.ptr 3 0),sC (.ptr 4 0),sI,sI,sC (.own 5),sI,sI,sI,sI,sI,sI,sI],[.box [lZ (.int .i64),lI,lZ (.int .i8)] false,.box [lZ (.int .i64),lI,lZ (.int .i8)] false,.box [.cst (.pl (.slice none 0 0)),lI,.cst (.pl (.slice none 0 0))] false,.box [lI,lI,lI,lI,lI,lI,lI] false,.box [lZ (.int .i64),lI,.cst (.own 6)] false,.lst true bY false,.lst true (.int .i32) false],fun⟨⟨a,b,_,_,_,c,d,e,f,_,_,g,i,_,j,l,m,n,o,p,q,_⟩,⟨⟨t,u,w,_⟩,⟨z,a0,a1,_⟩,⟨_,a2,_⟩,⟨a3,a4,a5,a6,a7,a8,a9,_⟩,⟨b0,b1,_⟩,b2,b3,_⟩⟩ k=>xJ a b d e f g i j p w a1 b2 (fun y17=>k (.exit 4) ⟨[(2,vI a),(3,vI b),(6,.ptr 0 0),(7,.ptr 1 0),(12,.ptr 2 0),(15,vI c),(16,vI d),(17,vI e),(18,vI f),(19,.ptr 3 0),(21,.ptr 4 0),(23,vI g),(24,vI i),(25,.own 5),(132,vI l),(133,vI m),(144,vI n),(145,vI o)],[.box [vZ (.int .i64) t,vI u,vZ (.int .i8) w] false,.box [vZ (.int .i64) z,vI a0,vZ (.int .i8) a1] false,.box [.pl (.slice none 0 0),vI a2,.pl (.slice none 0 0)] false,.box [vI a3,vI a4,vI a5,vI a6,vI a7,vI a8,vI a9] false,.box [vZ (.int .i64) b0,vI b1,.own 6] false,.lst true bY b2 false,.lst true (.int .i32) y17 false]⟩) (q,b3)⟩
def R9:Ent:=⟨[2,3,6,7,12,15,16,17,18,19,21,23,24,25,26,27,28,132,133,144,145,148,149,152,153],[sI,sI,sC (.ptr 0 0),sC (.ptr 1 0),sC (.ptr 2 0),sI,sI,sI,sI,sC (.ptr 3 0),sC (.ptr 4 0),sI,sI,sC (.own 5),sI,sI,sI,sI,sI,sI,sI,sI,sI,sI,sI],[.box [lZ (.int .i64),lI,lZ (.int .i8)] false,.box [lZ (.int .i64),lI,lZ (.int .i8)] false,.box [.cst (.pl (.slice none 0 0)),lI,.cst (.pl (.slice none 0 0))] false,.box [lI,lI,lI,lI,lI,lI,lI] false,.box [lZ (.int .i64),lI,.cst (.own 6)] false,.lst true bY false,.lst true (.int .i32) false],fun⟨⟨a,b,_,_,_,c,d,e,f,_,_,g,i,_,j,l,m,n,o,p,q,t,u,w,z,_⟩,⟨⟨a0,a1,a2,_⟩,⟨a3,a4,a5,_⟩,⟨_,a6,_⟩,⟨a7,a8,a9,b0,b1,b2,b3,_⟩,⟨b4,b5,_⟩,b6,b7,_⟩⟩ k=>xQ d e f g j l w a2 a5 b6 (fun y18=>k (.exit 6) ⟨[(2,vI a),(3,vI b),(6,.ptr 0 0),(7,.ptr 1 0),(12,.ptr 2 0),(15,vI c),(16,vI d),(17,vI e),(18,vI f),(19,.ptr 3 0),(21,.ptr 4 0),(23,vI g),(24,vI i),(25,.own 5),(26,vI j),(27,vI l),(28,vI y18),(132,vI n),(133,vI o),(144,vI p),(145,vI q),(148,vI t),(149,vI u)],[.box [vZ (.int .i64) a0,vI a1,vZ (.int .i8) a2] false,.box [vZ (.int .i64) a3,vI a4,vZ (.int .i8) a5] false,.box [.pl (.slice none 0 0),vI a6,.pl (.slice none 0 0)] false,.box [vI a7,vI a8,vI a9,vI b0,vI b1,vI b2,vI b3] false,.box [vZ (.int .i64) b4,vI b5,.own 6] false,.lst true bY b6 false,.lst true (.int .i32) b7 false]⟩) (m,z)⟩
def SD:Ent:=⟨[2,3,6,7,12,15,16,17,18,19,21,23,24,25,26,27,28,29,132,133,144,145,148,149,152,153,156,157,158],[sI,sI,sC (.ptr 0 0),sC (.ptr 1 0),sC (.ptr 2 0),sI,sI,sI,sI,sC (.ptr 3 0),sC (.ptr 4 0),sI,sI,sC (.own 5),sI,sI,sI,sI,sI,sI,sI,sI,sI,sI,sI,sI,sC (.own 5),sI,sI],[.box [lZ (.int .i64),lI,lZ (.int .i8)] false,.box [lZ (.int .i64),lI,lZ (.int .i8)] false,.box [.cst (.pl (.slice none 0 0)),lI,.cst (.pl (.slice none 0 0))] false,.box [lI,lI,lI,lI,lI,lI,lI] false,.box [lZ (.int .i64),lI,.cst (.own 6)] false,.lst true bY false,.lst true (.int .i32) false],fun⟨⟨a,b,_,_,_,c,d,e,f,_,_,g,i,_,j,l,m,n,o,p,q,t,u,w,z,a0,_,a1,a2,_⟩,⟨⟨a3,a4,a5,_⟩,⟨a6,a7,a8,_⟩,⟨_,a9,_⟩,⟨b0,b1,b2,b3,b4,b5,b6,_⟩,⟨b7,b8,_⟩,b9,c0,_⟩⟩ k=>yD d e f g j l n a1 a5 a8 b9 (fun y19=>k (.exit 8) ⟨[(2,vI a),(3,vI b),(6,.ptr 0 0),(7,.ptr 1 0),(12,.ptr 2 0),(15,vI c),(16,vI d),(17,vI e),(18,vI f),(19,.ptr 3 0),(21,.ptr 4 0),(23,vI g),(24,vI i),(25,.own 5),(26,vI j),(27,vI l),(28,vI y19),(132,vI o),(133,vI p),(144,vI q),(145,vI t),(148,vI u),(149,vI w),(152,vI z),(153,vI a0)],[.box [vZ (.int .i64) a3,vI a4,vZ (.int .i8) a5] false,.box [vZ (.int .i64) a6,vI a7,vZ (.int .i8) a8] false,.box [.pl (.slice none 0 0),vI a9,.pl (.slice none 0 0)] false,.box [vI b0,vI b1,vI b2,vI b3,vI b4,vI b5,vI b6] false,.box [vZ (.int .i64) b7,vI b8,.own 6] false,.lst true bY b9 false,.lst true (.int .i32) c0 false]⟩) (m,a2)⟩
def U9:=AD.put tt 138 Tryz.func138 [12,13] [] [(127,RV),(4090,RJ),(2094286,RH),(536137318,R3),(549004614042,R9),(140545181194854,SD)] [.agg [lZ (.int .i64),lI,lZ (.int .i8)],.agg [lZ (.int .i64),lI,lZ (.int .i8)],sI,sI,sI,sI] [(.p .f .n)] [(true,wL),(false,(.int .i64))] (fun x=>GQ (x.1.1,(x.1.2.1,x.1.2.2.1)) (x.2.1.1,(x.2.1.2.1,x.2.1.2.2.1)) x.2.2.1 x.2.2.2.1 x.2.2.2.2.1 x.2.2.2.2.2.1) ⟨fun _ _ hs ⟨⟨_,_,_,_,_,_,_,_,_,_,_,_,_⟩,⟨⟨_,_,_,_⟩,⟨_,_,_,_⟩,_,⟨_,_,_,_,_,_,_,_⟩,⟨_,_,_⟩,_,_⟩⟩ _ h=>aI hs h.it,fun _ _ hs ⟨⟨a,b,_,_,_,c,d,e,f,_,_,g,i,j,_⟩,⟨⟨l,m,n,_⟩,⟨o,p,q,_⟩,⟨_,t,_⟩,⟨u,w,z,a0,a1,a2,a3,_⟩,⟨a4,a5,_⟩,a6,_⟩⟩ _ h=>aD hs (fun y=>⟨⟨a,b,(),(),(),c,d,e,f,(),(),g,i,y.1,()⟩,⟨⟨l,m,n,()⟩,⟨o,p,q,()⟩,⟨(),t,(),()⟩,⟨u,w,z,a0,a1,a2,a3,()⟩,⟨a4,a5,(),()⟩,y.2,()⟩⟩) (j,a6) h.it,fun _ _ hs ⟨⟨a,b,_,_,_,c,d,e,f,_,_,g,i,_,j,l,m,n,_⟩,⟨⟨o,p,q,_⟩,⟨t,u,w,_⟩,⟨_,z,_⟩,⟨a0,a1,a2,a3,a4,a5,a6,_⟩,⟨a7,a8,_⟩,a9,b0,_⟩⟩ _ h=>aD hs (fun y=>⟨⟨a,b,(),(),(),c,d,e,f,(),(),g,i,(),j,l,m,y.1,()⟩,⟨⟨o,p,q,()⟩,⟨t,u,w,()⟩,⟨(),z,(),()⟩,⟨a0,a1,a2,a3,a4,a5,a6,()⟩,⟨a7,a8,(),()⟩,a9,y.2,()⟩⟩) (n,b0) h.it,fun _ _ hs ⟨⟨a,b,_,_,_,c,d,e,f,_,_,g,i,_,j,l,m,n,o,p,q,_⟩,⟨⟨t,u,w,_⟩,⟨z,a0,a1,_⟩,⟨_,a2,_⟩,⟨a3,a4,a5,a6,a7,a8,a9,_⟩,⟨b0,b1,_⟩,b2,b3,_⟩⟩ _ h=>aD hs (fun y=>⟨⟨a,b,(),(),(),c,d,e,f,(),(),g,i,(),j,l,m,n,o,p,y.1,()⟩,⟨⟨t,u,w,()⟩,⟨z,a0,a1,()⟩,⟨(),a2,(),()⟩,⟨a3,a4,a5,a6,a7,a8,a9,()⟩,⟨b0,b1,(),()⟩,b2,y.2,()⟩⟩) (q,b3) h.it,fun _ _ hs ⟨⟨a,b,_,_,_,c,d,e,f,_,_,g,i,_,j,l,m,n,o,p,q,t,u,w,z,_⟩,⟨⟨a0,a1,a2,_⟩,⟨a3,a4,a5,_⟩,⟨_,a6,_⟩,⟨a7,a8,a9,b0,b1,b2,b3,_⟩,⟨b4,b5,_⟩,b6,b7,_⟩⟩ _ h=>aD hs (fun y=>⟨⟨a,b,(),(),(),c,d,e,f,(),(),g,i,(),j,l,y.1,n,o,p,q,t,u,w,y.2,()⟩,⟨⟨a0,a1,a2,()⟩,⟨a3,a4,a5,()⟩,⟨(),a6,(),()⟩,⟨a7,a8,a9,b0,b1,b2,b3,()⟩,⟨b4,b5,(),()⟩,b6,b7,()⟩⟩) (m,z) h.it,fun _ _ hs ⟨⟨a,b,_,_,_,c,d,e,f,_,_,g,i,_,j,l,m,n,o,p,q,t,u,w,z,a0,_,a1,a2,_⟩,⟨⟨a3,a4,a5,_⟩,⟨a6,a7,a8,_⟩,⟨_,a9,_⟩,⟨b0,b1,b2,b3,b4,b5,b6,_⟩,⟨b7,b8,_⟩,b9,c0,_⟩⟩ _ h=>aD hs (fun y=>⟨⟨a,b,(),(),(),c,d,e,f,(),(),g,i,(),j,l,y.1,n,o,p,q,t,u,w,z,a0,(),a1,y.2,()⟩,⟨⟨a3,a4,a5,()⟩,⟨a6,a7,a8,()⟩,⟨(),a9,(),()⟩,⟨b0,b1,b2,b3,b4,b5,b6,()⟩,⟨b7,b8,(),()⟩,b9,c0,()⟩⟩) (m,a2) h.it,trivial⟩ fun _ _ h=>⟨_,h.it,by kernel_rfl⟩
def nP (x0 x2 x3 x4 x5 x6 x7 x16:Int)(x20 x23:List Int)(x30 x31 x34 x35 x36:Int)(K0:(List Int)->Prop)(s:Int×List Int)(nx:(Int×List Int)->Prop):Prop :=
 if (decide (s.1<x16))=true then ck ((0:Int)<=(IntKind.i64.wrap ((IntKind.i64.wrap ((IntKind.i64.wrap ((IntKind.i64.wrap ((IntKind.i64.wrap ((IntKind.i64.wrap (x7*x3))+s.1))*x0))+x35))*x0))+x36))/\(IntKind.i64.wrap ((IntKind.i64.wrap ((IntKind.i64.wrap ((IntKind.i64.wrap ((IntKind.i64.wrap ((IntKind.i64.wrap (x7*x3))+s.1))*x0))+x35))*x0))+x36))<(s.2.length:Int)) (ck ((0:Int)<=(IntKind.i64.wrap ((IntKind.i64.wrap ((IntKind.i64.wrap ((IntKind.i64.wrap ((IntKind.i64.wrap (x6*x2))+x7))*x30))*x31))+x5))/\(IntKind.i64.wrap ((IntKind.i64.wrap ((IntKind.i64.wrap ((IntKind.i64.wrap ((IntKind.i64.wrap (x6*x2))+x7))*x30))*x31))+x5))<(x20.length:Int)) (ck ((0:Int)<=(IntKind.i64.wrap ((IntKind.i64.wrap ((IntKind.i64.wrap ((IntKind.i64.wrap (x6*x3))+s.1))*x4))+x34))/\(IntKind.i64.wrap ((IntKind.i64.wrap ((IntKind.i64.wrap ((IntKind.i64.wrap (x6*x3))+s.1))*x4))+x34))<(x23.length:Int)) (ck ((0:Int)<=(IntKind.i64.wrap ((IntKind.i64.wrap ((IntKind.i64.wrap ((IntKind.i64.wrap ((IntKind.i64.wrap ((IntKind.i64.wrap (x7*x3))+s.1))*x0))+x35))*x0))+x36))/\(IntKind.i64.wrap ((IntKind.i64.wrap ((IntKind.i64.wrap ((IntKind.i64.wrap ((IntKind.i64.wrap ((IntKind.i64.wrap (x7*x3))+s.1))*x0))+x35))*x0))+x36))<(s.2.length:Int)) (nx (IntKind.i64.wrap (s.1+1),s.2.set ((IntKind.i64.wrap ((IntKind.i64.wrap ((IntKind.i64.wrap ((IntKind.i64.wrap ((IntKind.i64.wrap ((IntKind.i64.wrap (x7*x3))+s.1))*x0))+x35))*x0))+x36)).toNat) (IntKind.i32.wrap ((s.2.getD ((IntKind.i64.wrap ((IntKind.i64.wrap ((IntKind.i64.wrap ((IntKind.i64.wrap ((IntKind.i64.wrap ((IntKind.i64.wrap (x7*x3))+s.1))*x0))+x35))*x0))+x36)).toNat) 0)+(IntKind.i32.wrap ((IntKind.i32.wrap (x20.getD ((IntKind.i64.wrap ((IntKind.i64.wrap ((IntKind.i64.wrap ((IntKind.i64.wrap ((IntKind.i64.wrap (x6*x2))+x7))*x30))*x31))+x5)).toNat) 0))*(IntKind.i32.wrap (x23.getD ((IntKind.i64.wrap ((IntKind.i64.wrap ((IntKind.i64.wrap ((IntKind.i64.wrap (x6*x3))+s.1))*x4))+x34)).toNat) 0)))))))))))else K0 s.2
structure vF (x0 x2 x3 x4 x5 x6 x7 x16:Int)(x20 x23:List Int)(x30 x31 x34 x35 x36:Int)(K0:(List Int)->Prop)(s:Int×List Int):Prop where
 it:Go.Mach.Loop (nP x0 x2 x3 x4 x5 x6 x7 x16 x20 x23 x30 x31 x34 x35 x36 K0) s
def nU (x0 x2 x3 x4 x5 x6 x13:Int)(x17 x20:List Int)(x27 x28 x31 x32 x33:Int)(K0:(List Int)->Prop)(s:Int×List Int)(nx:(Int×List Int)->Prop):Prop :=
 if (decide (s.1<x13))=true then vF x0 x2 x3 x4 x5 x6 s.1 x3 x17 x20 x27 x28 x31 x32 x33 (fun y11=>nx (IntKind.i64.wrap (s.1+1),y11)) (0,s.2)else K0 s.2
structure vN (x0 x2 x3 x4 x5 x6 x13:Int)(x17 x20:List Int)(x27 x28 x31 x32 x33:Int)(K0:(List Int)->Prop)(s:Int×List Int):Prop where
 it:Go.Mach.Loop (nU x0 x2 x3 x4 x5 x6 x13 x17 x20 x27 x28 x31 x32 x33 K0) s
def nQ (x0 x2 x3 x4 x5 x10:Int)(x14 x17:List Int)(x24 x25 x28 x29 x30:Int)(K0:(List Int)->Prop)(s:Int×List Int)(nx:(Int×List Int)->Prop):Prop :=
 if (decide (s.1<x10))=true then vN x0 x2 x3 x4 x5 s.1 x2 x14 x17 x24 x25 x28 x29 x30 (fun y11=>nx (IntKind.i64.wrap (s.1+1),y11)) (0,s.2)else K0 s.2
structure vT (x0 x2 x3 x4 x5 x10:Int)(x14 x17:List Int)(x24 x25 x28 x29 x30:Int)(K0:(List Int)->Prop)(s:Int×List Int):Prop where
 it:Go.Mach.Loop (nQ x0 x2 x3 x4 x5 x10 x14 x17 x24 x25 x28 x29 x30 K0) s
def nR (x0 x1 x2 x3 x4 x5 x8:Int)(x12 x15:List Int)(x22 x23:Int)(x26:List bL)(K0:(List Int)->Prop)(s:Int×List Int)(nx:(Int×List Int)->Prop):Prop :=
 if (decide (s.1<x8))=true then ck ((0:Int)<=s.1/\s.1<(x26.length:Int)) (vT x0 x2 x3 x4 x5 x1 x12 x15 x22 x23 ((x26.getD ((s.1).toNat) (0,(0,0))).1) (((x26.getD ((s.1).toNat) (0,(0,0))).2).1) (((x26.getD ((s.1).toNat) (0,(0,0))).2).2) (fun y11=>nx (IntKind.i64.wrap (s.1+1),y11)) (0,s.2))else K0 s.2
structure vQ (x0 x1 x2 x3 x4 x5 x8:Int)(x12 x15:List Int)(x22 x23:Int)(x26:List bL)(K0:(List Int)->Prop)(s:Int×List Int):Prop where
 it:Go.Mach.Loop (nR x0 x1 x2 x3 x4 x5 x8 x12 x15 x22 x23 x26 K0) s
def nS (x0 x1 x2 x3 x4 x5:Int)(x9 x12:List Int)(x14 x15 x16 x17 x18 x19 x20:Int)(K0:(List Int)->Prop)(s:Int×List Int)(nx:(Int×List Int)->Prop):Prop :=
 if (decide (s.1<x5))=true then ck (x20≠(0:Int)) (ck (x20≠(0:Int)) (tQ (x14,(x15,(x16,(x17,(x18,(x19,x20)))))) (IntKind.i64.wrap ((s.1).tdiv x20)) ((s.1).tmod x20) (fun r10=>vQ x0 x1 x2 x3 x4 s.1 (r10.length:Int) x9 x12 x19 x20 r10 (fun y11=>nx (IntKind.i64.wrap (s.1+1),y11)) (0,s.2))))else K0 s.2
structure vR (x0 x1 x2 x3 x4 x5:Int)(x9 x12:List Int)(x14 x15 x16 x17 x18 x19 x20:Int)(K0:(List Int)->Prop)(s:Int×List Int):Prop where
 it:Go.Mach.Loop (nS x0 x1 x2 x3 x4 x5 x9 x12 x14 x15 x16 x17 x18 x19 x20 K0) s
structure EN (x0 x1 x2 x3 x4:Int)(x7 x10:List Int)(x12 x13 x14 x15 x16 x17 x18:Int)(x21:List Int)(K0:(Int×List Int)->Prop):Prop where
 it:if (x4 != 0)=true then K0 (x4,x21)else vR x0 x1 x2 x3 (IntKind.i64.wrap (x12*x13)) (IntKind.i64.wrap (x17*x18)) x7 x10 x12 x13 x14 x15 x16 x17 x18 (fun y10=>K0 (0,y10)) (0,x21)
structure ED (a0 a1:bS)(a2 a3 a4:Int)(Q:(uT×Int)->Prop):Prop where
 it:zK [a0,a1] (fun r1=>if (r1 != 0)=true then Q ((([]:List Int),(0,([]:List Int))),r1)else ck ((0:Int)<=0/\0<(a0.1.length:Int)) (ck ((0:Int)<=1/\1<(a0.1.length:Int)) (ck ((0:Int)<=1/\1<(a1.1.length:Int)) (ck ((0:Int)<=2/\2<(a1.1.length:Int)) (ck ((0:Int)<=3/\3<(a1.1.length:Int)) (yR (a1.1.getD 2 0) (a1.1.getD 3 0) a2 a3 a4 (fun r2=>jn (fun v3=>jn (fun v5=>jn (fun v7=>if v7=true then Q ((([]:List Int),(0,([]:List Int))),2)else sN (IntKind.i64.wrap ((IntKind.i64.wrap ((a0.1.getD 0 0)*r2.1.2.2.2.2.2.1))*r2.1.2.2.2.2.2.2)) (IntKind.i64.wrap (a0.2.1+a1.2.1)) [a0.1.getD 1 0,a1.1.getD 1 0,a2,a2] (fun r9=>EN a2 (a0.1.getD 0 0) (a0.1.getD 1 0) (a1.1.getD 1 0) r9.2 a0.2.2 a1.2.2 r2.1.1 r2.1.2.1 r2.1.2.2.1 r2.1.2.2.2.1 r2.1.2.2.2.2.1 r2.1.2.2.2.2.2.1 r2.1.2.2.2.2.2.2 r9.1.2.2 (fun y11=>Q ((r9.1.1,(r9.1.2.1,y11.2)),y11.1)))) (fun J8=>if v5=true then J8 true else ck ((0:Int)<=3/\3<(a0.1.length:Int)) (J8 ((a0.1.getD 3 0) != r2.1.2.2.2.2.2.2)))) (fun J6=>if v3=true then J6 true else ck ((0:Int)<=2/\2<(a0.1.length:Int)) (J6 ((a0.1.getD 2 0) != r2.1.2.2.2.2.2.1)))) (fun J4=>if (!r2.2)=true then J4 true else ck ((0:Int)<=0/\0<(a1.1.length:Int)) (J4 ((a1.1.getD 0 0) != (a0.1.getD 0 0)))))))))))
def OZ:Ent:=⟨[2,5,6,10,13,14,15,16,18,19],[sI,sC (.ptr 0 0),sC (.ptr 1 0),sC (.ptr 2 0),sI,sI,sI,sC (.ptr 3 0),sC (.ptr 4 0),sI],[.box [lZ (.int .i64),lI,lZ (.int .i8)] false,.box [lZ (.int .i64),lI,lZ (.int .i8)] false,.box [.cst (.pl (.slice none 0 0)),lI,.cst (.pl (.slice none 0 0))] false,.box [lI,lI,lI,lI,lI,lI,lI] false,.box [lZ (.int .i64),lI,.cst (.own 5)] false,.lst true (.int .i32) false],fun⟨⟨a,_,_,_,b,c,d,_,_,e,_⟩,⟨⟨_,_,i,_⟩,⟨_,_,m,_⟩,_,⟨o,p,q,t,u,w,z,_⟩,⟨a0,a1,_⟩,a2,_⟩⟩ k=>EN a b c d e i m o p q t u w z a2 (fun y12=>k .ret ⟨[(10,.ptr 0 0),(11,vI y12.1)],[.box [vZ (.int .i64) a0,vI a1,.own 1] false,.lst true (.int .i32) y12.2 false]⟩)⟩
def OP:Ent:=⟨[2,5,6,10,13,14,15,16,18,20,125,126],[sI,sC (.ptr 0 0),sC (.ptr 1 0),sC (.ptr 2 0),sI,sI,sI,sC (.ptr 3 0),sC (.ptr 4 0),sI,sI,sI],[.box [lZ (.int .i64),lI,lZ (.int .i8)] false,.box [lZ (.int .i64),lI,lZ (.int .i8)] false,.box [.cst (.pl (.slice none 0 0)),lI,.cst (.pl (.slice none 0 0))] false,.box [lI,lI,lI,lI,lI,lI,lI] false,.box [lZ (.int .i64),lI,.cst (.own 5)] false,.lst true (.int .i32) false],fun⟨⟨a,_,_,_,b,c,d,_,_,e,f,g,_⟩,⟨⟨_,_,l,_⟩,⟨_,_,o,_⟩,⟨_,p,_⟩,⟨q,t,u,w,z,a0,a1,_⟩,⟨a2,a3,_⟩,a4,_⟩⟩ k=>vR a b c d e f l o q t u w z a0 a1 (fun y13=>k (.exit 0) ⟨[(10,.ptr 0 0),(18,.ptr 1 0)],[.box [.pl (.slice none 0 0),vI p,.pl (.slice none 0 0)] false,.box [vZ (.int .i64) a2,vI a3,.own 2] false,.lst true (.int .i32) y13 false]⟩) (g,a4)⟩
def PT:Ent:=⟨[2,5,6,10,13,14,15,16,18,20,21,125,126,138,139,140],[sI,sC (.ptr 0 0),sC (.ptr 1 0),sC (.ptr 2 0),sI,sI,sI,sC (.ptr 3 0),sC (.ptr 4 0),sI,sI,sI,sI,sC (.own 5),sI,sI],[.box [lZ (.int .i64),lI,lZ (.int .i8)] false,.box [lZ (.int .i64),lI,lZ (.int .i8)] false,.box [.cst (.pl (.slice none 0 0)),lI,.cst (.pl (.slice none 0 0))] false,.box [lI,lI,lI,lI,lI,lI,lI] false,.box [lZ (.int .i64),lI,.cst (.own 6)] false,.lst true bY false,.lst true (.int .i32) false],fun⟨⟨a,_,_,_,b,c,d,_,_,e,f,g,i,_,j,l,_⟩,⟨⟨m,n,o,_⟩,⟨p,q,t,_⟩,⟨_,u,_⟩,⟨w,z,a0,a1,a2,a3,a4,_⟩,⟨a5,a6,_⟩,a7,a8,_⟩⟩ k=>vQ a b c d e f j o t a3 a4 a7 (fun y14=>k (.exit 2) ⟨[(2,vI a),(5,.ptr 0 0),(6,.ptr 1 0),(10,.ptr 2 0),(13,vI b),(14,vI c),(15,vI d),(16,.ptr 3 0),(18,.ptr 4 0),(20,vI e),(125,vI g),(126,vI i)],[.box [vZ (.int .i64) m,vI n,vZ (.int .i8) o] false,.box [vZ (.int .i64) p,vI q,vZ (.int .i8) t] false,.box [.pl (.slice none 0 0),vI u,.pl (.slice none 0 0)] false,.box [vI w,vI z,vI a0,vI a1,vI a2,vI a3,vI a4] false,.box [vZ (.int .i64) a5,vI a6,.own 5] false,.lst true (.int .i32) y14 false]⟩) (l,a8)⟩
def PQ:Ent:=⟨[2,5,6,10,13,14,15,16,18,20,21,23,125,126,138,139,140,144,145],[sI,sC (.ptr 0 0),sC (.ptr 1 0),sC (.ptr 2 0),sI,sI,sI,sC (.ptr 3 0),sC (.ptr 4 0),sI,sI,sC (.ptr 5 0),sI,sI,sC (.own 6),sI,sI,sI,sI],[.box [lZ (.int .i64),lI,lZ (.int .i8)] false,.box [lZ (.int .i64),lI,lZ (.int .i8)] false,.box [.cst (.pl (.slice none 0 0)),lI,.cst (.pl (.slice none 0 0))] false,.box [lI,lI,lI,lI,lI,lI,lI] false,.box [lZ (.int .i64),lI,.cst (.own 7)] false,.box [lI,lI,lI] false,.lst true bY false,.lst true (.int .i32) false],fun⟨⟨a,_,_,_,b,c,d,_,_,e,f,_,g,i,_,j,l,m,n,_⟩,⟨⟨o,p,q,_⟩,⟨t,u,w,_⟩,⟨_,z,_⟩,⟨a0,a1,a2,a3,a4,a5,a6,_⟩,⟨a7,a8,_⟩,⟨a9,b0,b1,_⟩,b2,b3,_⟩⟩ k=>vT a c d e f m q w a5 a6 a9 b0 b1 (fun y15=>k (.exit 4) ⟨[(2,vI a),(5,.ptr 0 0),(6,.ptr 1 0),(10,.ptr 2 0),(13,vI b),(14,vI c),(15,vI d),(16,.ptr 3 0),(18,.ptr 4 0),(20,vI e),(21,vI f),(125,vI g),(126,vI i),(138,.own 5),(139,vI j),(140,vI l)],[.box [vZ (.int .i64) o,vI p,vZ (.int .i8) q] false,.box [vZ (.int .i64) t,vI u,vZ (.int .i8) w] false,.box [.pl (.slice none 0 0),vI z,.pl (.slice none 0 0)] false,.box [vI a0,vI a1,vI a2,vI a3,vI a4,vI a5,vI a6] false,.box [vZ (.int .i64) a7,vI a8,.own 6] false,.lst true bY b2 false,.lst true (.int .i32) y15 false]⟩) (n,b3)⟩
def OE:Ent:=⟨[2,5,6,10,13,14,15,16,18,20,21,23,24,125,126,138,139,140,144,145,148,149],[sI,sC (.ptr 0 0),sC (.ptr 1 0),sC (.ptr 2 0),sI,sI,sI,sC (.ptr 3 0),sC (.ptr 4 0),sI,sI,sC (.ptr 5 0),sI,sI,sI,sC (.own 6),sI,sI,sI,sI,sI,sI],[.box [lZ (.int .i64),lI,lZ (.int .i8)] false,.box [lZ (.int .i64),lI,lZ (.int .i8)] false,.box [.cst (.pl (.slice none 0 0)),lI,.cst (.pl (.slice none 0 0))] false,.box [lI,lI,lI,lI,lI,lI,lI] false,.box [lZ (.int .i64),lI,.cst (.own 7)] false,.box [lI,lI,lI] false,.lst true bY false,.lst true (.int .i32) false],fun⟨⟨a,_,_,_,b,c,d,_,_,e,f,_,g,i,j,_,l,m,n,o,p,q,_⟩,⟨⟨t,u,w,_⟩,⟨z,a0,a1,_⟩,⟨_,a2,_⟩,⟨a3,a4,a5,a6,a7,a8,a9,_⟩,⟨b0,b1,_⟩,⟨b2,b3,b4,_⟩,b5,b6,_⟩⟩ k=>vN a c d e f g p w a1 a8 a9 b2 b3 b4 (fun y16=>k (.exit 6) ⟨[(2,vI a),(5,.ptr 0 0),(6,.ptr 1 0),(10,.ptr 2 0),(13,vI b),(14,vI c),(15,vI d),(16,.ptr 3 0),(18,.ptr 4 0),(20,vI e),(21,vI f),(23,.ptr 5 0),(125,vI i),(126,vI j),(138,.own 6),(139,vI l),(140,vI m),(144,vI n),(145,vI o)],[.box [vZ (.int .i64) t,vI u,vZ (.int .i8) w] false,.box [vZ (.int .i64) z,vI a0,vZ (.int .i8) a1] false,.box [.pl (.slice none 0 0),vI a2,.pl (.slice none 0 0)] false,.box [vI a3,vI a4,vI a5,vI a6,vI a7,vI a8,vI a9] false,.box [vZ (.int .i64) b0,vI b1,.own 7] false,.box [vI b2,vI b3,vI b4] false,.lst true bY b5 false,.lst true (.int .i32) y16 false]⟩) (q,b6)⟩
def OC:Ent:=⟨[2,5,6,10,13,14,15,16,18,20,21,23,24,25,125,126,138,139,140,144,145,148,149,152,153],[sI,sC (.ptr 0 0),sC (.ptr 1 0),sC (.ptr 2 0),sI,sI,sI,sC (.ptr 3 0),sC (.ptr 4 0),sI,sI,sC (.ptr 5 0),sI,sI,sI,sI,sC (.own 6),sI,sI,sI,sI,sI,sI,sI,sI],[.box [lZ (.int .i64),lI,lZ (.int .i8)] false,.box [lZ (.int .i64),lI,lZ (.int .i8)] false,.box [.cst (.pl (.slice none 0 0)),lI,.cst (.pl (.slice none 0 0))] false,.box [lI,lI,lI,lI,lI,lI,lI] false,.box [lZ (.int .i64),lI,.cst (.own 7)] false,.box [lI,lI,lI] false,.lst true bY false,.lst true (.int .i32) false],fun⟨⟨a,_,_,_,b,c,d,_,_,e,f,_,g,i,j,l,_,m,n,o,p,q,t,u,w,_⟩,⟨⟨z,a0,a1,_⟩,⟨a2,a3,a4,_⟩,⟨_,a5,_⟩,⟨a6,a7,a8,a9,b0,b1,b2,_⟩,⟨b3,b4,_⟩,⟨b5,b6,b7,_⟩,b8,b9,_⟩⟩ k=>vF a c d e f g i u a1 a4 b1 b2 b5 b6 b7 (fun y17=>k (.exit 8) ⟨[(2,vI a),(5,.ptr 0 0),(6,.ptr 1 0),(10,.ptr 2 0),(13,vI b),(14,vI c),(15,vI d),(16,.ptr 3 0),(18,.ptr 4 0),(20,vI e),(21,vI f),(23,.ptr 5 0),(24,vI g),(125,vI j),(126,vI l),(138,.own 6),(139,vI m),(140,vI n),(144,vI o),(145,vI p),(148,vI q),(149,vI t)],[.box [vZ (.int .i64) z,vI a0,vZ (.int .i8) a1] false,.box [vZ (.int .i64) a2,vI a3,vZ (.int .i8) a4] false,.box [.pl (.slice none 0 0),vI a5,.pl (.slice none 0 0)] false,.box [vI a6,vI a7,vI a8,vI a9,vI b0,vI b1,vI b2] false,.box [vZ (.int .i64) b3,vI b4,.own 7] false,.box [vI b5,vI b6,vI b7] false,.lst true bY b8 false,.lst true (.int .i32) y17 false]⟩) (w,b9)⟩
def SB:=U9.put tt 134 Tryz.func134 [10,11] [] [(127,OZ),(4090,OP),(1047142,PT),(268068454,PQ),(68625524326,OE),(17568134227558,OC)] [.agg [lZ (.int .i64),lI,lZ (.int .i8)],.agg [lZ (.int .i64),lI,lZ (.int .i8)],sI,sI,sI] [(.p .f .n)] [(true,wL),(false,(.int .i64))] (fun x=>ED (x.1.1,(x.1.2.1,x.1.2.2.1)) (x.2.1.1,(x.2.1.2.1,x.2.1.2.2.1)) x.2.2.1 x.2.2.2.1 x.2.2.2.2.1) ⟨fun _ _ hs ⟨⟨_,_,_,_,_,_,_,_,_,_,_⟩,⟨⟨_,_,_,_⟩,⟨_,_,_,_⟩,_,⟨_,_,_,_,_,_,_,_⟩,⟨_,_,_⟩,_,_⟩⟩ _ h=>aI hs h.it,fun _ _ hs ⟨⟨a,_,_,_,b,c,d,_,_,e,f,g,_⟩,⟨⟨i,j,l,_⟩,⟨m,n,o,_⟩,⟨_,p,_⟩,⟨q,t,u,w,z,a0,a1,_⟩,⟨a2,a3,_⟩,a4,_⟩⟩ _ h=>aD hs (fun y=>⟨⟨a,(),(),(),b,c,d,(),(),e,f,y.1,()⟩,⟨⟨i,j,l,()⟩,⟨m,n,o,()⟩,⟨(),p,(),()⟩,⟨q,t,u,w,z,a0,a1,()⟩,⟨a2,a3,(),()⟩,y.2,()⟩⟩) (g,a4) h.it,fun _ _ hs ⟨⟨a,_,_,_,b,c,d,_,_,e,f,g,i,_,j,l,_⟩,⟨⟨m,n,o,_⟩,⟨p,q,t,_⟩,⟨_,u,_⟩,⟨w,z,a0,a1,a2,a3,a4,_⟩,⟨a5,a6,_⟩,a7,a8,_⟩⟩ _ h=>aD hs (fun y=>⟨⟨a,(),(),(),b,c,d,(),(),e,f,g,i,(),j,y.1,()⟩,⟨⟨m,n,o,()⟩,⟨p,q,t,()⟩,⟨(),u,(),()⟩,⟨w,z,a0,a1,a2,a3,a4,()⟩,⟨a5,a6,(),()⟩,a7,y.2,()⟩⟩) (l,a8) h.it,fun _ _ hs ⟨⟨a,_,_,_,b,c,d,_,_,e,f,_,g,i,_,j,l,m,n,_⟩,⟨⟨o,p,q,_⟩,⟨t,u,w,_⟩,⟨_,z,_⟩,⟨a0,a1,a2,a3,a4,a5,a6,_⟩,⟨a7,a8,_⟩,⟨a9,b0,b1,_⟩,b2,b3,_⟩⟩ _ h=>aD hs (fun y=>⟨⟨a,(),(),(),b,c,d,(),(),e,f,(),g,i,(),j,l,m,y.1,()⟩,⟨⟨o,p,q,()⟩,⟨t,u,w,()⟩,⟨(),z,(),()⟩,⟨a0,a1,a2,a3,a4,a5,a6,()⟩,⟨a7,a8,(),()⟩,⟨a9,b0,b1,()⟩,b2,y.2,()⟩⟩) (n,b3) h.it,fun _ _ hs ⟨⟨a,_,_,_,b,c,d,_,_,e,f,_,g,i,j,_,l,m,n,o,p,q,_⟩,⟨⟨t,u,w,_⟩,⟨z,a0,a1,_⟩,⟨_,a2,_⟩,⟨a3,a4,a5,a6,a7,a8,a9,_⟩,⟨b0,b1,_⟩,⟨b2,b3,b4,_⟩,b5,b6,_⟩⟩ _ h=>aD hs (fun y=>⟨⟨a,(),(),(),b,c,d,(),(),e,f,(),g,i,j,(),l,m,n,o,p,y.1,()⟩,⟨⟨t,u,w,()⟩,⟨z,a0,a1,()⟩,⟨(),a2,(),()⟩,⟨a3,a4,a5,a6,a7,a8,a9,()⟩,⟨b0,b1,(),()⟩,⟨b2,b3,b4,()⟩,b5,y.2,()⟩⟩) (q,b6) h.it,fun _ _ hs ⟨⟨a,_,_,_,b,c,d,_,_,e,f,_,g,i,j,l,_,m,n,o,p,q,t,u,w,_⟩,⟨⟨z,a0,a1,_⟩,⟨a2,a3,a4,_⟩,⟨_,a5,_⟩,⟨a6,a7,a8,a9,b0,b1,b2,_⟩,⟨b3,b4,_⟩,⟨b5,b6,b7,_⟩,b8,b9,_⟩⟩ _ h=>aD hs (fun y=>⟨⟨a,(),(),(),b,c,d,(),(),e,f,(),g,i,j,l,(),m,n,o,p,q,t,u,y.1,()⟩,⟨⟨z,a0,a1,()⟩,⟨a2,a3,a4,()⟩,⟨(),a5,(),()⟩,⟨a6,a7,a8,a9,b0,b1,b2,()⟩,⟨b3,b4,(),()⟩,⟨b5,b6,b7,()⟩,b8,y.2,()⟩⟩) (w,b9) h.it,trivial⟩ fun _ _ h=>⟨_,h.it,by kernel_rfl⟩
def qV (x0 x1:Int)(x2:List Int)(x3:Int)(K0:(List Int)->Prop)(s:Int×List Int)(nx:(Int×List Int)->Prop):Prop :=
 if (decide (s.1<x3))=true then ck ((0:Int)<=s.1/\s.1<(x2.length:Int)) (ck (x1≠(0:Int)) (ck (x0≠(0:Int)) (ck ((0:Int)<=((IntKind.i64.wrap ((s.1).tdiv x1)).tmod x0)/\((IntKind.i64.wrap ((s.1).tdiv x1)).tmod x0)<(s.2.length:Int)) (ck ((0:Int)<=((IntKind.i64.wrap ((s.1).tdiv x1)).tmod x0)/\((IntKind.i64.wrap ((s.1).tdiv x1)).tmod x0)<(s.2.length:Int)) (nx (IntKind.i64.wrap (s.1+1),s.2.set (((IntKind.i64.wrap ((s.1).tdiv x1)).tmod x0).toNat) (IntKind.i32.wrap ((s.2.getD (((IntKind.i64.wrap ((s.1).tdiv x1)).tmod x0).toNat) 0)+(IntKind.i32.wrap (x2.getD ((s.1).toNat) 0))))))))))else K0 s.2
structure BA (x0 x1:Int)(x2:List Int)(x3:Int)(K0:(List Int)->Prop)(s:Int×List Int):Prop where
 it:Go.Mach.Loop (qV x0 x1 x2 x3 K0) s
structure KK (a0:bS)(Q:(uT×Int)->Prop):Prop where
 it:zK [a0] (fun r1=>if (r1 != 0)=true then Q ((([]:List Int),(0,([]:List Int))),r1)else ck ((0:Int)<=0/\0<(a0.1.length:Int)) (ck ((0:Int)<=1/\1<(a0.1.length:Int)) (ck ((0:Int)<=2/\2<(a0.1.length:Int)) (ck ((0:Int)<=3/\3<(a0.1.length:Int)) (sN (IntKind.i64.wrap ((a0.1.getD 0 0)*(IntKind.i64.wrap ((a0.1.getD 2 0)*(a0.1.getD 3 0))))) a0.2.1 [a0.1.getD 1 0] (fun r2=>if (r2.2 != 0)=true then Q (r2.1,r2.2)else BA (a0.1.getD 1 0) (IntKind.i64.wrap ((a0.1.getD 2 0)*(a0.1.getD 3 0))) a0.2.2 (a0.2.2.length:Int) (fun y3=>Q ((r2.1.1,(r2.1.2.1,y3)),0)) (0,r2.1.2.2)))))))
def V3:Ent:=⟨[2,6,7,8,52,53,54],[sC (.ptr 0 0),sI,sI,sC (.ptr 1 0),sZ (.int .i8),sI,sI],[.box [.cst (.pl (.slice none 0 0)),lI,.cst (.pl (.slice none 0 0))] false,.box [lZ (.int .i64),lI,.cst (.own 2)] false,.lst true (.int .i32) false],fun⟨⟨_,a,b,_,c,d,e,_⟩,⟨⟨_,f,_⟩,⟨g,i,_⟩,j,_⟩⟩ k=>BA a b c d (fun y4=>k (.exit 0) ⟨[(2,.ptr 0 0),(8,.ptr 1 0)],[.box [.pl (.slice none 0 0),vI f,.pl (.slice none 0 0)] false,.box [vZ (.int .i64) g,vI i,.own 2] false,.lst true (.int .i32) y4 false]⟩) (e,j)⟩
def YV:=SB.put tt 135 Tryz.func135 [2,3] [] [(506,V3)] [.agg [lZ (.int .i64),lI,lZ (.int .i8)]] [(.p .f .n)] [(true,wL),(false,(.int .i64))] (fun x=>KK (x.1.1,(x.1.2.1,x.1.2.2.1))) ⟨fun _ _ hs ⟨⟨_,a,b,_,c,d,e,_⟩,⟨⟨_,f,_⟩,⟨g,i,_⟩,j,_⟩⟩ _ h=>aD hs (fun y=>⟨⟨(),a,b,(),c,d,y.1,()⟩,⟨⟨(),f,(),()⟩,⟨g,i,(),()⟩,y.2,()⟩⟩) (e,j) h.it,trivial⟩ fun _ _ h=>⟨_,h.it,by kernel_rfl⟩
def mP (x0:Int)(x1:List Int)(x2:Int)(x6:List Int)(K0:(List Int)->Prop)(K1:Unit->Prop)(s:Int×List Int)(nx:(Int×List Int)->Prop):Prop :=
 if (decide (s.1<x2))=true then ck ((0:Int)<=s.1/\s.1<(x1.length:Int)) (if ((decide ((x1.getD ((s.1).toNat) 0)<0))||(decide (x0<=(x1.getD ((s.1).toNat) 0))))=true then K1 ()else ck ((0:Int)<=(x1.getD ((s.1).toNat) 0)/\(x1.getD ((s.1).toNat) 0)<(s.2.length:Int)) (ck ((0:Int)<=s.1/\s.1<(x6.length:Int)) (ck ((0:Int)<=(x1.getD ((s.1).toNat) 0)/\(x1.getD ((s.1).toNat) 0)<(s.2.length:Int)) (nx (IntKind.i64.wrap (s.1+1),s.2.set ((x1.getD ((s.1).toNat) 0).toNat) (IntKind.i32.wrap ((s.2.getD ((x1.getD ((s.1).toNat) 0).toNat) 0)+(IntKind.i32.wrap (x6.getD ((s.1).toNat) 0)))))))))else K0 s.2
structure BX (x0:Int)(x1:List Int)(x2:Int)(x6:List Int)(K0:(List Int)->Prop)(K1:Unit->Prop)(s:Int×List Int):Prop where
 it:Go.Mach.Loop (mP x0 x1 x2 x6 K0 K1) s
structure BC (a0:bS)(a1 a2:List Int)(Q:(uT×Int)->Prop):Prop where
 it:jX a2 (fun r1=>bD a0 (fun r2=>if ((!r2)||(r1==0))=true then Q ((([]:List Int),(0,([]:List Int))),1)else if ((a1.length:Int) != (a0.2.2.length:Int))=true then Q ((([]:List Int),(0,([]:List Int))),2)else aN a2 (fun r3=>ck ((0:Int)<=r1/\((4:Nat):Int)*r1<=70368744177664) (BX r1 a1 (a1.length:Int) a0.2.2 (fun y4=>Q ((r3,(a0.2.1,y4)),0)) (fun _=>Q ((([]:List Int),(0,([]:List Int))),1)) (0,List.replicate (r1).toNat (0:Int))))))
def MY:Ent:=⟨[3,6,8,9,38,39,40],[sC (.ptr 0 0),sC (.ptr 1 0),sI,sC (.ptr 2 0),sZ (.int .i64),sI,sI],[.box [lZ (.int .i64),lI,lZ (.int .i8)] false,.box [.cst (.pl (.slice none 0 0)),lI,.cst (.pl (.slice none 0 0))] false,.box [.cst (.own 3),lI,.cst (.own 4)] false,.lst true (.int .i64) false,.lst true (.int .i32) false],fun⟨⟨_,_,a,_,b,c,d,_⟩,⟨⟨_,_,g,_⟩,⟨_,i,_⟩,⟨_,j,_⟩,l,m,_⟩⟩ k=>BX a b c g (fun y6=>k (.exit 1) ⟨[(6,.ptr 0 0),(9,.ptr 1 0)],[.box [.pl (.slice none 0 0),vI i,.pl (.slice none 0 0)] false,.box [.own 2,vI j,.own 3] false,.lst true (.int .i64) l false,.lst true (.int .i32) y6 false]⟩) (fun _=>k .ret ⟨[(6,.ptr 0 0),(7,vI 1)],[.box [.pl (.slice none 0 0),vI 0,.pl (.slice none 0 0)] false]⟩) (d,m)⟩
def iZ:=YV.put tt 139 Tryz.func139 [6,7] [] [(250,MY)] [.agg [lZ (.int .i64),lI,lZ (.int .i8)],sZ (.int .i64),sZ (.int .i64)] [] [(true,wL),(false,(.int .i64))] (fun x=>BC (x.1.1,(x.1.2.1,x.1.2.2.1)) x.2.1 x.2.2.1) ⟨fun _ _ hs ⟨⟨_,_,a,_,b,c,d,_⟩,⟨⟨e,f,g,_⟩,⟨_,i,_⟩,⟨_,j,_⟩,l,m,_⟩⟩ _ h=>aD hs (fun y=>⟨⟨(),(),a,(),b,c,y.1,()⟩,⟨⟨e,f,g,()⟩,⟨(),i,(),()⟩,⟨(),j,(),()⟩,l,y.2,()⟩⟩) (d,m) h.it,trivial⟩ fun _ _ h=>⟨_,h.it,by kernel_rfl⟩
def aU (x0 x1:Int)(x11 x12:List Int)(K0:(List Int)->Prop)(s:Int×List Int)(nx:(Int×List Int)->Prop):Prop :=
 if (decide (s.1<x1))=true then ck ((0:Int)<=s.1/\s.1<(x12.length:Int)) (ck ((0:Int)<=(x12.getD ((s.1).toNat) 0)/\(x12.getD ((s.1).toNat) 0)<(s.2.length:Int)) (ck ((0:Int)<=x0/\x0<(x11.length:Int)) (ck ((0:Int)<=(x12.getD ((s.1).toNat) 0)/\(x12.getD ((s.1).toNat) 0)<(s.2.length:Int)) (nx (IntKind.i64.wrap (s.1+1),s.2.set ((x12.getD ((s.1).toNat) 0).toNat) (IntKind.i32.wrap ((s.2.getD ((x12.getD ((s.1).toNat) 0).toNat) 0)+(IntKind.i32.wrap (x11.getD ((x0).toNat) 0)))))))))else K0 s.2
structure bT (x0 x1:Int)(x11 x12:List Int)(K0:(List Int)->Prop)(s:Int×List Int):Prop where
 it:Go.Mach.Loop (aU x0 x1 x11 x12 K0) s
def iX:Ent:=⟨[0,2,3,8,9,10,30,31,34,39,40,47,48,109,113],[sI,sC (.ptr 0 0),sC (.ptr 1 0),sC (.own 2),sI,sI,.fn 181 [.lf (.cst (.ptr 0 0)),.lf (.cst (.ptr 1 0))],sC (.ptr 3 0),sI,sI,sI,sI,sI,sC (.ptr 4 0),sC (.ptr 0 0)],[.box [.cst (.own 5),lI,.cst (.own 6)] false,.box [lZ (.int .i64),lI,lZ (.int .i8)] false,.lst true (.int .i64) false,.box [lI,lI,lI,lI,lI,lI] false,.box [.cst (.pl (.slice none 0 0)),lI,.cst (.pl (.slice none 0 0))] false,.lst true (.int .i64) false,.lst true (.int .i32) false],fun⟨⟨a,_,_,_,b,c,_,_,d,e,f,g,i,_⟩,⟨⟨_,j,_⟩,⟨l,m,n,_⟩,o,⟨p,q,t,u,w,z,_⟩,⟨_,a0,_⟩,a1,a2,_⟩⟩ k=>bT a b n o (fun yii3=>k (.exit 0) ⟨[(30,.fn 181 [.ptr 0 0,.ptr 1 0]),(31,.ptr 2 0),(34,vI d),(39,vI e),(40,vI f),(47,vI g),(48,vI i),(109,.ptr 3 0),(113,.ptr 0 0)],[.box [.own 4,vI j,.own 5] false,.box [vZ (.int .i64) l,vI m,vZ (.int .i8) n] false,.box [vI p,vI q,vI t,vI u,vI w,vI z] false,.box [.pl (.slice none 0 0),vI a0,.pl (.slice none 0 0)] false,.lst true (.int .i64) a1 false,.lst true (.int .i32) yii3 false]⟩) (c,a2)⟩
def bW:Inl:=QY (iZ.cfg tt none false 0) 181 Tryz.f181 [(6,iX)] [30,31,34,39,40,47,48,109,113] []
theorem iT:cC Tryz.prog bW:=sX (G:=(iZ.cfg tt none false 0)) Tryz.func181 iZ.ok hI0 ⟨fun _ _ hs ⟨⟨a,_,_,_,b,c,_,_,d,e,f,g,i,_⟩,⟨⟨_,j,_⟩,⟨l,m,n,_⟩,o,⟨p,q,t,u,w,z,_⟩,⟨_,a0,_⟩,a1,a2,_⟩⟩ _ h=>aD hs (fun y=>⟨⟨a,(),(),(),b,y.1,⟨(),(),()⟩,(),d,e,f,g,i,(),(),()⟩,⟨⟨(),j,(),()⟩,⟨l,m,n,()⟩,o,⟨p,q,t,u,w,z,()⟩,⟨(),a0,(),()⟩,a1,y.2,()⟩⟩) (c,a2) h.it,trivial⟩
def cH (x0 x6 x12 x13:Int)(x19:List bL)(K0:(List Int)->Prop)(s:Int×List Int)(nx:(Int×List Int)->Prop):Prop :=
 if (decide (s.1<x6))=true then ck ((0:Int)<=s.1/\s.1<(x19.length:Int)) (ck ((s.2.length+[IntKind.i64.wrap ((IntKind.i64.wrap ((IntKind.i64.wrap (x0*x12))*x13))+((x19.getD ((s.1).toNat) (0,(0,0))).1))].length)*8<=140737488355328) (nx (IntKind.i64.wrap (s.1+1),s.2++[IntKind.i64.wrap ((IntKind.i64.wrap ((IntKind.i64.wrap (x0*x12))*x13))+((x19.getD ((s.1).toNat) (0,(0,0))).1))])))else K0 s.2
structure d9 (x0 x6 x12 x13:Int)(x19:List bL)(K0:(List Int)->Prop)(s:Int×List Int):Prop where
 it:Go.Mach.Loop (cH x0 x6 x12 x13 x19 K0) s
def cK (x0 x3:Int)(x8:List Int)(x9 x10 x11 x12 x13 x14:Int)(K0:(List Int)->Prop)(s:Int×List Int)(nx:(Int×List Int)->Prop):Prop :=
 if (decide (s.1<x3))=true then ck (x14≠(0:Int)) (ck (x14≠(0:Int)) (nY x9 x10 (IntKind.i64.wrap ((s.1).tdiv x14)) ((s.1).tmod x14) x11 x12 0 (fun ri1=>d9 x0 (ri1.length:Int) x9 x10 ri1 (fun yi2=>bT (IntKind.i64.wrap ((IntKind.i64.wrap ((IntKind.i64.wrap (x0*x13))*x14))+s.1)) (yi2.length:Int) x8 yi2 (fun yii2=>nx (IntKind.i64.wrap (s.1+1),yii2)) (0,s.2)) (0,([]:List Int)))))else K0 s.2
structure eB (x0 x3:Int)(x8:List Int)(x9 x10 x11 x12 x13 x14:Int)(K0:(List Int)->Prop)(s:Int×List Int):Prop where
 it:Go.Mach.Loop (cK x0 x3 x8 x9 x10 x11 x12 x13 x14 K0) s
def cG (x0:Int)(x5:List Int)(x6 x7 x8 x9 x10 x11:Int)(K0:(List Int)->Prop)(s:Int×List Int)(nx:(Int×List Int)->Prop):Prop :=
 if (decide (s.1<x0))=true then eB s.1 (IntKind.i64.wrap (x10*x11)) x5 x6 x7 x8 x9 x10 x11 (fun yi1=>nx (IntKind.i64.wrap (s.1+1),yi1)) (0,s.2)else K0 s.2
structure eC (x0:Int)(x5:List Int)(x6 x7 x8 x9 x10 x11:Int)(K0:(List Int)->Prop)(s:Int×List Int):Prop where
 it:Go.Mach.Loop (cG x0 x5 x6 x7 x8 x9 x10 x11 K0) s
def pQ:Ent:=⟨[2,3,11,12,81,85],[.fn 181 [.lf (.cst (.ptr 0 0)),.lf (.cst (.ptr 1 0))],sC (.ptr 2 0),sI,sI,sC (.ptr 3 0),sC (.ptr 0 0)],[.box [.cst (.own 4),lI,.cst (.own 5)] false,.box [lZ (.int .i64),lI,lZ (.int .i8)] false,.box [lI,lI,lI,lI,lI,lI] false,.box [.cst (.pl (.slice none 0 0)),lI,.cst (.pl (.slice none 0 0))] false,.lst true (.int .i64) false,.lst true (.int .i32) false],fun⟨⟨_,_,a,b,_⟩,⟨⟨_,c,_⟩,⟨_,_,f,_⟩,⟨g,i,j,l,m,n,_⟩,⟨_,o,_⟩,p,q,_⟩⟩ k=>eC a f g i j l m n (fun yi3=>k (.exit 0) ⟨[(81,.ptr 0 0),(85,.ptr 1 0)],[.box [.pl (.slice none 0 0),vI o,.pl (.slice none 0 0)] false,.box [.own 2,vI c,.own 3] false,.lst true (.int .i64) p false,.lst true (.int .i32) yi3 false]⟩) (b,q)⟩
def pU:Ent:=⟨[2,3,6,11,12,19,20,81,85],[.fn 181 [.lf (.cst (.ptr 0 0)),.lf (.cst (.ptr 1 0))],sC (.ptr 2 0),sI,sI,sI,sI,sI,sC (.ptr 3 0),sC (.ptr 0 0)],[.box [.cst (.own 4),lI,.cst (.own 5)] false,.box [lZ (.int .i64),lI,lZ (.int .i8)] false,.box [lI,lI,lI,lI,lI,lI] false,.box [.cst (.pl (.slice none 0 0)),lI,.cst (.pl (.slice none 0 0))] false,.lst true (.int .i64) false,.lst true (.int .i32) false],fun⟨⟨_,_,a,b,c,d,e,_⟩,⟨⟨_,f,_⟩,⟨g,i,j,_⟩,⟨l,m,n,o,p,q,_⟩,⟨_,t,_⟩,u,w,_⟩⟩ k=>eB a d j l m n o p q (fun yi4=>k (.exit 2) ⟨[(2,.fn 181 [.ptr 0 0,.ptr 1 0]),(3,.ptr 2 0),(11,vI b),(12,vI c),(81,.ptr 3 0),(85,.ptr 0 0)],[.box [.own 4,vI f,.own 5] false,.box [vZ (.int .i64) g,vI i,vZ (.int .i8) j] false,.box [vI l,vI m,vI n,vI o,vI p,vI q] false,.box [.pl (.slice none 0 0),vI t,.pl (.slice none 0 0)] false,.lst true (.int .i64) u false,.lst true (.int .i32) yi4 false]⟩) (e,w)⟩
def pR:Ent:=⟨[2,3,6,7,8,11,12,19,20,39,40,41,81,85],[.fn 181 [.lf (.cst (.ptr 0 0)),.lf (.cst (.ptr 1 0))],sC (.ptr 2 0),sI,sI,sC (.pl (.slice none 0 0)),sI,sI,sI,sI,sC (.own 3),sI,sI,sC (.ptr 4 0),sC (.ptr 0 0)],[.box [.cst (.own 5),lI,.cst (.own 6)] false,.box [lZ (.int .i64),lI,lZ (.int .i8)] false,.box [lI,lI,lI,lI,lI,lI] false,.lst true bY false,.box [.cst (.pl (.slice none 0 0)),lI,.cst (.pl (.slice none 0 0))] false,.lst true (.int .i64) false,.lst true (.int .i32) false],fun⟨⟨_,_,a,b,_,c,d,e,f,_,g,i,_⟩,⟨⟨_,j,_⟩,⟨l,m,n,_⟩,⟨o,p,q,t,u,w,_⟩,z,⟨_,a0,_⟩,a1,a2,_⟩⟩ k=>d9 a g o p z (fun yi5=>k (.exit 4) ⟨[(2,.fn 181 [.ptr 0 0,.ptr 1 0]),(3,.ptr 2 0),(6,vI a),(7,vI b),(8,.own 3),(11,vI c),(12,vI d),(19,vI e),(20,vI f),(81,.ptr 4 0),(85,.ptr 0 0)],[.box [.own 5,vI j,.own 6] false,.box [vZ (.int .i64) l,vI m,vZ (.int .i8) n] false,.box [vI o,vI p,vI q,vI t,vI u,vI w] false,.lst true (.int .i64) yi5 false,.box [.pl (.slice none 0 0),vI a0,.pl (.slice none 0 0)] false,.lst true (.int .i64) a1 false,.lst true (.int .i32) a2 false]⟩) (i,([]:List Int))⟩
def jD:Inl:=QY (iZ.cfg tt (some bW) false 0) 107 Tryz.f107 [(14,pQ),(3686,pU),(3774874,pR)] [81,85] [(3774874,[⟨8,none,false,(.int .i64)⟩])]
theorem oU:cC Tryz.prog jD:=sX (G:=(iZ.cfg tt (some bW) false 0)) Tryz.func107 iZ.ok (hI1 iT) ⟨fun _ _ hs ⟨⟨_,_,a,b,_⟩,⟨⟨_,c,_⟩,⟨d,e,f,_⟩,⟨g,i,j,l,m,n,_⟩,⟨_,o,_⟩,p,q,_⟩⟩ _ h=>aD hs (fun y=>⟨⟨⟨(),(),()⟩,(),a,y.1,(),(),()⟩,⟨⟨(),c,(),()⟩,⟨d,e,f,()⟩,⟨g,i,j,l,m,n,()⟩,⟨(),o,(),()⟩,p,y.2,()⟩⟩) (b,q) h.it,fun _ _ hs ⟨⟨_,_,a,b,c,d,e,_⟩,⟨⟨_,f,_⟩,⟨g,i,j,_⟩,⟨l,m,n,o,p,q,_⟩,⟨_,t,_⟩,u,w,_⟩⟩ _ h=>aD hs (fun y=>⟨⟨⟨(),(),()⟩,(),a,b,c,d,y.1,(),(),()⟩,⟨⟨(),f,(),()⟩,⟨g,i,j,()⟩,⟨l,m,n,o,p,q,()⟩,⟨(),t,(),()⟩,u,y.2,()⟩⟩) (e,w) h.it,fun _ _ hs ⟨⟨_,_,a,b,_,c,d,e,f,_,g,i,_⟩,⟨⟨_,j,_⟩,⟨l,m,n,_⟩,⟨o,p,q,t,u,w,_⟩,z,⟨_,a0,_⟩,a1,a2,_⟩⟩ _ h=>dV hs (fun y=>⟨[(2,.fn 181 [.ptr 0 0,.ptr 1 0]),(3,.ptr 2 0),(6,vI a),(7,vI b),(8,.own 3),(11,vI c),(12,vI d),(19,vI e),(20,vI f),(39,.own 4),(40,vI g),(41,vI y.1),(81,.ptr 5 0),(85,.ptr 0 0)],[.box [.own 6,vI j,.own 7] false,.box [vZ (.int .i64) l,vI m,vZ (.int .i8) n] false,.box [vI o,vI p,vI q,vI t,vI u,vI w] false,.lst true (.int .i64) y.2 false,.lst true bY z false,.box [.pl (.slice none 0 0),vI a0,.pl (.slice none 0 0)] false,.lst true (.int .i64) a1 false,.lst true (.int .i32) a2 false]⟩) (i,([]:List Int)) h.it,trivial⟩
structure BF (a0:bS)(a1:List Int)(a2 a3:Int)(Q:(uT×Int)->Prop):Prop where
 it:bD a0 (fun r1=>jn (fun v2=>if v2=true then Q ((([]:List Int),(0,([]:List Int))),1)else yX a1 a2 a3 (fun r5=>jn (fun v6=>if v6=true then Q ((([]:List Int),(0,([]:List Int))),2)else aN a1 (fun r9=>JN a2 (fun r10=>jX a1 (fun r11=>ck ((0:Int)<=r11/\((4:Nat):Int)*r11<=70368744177664) (ck ((0:Int)<=0/\0<(a1.length:Int)) (ck ((0:Int)<=1/\1<(a1.length:Int)) (eC (IntKind.i64.wrap ((a1.getD 0 0)*(a1.getD 1 0))) a0.2.2 r5.1.1 r5.1.2.1 r5.1.2.2.1 r5.1.2.2.2.1 r5.1.2.2.2.2.1 r5.1.2.2.2.2.2 (fun yi2=>Q ((r9,((IntKind.i64.wrap (a0.2.1-r10)),yi2)),0)) (0,List.replicate (r11).toNat (0:Int))))))))) (fun J7=>if (!r5.2)=true then J7 true else ck ((0:Int)<=0/\0<(a1.length:Int)) (ck ((0:Int)<=1/\1<(a1.length:Int)) (fC a0.1 [a1.getD 0 0,a1.getD 1 0,r5.1.2.2.2.2.1,r5.1.2.2.2.2.2] (fun r8=>J7 (!r8))))))) (fun J3=>if (!r1)=true then J3 true else fY a1 (fun r4=>J3 (!r4))))
def PO:=iZ.putX tt 140 Tryz.func140 [8,9] [] [] [.agg [lZ (.int .i64),lI,lZ (.int .i8)],sZ (.int .i64),sI,sI] [] [(true,wL),(false,(.int .i64))] (fun x=>BF (x.1.1,(x.1.2.1,x.1.2.2.1)) x.2.1 x.2.2.1 x.2.2.2.1) [] (some jD) false 0 (hI1 oU) trivial fun _ _ h=>⟨_,h.it,by kernel_rfl⟩
structure CB (a0:Int)(a1:List Int)(a2:Int)(a3 a4:List Int)(a5:Int)(a6:List Int)(Q:Int->Prop):Prop where
 it:ck ((0:Int)<=a0/\a0<(a3.length:Int)) (if (decide (0<(a3.getD ((a0).toNat) 0)))=true then ck ((0:Int)<=a0/\a0<(a6.length:Int)) (Q (a6.getD ((a0).toNat) 0))else Q 0)
def I8:=PO.put tt 178 Tryz.func178 [4] [] [] [sI,.bx [lZ (.int .i64),lI,lZ (.int .i8)],.bx [lZ (.int .i64),lI,lZ (.int .i8)]] [] [(false,(.int .i8))] (fun x=>CB x.1 x.2.1.1 x.2.1.2.1 x.2.1.2.2.1 x.2.2.1.1 x.2.2.1.2.1 x.2.2.1.2.2.1) trivial fun _ _ h=>⟨_,h.it,by kernel_rfl⟩
def dJ (x0:List Int)(x1:Int)(x2 x3:List Int)(x4:Int)(x5:List Int)(x6:Int)(K0:(List Int)->Prop)(s:Int×List Int)(nx:(Int×List Int)->Prop):Prop :=
 if (decide (s.1<x6))=true then CB s.1 x0 x1 x2 x3 x4 x5 (fun r3=>ck ((s.2.length+[r3].length)*1<=140737488355328) (nx (IntKind.i64.wrap (s.1+1),s.2++[r3])))else K0 s.2
structure kU (x0:List Int)(x1:Int)(x2 x3:List Int)(x4:Int)(x5:List Int)(x6:Int)(K0:(List Int)->Prop)(s:Int×List Int):Prop where
 it:Go.Mach.Loop (dJ x0 x1 x2 x3 x4 x5 x6 K0) s
structure nK (a0:bS)(a1:List Int)(a2:Int)(a3 a4:List Int)(a5:Int)(a6:List Int)(Q:bS->Prop):Prop where
 it:aN a0.1 (fun r1=>kU a1 a2 a3 a4 a5 a6 (a0.2.2.length:Int) (fun y4=>Q (r1,(a0.2.1,y4))) (0,([]:List Int)))
def tG:Ent:=⟨[1,4,5,15,16],[.fn 178 [.bx [lZ (.int .i64),lI,lZ (.int .i8)],.bx [lZ (.int .i64),lI,lZ (.int .i8)]],sC (.ptr 0 0),sC (.ptr 1 0),sI,sI],[.box [.cst (.pl (.slice none 0 0)),lI,.cst (.pl (.slice none 0 0))] false,.box [.cst (.own 2),lI,.cst (.pl (.slice none 0 0))] false,.lst true (.int .i64) false],fun⟨⟨⟨⟨a,b,c,_⟩,⟨d,e,f,_⟩,_⟩,_,_,g,i,_⟩,⟨⟨_,j,_⟩,⟨_,l,_⟩,m,_⟩⟩ k=>kU a b c d e f g (fun y5=>k (.exit 0) ⟨[(4,.ptr 0 0),(5,.ptr 1 0)],[.box [.pl (.slice none 0 0),vI j,.pl (.slice none 0 0)] false,.box [.own 2,vI l,.own 3] false,.lst true (.int .i64) m false,.lst true (.int .i8) y5 false]⟩) (i,([]:List Int))⟩
def tO:=I8.putX tt 109 Tryz.func109 [4] [(58,[⟨5,some 2,false,(.int .i8)⟩])] [(58,tG)] [.agg [lZ (.int .i64),lI,lZ (.int .i8)],.fn 178 [.bx [lZ (.int .i64),lI,lZ (.int .i8)],.bx [lZ (.int .i64),lI,lZ (.int .i8)]]] [] [(true,aY)] (fun x=>nK (x.1.1,(x.1.2.1,x.1.2.2.1)) x.2.1.1.1 x.2.1.1.2.1 x.2.1.1.2.2.1 x.2.1.2.1.1 x.2.1.2.1.2.1 x.2.1.2.1.2.2.1) [178] none false 0 hI0 ⟨fun _ _ hs ⟨⟨⟨⟨a,b,c,_⟩,⟨d,e,f,_⟩,_⟩,_,_,g,i,_⟩,⟨⟨_,j,_⟩,⟨_,l,_⟩,m,_⟩⟩ _ h=>dV hs (fun y=>⟨[(1,.fn 178 [.bx [vZ (.int .i64) a,vI b,vZ (.int .i8) c] 0,.bx [vZ (.int .i64) d,vI e,vZ (.int .i8) f] 0]),(4,.ptr 0 0),(5,.ptr 1 0),(15,vI g),(16,vI y.1)],[.box [.pl (.slice none 0 0),vI j,.pl (.slice none 0 0)] false,.box [.own 2,vI l,.own 3] false,.lst true (.int .i64) m false,.lst true (.int .i8) y.2 false]⟩) (i,([]:List Int)) h.it,trivial⟩ fun _ _ h=>⟨_,h.it,by kernel_rfl⟩
structure xV (a0 a1:bS)(Q:(bS×Int)->Prop):Prop where
 it:bD a0 (fun r1=>jn (fun v2=>if v2=true then Q ((([]:List Int),(0,([]:List Int))),1)else fC a0.1 a1.1 (fun r5=>if (!r5)=true then Q ((([]:List Int),(0,([]:List Int))),2)else nK a0 a1.1 a1.2.1 a1.2.2 a0.1 a0.2.1 a0.2.2 (fun r6=>Q (r6,0)))) (fun J3=>if (!r1)=true then J3 true else bD a1 (fun r4=>J3 (!r4))))
def MS:=tO.put tt 136 Tryz.func136 [4,5] [] [] [.agg [lZ (.int .i64),lI,lZ (.int .i8)],.agg [lZ (.int .i64),lI,lZ (.int .i8)]] [] [(true,aY),(false,(.int .i64))] (fun x=>xV (x.1.1,(x.1.2.1,x.1.2.2.1)) (x.2.1.1,(x.2.1.2.1,x.2.1.2.2.1))) trivial fun _ _ h=>⟨_,h.it,by kernel_rfl⟩
structure lK (x2:Int)(K0:Int->Prop):Prop where
 it:K0 (IntKind.i64.wrap (x2+1))
def gL (x0:List Int)(x1:Int)(K0:(List Int)->Prop)(s:Int×List Int)(nx:(Int×List Int)->Prop):Prop :=
 if (decide (s.1<x1))=true then jn (fun v1=>if v1=true then ck ((0:Int)<=s.1/\s.1<(x0.length:Int)) (ck ((0:Int)<=s.1/\s.1<(s.2.length:Int)) (lK s.1 (fun y3=>nx (y3,(s.2.set ((s.1).toNat) (x0.getD ((s.1).toNat) 0))))))else lK s.1 (fun y4=>nx (y4,s.2))) (fun J2=>if (decide (s.1<(x0.length:Int)))=true then ck ((0:Int)<=s.1/\s.1<(x0.length:Int)) (J2 ((x0.getD ((s.1).toNat) 0) != (-128)))else J2 false)else K0 s.2
structure qP (x0:List Int)(x1:Int)(K0:(List Int)->Prop)(s:Int×List Int):Prop where
 it:Go.Mach.Loop (gL x0 x1 K0) s
structure oM (a0:bS)(a1:List Int)(a2:Int)(Q:bS->Prop):Prop where
 it:ck ((([]:List Int).length+a0.1.length)*8<=140737488355328) (ck (20≠(0:Int)) (ck ((0:Int)<=(a0.2.2.length:Int)/\((1:Nat):Int)*(a0.2.2.length:Int)<=70368744177664) (qP a1 ((List.replicate ((a0.2.2.length:Int)).toNat (0:Int)).length:Int) (fun y5=>Q ((([]:List Int)++a0.1),(((a2).tmod 20),y5))) (0,List.replicate ((a0.2.2.length:Int)).toNat (0:Int)))))
def BO:Ent:=⟨[1,6,7,22,23],[sZ (.int .i8),sC (.ptr 0 0),sC (.ptr 1 0),sI,sI],[.box [.cst (.pl (.slice none 0 0)),lI,.cst (.pl (.slice none 0 0))] false,.box [.cst (.own 2),lI,.cst (.own 3)] false,.lst true (.int .i64) false,.lst true (.int .i8) false],fun⟨⟨a,_,_,b,c,_⟩,⟨⟨_,d,_⟩,⟨_,e,_⟩,f,g,_⟩⟩ k=>qP a b (fun y6=>k (.exit 0) ⟨[(6,.ptr 0 0),(7,.ptr 1 0)],[.box [.pl (.slice none 0 0),vI d,.pl (.slice none 0 0)] false,.box [.own 2,vI e,.own 3] false,.lst true (.int .i64) f false,.lst true (.int .i8) y6 false]⟩) (c,g)⟩
def zP:Ent:=⟨[1,6,7,22,23],[sZ (.int .i8),sC (.ptr 0 0),sC (.ptr 1 0),sI,sI],[.box [.cst (.pl (.slice none 0 0)),lI,.cst (.pl (.slice none 0 0))] false,.box [.cst (.own 2),lI,.cst (.own 3)] false,.lst true (.int .i64) false,.lst true (.int .i8) false],fun⟨⟨a,_,_,b,c,_⟩,⟨⟨_,d,_⟩,⟨_,e,_⟩,f,g,_⟩⟩ k=>lK c (fun y7=>k .normal ⟨[(1,vZ (.int .i8) a),(6,.ptr 0 0),(7,.ptr 1 0),(22,vI b),(23,vI y7)],[.box [.pl (.slice none 0 0),vI d,.pl (.slice none 0 0)] false,.box [.own 2,vI e,.own 3] false,.lst true (.int .i64) f false,.lst true (.int .i8) g false]⟩)⟩
def C1:=MS.put tt 15 Tryz.func15 [6] [] [(58,BO),(935,zP)] [.agg [lZ (.int .i64),lI,lZ (.int .i8)],sZ (.int .i8),sI] [] [(true,aY)] (fun x=>oM (x.1.1,(x.1.2.1,x.1.2.2.1)) x.2.1 x.2.2.1) ⟨fun _ _ hs ⟨⟨a,_,_,b,c,_⟩,⟨⟨_,d,_⟩,⟨_,e,_⟩,f,g,_⟩⟩ _ h=>aD hs (fun y=>⟨⟨a,(),(),b,y.1,()⟩,⟨⟨(),d,(),()⟩,⟨(),e,(),()⟩,f,y.2,()⟩⟩) (c,g) h.it,fun _ _ hs ⟨⟨_,_,_,_,_,_⟩,⟨⟨_,_,_⟩,⟨_,_,_⟩,_,_,_⟩⟩ _ h=>aI hs h.it,trivial⟩ fun _ _ h=>⟨_,h.it,by kernel_rfl⟩
end
end Go.Proofs.YtcfpfefadlnmcaaGreat

namespace Go.Proofs.YtcfpfefadlnmcaaGreat
open Go.Mach
set_option maxRecDepth 100000
set_option linter.unusedVariables false
noncomputable section
structure uC (a0:bS)(Q:Bool->Prop):Prop where
 it:bD a0 (fun r1=>Q (!r1))
def CU:=C1.put tt 81 Tryz.func81 [2] [] [] [.agg [lZ (.int .i64),lI,lZ (.int .i8)]] [] [(false,.bool)] (fun x=>uC (x.1.1,(x.1.2.1,x.1.2.2.1))) trivial fun _ _ h=>⟨_,h.it,by kernel_rfl⟩
def aH (x0:List bS)(x1:Int)(K0:Unit->Prop)(K1:Int->Prop)(s:Int)(nx:Int->Prop):Prop :=
 if (decide (s<x1))=true then ck ((0:Int)<=s/\s<(x0.length:Int)) (uC (x0.getD ((s).toNat) ([],(0,[]))) (fun r1=>if r1=true then K1 s else nx (IntKind.i64.wrap (s+1))))else K0 ()
structure cA (x0:List bS)(x1:Int)(K0:Unit->Prop)(K1:Int->Prop)(s:Int):Prop where
 it:Go.Mach.Loop (aH x0 x1 K0 K1) s
structure cF (a0:List bS)(Q:Int->Prop):Prop where
 it:cA a0 (a0.length:Int) (fun _=>Q (-1)) (fun y3=>Q y3) 0
def fE:Ent:=⟨[0,1,7,8],[sZ aY,sC (.fn 81 []),sI,sI],[],fun⟨⟨a,_,b,c,_⟩,_⟩ k=>cA a b (fun _=>k (.exit 0) ⟨[],[]⟩) (fun y5=>k .ret ⟨[(4,vI y5)],[]⟩) c⟩
def fN:=CU.putX tt 129 Tryz.func129 [4] [] [(26,fE)] [sZ aY,.fn 81 []] [] [(false,(.int .i64))] (fun x=>cF x.1) [81] none false 0 hI0 ⟨fun _ _ hs ⟨⟨a,_,b,c,_⟩,_⟩ _ h=>aD hs (fun y=>⟨⟨a,(),b,y,()⟩,()⟩) c h.it,trivial⟩ fun _ _ h=>⟨_,h.it,by kernel_rfl⟩
structure aV (a0:List bS)(Q:Bool->Prop):Prop where
 it:cF a0 (fun r1=>Q (decide (0<=r1)))
def eX:=fN.putX tt 80 Tryz.func80 [4] [] [] [sZ aY,.fn 81 []] [] [(false,.bool)] (fun x=>aV x.1) [81] none false 0 hI0 trivial fun _ _ h=>⟨_,h.it,by kernel_rfl⟩
def oE (a0:Int)(Q:List Int->Prop):Prop:=(1<=a0/\a0<=1099511627776)/\Q ([]:List Int)
def iO:List Sh:=[.lf (.cst (.pl (.slice none 0 0))),.lf (.int .i64)]
def CR (x:uJ iO)(Q:List (Bool×List VV)->Prop):Prop:=oE x.2.1 (fun(r:List Int)=>Q (kK [(false,.slc (.int .i64))] [.n] (r,())))
theorem yZ (x:uJ iO)(Q:List (Bool×List VV)->Prop)(h:CR x Q):mS Tryz.prog 130 (vG iO x) Q:=by
 exact Go.Mach.grow_snd _ Q h.1 h.2
noncomputable def C2:Tb Tryz.prog:=eX.add 130 iO yZ
structure gH (x4:Int)(K0:Int->Prop):Prop where
 it:K0 (IntKind.i64.wrap (x4+1))
def mZ (x2:List (List Int))(x3:Int)(K0:Int->Prop)(s:Int×Int)(nx:(Int×Int)->Prop):Prop :=
 if (decide (s.2<x3))=true then ck ((0:Int)<=s.2/\s.2<(x2.length:Int)) (if (decide ((IntKind.i64.wrap (s.1+((x2.getD ((s.2).toNat) []).length:Int)))<0))=true then False else gH s.2 (fun y1=>nx ((IntKind.i64.wrap (s.1+((x2.getD ((s.2).toNat) []).length:Int))),y1)))else K0 s.1
structure o6 (x2:List (List Int))(x3:Int)(K0:Int->Prop)(s:Int×Int):Prop where
 it:Go.Mach.Loop (mZ x2 x3 K0) s
def nJ (x0:List (List Int))(x1:Int)(K0:(List Int)->Prop)(s:Int×List Int)(nx:(Int×List Int)->Prop):Prop :=
 if (decide (s.1<x1))=true then ck ((0:Int)<=s.1/\s.1<(x0.length:Int)) (ck ((s.2.length+(x0.getD ((s.1).toNat) []).length)*8<=140737488355328) (nx (IntKind.i64.wrap (s.1+1),s.2++(x0.getD ((s.1).toNat) []))))else K0 s.2
structure j8 (x0:List (List Int))(x1:Int)(K0:(List Int)->Prop)(s:Int×List Int):Prop where
 it:Go.Mach.Loop (nJ x0 x1 K0) s
structure jB (a0:List (List Int))(Q:(List Int)->Prop):Prop where
 it:o6 a0 (a0.length:Int) (fun y2=>oE y2 (fun r3=>j8 a0 (a0.length:Int) (fun y4=>Q y4) (0,r3))) (0,0)
def xZ:Ent:=⟨[0,3,9,10,11],[sZ (.slc (.int .i64)),sI,sZ (.slc (.int .i64)),sI,sI],[],fun⟨⟨a,b,c,d,e,_⟩,_⟩ k=>o6 c d (fun y5=>k (.exit 0) ⟨[(0,vZ (.slc (.int .i64)) a),(3,vI y5)],[]⟩) (b,e)⟩
def xK:Ent:=⟨[6,25,26,27],[sC (.own 0),sZ (.slc (.int .i64)),sI,sI],[.lst true (.int .i64) false],fun⟨⟨_,a,b,c,_⟩,⟨d,_⟩⟩ k=>j8 a b (fun y6=>k (.exit 2) ⟨[(6,.own 0)],[.lst true (.int .i64) y6 false]⟩) (c,d)⟩
def xM:Ent:=⟨[0,3,9,10,11],[sZ (.slc (.int .i64)),sI,sZ (.slc (.int .i64)),sI,sI],[],fun⟨⟨a,b,c,d,e,_⟩,_⟩ k=>gH e (fun y7=>k .normal ⟨[(0,vZ (.slc (.int .i64)) a),(3,vI b),(9,vZ (.slc (.int .i64)) c),(10,vI d),(11,vI y7)],[]⟩)⟩
def yO:=C2.put tt 82 Tryz.func82 [2] [] [(58,xZ),(250,xK),(935,xM)] [sZ (.slc (.int .i64))] [] [(false,(.slc (.int .i64)))] (fun x=>jB x.1) ⟨fun _ _ hs ⟨⟨a,b,c,d,e,_⟩,_⟩ _ h=>aD hs (fun y=>⟨⟨a,y.1,c,d,y.2,()⟩,()⟩) (b,e) h.it,fun _ _ hs ⟨⟨_,a,b,c,_⟩,⟨d,_⟩⟩ _ h=>aD hs (fun y=>⟨⟨(),a,b,y.1,()⟩,⟨y.2,()⟩⟩) (c,d) h.it,fun _ _ hs ⟨⟨_,_,_,_,_,_⟩,_⟩ _ h=>aI hs h.it,trivial⟩ fun _ _ h=>⟨_,h.it,by kernel_rfl⟩
structure uE (a0:jC)(Q:Bool->Prop):Prop where
 it:Q (a0.1==3)
def CY:=yO.put tt 84 Tryz.func84 [2] [] [] [.agg [lI,lI,lI,lI,lI,lI,lB]] [] [(false,.bool)] (fun x=>uE (x.1.1,(x.1.2.1,(x.1.2.2.1,(x.1.2.2.2.1,(x.1.2.2.2.2.1,(x.1.2.2.2.2.2.1,x.1.2.2.2.2.2.2.1))))))) trivial fun _ _ h=>⟨_,h.it,by kernel_rfl⟩
def aK (x0:List jC)(x1:Int)(K0:Unit->Prop)(K1:Int->Prop)(s:Int)(nx:Int->Prop):Prop :=
 if (decide (s<x1))=true then ck ((0:Int)<=s/\s<(x0.length:Int)) (uE (x0.getD ((s).toNat) (0,(0,(0,(0,(0,(0,false))))))) (fun r1=>if r1=true then K1 s else nx (IntKind.i64.wrap (s+1))))else K0 ()
structure cD (x0:List jC)(x1:Int)(K0:Unit->Prop)(K1:Int->Prop)(s:Int):Prop where
 it:Go.Mach.Loop (aK x0 x1 K0 K1) s
structure cN (a0:List jC)(Q:Int->Prop):Prop where
 it:cD a0 (a0.length:Int) (fun _=>Q (-1)) (fun y3=>Q y3) 0
def fP:Ent:=⟨[0,1,7,8],[sZ bP,sC (.fn 84 []),sI,sI],[],fun⟨⟨a,_,b,c,_⟩,_⟩ k=>cD a b (fun _=>k (.exit 0) ⟨[],[]⟩) (fun y5=>k .ret ⟨[(4,vI y5)],[]⟩) c⟩
def fU:=CY.putX tt 131 Tryz.func131 [4] [] [(26,fP)] [sZ bP,.fn 84 []] [] [(false,(.int .i64))] (fun x=>cN x.1) [84] none false 0 hI0 ⟨fun _ _ hs ⟨⟨a,_,b,c,_⟩,_⟩ _ h=>aD hs (fun y=>⟨⟨a,(),b,y,()⟩,()⟩) c h.it,trivial⟩ fun _ _ h=>⟨_,h.it,by kernel_rfl⟩
structure aX (a0:List jC)(Q:Bool->Prop):Prop where
 it:cN a0 (fun r1=>Q (decide (0<=r1)))
def eZ:=fU.putX tt 83 Tryz.func83 [4] [] [] [sZ bP,.fn 84 []] [] [(false,.bool)] (fun x=>aX x.1) [84] none false 0 hI0 trivial fun _ _ h=>⟨_,h.it,by kernel_rfl⟩
def iQ (x9:List bS)(x10:Int)(x15:List (List Int))(K0 K1:Unit->Prop)(s:Int)(nx:Int->Prop):Prop :=
 if (decide (s<x10))=true then ck ((0:Int)<=s/\s<(x15.length:Int)) (ck ((0:Int)<=s/\s<(x9.length:Int)) (ck ((0:Int)<=0/\0<(x9.length:Int)) (ck (((x9.getD 0 ([],(0,[]))).1)≠[]/\(0:Int)<=0/\(0:Int)<=1/\1<=(((x9.getD 0 ([],(0,[]))).1).length:Int)) (jB [(((x9.getD 0 ([],(0,[]))).1).take ((1:Int)).toNat).drop ((0:Int)).toNat,x15.getD ((s).toNat) []] (fun r15=>fC ((x9.getD ((s).toNat) ([],(0,[]))).1) r15 (fun r16=>if (!r16)=true then K1 ()else nx (IntKind.i64.wrap (s+1))))))))else K0 ()
structure s4 (x9:List bS)(x10:Int)(x15:List (List Int))(K0 K1:Unit->Prop)(s:Int):Prop where
 it:Go.Mach.Loop (iQ x9 x10 x15 K0 K1) s
structure tJ (x0 x1 x2:Int)(x3:List jC)(x6:List (List Int))(x9:List bS)(x10:List Int)(K0:Int->Prop):Prop where
 it:qL ((x0,(x1,x2)),x3) (fun r14=>s4 x9 (r14.1.length:Int) r14.1 (fun _=>aX x3 (fun r16=>jn (fun v17=>jn (fun v21=>if v21=true then K0 2 else K0 0) (fun J22=>if v17=true then J22 true else ck ((0:Int)<=(IntKind.i64.wrap ((x9.length:Int)-1))/\(IntKind.i64.wrap ((x9.length:Int)-1))<(x9.length:Int)) (fC x10 ((x9.getD ((IntKind.i64.wrap ((x9.length:Int)-1)).toNat) ([],(0,[]))).1) (fun r23=>J22 (!r23))))) (fun J18=>if ((x6.length:Int) != (x9.length:Int))=true then jn (fun v19=>J18 v19) (fun J20=>if r16=true then J20 true else J20 (decide (0<(x6.length:Int))))else J18 false))) (fun _=>K0 2) 0)
structure rI (a0 a1 a2:Int)(a3:List jC)(a4:List gQ)(a5:List bS)(a6:List (List Int))(a7 a8:Int)(a9:bS)(Q:Int->Prop):Prop where
 it:jn (fun v1=>jn (fun v3=>jn (fun v6=>jn (fun v8=>jn (fun v11=>if v11=true then Q 1 else tJ a0 a1 a2 a3 a6 a5 a9.1 (fun y25=>Q y25)) (fun J12=>if v8=true then J12 true else aV a5 (fun r13=>J12 r13))) (fun J9=>if v6=true then J9 true else bD a9 (fun r10=>J9 (!r10)))) (fun J7=>if v3=true then J7 true else J7 ((a5.length:Int) != (IntKind.i64.wrap ((a3.length:Int)+1))))) (fun J4=>if v1=true then J4 true else AV ((a0,(a1,a2)),a3) a4 (fun r5=>J4 (!r5)))) (fun J2=>if (decide (a8<0))=true then J2 true else J2 (decide (1000000<a8)))
def D5:Ent:=⟨[0,3,5],[.bx [lI,lI,lI,lZ bP,lZ dM,lZ aY,lZ (.slc (.int .i64)),.cst (.pl (.slice none 0 0)),.int .u64,lI],sC (.ptr 0 0),sZ aY],[.box [lZ (.int .i64),lI,lZ (.int .i8)] false],fun⟨⟨⟨a,b,c,d,_,_,g,_⟩,_,l,_⟩,⟨⟨m,_⟩,_⟩⟩ k=>tJ a b c d g l m (fun y26=>k .ret ⟨[(4,vI y26)],[]⟩)⟩
def EM:Ent:=⟨[0,3,5,71,72,73],[.bx [lI,lI,lI,lZ bP,lZ dM,lZ aY,lZ (.slc (.int .i64)),.cst (.pl (.slice none 0 0)),.int .u64,lI],sC (.ptr 0 0),sZ aY,sC (.own 1),sI,sI],[.box [lZ (.int .i64),lI,lZ (.int .i8)] false,.lst true (.slc (.int .i64)) false],fun⟨⟨⟨a,b,c,d,e,f,g,_,i,j,_⟩,_,l,_,m,n,_⟩,⟨⟨o,p,q,_⟩,t,_⟩⟩ k=>s4 l m t (fun _=>k (.exit 0) ⟨[(0,.bx [vI a,vI b,vI c,vZ bP d,vZ dM e,vZ aY f,vZ (.slc (.int .i64)) g,.pl (.slice none 0 0),vK .u64 i,vI j] 0),(3,.ptr 0 0),(5,vZ aY l)],[.box [vZ (.int .i64) o,vI p,vZ (.int .i8) q] false]⟩) (fun _=>k .ret ⟨[(4,vI 2)],[]⟩) n⟩
def FF:=eZ.put tt 42 Tryz.func42 [4] [] [(15,D5),(250,EM)] [.bx [lI,lI,lI,lZ bP,lZ dM,lZ aY,lZ (.slc (.int .i64)),.cst (.pl (.slice none 0 0)),.int .u64,lI],.agg [lZ (.int .i64),lI,lZ (.int .i8)]] [] [(false,(.int .i64))] (fun x=>rI x.1.1 x.1.2.1 x.1.2.2.1 x.1.2.2.2.1 x.1.2.2.2.2.1 x.1.2.2.2.2.2.1 x.1.2.2.2.2.2.2.1 x.1.2.2.2.2.2.2.2.2.1 x.1.2.2.2.2.2.2.2.2.2.1 (x.2.1.1,(x.2.1.2.1,x.2.1.2.2.1))) ⟨fun _ _ hs ⟨⟨⟨_,_,_,_,_,_,_,_⟩,_,_,_⟩,⟨⟨_,_⟩,_⟩⟩ _ h=>aI hs h.it,fun _ _ hs ⟨⟨⟨a,b,c,d,e,f,g,_,i,j,_⟩,_,l,_,m,n,_⟩,⟨⟨o,p,q,_⟩,t,_⟩⟩ _ h=>aD hs (fun y=>⟨⟨⟨a,b,c,d,e,f,g,(),i,j,()⟩,(),l,(),m,y,()⟩,⟨⟨o,p,q,()⟩,t,()⟩⟩) n h.it,trivial⟩ fun _ _ h=>⟨_,h.it,by kernel_rfl⟩
structure iI (a0 a1 a2:Int)(a3:List jC)(a4:List gQ)(a5:List bS)(a6:List (List Int))(a7:List (List bS))(a8 a9:Int)(a10:uT)(a11 a12 a13:Int)(Q:(bS×Int)->Prop):Prop where
 it:if (a11 != 0)=true then Q ((([]:List Int),(0,([]:List Int))),a11)else m9 a9 a12 a13 (fun r1=>uM a10 8 a8 r1 (fun r2=>Q (r2.1,r2.2)))
def aP:=FF.put tt 141 Tryz.func141 [10,11] [] [] [.bx [lI,lI,lI,lZ bP,lZ dM,lZ aY,lZ (.slc (.int .i64)),lZ (.ref aY),.int .u64,lI],.agg [lZ (.int .i64),lI,lZ (.int .i32)],sI,sI,sI] [] [(true,aY),(false,(.int .i64))] (fun x=>iI x.1.1 x.1.2.1 x.1.2.2.1 x.1.2.2.2.1 x.1.2.2.2.2.1 x.1.2.2.2.2.2.1 x.1.2.2.2.2.2.2.1 x.1.2.2.2.2.2.2.2.1 x.1.2.2.2.2.2.2.2.2.1 x.1.2.2.2.2.2.2.2.2.2.1 (x.2.1.1,(x.2.1.2.1,x.2.1.2.2.1)) x.2.2.1 x.2.2.2.1 x.2.2.2.2.1) trivial fun _ _ h=>⟨_,h.it,by kernel_rfl⟩
structure bE (x0:Int)(x7:Bool)(x8:List Int)(x9:Int)(x10:List Int)(x11:Int)(x38 x39:List Int)(K0:(Int×Bool×(List Int)×Int×(List Int)×(List Int)×Int×List Int)->Prop):Prop where
 it:if (x0 != 0)=true then K0 (x0,false,([]:List Int),0,([]:List Int),([]:List Int),0,([]:List Int))else K0 (0,x7,x8,x9,x38,x10,x11,x39)
structure aO (x0 x1:Int)(x8:Bool)(x9:List Int)(x10:Int)(x11:List Int)(x12:Int)(x39 x40:List Int)(K0:(Int×Bool×(List Int)×Int×(List Int)×(List Int)×Int×List Int)->Prop):Prop where
 it:if (x0==0)=true then bE x1 x8 x9 x10 x11 x12 x39 x40 (fun yii3=>K0 (yii3.1,yii3.2.1,yii3.2.2.1,yii3.2.2.2.1,yii3.2.2.2.2.1,yii3.2.2.2.2.2.1,yii3.2.2.2.2.2.2.1,yii3.2.2.2.2.2.2.2))else bE x0 x8 x9 x10 x11 x12 x39 x40 (fun yii4=>K0 (yii4.1,yii4.2.1,yii4.2.2.1,yii4.2.2.2.1,yii4.2.2.2.2.1,yii4.2.2.2.2.2.1,yii4.2.2.2.2.2.2.1,yii4.2.2.2.2.2.2.2))
def g0:Ent:=⟨[8,10,11,12,57,58,61,63,64,65,66,67,172,174,175,176,177],[sC (.ptr 0 0),sC (.ptr 1 0),sI,sI,sC (.ptr 2 0),sI,sC (.ptr 3 0),sC (.ptr 4 0),sC (.ptr 5 0),.lf (.fp false aY),sC (.ptr 6 0),sC (.undef),sC (.ptr 2 0),sC (.own 7),sI,sC (.undef),sC (.undef)],[.box [lB,.cst (.pl (.slice none 0 0)),lI,.cst (.pl (.slice none 0 0)),.cst (.pl (.slice none 0 0)),lI,.cst (.pl (.slice none 0 0))] false,.box [lB,lZ (.int .i64),lI,.cst (.own 8),lZ (.int .i64),lI,.cst (.own 9)] false,.box [lI,lI,lI,lZ bP,lZ dM,lZ aY,lZ (.slc (.int .i64)),.cst (.own 10),.int .u64,lI] false,.box [lB,.cst (.pl (.slice none 0 0)),lI,.cst (.pl (.slice none 0 0)),.cst (.pl (.slice none 0 0)),lI,.cst (.pl (.slice none 0 0))] false,.box [lI,lI,lI,lI,lI,lI,lB] false,.box [lZ (.int .i64),lI,lZ (.int .i8)] false,.box [lB,.cst (.pl (.slice none 0 0)),lI,.cst (.pl (.slice none 0 0)),.cst (.pl (.slice none 0 0)),lI,.cst (.pl (.slice none 0 0))] false,.lst false jP false,.lst true (.int .i32) false,.lst true (.int .i32) false,.lst false (.ref aY) false],fun⟨⟨_,_,a,b,_,c,_,_,_,d,_,_,_,_,e,_⟩,⟨_,⟨j,l,m,_,n,o,_⟩,⟨p,q,t,u,w,z,a0,_,a1,a2,_⟩,⟨a3,_,a4,_,_,a5,_⟩,⟨a6,a7,a8,a9,b0,b1,b2,_⟩,⟨b3,b4,b5,_⟩,⟨b6,_,b7,_,_,b8,_⟩,b9,c0,c1,c2,_⟩⟩ k=>aO a b j l m n o c0 c1 (fun yii15=>k .ret ⟨[(8,.ptr 0 0),(9,vI yii15.1),(57,.ptr 1 0),(58,vI c),(61,.ptr 2 0),(63,.ptr 3 0),(64,.ptr 4 0),(65,.fptr false aY [d] 0 0),(66,.ptr 5 0),(67,.undef),(172,.ptr 1 0),(174,.own 6),(175,vI e),(176,.undef),(177,.undef)],[.box [vB yii15.2.1,vZ (.int .i64) yii15.2.2.1,vI yii15.2.2.2.1,vZ (.int .i32) yii15.2.2.2.2.1,vZ (.int .i64) yii15.2.2.2.2.2.1,vI yii15.2.2.2.2.2.2.1,vZ (.int .i32) yii15.2.2.2.2.2.2.2] false,.box [vI p,vI q,vI t,vZ bP u,vZ dM w,vZ aY z,vZ (.slc (.int .i64)) a0,.own 7,vK .u64 a1,vI a2] false,.box [vB a3,.pl (.slice none 0 0),vI a4,.pl (.slice none 0 0),.pl (.slice none 0 0),vI a5,.pl (.slice none 0 0)] false,.box [vI a6,vI a7,vI a8,vI a9,vI b0,vI b1,vB b2] false,.box [vZ (.int .i64) b3,vI b4,vZ (.int .i8) b5] false,.box [vB b6,.pl (.slice none 0 0),vI b7,.pl (.slice none 0 0),.pl (.slice none 0 0),vI b8,.pl (.slice none 0 0)] false,.lst false jP b9 false,.lst false (.ref aY) c2 false]⟩)⟩
def g9:Ent:=⟨[8,10,11,57,58,61,63,64,65,66,67,172,174,175,176,177],[sC (.ptr 0 0),sC (.ptr 1 0),sI,sC (.ptr 2 0),sI,sC (.ptr 3 0),sC (.ptr 4 0),sC (.ptr 5 0),.lf (.fp false aY),sC (.ptr 6 0),sC (.undef),sC (.ptr 2 0),sC (.own 7),sI,sC (.undef),sC (.undef)],[.box [lB,.cst (.pl (.slice none 0 0)),lI,.cst (.pl (.slice none 0 0)),.cst (.pl (.slice none 0 0)),lI,.cst (.pl (.slice none 0 0))] false,.box [lB,lZ (.int .i64),lI,.cst (.own 8),lZ (.int .i64),lI,.cst (.own 9)] false,.box [lI,lI,lI,lZ bP,lZ dM,lZ aY,lZ (.slc (.int .i64)),.cst (.own 10),.int .u64,lI] false,.box [lB,.cst (.pl (.slice none 0 0)),lI,.cst (.pl (.slice none 0 0)),.cst (.pl (.slice none 0 0)),lI,.cst (.pl (.slice none 0 0))] false,.box [lI,lI,lI,lI,lI,lI,lB] false,.box [lZ (.int .i64),lI,lZ (.int .i8)] false,.box [lB,.cst (.pl (.slice none 0 0)),lI,.cst (.pl (.slice none 0 0)),.cst (.pl (.slice none 0 0)),lI,.cst (.pl (.slice none 0 0))] false,.lst false jP false,.lst true (.int .i32) false,.lst true (.int .i32) false,.lst false (.ref aY) false],fun⟨⟨_,_,a,_,b,_,_,_,c,_,_,_,_,d,_⟩,⟨_,⟨i,j,l,_,m,n,_⟩,⟨o,p,q,t,u,w,z,_,a0,a1,_⟩,⟨a2,_,a3,_,_,a4,_⟩,⟨a5,a6,a7,a8,a9,b0,b1,_⟩,⟨b2,b3,b4,_⟩,⟨b5,_,b6,_,_,b7,_⟩,b8,b9,c0,c1,_⟩⟩ k=>bE a i j l m n b9 c0 (fun yii16=>k .ret ⟨[(8,.ptr 0 0),(9,vI yii16.1),(57,.ptr 1 0),(58,vI b),(61,.ptr 2 0),(63,.ptr 3 0),(64,.ptr 4 0),(65,.fptr false aY [c] 0 0),(66,.ptr 5 0),(67,.undef),(172,.ptr 1 0),(174,.own 6),(175,vI d),(176,.undef),(177,.undef)],[.box [vB yii16.2.1,vZ (.int .i64) yii16.2.2.1,vI yii16.2.2.2.1,vZ (.int .i32) yii16.2.2.2.2.1,vZ (.int .i64) yii16.2.2.2.2.2.1,vI yii16.2.2.2.2.2.2.1,vZ (.int .i32) yii16.2.2.2.2.2.2.2] false,.box [vI o,vI p,vI q,vZ bP t,vZ dM u,vZ aY w,vZ (.slc (.int .i64)) z,.own 7,vK .u64 a0,vI a1] false,.box [vB a2,.pl (.slice none 0 0),vI a3,.pl (.slice none 0 0),.pl (.slice none 0 0),vI a4,.pl (.slice none 0 0)] false,.box [vI a5,vI a6,vI a7,vI a8,vI a9,vI b0,vB b1] false,.box [vZ (.int .i64) b2,vI b3,vZ (.int .i8) b4] false,.box [vB b5,.pl (.slice none 0 0),vI b6,.pl (.slice none 0 0),.pl (.slice none 0 0),vI b7,.pl (.slice none 0 0)] false,.lst false jP b8 false,.lst false (.ref aY) c1 false]⟩)⟩
def bH:Inl:=QY (aP.cfg tt none false 0) 85 Tryz.f85 [(31,g0),(63,g9)] [8,9,57,58,61,63,64,65,66,67,172,174,175,176,177] [(245,[⟨10,some 1,true,(.int .i64)⟩,⟨10,some 4,true,(.int .i64)⟩]),(247,[⟨10,some 1,true,(.int .i64)⟩,⟨10,some 4,true,(.int .i64)⟩]),(255,[⟨8,some 1,true,(.int .i64)⟩,⟨8,some 3,true,(.int .i32)⟩,⟨8,some 4,true,(.int .i64)⟩,⟨8,some 6,true,(.int .i32)⟩]),(1013,[⟨8,some 1,true,(.int .i64)⟩,⟨8,some 3,true,(.int .i32)⟩,⟨8,some 4,true,(.int .i64)⟩,⟨8,some 6,true,(.int .i32)⟩])]
theorem gK:cC Tryz.prog bH:=sX (G:=(aP.cfg tt none false 0)) Tryz.func85 aP.ok hI0 ⟨fun _ _ hs ⟨⟨_,_,_,_,_,_,_,_,_,_,_,_,_,_,_,_⟩,⟨_,⟨_,_,_,_,_,_,_⟩,⟨_,_,_,_,_,_,_,_,_,_,_⟩,⟨_,_,_,_,_,_,_⟩,⟨_,_,_,_,_,_,_,_⟩,⟨_,_,_,_⟩,⟨_,_,_,_,_,_,_⟩,_,_,_,_,_⟩⟩ _ h=>aI hs h.it,fun _ _ hs ⟨⟨_,_,_,_,_,_,_,_,_,_,_,_,_,_,_⟩,⟨_,⟨_,_,_,_,_,_,_⟩,⟨_,_,_,_,_,_,_,_,_,_,_⟩,⟨_,_,_,_,_,_,_⟩,⟨_,_,_,_,_,_,_,_⟩,⟨_,_,_,_⟩,⟨_,_,_,_,_,_,_⟩,_,_,_,_,_⟩⟩ _ h=>aI hs h.it,trivial⟩
structure aR (x0 x1 x5 x6 x7:Int)(x8:List jC)(x9:List gQ)(x10:List bS)(x11:List (List Int))(x12 x13:Int)(x15:List Int)(x16:Int)(x17:List Int)(x36:List (List bS))(K0:(Int×Int×(List Int)×List Int)->Prop):Prop where
 it:iI x5 x6 x7 x8 x9 x10 x11 x36 x12 x13 (x15,(x16,x17)) x1 x0 2 (fun rii4=>K0 (rii4.2,rii4.1.2.1,rii4.1.1,rii4.1.2.2))
structure cV (x0 x1 x2:Int)(x3:Bool)(x13:List (List Int))(x16:List Int)(x17:Int)(x18 x19:List Int)(x25 x26 x30:Int)(K0:(Int×(List Int)×Int×List Int)->Prop):Prop where
 it:if x3=true then ck ((0:Int)<=x0/\x0<(x13.length:Int)) (BC (x16,(x17,x18)) (x13.getD ((x0).toNat) []) x19 (fun rii8=>K0 (rii8.2,rii8.1.1,rii8.1.2.1,rii8.1.2.2)))else if (x2==4)=true then BF (x16,(x17,x18)) x19 x25 x26 (fun rii9=>K0 (rii9.2,rii9.1.1,rii9.1.2.1,rii9.1.2.2))else K0 (x1,([]:List Int),x30,([]:List Int))
def iG:Ent:=⟨[0,1,8,12,13,118,119,122,124,126,127,128,129,233,235,236,237,238],[sC (.ptr 0 0),sI,sC (.ptr 1 0),sC (.ptr 2 0),sI,sC (.ptr 0 0),sI,sC (.ptr 3 0),sC (.ptr 4 0),.lf (.fp false aY),sC (.ptr 5 0),sC (.undef),sC (.undef),sC (.ptr 0 0),sC (.own 6),sI,sC (.undef),sC (.undef)],[.box [lI,lI,lI,lZ bP,lZ dM,lZ aY,lZ (.slc (.int .i64)),.cst (.own 7),.int .u64,lI] false,.box [.cst (.pl (.slice none 0 0)),lI,.cst (.pl (.slice none 0 0))] false,.box [lZ (.int .i64),lI,lZ (.int .i32)] false,.box [lB,.cst (.pl (.slice none 0 0)),lI,.cst (.pl (.slice none 0 0)),.cst (.pl (.slice none 0 0)),lI,.cst (.pl (.slice none 0 0))] false,.box [lI,lI,lI,lI,lI,lI,lB] false,.box [lB,lZ (.int .i64),lI,lZ (.int .i32),lZ (.int .i64),lI,lZ (.int .i32)] false,.lst false jP false,.lst false (.ref aY) false],fun⟨⟨_,a,_,_,b,_,c,_,_,d,_,_,_,_,_,e,_⟩,⟨⟨f,g,i,j,l,m,n,_,o,p,_⟩,_,⟨t,u,w,_⟩,⟨z,_,a0,_,_,a1,_⟩,⟨a2,a3,a4,a5,a6,a7,a8,_⟩,⟨a9,b0,b1,b2,b3,b4,b5,_⟩,b6,b7,_⟩⟩ k=>aR a b f g i j l m n o p t u w b7 (fun yii20=>k .ret ⟨[(8,.ptr 0 0),(9,vI yii20.1),(118,.ptr 1 0),(119,vI c),(122,.ptr 2 0),(124,.ptr 3 0),(126,.fptr false aY [d] 0 0),(127,.ptr 4 0),(128,.undef),(129,.undef),(233,.ptr 1 0),(235,.own 5),(236,vI e),(237,.undef),(238,.undef)],[.box [.own 6,vI yii20.2.1,.own 7] false,.box [vI f,vI g,vI i,vZ bP j,vZ dM l,vZ aY m,vZ (.slc (.int .i64)) n,.own 8,vK .u64 o,vI p] false,.box [vB z,.pl (.slice none 0 0),vI a0,.pl (.slice none 0 0),.pl (.slice none 0 0),vI a1,.pl (.slice none 0 0)] false,.box [vI a2,vI a3,vI a4,vI a5,vI a6,vI a7,vB a8] false,.box [vB a9,vZ (.int .i64) b0,vI b1,vZ (.int .i32) b2,vZ (.int .i64) b3,vI b4,vZ (.int .i32) b5] false,.lst false jP b6 false,.lst true (.int .i64) yii20.2.2.1 false,.lst true (.int .i8) yii20.2.2.2 false,.lst false (.ref aY) b7 false]⟩)⟩
def iH:Ent:=⟨[0,1,6,7,8,10,12,13,32,81,118,119,122,124,126,127,128,129,233,235,236,237,238],[sC (.ptr 0 0),sI,sC (.ptr 1 0),sC (.ptr 2 0),sC (.ptr 3 0),sC (.ptr 4 0),sC (.ptr 5 0),sI,sI,sB,sC (.ptr 0 0),sI,sC (.ptr 6 0),sC (.ptr 7 0),.lf (.fp false aY),sC (.ptr 8 0),sC (.undef),sC (.undef),sC (.ptr 0 0),sC (.own 9),sI,sC (.undef),sC (.undef)],[.box [lI,lI,lI,lZ bP,lZ dM,lZ aY,lZ (.slc (.int .i64)),.cst (.own 10),.int .u64,lI] false,.box [lZ (.int .i64),lI,lZ (.int .i8)] false,.box [lZ (.int .i64),lI,lZ (.int .i8)] false,.box [.cst (.pl (.slice none 0 0)),lI,.cst (.pl (.slice none 0 0))] false,.box [lI,lI,lI,lI,lI,lI,lB] false,.box [.cst (.pl (.slice none 0 0)),lI,.cst (.pl (.slice none 0 0))] false,.box [lB,.cst (.pl (.slice none 0 0)),lI,.cst (.pl (.slice none 0 0)),.cst (.pl (.slice none 0 0)),lI,.cst (.pl (.slice none 0 0))] false,.box [lI,lI,lI,lI,lI,lI,lB] false,.box [lB,lZ (.int .i64),lI,lZ (.int .i32),lZ (.int .i64),lI,lZ (.int .i32)] false,.lst false jP false,.lst false (.ref aY) false],fun⟨⟨_,a,_,_,_,_,_,b,c,d,_,e,_,_,f,_,_,_,_,_,g,_⟩,⟨⟨i,j,l,m,n,o,p,_,q,t,_⟩,⟨u,w,z,_⟩,⟨a0,_⟩,⟨_,a3,_⟩,⟨_,_,a6,a7,_⟩,⟨_,b1,_⟩,⟨b2,_,b3,_,_,b4,_⟩,⟨b5,b6,b7,b8,b9,c0,c1,_⟩,⟨c2,c3,c4,c5,c6,c7,c8,_⟩,c9,d0,_⟩⟩ k=>cV a b c d p u w z a0 a6 a7 b1 (fun yii21=>k .normal ⟨[(0,.ptr 0 0),(1,vI a),(8,.ptr 1 0),(12,.ptr 2 0),(13,vI yii21.1),(118,.ptr 0 0),(119,vI e),(122,.ptr 3 0),(124,.ptr 4 0),(126,.fptr false aY [f] 0 0),(127,.ptr 5 0),(128,.undef),(129,.undef),(233,.ptr 0 0),(235,.own 6),(236,vI g),(237,.undef),(238,.undef)],[.box [vI i,vI j,vI l,vZ bP m,vZ dM n,vZ aY o,vZ (.slc (.int .i64)) p,.own 7,vK .u64 q,vI t] false,.box [.pl (.slice none 0 0),vI a3,.pl (.slice none 0 0)] false,.box [vZ (.int .i64) yii21.2.1,vI yii21.2.2.1,vZ (.int .i32) yii21.2.2.2] false,.box [vB b2,.pl (.slice none 0 0),vI b3,.pl (.slice none 0 0),.pl (.slice none 0 0),vI b4,.pl (.slice none 0 0)] false,.box [vI b5,vI b6,vI b7,vI b8,vI b9,vI c0,vB c1] false,.box [vB c2,vZ (.int .i64) c3,vI c4,vZ (.int .i32) c5,vZ (.int .i64) c6,vI c7,vZ (.int .i32) c8] false,.lst false jP c9 false,.lst false (.ref aY) d0 false]⟩)⟩
def bN:Inl:=QY (aP.cfg tt none false 0) 86 Tryz.f86 [(63,iG),(514047,iH)] [8,9,118,119,122,124,126,127,128,129,233,235,236,237,238] [(64254,[⟨12,some 0,true,(.int .i64)⟩,⟨12,some 2,true,(.int .i32)⟩]),(257022,[⟨12,some 0,true,(.int .i64)⟩,⟨12,some 2,true,(.int .i32)⟩]),(1028094,[⟨12,some 0,true,(.int .i64)⟩,⟨12,some 2,true,(.int .i32)⟩]),(4112382,[⟨12,some 0,true,(.int .i64)⟩,⟨12,some 2,true,(.int .i32)⟩]),(4112383,[⟨12,some 0,true,(.int .i64)⟩,⟨12,some 2,true,(.int .i32)⟩])]
theorem iA:cC Tryz.prog bN:=sX (G:=(aP.cfg tt none false 0)) Tryz.func86 aP.ok hI0 ⟨fun _ _ hs ⟨⟨_,_,_,_,_,_,_,_,_,_,_,_,_,_,_,_,_⟩,⟨⟨_,_,_,_,_,_,_,_,_,_,_⟩,_,⟨_,_,_,_⟩,⟨_,_,_,_,_,_,_⟩,⟨_,_,_,_,_,_,_,_⟩,⟨_,_,_,_,_,_,_,_⟩,_,_,_⟩⟩ _ h=>aI hs h.it,fun _ _ hs ⟨⟨_,_,_,_,_,_,_,_,_,_,_,_,_,_,_,_,_,_,_,_,_,_⟩,⟨⟨_,_,_,_,_,_,_,_,_,_,_⟩,⟨_,_,_,_⟩,⟨_,_⟩,⟨_,_,_⟩,⟨_,_,_,_,_⟩,⟨_,_,_⟩,⟨_,_,_,_,_,_,_⟩,⟨_,_,_,_,_,_,_,_⟩,⟨_,_,_,_,_,_,_,_⟩,_,_,_⟩⟩ _ h=>aI hs h.it,trivial⟩
def bG:Inl:=QY (aP.cfg tt none false 0) 87 Tryz.f87 [] [6,44,48,50,52,53,54,159,161,162,163,164] []
theorem gD:cC Tryz.prog bG:=sX (G:=(aP.cfg tt none false 0)) Tryz.func87 aP.ok hI0 trivial
structure cI (x2:Int)(K0 K1:Unit->Prop):Prop where
 it:if (x2 != 0)=true then K1 ()else K0 ()
structure dS (x1:bS)(x2:Bool)(x16 x18 x19 x20:Int)(x23:List Int)(x24:Int)(x25:List Int)(x26:Bool)(x27 x28:Int)(K0:(Bool×(List Int)×Int×(List Int)×(List Int)×Int×List Int)->Prop)(K1:Int->Prop):Prop where
 it:if x2=true then if (x16==1)=true then AY x1 (x23,(x24,x25)) (fun rii9=>G4 x1 (fun rii10=>aO rii9.2 rii10.2 true rii9.1.1 rii9.1.2.1 rii10.1.1 rii10.1.2.1 rii9.1.2.2 rii10.1.2.2 (fun yii11=>cI yii11.1 (fun _=>K0 (yii11.2.1,yii11.2.2.1,yii11.2.2.2.1,yii11.2.2.2.2.1,yii11.2.2.2.2.2.1,yii11.2.2.2.2.2.2.1,yii11.2.2.2.2.2.2.2)) (fun _=>K1 yii11.1))))else ED x1 (x23,(x24,x25)) x18 x19 x20 (fun rii12=>KK x1 (fun rii13=>aO rii12.2 rii13.2 true rii12.1.1 rii12.1.2.1 rii13.1.1 rii13.1.2.1 rii12.1.2.2 rii13.1.2.2 (fun yii14=>cI yii14.1 (fun _=>K0 (yii14.2.1,yii14.2.2.1,yii14.2.2.2.1,yii14.2.2.2.2.1,yii14.2.2.2.2.2.1,yii14.2.2.2.2.2.2.1,yii14.2.2.2.2.2.2.2)) (fun _=>K1 yii14.1))))else K0 (x26,([]:List Int),x27,([]:List Int),([]:List Int),x28,([]:List Int))
structure bM  (K0:Unit->Prop):Prop where
 it:K0 ()
structure aW (x0:bS)(x1 x3 x4 x5:Int)(x6:List jC)(x7:List gQ)(x8:List bS)(x9:List (List Int))(x10 x11 x15 x20:Int)(x30:List (List bS))(K0:(Int×List (List bS))->Prop):Prop where
 it:if ((x1==0)&&(x15==7))=true then ck ((0:Int)<=x20/\x20<(x30.length:Int)) (rsp (x30.getD ((x20).toNat) []) (ck ((0:Int)<=x20/\x20<(x30.length:Int)) (bM (fun _=>K0 (0,(x30.set ((x20).toNat) [x0]))))) (fun yii5=>I6 yii5 x0 (fun rii6=>iI x3 x4 x5 x6 x7 x8 x9 x30 x10 x11 rii6.1 rii6.2 x20 1 (fun rii7=>if (rii7.2 != 0)=true then bM (fun _=>K0 (rii7.2,x30))else ck ((0:Int)<=x20/\x20<(x30.length:Int)) (bM (fun _=>K0 (0,(x30.set ((x20).toNat) [rii7.1]))))))))else bM (fun _=>K0 (x1,x30))
structure aJ (x0:Int)(x1:bS)(x2 x4 x5 x6:Int)(x7:List jC)(x8:List gQ)(x9:List bS)(x10:List (List Int))(x11 x12 x16 x21:Int)(x30:List Int)(x31:Int)(x32:List Int)(x34:List (List bS))(K0:(Int×List (List bS))->Prop):Prop where
 it:if (x2==0)=true then ck ((0:Int)<=(IntKind.i64.wrap (x0-1))/\(IntKind.i64.wrap (x0-1))<(x34.length:Int)) (rsp (x34.getD ((IntKind.i64.wrap (x0-1)).toNat) []) (ck ((0:Int)<=(IntKind.i64.wrap (x0-1))/\(IntKind.i64.wrap (x0-1))<(x34.length:Int)) (aW x1 0 x4 x5 x6 x7 x8 x9 x10 x11 x12 x16 x21 (x34.set ((IntKind.i64.wrap (x0-1)).toNat) [(x30,(x31,x32))]) (fun yi7=>K0 (yi7.1,yi7.2)))) (fun yii10=>I6 yii10 (x30,(x31,x32)) (fun rii11=>iI x4 x5 x6 x7 x8 x9 x10 x34 x11 x12 rii11.1 rii11.2 (IntKind.i64.wrap (x0-1)) 1 (fun rii12=>if (rii12.2 != 0)=true then aW x1 rii12.2 x4 x5 x6 x7 x8 x9 x10 x11 x12 x16 x21 x34 (fun yi8=>K0 (yi8.1,yi8.2))else ck ((0:Int)<=(IntKind.i64.wrap (x0-1))/\(IntKind.i64.wrap (x0-1))<(x34.length:Int)) (aW x1 0 x4 x5 x6 x7 x8 x9 x10 x11 x12 x16 x21 (x34.set ((IntKind.i64.wrap (x0-1)).toNat) [rii12.1]) (fun yi9=>K0 (yi9.1,yi9.2)))))))else aW x1 x2 x4 x5 x6 x7 x8 x9 x10 x11 x12 x16 x21 x34 (fun yi10=>K0 (yi10.1,yi10.2))
structure cJ (x0:Int)(x1:bS)(x3 x4 x5:Int)(x6:List jC)(x7:List gQ)(x8:List bS)(x9:List (List Int))(x10 x11 x15 x20:Int)(x22:List Int)(x23:Int)(x24:List Int)(x33:List (List bS))(K0:(Int×List (List bS))->Prop):Prop where
 it:ck ((0:Int)<=(IntKind.i64.wrap (x0-1))/\(IntKind.i64.wrap (x0-1))<(x6.length:Int)) (ck ((0:Int)<=(IntKind.i64.wrap (x0-1))/\(IntKind.i64.wrap (x0-1))<(x7.length:Int)) (if (((x6.getD ((IntKind.i64.wrap (x0-1)).toNat) (0,(0,(0,(0,(0,(0,false))))))).1)==5)=true then xV x1 (x22,(x23,x24)) (fun rii12=>aJ x0 x1 rii12.2 x3 x4 x5 x6 x7 x8 x9 x10 x11 x15 x20 rii12.1.1 rii12.1.2.1 rii12.1.2.2 x33 (fun yi7=>K0 (yi7.1,yi7.2)))else if (((x6.getD ((IntKind.i64.wrap (x0-1)).toNat) (0,(0,(0,(0,(0,(0,false))))))).1)==6)=true then AG x1 x22 (fun rii13=>aJ x0 x1 rii13.2 x3 x4 x5 x6 x7 x8 x9 x10 x11 x15 x20 rii13.1.1 rii13.1.2.1 rii13.1.2.2 x33 (fun yi8=>K0 (yi8.1,yi8.2)))else if (((x6.getD ((IntKind.i64.wrap (x0-1)).toNat) (0,(0,(0,(0,(0,(0,false))))))).1)==7)=true then aJ x0 x1 0 x3 x4 x5 x6 x7 x8 x9 x10 x11 x15 x20 x1.1 x1.2.1 x1.2.2 x33 (fun yi9=>K0 (yi9.1,yi9.2))else if (((x6.getD ((IntKind.i64.wrap (x0-1)).toNat) (0,(0,(0,(0,(0,(0,false))))))).1)==1)=true then DE x1 ((x7.getD ((IntKind.i64.wrap (x0-1)).toNat) (([],(0,[])),([],([],(0,[]))))).1) (fun rii14=>aR x0 rii14.2 x3 x4 x5 x6 x7 x8 x9 x10 x11 rii14.1.1 rii14.1.2.1 rii14.1.2.2 x33 (fun yii15=>aJ x0 x1 yii15.1 x3 x4 x5 x6 x7 x8 x9 x10 x11 x15 x20 yii15.2.2.1 yii15.2.1 yii15.2.2.2 x33 (fun yi10=>K0 (yi10.1,yi10.2))))else if (((x6.getD ((IntKind.i64.wrap (x0-1)).toNat) (0,(0,(0,(0,(0,(0,false))))))).1)==2)=true then ck ((0:Int)<=2/\2<(x22.length:Int)) (ck ((0:Int)<=3/\3<(x22.length:Int)) (GQ x1 ((x7.getD ((IntKind.i64.wrap (x0-1)).toNat) (([],(0,[])),([],([],(0,[]))))).1) (x22.getD 2 0) (x22.getD 3 0) (((((x6.getD ((IntKind.i64.wrap (x0-1)).toNat) (0,(0,(0,(0,(0,(0,false))))))).2).2).2).1) ((((((x6.getD ((IntKind.i64.wrap (x0-1)).toNat) (0,(0,(0,(0,(0,(0,false))))))).2).2).2).2).1) (fun rii16=>aR x0 rii16.2 x3 x4 x5 x6 x7 x8 x9 x10 x11 rii16.1.1 rii16.1.2.1 rii16.1.2.2 x33 (fun yii17=>aJ x0 x1 yii17.1 x3 x4 x5 x6 x7 x8 x9 x10 x11 x15 x20 yii17.2.2.1 yii17.2.1 yii17.2.2.2 x33 (fun yi11=>K0 (yi11.1,yi11.2))))))else cV x0 0 ((x6.getD ((IntKind.i64.wrap (x0-1)).toNat) (0,(0,(0,(0,(0,(0,false))))))).1) (((x6.getD ((IntKind.i64.wrap (x0-1)).toNat) (0,(0,(0,(0,(0,(0,false))))))).1)==3) x9 x1.1 x1.2.1 x1.2.2 x22 ((((x6.getD ((IntKind.i64.wrap (x0-1)).toNat) (0,(0,(0,(0,(0,(0,false))))))).2).2).1) (((((x6.getD ((IntKind.i64.wrap (x0-1)).toNat) (0,(0,(0,(0,(0,(0,false))))))).2).2).2).1) 0 (fun yii18=>aR x0 yii18.1 x3 x4 x5 x6 x7 x8 x9 x10 x11 yii18.2.1 yii18.2.2.1 yii18.2.2.2 x33 (fun yii19=>aJ x0 x1 yii19.1 x3 x4 x5 x6 x7 x8 x9 x10 x11 x15 x20 yii19.2.2.1 yii19.2.1 yii19.2.2.2 x33 (fun yi12=>K0 (yi12.1,yi12.2))))))
def oK:Ent:=⟨[0,1,4,6,7,8,9,115,117,118,119,120],[sC (.ptr 0 0),sI,sC (.ptr 1 0),sC (.ptr 2 0),sC (.ptr 3 0),.lf (.fp false aY),sC (.ptr 4 0),sC (.ptr 0 0),sC (.own 5),sI,sC (.undef),sC (.undef)],[.box [lI,lI,lI,lZ bP,lZ dM,lZ aY,lZ (.slc (.int .i64)),.cst (.own 6),.int .u64,lI] false,.box [lB,.cst (.pl (.slice none 0 0)),lI,.cst (.pl (.slice none 0 0)),.cst (.pl (.slice none 0 0)),lI,.cst (.pl (.slice none 0 0))] false,.box [lI,lI,lI,lI,lI,lI,lB] false,.box [lZ (.int .i64),lI,lZ (.int .i8)] false,.box [lB,lZ (.int .i64),lI,lZ (.int .i32),lZ (.int .i64),lI,lZ (.int .i32)] false,.lst false jP false,.lst false (.ref aY) false],fun⟨⟨_,a,_,_,_,b,_,_,_,c,_⟩,⟨⟨d,e,f,g,i,j,l,_,m,n,_⟩,_,⟨t,_,_,_,_,a1,_⟩,⟨a3,a4,a5,_⟩,⟨a6,a7,a8,a9,b0,b1,b2,_⟩,b3,b4,_⟩⟩ k=>cJ a b d e f g i j l m n t a1 a3 a4 a5 b4 (fun yi19=>k .ret ⟨[(4,.ptr 0 0),(5,vI yi19.1),(115,.ptr 1 0),(117,.own 2),(118,vI c),(119,.undef),(120,.undef)],[.box [vB a6,vZ (.int .i64) a7,vI a8,vZ (.int .i32) a9,vZ (.int .i64) b0,vI b1,vZ (.int .i32) b2] false,.box [vI d,vI e,vI f,vZ bP g,vZ dM i,vZ aY j,vZ (.slc (.int .i64)) l,.own 3,vK .u64 m,vI n] false,.lst false jP b3 false,.lst false (.ref aY) yi19.2 false]⟩)⟩
def oJ:Ent:=⟨[0,1,4,6,7,8,9,52,115,117,118,119,120],[sC (.ptr 0 0),sI,sC (.ptr 1 0),sC (.ptr 2 0),sC (.ptr 3 0),.lf (.fp false aY),sC (.ptr 4 0),sB,sC (.ptr 0 0),sC (.own 5),sI,sC (.undef),sC (.undef)],[.box [lI,lI,lI,lZ bP,lZ dM,lZ aY,lZ (.slc (.int .i64)),.cst (.own 6),.int .u64,lI] false,.box [lB,.cst (.pl (.slice none 0 0)),lI,.cst (.pl (.slice none 0 0)),.cst (.pl (.slice none 0 0)),lI,.cst (.pl (.slice none 0 0))] false,.box [lI,lI,lI,lI,lI,lI,lB] false,.box [lZ (.int .i64),lI,lZ (.int .i8)] false,.box [lB,.cst (.pl (.slice none 0 0)),lI,.cst (.pl (.slice none 0 0)),.cst (.pl (.slice none 0 0)),lI,.cst (.pl (.slice none 0 0))] false,.lst false jP false,.lst false (.ref aY) false],fun⟨⟨_,a,_,_,_,b,_,c,_,_,d,_⟩,⟨⟨e,f,g,i,j,l,m,_,n,o,_⟩,⟨p,_,q,_,_,t,_⟩,⟨u,w,z,a0,a1,a2,a3,_⟩,⟨a4,a5,a6,_⟩,⟨a7,_,a8,_,_,a9,_⟩,b0,b1,_⟩⟩ k=>dS b c u z a0 a1 a4 a5 a6 a7 a8 a9 (fun yi20=>k .normal ⟨[(0,.ptr 0 0),(1,vI a),(4,.ptr 1 0),(6,.ptr 2 0),(7,.ptr 3 0),(8,.fptr false aY [b] 0 0),(9,.ptr 4 0),(115,.ptr 0 0),(117,.own 5),(118,vI d),(119,.undef),(120,.undef)],[.box [vI e,vI f,vI g,vZ bP i,vZ dM j,vZ aY l,vZ (.slc (.int .i64)) m,.own 6,vK .u64 n,vI o] false,.box [vB p,.pl (.slice none 0 0),vI q,.pl (.slice none 0 0),.pl (.slice none 0 0),vI t,.pl (.slice none 0 0)] false,.box [vI u,vI w,vI z,vI a0,vI a1,vI a2,vB a3] false,.box [vZ (.int .i64) a4,vI a5,vZ (.int .i8) a6] false,.box [vB yi20.1,vZ (.int .i64) yi20.2.1,vI yi20.2.2.1,vZ (.int .i32) yi20.2.2.2.1,vZ (.int .i64) yi20.2.2.2.2.1,vI yi20.2.2.2.2.2.1,vZ (.int .i32) yi20.2.2.2.2.2.2] false,.lst false jP b0 false,.lst false (.ref aY) b1 false]⟩) (fun yi21=>k .ret ⟨[(4,.ptr 0 0),(5,vI yi21),(115,.ptr 1 0),(117,.own 2),(118,vI d),(119,.undef),(120,.undef)],[.box [vB false,.pl (.slice none 0 0),vI 0,.pl (.slice none 0 0),.pl (.slice none 0 0),vI 0,.pl (.slice none 0 0)] false,.box [vI e,vI f,vI g,vZ bP i,vZ dM j,vZ aY l,vZ (.slc (.int .i64)) m,.own 3,vK .u64 n,vI o] false,.lst false jP b0 false,.lst false (.ref aY) b1 false]⟩)⟩
def oF:Ent:=⟨[0,1,4,6,8,9,10,11,115,117,118,119,120],[sC (.ptr 0 0),sI,sC (.ptr 1 0),sC (.ptr 2 0),.lf (.fp false aY),sC (.ptr 3 0),sI,sC (.ptr 4 0),sC (.ptr 0 0),sC (.own 5),sI,sC (.undef),sC (.undef)],[.box [lI,lI,lI,lZ bP,lZ dM,lZ aY,lZ (.slc (.int .i64)),.cst (.own 6),.int .u64,lI] false,.box [lB,.cst (.pl (.slice none 0 0)),lI,.cst (.pl (.slice none 0 0)),.cst (.pl (.slice none 0 0)),lI,.cst (.pl (.slice none 0 0))] false,.box [lI,lI,lI,lI,lI,lI,lB] false,.box [lB,lZ (.int .i64),lI,lZ (.int .i32),lZ (.int .i64),lI,lZ (.int .i32)] false,.box [lZ (.int .i64),lI,lZ (.int .i8)] false,.lst false jP false,.lst false (.ref aY) false],fun⟨⟨_,a,_,_,b,_,c,_,_,_,d,_⟩,⟨⟨e,f,g,i,j,l,m,_,n,o,_⟩,_,⟨u,_,_,_,_,a2,_⟩,⟨a4,a5,a6,a7,a8,a9,b0,_⟩,⟨b1,b2,b3,_⟩,b4,b5,_⟩⟩ k=>aJ a b c e f g i j l m n o u a2 b1 b2 b3 b5 (fun yi22=>k .ret ⟨[(4,.ptr 0 0),(5,vI yi22.1),(115,.ptr 1 0),(117,.own 2),(118,vI d),(119,.undef),(120,.undef)],[.box [vB a4,vZ (.int .i64) a5,vI a6,vZ (.int .i32) a7,vZ (.int .i64) a8,vI a9,vZ (.int .i32) b0] false,.box [vI e,vI f,vI g,vZ bP i,vZ dM j,vZ aY l,vZ (.slc (.int .i64)) m,.own 3,vK .u64 n,vI o] false,.lst false jP b4 false,.lst false (.ref aY) yi22.2 false]⟩)⟩
def oN:Ent:=⟨[0,4,6,8,9,10,115,117,118,119,120],[sC (.ptr 0 0),sC (.ptr 1 0),sC (.ptr 2 0),.lf (.fp false aY),sC (.ptr 3 0),sI,sC (.ptr 0 0),sC (.own 4),sI,sC (.undef),sC (.undef)],[.box [lI,lI,lI,lZ bP,lZ dM,lZ aY,lZ (.slc (.int .i64)),.cst (.own 5),.int .u64,lI] false,.box [lB,.cst (.pl (.slice none 0 0)),lI,.cst (.pl (.slice none 0 0)),.cst (.pl (.slice none 0 0)),lI,.cst (.pl (.slice none 0 0))] false,.box [lI,lI,lI,lI,lI,lI,lB] false,.box [lB,lZ (.int .i64),lI,lZ (.int .i32),lZ (.int .i64),lI,lZ (.int .i32)] false,.lst false jP false,.lst false (.ref aY) false],fun⟨⟨_,_,_,a,_,b,_,_,c,_⟩,⟨⟨d,e,f,g,i,j,l,_,m,n,_⟩,_,⟨t,_,_,_,_,a1,_⟩,⟨a3,a4,a5,a6,a7,a8,a9,_⟩,b0,b1,_⟩⟩ k=>aW a b d e f g i j l m n t a1 b1 (fun yi23=>k .ret ⟨[(4,.ptr 0 0),(5,vI yi23.1),(115,.ptr 1 0),(117,.own 2),(118,vI c),(119,.undef),(120,.undef)],[.box [vB a3,vZ (.int .i64) a4,vI a5,vZ (.int .i32) a6,vZ (.int .i64) a7,vI a8,vZ (.int .i32) a9] false,.box [vI d,vI e,vI f,vZ bP g,vZ dM i,vZ aY j,vZ (.slc (.int .i64)) l,.own 3,vK .u64 m,vI n] false,.lst false jP b0 false,.lst false (.ref aY) yi23.2 false]⟩)⟩
def oO:Ent:=⟨[0,1,4,6,7,8,9,10,115,117,118,119,120],[sC (.ptr 0 0),sI,sC (.ptr 1 0),sC (.ptr 2 0),sC (.ptr 3 0),.lf (.fp false aY),sC (.ptr 4 0),sI,sC (.ptr 0 0),sC (.own 5),sI,sC (.undef),sC (.undef)],[.box [lI,lI,lI,lZ bP,lZ dM,lZ aY,lZ (.slc (.int .i64)),.cst (.own 6),.int .u64,lI] false,.box [lB,.cst (.pl (.slice none 0 0)),lI,.cst (.pl (.slice none 0 0)),.cst (.pl (.slice none 0 0)),lI,.cst (.pl (.slice none 0 0))] false,.box [lI,lI,lI,lI,lI,lI,lB] false,.box [lZ (.int .i64),lI,lZ (.int .i8)] false,.box [lB,lZ (.int .i64),lI,lZ (.int .i32),lZ (.int .i64),lI,lZ (.int .i32)] false,.lst false jP false,.lst false (.ref aY) false],fun⟨⟨_,a,_,_,_,b,_,c,_,_,d,_⟩,⟨⟨e,f,g,i,j,l,m,_,n,o,_⟩,⟨p,_,q,_,_,t,_⟩,⟨u,w,z,a0,a1,a2,a3,_⟩,⟨a4,a5,a6,_⟩,⟨a7,a8,a9,b0,b1,b2,b3,_⟩,b4,b5,_⟩⟩ k=>cI c (fun _=>k .normal ⟨[(0,.ptr 0 0),(1,vI a),(4,.ptr 1 0),(6,.ptr 2 0),(7,.ptr 3 0),(8,.fptr false aY [b] 0 0),(9,.ptr 4 0),(115,.ptr 0 0),(117,.own 5),(118,vI d),(119,.undef),(120,.undef)],[.box [vI e,vI f,vI g,vZ bP i,vZ dM j,vZ aY l,vZ (.slc (.int .i64)) m,.own 6,vK .u64 n,vI o] false,.box [vB p,.pl (.slice none 0 0),vI q,.pl (.slice none 0 0),.pl (.slice none 0 0),vI t,.pl (.slice none 0 0)] false,.box [vI u,vI w,vI z,vI a0,vI a1,vI a2,vB a3] false,.box [vZ (.int .i64) a4,vI a5,vZ (.int .i8) a6] false,.box [vB a7,vZ (.int .i64) a8,vI a9,vZ (.int .i32) b0,vZ (.int .i64) b1,vI b2,vZ (.int .i32) b3] false,.lst false jP b4 false,.lst false (.ref aY) b5 false]⟩) (fun _=>k .ret ⟨[(4,.ptr 0 0),(5,vI c),(115,.ptr 1 0),(117,.own 2),(118,vI d),(119,.undef),(120,.undef)],[.box [vB false,.pl (.slice none 0 0),vI 0,.pl (.slice none 0 0),.pl (.slice none 0 0),vI 0,.pl (.slice none 0 0)] false,.box [vI e,vI f,vI g,vZ bP i,vZ dM j,vZ aY l,vZ (.slc (.int .i64)) m,.own 3,vK .u64 n,vI o] false,.lst false jP b4 false,.lst false (.ref aY) b5 false]⟩)⟩
def oL:Ent:=⟨[4,9,10,115,117,118,119,120],[sC (.ptr 0 0),sC (.ptr 1 0),sI,sC (.ptr 2 0),sC (.own 3),sI,sC (.undef),sC (.undef)],[.box [lB,.cst (.pl (.slice none 0 0)),lI,.cst (.pl (.slice none 0 0)),.cst (.pl (.slice none 0 0)),lI,.cst (.pl (.slice none 0 0))] false,.box [lB,lZ (.int .i64),lI,lZ (.int .i32),lZ (.int .i64),lI,lZ (.int .i32)] false,.box [lI,lI,lI,lZ bP,lZ dM,lZ aY,lZ (.slc (.int .i64)),.cst (.own 4),.int .u64,lI] false,.lst false jP false,.lst false (.ref aY) false],fun⟨⟨_,_,a,_,_,b,_⟩,⟨_,⟨f,g,i,j,l,m,n,_⟩,⟨o,p,q,t,u,w,z,_,a0,a1,_⟩,a2,a3,_⟩⟩ k=>bM (fun _=>k .ret ⟨[(4,.ptr 0 0),(5,vI a),(115,.ptr 1 0),(117,.own 2),(118,vI b),(119,.undef),(120,.undef)],[.box [vB f,vZ (.int .i64) g,vI i,vZ (.int .i32) j,vZ (.int .i64) l,vI m,vZ (.int .i32) n] false,.box [vI o,vI p,vI q,vZ bP t,vZ dM u,vZ aY w,vZ (.slc (.int .i64)) z,.own 3,vK .u64 a0,vI a1] false,.lst false jP a2 false,.lst false (.ref aY) a3 false]⟩)⟩
def iS:Inl:=QY (aP.cfg tt (some (OA (OA bH bN) bG)) false 0) 43 Tryz.f43 [(255,oK),(509,oJ),(511,oF),(1023,oN),(2037,oO),(2047,oL)] [4,5,115,117,118,119,120] [(510,[⟨11,some 0,true,(.int .i64)⟩,⟨11,some 2,true,(.int .i8)⟩]),(1019,[⟨9,some 1,true,(.int .i64)⟩,⟨9,some 3,true,(.int .i32)⟩,⟨9,some 4,true,(.int .i64)⟩,⟨9,some 6,true,(.int .i32)⟩]),(8151,[⟨9,some 1,true,(.int .i64)⟩,⟨9,some 3,true,(.int .i32)⟩,⟨9,some 4,true,(.int .i64)⟩,⟨9,some 6,true,(.int .i32)⟩])]
theorem nN:cC Tryz.prog iS:=sX (G:=(aP.cfg tt (some (OA (OA bH bN) bG)) false 0)) Tryz.func43 aP.ok (hI1 (aBH (aBH gK iA) gD)) ⟨fun _ _ hs ⟨⟨_,_,_,_,_,_,_,_,_,_,_⟩,⟨⟨_,_,_,_,_,_,_,_,_,_,_⟩,_,⟨_,_,_,_,_,_,_⟩,⟨_,_,_,_⟩,⟨_,_,_,_,_,_,_,_⟩,_,_,_⟩⟩ _ h=>aI hs h.it,fun _ _ hs ⟨⟨_,_,_,_,_,_,_,_,_,_,_,_⟩,⟨⟨_,_,_,_,_,_,_,_,_,_,_⟩,⟨_,_,_,_,_,_,_⟩,⟨_,_,_,_,_,_,_,_⟩,⟨_,_,_,_⟩,⟨_,_,_,_,_,_,_⟩,_,_,_⟩⟩ _ h=>aI hs h.it,fun _ _ hs ⟨⟨_,_,_,_,_,_,_,_,_,_,_,_⟩,⟨⟨_,_,_,_,_,_,_,_,_,_,_⟩,_,⟨_,_,_,_,_,_,_⟩,⟨_,_,_,_,_,_,_,_⟩,⟨_,_,_,_⟩,_,_,_⟩⟩ _ h=>aI hs h.it,fun _ _ hs ⟨⟨_,_,_,_,_,_,_,_,_,_⟩,⟨⟨_,_,_,_,_,_,_,_,_,_,_⟩,_,⟨_,_,_,_,_,_,_⟩,⟨_,_,_,_,_,_,_,_⟩,_,_,_⟩⟩ _ h=>aI hs h.it,fun _ _ hs ⟨⟨_,_,_,_,_,_,_,_,_,_,_,_⟩,⟨⟨_,_,_,_,_,_,_,_,_,_,_⟩,⟨_,_,_,_,_,_,_⟩,⟨_,_,_,_,_,_,_,_⟩,⟨_,_,_,_⟩,⟨_,_,_,_,_,_,_,_⟩,_,_,_⟩⟩ _ h=>aI hs h.it,fun _ _ hs ⟨⟨_,_,_,_,_,_,_⟩,⟨_,⟨_,_,_,_,_,_,_,_⟩,⟨_,_,_,_,_,_,_,_,_,_,_⟩,_,_,_⟩⟩ _ h=>aI hs h.it,trivial⟩
structure fO (x0 x1:Int)(x11:List DQ)(x12:Bool)(x13:List Int)(x14:Int)(x15 x16:List Int)(x17:Int)(x18:List Int)(K0 K1:(List DQ)->Prop):Prop where
 it:if (x1 != 0)=true then K1 ([]:List DQ)else ck ((0:Int)<=(IntKind.i64.wrap (x0-1))/\(IntKind.i64.wrap (x0-1))<(x11.length:Int)) (K0 (x11.set ((IntKind.i64.wrap (x0-1)).toNat) (x12,((x13,(x14,x15)),(x16,(x17,x18))))))
def mW (x1 x2 x3:Int)(x4:List jC)(x5:List gQ)(x6:List bS)(x7:List (List Int))(x8 x9:Int)(K0:(List DQ)->Prop)(K1:((List DQ)×Int×Int)->Prop)(s:Int×(List DQ)×List (List bS))(nx:(Int×(List DQ)×List (List bS))->Prop):Prop :=
 if (decide (0<s.1))=true then ck ((0:Int)<=(IntKind.i64.wrap (s.1-1))/\(IntKind.i64.wrap (s.1-1))<(x4.length:Int)) (ck ((0:Int)<=(IntKind.i64.wrap (s.1-1))/\(IntKind.i64.wrap (s.1-1))<(x6.length:Int)) (ck ((0:Int)<=s.1/\s.1<(s.2.2.length:Int)) (rsp (s.2.2.getD ((s.1).toNat) []) (fO s.1 0 s.2.1 false ([]:List Int) 0 ([]:List Int) ([]:List Int) 0 ([]:List Int) (fun y2=>nx (IntKind.i64.wrap (s.1-1),y2,s.2.2)) (fun y3=>K1 (y3,s.1,0))) (fun yi15=>dS yi15 (((((x4.getD ((IntKind.i64.wrap (s.1-1)).toNat) (0,(0,(0,(0,(0,(0,false))))))).1)==1)||(((x4.getD ((IntKind.i64.wrap (s.1-1)).toNat) (0,(0,(0,(0,(0,(0,false))))))).1)==2))&&(!(((((((x4.getD ((IntKind.i64.wrap (s.1-1)).toNat) (0,(0,(0,(0,(0,(0,false))))))).2).2).2).2).2).2))) ((x4.getD ((IntKind.i64.wrap (s.1-1)).toNat) (0,(0,(0,(0,(0,(0,false))))))).1) ((((x4.getD ((IntKind.i64.wrap (s.1-1)).toNat) (0,(0,(0,(0,(0,(0,false))))))).2).2).1) (((((x4.getD ((IntKind.i64.wrap (s.1-1)).toNat) (0,(0,(0,(0,(0,(0,false))))))).2).2).2).1) ((((((x4.getD ((IntKind.i64.wrap (s.1-1)).toNat) (0,(0,(0,(0,(0,(0,false))))))).2).2).2).2).1) ((x6.getD ((IntKind.i64.wrap (s.1-1)).toNat) ([],(0,[]))).1) (((x6.getD ((IntKind.i64.wrap (s.1-1)).toNat) ([],(0,[]))).2).1) (((x6.getD ((IntKind.i64.wrap (s.1-1)).toNat) ([],(0,[]))).2).2) false 0 0 (fun yi16=>cJ s.1 yi15 x1 x2 x3 x4 x5 x6 x7 x8 x9 ((x4.getD ((IntKind.i64.wrap (s.1-1)).toNat) (0,(0,(0,(0,(0,(0,false))))))).1) (((((((x4.getD ((IntKind.i64.wrap (s.1-1)).toNat) (0,(0,(0,(0,(0,(0,false))))))).2).2).2).2).2).1) ((x6.getD ((IntKind.i64.wrap (s.1-1)).toNat) ([],(0,[]))).1) (((x6.getD ((IntKind.i64.wrap (s.1-1)).toNat) ([],(0,[]))).2).1) (((x6.getD ((IntKind.i64.wrap (s.1-1)).toNat) ([],(0,[]))).2).2) s.2.2 (fun yi17=>fO s.1 yi17.1 s.2.1 yi16.1 yi16.2.1 yi16.2.2.1 yi16.2.2.2.1 yi16.2.2.2.2.1 yi16.2.2.2.2.2.1 yi16.2.2.2.2.2.2 (fun y4=>nx (IntKind.i64.wrap (s.1-1),y4,yi17.2)) (fun y5=>K1 (y5,s.1,yi17.1)))) (fun yi18=>fO s.1 yi18 s.2.1 false ([]:List Int) 0 ([]:List Int) ([]:List Int) 0 ([]:List Int) (fun y6=>nx (IntKind.i64.wrap (s.1-1),y6,s.2.2)) (fun y7=>K1 (y7,s.1,yi18)))))))else K0 s.2.1
structure tY (x1 x2 x3:Int)(x4:List jC)(x5:List gQ)(x6:List bS)(x7:List (List Int))(x8 x9:Int)(K0:(List DQ)->Prop)(K1:((List DQ)×Int×Int)->Prop)(s:Int×(List DQ)×List (List bS)):Prop where
 it:Go.Mach.Loop (mW x1 x2 x3 x4 x5 x6 x7 x8 x9 K0 K1) s
structure uR (a0:JY)(a1:List gQ)(a2:aHx)(a3:bS)(a4 a5:Int)(Q:((List DQ)×Int×Int)->Prop):Prop where
 it:rI a0.1.1 a0.1.2.1 a0.1.2.2 a0.2 a1 a2.1 a2.2 a4 a5 a3 (fun r1=>if (r1 != 0)=true then Q (([]:List DQ),0,r1)else ck ((0:Int)<=(a2.1.length:Int)/\((8:Nat):Int)*(a2.1.length:Int)<=70368744177664) (ck ((0:Int)<=(a0.2.length:Int)/\(a0.2.length:Int)<((List.replicate ((a2.1.length:Int)).toNat (([]:List bS):List bS)).length:Int)) (ck ((0:Int)<=(a0.2.length:Int)/\((120:Nat):Int)*(a0.2.length:Int)<=70368744177664) (tY a0.1.1 a0.1.2.1 a0.1.2.2 a0.2 a1 a2.1 a2.2 a4 a5 (fun y8=>Q (y8,0,0)) (fun y9=>Q (y9.1,y9.2.1,y9.2.2)) ((a0.2.length:Int),List.replicate ((a0.2.length:Int)).toNat ((false,((([]:List Int),(0,([]:List Int))),(([]:List Int),(0,([]:List Int))))):DQ),(List.replicate ((a2.1.length:Int)).toNat (([]:List bS):List bS)).set (((a0.2.length:Int)).toNat) [a3])))))
def NN:Ent:=⟨[15,17,18],[sC (.ptr 0 0),sC (.own 1),sI],[.box [lI,lI,lI,lZ bP,lZ dM,lZ aY,lZ (.slc (.int .i64)),.cst (.own 2),.int .u64,lI] false,.lst false jP false,.lst false (.ref aY) false],fun⟨⟨_,_,a,_⟩,⟨⟨b,c,d,e,f,g,i,_,j,l,_⟩,m,n,_⟩⟩ k=>tY b c d e f g i j l (fun y10=>k (.exit 0) ⟨[(17,.own 0)],[.lst false jP y10 false]⟩) (fun y11=>k .ret ⟨[(12,vZ jP y11.1),(13,vI y11.2.1),(14,vI y11.2.2)],[]⟩) (a,m,n)⟩
def ND:Ent:=⟨[15,17,18,19,20],[sC (.ptr 0 0),sC (.own 1),sI,sC (.ptr 2 0),sI],[.box [lI,lI,lI,lZ bP,lZ dM,lZ aY,lZ (.slc (.int .i64)),.cst (.own 3),.int .u64,lI] false,.lst false jP false,.box [lB,lZ (.int .i64),lI,lZ (.int .i32),lZ (.int .i64),lI,lZ (.int .i32)] false,.lst false (.ref aY) false],fun⟨⟨_,_,a,_,b,_⟩,⟨⟨c,d,e,f,g,i,j,_,l,m,_⟩,n,⟨o,p,q,t,u,w,z,_⟩,a0,_⟩⟩ k=>fO a b n o p q t u w z (fun y12=>k .normal ⟨[(15,.ptr 0 0),(17,.own 1),(18,vI a)],[.box [vI c,vI d,vI e,vZ bP f,vZ dM g,vZ aY i,vZ (.slc (.int .i64)) j,.own 2,vK .u64 l,vI m] false,.lst false jP y12 false,.lst false (.ref aY) a0 false]⟩) (fun y13=>k .ret ⟨[(12,vZ jP y13),(13,vI a),(14,vI b)],[]⟩)⟩
def PI:=aP.putX tt 16 Tryz.func16 [12,13,14] [(237,[⟨12,none,true,jP⟩]),(511,[⟨12,none,true,jP⟩]),(32584,[⟨19,some 1,true,(.int .i64)⟩,⟨19,some 3,true,(.int .i32)⟩,⟨19,some 4,true,(.int .i64)⟩,⟨19,some 6,true,(.int .i32)⟩]),(521365,[⟨12,none,true,jP⟩])] [(1018,NN),(32585,ND)] [.agg [lI,lI,lI,lZ bP],sZ dM,.agg [lZ aY,lZ (.slc (.int .i64))],.agg [lZ (.int .i64),lI,lZ (.int .i8)],.lf (.int .u64),sI] [.f] [(false,(.slc jP)),(false,(.int .i64)),(false,(.int .i64))] (fun x=>uR ((x.1.1,(x.1.2.1,x.1.2.2.1)),x.1.2.2.2.1) x.2.1 (x.2.2.1.1,x.2.2.1.2.1) (x.2.2.2.1.1,(x.2.2.2.1.2.1,x.2.2.2.1.2.2.1)) x.2.2.2.2.1 x.2.2.2.2.2.1) [] (some iS) true 0 (hI1 nN) ⟨fun _ _ hs ⟨⟨_,_,a,_⟩,⟨⟨b,c,d,e,f,g,i,_,j,l,_⟩,m,n,_⟩⟩ _ h=>aD hs (fun y=>⟨⟨(),(),y.1,()⟩,⟨⟨b,c,d,e,f,g,i,(),j,l,()⟩,y.2.1,y.2.2,()⟩⟩) (a,m,n) h.it,fun _ _ hs ⟨⟨_,_,_,_,_,_⟩,⟨⟨_,_,_,_,_,_,_,_,_,_,_⟩,_,⟨_,_,_,_,_,_,_,_⟩,_,_⟩⟩ _ h=>aI hs h.it,trivial⟩ fun _ _ h=>⟨_,h.it,by kernel_rfl⟩
structure oI (a0:Int)(Q:JY->Prop):Prop where
 it:Q ((1,(1,2)),[(6,(0,(0,(0,(0,(0,false)))))),(1,(a0,(0,(0,(0,(0,false))))))])
def CQ:=PI.put tt 38 Tryz.func38 [2] [] [] [sI] [] [(true,aCd)] (fun x=>oI x.1) trivial fun _ _ h=>⟨_,h.it,by kernel_rfl⟩
structure dL  (Q:Bool->Prop):Prop where
 it:oI 1 (fun r1=>s8 r1 [((([]:List Int),(0,([]:List Int))),(([]:List Int),(([]:List Int),(0,([]:List Int))))),(([1,2],(0,[3,4])),([0,0],([1],(0,[5]))))] ([1,1,1,2],(0,[1,2])) 1 0 (fun r2=>oI 1 (fun r3=>uR r3 [((([]:List Int),(0,([]:List Int))),(([]:List Int),(([]:List Int),(0,([]:List Int))))),(([1,2],(0,[3,4])),([0,0],([1],(0,[5]))))] r2.1 ([1,1],(0,[6])) 1 0 (fun r4=>jn (fun v5=>jn (fun v7=>jn (fun v9=>jn (fun v11=>jn (fun v13=>Q v13) (fun J14=>if v11=true then ck ((0:Int)<=1/\1<(r4.1.length:Int)) (ck ((0:Int)<=0/\0<((((((r4.1.getD 1 (false,(([],(0,[])),([],(0,[]))))).2).2).2).2).length:Int)) (J14 (((((((r4.1.getD 1 (false,(([],(0,[])),([],(0,[]))))).2).2).2).2).getD 0 0)==6)))else J14 false)) (fun J12=>if v9=true then ck ((0:Int)<=1/\1<(r4.1.length:Int)) (J12 (((((((r4.1.getD 1 (false,(([],(0,[])),([],(0,[]))))).2).2).2).2).length:Int)==1))else J12 false)) (fun J10=>if v7=true then ck ((0:Int)<=1/\1<(r4.1.length:Int)) (ck ((0:Int)<=1/\1<((((((r4.1.getD 1 (false,(([],(0,[])),([],(0,[]))))).2).1).2).2).length:Int)) (J10 (((((((r4.1.getD 1 (false,(([],(0,[])),([],(0,[]))))).2).1).2).2).getD 1 0)==12)))else J10 false)) (fun J8=>if v5=true then ck ((0:Int)<=1/\1<(r4.1.length:Int)) (J8 (((((((r4.1.getD 1 (false,(([],(0,[])),([],(0,[]))))).2).1).2).2).length:Int)==2))else J8 false)) (fun J6=>if (((r2.2.2==0)&&(r4.2.2==0))&&((r4.1.length:Int)==2))=true then ck ((0:Int)<=1/\1<(r4.1.length:Int)) (J6 ((r4.1.getD 1 (false,(([],(0,[])),([],(0,[]))))).1))else J6 false)))))
def BL:=CQ.put tt 13 Tryz.func13 [0] [] [] [] [] [(false,.bool)] (fun _=>dL) trivial fun _ _ h=>⟨_,h.it,by kernel_rfl⟩
end
end Go.Proofs.YtcfpfefadlnmcaaGreat

namespace Go.Proofs.YtcfpfefadlnmcaaGreat
open Go.Mach
set_option maxRecDepth 100000
set_option linter.unusedVariables false
noncomputable section
structure dB (x3:Int)(K0:Int->Prop):Prop where
 it:K0 (IntKind.i64.wrap (x3+1))
def cU (x4:List Int)(x5:Int)(K0 K1:Unit->Prop)(s:Int)(nx:Int->Prop):Prop :=
 if (decide (s<x5))=true then ck ((0:Int)<=s/\s<(x4.length:Int)) (if ((decide (16777216<=(x4.getD ((s).toNat) 0)))||(decide ((x4.getD ((s).toNat) 0)<=(-16777216))))=true then K1 ()else nx (IntKind.i64.wrap (s+1)))else K0 ()
structure jU (x4:List Int)(x5:Int)(K0 K1:Unit->Prop)(s:Int):Prop where
 it:Go.Mach.Loop (cU x4 x5 K0 K1) s
structure jK (x0:List DQ)(x1:Int)(K0 K1:Unit->Prop):Prop where
 it:ck ((0:Int)<=x1/\x1<(x0.length:Int)) (jU (((((x0.getD ((x1).toNat) (false,(([],(0,[])),([],(0,[]))))).2).1).2).2) ((((((x0.getD ((x1).toNat) (false,(([],(0,[])),([],(0,[]))))).2).1).2).2).length:Int) (fun _=>K0 ()) (fun _=>K1 ()) 0)
def cS (x0:List DQ)(x1:List jC)(x2 x4 x5 x6:Int)(x7:List jC)(K0 K1:Unit->Prop)(s:Int)(nx:Int->Prop):Prop :=
 if (decide (s<x2))=true then ck ((0:Int)<=s/\s<(x1.length:Int)) (kB ((x4,(x5,x6)),x7) (IntKind.i64.wrap (s+1)) (fun r13=>ck ((0:Int)<=s/\s<(x0.length:Int)) (if (((x0.getD ((s).toNat) (false,(([],(0,[])),([],(0,[]))))).1) != ((decide (0<(r13.1.length:Int)))&&(!(((((((x1.getD ((s).toNat) (0,(0,(0,(0,(0,(0,false))))))).2).2).2).2).2).2))))=true then K1 ()else ck ((0:Int)<=s/\s<(x0.length:Int)) (if (!((x0.getD ((s).toNat) (false,(([],(0,[])),([],(0,[]))))).1))=true then dB s (fun y14=>nx y14)else ck ((0:Int)<=s/\s<(x0.length:Int)) (bZ ((((x0.getD ((s).toNat) (false,(([],(0,[])),([],(0,[]))))).2).1).1) r13.1 (fun r15=>jn (fun v16=>if v16=true then K1 ()else jK x0 s (fun _=>dB s (fun y20=>nx y20)) (fun _=>K1 ())) (fun J17=>if (!r15)=true then J17 true else ck ((0:Int)<=s/\s<(x0.length:Int)) (bZ ((((x0.getD ((s).toNat) (false,(([],(0,[])),([],(0,[]))))).2).2).1) [r13.2] (fun r18=>J17 (!r18))))))))))else K0 ()
structure jN (x0:List DQ)(x1:List jC)(x2 x4 x5 x6:Int)(x7:List jC)(K0 K1:Unit->Prop)(s:Int):Prop where
 it:Go.Mach.Loop (cS x0 x1 x2 x4 x5 x6 x7 K0 K1) s
structure jQ (x0:List DQ)(x1 x2 x3:Int)(x4:List jC)(K0:Bool->Prop):Prop where
 it:if ((x0.length:Int) != (x4.length:Int))=true then K0 false else jN x0 x4 (x4.length:Int) x1 x2 x3 x4 (fun _=>dL (fun r14=>K0 r14)) (fun _=>K0 false) 0
structure jL (x0:List Int)(x1 x2 x3 x4 x5:Int)(x6:List jC)(x12:List gQ)(x13:List bS)(x14:List (List Int))(K0:Bool->Prop):Prop where
 it:ck ((0:Int)<=(IntKind.i64.wrap ((x13.length:Int)-1))/\(IntKind.i64.wrap ((x13.length:Int)-1))<(x13.length:Int)) (oM (x13.getD ((IntKind.i64.wrap ((x13.length:Int)-1)).toNat) ([],(0,[]))) x0 x1 (fun r8=>uR ((x3,(x4,x5)),x6) x12 (x13,x14) r8 x2 0 (fun r9=>if (r9.2.2 != 0)=true then jn (fun v10=>K0 v10) (fun J11=>if (((r9.2.2==3)||(r9.2.2==1))&&((r9.1.length:Int)==0))=true then dL (fun r12=>J11 r12)else J11 false)else jQ r9.1 x3 x4 x5 x6 (fun y13=>K0 y13))))
structure hZ (a0:aHX)(a1:List Int)(a2 a3:Int)(Q:Bool->Prop):Prop where
 it:if (decide (12<(a0.1.2.length:Int)))=true then dL (fun r1=>Q r1)else oR a0 (fun r2=>if (r2.2.2 != 0)=true then dL (fun r3=>Q r3)else s8 a0.1 r2.1 r2.2.1 a3 0 (fun r4=>if ((r4.2.2 != 0)||((r4.1.1.length:Int) != (IntKind.i64.wrap ((a0.1.2.length:Int)+1))))=true then jn (fun v5=>Q v5) (fun J6=>if (r4.2.2 != 0)=true then dL (fun r7=>J6 r7)else J6 false)else jL a1 a2 a3 a0.1.1.1 a0.1.1.2.1 a0.1.1.2.2 a0.1.2 r2.1 r4.1.1 r4.1.2 (fun y14=>Q y14)))
def rF:Ent:=⟨[1,2,3,4,9,12],[sZ (.int .i8),sI,.lf (.int .u64),sC (.ptr 0 0),sC (.own 1),sC (.ptr 2 0)],[.box [lI,lI,lI,lZ bP,.int .u64,lZ (.int .i8),lI,lZ (.int .i8),lI] false,.lst true dM false,.box [.cst (.own 3),.cst (.own 4)] false,.lst true aY false,.lst true (.slc (.int .i64)) false],fun⟨⟨a,b,c,_⟩,⟨⟨d,e,f,g,_⟩,o,_,p,q,_⟩⟩ k=>jL a b c d e f g o p q (fun y15=>k .ret ⟨[(8,vB y15)],[]⟩)⟩
def rB:Ent:=⟨[4,15],[sC (.ptr 0 0),sZ jP],[.box [lI,lI,lI,lZ bP,.int .u64,lZ (.int .i8),lI,lZ (.int .i8),lI] false],fun⟨⟨_,a,_⟩,⟨⟨b,c,d,e,_⟩,_⟩⟩ k=>jQ a b c d e (fun y16=>k .ret ⟨[(8,vB y16)],[]⟩)⟩
def qZ:Ent:=⟨[4,15,113,114,115],[sC (.ptr 0 0),sZ jP,sZ bP,sI,sI],[.box [lI,lI,lI,lZ bP,.int .u64,lZ (.int .i8),lI,lZ (.int .i8),lI] false],fun⟨⟨_,a,b,c,d,_⟩,⟨⟨e,f,g,i,_,_,_,_,_,_⟩,_⟩⟩ k=>jN a b c e f g i (fun _=>k (.exit 0) ⟨[],[]⟩) (fun _=>k .ret ⟨[(8,vB false)],[]⟩) d⟩
def rD:Ent:=⟨[4,15,113,114,115],[sC (.ptr 0 0),sZ jP,sZ bP,sI,sI],[.box [lI,lI,lI,lZ bP,.int .u64,lZ (.int .i8),lI,lZ (.int .i8),lI] false],fun⟨⟨_,a,b,c,d,_⟩,⟨⟨e,f,g,i,j,l,m,n,o,_⟩,_⟩⟩ k=>dB d (fun y19=>k .normal ⟨[(4,.ptr 0 0),(15,vZ jP a),(113,vZ bP b),(114,vI c),(115,vI y19)],[.box [vI e,vI f,vI g,vZ bP i,vK .u64 j,vZ (.int .i8) l,vI m,vZ (.int .i8) n,vI o] false]⟩)⟩
def qS:Ent:=⟨[4,15,18,113,114,115],[sC (.ptr 0 0),sZ jP,sI,sZ bP,sI,sI],[.box [lI,lI,lI,lZ bP,.int .u64,lZ (.int .i8),lI,lZ (.int .i8),lI] false],fun⟨⟨_,a,b,c,d,e,_⟩,⟨⟨f,g,i,j,l,m,n,o,p,_⟩,_⟩⟩ k=>jK a b (fun _=>k .normal ⟨[(4,.ptr 0 0),(15,vZ jP a),(113,vZ bP c),(114,vI d),(115,vI e)],[.box [vI f,vI g,vI i,vZ bP j,vK .u64 l,vZ (.int .i8) m,vI n,vZ (.int .i8) o,vI p] false]⟩) (fun _=>k .ret ⟨[(8,vB false)],[]⟩)⟩
def qO:Ent:=⟨[4,15,113,114,115,174,175,176],[sC (.ptr 0 0),sZ jP,sZ bP,sI,sI,sZ (.int .i32),sI,sI],[.box [lI,lI,lI,lZ bP,.int .u64,lZ (.int .i8),lI,lZ (.int .i8),lI] false],fun⟨⟨_,a,b,c,d,e,f,g,_⟩,⟨⟨i,j,l,m,n,o,p,q,t,_⟩,_⟩⟩ k=>jU e f (fun _=>k (.exit 2) ⟨[(4,.ptr 0 0),(15,vZ jP a),(113,vZ bP b),(114,vI c),(115,vI d)],[.box [vI i,vI j,vI l,vZ bP m,vK .u64 n,vZ (.int .i8) o,vI p,vZ (.int .i8) q,vI t] false]⟩) (fun _=>k .ret ⟨[(8,vB false)],[]⟩) g⟩
def fB:List Sh:=[.agg [lI,lI,lI,lZ bP,.int .u64,lZ (.int .i8),lI,lZ (.int .i8),lI],sZ (.int .i8),sI,.lf (.int .u64)]
theorem qH (x:uJ fB)(Q:QT)(h:hZ (((x.1.1,(x.1.2.1,x.1.2.2.1)),x.1.2.2.2.1),(x.1.2.2.2.2.1,(x.1.2.2.2.2.2.1,(x.1.2.2.2.2.2.2.1,(x.1.2.2.2.2.2.2.2.1,x.1.2.2.2.2.2.2.2.2.1))))) x.2.1 x.2.2.1 x.2.2.2.1 fun r=>Q (kK [(false,.bool)] [] (r,()))):mS Tryz.prog 6 (vG fB x) Q:=KH BL (tt:=tt) (hv:=false) (un:=0) (res:=[8]) (cos:=[]) (l:=[(127,rF),(511,rB),(8186,qZ),(130983,rD),(8382879,qS),(33531518,qO)]) (al:=[]) (sh:=fB) (rt:=[(false,.bool)]) (D:=fun x=>hZ (((x.1.1,(x.1.2.1,x.1.2.2.1)),x.1.2.2.2.1),(x.1.2.2.2.2.1,(x.1.2.2.2.2.2.1,(x.1.2.2.2.2.2.2.1,(x.1.2.2.2.2.2.2.2.1,x.1.2.2.2.2.2.2.2.2.1))))) x.2.1 x.2.2.1 x.2.2.2.1) Tryz.func6 hI0 ⟨fun _ _ hs ⟨⟨_,_,_,_⟩,⟨⟨_,_,_,_,_⟩,_,_,_,_,_⟩⟩ _ h=>aI hs h.it,fun _ _ hs ⟨⟨_,_,_⟩,⟨⟨_,_,_,_,_⟩,_⟩⟩ _ h=>aI hs h.it,fun _ _ hs ⟨⟨_,a,b,c,d,_⟩,⟨⟨e,f,g,i,j,l,m,n,o,_⟩,_⟩⟩ _ h=>aD hs (fun y=>⟨⟨(),a,b,c,y,()⟩,⟨⟨e,f,g,i,j,l,m,n,o,()⟩,()⟩⟩) d h.it,fun _ _ hs ⟨⟨_,_,_,_,_,_⟩,⟨⟨_,_,_,_,_,_,_,_,_,_⟩,_⟩⟩ _ h=>aI hs h.it,fun _ _ hs ⟨⟨_,_,_,_,_,_,_⟩,⟨⟨_,_,_,_,_,_,_,_,_,_⟩,_⟩⟩ _ h=>aI hs h.it,fun _ _ hs ⟨⟨_,a,b,c,d,e,f,g,_⟩,⟨⟨i,j,l,m,n,o,p,q,t,_⟩,_⟩⟩ _ h=>aD hs (fun y=>⟨⟨(),a,b,c,d,e,f,y,()⟩,⟨⟨i,j,l,m,n,o,p,q,t,()⟩,()⟩⟩) g h.it,trivial⟩ (fun _ _ h=>⟨_,h.it,by kernel_rfl⟩) (by kernel_rfl) (by kernel_rfl) (by kernel_rfl) x Q h
end
end Go.Proofs.YtcfpfefadlnmcaaGreat

namespace Go.Mach
set_option linter.unusedVariables false
set_option linter.unusedSimpArgs false
theorem TC (a b:Int):IntKind.i64.wrap (IntKind.i64.wrap a+b)=IntKind.i64.wrap (a+b):=by
 simp only[IntKind.wrap,IntKind.bits,IntKind.signed];simp;omega
theorem LF (a b:Int):IntKind.i32.wrap (IntKind.i32.wrap a+b)=IntKind.i32.wrap (a+b):=by
 simp only[IntKind.wrap,IntKind.bits,IntKind.signed];simp;omega
theorem KE (a b:Int):IntKind.i32.wrap (a+IntKind.i32.wrap b)=IntKind.i32.wrap (a+b):=by
 simp only[IntKind.wrap,IntKind.bits,IntKind.signed];simp;omega
theorem aBA (a:Int):IntKind.i32.wrap (IntKind.i64.wrap a)=IntKind.i32.wrap a:=by
 simp only[IntKind.wrap,IntKind.bits,IntKind.signed];simp;omega
def bR (g:Nat->Int):Nat->Int
 | 0=>0
 | n+1=>bR g n+g n
theorem Y4 {f g:Nat->Int}{n:Nat}(h:∀ i,i<n->f i=g i):bR f n=bR g n:=by
 induction n with
 | zero=>rfl
 | succ n ih=>simp only[bR];rw[ih fun i hi=>h i (by omega),h n (by omega)]
theorem pV {f:Nat->Int}{n:Nat}(h:∀ i,i<n->f i=0):bR f n=0:=by
 induction n with
 | zero=>rfl
 | succ n ih=>simp only[bR];rw[ih fun i hi=>h i (by omega),h n (by omega)];rfl
theorem IJ (g:Nat->Int)(B:Int)(n:Nat)(h:∀ i,i<n -> -B<=g i/\g i<=B) : -(B*n)<=bR g n/\bR g n<=B*n:=by
 induction n with
 | zero=>simp[bR]
 | succ n ih =>
   have h1:=ih fun i hi=>h i (by omega)
   have h2:=h n (by omega)
   have e:B*((n+1:Nat):Int)=B*n+B:=by rw[Int.natCast_add,Int.mul_add];simp
   simp only[bR]
   omega
theorem aBi {f:Nat->Int}{n k:Nat}(hk:k<n)(h:∀ i,i<n->i≠k->f i=0):bR f n=f k:=by
 induction n with
 | zero=>omega
 | succ n ih =>
   simp only[bR]
   by_cases e:k=n
   ·subst e;rw[pV fun i hi=>h i (by omega) (by omega)];omega
   ·rw[ih (by omega) fun i hi=>h i (by omega),h n (by omega) (by omega)];omega
theorem aCF (f:Nat->Int)(n m:Nat):bR f (n+m)=bR f n+bR (fun i=>f (n+i)) m:=by
 induction m with
 | zero=>simp[bR]
 | succ m ih=>rw[<- Nat.add_assoc];simp only[bR];rw[ih];omega
def nF {α:Type}(l:List α)(f:α->Int):Int:=(l.map f).sum
theorem IR {α:Type}(f:α->Int):nF [] f=0:=rfl
theorem yY {α:Type}(a:α)(l:List α)(f:α->Int):nF (a::l) f=f a+nF l f:=by simp[nF]
theorem MJ {α:Type}(l m:List α)(f:α->Int):nF (l++m) f=nF l f+nF m f:=by simp[nF]
theorem SP {α:Type}{l:List α}{f:α->Int}(h:∀ a∈l,f a=0):nF l f=0:=by
 induction l with
 | nil=>rfl
 | cons a l ih=>rw[yY,h a (by simp),ih fun b hb=>h b (by simp[hb])];rfl
theorem IU {α β:Type}(l:List α)(h:α->List β)(f:β->Int):nF (l.flatMap h) f=nF l (fun a=>nF (h a) f):=by
 induction l with
 | nil=>rfl
 | cons a l ih=>rw[List.flatMap_cons,MJ,yY,ih]
theorem N4 (f:Nat->Int)(n:Nat):nF (List.range n) f=bR f n:=by
 induction n with
 | zero=>rfl
 | succ n ih=>rw[List.range_succ,MJ,ih,yY,IR];simp[bR]
theorem EV {α:Type}(l:List α)(f:α->Int)(d:α):nF l f=bR (fun i=>f (l.getD i d)) l.length:=by
 induction l with
 | nil=>rfl
 | cons a l ih =>
   rw[yY,ih,List.length_cons,Nat.add_comm,aCF]
   simp only[bR,List.getD_cons_zero,Int.zero_add]
   congr 1
   exact Y4 fun i _=>by rw[Nat.add_comm,List.getD_cons_succ]
def tab (n:Nat)(f:Nat->Int):List Int:=(List.range n).map f
@[simp] theorem VF (n:Nat) (f:Nat->Int):(tab n f).length=n:=by simp[tab]
theorem VK {n:Nat}{f:Nat->Int}{y:Int}(h:y∈tab n f):∃ i,i<n/\f i=y:=by
 unfold tab at h
 simpa only[List.mem_map,List.mem_range] using h
theorem HP {n i:Nat}(f:Nat->Int)(h:i<n):(tab n f).getD i 0=f i:=by
 unfold tab
 rw[List.getD_eq_getElem?_getD,List.getElem?_map,List.getElem?_range h];rfl
theorem aAV {l:List Int}{n:Nat}{f:Nat->Int}(hl:l.length=n)(h:∀ i,i<n->l.getD i 0=f i):l=tab n f:=by
 refine List.ext_getElem (by simp[hl]) fun i h1 h2 => ?_
 have:=h i (by omega)
 rw[List.getD_eq_getElem?_getD,List.getElem?_eq_getElem h1]at this
 simp only[Option.getD_some]at this
 rw[this]
 simp[tab]
theorem aCY {n:Nat}{f g:Nat->Int}(h:∀ i,i<n->f i=g i):tab n f=tab n g:=by
 refine aAV (by simp) fun i hi => ?_
 rw[HP _ hi,h i hi]
theorem aB9 {l m:List Int}(hl:l.length=m.length)(h:∀ i,i<l.length->l.getD i 0=m.getD i 0):l=m:=by
 refine List.ext_getElem hl fun i h1 h2 => ?_
 have:=h i h1
 rwa [List.getD_eq_getElem?_getD,List.getElem?_eq_getElem h1,List.getD_eq_getElem?_getD,List.getElem?_eq_getElem h2]at this
theorem QM {α:Type}{l:List α}{i j:Nat}{v d:α}(hi:i<l.length):(l.set i v).getD j d=if i=j then v else l.getD j d:=by
 rw[List.getD_eq_getElem?_getD,List.getElem?_set]
 by_cases h:i=j
 ·subst h;rw[if_pos rfl,if_pos rfl,if_pos hi];rfl
 ·rw[if_neg h,if_neg h,List.getD_eq_getElem?_getD]
theorem HB {l:List Int}{i:Nat}(h:i<l.length):l.getD i 0∈l:=by
 rw[List.getD_eq_getElem?_getD,List.getElem?_eq_getElem h];exact List.getElem_mem h
theorem T0 {n i:Nat}{v:Int}(h:i<n):(List.replicate n v).getD i 0=v:=by
 rw[List.getD_eq_getElem?_getD,List.getElem?_replicate,if_pos h];rfl
theorem PF {α:Type}{l:List α}{p:α->Bool}{i:Nat}{d:α}(hi:i<l.length):(l.take (i+1)).all p=((l.take i).all p&&p (l.getD i d)):=by
 rw[List.take_add_one,List.all_append,List.getD_eq_getElem?_getD,List.getElem?_eq_getElem hi]
 simp
theorem aAn {α:Type}{l:List α}{p:α->Bool}{i:Nat}{d:α}(hi:i<l.length)(h:p (l.getD i d)=false):l.all p=false:=by
 rw[List.all_eq_false]
 refine⟨l[i],List.getElem_mem hi,?_⟩
 rw[List.getD_eq_getElem?_getD,List.getElem?_eq_getElem hi]at h
 simp only[Option.getD_some]at h
 rw[h];simp
theorem jV {r R n i:Nat}(h1:r<R)(h2:i<n):r*n+i<R*n:=by
 have:(r+1)*n<=R*n:=Nat.mul_le_mul_right n h1
 rw[Nat.add_mul,Nat.one_mul]at this
 omega
theorem KU {r n i:Nat}(h:i<n):(r*n+i) / n=r:=by
 rw[Nat.mul_comm,Nat.mul_add_div (by omega),Nat.div_eq_of_lt h];rfl
theorem KD {r n i:Nat}(h:i<n):(r*n+i)%n=i:=by
 rw[Nat.mul_comm,Nat.mul_add_mod,Nat.mod_eq_of_lt h]
theorem VC {r n i r' i':Nat}(h:i<n)(h':i'<n)(e:r*n+i=r'*n+i'):r=r'/\i=i':=by
 have h1:=KU (r:=r) h
 have h2:=KD (r:=r) h
 rw[e]at h1 h2
 rw[KU h']at h1
 rw[KD h']at h2
 exact⟨h1.symm,h2.symm⟩
def ix4 (O P Q m o p q:Nat):Nat:=((m*O+o)*P+p)*Q+q
theorem F9 {n O P Q m o p q:Nat}(hm:m<n)(ho:o<O)(hp:p<P)(hq:q<Q):ix4 O P Q m o p q<n*O*P*Q:=jV (jV (jV hm ho) hp) hq
theorem aBE {O P Q m o p q m' o' p' q':Nat}(ho:o<O)(hp:p<P)(hq:q<Q)(ho':o'<O)(hp':p'<P)(hq':q'<Q)(e:ix4 O P Q m o p q=ix4 O P Q m' o' p' q'):m=m'/\o=o'/\p=p'/\q=q':=by
 obtain⟨e1,e2⟩:=VC hq hq' e
 obtain⟨e3,e4⟩:=VC hp hp' e1
 obtain⟨e5,e6⟩:=VC ho ho' e3
 exact⟨e5,e6,e4,e2⟩
theorem zF {n k t:Nat}(h:t<n*k):t / k<n/\t%k<k/\t=t / k*k+t%k:=by
 have hk:0<k:=by
  rcases Nat.eq_zero_or_pos k with e|e
  ·rw[e,Nat.mul_zero]at h;omega
  ·exact e
 refine⟨by rw[Nat.div_lt_iff_lt_mul hk];exact h,Nat.mod_lt _ hk,?_⟩
 rw[Nat.mul_comm];exact(Nat.div_add_mod t k).symm
theorem aBo {n O P Q t:Nat}(h:t<n*O*P*Q):∃ m o p q,m<n/\o<O/\p<P/\q<Q/\t=ix4 O P Q m o p q:=by
 obtain⟨a1,a2,a3⟩:=zF h
 obtain⟨b1,b2,b3⟩:=zF a1
 obtain⟨c1,c2,c3⟩:=zF b1
 exact⟨_,_,_,_,c1,c2,b2,a2,by unfold ix4;rw[<- c3,<- b3,<- a3]⟩
def GU (n O P Q:Nat)(cell:Nat->Nat->Nat->Nat->Int):List Int:=tab (n*O*P*Q) fun t=>cell (t / Q / P / O) (t / Q / P%O) (t / Q%P) (t%Q)
theorem HO (n O P Q:Nat)(cell:Nat->Nat->Nat->Nat->Int):(GU n O P Q cell).length=n*O*P*Q:=by simp[GU]
theorem HS {n O P Q m o p q:Nat}{cell:Nat->Nat->Nat->Nat->Int}(hm:m<n)(ho:o<O)(hp:p<P)(hq:q<Q):(GU n O P Q cell).getD (ix4 O P Q m o p q) 0=cell m o p q:=by
 unfold GU
 rw[HP _ (F9 hm ho hp hq)]
 unfold ix4
 rw[KU hq,KU hp,KU ho,KD hq,KD hp,KD ho]
structure Fill (n O P Q:Nat)(cell:Nat->Nat->Nat->Nat->Int)(C:Nat->Nat->Nat->Nat->Prop)(L:List Int):Prop where
 len:L.length=n*O*P*Q
 tell:∀ m o p q,m<n->o<O->p<P->q<Q->C m o p q->L.getD (ix4 O P Q m o p q) 0=cell m o p q
theorem Fill.mono {n O P Q:Nat}{cell:Nat->Nat->Nat->Nat->Int}{C C':Nat->Nat->Nat->Nat->Prop}{L:List Int}(h:Fill n O P Q cell C L)(hc:∀ m o p q,m<n->o<O->p<P->q<Q->C' m o p q->C m o p q):Fill n O P Q cell C' L :=
 ⟨h.len,fun m o p q hm ho hp hq hC=>h.tell m o p q hm ho hp hq (hc m o p q hm ho hp hq hC)⟩
theorem Fill.set {n O P Q:Nat}{cell:Nat->Nat->Nat->Nat->Int}{C C':Nat->Nat->Nat->Nat->Prop}{L:List Int}(h:Fill n O P Q cell C L){m0 o0 p0 q0:Nat}(hm:m0<n)(ho:o0<O)(hp:p0<P)(hq:q0<Q)
 {v:Int} (hv:v=cell m0 o0 p0 q0) (hc:∀ m o p q,m<n->o<O->p<P->q<Q->C' m o p q->C m o p q\/(m=m0/\o=o0/\p=p0/\q=q0)):Fill n O P Q cell C' (L.set (ix4 O P Q m0 o0 p0 q0) v):=by
 have hlt:=F9 hm ho hp hq
 refine⟨by rw[List.length_set];exact h.len,fun m o p q hm' ho' hp' hq' hC => ?_⟩
 rw[QM (by rw[h.len];exact hlt)]
 by_cases e:ix4 O P Q m0 o0 p0 q0=ix4 O P Q m o p q
 ·rw[if_pos e]
  obtain⟨e1,e2,e3,e4⟩:=aBE ho hp hq ho' hp' hq' e
  rw[hv,e1,e2,e3,e4]
 ·rw[if_neg e]
  rcases hc m o p q hm' ho' hp' hq' hC with g|⟨rfl,rfl,rfl,rfl⟩
  ·exact h.tell m o p q hm' ho' hp' hq' g
  ·exact absurd rfl e
theorem E2 {n O P Q:Nat}{L M:List Int}(hl:L.length=n*O*P*Q)(hm:M.length=n*O*P*Q)(h:∀ m o p q,m<n->o<O->p<P->q<Q->L.getD (ix4 O P Q m o p q) 0=M.getD (ix4 O P Q m o p q) 0):L=M:=by
 refine aB9 (by omega) fun t ht => ?_
 obtain⟨m,o,p,q,h1,h2,h3,h4,rfl⟩:=aBo (hl▸ht)
 exact h m o p q h1 h2 h3 h4
theorem Fill.all {n O P Q:Nat}{cell:Nat->Nat->Nat->Nat->Int}{C:Nat->Nat->Nat->Nat->Prop}{L:List Int}(h:Fill n O P Q cell C L)(hC:∀ m o p q,m<n->o<O->p<P->q<Q->C m o p q):L=GU n O P Q cell :=
 E2 h.len (HO _ _ _ _ _) fun m o p q hm ho hp hq=>by rw[HS hm ho hp hq,h.tell m o p q hm ho hp hq (hC m o p q hm ho hp hq)]
theorem ZU {n O P Q:Nat}{f g:Nat->Nat->Nat->Nat->Int}(h:∀ m o p q,m<n->o<O->p<P->q<Q->f m o p q=g m o p q):GU n O P Q f=GU n O P Q g :=
 E2 (HO _ _ _ _ _) (HO _ _ _ _ _) fun m o p q hm ho hp hq=>by rw[HS hm ho hp hq,HS hm ho hp hq,h m o p q hm ho hp hq]
theorem Loop.rangeI {S:Type}{B:S->(S->Prop)->Prop}(n:Nat)(I:Nat->S->Prop){s0:S}(h0:I 0 s0)(step:∀ i,i<n->∀ s,I i s->∀ X,(∀ s',I (i+1) s'->X s')->B s X)(last:∀ s,I n s->∀ X,B s X):Loop B s0:=by
 refine Loop.inv (n:=n) (fun m s=>∃ i,i+m=n/\I i s) ⟨0,by omega,h0⟩ ?_
 rintro m s X ⟨i,hi,hI⟩ hX
 by_cases h:i<n
 ·exact step i h s hI X fun s' hI'=>hX (m-1) s' (by omega) ⟨i+1,by omega,hI'⟩
 ·have:i=n:=by omega
  subst this
  exact last s hI X
theorem Loop.all {α:Type}{B:Int->(Int->Prop)->Prop}(l:List α)(p:α->Bool){K0 K1:Prop}
 (step:∀ i (h:i<l.length) X,(p l[i]=true->X ((i+1:Nat):Int))->(p l[i]=false->K1)->B (i:Int) X) (last:K0->∀ X,B (l.length:Int) X)
 (h:if l.all p=true then K0 else K1):Loop B 0:=by
 refine Loop.range (B:=B) (f:=fun i:Nat=>(i:Int)) l.length (fun i=>∀ j (hj:j<i) (hl:j<l.length),p l[j]=true) (fun j hj=>absurd hj (by omega)) ?_ ?_
 ·intro i hi hI X hX
  refine step i hi X (fun hp=>hX fun j hj hl => ?_) (fun hp => ?_)
  ·by_cases e:j=i
   ·subst e;exact hp
   ·exact hI j (by omega) hl
  ·have : ¬ l.all p=true:=by
    rw[List.all_eq_true]
    intro ha
    have:=ha _ (List.getElem_mem hi)
    rw[hp]at this;cases this
   rwa [if_neg this]at h
 ·intro hI X
  refine last ?_ X
  have:l.all p=true:=by
   rw[List.all_eq_true]
   intro a ha
   obtain⟨j,hj,rfl⟩:=List.getElem_of_mem ha
   exact hI j hj hj
  rwa [if_pos this]at h
end Go.Mach

namespace Go.Fl
open Ieee
set_option maxRecDepth 100000
set_option linter.unusedVariables false
set_option linter.unusedSimpArgs false
def sg (s:Bool)(m:Nat):Int:=if s=true then -(m:Int)else(m:Int)
def pX (d:Datum)(n:Int):Prop:=∃ s m e,d = .number s m e/\sg s m*2 ^ e.toNat=n*2 ^ (-e).toNat
def uW (x:Nat)(n:Int):Prop:=pX (double.read x) n
theorem pw (a:Nat):((2 ^ a:Nat):Int)=2 ^ a:=by rw[Int.natCast_pow];rfl
theorem aGW (s:Bool)(m:Nat):(sg s m).natAbs=m:=by
 unfold sg;split <;> omega
theorem TT (n:Int):sg (decide (n<0)) n.natAbs=n:=by
 unfold sg
 by_cases h:n<0
 ·rw[decide_eq_true h,if_pos rfl];omega
 ·rw[decide_eq_false h,if_neg (by simp)];omega
theorem PV {s:Bool}{m:Nat}{e n:Int}(h:sg s m*2 ^ e.toNat=n*2 ^ (-e).toNat):m*2 ^ e.toNat=n.natAbs*2 ^ (-e).toNat:=by
 have:=congrArg Int.natAbs h
 rw[Int.natAbs_mul,Int.natAbs_mul,aGW,<- pw,<- pw,Int.natAbs_natCast,Int.natAbs_natCast]at this
 exact this
theorem PU (m p:Nat)(hm:m≠0):(m*2 ^ p).log2=m.log2+p:=by
 have hp:0<2 ^ p:=Nat.pow_pos (by omega)
 rw[Nat.log2_eq_iff (Nat.mul_ne_zero hm (by omega))]
 have h1:=Nat.log2_self_le hm
 have h2 := @Nat.lt_log2_self m
 constructor
 ·rw[Nat.pow_add];exact Nat.mul_le_mul_right _ h1
 ·rw[show m.log2+p+1=(m.log2+1)+p by omega,Nat.pow_add];exact Nat.mul_lt_mul_of_pos_right h2 hp
theorem aCg {neg:Bool}{K M:Nat}(hK:K<=52)(h1:2 ^ 52<=M)(h2:M<2 ^ 53):double.read (double.word neg ((K+1022)*2 ^ 52+M)) = .number neg M ((K:Int)-52):=by
 have hr1:(K+1022)*2 ^ 52+M<2 ^ 63:=by omega
 have e1:double.word neg ((K+1022)*2 ^ 52+M)%double.signWeight=(K+1022)*2 ^ 52+M:=by
  unfold Format.word
  show _%2 ^ 63=_
  cases neg with
  | true=>rw[if_pos rfl];show(2 ^ 63+_)%2 ^ 63=_;omega
  | false=>rw[if_neg (by simp)];omega
 have e2:(double.word neg ((K+1022)*2 ^ 52+M) / double.signWeight%2==1)=neg:=by
  unfold Format.word
  show(_ / 2 ^ 63%2==1)=_
  cases neg with
  | true =>
    rw[if_pos rfl]
    show((2 ^ 63+_) / 2 ^ 63%2==1)=true
    rw[show(2 ^ 63+((K+1022)*2 ^ 52+M)) / 2 ^ 63=1 by omega]
    rfl
  | false =>
    rw[if_neg (by simp),show((K+1022)*2 ^ 52+M) / 2 ^ 63=0 by omega]
    rfl
 have e3:double.binade=2 ^ 52:=rfl
 have e4:double.infRung=2047*2 ^ 52:=by decide
 have e5:double.leastPlace = -1074:=by decide
 unfold Format.read
 rw[e1,e2,e3,e4,e5]
 simp only
 rw[if_neg (by omega),if_pos (by omega)]
 have d1:((K+1022)*2 ^ 52+M) / 2 ^ 52=K+1023:=by omega
 have d2:((K+1022)*2 ^ 52+M)%2 ^ 52=M-2 ^ 52:=by omega
 rw[d1,d2,show 2 ^ 52+(M-2 ^ 52)=M by omega,show(-1074:Int)+((K+1023-1:Nat):Int)=(K:Int)-52 by omega]
theorem KM {neg:Bool}{low drop:Nat}{way:Toward}:way.cut neg (low*2 ^ drop) drop=low:=by
 unfold Toward.cut
 by_cases h0:low=0
 ·subst h0
  rw[Nat.zero_mul]
  have hg:0<1 <<< min drop (Nat.log2 0+2):=by rw[Nat.shiftLeft_eq,Nat.one_mul];exact Nat.pow_pos (by omega)
  generalize 1 <<< min drop (Nat.log2 0+2)=g at hg
  simp only[Nat.zero_div,Nat.zero_mod]
  cases way <;> simp <;> omega
 ·have hp:0<2 ^ drop:=Nat.pow_pos (by omega)
  have hl:min drop ((low*2 ^ drop).log2+2)=drop:=by
   rw[PU low drop h0];omega
  rw[hl,Nat.shiftLeft_eq,Nat.one_mul]
  simp only[Nat.mul_div_cancel _ hp,Nat.mul_mod_left]
  cases way <;> simp <;> omega
theorem AP {d:Datum}{n:Int}(h:pX d n)(hn:n.natAbs<2 ^ 53):uW (double.write d) n:=by
 obtain⟨s,m,e,rfl,he⟩:=h
 have ha:=PV he
 have hpe:0<2 ^ e.toNat:=Nat.pow_pos (by omega)
 have hpe':0<2 ^ (-e).toNat:=Nat.pow_pos (by omega)
 unfold uW
 show pX (double.read (double.nearest s m e)) n
 unfold Format.nearest
 by_cases hm:m=0
 ·rw[if_pos hm]
  subst hm
  have hn0:n=0:=by
   rw[Nat.zero_mul]at ha
   have:n.natAbs=0:=(Nat.mul_eq_zero.1 ha.symm).resolve_right (by omega)
   omega
  subst hn0
  have:double.read (double.word s 0) = .number s 0 (-1074):=by cases s <;> decide +kernel
  rw[this]
  refine⟨s,0,-1074,rfl,?_⟩
  rw[show sg s 0=0 by cases s <;> rfl,Int.zero_mul,Int.zero_mul]
 ·rw[if_neg hm]
  have hn0:n.natAbs≠0:=by
   intro h0
   rw[h0,Nat.zero_mul]at ha
   exact hm ((Nat.mul_eq_zero.1 ha).resolve_right (by omega))
  obtain⟨N,hN⟩:∃ N,n.natAbs=N:=⟨_,rfl⟩
  rw[hN]at ha hn hn0
  obtain⟨K,hKe⟩:∃ K,N.log2=K:=⟨_,rfl⟩
  have hK:K<=52:=by
   have:=(Nat.log2_lt hn0).2 hn
   omega
  have hlog:(m.log2:Int)+e=K:=by
   have:=congrArg Nat.log2 ha
   rw[PU m _ hm,PU N _ hn0]at this
   omega
  have hf:(double.fractionBits:Int)=52:=rfl
  have e5:double.leastPlace = -1074:=by decide
  have hlast:max (e+m.log2-double.fractionBits) double.leastPlace=(K:Int)-52:=by
   rw[hf,e5];omega
  simp only
  rw[hlast]
  have hkept:Toward.even.cut s (m <<< (e-((K:Int)-52)).toNat) ((K:Int)-52-e).toNat=N*2 ^ (52-K):=by
   rw[Nat.shiftLeft_eq]
   by_cases hc:(K:Int)-52<=e
   ·rw[show((K:Int)-52-e).toNat=0 by omega]
    have e1:m*2 ^ (e-((K:Int)-52)).toNat=N*2 ^ (52-K):=by
     have hp:0<2 ^ (-e).toNat:=hpe'
     apply Nat.eq_of_mul_eq_mul_right hp
     rw[Nat.mul_assoc,Nat.mul_assoc,<- Nat.pow_add,Nat.mul_comm (2 ^ (52-K)),<- Nat.mul_assoc,<- ha,Nat.mul_assoc,<- Nat.pow_add]
     congr 2
     omega
    rw[e1]
    have := @KM s (N*2 ^ (52-K)) 0 .even
    rw[Nat.pow_zero,Nat.mul_one]at this
    exact this
   ·rw[show(e-((K:Int)-52)).toNat=0 by omega,Nat.pow_zero,Nat.mul_one]
    have e1:m=N*2 ^ (52-K)*2 ^ ((K:Int)-52-e).toNat:=by
     have h0:e.toNat=0:=by omega
     rw[h0,Nat.pow_zero,Nat.mul_one]at ha
     rw[ha,Nat.mul_assoc,<- Nat.pow_add]
     congr 2
     omega
    rw[e1]
    exact KM
  rw[hkept,e5,show((K:Int)-52 - -1074).toNat=K+1022 by omega]
  have b1:2 ^ 52<=N*2 ^ (52-K):=by
   have:=Nat.mul_le_mul_right (2 ^ (52-K)) (Nat.log2_self_le hn0)
   rw[hKe,<- Nat.pow_add,show K+(52-K)=52 by omega]at this
   exact this
  have b2:N*2 ^ (52-K)<2 ^ 53:=by
   have:=Nat.mul_lt_mul_of_pos_right (@Nat.lt_log2_self N) (show 0<2 ^ (52-K)from Nat.pow_pos (by omega))
   rw[hKe,<- Nat.pow_add,show K+1+(52-K)=53 by omega]at this
   exact this
  have hmin:min ((K+1022)*double.binade+N*2 ^ (52-K)) double.infRung=(K+1022)*2 ^ 52+N*2 ^ (52-K):=by
   rw[show double.binade=2 ^ 52 from rfl,show double.infRung=2047*2 ^ 52 by decide]
   generalize N*2 ^ (52-K)=M at b1 b2⊢
   exact Nat.min_eq_left (by omega)
  rw[hmin,aCg hK b1 b2]
  refine⟨s,_,_,rfl,?_⟩
  have hs:sg s (N*2 ^ (52-K))=n*2 ^ (52-K):=by
   have hp:(0:Int)<2 ^ e.toNat:=Int.pow_pos (by omega)
   have hp':(0:Int)<2 ^ (-e).toNat:=Int.pow_pos (by omega)
   unfold sg at he⊢
   rw[Int.natCast_mul,pw]
   cases s with
   | true =>
     rw[if_pos rfl]at he⊢
     have hneg:n<0:=by
      have h1:(-(m:Int))*2 ^ e.toNat<0:=Int.mul_neg_of_neg_of_pos (by omega) hp
      rw[he]at h1
      rcases Int.lt_or_le n 0 with h|h
      ·exact h
      ·have:=Int.mul_nonneg h (Int.le_of_lt hp');omega
     rw[<- Int.neg_mul,show -(N:Int)=n by omega]
   | false =>
     rw[if_neg (by simp)]at he⊢
     have hpos:0<=n:=by
      have h1:0<=(m:Int)*2 ^ e.toNat:=Int.mul_nonneg (by omega) (Int.le_of_lt hp)
      rw[he]at h1
      rcases Int.lt_or_le n 0 with h|h
      ·have:=Int.mul_neg_of_neg_of_pos h hp';omega
      ·exact h
     rw[show(N:Int)=n by omega]
  rw[hs,show((K:Int)-52).toNat=0 by omega,show(-((K:Int)-52)).toNat=52-K by omega,Int.pow_zero,Int.mul_one]
theorem XA {s:Bool}{m:Nat}{e n:Int}(he:sg s m*2 ^ e.toNat=n*2 ^ (-e).toNat):sg s n.natAbs=n:=by
 have hp:(0:Int)<2 ^ e.toNat:=Int.pow_pos (by omega)
 have hp':(0:Int)<2 ^ (-e).toNat:=Int.pow_pos (by omega)
 unfold sg at he⊢
 cases s with
 | true =>
   rw[if_pos rfl]at he⊢
   have h1:(-(m:Int))*2 ^ e.toNat<=0:=Int.mul_nonpos_of_nonpos_of_nonneg (by omega) (Int.le_of_lt hp)
   rw[he]at h1
   rcases Int.lt_or_le 0 n with h|h
   ·have:=Int.mul_pos h hp';omega
   ·omega
 | false =>
   rw[if_neg (by simp)]at he⊢
   have h1:0<=(m:Int)*2 ^ e.toNat:=Int.mul_nonneg (by omega) (Int.le_of_lt hp)
   rw[he]at h1
   rcases Int.lt_or_le n 0 with h|h
   ·have:=Int.mul_neg_of_neg_of_pos h hp';omega
   ·omega
theorem yQ (s:Bool)(m up:Nat):signed s m up=sg s m*2 ^ up:=by
 unfold signed sg
 rw[Nat.shiftLeft_eq,Int.natCast_mul,pw]
 cases s <;> simp[Int.neg_mul]
theorem shift {S a i base:Int}(h:S*2 ^ i.toNat=a*2 ^ (-i).toNat)(hb:base<=i):S*2 ^ (i-base).toNat*2 ^ base.toNat=a*2 ^ (-base).toNat:=by
 rw[Int.mul_assoc,<- Int.pow_add]
 by_cases h0:0<=base
 ·rw[show(-base).toNat=0 by omega,show(i-base).toNat+base.toNat=i.toNat by omega,h,show(-i).toNat=0 by omega]
 ·rw[show base.toNat=0 by omega,Nat.add_zero]
  by_cases h1:0<=i
  ·rw[show(i-base).toNat=i.toNat+(-base).toNat by omega,Int.pow_add,<- Int.mul_assoc,h,show(-i).toNat=0 by omega,Int.pow_zero,Int.mul_one]
  ·rw[show i.toNat=0 by omega,Int.pow_zero,Int.mul_one]at h
   rw[h,Int.mul_assoc,<- Int.pow_add,show(-i).toNat+(i-base).toNat=(-base).toNat by omega]
theorem aA8 (n:Int):pX (.number (decide (n<0)) n.natAbs 0) n:=⟨_,_,_,rfl,by rw[TT];rfl⟩
theorem aAS {d:Datum}{n:Int}(h:pX d n):pX d.opposite (-n):=by
 obtain⟨s,m,e,rfl,he⟩:=h
 refine⟨!s,m,e,rfl,?_⟩
 have:sg (!s) m = -sg s m:=by cases s <;> simp[sg]
 rw[this,Int.neg_mul,Int.neg_mul,he]
theorem PG {d d':Datum}{a b:Int}(h:pX d a)(h':pX d' b):∃ r,d.sum d'=some r/\pX r (a+b):=by
 obtain⟨s,m,i,rfl,h1⟩:=h
 obtain⟨t,n,j,rfl,h2⟩:=h'
 refine⟨_,rfl,_,_,_,rfl,?_⟩
 rw[yQ,yQ]
 have k1:=shift h1 (show min i j<=i by omega)
 have k2:=shift h2 (show min i j<=j by omega)
 generalize min i j=base at k1 k2⊢
 have hs:∀ x:Int,sg (if x=0 then s&&t else decide (x<0)) x.natAbs=x:=by
  intro x
  by_cases h0:x=0
  ·subst h0;simp[sg]
  ·rw[if_neg h0];exact TT x
 rw[hs,Int.add_mul,k1,k2,<- Int.add_mul]
theorem PK {d d':Datum}{a b:Int}(h:pX d a)(h':pX d' b):∃ r,d.product d'=some r/\pX r (a*b):=by
 obtain⟨s,m,i,rfl,h1⟩:=h
 obtain⟨t,n,j,rfl,h2⟩:=h'
 refine⟨_,rfl,_,_,_,rfl,?_⟩
 have hs:sg (s ^^ t) (m*n)=sg s m*sg t n:=by
  unfold sg
  rw[Int.natCast_mul]
  cases s <;> cases t <;> simp[Int.neg_mul,Int.mul_neg]
 rw[hs]
 generalize sg s m=S at h1⊢
 generalize sg t n=T at h2⊢
 have hp:(2:Int) ^ ((-i).toNat+(-j).toNat)≠0:=Int.ne_of_gt (Int.pow_pos (by omega))
 apply Int.eq_of_mul_eq_mul_right hp
 have e1:S*T*2 ^ (i.toNat+j.toNat)=a*b*2 ^ ((-i).toNat+(-j).toNat):=by
  rw[Int.pow_add,Int.pow_add]
  calc S*T*(2 ^ i.toNat*2 ^ j.toNat)=(S*2 ^ i.toNat)*(T*2 ^ j.toNat):=by ac_rfl
   _=(a*2 ^ (-i).toNat)*(b*2 ^ (-j).toNat):=by rw[h1,h2]
   _=a*b*(2 ^ (-i).toNat*2 ^ (-j).toNat):=by ac_rfl
 rw[Int.mul_assoc,<- Int.pow_add,show(i+j).toNat+((-i).toNat+(-j).toNat)=(i.toNat+j.toNat)+(-(i+j)).toNat by omega,Int.pow_add,<- Int.mul_assoc,e1]
 ac_rfl
theorem WK {d d':Datum}{a b:Int}(h:pX d a)(h':pX d' b):d.order d'=some (compare a b):=by
 obtain⟨s,m,i,rfl,h1⟩:=h
 obtain⟨t,n,j,rfl,h2⟩:=h'
 show some (compare (signed s m (i-min i j).toNat) (signed t n (j-min i j).toNat))=_
 rw[yQ,yQ]
 have k1:=shift h1 (show min i j<=i by omega)
 have k2:=shift h2 (show min i j<=j by omega)
 generalize min i j=base at k1 k2⊢
 generalize sg s m*2 ^ (i-base).toNat=x at k1⊢
 generalize sg t n*2 ^ (j-base).toNat=y at k2⊢
 have hp:(0:Int)<2 ^ base.toNat:=Int.pow_pos (by omega)
 have hp':(0:Int)<2 ^ (-base).toNat:=Int.pow_pos (by omega)
 have hlt:x<y ↔ a<b:=by
  constructor
  ·intro h
   have:=Int.mul_lt_mul_of_pos_right h hp
   rw[k1,k2]at this
   exact Int.lt_of_mul_lt_mul_right this (Int.le_of_lt hp')
  ·intro h
   have:=Int.mul_lt_mul_of_pos_right h hp'
   rw[<- k1,<- k2]at this
   exact Int.lt_of_mul_lt_mul_right this (Int.le_of_lt hp)
 have heq:x=y ↔ a=b:=by
  constructor
  ·intro h
   rw[h,k2]at k1
   exact(Int.eq_of_mul_eq_mul_right (Int.ne_of_gt hp') k1).symm
  ·intro h
   rw[h,<- k2]at k1
   exact Int.eq_of_mul_eq_mul_right (Int.ne_of_gt hp) k1
 congr 1
 show compareOfLessAndEq x y=compareOfLessAndEq a b
 unfold compareOfLessAndEq
 simp only[hlt,heq]
theorem U2 {d:Datum}{n:Int}(h:pX d n):d.toInt .zero=some n:=by
 obtain⟨s,m,e,rfl,he⟩:=h
 show some (signed s (Toward.zero.cut s (m <<< e.toNat) (-e).toNat) 0)=_
 rw[Nat.shiftLeft_eq,PV he,KM,yQ,Int.pow_zero,Int.mul_one,XA he]
theorem QR {n:Int}(hn:n.natAbs<2 ^ 53):uW (FloatKind.f64.nearest n) n:=AP (aA8 n) hn
theorem Q8 {x y:Nat}{a b:Int}(h:uW x a)(h':uW y b)(hn:(a+b).natAbs<2 ^ 53):∃ r,double.add x y=some r/\uW r (a+b):=by
 obtain⟨d,h1,h2⟩:=PG h h'
 exact⟨_,by unfold Format.add;rw[h1];rfl,AP h2 hn⟩
theorem OJ {x y:Nat}{a b:Int}(h:uW x a)(h':uW y b)(hn:(a-b).natAbs<2 ^ 53):∃ r,double.sub x y=some r/\uW r (a-b):=by
 obtain⟨d,h1,h2⟩:=PG h (aAS h')
 exact⟨_,by unfold Format.sub;rw[h1];rfl,AP (by rw[Int.sub_eq_add_neg];exact h2) hn⟩
theorem IY {x y:Nat}{a b:Int}(h:uW x a)(h':uW y b)(hn:(a*b).natAbs<2 ^ 53):∃ r,double.mul x y=some r/\uW r (a*b):=by
 obtain⟨d,h1,h2⟩:=PK h h'
 exact⟨_,by unfold Format.mul;rw[h1];rfl,AP h2 hn⟩
theorem aA7 {x y:Nat}{a b:Int}(h:uW x a)(h':uW y b):double.order x y=some (compare a b):=WK h h'
theorem Z0 {x:Nat}{a:Int}(h:uW x a):(double.read x).toInt .zero=some a:=U2 h
def CD (z:Nat×Nat)(a b:Int):Prop:=uW z.1 a/\uW z.2 b
theorem aC0 {x y:Nat×Nat}{a b c d:Int}(h:CD x a b)(h':CD y c d)(h1:(a+c).natAbs<2 ^ 53)(h2:(b+d).natAbs<2 ^ 53):∃ r,cSumBits .add .f64 x.1 x.2 y.1 y.2=some r/\CD r (a+c) (b+d):=by
 obtain⟨u,u1,u2⟩:=Q8 h.1 h'.1 h1
 obtain⟨v,v1,v2⟩:=Q8 h.2 h'.2 h2
 refine⟨(u,v),?_,u2,v2⟩
 have e1:floatBits .add .f64 x.1 y.1=some u:=u1
 have e2:floatBits .add .f64 x.2 y.2=some v:=v1
 unfold cSumBits
 rw[e1,e2]
 rfl
theorem aCf {x y:Nat×Nat}{a b c d:Int}(h:CD x a b)(h':CD y c d)(h1:(a-c).natAbs<2 ^ 53)(h2:(b-d).natAbs<2 ^ 53):∃ r,cSumBits .sub .f64 x.1 x.2 y.1 y.2=some r/\CD r (a-c) (b-d):=by
 obtain⟨u,u1,u2⟩:=OJ h.1 h'.1 h1
 obtain⟨v,v1,v2⟩:=OJ h.2 h'.2 h2
 refine⟨(u,v),?_,u2,v2⟩
 have e1:floatBits .sub .f64 x.1 y.1=some u:=u1
 have e2:floatBits .sub .f64 x.2 y.2=some v:=v1
 unfold cSumBits
 rw[e1,e2]
 rfl
theorem aC7 {x y:Nat×Nat}{a b c d:Int}(h:CD x a b)(h':CD y c d)(h1:(a*c).natAbs<2 ^ 52)(h2:(b*d).natAbs<2 ^ 52)(h3:(a*d).natAbs<2 ^ 52)(h4:(b*c).natAbs<2 ^ 52) :
 ∃ r,cMulBits x.1 x.2 y.1 y.2=some r/\CD r (a*c-b*d) (a*d+b*c):=by
 obtain⟨p,p1,p2⟩:=IY h.1 h'.1 (by omega)
 obtain⟨q,q1,q2⟩:=IY h.2 h'.2 (by omega)
 obtain⟨u,u1,u2⟩:=OJ p2 q2 (by omega)
 obtain⟨s,s1,s2⟩:=IY h.1 h'.2 (by omega)
 obtain⟨t,t1,t2⟩:=IY h.2 h'.1 (by omega)
 obtain⟨v,v1,v2⟩:=Q8 s2 t2 (by omega)
 refine⟨(u,v),?_,u2,v2⟩
 have e1:floatBits .mul .f64 x.1 y.1=some p:=p1
 have e2:floatBits .mul .f64 x.2 y.2=some q:=q1
 have e3:floatBits .sub .f64 p q=some u:=u1
 have e4:floatBits .mul .f64 x.1 y.2=some s:=s1
 have e5:floatBits .mul .f64 x.2 y.1=some t:=t1
 have e6:floatBits .add .f64 s t=some v:=v1
 unfold cMulBits
 simp only[e1,e2,e3,e4,e5,e6,Option.bind_some]
theorem GT {n:Int}(hn:n.natAbs<2 ^ 53):uW (floatOfInt .f64 n) n:=QR hn
theorem YD {x:Nat}{n:Int}(h:uW x n)(h1 : -9223372036854775808<=n)(h2:n<=9223372036854775807):floatToIntVal .f64 x .i64=some n:=by
 unfold floatToIntVal
 have:(FloatKind.f64.decode x).toInt .zero=some n:=Z0 h
 rw[this]
 simp only
 rw[if_pos ⟨by show IntKind.i64.min<=n;have:IntKind.i64.min = -9223372036854775808:=by decide
               omega,by show n<=IntKind.i64.max;have:IntKind.i64.max=9223372036854775807:=by decide
                        omega⟩]
theorem wB {x y:Nat}{a b:Int}(h:uW x a)(h':uW y b):FloatKind.f64.format.order x y=some (compare a b):=aA7 h h'
end Go.Fl

namespace Go.Proofs.YtcfpfefadlnmcaaGreat
open Go.Mach Go.RowKit
set_option maxRecDepth 100000
set_option linter.unusedVariables false
set_option linter.unusedSimpArgs false
def rJ:Int->List Int->Int
 | acc,[]=>acc
 | acc,d::r=>if ((decide (d<1)||decide (4096<d))||decide (8192<IntKind.i64.wrap (acc*d)))=true then 0 else rJ (IntKind.i64.wrap (acc*d)) r
def szF (l:List Int):Int:=if (decide ((l.length:Int)<1)||decide (4<(l.length:Int)))=true then 0 else rJ 1 l
theorem aB7:∀ (l:List Int) (acc:Int),acc<=8192->rJ acc l<=8192
 | [],acc,h=>h
 | d::r,acc,h=>by
   unfold rJ
   split
   ·omega
   ·rename_i hn
    simp only[Bool.or_eq_true,decide_eq_true_eq,not_or]at hn
    exact aB7 r _ (by omega)
theorem GN (l:List Int):szF l<=8192:=by
 unfold szF
 split
 ·omega
 ·exact aB7 l 1 (by omega)
theorem DP {a:List Int}{Q:Int->Prop}(h:Q (szF a)):jX a Q:=by
 refine⟨?_⟩
 unfold szF at h
 by_cases e:(decide ((a.length:Int)<1)||decide (4<(a.length:Int)))=true
 ·rw[if_pos e]at h⊢;exact h
 ·rw[if_neg e]at h⊢
  simp only[Bool.or_eq_true,decide_eq_true_eq,not_or]at e
  obtain⟨z,hzz⟩:∃ z,rJ 1 a=z:=⟨_,rfl⟩
  rw[hzz]at h
  refine⟨?_⟩
  refine Loop.inv (n:=a.length) (fun m s=>∃ i:Nat,i+m=a.length/\s.2=(i:Int)/\rJ s.1 (a.drop i)=z) ⟨0,by omega,rfl,hzz⟩ ?_
  rintro m ⟨acc,i'⟩ X ⟨i,hi,he,hz⟩ hX
  simp only at he hz
  subst he
  unfold B8
  by_cases hlt:i<a.length
  ·have hd:a.drop i=a.getD i 0::a.drop (i+1):=by
    rw[List.drop_eq_getElem_cons hlt,List.getD_eq_getElem?_getD,List.getElem?_eq_getElem hlt];rfl
   rw[hd]at hz
   rw[if_pos (by simpa using hlt)]
   refine⟨by simp only[];omega,?_⟩
   simp only[Int.toNat_natCast]
   unfold rJ at hz
   split
   ·rename_i hc
    rw[if_pos hc]at hz
    rw[<- hz]at h;exact h
   ·rename_i hc
    rw[if_neg hc]at hz
    refine hX (m-1) _ (by omega) ⟨i+1,by omega,?_,hz⟩
    show IntKind.i64.wrap ((i:Int)+1)=_
    rw[aA _ (by omega) (by omega)];rfl
  ·have hil:i=a.length:=by omega
   subst hil
   rw[if_neg (by simp)]
   rw[List.drop_length]at hz
   unfold rJ at hz
   show Q acc
   rw[hz];exact h
theorem EL {a:List Int}{Q:Bool->Prop}(h:Q (decide (0<szF a))):fY a Q:=by
 refine⟨?_⟩
 exact DP h
open Go.Mach Go.RowKit Go.Fl
set_option maxRecDepth 100000
set_option linter.unusedVariables false
set_option linter.unusedSimpArgs false
def inP (a lo hi:Int):Bool:=decide (lo<=a)&&decide (a<=hi)
theorem FU {a lo hi:Int}{Q:Bool->Prop}(h:Q (inP a lo hi)):o8 a lo hi Q:=⟨h⟩
theorem EO {a lo hi:Int}(h1:lo<=a)(h2:a<=hi):inP a lo hi=true:=by
 unfold inP
 rw[decide_eq_true h1,decide_eq_true h2]
 rfl
theorem aF2 {r c:Int}{Q:Nat×Nat->Prop}(h1 : -1000<=r/\r<=1000)(h2 : -1000<=c/\c<=1000)(h:∀ z,CD z r c->Q z):yT r c Q:=by
 refine⟨?_⟩
 refine FU ?_
 rw[EO h1.1 h1.2]
 simp only[jn,Bool.not_true,Bool.false_eq_true,if_false]
 refine FU ?_
 rw[EO h2.1 h2.2]
 simp only[Bool.not_true,Bool.false_eq_true,if_false]
 exact h _ ⟨GT (by omega),GT (by omega)⟩
theorem aEh:uW 13875379345695965184 (-1000):=by
 have:FloatKind.f64.nearest (-1000)=13875379345695965184:=by decide +kernel
 rw[<- this]
 exact QR (by decide)
theorem aFX:uW 4652007308841189376 1000:=by
 have:FloatKind.f64.nearest 1000=4652007308841189376:=by decide +kernel
 rw[<- this]
 exact QR (by decide)
theorem aGO (a b:Int):((some (compare a b)==some Ordering.gt)||(some (compare a b)==some Ordering.eq))=decide (b<=a):=by
 show((some (compareOfLessAndEq a b)==some Ordering.gt)||(some (compareOfLessAndEq a b)==some Ordering.eq))=decide (b<=a)
 unfold compareOfLessAndEq
 by_cases h1:a<b
 ·rw[if_pos h1,decide_eq_false (by omega)];rfl
 ·rw[if_neg h1]
  by_cases h2:a=b
  ·rw[if_pos h2,decide_eq_true (by omega)];rfl
  ·rw[if_neg h2,decide_eq_true (by omega)];rfl
theorem aGh (a b:Int):((some (compare a b)==some Ordering.lt)||(some (compare a b)==some Ordering.eq))=decide (a<=b):=by
 show((some (compareOfLessAndEq a b)==some Ordering.lt)||(some (compareOfLessAndEq a b)==some Ordering.eq))=decide (a<=b)
 unfold compareOfLessAndEq
 by_cases h1:a<b
 ·rw[if_pos h1,decide_eq_true (by omega)];rfl
 ·rw[if_neg h1]
  by_cases h2:a=b
  ·rw[if_pos h2,decide_eq_true (by omega)];rfl
  ·rw[if_neg h2,decide_eq_false (by omega)];rfl
theorem aG6 (a:Int):(some (compare a a)==some Ordering.eq)=true:=by
 show(some (compareOfLessAndEq a a)==some Ordering.eq)=true
 unfold compareOfLessAndEq
 rw[if_neg (by omega),if_pos rfl]
 rfl
theorem aBW {x:Nat}{n:Int}{Q:Int×Bool->Prop}(hw:uW x n)(h:Q (if inP n (-1000) 1000=true then(n,true)else(0,false))):wX x Q:=by
 refine⟨?_⟩
 rw[wB hw aEh,wB hw aFX,aGO,aGh]
 by_cases hi:inP n (-1000) 1000=true
 ·rw[if_pos hi]at h
  unfold inP at hi
  rw[hi,if_neg (by simp)]
  simp only[Bool.and_eq_true,decide_eq_true_eq]at hi
  refine⟨n,YD hw (by omega) (by omega),?_⟩
  show Q (n,FloatKind.f64.format.order (floatOfInt .f64 n) x==some Ordering.eq)
  rw[wB (GT (by omega)) hw,aG6]
  exact h
 ·rw[if_neg hi]at h
  unfold inP at hi
  have hi2:(decide (-1000<=n)&&decide (n<=1000))=false:=by simpa using hi
  rw[hi2,if_pos (by rfl)]
  exact h
theorem aIU {z:Nat×Nat}{r c:Int}{Q:Int×Int×Bool->Prop}(hz:CD z r c)(h:Q (if (inP r (-1000) 1000&&inP c (-1000) 1000)=true then(r,c,true)else(0,0,false))):PZ z Q:=by
 refine⟨?_⟩
 refine aBW hz.1 (aBW hz.2 ?_)
 cases h1:inP r (-1000) 1000 <;> cases h2:inP c (-1000) 1000 <;> rw[h1,h2]at h <;> exact h
open Go.Mach Go.RowKit Go.Fl
set_option maxRecDepth 100000
set_option linter.unusedVariables false
set_option linter.unusedSimpArgs false
def jO (rows cols cr cc:Int)(i j:Nat):List (Int×Int×Int) :=
 if (inP (cr+i) 0 (rows-1)&&inP (cc+j) 0 (cols-1))=true then [((cr+i)*cols+(cc+j),(i:Int),(j:Int))]else []
def oQ (rows cols cr cc:Int)(i k:Nat):List (Int×Int×Int):=(List.range k).flatMap (jO rows cols cr cc i)
theorem W3 (rows cols cr cc:Int)(i j:Nat):(jO rows cols cr cc i j).length<=1:=by
 unfold jO;split <;> simp
theorem LV {rows cols cr cc:Int}{i k:Nat}:oQ rows cols cr cc i (k+1)=oQ rows cols cr cc i k++jO rows cols cr cc i k:=by
 unfold oQ
 rw[List.range_succ,List.flatMap_append]
 simp
theorem G5 {rows cols cr cc:Int}{i:Nat}:∀ k,(oQ rows cols cr cc i k).length<=k
 | 0=>by simp[oQ]
 | k+1=>by
   rw[LV,List.length_append]
   have:=G5 (rows:=rows) (cols:=cols) (cr:=cr) (cc:=cc) (i:=i) k
   have:=W3 rows cols cr cc i k
   omega
theorem aGE {z:Nat×Nat}{rows cols cr cc:Int}{i k:Nat}{acc:List (Int×Int×Int)}{K0:List (Int×Int×Int)->Prop}(hz:CD z cr cc)(hr:0<=rows/\rows<=1000)(hc:0<=cols/\cols<=1000)(hcr : -100000<=cr/\cr<=100000)(hcc : -100000<=cc/\cc<=100000)(hi:i<=1000)(hk:k<=1000)(ha:acc.length<=1000000)
 (h:K0 (acc++oQ rows cols cr cc i k)):mC z (i:Int) (k:Int) rows cols K0 (0,acc):=by
 refine⟨?_⟩
 have eg:((0:Int),acc)=(fun j:Nat=>((j:Int),acc++oQ rows cols cr cc i j)) 0:=by simp[oQ]
 rw[eg]
 refine Loop.range (B:=iD z (i:Int) (k:Int) rows cols K0) (f:=fun j:Nat=>((j:Int),acc++oQ rows cols cr cc i j)) k (fun _=>True) trivial ?_ ?_
 ·intro j hj _ X hX
  have hX:=hX trivial
  unfold iD
  rw[if_pos (decide_eq_true (show(j:Int)<(k:Int) by omega))]
  dsimp only at hX⊢
  refine aF2 (by omega) (by omega) fun u hu => ?_
  obtain⟨r,e,hrr⟩:=aC0 hz hu (by omega) (by omega)
  refine⟨r,e,aIU (z:=r) hrr ?_⟩
  have hlen:=G5 (rows:=rows) (cols:=cols) (cr:=cr) (cc:=cc) (i:=i) j
  have e1:IntKind.i64.wrap (rows-1)=rows-1:=aA _ (by omega) (by omega)
  have e2:IntKind.i64.wrap (cols-1)=cols-1:=aA _ (by omega) (by omega)
  rw[LV,<- List.append_assoc]at hX
  by_cases hin:(inP (cr+i) 0 (rows-1)&&inP (cc+j) 0 (cols-1))=true
  ·have ew:jO rows cols cr cc i j=[((cr+i)*cols+(cc+j),(i:Int),(j:Int))]:=by unfold jO;rw[if_pos hin]
   simp only[Bool.and_eq_true]at hin
   have b1:0<=cr+i/\cr+i<=rows-1:=by simpa [inP] using hin.1
   have b2:0<=cc+j/\cc+j<=cols-1:=by simpa [inP] using hin.2
   have m1:0<=(cr+i)*cols:=Int.mul_nonneg b1.1 hc.1
   have m2:(cr+i)*cols<=1000*1000:=Int.mul_le_mul (by omega) hc.2 hc.1 (by omega)
   rw[EO (by omega) (by omega),EO (by omega) (by omega),if_pos (by rfl)]
   simp only[jn,if_true]
   refine FU ?_
   rw[e1,hin.1]
   simp only[if_true]
   refine FU ?_
   rw[e2,hin.2]
   simp only[if_true]
   refine⟨?_,⟨?_⟩⟩
   ·simp only[List.length_append,List.length_singleton];omega
   ·skip
    rw[aA ((j:Int)+1) (by omega) (by omega),aA ((cr+i)*cols) (by omega) (by omega),aA ((cr+i)*cols+(cc+j)) (by omega) (by omega)]
    rw[ew]at hX
    exact hX
  ·have ew:jO rows cols cr cc i j=[]:=by unfold jO;rw[if_neg hin]
   rw[ew,List.append_nil]at hX
   have skip:i7 (j:Int) (fun(y28:Int)=>X (y28,acc++oQ rows cols cr cc i j)):=by
    refine⟨?_⟩
    rw[aA ((j:Int)+1) (by omega) (by omega)]
    exact hX
   by_cases hb:(inP (cr+i) (-1000) 1000&&inP (cc+j) (-1000) 1000)=true
   ·rw[if_pos hb]
    simp only[jn,if_true]
    refine FU ?_
    rw[e1]
    cases h1:inP (cr+i) 0 (rows-1)with
    | false=>simp only[Bool.false_eq_true,if_false];exact skip
    | true =>
      simp only[if_true]
      refine FU ?_
      rw[e2]
      cases h2:inP (cc+j) 0 (cols-1)with
      | false=>simp only[Bool.false_eq_true,if_false];exact skip
      | true=>rw[h1,h2]at hin;exact absurd rfl hin
   ·rw[if_neg hb]
    simp only[jn,Bool.false_eq_true,if_false]
    exact skip
 ·intro _ X
  unfold iD
  rw[if_neg (by simp)]
  exact h
def CL (rows cols cr cc:Int)(k:Nat)(m:Nat):List (Int×Int×Int):=(List.range m).flatMap fun i=>oQ rows cols cr cc i k
theorem SV {rows cols cr cc:Int}{k m:Nat}:CL rows cols cr cc k (m+1)=CL rows cols cr cc k m++oQ rows cols cr cc m k:=by
 unfold CL
 rw[List.range_succ,List.flatMap_append]
 simp
theorem HU {rows cols cr cc:Int}{k:Nat}:∀ m,(CL rows cols cr cc k m).length<=m*k
 | 0=>by simp[CL]
 | m+1=>by
   rw[SV,List.length_append,Nat.succ_mul]
   have:=HU (rows:=rows) (cols:=cols) (cr:=cr) (cc:=cc) (k:=k) m
   have:=G5 (rows:=rows) (cols:=cols) (cr:=cr) (cc:=cc) (i:=m) k
   omega
theorem X7 {rows cols stride pad r c:Int}{k:Nat}{Q:List (Int×Int×Int)->Prop}(hr:0<=rows/\rows<=1000)(hc:0<=cols/\cols<=1000)(hs:0<=stride/\stride<=100)(hp:0<=pad/\pad<=100)(h1:0<=r/\r<=900)(h2:0<=c/\c<=900)(hk:k<=900)
 (h:Q (CL rows cols (stride*r-pad) (stride*c-pad) k k)):lH (rows,cols,(k:Int),stride,pad) r c Q:=by
 have m1:0<=stride*r:=Int.mul_nonneg hs.1 h1.1
 have m2:stride*r<=100*900:=Int.mul_le_mul hs.2 h1.2 h1.1 (by omega)
 have m3:0<=stride*c:=Int.mul_nonneg hs.1 h2.1
 have m4:stride*c<=100*900:=Int.mul_le_mul hs.2 h2.2 h2.1 (by omega)
 refine⟨?_⟩
 dsimp only
 refine aF2 (by show -1000<=stride/\stride<=1000;omega) (by omega) fun u hu => ?_
 refine aF2 (by omega) (by omega) fun v hv => ?_
 obtain⟨p,e1,hpw⟩:=aC7 hu hv (by omega) (by rw[Int.zero_mul];decide) (by omega) (by rw[Int.zero_mul];decide)
 refine⟨p,e1,?_⟩
 refine aF2 (by show -1000<=pad/\pad<=1000;omega) (by show -1000<=pad/\pad<=1000;omega) fun q hq => ?_
 rw[Int.zero_mul,Int.zero_mul,Int.sub_zero,Int.add_zero]at hpw
 obtain⟨z,e2,hz⟩:=aCf hpw hq (by omega) (by omega)
 refine⟨z,e2,⟨?_⟩⟩
 show Go.Mach.Loop (eJ z (k:Int) rows cols (k:Int) (fun y=>Q y)) (0,[])
 have eg:((0:Int),([]:List (Int×Int×Int)))=(fun i:Nat=>((i:Int),CL rows cols (stride*r-pad) (stride*c-pad) k i)) 0:=by simp[CL]
 rw[eg]
 refine Loop.range (B:=eJ z (k:Int) rows cols (k:Int) (fun y=>Q y)) (f:=fun i:Nat=>((i:Int),CL rows cols (stride*r-pad) (stride*c-pad) k i)) k (fun _=>True) trivial ?_ ?_
 ·intro i hi _ X hX
  have hX:=hX trivial
  unfold eJ
  rw[if_pos (decide_eq_true (show(i:Int)<(k:Int) by omega))]
  dsimp only at hX⊢
  have hl:=HU (rows:=rows) (cols:=cols) (cr:=stride*r-pad) (cc:=stride*c-pad) (k:=k) i
  have hm:i*k<=900*900:=Nat.mul_le_mul (by omega) hk
  refine aGE (z:=z) hz hr hc (by omega) (by omega) (by omega) (by omega) (by omega) ?_
  rw[aA ((i:Int)+1) (by omega) (by omega)]
  rw[SV]at hX
  exact hX
 ·intro _ X
  unfold eJ
  rw[if_neg (by simp)]
  exact h
open Go.Mach Go.RowKit Go.Fl
set_option maxRecDepth 100000
set_option linter.unusedVariables false
set_option linter.unusedSimpArgs false
theorem Z5 {b c:Bool}{Q K:Bool->Prop}{G:(Bool->Prop)->Prop}(hG:∀ P:Bool->Prop,P c->G P)(hK:∀ v,v=(b||c)->K v)(hQ:Q=K):jn (fun v=>Q v) (fun J=>if b=true then J true else G J):=by
 subst hQ
 cases b with
 | true=>exact hK _ rfl
 | false=>show(if false=true then Q true else G (fun v=>Q v));rw[if_neg (by simp)];exact hG _ (hK _ (by simp))
theorem aBU {a lo hi:Int}{Q:Bool->Prop}(h:Q (inP a lo hi)):zN a lo hi Q:=⟨h⟩
def sK (n k s p:Int):Bool:=(((!inP n 1 16 || !inP k 1 5) || !inP s 1 4) || !inP p 0 (k-1))||decide (n+2*p<k)
def aL (n k s p:Int):Int:=if sK n k s p=true then 0 else(n+2*p-k) / s+1
theorem F3 {n k s p:Int}{Q:Int->Prop}(h:Q (aL n k s p)):mB n k s p Q:=by
 refine⟨?_⟩
 refine aBU ?_
 refine Z5 (b := !inP n 1 16) (c := !inP k 1 5) (fun P hp=>aBU hp) (fun v2 e2 => ?_) rfl
 refine Z5 (c := !inP s 1 4) (fun P hp=>aBU hp) (fun v5 e5 => ?_) rfl
 refine Z5 (c := !inP p 0 (IntKind.i64.wrap (k-1))) (fun P hp=>aBU hp) (fun v8 e8 => ?_) rfl
 have e8':v8=(((!inP n 1 16 || !inP k 1 5) || !inP s 1 4) || !inP p 0 (IntKind.i64.wrap (k-1))):=by rw[e8,e5,e2]
 by_cases hc:((!inP n 1 16 || !inP k 1 5) || !inP s 1 4)=true
 ·have hv:v8=true:=by rw[e8',hc];rfl
  have hb:sK n k s p=true:=by unfold sK;rw[hc];rfl
  unfold aL at h
  rw[if_pos hb]at h
  rw[hv,if_pos (by rfl)]
  exact h
 ·have hc':((!inP n 1 16 || !inP k 1 5) || !inP s 1 4)=false:=by simpa using hc
  simp only[Bool.or_eq_false_iff,Bool.not_eq_false']at hc'
  have b1:1<=n/\n<=16:=by simpa [inP] using hc'.1.1
  have b2:1<=k/\k<=5:=by simpa [inP] using hc'.1.2
  have b3:1<=s/\s<=4:=by simpa [inP] using hc'.2
  rw[aA (k-1) (by omega) (by omega)]at e8'
  cases hv:v8 with
  | true =>
    have hb:sK n k s p=true:=by unfold sK;rw[<- e8',hv];rfl
    unfold aL at h
    rw[if_pos hb]at h
    rw[if_pos (by rfl)]
    exact h
  | false =>
    have hp:inP p 0 (k-1)=true:=by
     rw[hv]at e8'
     have:=e8'.symm
     simp only[Bool.or_eq_false_iff,Bool.not_eq_false']at this
     exact this.2
    have b4:0<=p/\p<=k-1:=by simpa [inP] using hp
    rw[aA (2*p) (by omega) (by omega),aA (n+2*p) (by omega) (by omega)]
    have hbe:sK n k s p=decide (n+2*p<k):=by unfold sK;rw[<- e8',hv,Bool.false_or]
    unfold aL at h
    rw[hbe]at h
    rw[Bool.false_or]
    by_cases hl:decide (n+2*p<k)=true
    ·rw[if_pos hl]at h⊢;exact h
    ·rw[if_neg hl]at h⊢
     have hl2 : ¬ (n+2*p<k):=by simpa using hl
     have d0:0<=(n+2*p-k) / s:=Int.ediv_nonneg (by omega) (by omega)
     have d1:(n+2*p-k) / s<=n+2*p-k:=Int.ediv_le_self _ (by omega)
     refine⟨by omega,?_⟩
     rw[aA (n+2*p-k) (by omega) (by omega),Int.tdiv_eq_ediv_of_nonneg (by omega),aA ((n+2*p-k) / s) (by omega) (by omega),aA _ (by omega) (by omega)]
     exact h
theorem A1 {n k s p:Int}(h:sK n k s p=false):(1<=n/\n<=16)/\(1<=k/\k<=5)/\(1<=s/\s<=4)/\(0<=p/\p<=k-1)/\k<=n+2*p:=by
 unfold sK at h
 simp only[Bool.or_eq_false_iff,Bool.not_eq_false',decide_eq_false_iff_not]at h
 obtain⟨⟨⟨⟨h1,h2⟩,h3⟩,h4⟩,h5⟩:=h
 exact⟨by simpa [inP] using h1,by simpa [inP] using h2,by simpa [inP] using h3,by simpa [inP] using h4,by omega⟩
theorem vW (n k s p:Int):0<=aL n k s p/\aL n k s p<=25/\(1<=aL n k s p->sK n k s p=false):=by
 unfold aL
 cases hb:sK n k s p with
 | true=>rw[if_pos rfl];exact⟨by omega,by omega,fun h=>by omega⟩
 | false =>
   rw[if_neg (by simp)]
   obtain⟨b1,b2,b3,b4,b5⟩:=A1 hb
   have d0:0<=(n+2*p-k) / s:=Int.ediv_nonneg (by omega) (by omega)
   have d1:(n+2*p-k) / s<=n+2*p-k:=Int.ediv_le_self _ (by omega)
   exact⟨by omega,by omega,fun _=>rfl⟩
def aB5 (rows cols r c k s p:Int):Bool:=((decide (aL rows k s p<1)||decide (aL cols k s p<1)) || !inP r 0 (aL rows k s p-1)) || !inP c 0 (aL cols k s p-1)
def eM (rows cols r c k s p:Int):List (Int×Int×Int):=if aB5 rows cols r c k s p=true then []else CL rows cols (s*r-p) (s*c-p) k.toNat k.toNat
theorem DJ {rows cols r c k s p:Int}{Q:List (Int×Int×Int)->Prop}(h:Q (eM rows cols r c k s p)):nY rows cols r c k s p Q:=by
 refine⟨?_⟩
 refine⟨?_⟩
 refine F3 (F3 ?_)
 obtain⟨m1,m2,m3⟩:=vW rows k s p
 obtain⟨n1,n2,n3⟩:=vW cols k s p
 unfold eM aB5 at h
 dsimp only
 rw[aA (aL rows k s p-1) (by omega) (by omega),aA (aL cols k s p-1) (by omega) (by omega)]
 refine Z5 (b:=decide (aL rows k s p<1)||decide (aL cols k s p<1)) (c := !inP r 0 (aL rows k s p-1)) (fun P hp=>FU hp) (fun v2 e2 => ?_) rfl
 refine Z5 (c := !inP c 0 (aL cols k s p-1)) (fun P hp=>FU hp) (fun v5 e5 => ?_) rfl
 rw[<- e2,<- e5]at h
 cases hv:v5 with
 | true=>rw[hv,if_pos rfl]at h;rw[if_pos (by rfl)];exact h
 | false =>
   rw[hv,if_neg (by simp)]at h
   rw[if_neg (by simp)]
   rw[hv,e2]at e5
   have:=e5.symm
   simp only[Bool.or_eq_false_iff,Bool.not_eq_false',decide_eq_false_iff_not]at this
   obtain⟨⟨⟨g1,g2⟩,g3⟩,g4⟩:=this
   obtain⟨b1,b2,b3,b4,b5⟩:=A1 (m3 (by omega))
   obtain⟨c1,_⟩:=A1 (n3 (by omega))
   have r1:0<=r/\r<=aL rows k s p-1:=by simpa [inP] using g3
   have r2:0<=c/\c<=aL cols k s p-1:=by simpa [inP] using g4
   have hk:((k.toNat:Nat):Int)=k:=by omega
   have:=X7 (rows:=rows) (cols:=cols) (stride:=s) (pad:=p) (r:=r) (c:=c) (k:=k.toNat) (Q:=fun r8=>Q r8) (by omega) (by omega) (by omega) (by omega) (by omega) (by omega) (by omega) h
   rw[hk]at this
   exact this
end Go.Proofs.YtcfpfefadlnmcaaGreat
namespace Go.Proofs.YtcfpfefadlnmcaaGreat
end Go.Proofs.YtcfpfefadlnmcaaGreat
namespace Go.Proofs.YtcfpfefadlnmcaaGreat
end Go.Proofs.YtcfpfefadlnmcaaGreat
namespace Go.Proofs.YtcfpfefadlnmcaaGreat
end Go.Proofs.YtcfpfefadlnmcaaGreat

namespace Go.Proofs.YtcfpfefadlnmcaaGreat
open Go.Mach Go.RowKit
set_option maxRecDepth 100000
set_option linter.unusedVariables false
set_option linter.unusedSimpArgs false
abbrev T3:=List Int×Int×List Int
abbrev Z3:T3:=([],0,[])
theorem tD {b c:Bool}{Q K:Bool->Prop}{G:(Bool->Prop)->Prop}(hG:(b=true->∀ P:Bool->Prop,P c->G P))(hK:∀ v,v=(b&&c)->K v)(hQ:Q=K):jn (fun v=>Q v) (fun J=>if b=true then G J else J false):=by
 subst hQ
 cases b with
 | true=>show(if true=true then G (fun v=>Q v)else Q false);rw[if_pos rfl];exact hG rfl _ (hK _ (by simp))
 | false=>exact hK _ rfl
theorem nL {b c:Bool}{Q K:Bool->Prop}{G:(Bool->Prop)->Prop}(hG:b=false->∀ P:Bool->Prop,P c->G P)(hK:∀ v,v=(b||c)->K v)(hQ:Q=K):jn (fun v=>Q v) (fun J=>if b=true then J true else G J):=by
 subst hQ
 cases b with
 | true=>exact hK _ rfl
 | false=>show(if false=true then Q true else G (fun v=>Q v));rw[if_neg (by simp)];exact hG rfl _ (hK _ (by simp))
theorem A6 (a b A B:Int)(h1 : -A<=a)(h2:a<=A)(h3:0<=b)(h4:b<=B)(hA:0<=A) : -(A*B)<=a*b/\a*b<=A*B:=by
 have e1:a*b<=A*b:=Int.mul_le_mul_of_nonneg_right h2 h3
 have e2:A*b<=A*B:=Int.mul_le_mul_of_nonneg_left h4 hA
 have e3 : -A*b<=a*b:=Int.mul_le_mul_of_nonneg_right h1 h3
 have e4 : -A*b = -(A*b):=Int.neg_mul A b
 omega
theorem R4 {a b:Int}(h : -128<=a/\a<=127)(k : -128<=b/\b<=127) : -16384<=a*b/\a*b<=16384:=by
 rcases Int.le_total 0 b with hb|hb
 ·have:=A6 a b 128 128 (by omega) (by omega) hb (by omega) (by omega)
  omega
 ·have:=A6 a (-b) 128 128 (by omega) (by omega) (by omega) (by omega) (by omega)
  rw[Int.mul_neg]at this
  omega
def All8 (l:List Int):Prop:=∀ y∈l,-128<=y/\y<=127
theorem All8.at_ {l:List Int}(h:All8 l)(i:Nat) : -128<=l.getD i 0/\l.getD i 0<=127:=by
 rw[List.getD_eq_getElem?_getD]
 cases hq:l[i]? with
 | none=>simp
 | some y=>exact h y (List.mem_of_getElem? hq)
theorem ix {r n i:Nat}(h:r*n+i<=100000000):IntKind.i64.wrap (IntKind.i64.wrap ((r:Int)*(n:Int))+(i:Int))=((r*n+i:Nat):Int):=by
 have e:(r:Int)*(n:Int)=((r*n:Nat):Int):=by rw[Int.natCast_mul]
 have h1:r*n<=100000000:=by omega
 rw[e,aA ((r*n:Nat):Int) (by omega) (by omega),aA _ (by omega) (by omega),Int.natCast_add]
theorem vL {r n:Nat}(h:r*n<=100000000):IntKind.i64.wrap ((r:Int)*(n:Int))=((r*n:Nat):Int):=by
 have e:(r:Int)*(n:Int)=((r*n:Nat):Int):=by rw[Int.natCast_mul]
 rw[e,aA ((r*n:Nat):Int) (by omega) (by omega)]
theorem ZE {l:List Int}{v:Int}{Q:Bool->Prop}(hl:l.length<=1000000000000)(h:Q (decide (v∈l))):jF l v Q:=by
 refine⟨?_⟩
 refine⟨?_⟩
 refine⟨?_⟩
 refine Loop.range (B:=eL l v (l.length:Int) (fun _=>Q (decide ((0:Int) <= -1))) (fun y=>Q (decide (0<=y)))) (f:=fun i:Nat=>(i:Int)) l.length (fun i=>∀ j,j<i->v≠l.getD j 0) (fun j hj=>absurd hj (by omega)) ?_ ?_
 ·intro i hi hI X hX
  unfold eL
  rw[if_pos (by simpa using hi)]
  refine⟨by omega,?_⟩
  simp only[Int.toNat_natCast]
  by_cases hv:v=l.getD i 0
  ·rw[if_pos (by simpa using hv)]
   have:decide (v∈l)=true:=by rw[decide_eq_true_eq,hv];exact HB hi
   rw[this]at h
   rw[decide_eq_true (by omega:(0:Int)<=(i:Int))]
   exact h
  ·rw[if_neg (by simpa using hv),aA _ (by omega) (by omega)]
   refine hX fun j hj => ?_
   by_cases hji:j=i
   ·subst hji;exact hv
   ·exact hI j (by omega)
 ·intro hI X
  unfold eL
  rw[if_neg (by simp)]
  have:decide (v∈l)=false:=by
   simp only[decide_eq_false_iff_not]
   intro hm
   obtain⟨j,hj,e⟩:=List.getElem_of_mem hm
   apply hI j hj
   rw[List.getD_eq_getElem?_getD,List.getElem?_eq_getElem hj,<- e];rfl
  rw[this]at h
  exact h
def SF (a b:Int):Bool:=(decide ((IntKind.i64.wrap (0-b))<=a))&&(decide (a<=b))
theorem aDW {a b:Int}{Q:Bool->Prop}(h:Q (SF a b)):u9 a b Q:=⟨h⟩
def cL (a:T3):Bool:=((decide (0<szF a.1)&&((a.2.2.length:Int)==szF a.1))&&SF a.2.1 64) && !decide (-128∈a.2.2)
theorem kG {a:T3}{Q:Bool->Prop}(h:Q (cL a)):bD a Q:=by
 refine⟨?_⟩
 refine EL ?_
 refine tD (b:=decide (0<szF a.1)) (c:=(a.2.2.length:Int)==szF a.1) (fun _ P hp=>DP hp) (fun v2 e2 => ?_) rfl
 refine tD (c:=SF a.2.1 64) (fun _ P hp=>aDW hp) (fun v3 e3 => ?_) rfl
 refine tD (c := !decide (-128∈a.2.2)) (fun h3 P hp=>ZE (Q:=fun r=>P (!r)) ?_ hp) (fun v4 e4 => ?_) rfl
 ·rw[e3,e2]at h3
  simp only[Bool.and_eq_true,beq_iff_eq]at h3
  have:=GN a.1
  omega
 ·rw[e4,e3,e2]
  exact h
theorem YC {a:Int}{b:Int}(h1:0<=b)(h2:b<=1000):SF a b=true ↔ -b<=a/\a<=b:=by
 unfold SF
 rw[aA (0-b) (by omega) (by omega)]
 simp only[Bool.and_eq_true,decide_eq_true_eq]
 omega
theorem eK {a:T3}:cL a=true ↔ 0<szF a.1/\(a.2.2.length:Int)=szF a.1/\(-64<=a.2.1/\a.2.1<=64) /\ -128∉a.2.2:=by
 unfold cL
 rw[Bool.and_eq_true,Bool.and_eq_true,Bool.and_eq_true,YC (by omega) (by omega)]
 simp only[decide_eq_true_eq,beq_iff_eq,Bool.not_eq_true',decide_eq_false_iff_not]
 constructor
 ·rintro⟨⟨⟨h1,h2⟩,h3⟩,h4⟩;exact⟨h1,h2,h3,h4⟩
 ·rintro⟨h1,h2,h3,h4⟩;exact⟨⟨⟨h1,h2⟩,h3⟩,h4⟩
def iE:List Int->Int
 | []=>1
 | d::r=>d*iE r
theorem YP:∀ (l:List Int) (acc:Int),1<=acc->acc<=8192->0<rJ acc l->(∀ d∈l,1<=d/\d<=4096)/\rJ acc l=acc*iE l
 | [],acc,h,_,_=>⟨by simp,by simp[rJ,iE]⟩
 | d::r,acc,h,h2,h3=>by
   unfold rJ at h3⊢
   split at h3
   ·omega
   ·rename_i hn
    rw[if_neg hn]
    simp only[Bool.or_eq_true,decide_eq_true_eq,not_or]at hn
    have hb:=A6 acc d 8192 4096 (by omega) (by omega) (by omega) (by omega) (by omega)
    have hw:IntKind.i64.wrap (acc*d)=acc*d:=aA _ (by omega) (by omega)
    rw[hw]at h3 hn⊢
    have hp:1<=acc*d:=by
     have:=Int.mul_pos (show 0<acc by omega) (show 0<d by omega)
     omega
    obtain⟨g1,g2⟩:=YP r (acc*d) hp (by omega) h3
    refine⟨fun x hx => ?_,by rw[g2];show _=acc*(d*iE r);rw[Int.mul_assoc]⟩
    rcases List.mem_cons.1 hx with e|e
    ·subst e;omega
    ·exact g1 x e
theorem lT {l:List Int}(h:0<szF l):(1<=l.length/\l.length<=4)/\(∀ d∈l,1<=d/\d<=4096)/\szF l=iE l/\iE l<=8192:=by
 have hle:=GN l
 unfold szF at h hle⊢
 split at h
 ·omega
 ·rename_i hn
  rw[if_neg hn]at hle⊢
  simp only[Bool.or_eq_true,decide_eq_true_eq,not_or]at hn
  obtain⟨g1,g2⟩:=YP l 1 (by omega) (by omega) h
  rw[Int.one_mul]at g2
  exact⟨by omega,g1,g2,by omega⟩
theorem S5:∀ {l:List Int},(∀ d∈l,1<=d)->1<=iE l
 | [],_=>by simp[iE]
 | d::r,h=>by
   have h1:=h d (by simp)
   have h2:=S5 (l:=r) fun x hx=>h x (by simp[hx])
   have:=Int.mul_pos (show 0<d by omega) (show 0<iE r by omega)
   unfold iE;omega
theorem aBb:∀ (l:List Int) (acc:Int),1<=acc->(∀ d∈l,1<=d/\d<=4096)->acc*iE l<=8192->rJ acc l=acc*iE l
 | [],acc,h,_,_=>by simp[rJ,iE]
 | d::r,acc,h,hd,h2=>by
   have h1:=hd d (by simp)
   have hr:∀ x∈r,1<=x/\x<=4096:=fun x hx=>hd x (by simp[hx])
   have hp:=S5 (l:=r) fun x hx=>(hr x hx).1
   have e:acc*iE (d::r)=acc*d*iE r:=by show acc*(d*iE r)=_;rw[Int.mul_assoc]
   rw[e]at h2⊢
   have h0:1<=acc*d:=by
    have:=Int.mul_pos (show 0<acc by omega) (show 0<d by omega)
    omega
   have h3:acc*d<=acc*d*iE r:=by
    have:=Int.mul_le_mul_of_nonneg_left (c:=acc*d) hp (by omega)
    omega
   have hw:IntKind.i64.wrap (acc*d)=acc*d:=aA _ (by omega) (by omega)
   unfold rJ
   rw[hw,if_neg (by simp;omega)]
   exact aBb r (acc*d) h0 hr h2
theorem ZN {l:List Int}(h1:1<=l.length/\l.length<=4)(hd:∀ d∈l,1<=d/\d<=4096)(h2:iE l<=8192):szF l=iE l:=by
 unfold szF
 rw[if_neg (by simp;omega),aBb l 1 (by omega) hd (by omega),Int.one_mul]
theorem zV (l:List Int):0<=szF l:=by
 rcases Int.lt_or_le (szF l) 0 with h|h
 ·exfalso
  have key:∀ (l:List Int) (acc:Int),1<=acc->acc<=8192->0<=rJ acc l:=by
   intro l
   induction l with
   | nil=>intro acc h _;unfold rJ;omega
   | cons d r ih =>
     intro acc h h2
     unfold rJ
     split
     ·omega
     ·rename_i hn
      simp only[Bool.or_eq_true,decide_eq_true_eq,not_or]at hn
      have hb:=A6 acc d 8192 4096 (by omega) (by omega) (by omega) (by omega) (by omega)
      have hw:IntKind.i64.wrap (acc*d)=acc*d:=aA _ (by omega) (by omega)
      rw[hw]at hn⊢
      have:=Int.mul_pos (show 0<acc by omega) (show 0<d by omega)
      exact ih _ (by omega) (by omega)
  have:=key l 1 (by omega) (by omega)
  unfold szF at h
  split at h <;> omega
 ·exact h
theorem aC6 {a b c d:Int}(h:0<szF [a,b,c,d]):∃ n m p q:Nat,a=n/\b=m/\c=p/\d=q/\1<=n/\1<=m/\1<=p/\1<=q/\n*m*p*q<=8192/\szF [a,b,c,d]=((n*m*p*q:Nat):Int):=by
 obtain⟨_,h2,h3,h4⟩:=lT h
 have ha:=h2 a (by simp)
 have hb:=h2 b (by simp)
 have hc:=h2 c (by simp)
 have hd:=h2 d (by simp)
 obtain⟨n,rfl⟩:=Int.eq_ofNat_of_zero_le (show 0<=a by omega)
 obtain⟨m,rfl⟩:=Int.eq_ofNat_of_zero_le (show 0<=b by omega)
 obtain⟨p,rfl⟩:=Int.eq_ofNat_of_zero_le (show 0<=c by omega)
 obtain⟨q,rfl⟩:=Int.eq_ofNat_of_zero_le (show 0<=d by omega)
 have e:iE [(n:Int),m,p,q]=((n*m*p*q:Nat):Int):=by
  simp only[iE,Int.natCast_mul,Int.mul_one,Int.mul_assoc]
 rw[h3]
 rw[e]at h4⊢
 exact⟨n,m,p,q,rfl,rfl,rfl,rfl,by omega,by omega,by omega,by omega,by omega,rfl⟩
theorem aEq {n m p q:Nat}(h1:1<=n/\n<=4096)(h2:1<=m/\m<=4096)(h3:1<=p/\p<=4096)(h4:1<=q/\q<=4096)(h:n*m*p*q<=8192):szF [(n:Int),m,p,q]=((n*m*p*q:Nat):Int):=by
 have e:iE [(n:Int),m,p,q]=((n*m*p*q:Nat):Int):=by
  simp only[iE,Int.natCast_mul,Int.mul_one,Int.mul_assoc]
 rw[ZN (by simp) _ (by rw[e];omega),e]
 intro d hd
 simp only[List.mem_cons,List.not_mem_nil,or_false]at hd
 omega
theorem aFK {c:Int}(h:0<szF [c]):1<=c/\c<=4096/\szF [c]=c:=by
 obtain⟨_,h2,h3,h4⟩:=lT h
 have:=h2 c (by simp)
 have e:iE [c]=c:=by simp[iE]
 rw[h3,e]
 omega
theorem aE4 {c:Int}(h1:1<=c)(h2:c<=4096):szF [c]=c:=by
 have e:iE [c]=c:=by simp[iE]
 rw[ZN (by simp) _ (by rw[e];omega),e]
 intro d hd
 simp only[List.mem_cons,List.not_mem_nil,or_false]at hd
 omega
def CM (a:Int):Int:=aM (-4611686018427387904) (bQ a 4611686018427387904)
theorem aBG {a b c:Int}{Q:Int->Prop}(h:Q (aM b (bQ a c))):iF a b c Q:=⟨h⟩
theorem U4 {a b c:Int}{Q:Int->Prop}(h:Q (aM b (bQ a c))):fL a b c Q:=⟨h⟩
theorem aBD {a:Int}{Q:Int->Prop}(h:Q (CM a)):pY a Q:=⟨⟨h⟩⟩
theorem aFW {a:Int}(h1 : -4611686018427387904<=a)(h2:a<=4611686018427387904):CM a=a:=by
 unfold CM aM bQ
 split <;> split <;> omega
def alF (a b c:Int):Int :=
 let r1:=CM a
 let by_:=aM (-1000) (bQ b 1000)-aM (-1000) (bQ c 1000)
 if by_<0 then r1.fdiv (2 ^ (bQ (0-by_) 62).toNat)
 else if 20<by_ then(if 0<r1 then 1048576 else if r1<0 then -1048576 else 0)
 else aM (-1048576) (bQ (aM (-1048576) (bQ r1 1048576)*2 ^ by_.toNat) 1048576)
theorem RF (a lo hi:Int)(h:lo<=hi):lo<=aM lo (bQ a hi)/\aM lo (bQ a hi)<=hi:=by
 unfold aM bQ
 split <;> split <;> omega
theorem aB3 (a b:Nat)(h:a<=b):(1:Int)<=2 ^ a/\(2:Int) ^ a<=2 ^ b:=by
 have h1:(2:Nat) ^ a<=2 ^ b:=Nat.pow_le_pow_right (by omega) h
 have h2:0<(2:Nat) ^ a:=Nat.pow_pos (by omega)
 have e:∀ n:Nat,((2 ^ n:Nat):Int)=2 ^ n:=fun n=>by rw[Int.natCast_pow];rfl
 rw[<- e,<- e]
 omega
theorem aCv {a L U p:Int}(hp:1<=p)(hL:L<=0)(hU:0<=U)(h1:L<=a)(h2:a<=U):L<=a.fdiv p/\a.fdiv p<=U:=by
 rw[Int.fdiv_eq_ediv_of_nonneg _ (by omega)]
 constructor
 ·rw[Int.le_ediv_iff_mul_le (by omega)]
  have:L*p<=L*1:=Int.mul_le_mul_of_nonpos_left hL hp
  omega
 ·have:=Int.ediv_le_ediv (c:=p) (by omega) h2
  have:=Int.ediv_le_self (a:=U) p hU
  omega
theorem UK {a b c:Int}(h : -128<=a/\a<=127) : -1048576<=alF a b c/\alF a b c<=1048576:=by
 unfold alF
 rw[aFW (by omega) (by omega)]
 simp only
 generalize aM (-1000) (bQ b 1000)-aM (-1000) (bQ c 1000)=y
 split
 ·have:=aCv (p:=2 ^ (bQ (0-y) 62).toNat) (aB3 _ _ (Nat.le_refl _)).1 (by omega) (by omega) h.1 h.2
  omega
 ·split
  ·split
   ·omega
   ·split <;> omega
  ·exact RF _ _ _ (by omega)
theorem aEc {a b c:Int}{Q:Int->Prop}(h:Q (alF a b c)):qE a b c Q:=by
 refine⟨?_⟩
 refine aBD (aBG (aBG ?_))
 unfold alF at h
 simp only at h
 have hb:=RF b (-1000) 1000 (by omega)
 have hc:=RF c (-1000) 1000 (by omega)
 generalize aM (-1000) (bQ b 1000)=x at *
 generalize aM (-1000) (bQ c 1000)=y at *
 rw[aA (x-y) (by omega) (by omega)]
 by_cases h1:x-y<0
 ·rw[if_pos h1]at h
  rw[if_pos (by simpa using h1),aA (0-(x-y)) (by omega) (by omega)]
  have hs:0<=bQ (0-(x-y)) 62/\bQ (0-(x-y)) 62<=62:=by unfold bQ;split <;> omega
  refine⟨hs.1,?_⟩
  rw[show min (bQ (0-(x-y)) 62).toNat (IntKind.i64).bits=(bQ (0-(x-y)) 62).toNat from Nat.min_eq_left (by show _<=64;omega)]
  exact h
 ·rw[if_neg h1]at h
  rw[if_neg (by simpa using h1)]
  by_cases h2:20<x-y
  ·rw[if_pos h2]at h
   by_cases h3:0<CM a
   ·rw[if_pos h3]at h
    rw[if_pos (by simp[h2,h3])]
    exact h
   ·rw[if_neg h3]at h
    rw[if_neg (by simp;omega)]
    by_cases h4:CM a<0
    ·rw[if_pos h4]at h
     rw[if_pos (by simp[h2,h4])]
     exact h
    ·rw[if_neg h4]at h
     rw[if_neg (by simp;omega),if_pos (by simp[h2])]
     exact h
  ·rw[if_neg h2]at h
   rw[if_neg (by simp;omega),if_neg (by simp;omega),if_neg (by simp;omega)]
   refine U4 ⟨by omega,U4 ?_⟩
   have hm:=RF (CM a) (-1048576) 1048576 (by omega)
   have hp:=aB3 (x-y).toNat 20 (by omega)
   have:=A6 (aM (-1048576) (bQ (CM a) 1048576)) (2 ^ (x-y).toNat) 1048576 1048576 hm.1 hm.2 (by omega) hp.2 (by omega)
   rw[show min (x-y).toNat (IntKind.i64).bits=(x-y).toNat from Nat.min_eq_left (by show _<=64;omega)]
   rw[aA _ (by omega) (by omega)]
   exact h
def kI (n:Int):Bool:=(decide (0<=n)&&decide (n<=1023))&&decide (n*16384+1048576<16777216)
theorem QE {n:Int}{Q:Bool->Prop}(h:Q (kI n)):pW n Q:=by
 refine⟨?_⟩
 unfold kI at h
 by_cases h1:0<=n/\n<=1023
 ·rw[aA (n*16384) (by omega) (by omega),aA _ (by omega) (by omega)]
  exact h
 ·have e:(decide (0<=n)&&decide (n<=1023))=false:=by simp;omega
  rw[e]at h⊢
  exact h
theorem aBj {n:Int}:kI n=true ↔ 0<=n/\n<=959:=by
 unfold kI
 simp only[Bool.and_eq_true,decide_eq_true_eq]
 omega
def qA (d:List Int)(e n:Int):T3×Int :=
 if (!kI n)=true then(Z3,3)
 else if (decide (e < -128)||decide (128<e))=true then(Z3,3)
 else if (!decide (0<szF d))=true then(Z3,1)
 else((d,(e,List.replicate (szF d).toNat 0)),0)
theorem NU {n e:Int}{d:List Int}{Q:T3×Int->Prop}(h:Q (qA d e n)):sN n e d Q:=by
 refine⟨?_⟩
 refine QE ?_
 unfold qA at h
 by_cases h1:(!kI n)=true
 ·rw[if_pos h1]at h;rw[if_pos (by rw[h1];rfl)];exact h
 ·rw[if_neg h1]at h
  by_cases h2:(decide (e < -128)||decide (128<e))=true
  ·rw[if_pos h2]at h
   rw[if_pos (by simp only[Bool.or_eq_true,decide_eq_true_eq]at h2⊢;rcases h2 with h2|h2 <;> simp[h2])]
   exact h
  ·rw[if_neg h2]at h
   rw[if_neg (by simp only[Bool.or_eq_true,decide_eq_true_eq,not_or]at h1 h2⊢;exact⟨⟨h1,h2.2⟩,h2.1⟩)]
   refine EL ?_
   by_cases h3:(!decide (0<szF d))=true
   ·rw[if_pos h3]at h⊢;exact h
   ·rw[if_neg h3]at h⊢
    have:=GN d
    have:=zV d
    exact DP ⟨⟨by omega,by omega⟩,h⟩
theorem vP {d:List Int}{e n:Int}(h:(qA d e n).2=0):kI n=true/\(-128<=e/\e<=128)/\0<szF d/\qA d e n=((d,(e,List.replicate (szF d).toNat 0)),0):=by
 unfold qA at h⊢
 split at h
 ·cases h
 ·split at h
  ·cases h
  ·split at h
   ·cases h
   ·rename_i h1 h2 h3
    rw[if_neg h1,if_neg h2,if_neg h3]
    simp at h1 h2 h3
    exact⟨h1,by omega,by omega,rfl⟩
def jE (l:List T3):Int:=if l.all cL=true then(if l.all (fun t=>(t.1.length:Int)==4)=true then 0 else 2)else 1
theorem VL {l:List T3}{Q:Int->Prop}(hl:l.length<=1000000)(h:Q (jE l)):zK l Q:=by
 refine⟨?_⟩
 unfold jE at h
 refine⟨?_⟩
 refine Loop.all (B:=sQ l (l.length:Int) _ _) l cL (K0:=Q (if l.all (fun t=>(t.1.length:Int)==4)=true then 0 else 2)) (K1:=Q 1) ?_ ?_ ?_
 ·intro i hi X hX hK
  unfold sQ
  rw[if_pos (by simpa using hi)]
  refine⟨by omega,kG ?_⟩
  simp only[Int.toNat_natCast]
  have hg:l.getD i ([],0,[])=l[i]:=by rw[List.getD_eq_getElem?_getD,List.getElem?_eq_getElem hi];rfl
  rw[hg]
  by_cases hm:cL l[i]=true
  ·rw[if_neg (by simp[hm]),aA _ (by omega) (by omega)]
   exact hX hm
  ·have hm:cL l[i]=false:=by simpa using hm
   rw[if_pos (by simp[hm])]
   exact hK hm
 ·intro hK X
  unfold sQ
  rw[if_neg (by simp)]
  refine⟨?_⟩
  refine Loop.all (B:=sP l (l.length:Int) _ _) l (fun t=>(t.1.length:Int)==4) (K0:=Q 0) (K1:=Q 2) ?_ ?_ ?_
  ·intro i hi X hX hK
   unfold sP
   rw[if_pos (by simpa using hi)]
   refine⟨by omega,?_⟩
   simp only[Int.toNat_natCast]
   have hg:l.getD i ([],0,[])=l[i]:=by rw[List.getD_eq_getElem?_getD,List.getElem?_eq_getElem hi];rfl
   rw[hg]
   unfold bne
   by_cases hm:((l[i].1.length:Int)==4)=true
   ·rw[if_neg (by simp[hm]),aA _ (by omega) (by omega)]
    exact hX hm
   ·have hm:((l[i].1.length:Int)==4)=false:=by simpa using hm
    rw[if_pos (by simp[hm])]
    exact hK hm
  ·intro hK X
   unfold sP
   rw[if_neg (by simp)]
   exact hK
  ·split <;> rename_i hh <;> simp only[hh]at hK <;> simpa using hK
 ·split <;> rename_i hh <;> simp only[hh]at h <;> simpa using h
theorem aA6 {a b k s p:Int}{Q:((Int×Int×Int×Int×Int×Int×Int)×Bool)->Prop}(h:Q ((a,(b,(k,(s,(p,(aL a k s p,aL b k s p)))))),(decide (0<aL a k s p))&&(decide (0<aL b k s p)))):yR a b k s p Q:=by
 refine⟨?_⟩
 exact F3 (F3 h)
end Go.Proofs.YtcfpfefadlnmcaaGreat
